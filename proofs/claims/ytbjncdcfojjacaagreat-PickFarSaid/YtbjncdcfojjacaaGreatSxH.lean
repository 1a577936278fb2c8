/- The evaluator: building, loading, storing. -/
import Derived.Test.YtbjncdcfojjacaaGreatSxG
namespace Go.Sx
open Go Go.RowKit

theorem reps_get (l : List Value) : ∀ (n i : Nat), (reps l n)[i]? = if i < n * l.length then l[i % l.length]? else none
  | 0, i => by simp [reps]
  | n + 1, i => by
    have hm : (n + 1) * l.length = n * l.length + l.length := Nat.succ_mul _ _
    simp only [reps]
    by_cases hi : i < l.length
    · rw [List.getElem?_append_left hi, if_pos (by rw [hm]; omega), Nat.mod_eq_of_lt hi]
    · rw [List.getElem?_append_right (by omega), reps_get l n]
      by_cases h2 : i - l.length < n * l.length
      · rw [if_pos h2, if_pos (by rw [hm]; omega)]
        congr 1
        rw [← Nat.mod_eq_sub_mod (by omega)]
      · rw [if_neg h2, if_neg (by rw [hm]; omega)]
theorem reps_length (l : List Value) : ∀ n, (reps l n).length = n * l.length
  | 0 => by simp [reps]
  | n + 1 => by simp [reps, reps_length l n, Nat.succ_mul, Nat.add_comm]
/-- zeroes in a row, as the model makes them -/
theorem zeros_all2 {ρ : Ren} {z : Value} (hz : flatZ z = true) (n m : Nat) (hm : m = n * z.cells.size) :
    All2 (VR ρ) (reps z.cells.toList n) ((Array.range m).map (z.cells[· % z.cells.size]!)).toList := by
  have hf := flatL_ren ρ _ (flat_cells hz)
  refine All2.of_get (by simp [reps_length, hm]) fun i x hx => ?_
  rw [reps_get] at hx
  split at hx
  · rename_i hi
    simp only [Array.length_toList] at hi hx
    obtain ⟨y, e, r⟩ := hf.get _ _ hx
    have hpos : 0 < z.cells.size := by rcases Nat.eq_zero_or_pos z.cells.size with h | h; · rw [h] at hi; simp at hi
                                       · exact h
    have hlt : i % z.cells.size < z.cells.size := Nat.mod_lt _ hpos
    refine ⟨y, ?_, r⟩
    have hi' : i < m := by omega
    simp only [Array.toList_map, Array.toList_range, List.getElem?_map, List.getElem?_range hi', Option.map_some]
    rw [← e]
    simp [hlt]
  · cases hx

section
variable {E : Env} {P : Program} {o : Oper} {a : Act} {B lim N : Nat} {hp : Hp} {nx : Nat} {ρ : Ren} {w : World} {tm : T}
theorem run_build_array (hE : EnvOk E P) {t e : TypeId} {k n : Nat} {z : Value} {l : List (Nat × Value)} {parts : Array (Nat × Value)} {c : List Value} (hz : E.zero t = some z) (hu : E.und t = some (.array k e)) (hn : E.size e = some n)
    (hp : All2P ρ l parts.toList) (hf : fillAt (fun i => some (i * n, n)) z.cells.toList l = some c) : ∃ c', (Instr.build t parts).run P w = .ok (.agg ⟨c'⟩) w ∧ All2 (VR ρ) c c' := by
  obtain ⟨cs', e1, e2⟩ := fill_ok l parts.toList z.cells.toList c z.cells hf hp (flatL_ren ρ _ (flat_cells (hE.zflat hz)))
  refine ⟨cs'.toList, ?_, e2⟩
  unfold Instr.build
  simp only [Sem.run_bind, hE.run_zero hz, Result.andThen_ok, hE.run_und hu, hE.size hn, e1]
  rfl
theorem op_build (hE : EnvOk E P) (hr : HRel P B lim hp nx ρ w) (ht : TRel N ρ tm a.tmps) {t : TypeId} {ps : Array (Nat × Operand)} {n : ANext} {e : Eff} (ho : o.op = .build t ps)
    (h : opA E P tm hp nx o = some (n, e)) : OpDone P o a B lim hp nx ρ w n e := by
  simp only [opA, ho, Option.bind_eq_some_iff] at h
  obtain ⟨l, hl, z, hz, h⟩ := h
  have hpa := evParts_ok ht hl
  have hrun : ∀ v, (Instr.build t (ps.map fun (i, x) => (i, a.eval x))).run P w = .ok v w → (execOp a.eval o).run P w = .ok (.value v) w := fun v hv => by
    unfold execOp; simp only [ho, Sem.run_bind]
    rw [hv]; rfl
  have hpl : All2P ρ l (ps.map fun (i, x) => (i, a.eval x)).toList := by rw [Array.toList_map]; exact hpa
  split at h
  · rename_i fs hu
    simp only [Option.bind_eq_some_iff, Option.some.injEq, Prod.mk.injEq] at h
    obtain ⟨c, hc, rfl, rfl⟩ := h
    obtain ⟨c', e1, e2⟩ := run_build_struct (w := w) hE hz hu hpl hc
    exact done_value hr (hrun _ e1) (VR.mkAgg e2)
  · rename_i k el hu
    simp only [Option.bind_eq_some_iff, Option.some.injEq, Prod.mk.injEq] at h
    obtain ⟨n, hn, c, hc, rfl, rfl⟩ := h
    obtain ⟨c', e1, e2⟩ := run_build_array (w := w) hE hz hu hn hpl hc
    exact done_value hr (hrun _ e1) (VR.mkAgg e2)
  · cases h
theorem op_buildSlice (hE : EnvOk E P) (hr : HRel P B lim hp nx ρ w) (hl : nx < lim) (ht : TRel N ρ tm a.tmps) {t : TypeId} {k : Nat} {ps : Array (Nat × Operand)} {n : ANext} {e : Eff} (ho : o.op = .buildSlice t k ps)
    (h : opA E P tm hp nx o = some (n, e)) : OpDone P o a B lim hp nx ρ w n e := by
  simp only [opA, ho, Option.bind_eq_some_iff] at h
  obtain ⟨l, hev, h⟩ := h
  have hpa := evParts_ok ht hev
  have hpl : All2P ρ l (ps.map fun (i, x) => (i, a.eval x)).toList := by rw [Array.toList_map]; exact hpa
  split at h
  · rename_i el hu
    simp only [Option.bind_eq_some_iff] at h
    obtain ⟨sz, hsz, z, hz, h⟩ := h
    split at h
    · rename_i hle
      simp only [Option.bind_eq_some_iff, Option.some.injEq, Prod.mk.injEq] at h
      obtain ⟨c, hc, rfl, rfl⟩ := h
      have hzs := hE.zsize hz hsz
      have hall := zeros_all2 (ρ := ρ) (hE.zflat hz) k (k * sz) (by rw [hzs])
      obtain ⟨cs', e1, e2⟩ := fill_ok l _ _ c ((Array.range (k * sz)).map (z.cells[· % z.cells.size]!)) hc hpl hall
      obtain ⟨g1, g2⟩ := all2_cells e2
      obtain ⟨r1, r2, r3⟩ := newcells_rel (w' := w.alloc (.cells cs' el)) (cap := 0) hr hl rfl rfl rfl rfl g1 (.inl rfl) g2
      refine ⟨_, _, r1, r2, .slice (some ⟨w.heap.size, 0, none⟩) k k, ?_, VR.mkExact (o := 0) (Ren.put_same _ _ _) (Nat.le_refl _)⟩
      unfold execOp
      simp only [ho, Instr.buildSlice, Sem.run_bind, hE.run_und hu, Result.andThen_ok, hE.size hsz]
      rw [if_neg (by omega)]
      by_cases h0 : k * sz = 0
      · rw [h0, Array.range_zero', Array.map_empty] at e1
        simp only [h0, if_true, Sem.run_bind, Sem.run_pure, Result.andThen_ok, Array.range_zero', Array.map_empty, e1]
        rfl
      · simp only [h0, if_false, Sem.run_bind, hE.run_zero hz, Result.andThen_ok, Sem.run_pure, e1]
        rfl
    · cases h
  · cases h
theorem op_load (hE : EnvOk E P) (hr : HRel P B lim hp nx ρ w) (ht : TRel N ρ tm a.tmps) {t : TypeId} {x : Operand} {n : ANext} {e : Eff} (ho : o.op = .load t x)
    (h : opA E P tm hp nx o = some (n, e)) : OpDone P o a B lim hp nx ρ w n e := by
  simp only [opA, ho, Option.bind_eq_some_iff] at h
  obtain ⟨v, hv, h⟩ := h
  have hx := ev_ok ht hv
  split at h
  · rename_i ad
    obtain ⟨p, hp0, hs, hax⟩ := hx.pointer
    simp only [Option.bind_eq_some_iff] at h
    obtain ⟨g, hg, h⟩ := h
    cases g with
    | true =>
      simp only [Option.bind_eq_some_iff, Option.some.injEq, Prod.mk.injEq] at h
      obtain ⟨m, hm, l, hl, rfl, rfl⟩ := h
      obtain ⟨l', e1, e2, e3⟩ := hread_ok hr hl hp0
      refine done_value hr (v' := .agg ⟨l'⟩) ?_ (VR.mkAgg e1)
      have hc := run_loadCells_list (P := P) (w := w) _ l' e3
      rw [e2] at hc
      unfold execOp
      simp only [ho, hax, Instr.loadAt, Instr.sureAddr, loadVar, Sem.run_bind, Sem.run_pure, Result.andThen_ok, hE.agg hg, if_true, hE.size hm, hc]
    | false =>
      simp only [Option.bind_eq_some_iff] at h
      obtain ⟨l, hl, h⟩ := h
      obtain ⟨l', e1, e2, e3⟩ := hread_ok hr hl hp0
      cases l with
      | nil => simp [val] at h
      | cons u us =>
        simp [val] at h
        obtain ⟨rfl, rfl⟩ := h
        cases l' with
        | nil => exact e1.elim
        | cons u' us' =>
          refine done_value hr (v' := u') ?_ e1.1
          have hc := e3 0 u' rfl
          rw [add_mk] at hc
          unfold execOp
          simp only [ho, hax, Instr.loadAt, Instr.sureAddr, loadVar, Sem.run_bind, Sem.run_pure, Result.andThen_ok, hE.agg hg, Bool.false_eq_true, if_false, run_load]
          rw [show (⟨p.1.block, p.1.off + ad.off, none⟩ : Addr) = ⟨p.1.block, p.1.off + ad.off + 0, none⟩ from rfl, hc]
          rfl
  · cases h
theorem op_store (hE : EnvOk E P) (hr : HRel P B lim hp nx ρ w) (ht : TRel N ρ tm a.tmps) {t : TypeId} {x y : Operand} {n : ANext} {e : Eff} (ho : o.op = .store t x y)
    (h : opA E P tm hp nx o = some (n, e)) : OpDone P o a B lim hp nx ρ w n e := by
  simp only [opA, ho, Option.bind_eq_some_iff] at h
  obtain ⟨v, hv, h⟩ := h
  have hx := ev_ok ht hv
  split at h
  · rename_i ad
    obtain ⟨p, hp0, hs, hax⟩ := hx.pointer
    simp only [Option.bind_eq_some_iff] at h
    obtain ⟨u, hu, m, hm, h⟩ := h
    have hy := ev_ok ht hu
    split at h
    · rename_i hsz
      simp only [Option.bind_eq_some_iff, Option.some.injEq, Prod.mk.injEq] at h
      obtain ⟨ob, hw, rfl, rfl⟩ := h
      unfold hwrite at hw
      split at hw
      · rename_i c el hc
        split at hw
        · rename_i h1
          simp only [Option.bind_eq_some_iff, Option.some.injEq] at hw
          obtain ⟨c', hset, rfl⟩ := hw
          have hyc := hy.cells
          obtain ⟨w', e1, e2, e3⟩ := laid_ok (P := P) hr hc hset h1 hp0 hyc
          refine ⟨ρ, w', e2, e3, ?_⟩
          have hl := hyc.length
          simp only [Array.length_toList] at hl
          show (execOp a.eval o).run P w = .ok .skip w'
          unfold execOp
          simp only [ho, hax, Instr.storeAt, Instr.sureAddr, storeVar, Sem.run_bind, Sem.run_pure, Result.andThen_ok, hE.size hm]
          rw [if_neg (by omega), e1]
          rfl
        · cases hw
      · cases hw
    · cases h
  · cases h
end
end Go.Sx
