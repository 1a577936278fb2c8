/- The evaluator: operations on the heap's cells. -/
import Derived.Test.YtbjncdcfojjacaaGreatSxF
namespace Go.Sx
open Go Go.RowKit

section
variable {E : Env} {P : Program} {o : Oper} {a : Act} {B lim N : Nat} {hp : Hp} {nx : Nat} {ρ : Ren} {w : World} {tm : T}

/-- a new row of cells -/
theorem newcells_rel (hr : HRel P B lim hp nx ρ w) (hl : nx < lim) {w' : World} {cur : Array Value} {e : TypeId} {c : List Value} {cap : Nat}
    (hw : w'.heap = w.heap.push (.cells cur e (0, 0))) (h1 : w'.os = w.os) (h2 : w'.tape = w.tape) (h3 : w'.output = w.output)
    (hlen : c.length ≤ cur.size) (hcap : cap = 0 ∨ (c.length ≤ cap * P.cellsOf e ∧ cap * P.cellsOf e ≤ cur.size)) (hc : ∀ (i : Nat) (v : Value), c[i]? = some v → ∃ v' : Value, cur[i]? = some v' ∧ VR ρ v v') :
    HRel P B lim (over hp nx (some (.cells c e true))) (nx + 1) (ρ.put nx (⟨w.heap.size, 0, none⟩, cap)) w' ∧
    Step hp (over hp nx (some (.cells c e true))) nx (nx + 1) ρ (ρ.put nx (⟨w.heap.size, 0, none⟩, cap)) w w' ∧ ρ.le (ρ.put nx (⟨w.heap.size, 0, none⟩, cap)) := by
  obtain ⟨g1, g2⟩ := rel_new (c := cap) (o := .cells c e true) hr hl hw h1 h2 h3 fun ρ' hle hn =>
    ⟨_, hn, rfl, hr.base, cur, by rw [hw]; simp, by simpa using hlen, fun i v hv => by
      obtain ⟨v', e1, e2⟩ := hc i v hv
      exact ⟨v', by simpa using e1, e2.mono hle⟩, by simpa using hcap⟩
  exact ⟨g1, g2, g2.le⟩
theorem all2_cells {ρ : Ren} {c : List Value} {cur : Array Value} (h : All2 (VR ρ) c cur.toList) : c.length ≤ cur.size ∧ ∀ (i : Nat) (v : Value), c[i]? = some v → ∃ v' : Value, cur[i]? = some v' ∧ VR ρ v v' :=
  ⟨by have := h.length; simp at this; omega, fun i v hv => let ⟨y, e, r⟩ := h.get i v hv; ⟨y, by simpa using e, r⟩⟩

theorem op_alloc (hE : EnvOk E P) (hr : HRel P B lim hp nx ρ w) (hl : nx < lim) {e : TypeId} {z : Value} (ho : o.op = .alloc e) (hz : E.zero e = some z) :
    OpDone P o a B lim hp nx ρ w (.value (ptrTo nx)) (.new (.cells z.cells.toList e true)) := by
  obtain ⟨h1, h2⟩ := all2_cells (cur := z.cells) (flatL_ren ρ _ (flat_cells (hE.zflat hz)))
  obtain ⟨g1, g2, g3⟩ := newcells_rel (w' := w.alloc (.cells z.cells e)) (cap := 0) hr hl rfl rfl rfl rfl h1 (.inl rfl) h2
  refine ⟨_, _, g1, g2, .pointer (some ⟨w.heap.size, 0, none⟩), ?_, VR.mkPtr (o := 0) (Ren.put_same _ _ _)⟩
  unfold execOp
  simp [ho, Instr.alloc, hE.run_zero hz, newVar, newRow]
theorem op_box (hr : HRel P B lim hp nx ρ w) (hl : nx < lim) {e : TypeId} {x : Operand} {v : Value} (ho : o.op = .box e x) (hv : VR ρ v (a.eval x)) :
    OpDone P o a B lim hp nx ρ w (.value (ptrTo nx)) (.new (.cells v.cells.toList e true)) := by
  obtain ⟨h1, h2⟩ := all2_cells (cur := (a.eval x).cells) hv.cells
  obtain ⟨g1, g2, g3⟩ := newcells_rel (w' := w.alloc (.cells (a.eval x).cells e)) (cap := 0) hr hl rfl rfl rfl rfl h1 (.inl rfl) h2
  refine ⟨_, _, g1, g2, .pointer (some ⟨w.heap.size, 0, none⟩), ?_, VR.mkPtr (o := 0) (Ren.put_same _ _ _)⟩
  unfold execOp
  simp [ho, Instr.box, newVar, newRow]

/-- parts filled in -/
def All2P (ρ : Ren) : List (Nat × Value) → List (Nat × Value) → Prop
  | [], [] => True
  | x :: xs, y :: ys => x.1 = y.1 ∧ VR ρ x.2 y.2 ∧ All2P ρ xs ys
  | _, _ => False
theorem evParts_ok (ht : TRel N ρ tm a.tmps) : ∀ {ps : List (Nat × Operand)} {l : List (Nat × Value)}, evParts tm ps = some l → All2P ρ l (ps.map fun (i, x) => (i, a.eval x))
  | [], l, h => by simp [evParts] at h; subst h; trivial
  | (i, x) :: ps, l, h => by
    simp only [evParts, Option.bind_eq_some_iff] at h
    obtain ⟨v, h1, r, h2, h3⟩ := h
    simp at h3; subst h3
    exact ⟨rfl, ev_ok ht h1, evParts_ok ht h2⟩
theorem setFold (off : Nat) : ∀ (vs : List Value) (j : Nat) (cs : Array Value), off + j + vs.length ≤ cs.size →
    ((vs.zipIdx j).foldl (fun cs (p : Value × Nat) => cs.setIfInBounds (off + p.2) p.1) cs).size = cs.size ∧
    ∀ i, ((vs.zipIdx j).foldl (fun cs (p : Value × Nat) => cs.setIfInBounds (off + p.2) p.1) cs)[i]? = if off + j ≤ i ∧ i < off + j + vs.length then vs[i - (off + j)]? else cs[i]?
  | [], j, cs, _ => ⟨rfl, fun i => by rw [if_neg (by simp)]; rfl⟩
  | v :: vs, j, cs, h => by
    simp only [List.length_cons] at h
    obtain ⟨h1, h2⟩ := setFold off vs (j + 1) (cs.setIfInBounds (off + j) v) (by simp; omega)
    simp only [List.zipIdx_cons, List.foldl_cons]
    refine ⟨by rw [h1]; simp, fun i => ?_⟩
    rw [h2 i]
    simp only [List.length_cons]
    by_cases e : i = off + j
    · subst e
      rw [if_neg (by omega), if_pos (by omega)]
      rw [Array.getElem?_setIfInBounds]
      simp; omega
    · by_cases hh : off + (j + 1) ≤ i ∧ i < off + (j + 1) + vs.length
      · rw [if_pos hh, if_pos (by omega)]
        obtain ⟨m, hm⟩ : ∃ m, i - (off + j) = m + 1 := ⟨i - (off + j) - 1, by omega⟩
        rw [hm, List.getElem?_cons_succ]; congr 1; omega
      · rw [if_neg hh, if_neg (by omega), Array.getElem?_setIfInBounds_ne (by omega)]
theorem fill_ok {ρ : Ren} {places : Nat → Option (Nat × Nat)} : ∀ (l l' : List (Nat × Value)) (c c' : List Value) (cs : Array Value), fillAt places c l = some c' → All2P ρ l l' → All2 (VR ρ) c cs.toList →
    ∃ cs', Instr.fill places cs l' = some cs' ∧ All2 (VR ρ) c' cs'.toList
  | [], [], c, c', cs, h, _, hc => by simp [fillAt] at h; subst h; exact ⟨cs, rfl, hc⟩
  | [], _ :: _, _, _, _, _, h, _ => h.elim
  | _ :: _, [], _, _, _, _, h, _ => h.elim
  | (i, v) :: l, (i', v') :: l', c, c', cs, h, hl, hc => by
    obtain ⟨hi, hv, hrest⟩ := hl
    dsimp only at hi hv
    subst hi
    simp only [fillAt, Option.bind_eq_some_iff] at h
    obtain ⟨⟨off, size⟩, hp, h⟩ := h
    dsimp only at h
    split at h
    · rename_i hsz
      simp only [Option.bind_eq_some_iff] at h
      obtain ⟨c1, hs, h⟩ := h
      have hvc := hv.cells
      have hvl := hvc.length
      simp only [Array.length_toList] at hvl
      obtain ⟨s1, s2, s3⟩ := setAt_some _ _ _ _ hs
      have hcl := hc.length
      simp only [Array.length_toList] at hcl s1
      obtain ⟨f1, f2⟩ := setFold off v'.cells.toList 0 cs (by simp; omega)
      simp only [Nat.add_zero] at f1 f2
      have hfold : (v'.cells.zipIdx.foldl (fun cs (p : Value × Nat) => cs.setIfInBounds (off + p.2) p.1) cs) = ((v'.cells.toList.zipIdx 0).foldl (fun cs (p : Value × Nat) => cs.setIfInBounds (off + p.2) p.1) cs) := by
        rw [← Array.foldl_toList, Array.toList_zipIdx]
      have := fill_ok l l' c1 c' (v'.cells.zipIdx.foldl (fun cs (p : Value × Nat) => cs.setIfInBounds (off + p.2) p.1) cs) h hrest (by
        rw [hfold]
        refine All2.of_get (by simp only [Array.length_toList]; rw [f1, s2, hcl]) fun j x hx => ?_
        rw [s3 j] at hx
        simp only [Array.getElem?_toList]
        rw [f2 j]
        simp only [Array.length_toList] at hx ⊢
        by_cases hh : off ≤ j ∧ j < off + v.cells.size
        · rw [if_pos hh] at hx
          rw [if_pos (by omega)]
          exact hvc.get _ _ hx
        · rw [if_neg hh] at hx
          rw [if_neg (by omega)]
          have := hc.get _ _ hx
          simpa using this)
      obtain ⟨cs', e1, e2⟩ := this
      refine ⟨cs', ?_, e2⟩
      simp only [Instr.fill, hp]
      rw [if_neg (by simp only [Bool.or_eq_true, decide_eq_true_eq, not_or]; constructor <;> omega)]
      exact e1
    · cases h
theorem run_mapM_places (hE : EnvOk E P) (w : World) : ∀ (l : List Field), (∀ f ∈ l, (E.size f.type).isSome) → ∃ r : List (Nat × Nat), (l.mapM fun (f : Field) => (do pure (f.offset, ← sizeOf f.type) : Sem (Nat × Nat))).run P w = .ok r w ∧
    ∀ i : Nat, r[i]? = (l[i]?).bind fun (f : Field) => (E.size f.type).bind fun n => some (f.offset, n)
  | [], _ => ⟨[], by simp, fun i => by simp⟩
  | f :: l, h => by
    obtain ⟨r, h1, h2⟩ := run_mapM_places hE w l fun g hg => h g (List.mem_cons_of_mem _ hg)
    have hf := h f (List.mem_cons_self)
    cases hn : E.size f.type with
    | none => simp [hn] at hf
    | some n =>
      refine ⟨(f.offset, n) :: r, ?_, fun i => ?_⟩
      · simp only [List.mapM_cons, Sem.run_bind, hE.size hn, Result.andThen_ok, Sem.run_pure, h1]
      · cases i with
        | zero => simp [hn]
        | succ i => simpa using h2 i
theorem run_build_struct (hE : EnvOk E P) {t : TypeId} {fs : Array Field} {z : Value} {l : List (Nat × Value)} {parts : Array (Nat × Value)} {c : List Value} (hz : E.zero t = some z) (hu : E.und t = some (.struct fs))
    (hp : All2P ρ l parts.toList) (hf : fillAt (fieldPlaces E fs) z.cells.toList l = some c) : ∃ c', (Instr.build t parts).run P w = .ok (.agg ⟨c'⟩) w ∧ All2 (VR ρ) c c' := by
  obtain ⟨r, h1, h2⟩ := run_mapM_places hE w fs.toList (hE.und_fields hu)
  have hpl : (fun i => r[i]?) = fieldPlaces E fs := by
    funext i
    rw [h2 i]; simp [fieldPlaces]
  obtain ⟨cs', e1, e2⟩ := fill_ok (places := fun i => r[i]?) l parts.toList z.cells.toList c z.cells (by rw [hpl]; exact hf) hp (flatL_ren ρ _ (flat_cells (hE.zflat hz)))
  refine ⟨cs'.toList, ?_, e2⟩
  have h1' : (fs.mapM fun (f : Field) => (do pure (f.offset, ← sizeOf f.type) : Sem (Nat × Nat))).run P w = .ok r.toArray w := by
    rw [← Array.toArray_toList (xs := fs), List.mapM_toArray, Sem.run_map, h1]; rfl
  unfold Instr.build
  simp only [Sem.run_bind, hE.run_zero hz, Result.andThen_ok, hE.run_und hu]
  simp only [h1', Result.andThen_ok, List.getElem?_toArray, e1]
  rfl
end
end Go.Sx
