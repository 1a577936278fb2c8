/- The evaluator: slices cut. -/
import Derived.Test.YtbjncdcfojjacaaGreatSxJ
namespace Go.Sx
open Go Go.RowKit

section
variable {E : Env} {P : Program} {o : Oper} {a : Act} {B lim N : Nat} {hp : Hp} {nx : Nat} {ρ : Ren} {w : World} {tm : T} {n : ANext} {e : Eff}
theorem bound_run {l y d : Nat} {x : Value} {x' : Value} {code : BoundsCode} (h : num d (some x) = some l) (hx : VR ρ x x') (hy : l ≤ y) : (Instr.sliceBound x' y code).run P w = .ok l w := by
  have := num_ok (P := P) (w := w) (code := code) (x := some x) (x' := some x') h hx hy
  exact this
theorem bounds_none {isSlice : Bool} {len cap l h : Nat} {lo hi lo' hi' : Option Value} (h1 : num 0 lo = some l) (h2 : num len hi = some h) (g1 : OptVR ρ lo lo') (g2 : OptVR ρ hi hi') (hl : l ≤ h) (hh : h ≤ cap) :
    (Instr.sliceBounds isSlice len cap lo' hi' none).run P w = .ok (l, h, cap) w := by
  unfold Instr.sliceBounds
  cases hi with
  | none =>
    cases hi' with
    | some _ => exact g2.elim
    | none =>
      simp [num] at h2; subst h2
      cases lo with
      | none => cases lo' with
        | some _ => exact g1.elim
        | none => simp [num] at h1; subst h1; simp
      | some x => cases lo' with
        | none => exact g1.elim
        | some x' => simp [bound_run (P := P) (w := w) h1 g1 hl]
  | some y =>
    cases hi' with
    | none => exact g2.elim
    | some y' =>
      have hb := fun code => bound_run (P := P) (w := w) (code := code) h2 g2 hh
      cases lo with
      | none => cases lo' with
        | some _ => exact g1.elim
        | none => simp [num] at h1; subst h1; cases isSlice <;> simp [hb]
      | some x => cases lo' with
        | none => exact g1.elim
        | some x' => cases isSlice <;> simp [hb, bound_run (P := P) (w := w) h1 g1 hl]
theorem bounds_some {isSlice : Bool} {len cap l h m : Nat} {lo hi lo' hi' : Option Value} {mx mx' : Value} (h1 : num 0 lo = some l) (h2 : num len hi = some h) (h3 : num 0 (some mx) = some m)
    (g1 : OptVR ρ lo lo') (g2 : OptVR ρ hi hi') (g3 : VR ρ mx mx') (hs : hi.isSome = true) (hl : l ≤ h) (hh : h ≤ m) (hm : m ≤ cap) :
    (Instr.sliceBounds isSlice len cap lo' hi' (some mx')).run P w = .ok (l, h, m) w := by
  unfold Instr.sliceBounds
  have hb3 := fun code => bound_run (P := P) (w := w) (code := code) h3 g3 hm
  cases hi with
  | none => cases hs
  | some y =>
    cases hi' with
    | none => exact g2.elim
    | some y' =>
      have hb := fun code => bound_run (P := P) (w := w) (code := code) h2 g2 hh
      cases lo with
      | none => cases lo' with
        | some _ => exact g1.elim
        | none => simp [num] at h1; subst h1; cases isSlice <;> simp [hb, hb3]
      | some x => cases lo' with
        | none => exact g1.elim
        | some x' => cases isSlice <;> simp [hb, hb3, bound_run (P := P) (w := w) h1 g1 hl]
theorem aSlice_ok (hE : EnvOk E P) {t : TypeId} {x x' v : Value} {lo hi mx lo' hi' mx' : Option Value} (h : aSlice E t x lo hi mx = some v) (hx : VR ρ x x') (g1 : OptVR ρ lo lo') (g2 : OptVR ρ hi hi') (g3 : OptVR ρ mx mx') :
    ∃ v', (Instr.sliceAt t x' lo' hi' mx').run P w = .ok v' w ∧ VR ρ v v' := by
  unfold aSlice at h
  split at h
  · rename_i el ad len C hu
    simp only [Option.bind_eq_some_iff] at h
    obtain ⟨sz, hsz, l, hl, hh, hhi, h⟩ := h
    have hrun : ∀ v', (Instr.slice t x' lo' hi' mx').run P w = .ok v' w → (Instr.sliceAt t x' lo' hi' mx').run P w = .ok v' w := fun v' hv => by
      unfold Instr.sliceAt
      simp only [Sem.run_bind, hE.run_und hu, Result.andThen_ok]
      exact hv
    cases ad with
    | none =>
      simp only at h
      split at h
      · rename_i hc
        obtain ⟨rfl, rfl, hm, rfl, rfl⟩ := hc
        simp at h; subst h
        obtain ⟨_, _, rfl⟩ := hx.sliceNil
        cases mx with
        | some _ => simp at hm
        | none =>
          cases mx' with
          | some _ => exact g3.elim
          | none =>
            refine ⟨.slice none 0 0, hrun _ ?_, rfl⟩
            have hb := bounds_none (P := P) (w := w) (isSlice := true) (cap := 0) hl hhi g1 g2 (Nat.le_refl _) (Nat.le_refl _)
            unfold Instr.slice
            simp [hE.run_und hu, hb, hE.size hsz]
      · cases h
    | some ad =>
      obtain ⟨p, c, hp0, hsp, rfl, hnc, hC⟩ := hx.slice
      obtain ⟨ab, ao, as⟩ := ad
      dsimp only at hsp
      subst hsp
      simp only at h
      cases mx with
      | some m =>
        cases mx' with
        | none => exact g3.elim
        | some m' =>
          simp only [Option.bind_eq_some_iff] at h
          obtain ⟨mm, hmm, h⟩ := h
          by_cases hc : l ≤ hh ∧ hh ≤ mm ∧ mm ≤ (if C % 2 = 1 then C / 2 else len) ∧ hi.isSome = true
          · rw [if_pos hc] at h
            obtain ⟨c1, c2, c3, c4⟩ := hc
            simp only [Option.some.injEq] at h; subst h
            have hcap : mm ≤ c := by
              by_cases hodd : C % 2 = 1
              · rw [if_pos hodd] at c3 hC; omega
              · rw [if_neg hodd] at c3; omega
            have hb := bounds_some (P := P) (w := w) (isSlice := true) hl hhi hmm g1 g2 g3 c4 c1 c2 hcap
            by_cases hml : mm = l
            · rw [if_pos hml]
              refine ⟨.slice (some ⟨p.1.block, p.1.off + ao, none⟩) (hh - l) (mm - l), hrun _ ?_, VR.mkExact hp0 (by omega)⟩
              unfold Instr.slice
              simp only [Sem.run_bind, hE.run_und hu, Result.andThen_ok, hb, hE.size hsz, if_pos hml, Sem.run_pure]
            · rw [if_neg hml]
              refine ⟨.slice (some ⟨p.1.block, p.1.off + (ao + l * sz), none⟩) (hh - l) (mm - l), hrun _ ?_, VR.mkExact hp0 (by omega)⟩
              unfold Instr.slice
              simp only [Sem.run_bind, hE.run_und hu, Result.andThen_ok, hb, hE.size hsz, if_neg hml, Sem.run_pure, Option.map_some, add_mk, Nat.add_assoc]
          · rw [if_neg hc] at h; cases h
      | none =>
        cases mx' with
        | some _ => exact g3.elim
        | none =>
          dsimp only at h
          by_cases hodd : C % 2 = 1
          · rw [if_pos hodd] at h
            rw [if_pos hodd] at hC
            subst hC
            by_cases hc : l ≤ hh ∧ hh ≤ C / 2
            · rw [if_pos hc] at h
              simp only [Option.some.injEq] at h; subst h
              have hb := bounds_none (P := P) (w := w) (isSlice := true) hl hhi g1 g2 hc.1 hc.2
              by_cases hml : C / 2 = l
              · rw [if_pos hml]
                refine ⟨.slice (some ⟨p.1.block, p.1.off + ao, none⟩) (hh - l) (C / 2 - l), hrun _ ?_, VR.mkExact hp0 (by omega)⟩
                unfold Instr.slice
                simp only [Sem.run_bind, hE.run_und hu, Result.andThen_ok, hb, hE.size hsz, if_pos hml, Sem.run_pure]
              · rw [if_neg hml]
                refine ⟨.slice (some ⟨p.1.block, p.1.off + (ao + l * sz), none⟩) (hh - l) (C / 2 - l), hrun _ ?_, VR.mkExact hp0 (by omega)⟩
                unfold Instr.slice
                simp only [Sem.run_bind, hE.run_und hu, Result.andThen_ok, hb, hE.size hsz, if_neg hml, Sem.run_pure, Option.map_some, add_mk, Nat.add_assoc]
            · rw [if_neg hc] at h; cases h
          · rw [if_neg hodd] at h
            rw [if_neg hodd] at hC
            obtain ⟨hC1, hC2⟩ := hC
            by_cases hc : l ≤ hh ∧ hh ≤ len ∧ l < len
            · rw [if_pos hc] at h
              simp only [Option.some.injEq] at h; subst h
              have hb := bounds_none (P := P) (w := w) (isSlice := true) (cap := c) hl hhi g1 g2 hc.1 (by omega)
              have hml : ¬ c = l := by omega
              have hcl : c - l = p.2 - (C / 2 + l) := by omega
              refine ⟨.slice (some ⟨p.1.block, p.1.off + (ao + l * sz), none⟩) (hh - l) (c - l), hrun _ ?_, by rw [hcl]; exact VR.mkOpen hp0 (by omega)⟩
              unfold Instr.slice
              simp only [Sem.run_bind, hE.run_und hu, Result.andThen_ok, hb, hE.size hsz, if_neg hml, Sem.run_pure, Option.map_some, add_mk, Nat.add_assoc]
            · rw [if_neg hc] at h; cases h
  · rename_i len el ad hu
    simp only [Option.bind_eq_some_iff] at h
    obtain ⟨sz, hsz, l, hl, hh, hhi, h⟩ := h
    split at h
    · rename_i hc
      obtain ⟨c1, c2, c3⟩ := hc
      simp at h; subst h
      obtain ⟨p, hp0, hsp, rfl⟩ := hx.pointer
      obtain ⟨ab, ao, as⟩ := ad
      dsimp only at hsp
      subst hsp
      cases mx with
      | some _ => simp at c3
      | none =>
        cases mx' with
        | some _ => exact g3.elim
        | none =>
          have hb := bounds_none (P := P) (w := w) (isSlice := false) hl hhi g1 g2 c1 c2
          by_cases hml : len = l
          · rw [if_pos hml]
            refine ⟨.slice (some ⟨p.1.block, p.1.off + ao, none⟩) (hh - l) (len - l), ?_, VR.mkExact hp0 (by omega)⟩
            unfold Instr.sliceAt
            simp only [Sem.run_bind, hE.run_und hu, Result.andThen_ok, Instr.sureAddr, Sem.run_pure, hb, hE.size hsz, if_pos hml]
          · rw [if_neg hml]
            refine ⟨.slice (some ⟨p.1.block, p.1.off + (ao + l * sz), none⟩) (hh - l) (len - l), ?_, VR.mkExact hp0 (by omega)⟩
            unfold Instr.sliceAt
            simp only [Sem.run_bind, hE.run_und hu, Result.andThen_ok, Instr.sureAddr, Sem.run_pure, hb, hE.size hsz, if_neg hml, add_mk, Nat.add_assoc]
    · cases h
  · rename_i s hu
    simp only [Option.bind_eq_some_iff] at h
    obtain ⟨l, hl, hh, hhi, h⟩ := h
    split at h
    · rename_i hc
      obtain ⟨c1, c2, c3⟩ := hc
      simp at h; subst h
      cases hx.string
      cases mx with
      | some _ => simp at c3
      | none =>
        cases mx' with
        | some _ => exact g3.elim
        | none =>
          have hb := bounds_none (P := P) (w := w) (isSlice := false) hl hhi g1 g2 c1 c2
          refine ⟨.string (s.extract l hh), ?_, rfl⟩
          unfold Instr.sliceAt
          simp only [Sem.run_bind, hE.run_und hu, Result.andThen_ok]
          unfold Instr.slice
          simp [hE.run_und hu, hb]
    · cases h
  · cases h
theorem op_slice (hE : EnvOk E P) (hr : HRel P B lim hp nx ρ w) (ht : TRel N ρ tm a.tmps) {t : TypeId} {x : Operand} {lo hi mx : Option Operand} (ho : o.op = .slice t x lo hi mx) (h : opA E P tm hp nx o = some (n, e)) : OpDone P o a B lim hp nx ρ w n e := by
  simp only [opA, ho, Option.bind_eq_some_iff] at h
  obtain ⟨vx, hx, l, hl, hh, hhh, m, hm, h⟩ := h
  obtain ⟨v, hv, rfl, rfl⟩ := val_some h
  obtain ⟨v', h1, h2⟩ := aSlice_ok (w := w) hE hv (ev_ok ht hx) (evO_ok ht hl) (evO_ok ht hhh) (evO_ok ht hm)
  exact done_value hr (by unfold execOp; simp only [ho, Sem.run_bind, h1, Result.andThen_ok, Sem.run_pure]) h2
end
end Go.Sx
