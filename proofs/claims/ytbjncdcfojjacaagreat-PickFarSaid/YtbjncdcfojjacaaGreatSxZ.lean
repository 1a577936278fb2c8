/- The evaluator: hooks, and runs at numbers that are not known. -/
import Derived.Test.YtbjncdcfojjacaaGreatSxY
namespace Go.Sx
open Go Go.RowKit

section
variable {P : Program} {B lim : Nat} {hp : Hp} {nx : Nat} {ρ : Ren} {w w' : World}
theorem rel_below (hr : HRel P B lim hp nx ρ w) (hb : Below w.heap.size w w') : HRel P B lim hp nx ρ w' ∧ Step hp hp nx nx ρ ρ w w' :=
  ⟨⟨Nat.le_trans hr.base hb.size, hr.fresh, hr.lt, fun _ _ h => hr.obj_keep (Ren.le_refl ρ) h fun b hb' _ => hb.block b hb', hr.inj⟩,
   ⟨Nat.le_refl _, fun _ => .inl rfl, hb.os, hb.tape, hb.output, hb.size, fun b hb' _ => hb.block b hb', fun _ h => .inr h⟩⟩
theorem rel_newAt (hr : HRel P B lim hp nx ρ w) (hl : nx < lim) (hb : Below w.heap.size w w') {o : AObj} {g c : Nat} (hg : w.heap.size ≤ g) (hg' : g < w'.heap.size)
    (ho : ∀ ρ', ρ.le ρ' → ρ' nx = some (⟨g, 0, none⟩, c) → ObjOk P B ρ' w' nx o) :
    HRel P B lim (over hp nx (some o)) (nx + 1) (ρ.put nx (⟨g, 0, none⟩, c)) w' ∧
    Step hp (over hp nx (some o)) nx (nx + 1) ρ (ρ.put nx (⟨g, 0, none⟩, c)) w w' := by
  have hf := hr.fresh nx (Nat.le_refl _) hl
  have hle := Ren.le_put (⟨g, 0, none⟩, c) hf
  have hkeep := hb.block
  refine ⟨⟨by have := hr.base; have := hb.size; omega, fun k g1 g2 => ?_, fun k q hq => ?_, fun k q hq => ?_, fun k q p k' q' p' a1 a2 a3 b1 b2 b3 hbl => ?_⟩, ⟨by omega, fun k => ?_, hb.os, hb.tape, hb.output, hb.size, fun b hb _ => hkeep b hb, fun b hb => ?_⟩⟩
  · rw [Ren.put_other _ _ (by omega)]; exact hr.fresh k (by omega) g2
  · by_cases e : k = nx
    · omega
    · rw [over_other _ _ e] at hq; have := hr.lt k q hq; omega
  · by_cases e : k = nx
    · subst e; rw [over_same] at hq; cases hq; exact ho _ hle (Ren.put_same _ _ _)
    · rw [over_other _ _ e] at hq; exact hr.obj_keep hle hq fun b hb _ => hkeep b hb
  · by_cases e : k = nx <;> by_cases e' : k' = nx
    · rw [e, e']
    · subst e
      rw [Ren.put_same] at a3; cases a3
      rw [over_other _ _ e'] at b1; rw [Ren.put_other _ _ e'] at b3
      have := ((hr.obj k' q' b1).own_le b2 b3).2
      dsimp only at hbl; omega
    · subst e'
      rw [Ren.put_same] at b3; cases b3
      rw [over_other _ _ e] at a1; rw [Ren.put_other _ _ e] at a3
      have := ((hr.obj k q a1).own_le a2 a3).2
      dsimp only at hbl; omega
    · rw [over_other _ _ e] at a1; rw [Ren.put_other _ _ e] at a3
      rw [over_other _ _ e'] at b1; rw [Ren.put_other _ _ e'] at b3
      exact hr.inj k q p k' q' p' a1 a2 a3 b1 b2 b3 hbl
  · by_cases e : k = nx
    · subst e; exact .inr ⟨Nat.le_refl _, by omega, hf⟩
    · exact .inl (Ren.put_other _ _ e)
  · obtain ⟨k, q, p, a1, a2, a3, rfl⟩ := hb
    by_cases e : k = nx
    · subst e; rw [Ren.put_same] at a3; cases a3; exact .inl hg
    · rw [over_other _ _ e] at a1; rw [Ren.put_other _ _ e] at a3
      exact .inr ⟨k, q, p, a1, a2, a3, rfl⟩

/-- a function without arguments that answers true and leaves all as it was -/
def saysTrue (args : List Value) (S : St) : Option (AEnd × St) :=
  match args with
  | [] => some (.ret (.bool true), S)
  | _ => none
theorem saysTrue_ok {f : FuncId} (h : ∀ w, Calls P f #[] w fun en w' => en = .returned (.bool true) ∧ Below w.heap.size w w') {args : List Value} {S S' : St} {e : AEnd} (hs : saysTrue args S = some (e, S')) : CallOk P f args S e S' := by
  unfold saysTrue at hs
  split at hs
  · simp only [Option.some.injEq, Prod.mk.injEq] at hs
    obtain ⟨rfl, rfl⟩ := hs
    refine ⟨Fx.refl S, fun B lim ρ w args' hl hr ha => ?_⟩
    cases args' with
    | nil =>
      refine Calls.mono (h w) ?_
      rintro en w' ⟨rfl, hb⟩
      exact ⟨ρ, rel_below hr hb, by simp [EndR, VR, renV]⟩
    | cons x l => exact ha.elim
  · cases hs

/-- the hooks of a program: functions whose contracts are shown apart -/
theorem hook_two {f g : FuncId} {p q : List Value → St → Option (AEnd × St)} (hp : ∀ args S e S', p args S = some (e, S') → CallOk P f args S e S') (hq : ∀ args S e S', q args S = some (e, S') → CallOk P g args S e S') :
    HookOk P fun i => if i = f then some p else if i = g then some q else none := by
  intro i r hi args S e S' hr
  dsimp only at hi
  split at hi
  · rename_i he; subst he; cases hi; exact hp args S e S' hr
  · split at hi
    · rename_i he; subst he; cases hi; exact hq args S e S' hr
    · cases hi

/-! ### numbers that are not known, from outside -/
def symRen (σ : Nat → Int) : Ren := fun k => if symKey 0 ≤ k then some (⟨0, (σ (k - symKey 0)).toNat, none⟩, (-(σ (k - symKey 0))).toNat) else none
theorem symAt_symRen (σ : Nat → Int) (i : Nat) : symAt (symRen σ) i = some (σ i) := by
  unfold symAt symRen symKey
  rw [if_pos (by omega)]
  have : 1152921504606846976 + i - (1152921504606846976 + 0) = i := by omega
  rw [this]
  simp only [Option.map_some, Option.some.injEq]
  omega
theorem xs_symRen (σ : Nat → Int) : xs (symRen σ) = σ := by
  funext i
  simp [xs, symAt_symRen]
def inBox (σ : Nat → Int) : List Term → Prop
  | [] => True
  | t :: r => (t.lo ≤ σ t.i ∧ σ t.i ≤ t.hi) ∧ inBox σ r
theorem goodT_symRen {σ : Nat → Int} : ∀ {ts : List Term}, inBox σ ts → GoodT (symRen σ) ts
  | [], _ => good_nil _
  | t :: r, h => fun u hu => by
    cases hu with
    | head => exact ⟨by rw [symAt_symRen, xs_symRen], by rw [xs_symRen]; exact h.1.1, by rw [xs_symRen]; exact h.1.2⟩
    | tail _ hu => exact goodT_symRen h.2 u hu
theorem vr_sym {σ : Nat → Int} {k : IntKind} {l : Lin} (h : inBox σ l.ts) : VR (symRen σ) (l.to k) (.int k (l.val σ)) := by
  have := Lin.to_ok (k := k) (goodT_symRen h)
  rwa [xs_symRen] at this

/-- a run at numbers that are not known, that answers true -/
def goodRun : Option (AEnd × St) → Bool
  | some (.ret (.bool true), S) => Nat.blt S.next (symKey 0)
  | _ => false
theorem goodRun_next {e : AEnd} {S : St} (h : goodRun (some (e, S)) = true) : e = .ret (.bool true) ∧ S.next < symKey 0 := by
  unfold goodRun at h
  split at h
  · rename_i S0 he
    simp only [Option.some.injEq, Prod.mk.injEq] at he
    obtain ⟨rfl, rfl⟩ := he
    exact ⟨rfl, blt_true h⟩
  · cases h
theorem sym_true {E : Env} (hE : EnvOk E P) {hook : Hook} (hh : HookOk P hook) {n f : Nat} {args : List Value} (h : goodRun (callA E P hook n f args ⟨.nil, 1, 0, []⟩) = true)
    {σ : Nat → Int} {args' : List Value} (ha : All2 (VR (symRen σ)) args args') (w : World) :
    Calls P f ⟨args'⟩ w fun en w' => en = .returned (.bool true) ∧ Below w.heap.size w w' := by
  cases hc : callA E P hook n f args ⟨.nil, 1, 0, []⟩ with
  | none => rw [hc] at h; cases h
  | some r =>
    obtain ⟨e, S'⟩ := r
    rw [hc] at h
    obtain ⟨rfl, hs⟩ := goodRun_next h
    obtain ⟨_, h2⟩ := callA_ok hE hh n f args _ _ S' hc
    have hr : HRel P w.heap.size (symKey 0) (Tr.nil : Tr AObj).get 1 (symRen σ) w :=
      { base := Nat.le_refl _, fresh := fun k _ hk => by unfold symRen; rw [if_neg (by omega)], lt := fun k o h => absurd h (by rw [get_nil]; simp), obj := fun k o h => absurd h (by rw [get_nil]; simp), inj := fun k o p k' o' p' h => absurd h (by rw [get_nil]; simp) }
    refine Calls.mono (h2 w.heap.size (symKey 0) (symRen σ) w args' hs hr ha) ?_
    rintro en w' ⟨ρ', t, hv⟩
    refine ⟨?_, t.2.below hr⟩
    cases en with
    | returned v' => rw [VR.bool hv]
    | _ => exact hv.elim
end
end Go.Sx
