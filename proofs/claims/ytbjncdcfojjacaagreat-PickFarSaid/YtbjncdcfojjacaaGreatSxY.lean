/- The evaluator: calls. -/
import Derived.Test.YtbjncdcfojjacaaGreatSxX
namespace Go.Sx
open Go Go.RowKit

theorem get_nil {α : Type} (k : Nat) : (Tr.nil : Tr α).get k = none := by
  cases k <;> simp [Tr.get]
section
variable {E : Env} {P : Program}

theorem argsT_get : ∀ (l : List Value) (i : Nat) (t : TT), i + l.length ≤ big → ∀ k, (argsT i l t).get k = if i ≤ k ∧ k < i + l.length then l[k - i]? else t.get k
  | [], i, t, _, k => by simp [argsT]; omega
  | x :: xs, i, t, h, k => by
    have hi : i + 1 < 2 ^ 40 := by simp only [List.length_cons, big] at h; omega
    rw [argsT, argsT_get xs (i + 1) _ (by simp only [List.length_cons] at h; omega) k]
    simp only [List.length_cons]
    by_cases h1 : i + 1 ≤ k ∧ k < i + 1 + xs.length
    · rw [if_pos h1, if_pos (by omega)]
      have : k - i = (k - (i + 1)) + 1 := by omega
      rw [this, List.getElem?_cons_succ]
    · rw [if_neg h1]
      by_cases h2 : k = i
      · subst h2
        rw [if_pos (by omega), Nat.sub_self, Tr.get_put 40 t k (some x) _ hi]
        simp
      · rw [if_neg (by omega), Tr.get_put 40 t i (some x) _ hi]
        simp [h2]

def oneRes (tmps : Array Value) : ResultVar → Sem Value
  | .tmp t => pure (tmps.getD t undef)
  | .cell a t => do loadVar t (← asAddr (tmps.getD a undef))

theorem resultsA_ok (hE : EnvOk E P) {N B lim nx : Nat} {hp : Hp} {ρ : Ren} {w : World} {tm : T} {tmps : Array Value} (hr : HRel P B lim hp nx ρ w) (ht : TRel N ρ tm tmps) :
    ∀ (l : List ResultVar) (vs : List Value), resultsA E tm hp l = some vs → ∃ vs', (l.mapM (oneRes tmps)).run P w = .ok vs' w ∧ All2 (VR ρ) vs vs'
  | [], vs, h => by
    simp [resultsA] at h; subst h
    exact ⟨[], by simp, trivial⟩
  | .tmp t :: r, vs, h => by
    simp only [resultsA, Option.bind_eq_some_iff, Option.some.injEq] at h
    obtain ⟨v, hv, l, hl, rfl⟩ := h
    obtain ⟨v', e1, e2⟩ := ht.2 t v hv
    obtain ⟨vs', g1, g2⟩ := resultsA_ok hE hr ht r l hl
    refine ⟨v' :: vs', ?_, e2, g2⟩
    simp only [List.mapM_cons, Sem.run_bind, oneRes, Sem.run_pure, Result.andThen_ok, g1, e1]
  | .cell c t :: r, vs, h => by
    simp only [resultsA, Option.bind_eq_some_iff] at h
    obtain ⟨v, hv, h⟩ := h
    obtain ⟨v', e1, e2⟩ := ht.2 c v hv
    split at h
    · rename_i ad
      obtain ⟨p, hp0, hs, hax⟩ := e2.pointer
      subst hax
      simp only [Option.bind_eq_some_iff] at h
      obtain ⟨g, hg, h⟩ := h
      cases g with
      | true =>
        simp only [Option.bind_eq_some_iff, Option.some.injEq] at h
        obtain ⟨m, hm, l, hl, k, hk, rfl⟩ := h
        obtain ⟨l', f1, f2, f3⟩ := hread_ok hr hl hp0
        obtain ⟨vs', g1, g2⟩ := resultsA_ok hE hr ht r k hk
        refine ⟨.agg ⟨l'⟩ :: vs', ?_, VR.mkAgg f1, g2⟩
        have hc := run_loadCells_list (P := P) (w := w) _ l' f3
        rw [f2] at hc
        simp only [List.mapM_cons, Sem.run_bind, oneRes, e1, asAddr, loadVar, Sem.run_pure, Result.andThen_ok, hE.agg hg, if_true, hE.size hm, hc, g1]
      | false =>
        simp only [Option.bind_eq_some_iff, Option.some.injEq] at h
        obtain ⟨l, hl, x, hx, k, hk, rfl⟩ := h
        obtain ⟨l', f1, f2, f3⟩ := hread_ok hr hl hp0
        obtain ⟨vs', g1, g2⟩ := resultsA_ok hE hr ht r k hk
        cases l with
        | nil => simp at hx
        | cons u us =>
          simp at hx
          subst hx
          cases l' with
          | nil => exact f1.elim
          | cons u' us' =>
            refine ⟨u' :: vs', ?_, f1.1, g2⟩
            have hc := f3 0 u' rfl
            rw [add_mk] at hc
            simp only [List.mapM_cons, Sem.run_bind, oneRes, e1, asAddr, loadVar, Sem.run_pure, Result.andThen_ok, hE.agg hg, Bool.false_eq_true, if_false, run_load]
            rw [show (⟨p.1.block, p.1.off + ad.off, none⟩ : Addr) = ⟨p.1.block, p.1.off + ad.off + 0, none⟩ from rfl, hc]
            simp only [Result.andThen_ok, g1]
    · cases h

theorem results_eq (fn : Func) (tmps : Array Value) : results fn tmps = (do
    let vs ← fn.results.mapM (oneRes tmps)
    pure (if h : vs.size = 1 then vs[0] else .tuple vs)) := by
  have : (fun | .tmp t => pure (tmps.getD t undef) | .cell a t => do loadVar t (← asAddr (tmps.getD a undef)) : ResultVar → Sem Value) = oneRes tmps := by
    funext x; cases x <;> rfl
  rw [← this]
  rfl

theorem tupled_ok {ρ : Ren} {vs vs' : List Value} (h : All2 (VR ρ) vs vs') : VR ρ (tupled vs) (if h : (⟨vs'⟩ : Array Value).size = 1 then (⟨vs'⟩ : Array Value)[0] else .tuple ⟨vs'⟩) := by
  match vs, vs', h with
  | [], [], h => simpa [tupled] using VR.mkTuple h
  | [x], [y], h => simpa [tupled] using h.1
  | x :: x2 :: xs, y :: y2 :: ys, h => simpa [tupled] using VR.mkTuple h

theorem results_ok (hE : EnvOk E P) {N B lim nx : Nat} {hp : Hp} {ρ : Ren} {w : World} {tm : T} {tmps : Array Value} {fn : Func} (hr : HRel P B lim hp nx ρ w) (ht : TRel N ρ tm tmps) {vs : List Value}
    (h : resultsA E tm hp fn.results.toList = some vs) : ∃ v', (results fn tmps).run P w = .ok v' w ∧ VR ρ (tupled vs) v' := by
  obtain ⟨vs', g1, g2⟩ := resultsA_ok hE hr ht _ _ h
  refine ⟨_, ?_, tupled_ok g2⟩
  rw [results_eq, Array.mapM_eq_mapM_toList, Sem.run_bind, map_eq_pure_bind, Sem.run_bind, g1]
  simp only [Result.andThen_ok, Sem.run_pure]

def HookOk (P : Program) (hook : Hook) : Prop := ∀ f g, hook f = some g → ∀ args S e S', g args S = some (e, S') → CallOk P f args S e S'
theorem callA_ok (hE : EnvOk E P) {hook : Hook} (hh : HookOk P hook) : ∀ n, CallsOk P (callA E P hook n) := by
  intro n
  induction n with
  | zero => intro f args S e S' h; simp [callA] at h
  | succ n ih =>
    intro f args S e S' h
    rw [callA] at h
    split at h
    · rename_i g hg
      exact hh f g hg args S e S' h
    · simp only [Option.bind_eq_some_iff] at h
      obtain ⟨fn, hf, h⟩ := h
      split at h
      · cases h
      · rename_i c hc
        split at h
        · cases h
        · rename_i hb
          simp only [Bool.and_eq_true] at hb
          have hN : fn.ntmps < big := blt_true hb.1
          have hlen : args.length ≤ fn.ntmps := Nat.le_of_ble_eq_true hb.2
          simp only [Option.bind_eq_some_iff] at h
          obtain ⟨⟨x, tm', S1⟩, hcode, h⟩ := h
          obtain ⟨s1, s2⟩ := code_ok hE ih hN 100000 c _ S x tm' S1 hcode
          have enter : ∀ (B lim : Nat) (ρ : Ren) (w : World) (args' : List Value), S1.next < lim → HRel P B lim S.heap.get S.next ρ w → All2 (VR ρ) args args' → ∀ R, (∀ en a' w', Post P fn.ntmps B lim S S1 ρ w x tm' [] en a' w' → bodyPost P fn R en a' w') → Calls P f ⟨args'⟩ w R := by
            intro B lim ρ w args' hl hr hargs R hR
            refine calls_of_wp (hE.fn _ _ hf) hc (wp_mono (s2 B lim ρ w _ hl hr ⟨?_, ?_⟩) hR)
            · simp
              omega
            · intro t v hv
              rw [argsT_get args 0 .nil (by omega) t] at hv
              simp only [Nat.zero_le, Nat.zero_add, true_and, Nat.sub_zero] at hv
              split at hv
              · obtain ⟨y, h1, h2⟩ := hargs.get t v hv
                refine ⟨y, ?_, h2⟩
                rw [Array.getD_eq_getD_getElem?, Array.getElem?_append_left (by simpa using (List.getElem?_eq_some_iff.1 h1).1)]
                simp [h1]
              · exact absurd hv (by rw [get_nil]; simp)
          have fin : ∀ {en : Exit} (vs : List Value), resultsA E tm'.get S1.heap.get fn.results.toList = some vs → (x = .normal ∨ x = .ret) → e = .ret (tupled vs) → S' = S1 → CallOk P f args S e S' := by
            rintro en vs hvs hx rfl rfl
            refine ⟨s1, fun B lim ρ w args' hl hr hargs => enter B lim ρ w args' hl hr hargs _ ?_⟩
            rintro en a' w' ⟨ρ', t1, t2, t3, t4⟩
            have ht' : TRel fn.ntmps ρ' tm'.get a'.tmps := t4.resolve_left (by rintro ⟨v, hv⟩; rcases hx with rfl | rfl <;> cases hv)
            obtain ⟨v', r1, r2⟩ := results_ok hE t1.1 ht' hvs
            rcases hx with rfl | rfl
            · cases en with
              | normal => exact ⟨t3, v', r1, ρ', t1, r2⟩
              | _ => exact t2.elim
            · cases en with
              | ret => exact ⟨t3, v', r1, ρ', t1, r2⟩
              | _ => exact t2.elim
          cases x with
          | normal =>
            simp only [Option.bind_eq_some_iff, Option.some.injEq, Prod.mk.injEq] at h
            obtain ⟨vs, hvs, rfl, rfl⟩ := h
            exact fin (en := .normal) vs hvs (.inl rfl) rfl rfl
          | ret =>
            simp only [Option.bind_eq_some_iff, Option.some.injEq, Prod.mk.injEq] at h
            obtain ⟨vs, hvs, rfl, rfl⟩ := h
            exact fin (en := .normal) vs hvs (.inr rfl) rfl rfl
          | panic y =>
            simp only [Option.some.injEq, Prod.mk.injEq] at h
            obtain ⟨rfl, rfl⟩ := h
            refine ⟨s1, fun B lim ρ w args' hl hr hargs => enter B lim ρ w args' hl hr hargs _ ?_⟩
            rintro en a' w' ⟨ρ', t1, t2, t3, t4⟩
            cases en with
            | panic ch => exact ⟨t3, ρ', t1, t2⟩
            | _ => exact t2.elim
          | exit i => cases h

/-- a closed run that answers true -/
theorem closed_true (hE : EnvOk E P) {hook : Hook} (hh : HookOk P hook) {n f : Nat} (h : isTrue (callA E P hook n f [] ⟨.nil, 1, 0, []⟩) = true) (w : World) :
    Calls P f #[] w fun en w' => en = .returned (.bool true) ∧ Below w.heap.size w w' := by
  cases hc : callA E P hook n f [] ⟨.nil, 1, 0, []⟩ with
  | none => rw [hc] at h; cases h
  | some r =>
    obtain ⟨e, S'⟩ := r
    rw [hc] at h
    obtain ⟨_, h2⟩ := callA_ok hE hh n f [] _ e S' hc
    have hr : HRel P w.heap.size (S'.next + 1) (Tr.nil : Tr AObj).get 1 (fun _ => none) w :=
      { base := Nat.le_refl _, fresh := fun _ _ _ => rfl, lt := fun k o h => absurd h (by rw [get_nil]; simp), obj := fun k o h => absurd h (by rw [get_nil]; simp), inj := fun k o p k' o' p' h => absurd h (by rw [get_nil]; simp) }
    have := h2 w.heap.size (S'.next + 1) (fun _ => none) w [] (Nat.lt_succ_self _) hr trivial
    refine Calls.mono this ?_
    rintro en w' ⟨ρ', t, hv⟩
    refine ⟨?_, t.2.below hr⟩
    cases e with
    | ret v =>
      cases v with
      | bool b =>
        cases b with
        | true =>
          cases en with
          | returned v' => rw [VR.bool hv]
          | _ => exact hv.elim
        | false => cases h
      | _ => cases h
    | panic v => cases h
end
end Go.Sx
