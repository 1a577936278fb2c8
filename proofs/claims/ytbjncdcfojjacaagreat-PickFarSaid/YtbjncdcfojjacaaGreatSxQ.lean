/- The evaluator: regions in the text's order are what the model does. -/
import Derived.Test.YtbjncdcfojjacaaGreatSxP
import Derived.Tactics
namespace Go.Sx
open Go Go.RowKit

theorem blt_true {a b : Nat} (h : Nat.blt a b = true) : a < b := Nat.le_of_ble_eq_true h
theorem blt_false {a b : Nat} (h : Nat.blt a b = false) : b ≤ a := by
  rcases Nat.lt_or_ge a b with hlt | hge
  · have := Nat.ble_eq_true_of_le (show a + 1 ≤ b from hlt)
    rw [show Nat.blt a b = Nat.ble (a + 1) b from rfl, this] at h
    cases h
  · exact hge
/-- what evaluating leaves as it was -/
structure Fx (S S' : St) : Prop where
  next : S.next ≤ S'.next
  mark : S'.mark = S.mark
  wr : ∀ k, k ∈ S.wr → k ∈ S'.wr
  keep : S.mark ≤ S.next → ∀ k, k < S.mark → k ∉ S'.wr → S'.heap.get k = S.heap.get k
theorem Fx.refl (S : St) : Fx S S := ⟨Nat.le_refl _, rfl, fun _ h => h, fun _ _ _ _ => rfl⟩
theorem Fx.trans {a b c : St} (h : Fx a b) (g : Fx b c) : Fx a c :=
  ⟨Nat.le_trans h.next g.next, g.mark.trans h.mark, fun k hk => g.wr k (h.wr k hk), fun hm k hk hn => by
    rw [g.keep (by rw [h.mark]; exact Nat.le_trans hm h.next) k (by rw [h.mark]; exact hk) hn]
    exact h.keep hm k hk fun hw => hn (g.wr k hw)⟩
theorem noteW_mem {mark k j : Nat} {wr : List Nat} : j ∈ noteW mark k wr ↔ j ∈ wr ∨ (j = k ∧ k < mark) := by
  unfold noteW
  cases h : Nat.blt k mark with
  | true =>
    have : k < mark := blt_true h
    simp only [List.mem_cons]
    constructor
    · rintro (rfl | h)
      · exact .inr ⟨rfl, this⟩
      · exact .inl h
    · rintro (h | ⟨rfl, _⟩)
      · exact .inr h
      · exact .inl rfl
  | false =>
    have := blt_false h
    simp only []
    constructor
    · exact .inl
    · rintro (h | ⟨rfl, h⟩)
      · exact h
      · omega
theorem get_put_fn {h : Tr AObj} {k : Nat} {o : Option AObj} (hk : k < big) : (h.put 40 k o).get = over h.get k o := by
  funext j
  rw [Tr.get_put 40 h k o j (by unfold big at hk; omega)]
  rfl
theorem eff_get {S S' : St} {e : Eff} (h : S.eff e = some S') : S'.heap.get = e.hp S.heap.get S.next ∧ S'.next = e.nx S.next ∧ Fx S S' := by
  unfold St.eff at h
  cases hb : Nat.blt S.next big with
  | false => simp [hb] at h
  | true =>
    have hn : S.next < big := blt_true hb
    simp only [hb] at h
    cases e with
    | none => simp at h; subst h; exact ⟨rfl, rfl, Fx.refl _⟩
    | new o =>
      simp at h; subst h
      refine ⟨get_put_fn hn, rfl, ⟨Nat.le_succ _, rfl, fun _ h => h, fun hm k hk _ => ?_⟩⟩
      show (S.heap.put 40 S.next (some o)).get k = _
      rw [get_put_fn hn, over_other _ _ (by omega)]
    | upd k o =>
      cases hk : Nat.blt k big with
      | false => simp [hk] at h
      | true =>
        have hk' : k < big := blt_true hk
        simp only [hk, Option.some.injEq] at h; subst h
        refine ⟨get_put_fn hk', rfl, ⟨Nat.le_refl _, rfl, fun j h => noteW_mem.2 (.inl h), fun hm j hj hn' => ?_⟩⟩
        show (S.heap.put 40 k (some o)).get j = _
        rw [get_put_fn hk']
        by_cases e : j = k
        · subst e; exact absurd (noteW_mem.2 (.inr ⟨rfl, hj⟩)) hn'
        · rw [over_other _ _ e]
    | move k o =>
      cases hk : Nat.blt k big with
      | false => simp [hk] at h
      | true =>
        have hk' : k < big := blt_true hk
        simp only [hk, Option.some.injEq] at h; subst h
        refine ⟨?_, rfl, ⟨Nat.le_succ _, rfl, fun j h => noteW_mem.2 (.inl h), fun hm j hj hn' => ?_⟩⟩
        · show ((S.heap.put 40 k none).put 40 S.next (some o)).get = _
          rw [get_put_fn hn, get_put_fn hk']; rfl
        · show ((S.heap.put 40 k none).put 40 S.next (some o)).get j = _
          rw [get_put_fn hn, get_put_fn hk', over_other _ _ (by omega)]
          by_cases e : j = k
          · subst e; exact absurd (noteW_mem.2 (.inr ⟨rfl, hj⟩)) hn'
          · rw [over_other _ _ e]

def onePanic (v : Value) : List PanicEntry := [{ v, recovered := false }]
def EndR (ρ : Ren) : AEnd → Ending → Prop
  | .ret v, .returned v' => VR ρ v v'
  | .panic v, .panicked c => ∃ v', c = onePanic v' ∧ VR ρ v v'
  | _, _ => False
/-- the state behind, and how it stands to the one ahead -/
def Then (P : Program) (B lim : Nat) (S S' : St) (ρ ρ' : Ren) (w w' : World) : Prop :=
  HRel P B lim S'.heap.get S'.next ρ' w' ∧ Step S.heap.get S'.heap.get S.next S'.next ρ ρ' w w'
def CallOk (P : Program) (f : FuncId) (args : List Value) (S : St) (e : AEnd) (S' : St) : Prop :=
  Fx S S' ∧ ∀ B lim ρ w args', S'.next < lim → HRel P B lim S.heap.get S.next ρ w → All2 (VR ρ) args args' →
    Calls P f ⟨args'⟩ w fun en w' => ∃ ρ', Then P B lim S S' ρ ρ' w w' ∧ EndR ρ' e en
def CallsOk (P : Program) (call : CallF) : Prop := ∀ f args S e S', call f args S = some (e, S') → CallOk P f args S e S'

theorem Then.trans {P : Program} {B lim : Nat} {a b c : St} {ρ ρ1 ρ2 : Ren} {w w1 w2 : World} (h : Then P B lim a b ρ ρ1 w w1) (g : Then P B lim b c ρ1 ρ2 w1 w2) : Then P B lim a c ρ ρ2 w w2 :=
  ⟨g.1, h.2.trans g.2⟩
theorem trel_put_at {N : Nat} {ρ : Ren} {tm : TT} {tmps : Array Value} {d : Nat} {v v' : Value} (hN : N < big) (ht : TRel N ρ tm.get tmps) (hd : d < N) (hv : VR ρ v v') : TRel N ρ (tm.put 40 d (some v)).get (tmps.setIfInBounds d v') := by
  refine ⟨by rw [Array.size_setIfInBounds]; exact ht.1, fun t u hu => ?_⟩
  rw [Tr.get_put 40 tm d (some v) t (by have := Nat.lt_trans hd hN; unfold big at this; omega)] at hu
  have hsz := ht.1
  by_cases e : t = d
  · subst e
    rw [if_pos rfl] at hu; cases hu
    refine ⟨v', ?_, hv⟩
    have hlt : t < tmps.size := by omega
    simp [hlt]
  · rw [if_neg e] at hu
    obtain ⟨x, e1, e2⟩ := ht.2 t u hu
    refine ⟨x, ?_, e2⟩
    rw [← e1]
    simp only [Array.getD_eq_getD_getElem?, Array.getElem?_setIfInBounds_ne (Ne.symm e)]
theorem trel_put {N : Nat} {ρ : Ren} {tm tm1 : TT} {a : Act} {dst : Option Tmp} {v v' : Value} (hN : N < big) (ht : TRel N ρ tm.get a.tmps) (h : tset N tm dst v = some tm1) (hv : VR ρ v v') : TRel N ρ tm1.get (a.put dst v').tmps := by
  unfold tset at h
  cases dst with
  | none => simp at h; subst h; exact ht
  | some d =>
    cases hd : Nat.blt d N with
    | false => simp [hd] at h
    | true =>
      simp only [hd, Option.some.injEq] at h; subst h
      exact trel_put_at hN ht (blt_true hd) hv
theorem wanted_ok {N : Nat} {ρ : Ren} {tm : T} {a : Act} {ops : Array Oper} {o : Oper} {b : Bool} (ht : TRel N ρ tm a.tmps) (h : wantedA tm ops o = some b) : Region.wanted o (yielded ops a.tmps) = b := by
  unfold wantedA at h
  unfold Region.wanted
  cases hg : o.guard with
  | none => simp [hg] at h; subst h; rfl
  | some g =>
    obtain ⟨j, want⟩ := g
    simp only [hg] at h ⊢
    unfold yielded
    cases hd : (ops[j]?).bind (·.dst) with
    | none => simp only [hd] at h; simp at h; simp [h.symm]
    | some d =>
      simp only [hd] at h
      have key : ∀ v, tm d = some v → ∃ v', VR ρ v v' ∧ (v' ≠ undef → a.tmps[d]? = some v') ∧ a.tmps.getD d undef = v' := fun v hv => by
        obtain ⟨v', e1, e2⟩ := ht.2 d v hv
        refine ⟨v', e2, fun hne => ?_, e1⟩
        cases hx : a.tmps[d]? with
        | none => rw [Array.getD_eq_getD_getElem?, hx] at e1; exact absurd e1.symm hne
        | some y => rw [Array.getD_eq_getD_getElem?, hx] at e1; simp at e1; rw [e1]
      cases hv : tm d with
      | none => simp [hv] at h
      | some v =>
        obtain ⟨v', k1, k2, k3⟩ := key v hv
        rw [hv] at h
        cases v <;> simp only [Option.some.injEq, reduceCtorEq] at h
        · rename_i x
          have e := k1.bool
          subst e
          have := k2 (by simp [undef])
          simp only [Option.bind_some, this]
          subst h
          cases x <;> cases want <;> rfl
        · rename_i xs
          obtain ⟨xs⟩ := xs
          obtain ⟨ys, _, e⟩ := k1.tuple
          subst e
          simp only [Option.bind_some]
          subst h
          cases hx : a.tmps[d]? with
          | none => rfl
          | some y => rw [Array.getD_eq_getD_getElem?, hx] at k3; simp at k3; subst k3; rfl
theorem vr_undef (ρ : Ren) : VR ρ undef undef := VR.mkTuple (cs := []) (cs' := []) trivial

section
variable {E : Env} {P : Program} {call : CallF} {N B lim : Nat} {all : Array Oper}
theorem seq_ok (hE : EnvOk E P) (hcall : CallsOk P call) (hN : N < big) : ∀ (ops : List Oper) (tm : TT) (S : St) (p : Option Value) (tm' : TT) (S' : St), seqA E P call N all ops tm S = some (p, tm', S') →
    Fx S S' ∧ ∀ (B lim : Nat) (ρ : Ren) (w : World) (a : Act) (Q : Exit → Act → World → Prop), S'.next < lim → HRel P B lim S.heap.get S.next ρ w → TRel N ρ tm.get a.tmps →
      (p = none → ∀ ρ' a' w', Then P B lim S S' ρ ρ' w w' → TRel N ρ' tm'.get a'.tmps → a'.defers = a.defers → Q .normal a' w') →
      (∀ x, p = some x → ∀ ρ' a' w' v', Then P B lim S S' ρ ρ' w w' → VR ρ' x v' → a'.defers = a.defers → Q (.panic (onePanic v')) a' w') →
      wpList P all Q ops a w := by
  intro ops
  induction ops with
  | nil =>
    intro tm S p tm' S' h
    simp [seqA] at h
    obtain ⟨rfl, rfl, rfl⟩ := h
    exact ⟨Fx.refl _, fun B lim ρ w a Q hl hr ht hn _ => hn rfl ρ a w ⟨hr, Step.refl _ _ _ _⟩ ht rfl⟩
  | cons o rest ih =>
    intro tm S p tm' S' h
    simp only [seqA, Option.bind_eq_some_iff] at h
    obtain ⟨b, hb, h⟩ := h
    cases b with
    | false =>
      simp only [Option.bind_eq_some_iff] at h
      obtain ⟨tm1, h1, h⟩ := h
      obtain ⟨i1, i2⟩ := ih tm1 S p tm' S' h
      refine ⟨i1, fun B lim ρ w a Q hl hr ht hn hp => ?_⟩
      simp only [wpList, wanted_ok ht hb, Bool.false_eq_true, if_false]
      exact i2 B lim ρ w (a.put o.dst undef) Q hl hr (trel_put hN ht h1 (vr_undef ρ)) (fun e ρ' a' w' x y z => hn e ρ' a' w' x y (z.trans (by cases o.dst <;> rfl))) (fun x e ρ' a' w' v' p1 p2 p3 => hp x e ρ' a' w' v' p1 p2 (p3.trans (by cases o.dst <;> rfl)))
    | true =>
      simp only [Option.bind_eq_some_iff] at h
      obtain ⟨⟨n, e⟩, hop, S1, he, h⟩ := h
      obtain ⟨e1, e2, e3⟩ := eff_get he
      have hput : ∀ (a : Act) v, (a.put o.dst v).defers = a.defers := fun a v => by cases o.dst <;> rfl
      cases n with
      | value x =>
        simp only [Option.bind_eq_some_iff] at h
        obtain ⟨tm1, h1, h⟩ := h
        obtain ⟨i1, i2⟩ := ih tm1 S1 p tm' S' h
        refine ⟨e3.trans i1, fun B lim ρ w a Q hl hr ht hn hp => ?_⟩
        simp only [wpList, wanted_ok ht hb, if_true]
        refine .inl ?_
        obtain ⟨ρ1, w1, r1, r2, v', r3, r4⟩ := opA_ok hE hr (Nat.lt_of_le_of_lt (Nat.le_trans e3.next i1.next) hl) ht hop
        have hth : Then P B lim S S1 ρ ρ1 w w1 := ⟨by rw [e1, e2]; exact r1, by rw [e1, e2]; exact r2⟩
        unfold Oper.wp
        rw [r3]
        exact i2 B lim ρ1 w1 (a.put o.dst v') Q hl hth.1 (trel_put hN (ht.mono hth.2.le) h1 r4) (fun e ρ' a' w' x y z => hn e ρ' a' w' (hth.trans x) y (z.trans (hput _ _))) (fun x e ρ' a' w' v' p1 p2 p3 => hp x e ρ' a' w' v' (hth.trans p1) p2 (p3.trans (hput _ _)))
      | skip =>
        simp only [Option.bind_eq_some_iff] at h
        obtain ⟨tm1, h1, h⟩ := h
        obtain ⟨i1, i2⟩ := ih tm1 S1 p tm' S' h
        refine ⟨e3.trans i1, fun B lim ρ w a Q hl hr ht hn hp => ?_⟩
        simp only [wpList, wanted_ok ht hb, if_true]
        refine .inl ?_
        obtain ⟨ρ1, w1, r1, r2, r3⟩ := opA_ok hE hr (Nat.lt_of_le_of_lt (Nat.le_trans e3.next i1.next) hl) ht hop
        have hth : Then P B lim S S1 ρ ρ1 w w1 := ⟨by rw [e1, e2]; exact r1, by rw [e1, e2]; exact r2⟩
        have r3 : (execOp a.eval o).run P w = .ok .skip w1 := r3
        unfold Oper.wp
        rw [r3]
        exact i2 B lim ρ1 w1 (a.put o.dst undef) Q hl hth.1 (trel_put hN (ht.mono hth.2.le) h1 (vr_undef ρ1)) (fun e ρ' a' w' x y z => hn e ρ' a' w' (hth.trans x) y (z.trans (hput _ _))) (fun x e ρ' a' w' v' p1 p2 p3 => hp x e ρ' a' w' v' (hth.trans p1) p2 (p3.trans (hput _ _)))
      | enter f args =>
        simp only [Option.bind_eq_some_iff] at h
        obtain ⟨⟨en, S2⟩, hc, h⟩ := h
        obtain ⟨c1, c2⟩ := hcall f args S1 en S2 hc
        cases en with
        | ret x =>
          simp only [Option.bind_eq_some_iff] at h
          obtain ⟨tm1, h1, h⟩ := h
          obtain ⟨i1, i2⟩ := ih tm1 S2 p tm' S' h
          refine ⟨e3.trans (c1.trans i1), fun B lim ρ w a Q hl hr ht hn hp => ?_⟩
          simp only [wpList, wanted_ok ht hb, if_true]
          refine .inl ?_
          have hl2 : S2.next < lim := Nat.lt_of_le_of_lt i1.next hl
          obtain ⟨ρ1, w1, r1, r2, args', r3, r4⟩ := opA_ok hE hr (Nat.lt_of_le_of_lt (Nat.le_trans e3.next c1.next) hl2) ht hop
          have hth : Then P B lim S S1 ρ ρ1 w w1 := ⟨by rw [e1, e2]; exact r1, by rw [e1, e2]; exact r2⟩
          unfold Oper.wp
          rw [r3]
          refine (c2 B lim ρ1 w1 args'.toList hl2 hth.1 r4).mono ?_
          rintro en w2 ⟨ρ2, h12, hen⟩
          cases en with
          | returned v' =>
            have hth2 := hth.trans h12
            exact i2 B lim ρ2 w2 (a.put o.dst v') Q hl hth2.1 (trel_put hN (ht.mono hth2.2.le) h1 hen) (fun e ρ' a' w' x y z => hn e ρ' a' w' (hth2.trans x) y (z.trans (hput _ _))) (fun x e ρ' a' w' v' p1 p2 p3 => hp x e ρ' a' w' v' (hth2.trans p1) p2 (p3.trans (hput _ _)))
          | panicked c => exact hen.elim
          | outgrown => exact hen.elim
        | panic x =>
          simp only [Option.some.injEq, Prod.mk.injEq] at h
          obtain ⟨rfl, rfl, rfl⟩ := h
          refine ⟨e3.trans c1, fun B lim ρ w a Q hl hr ht hn hp => ?_⟩
          simp only [wpList, wanted_ok ht hb, if_true]
          refine .inl ?_
          obtain ⟨ρ1, w1, r1, r2, args', r3, r4⟩ := opA_ok hE hr (Nat.lt_of_le_of_lt (Nat.le_trans e3.next c1.next) hl) ht hop
          have hth : Then P B lim S S1 ρ ρ1 w w1 := ⟨by rw [e1, e2]; exact r1, by rw [e1, e2]; exact r2⟩
          unfold Oper.wp
          rw [r3]
          refine (c2 B lim ρ1 w1 args'.toList hl hth.1 r4).mono ?_
          rintro en w2 ⟨ρ2, h12, hen⟩
          cases en with
          | returned v' => exact hen.elim
          | panicked c =>
            obtain ⟨v', rfl, hv'⟩ := hen
            exact hp x rfl ρ2 a w2 v' (hth.trans h12) hv' rfl
          | outgrown => exact hen.elim
      | panic x =>
        simp only [Option.some.injEq, Prod.mk.injEq] at h
        obtain ⟨rfl, rfl, rfl⟩ := h
        refine ⟨e3, fun B lim ρ w a Q hl hr ht hn hp => ?_⟩
        simp only [wpList, wanted_ok ht hb, if_true]
        refine .inl ?_
        obtain ⟨ρ1, w1, r1, r2, v', r3, r4⟩ := opA_ok hE hr (Nat.lt_of_le_of_lt e3.next hl) ht hop
        have hth : Then P B lim S S1 ρ ρ1 w w1 := ⟨by rw [e1, e2]; exact r1, by rw [e1, e2]; exact r2⟩
        unfold Oper.wp
        rw [r3]
        exact hp x rfl ρ1 a w1 v' hth r4 rfl
end
end Go.Sx
