/- The evaluator: what is known of a drawn region that was evaluated. -/
import Derived.Test.YtbjncdcfojjacaaGreatSxR
namespace Go.Sx
open Go Go.RowKit

def core (r : Rec) : Rec := { r with alt := none }
def CoreEq : List Rec → List Rec → Prop
  | [], [] => True
  | a :: l, b :: m => core a = core b ∧ CoreEq l m
  | _, _ => False
theorem CoreEq.refl : ∀ l, CoreEq l l
  | [] => trivial
  | _ :: l => ⟨rfl, CoreEq.refl l⟩
theorem CoreEq.length : ∀ {l m}, CoreEq l m → m.length = l.length
  | [], [], _ => rfl
  | _ :: _, _ :: _, h => by simp [CoreEq.length h.2]
  | [], _ :: _, h => h.elim
  | _ :: _, [], h => h.elim
theorem core_fields {a b : Rec} (h : core a = core b) : a.i = b.i ∧ a.mask = b.mask ∧ a.rd = b.rd ∧ a.wr = b.wr ∧ a.delta = b.delta ∧ a.v = b.v ∧ a.o = b.o ∧ a.tm = b.tm ∧ a.view = b.view ∧ a.nx = b.nx ∧ a.fin = b.fin := by
  cases a; cases b; simp [core] at h; simp [h]
theorem CoreEq.get : ∀ {l m}, CoreEq l m → ∀ (i : Nat) (r : Rec), m[i]? = some r → ∃ q, l[i]? = some q ∧ core q = core r
  | [], [], _, i, r, h => by simp at h
  | a :: l, b :: m, h, 0, r, hr => by simp at hr; subst hr; exact ⟨a, rfl, h.1⟩
  | _ :: l, _ :: m, h, i + 1, r, hr => by simpa using CoreEq.get h.2 i r (by simpa using hr)
  | [], _ :: _, h, _, _, _ => h.elim
  | _ :: _, [], h, _, _, _ => h.elim
theorem CoreEq.take : ∀ {l m}, CoreEq l m → ∀ i, CoreEq (l.take i) (m.take i)
  | [], [], _, i => by simp [CoreEq]
  | a :: l, b :: m, h, 0 => trivial
  | _ :: l, _ :: m, h, i + 1 => ⟨h.1, CoreEq.take h.2 i⟩
  | [], _ :: _, h, _ => h.elim
  | _ :: _, [], h, _ => h.elim
theorem CoreEq.tm : ∀ {l m}, CoreEq l m → ∀ f, tmR f l = tmR f m
  | [], [], _, f => rfl
  | a :: l, b :: m, h, f => by
    obtain ⟨_, _, _, _, _, hv, ho, _⟩ := core_fields h.1
    simp only [tmR, hv, ho]
    exact CoreEq.tm h.2 _
  | [], _ :: _, h, _ => h.elim
  | _ :: _, [], h, _ => h.elim
theorem CoreEq.view (mask : Nat) : ∀ {l m}, CoreEq l m → ∀ h0, viewD h0 mask l = viewD h0 mask m
  | [], [], _, f => rfl
  | a :: l, b :: m, h, f => by
    obtain ⟨hi, _, _, _, hd, _⟩ := core_fields h.1
    simp only [viewD, hi, hd]
    cases mask.testBit b.i <;> exact CoreEq.view mask h.2 _
  | [], _ :: _, h, _ => h.elim
  | _ :: _, [], h, _ => h.elim
theorem CoreEq.fin : ∀ {l m}, CoreEq l m → ∀ n, (∀ r ∈ l, r.fin < n) → ∀ r ∈ m, r.fin < n
  | [], [], _, _, _, r, hr => by cases hr
  | a :: l, b :: m, h, n, hf, r, hr => by
    cases hr with
    | head => have := hf a List.mem_cons_self; rw [(core_fields h.1).2.2.2.2.2.2.2.2.2.2] at this; exact this
    | tail _ hr => exact CoreEq.fin h.2 n (fun x hx => hf x (List.mem_cons_of_mem _ hx)) r hr
  | [], _ :: _, h, _, _, _, _ => h.elim
  | _ :: _, [], h, _, _, _, _ => h.elim

section
variable (E : Env) (P : Program) (call : CallF) (N : Nat) (all : Array Oper) (h0 : Tr AObj) (tm0 : TT) (nx0 : Nat)

def AltOk (r : Rec) (delta : List (Nat × Option AObj)) : Prop :=
  ∃ foot, r.rd = some foot ∧ r.wr = [] ∧ r.delta = [] ∧ opA E P (looked all r.o r.tm) (behind foot r.view delta) r.nx r.o = some (.value r.v, .none)
def PairOk (i : Nat) (r rk : Rec) : Prop := meets rk.wr r.rd = false ∧ (meets r.wr rk.rd = false ∨ (rk.alt = some (i, r.delta) ∧ AltOk E P all rk r.delta))
def DidOk (r : Rec) (pre : List Rec) : Prop :=
  (wantedA (looked all r.o r.tm) all r.o = some false ∧ r.v = undef ∧ r.rd = some [] ∧ r.wr = [] ∧ r.delta = [] ∧ r.fin = r.nx) ∨
  (wantedA (looked all r.o r.tm) all r.o = some true ∧ r.view = viewD h0 r.mask pre ∧ wrOk r.view r.nx r.rd r.wr = true ∧
    ((∃ foot n e, r.rd = some foot ∧ opA E P (looked all r.o r.tm) (within foot r.view) r.nx r.o = some (n, e) ∧ (n = .value r.v ∨ (n = .skip ∧ r.v = undef)) ∧ r.wr = effWr e ∧ r.delta = effD e r.nx ∧ r.fin = e.nx r.nx) ∨
     (∃ foot f args S', r.rd = none ∧ opA E P (looked all r.o r.tm) (within foot r.view) r.nx r.o = some (.enter f args, .none) ∧ call f args ⟨r.view, r.nx, r.nx, []⟩ = some (.ret r.v, S') ∧ r.wr = S'.wr ∧
        r.delta = (S'.wr.map fun k => (k, S'.heap.get k)) ++ newsD S'.heap r.nx (S'.next - r.nx) ∧ r.fin = S'.next ∧ S'.next < big)))
def MaskOk (recs : List Rec) (i : Nat) (r : Rec) : Prop :=
  (∀ e ∈ r.o.after.toList, Region.binds .any e = true → e.on < i ∧ r.mask.testBit e.on = true ∧ ∀ q, recs[e.on]? = some q → ∀ k, q.mask.testBit k = true → r.mask.testBit k = true) ∧
  ∀ k, r.mask.testBit k = true → k < i ∧ ∃ e ∈ r.o.after.toList, Region.binds .any e = true ∧ (k = e.on ∨ ∃ q, recs[e.on]? = some q ∧ q.mask.testBit k = true)
structure GoodD (before : List Oper) (ms : List Nat) (recs : List Rec) (tm : TT) (nx : Nat) : Prop where
  len : recs.length = before.length
  ms : ms = recs.map (·.mask)
  at_ : ∀ (i : Nat) (r : Rec), recs[i]? = some r → r.i = i ∧ before[i]? = some r.o
  mask : ∀ (i : Nat) (r : Rec), recs[i]? = some r → MaskOk recs i r
  apart : ∀ (i : Nat) (r : Rec) (k : Nat) (rk : Rec), recs[i]? = some r → k < i → recs[k]? = some rk → r.mask.testBit k = true ∨ rk.o.apart all r.o = true
  tms : ∀ (i : Nat) (r : Rec), recs[i]? = some r → r.tm.get = tmR tm0.get (recs.take i)
  tmF : tm.get = tmR tm0.get recs
  dst : ∀ (i : Nat) (r : Rec) (d : Tmp), recs[i]? = some r → r.o.dst = some d → Nat.blt d N = true
  nxs : ∀ (i : Nat) (r : Rec), recs[i]? = some r → nx0 ≤ r.nx ∧ r.nx ≤ r.fin ∧ r.nx < big ∧ ∀ q ∈ recs.take i, q.fin < r.nx
  nxF : nx0 ≤ nx ∧ ∀ r ∈ recs, r.fin < nx
  did : ∀ (i : Nat) (r : Rec), recs[i]? = some r → DidOk E P call all h0 r (recs.take i)
  pair : ∀ (i : Nat) (r : Rec) (k : Nat) (rk : Rec), recs[i]? = some r → k < i → recs[k]? = some rk → r.mask.testBit k = false → PairOk E P all i r rk

variable {E P call N all h0 tm0 nx0}
theorem sameInts_eq : ∀ {a b : List Value}, sameInts a b = true → a = b
  | [], [], _ => rfl
  | .int k x :: l, .int k' y :: l', h => by
    simp [sameInts] at h
    obtain ⟨⟨rfl, rfl⟩, h⟩ := h
    rw [sameInts_eq h]
  | [], _ :: _, h => by simp [sameInts] at h
  | _ :: _, [], h => by simp [sameInts] at h
theorem sameV_eq {a b : Value} (h : sameV a b = true) : a = b := by
  unfold sameV at h
  split at h
  · simp at h; obtain ⟨rfl, rfl⟩ := h; rfl
  · simp at h
    obtain ⟨⟨rfl, h1⟩, h2⟩ := h
    rw [Array.toList_inj.1 (sameInts_eq h1), Array.toList_inj.1 (sameInts_eq h2)]
  · simp at h; subst h; rfl
  · simp at h; subst h; rfl
  · simp at h; subst h; rfl
  · simp at h; obtain ⟨⟨rfl, rfl⟩, rfl⟩ := h; rfl
  · cases h
theorem recheck_ok {r : Rec} {delta : List (Nat × Option AObj)} (h : recheck E P all r delta = true) : r.alt = none ∧ AltOk E P all r delta := by
  unfold recheck at h
  split at h
  · rename_i foot h1 h2 h3 h4
    split at h
    · rename_i v hv
      have := sameV_eq h
      subst this
      exact ⟨h4, foot, h1, h2, h3, hv⟩
    · cases h
  · cases h
theorem calmD_ok {i mask : Nat} {rd : Option (List Nat)} {wr : List Nat} {delta : List (Nat × Option AObj)} : ∀ {l l' : List Rec}, calmD E P all i mask rd wr delta l = some l' → CoreEq l l' ∧
    ∀ (k : Nat) (q r : Rec), l[k]? = some q → l'[k]? = some r → (r = q ∧ (mask.testBit q.i = true ∨ (meets q.wr rd = false ∧ meets wr q.rd = false))) ∨
      (r = { q with alt := some (i, delta) } ∧ q.alt = none ∧ meets q.wr rd = false ∧ AltOk E P all q delta)
  | [], l', h => by simp [calmD] at h; subst h; exact ⟨trivial, fun k q r h => by simp at h⟩
  | a :: l, l', h => by
    simp only [calmD, Option.bind_eq_some_iff] at h
    obtain ⟨m, hm, h⟩ := h
    obtain ⟨i1, i2⟩ := calmD_ok hm
    cases ht : mask.testBit a.i with
    | true =>
      simp only [ht, Option.some.injEq] at h; subst h
      refine ⟨⟨rfl, i1⟩, fun k q r h1 h2 => ?_⟩
      cases k with
      | zero => simp at h1 h2; subst h1; subst h2; exact .inl ⟨rfl, .inl ht⟩
      | succ k => exact i2 k q r (by simpa using h1) (by simpa using h2)
    | false =>
      simp only [ht] at h
      cases h1 : meets a.wr rd with
      | true => cases h2 : meets wr a.rd <;> simp [h1, h2] at h
      | false =>
        cases h2 : meets wr a.rd with
        | false =>
          simp only [h1, h2, Option.some.injEq] at h; subst h
          refine ⟨⟨rfl, i1⟩, fun k q r g1 g2 => ?_⟩
          cases k with
          | zero => simp at g1 g2; subst g1; subst g2; exact .inl ⟨rfl, .inr ⟨h1, h2⟩⟩
          | succ k => exact i2 k q r (by simpa using g1) (by simpa using g2)
        | true =>
          cases h3 : recheck E P all a delta with
          | false => simp [h1, h2, h3] at h
          | true =>
            simp only [h1, h2, h3, Option.some.injEq] at h; subst h
            refine ⟨⟨rfl, i1⟩, fun k q r g1 g2 => ?_⟩
            cases k with
            | zero =>
              simp at g1 g2; subst g1; subst g2
              obtain ⟨b1, b2⟩ := recheck_ok h3
              exact .inr ⟨rfl, b1, h1, b2⟩
            | succ k => exact i2 k q r (by simpa using g1) (by simpa using g2)
theorem maskOf_ok {ms : List Nat} : ∀ (l : List Edge) (m0 m : Nat), maskOf ms l m0 = some m →
    (∀ k, m0.testBit k = true → m.testBit k = true) ∧ (∀ e ∈ l, Region.binds .any e = true → e.on < ms.length ∧ m.testBit e.on = true ∧ ∀ q, ms[e.on]? = some q → ∀ k, q.testBit k = true → m.testBit k = true) ∧
    ∀ k, m.testBit k = true → m0.testBit k = true ∨ ∃ e ∈ l, Region.binds .any e = true ∧ (k = e.on ∨ ∃ q, ms[e.on]? = some q ∧ q.testBit k = true)
  | [], m0, m, h => by simp [maskOf] at h; subst h; exact ⟨fun k h => h, fun e he _ => (by cases he), fun k h => Or.inl h⟩
  | e :: l, m0, m, h => by
    unfold maskOf at h
    cases hb : Region.binds .any e with
    | false =>
      simp only [hb] at h
      obtain ⟨h1, h2, h3⟩ := maskOf_ok l m0 m h
      refine ⟨h1, fun x hx hxb => ?_, fun k hk => ?_⟩
      · cases hx with
        | head => rw [hb] at hxb; cases hxb
        | tail _ hx => exact h2 x hx hxb
      · rcases h3 k hk with h | ⟨x, hx, h⟩
        · exact .inl h
        · exact .inr ⟨x, List.mem_cons_of_mem _ hx, h⟩
    | true =>
      simp only [hb, Option.bind_eq_some_iff] at h
      obtain ⟨q, hq, h⟩ := h
      obtain ⟨h1, h2, h3⟩ := maskOf_ok l _ m h
      have hlt : e.on < ms.length := (List.getElem?_eq_some_iff.1 hq).1
      have hbit : m.testBit e.on = true := h1 _ (by simp [Nat.testBit_or, Nat.testBit_two_pow_self])
      refine ⟨fun k hk => h1 k (by simp [Nat.testBit_or, hk]), fun x hx hxb => ?_, fun k hk => ?_⟩
      · cases hx with
        | head => exact ⟨hlt, hbit, fun q' hq' k hk => by rw [hq] at hq'; cases hq'; exact h1 k (by simp [Nat.testBit_or, hk])⟩
        | tail _ hx => exact h2 x hx hxb
      · rcases h3 k hk with h | ⟨x, hx, h⟩
        · simp only [Nat.testBit_or, Bool.or_eq_true] at h
          rcases h with h | h | h
          · exact .inl h
          · exact .inr ⟨e, List.mem_cons_self, hb, .inr ⟨q, hq, h⟩⟩
          · rw [Nat.testBit_two_pow] at h
            have h' : e.on = k := by simpa using h
            exact .inr ⟨e, List.mem_cons_self, hb, .inl h'.symm⟩
        · exact .inr ⟨x, List.mem_cons_of_mem _ hx, h⟩
theorem apartD_ok {ops : Array Oper} {mask : Nat} {o : Oper} : ∀ (l : List Oper) (k : Nat), apartD ops mask o k l = true → ∀ j x, l[j]? = some x → mask.testBit (k + j) = true ∨ x.apart ops o = true
  | [], _, _, j, x, h => by simp at h
  | a :: l, k, h, 0, x, hx => by
    simp only [apartD, Bool.and_eq_true, Bool.or_eq_true] at h
    simp at hx; subst hx; exact h.1
  | a :: l, k, h, j + 1, x, hx => by
    simp only [apartD, Bool.and_eq_true, Bool.or_eq_true] at h
    have := apartD_ok l (k + 1) h.2 j x (by simpa using hx)
    rwa [show k + 1 + j = k + (j + 1) by omega] at this
theorem tset_get {tm tm1 : TT} {dst : Option Tmp} {v : Value} (hN : N < big) (h : tset N tm dst v = some tm1) : (tm1.get = fun t => if dst = some t then some v else tm.get t) ∧ ∀ d, dst = some d → Nat.blt d N = true := by
  unfold tset at h
  cases dst with
  | none => simp at h; subst h; exact ⟨by funext t; simp, fun d h => by cases h⟩
  | some d =>
    cases hd : Nat.blt d N with
    | false => simp [hd] at h
    | true =>
      simp only [hd, Option.some.injEq] at h; subst h
      have := blt_true hd
      refine ⟨?_, fun d' e => by have e : some d = some d' := e; cases e; exact hd⟩
      funext t
      rw [Tr.get_put 40 tm d (some v) t (by have := Nat.lt_trans this hN; unfold big at this; omega)]
      by_cases e : t = d
      · subst e; simp
      · have e' : ¬ (some d = some t) := fun h => e (by cases h; rfl)
        rw [if_neg e, if_neg e']

/-- one operation more -/
theorem GoodD.snoc (hN : N < big) {before : List Oper} {ms : List Nat} {recs recs1 : List Rec} {tm tm1 : TT} {nx mask : Nat} {o : Oper} {r : Rec} (g : GoodD E P call N all h0 tm0 nx0 before ms recs tm nx)
    (hmask : maskOf ms o.after.toList 0 = some mask) (hap : apartD all mask o 0 before = true) (hnx : nx < big) (ht : tset N tm o.dst r.v = some tm1)
    (hi : r.i = before.length) (hm : r.mask = mask) (ho : r.o = o) (htm : r.tm = tm) (hrn : r.nx = nx) (hfin : r.nx ≤ r.fin)
    (hc : CoreEq recs recs1) (hdid : DidOk E P call all h0 r recs)
    (hpair : ∀ (k : Nat) (q r' : Rec), recs[k]? = some q → recs1[k]? = some r' → (r' = q ∧ (mask.testBit q.i = true ∨ (meets q.wr r.rd = false ∧ meets r.wr q.rd = false))) ∨
      (r' = { q with alt := some (before.length, r.delta) } ∧ q.alt = none ∧ meets q.wr r.rd = false ∧ AltOk E P all q r.delta)) :
    GoodD E P call N all h0 tm0 nx0 (before ++ [o]) (ms ++ [mask]) (recs1 ++ [r]) tm1 (r.fin + 1) := by
  subst hm ho htm hrn
  have hlen : recs1.length = before.length := by rw [hc.length, g.len]
  have old : ∀ (i : Nat) (x : Rec), (recs1 ++ [r])[i]? = some x → (∃ q : Rec, recs[i]? = some q ∧ core q = core x ∧ recs1[i]? = some x ∧ i < before.length) ∨ (i = before.length ∧ x = r) := by
    intro i x h
    by_cases hlt : i < recs1.length
    · rw [List.getElem?_append_left hlt] at h
      obtain ⟨q, h1, h2⟩ := hc.get i x h
      exact .inl ⟨q, h1, h2, h, by omega⟩
    · rw [List.getElem?_append_right (by omega)] at h
      cases hz : i - recs1.length with
      | zero => rw [hz] at h; simp at h; exact .inr ⟨by omega, h.symm⟩
      | succ m => rw [hz] at h; simp at h
  have htake : ∀ i, i ≤ before.length → (recs1 ++ [r]).take i = recs1.take i := fun i hi => List.take_append_of_le_length (by omega)
  obtain ⟨t1, t2⟩ := tset_get hN ht
  obtain ⟨m1, m2, m3⟩ := maskOf_ok _ _ _ hmask
  have hmget : ∀ (j : Nat) (q : Nat), ms[j]? = some q → ∃ x, recs[j]? = some x ∧ x.mask = q := by
    intro j q h
    rw [g.ms, List.getElem?_map] at h
    cases hx : recs[j]? with
    | none => simp [hx] at h
    | some x => simp [hx] at h; exact ⟨x, rfl, h⟩
  have up : ∀ (j : Nat) (x : Rec), recs[j]? = some x → ∃ y : Rec, (recs1 ++ [r])[j]? = some y ∧ core x = core y := by
    intro j x h
    have hlt : j < recs1.length := by rw [hlen, ← g.len]; exact (List.getElem?_eq_some_iff.1 h).1
    obtain ⟨y, hy⟩ : ∃ y, recs1[j]? = some y := ⟨recs1[j], List.getElem?_eq_getElem hlt⟩
    obtain ⟨q, h1, h2⟩ := hc.get j y hy
    rw [h] at h1; cases h1
    exact ⟨y, by rw [List.getElem?_append_left hlt]; exact hy, h2⟩
  refine ⟨by simp [hlen], ?_, ?_, ?_, ?_, ?_, ?_, ?_, ?_, ?_, ?_, ?_⟩
  · rw [List.map_append, g.ms]
    congr 1
    apply List.ext_getElem?
    intro j
    rw [List.getElem?_map, List.getElem?_map]
    cases hj : recs1[j]? with
    | none => rw [List.getElem?_eq_none_iff] at hj; rw [List.getElem?_eq_none_iff.2 (by rw [g.len]; omega)]
    | some y => obtain ⟨q, h1, h2⟩ := hc.get j y hj; rw [h1]; simp [(core_fields h2).2.1]
  · intro i x h
    rcases old i x h with ⟨q, h1, h2, _, h4⟩ | ⟨rfl, rfl⟩
    · obtain ⟨a1, a2⟩ := g.at_ i q h1
      have cf := core_fields h2
      exact ⟨cf.1 ▸ a1, by rw [List.getElem?_append_left h4, a2, cf.2.2.2.2.2.2.1]⟩
    · exact ⟨hi, by simp⟩
  · intro i x h
    rcases old i x h with ⟨q, h1, h2, _, h4⟩ | ⟨rfl, rfl⟩
    · obtain ⟨a1, a2⟩ := g.mask i q h1
      have cf := core_fields h2
      refine ⟨fun e he hb => ?_, fun k hk => ?_⟩
      · rw [← cf.2.2.2.2.2.2.1] at he; rw [← cf.2.1]
        obtain ⟨b1, b2, b3⟩ := a1 e he hb
        refine ⟨b1, b2, fun y hy k hk => ?_⟩
        rcases old _ y hy with ⟨q', c1, c2, _, _⟩ | ⟨hl, rfl⟩
        · exact b3 q' c1 k ((core_fields c2).2.1 ▸ hk)
        · omega
      · rw [← cf.2.1] at hk
        obtain ⟨b1, e, b2, b3, b4⟩ := a2 k hk
        rw [cf.2.2.2.2.2.2.1] at b2
        refine ⟨b1, e, b2, b3, b4.imp_right fun ⟨q', c1, c2⟩ => ?_⟩
        obtain ⟨y, d1, d2⟩ := up _ _ c1
        exact ⟨y, d1, (core_fields d2).2.1 ▸ c2⟩
    · refine ⟨fun e he hb => ?_, fun k hk => ?_⟩
      · have := m2 e he hb
        refine ⟨by rw [g.ms, List.length_map, g.len] at this; exact this.1, this.2.1, fun y hy k hk => ?_⟩
        rcases old _ y hy with ⟨q', c1, c2, _, _⟩ | ⟨hl, rfl⟩
        · refine this.2.2 q'.mask (by rw [g.ms, List.getElem?_map, c1]; rfl) k ?_
          rw [(core_fields c2).2.1]; exact hk
        · rw [g.ms, List.length_map, g.len] at this; omega
      · rcases m3 k hk with h | ⟨e, h1, h2, h3⟩
        · simp at h
        · have he := (m2 e h1 h2).1
          rw [g.ms, List.length_map, g.len] at he
          refine ⟨?_, e, h1, h2, ?_⟩
          · rcases h3 with rfl | ⟨q, hq, hk'⟩
            · exact he
            · obtain ⟨x', hx, rfl⟩ := hmget _ _ hq
              have := ((g.mask _ _ hx).2 k hk').1
              omega
          · rcases h3 with rfl | ⟨q, hq, hk'⟩
            · exact .inl rfl
            · obtain ⟨x', hx, rfl⟩ := hmget _ _ hq
              obtain ⟨y, d1, d2⟩ := up _ _ hx
              exact .inr ⟨y, d1, (core_fields d2).2.1 ▸ hk'⟩
  · intro i x k y h hk hy
    rcases old i x h with ⟨q, h1, h2, _, h4⟩ | ⟨rfl, rfl⟩
    · rcases old k y hy with ⟨q', g1, g2, _, g4⟩ | ⟨rfl, _⟩
      · have c1 := core_fields h2
        have c2 := core_fields g2
        have := g.apart i q k q' h1 hk g1
        rwa [c1.2.1, c1.2.2.2.2.2.2.1, c2.2.2.2.2.2.2.1] at this
      · omega
    · rcases old k y hy with ⟨q', g1, g2, _, g4⟩ | ⟨rfl, _⟩
      · have c2 := core_fields g2
        have := apartD_ok before 0 hap k q'.o (g.at_ k q' g1).2
        rw [Nat.zero_add, c2.2.2.2.2.2.2.1] at this
        exact this
      · omega
  · intro i x h
    rcases old i x h with ⟨q, h1, h2, _, h4⟩ | ⟨rfl, rfl⟩
    · rw [htake i (by omega), ← (core_fields h2).2.2.2.2.2.2.2.1, g.tms i q h1, (hc.take i).tm]
    · rw [htake _ (Nat.le_refl _), List.take_of_length_le (by omega), g.tmF, hc.tm]
  · rw [tmR_append, t1]
    funext t
    simp only [tmR, ← hc.tm, ← g.tmF]
  · intro i x d h hd
    rcases old i x h with ⟨q, h1, h2, _, h4⟩ | ⟨rfl, rfl⟩
    · exact g.dst i q d h1 (by rw [(core_fields h2).2.2.2.2.2.2.1]; exact hd)
    · exact t2 d hd
  · intro i x h
    rcases old i x h with ⟨q, h1, h2, _, h4⟩ | ⟨rfl, rfl⟩
    · obtain ⟨a1, a2, a3, a4⟩ := g.nxs i q h1
      have c := core_fields h2
      rw [htake i (by omega), ← c.2.2.2.2.2.2.2.2.2.1, ← c.2.2.2.2.2.2.2.2.2.2]
      exact ⟨a1, a2, a3, (hc.take i).fin _ a4⟩
    · rw [htake _ (Nat.le_refl _), List.take_of_length_le (by omega)]
      exact ⟨g.nxF.1, hfin, hnx, hc.fin _ g.nxF.2⟩
  · refine ⟨by have := g.nxF.1; omega, fun x hx => ?_⟩
    rcases List.mem_append.1 hx with hx | hx
    · have := hc.fin _ g.nxF.2 x hx; omega
    · simp at hx; subst hx; omega
  · intro i x h
    rcases old i x h with ⟨q, h1, h2, _, h4⟩ | ⟨rfl, rfl⟩
    · have c := core_fields h2
      have := g.did i q h1
      rw [htake i (by omega)]
      unfold DidOk at this ⊢
      rw [c.2.1, c.2.2.1, c.2.2.2.1, c.2.2.2.2.1, c.2.2.2.2.2.1, c.2.2.2.2.2.2.1, c.2.2.2.2.2.2.2.1, c.2.2.2.2.2.2.2.2.1, c.2.2.2.2.2.2.2.2.2.1, c.2.2.2.2.2.2.2.2.2.2, (hc.take i).view] at this
      exact this
    · rw [htake _ (Nat.le_refl _), List.take_of_length_le (by omega)]
      unfold DidOk at hdid ⊢
      rw [hc.view] at hdid
      exact hdid
  · intro i x k y h hk hy hbit
    have kold : ∀ (x : Rec), k < before.length → ∃ q', recs[k]? = some q' ∧ core q' = core y ∧ recs1[k]? = some y := fun _ hk => by
      rcases old k y hy with ⟨q', g1, g2, g3, g4⟩ | ⟨rfl, _⟩
      · exact ⟨q', g1, g2, g3⟩
      · omega
    rcases old i x h with ⟨q, h1, h2, _, h4⟩ | ⟨rfl, rfl⟩
    · obtain ⟨q', g1, g2, g3⟩ := kold x (by omega)
      have c1 := core_fields h2
      have c2 := core_fields g2
      obtain ⟨p1, p2⟩ := g.pair i q k q' h1 hk g1 (by rw [c1.2.1]; exact hbit)
      rw [c2.2.2.2.1, c1.2.2.1] at p1
      rw [c1.2.2.2.1, c2.2.2.1] at p2
      refine ⟨p1, p2.imp_right fun ⟨a1, a2⟩ => ?_⟩
      rcases hpair k q' y g1 g3 with ⟨rfl, _⟩ | ⟨_, e, _⟩
      · rw [c1.2.2.2.2.1] at a1 a2; exact ⟨a1, a2⟩
      · rw [e] at a1; cases a1
    · obtain ⟨q', g1, g2, g3⟩ := kold x (by omega)
      have hqi := (g.at_ k q' g1).1
      rcases hpair k q' y g1 g3 with ⟨rfl, h | ⟨h, h'⟩⟩ | ⟨rfl, e, h, h'⟩
      · rw [hqi, hbit] at h; cases h
      · exact ⟨h, .inl h'⟩
      · exact ⟨h, .inr ⟨rfl, h'⟩⟩
end
end Go.Sx
