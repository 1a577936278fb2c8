/- The evaluator: numbers that are not known, as sums. -/
import Derived.Test.YtbjncdcfojjacaaGreatSxA
namespace Go.Sx
open Go Go.RowKit

structure Lin where
  c : Int
  ts : List Term

def Lin.of : Value → Option (IntKind × Lin)
  | .int k n => some (k, ⟨n, []⟩)
  | .func (.yield _) ⟨fi⟩ ⟨[.int k c]⟩ => (termsOf fi).bind fun ts => some (k, ⟨c, ts⟩)
  | _ => none
def quads : List Term → List Value
  | [] => []
  | t :: r => .int .i64 t.q :: .int .i64 t.i :: .int .i64 t.lo :: .int .i64 t.hi :: quads r
def Lin.to (k : IntKind) (l : Lin) : Value :=
  match l.ts with
  | [] => .int k l.c
  | t :: r => .func (.yield 0) ⟨quads (t :: r)⟩ ⟨[.int k l.c]⟩

def xs (ρ : Ren) (i : Nat) : Int := (symAt ρ i).getD 0
def lsum (x : Nat → Int) : List Term → Int
  | [] => 0
  | t :: r => t.q * x t.i + lsum x r
def Lin.val (x : Nat → Int) (l : Lin) : Int := l.c + lsum x l.ts
def TOk (ρ : Ren) (t : Term) : Prop := symAt ρ t.i = some (xs ρ t.i) ∧ t.lo ≤ xs ρ t.i ∧ xs ρ t.i ≤ t.hi
def GoodT (ρ : Ren) (ts : List Term) : Prop := ∀ t ∈ ts, TOk ρ t

theorem good_nil (ρ : Ren) : GoodT ρ [] := fun _ ht => absurd ht (List.not_mem_nil)
theorem sumT_iff {ρ : Ren} : ∀ (ts : List Term) (s : Int), sumT ρ ts = some s ↔ GoodT ρ ts ∧ s = lsum (xs ρ) ts
  | [], s => by simp [sumT, lsum, GoodT, eq_comm]
  | t :: r, s => by
    simp only [sumT, Option.bind_eq_some_iff, lsum]
    constructor
    · rintro ⟨x, hx, h⟩
      split at h
      · rename_i hb
        simp only [Option.bind_eq_some_iff, Option.some.injEq] at h
        obtain ⟨s', hs, rfl⟩ := h
        obtain ⟨g, rfl⟩ := (sumT_iff r s').1 hs
        have e : xs ρ t.i = x := by simp [xs, hx]
        refine ⟨fun u hu => ?_, by rw [e]⟩
        cases hu with
        | head => exact ⟨by rw [e]; exact hx, by rw [e]; exact hb.1, by rw [e]; exact hb.2⟩
        | tail _ hu => exact g u hu
      · cases h
    · rintro ⟨g, rfl⟩
      obtain ⟨h1, h2, h3⟩ := g t List.mem_cons_self
      refine ⟨xs ρ t.i, h1, ?_⟩
      rw [if_pos ⟨h2, h3⟩, (sumT_iff r _).2 ⟨fun u hu => g u (List.mem_cons_of_mem _ hu), rfl⟩]
      rfl
theorem termsOf_quads : ∀ (ts : List Term), termsOf (quads ts) = some ts
  | [] => rfl
  | t :: r => by simp [quads, termsOf, termsOf_quads r]
theorem Lin.of_ok {ρ : Ren} {v v' : Value} {k : IntKind} {l : Lin} (h : Lin.of v = some (k, l)) (hv : VR ρ v v') : GoodT ρ l.ts ∧ v' = .int k (l.val (xs ρ)) := by
  unfold Lin.of at h
  split at h
  · simp only [Option.some.injEq, Prod.mk.injEq] at h
    obtain ⟨rfl, rfl⟩ := h
    simp [VR, renV] at hv
    exact ⟨good_nil ρ, by simp [Lin.val, lsum, hv]⟩
  · simp only [Option.bind_eq_some_iff, Option.some.injEq, Prod.mk.injEq] at h
    obtain ⟨ts, h1, rfl, rfl⟩ := h
    rw [VR, renV, symVal] at hv
    simp only [h1, Option.bind_some, Option.bind_eq_some_iff, Option.some.injEq] at hv
    obtain ⟨s, h2, rfl⟩ := hv
    obtain ⟨g, rfl⟩ := (sumT_iff _ _).1 h2
    exact ⟨g, rfl⟩
  · cases h
theorem Lin.to_ok {ρ : Ren} {k : IntKind} {l : Lin} (g : GoodT ρ l.ts) : VR ρ (l.to k) (.int k (l.val (xs ρ))) := by
  obtain ⟨c, ts⟩ := l
  cases ts with
  | nil => simp [Lin.to, Lin.val, lsum, VR, renV]
  | cons t r =>
    show renV ρ (.func (.yield 0) ⟨quads (t :: r)⟩ ⟨[.int k c]⟩) = _
    rw [renV, symVal]
    simp only [termsOf_quads, Option.bind_some, (sumT_iff (t :: r) _).2 ⟨g, rfl⟩]
    rfl

/-! ### sums -/
def insT (t : Term) : List Term → List Term
  | [] => [t]
  | u :: r => if t.i = u.i then (if t.q + u.q = 0 then r else ⟨t.q + u.q, u.i, u.lo, u.hi⟩ :: r) else u :: insT t r
theorem insT_ok {ρ : Ren} {t : Term} (ht : TOk ρ t) : ∀ (l : List Term), GoodT ρ l → GoodT ρ (insT t l) ∧ lsum (xs ρ) (insT t l) = t.q * xs ρ t.i + lsum (xs ρ) l
  | [], _ => ⟨fun u hu => by simp [insT] at hu; subst hu; exact ht, rfl⟩
  | u :: r, g => by
    have hu := g u List.mem_cons_self
    have gr : GoodT ρ r := fun x hx => g x (List.mem_cons_of_mem _ hx)
    unfold insT
    split
    · rename_i hi
      split
      · rename_i h0
        refine ⟨gr, ?_⟩
        rw [hi, lsum, ← Int.add_assoc, ← Int.add_mul, h0]; omega
      · refine ⟨fun x hx => ?_, ?_⟩
        · cases hx with
          | head => exact hu
          | tail _ hx => exact gr x hx
        · rw [hi, lsum, lsum]; dsimp only; rw [Int.add_mul]; omega
    · obtain ⟨g1, g2⟩ := insT_ok ht r gr
      refine ⟨fun x hx => ?_, ?_⟩
      · cases hx with
        | head => exact hu
        | tail _ hx => exact g1 x hx
      · rw [lsum, lsum, g2]; omega
def addL (a b : Lin) : Lin := ⟨a.c + b.c, a.ts.foldr insT b.ts⟩
theorem addL_ok {ρ : Ren} {a b : Lin} (ga : GoodT ρ a.ts) (gb : GoodT ρ b.ts) : GoodT ρ (addL a b).ts ∧ (addL a b).val (xs ρ) = a.val (xs ρ) + b.val (xs ρ) := by
  obtain ⟨c, ts⟩ := a
  have : GoodT ρ (ts.foldr insT b.ts) ∧ lsum (xs ρ) (ts.foldr insT b.ts) = lsum (xs ρ) ts + lsum (xs ρ) b.ts := by
    dsimp only at ga
    induction ts with
    | nil => exact ⟨gb, by simp [lsum]⟩
    | cons t r ih =>
      obtain ⟨i1, i2⟩ := ih fun u hu => ga u (List.mem_cons_of_mem _ hu)
      obtain ⟨j1, j2⟩ := insT_ok (ga t List.mem_cons_self) _ i1
      exact ⟨j1, by rw [List.foldr_cons, j2, i2, lsum]; omega⟩
  exact ⟨this.1, by simp only [addL, Lin.val, this.2]; omega⟩
def scT (m : Int) (t : Term) : Term := ⟨m * t.q, t.i, t.lo, t.hi⟩
def scale (m : Int) (l : Lin) : Lin := if m = 0 then ⟨0, []⟩ else ⟨m * l.c, l.ts.map (scT m)⟩
theorem scT_sum {x : Nat → Int} (m : Int) : ∀ (l : List Term), lsum x (l.map (scT m)) = m * lsum x l
  | [] => by simp [lsum]
  | t :: r => by rw [List.map_cons, lsum, scT_sum m r, lsum, Int.mul_add]; simp [scT, Int.mul_assoc]
theorem scale_ok {ρ : Ren} {m : Int} {l : Lin} (g : GoodT ρ l.ts) : GoodT ρ (scale m l).ts ∧ (scale m l).val (xs ρ) = m * l.val (xs ρ) := by
  unfold scale
  split
  · rename_i h; subst h; exact ⟨good_nil ρ, by simp [Lin.val, lsum]⟩
  · refine ⟨fun t ht => ?_, by simp only [Lin.val, scT_sum, Int.mul_add]⟩
    simp only [List.mem_map] at ht
    obtain ⟨u, hu, rfl⟩ := ht
    exact g u hu

/-! ### bounds -/
def Term.low (t : Term) : Int := if 0 ≤ t.q then t.q * t.lo else t.q * t.hi
def Term.high (t : Term) : Int := if 0 ≤ t.q then t.q * t.hi else t.q * t.lo
def lows : List Term → Int
  | [] => 0
  | t :: r => t.low + lows r
def highs : List Term → Int
  | [] => 0
  | t :: r => t.high + highs r
def Lin.lo (l : Lin) : Int := l.c + lows l.ts
def Lin.hi (l : Lin) : Int := l.c + highs l.ts
theorem term_in {ρ : Ren} {t : Term} (h : TOk ρ t) : t.low ≤ t.q * xs ρ t.i ∧ t.q * xs ρ t.i ≤ t.high := by
  unfold Term.low Term.high
  by_cases hq : 0 ≤ t.q
  · rw [if_pos hq, if_pos hq]
    exact ⟨Int.mul_le_mul_of_nonneg_left h.2.1 hq, Int.mul_le_mul_of_nonneg_left h.2.2 hq⟩
  · rw [if_neg hq, if_neg hq]
    have hq' : t.q ≤ 0 := by omega
    exact ⟨Int.mul_le_mul_of_nonpos_left hq' h.2.2, Int.mul_le_mul_of_nonpos_left hq' h.2.1⟩
theorem Lin.bounds {ρ : Ren} {l : Lin} (g : GoodT ρ l.ts) : l.lo ≤ l.val (xs ρ) ∧ l.val (xs ρ) ≤ l.hi := by
  obtain ⟨c, ts⟩ := l
  have : lows ts ≤ lsum (xs ρ) ts ∧ lsum (xs ρ) ts ≤ highs ts := by
    dsimp only at g
    induction ts with
    | nil => exact ⟨Int.le_refl _, Int.le_refl _⟩
    | cons t r ih =>
      have := ih fun u hu => g u (List.mem_cons_of_mem _ hu)
      have := term_in (g t List.mem_cons_self)
      simp only [lows, lsum, highs]
      omega
  simp only [Lin.lo, Lin.hi, Lin.val]
  omega

/-! ### division -/
def splitT (d : Int) : List Term → List Term × List Term
  | [] => ([], [])
  | t :: r => if t.q % d = 0 then (⟨t.q / d, t.i, t.lo, t.hi⟩ :: (splitT d r).1, (splitT d r).2) else ((splitT d r).1, t :: (splitT d r).2)
theorem splitT_ok {ρ : Ren} (d : Int) : ∀ (ts : List Term), GoodT ρ ts → GoodT ρ (splitT d ts).1 ∧ GoodT ρ (splitT d ts).2 ∧ lsum (xs ρ) ts = d * lsum (xs ρ) (splitT d ts).1 + lsum (xs ρ) (splitT d ts).2
  | [], _ => ⟨good_nil ρ, good_nil ρ, by simp [splitT, lsum]⟩
  | t :: r, g => by
    obtain ⟨h1, h2, h3⟩ := splitT_ok d r fun u hu => g u (List.mem_cons_of_mem _ hu)
    have ht := g t List.mem_cons_self
    unfold splitT
    split
    · rename_i hq
      refine ⟨fun u hu => ?_, h2, ?_⟩
      · cases hu with
        | head => exact ht
        | tail _ hu => exact h1 u hu
      · simp only [lsum]
        rw [h3, Int.mul_add, ← Int.mul_assoc, Int.mul_ediv_cancel_of_emod_eq_zero hq]
        omega
    · refine ⟨h1, fun u hu => ?_, ?_⟩
      · cases hu with
        | head => exact ht
        | tail _ hu => exact h2 u hu
      · simp only [lsum]
        rw [h3]; omega
def divL (d : Int) (l : Lin) : Option (Lin × Lin) :=
  let p := splitT d l.ts
  let h : Lin := ⟨l.c / d, p.1⟩
  let r : Lin := ⟨l.c % d, p.2⟩
  if 0 < d ∧ 0 ≤ r.lo ∧ r.hi < d then some (h, r) else none
theorem divL_ok {ρ : Ren} {d : Int} {l h r : Lin} (g : GoodT ρ l.ts) (e : divL d l = some (h, r)) : 0 < d ∧ GoodT ρ h.ts ∧ GoodT ρ r.ts ∧ l.val (xs ρ) = d * h.val (xs ρ) + r.val (xs ρ) ∧ 0 ≤ r.val (xs ρ) ∧ r.val (xs ρ) < d := by
  unfold divL at e
  dsimp only at e
  split at e
  · rename_i hc
    simp only [Option.some.injEq, Prod.mk.injEq] at e
    obtain ⟨rfl, rfl⟩ := e
    obtain ⟨g1, g2, g3⟩ := splitT_ok d l.ts g
    have hb := Lin.bounds (l := ⟨l.c % d, (splitT d l.ts).2⟩) g2
    refine ⟨hc.1, g1, g2, ?_, by omega, by omega⟩
    simp only [Lin.val, g3]
    have := Int.mul_ediv_add_emod l.c d
    rw [Int.mul_add]
    omega
  · cases e
theorem divL_div {ρ : Ren} {d : Int} {l h r : Lin} (g : GoodT ρ l.ts) (e : divL d l = some (h, r)) : l.val (xs ρ) / d = h.val (xs ρ) ∧ l.val (xs ρ) % d = r.val (xs ρ) := by
  obtain ⟨h0, _, _, h1, h2, h3⟩ := divL_ok g e
  rw [h1]
  constructor
  · rw [Int.mul_add_ediv_left _ _ (by omega), Int.ediv_eq_zero_of_lt h2 h3]; omega
  · rw [Int.mul_add_emod_self_left, Int.emod_eq_of_lt h2 h3]

/-! ### kinds -/
def kLow (k : IntKind) : Int := if k.signed then -(2 ^ (k.bits - 1)) else 0
def kTop (k : IntKind) : Int := if k.signed then 2 ^ (k.bits - 1) else 2 ^ k.bits
theorem wrap_in {k : IntKind} {n : Int} (h1 : kLow k ≤ n) (h2 : n < kTop k) : k.wrap n = n := by
  cases k <;> simp [kLow, kTop, IntKind.signed, IntKind.bits] at h1 h2 <;> simp [IntKind.wrap, IntKind.signed, IntKind.bits] <;> omega
theorem wrap_mod {k : IntKind} {n : Int} (h : n % (2 ^ k.bits : Int) < kTop k) : k.wrap n = n % (2 ^ k.bits : Int) := by
  cases k <;> simp [kTop, IntKind.signed, IntKind.bits] at h <;> simp [IntKind.wrap, IntKind.signed, IntKind.bits] <;> omega
def wrapL (k : IntKind) (l : Lin) : Option Lin :=
  if kLow k ≤ l.lo ∧ l.hi < kTop k then some l
  else (divL (2 ^ k.bits) l).bind fun p => if p.2.hi < kTop k then some p.2 else none
theorem wrapL_ok {ρ : Ren} {k : IntKind} {l r : Lin} (g : GoodT ρ l.ts) (e : wrapL k l = some r) : GoodT ρ r.ts ∧ k.wrap (l.val (xs ρ)) = r.val (xs ρ) := by
  unfold wrapL at e
  split at e
  · rename_i h
    cases e
    have := Lin.bounds g
    exact ⟨g, wrap_in (by omega) (by omega)⟩
  · simp only [Option.bind_eq_some_iff] at e
    obtain ⟨⟨p, q⟩, e1, e2⟩ := e
    split at e2
    · rename_i hh
      cases e2
      obtain ⟨_, _, g2, _⟩ := divL_ok g e1
      obtain ⟨_, h2⟩ := divL_div g e1
      have := Lin.bounds g2
      dsimp only at hh h2 ⊢
      exact ⟨g2, by rw [wrap_mod (by rw [h2]; omega), h2]⟩
    · cases e2
end Go.Sx
