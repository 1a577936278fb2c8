/- The evaluator: numbers that are not known: bits, operations, comparisons. -/
import Derived.Test.YtbjncdcfojjacaaGreatSxLin
namespace Go.Sx
open Go Go.RowKit

inductive BitOp where
  | and | or | xor | clear
def BitOp.nat : BitOp → Nat → Nat → Nat
  | .and, a, b => a &&& b
  | .or, a, b => a ||| b
  | .xor, a, b => a ^^^ b
  | .clear, a, b => a ^^^ (a &&& b)
def BitOp.bool : BitOp → Bool → Bool → Bool
  | .and, a, b => a && b
  | .or, a, b => a || b
  | .xor, a, b => a ^^ b
  | .clear, a, b => a ^^ (a && b)
theorem BitOp.testBit (o : BitOp) (a b i : Nat) : (o.nat a b).testBit i = o.bool (a.testBit i) (b.testBit i) := by
  cases o <;> simp [BitOp.nat, BitOp.bool]
theorem BitOp.lt (o : BitOp) {a b n : Nat} (ha : a < 2 ^ n) (hb : b < 2 ^ n) : o.nat a b < 2 ^ n := by
  cases o with
  | and => exact Nat.and_lt_two_pow _ hb
  | or => exact Nat.or_lt_two_pow ha hb
  | xor => exact Nat.xor_lt_two_pow ha hb
  | clear => exact Nat.xor_lt_two_pow ha (Nat.and_lt_two_pow _ hb)
theorem BitOp.cut (o : BitOp) {n ah al bh bl : Nat} (ha : al < 2 ^ n) (hb : bl < 2 ^ n) : o.nat (2 ^ n * ah + al) (2 ^ n * bh + bl) = 2 ^ n * o.nat ah bh + o.nat al bl := by
  apply Nat.eq_of_testBit_eq
  intro i
  rw [BitOp.testBit, Nat.testBit_two_pow_mul_add _ ha, Nat.testBit_two_pow_mul_add _ hb, Nat.testBit_two_pow_mul_add _ (o.lt ha hb)]
  split <;> rw [BitOp.testBit]

def isZero (l : Lin) : Bool := match l.ts with
  | [] => l.c == 0
  | _ => false
/-- all ones at least as far as a number goes -/
def isMask (b : Lin) (hi : Int) : Bool := match b.ts with
  | [] => let n := b.c.toNat.log2 + 1
    b.c == 2 ^ n - 1 && decide (hi ≤ b.c)
  | _ => false
def bitSimple (o : BitOp) (a b : Lin) : Option Lin :=
  match isZero a, isZero b with
  | true, _ => match o with
    | .and => some ⟨0, []⟩
    | .clear => some ⟨0, []⟩
    | _ => some b
  | _, true => match o with
    | .and => some ⟨0, []⟩
    | _ => some a
  | _, _ => match a.ts, b.ts with
    | [], [] => some ⟨o.nat a.c.toNat b.c.toNat, []⟩
    | _, _ => match o with
      | .and => if isMask b a.hi then some a else if isMask a b.hi then some b else none
      | .clear => if isMask b a.hi then some ⟨0, []⟩ else none
      | _ => none
def bitL (o : BitOp) : Nat → Lin → Lin → Option Lin
  | 0, a, b => bitSimple o a b
  | s + 1, a, b => match bitSimple o a b with
    | some r => some r
    | none => match divL (2 ^ (s + 1)) a, divL (2 ^ (s + 1)) b with
      | some (ah, al), some (bh, bl) => match bitSimple o ah bh with
        | some h => (bitL o s al bl).bind fun l => some (addL (scale (2 ^ (s + 1)) h) l)
        | none => bitL o s a b
      | _, _ => bitL o s a b

section
variable {ρ : Ren}
theorem isZero_ok {l : Lin} (h : isZero l = true) : l.val (xs ρ) = 0 := by
  obtain ⟨c, ts⟩ := l
  cases ts with
  | nil => simp [isZero] at h; simp [Lin.val, lsum, h]
  | cons t r => simp [isZero] at h
theorem mask_and {n a : Nat} (h : a ≤ 2 ^ n - 1) : a &&& (2 ^ n - 1) = a := by
  rw [Nat.and_two_pow_sub_one_eq_mod]
  exact Nat.mod_eq_of_lt (by have := Nat.two_pow_pos n; omega)
theorem isMask_ok {b : Lin} {hi : Int} {a : Int} (h : isMask b hi = true) (_h0 : 0 ≤ a) (h1 : a ≤ hi) : a.toNat &&& (b.val (xs ρ)).toNat = a.toNat := by
  obtain ⟨c, ts⟩ := b
  cases ts with
  | cons t r => simp [isMask] at h
  | nil =>
    simp only [isMask, Bool.and_eq_true, beq_iff_eq, decide_eq_true_eq] at h
    obtain ⟨e, h2⟩ := h
    generalize c.toNat.log2 + 1 = n at e
    have hp := Nat.two_pow_pos n
    have hc : c.toNat = 2 ^ n - 1 := by
      have : (2 : Int) ^ n = ((2 ^ n : Nat) : Int) := by simp
      omega
    simp only [Lin.val, lsum, Int.add_zero, hc]
    exact mask_and (by omega)
theorem bitSimple_ok {o : BitOp} {a b r : Lin} (ga : GoodT ρ a.ts) (gb : GoodT ρ b.ts) (ha : 0 ≤ a.val (xs ρ)) (hb : 0 ≤ b.val (xs ρ)) (h : bitSimple o a b = some r) :
    GoodT ρ r.ts ∧ r.val (xs ρ) = (o.nat (a.val (xs ρ)).toNat (b.val (xs ρ)).toNat : Nat) := by
  have va := Lin.bounds ga
  have vb := Lin.bounds gb
  unfold bitSimple at h
  split at h
  · rename_i hz
    rw [isZero_ok hz]
    split at h <;> cases h
    · exact ⟨good_nil ρ, by simp [Lin.val, lsum, BitOp.nat]⟩
    · exact ⟨good_nil ρ, by simp [Lin.val, lsum, BitOp.nat]⟩
    · rename_i n1 n2
      refine ⟨gb, ?_⟩
      cases o with
      | and => exact absurd rfl n1
      | clear => exact absurd rfl n2
      | or => simp [BitOp.nat]; omega
      | xor => simp [BitOp.nat]; omega
  · rename_i hz _
    rw [isZero_ok hz]
    split at h <;> cases h
    · exact ⟨good_nil ρ, by simp [Lin.val, lsum, BitOp.nat]⟩
    · rename_i n1
      refine ⟨ga, ?_⟩
      cases o with
      | and => exact absurd rfl n1
      | clear => simp [BitOp.nat]; omega
      | or => simp [BitOp.nat]; omega
      | xor => simp [BitOp.nat]; omega
  · split at h
    · rename_i h1 h2
      cases h
      refine ⟨good_nil ρ, ?_⟩
      simp only [Lin.val, h1, h2, lsum, Int.add_zero]
    · split at h
      · split at h
        · rename_i hm
          cases h
          refine ⟨ga, ?_⟩
          simp only [BitOp.nat, isMask_ok hm ha va.2]; omega
        · split at h
          · rename_i hm
            cases h
            refine ⟨gb, ?_⟩
            simp only [BitOp.nat]
            rw [Nat.and_comm, isMask_ok hm hb vb.2]; omega
          · cases h
      · split at h
        · rename_i hm
          cases h
          refine ⟨good_nil ρ, ?_⟩
          simp only [BitOp.nat, isMask_ok hm ha va.2]
          simp [Lin.val, lsum]
        · cases h
      · cases h
theorem bitL_ok (o : BitOp) : ∀ (s : Nat) (a b r : Lin), GoodT ρ a.ts → GoodT ρ b.ts → 0 ≤ a.val (xs ρ) → 0 ≤ b.val (xs ρ) → bitL o s a b = some r →
    GoodT ρ r.ts ∧ r.val (xs ρ) = (o.nat (a.val (xs ρ)).toNat (b.val (xs ρ)).toNat : Nat)
  | 0, a, b, r, ga, gb, ha, hb, h => bitSimple_ok ga gb ha hb h
  | s + 1, a, b, r, ga, gb, ha, hb, h => by
    unfold bitL at h
    split at h
    · rename_i q hq
      cases h
      exact bitSimple_ok ga gb ha hb hq
    · split at h
      · rename_i ah al bh bl ea eb
        split at h
        · rename_i q hq
          simp only [Option.bind_eq_some_iff, Option.some.injEq] at h
          obtain ⟨l, hl, rfl⟩ := h
          obtain ⟨p0, a1, a2, a3, a4, a5⟩ := divL_ok ga ea
          obtain ⟨_, b1, b2, b3, b4, b5⟩ := divL_ok gb eb
          have hah : 0 ≤ ah.val (xs ρ) := by
            rcases Int.lt_or_le (ah.val (xs ρ)) 0 with hn | hn
            · exfalso
              have : (2 ^ (s + 1) : Int) * ah.val (xs ρ) ≤ (2 ^ (s + 1) : Int) * (-1) := Int.mul_le_mul_of_nonneg_left (by omega) (by omega)
              omega
            · exact hn
          have hbh : 0 ≤ bh.val (xs ρ) := by
            rcases Int.lt_or_le (bh.val (xs ρ)) 0 with hn | hn
            · exfalso
              have : (2 ^ (s + 1) : Int) * bh.val (xs ρ) ≤ (2 ^ (s + 1) : Int) * (-1) := Int.mul_le_mul_of_nonneg_left (by omega) (by omega)
              omega
            · exact hn
          obtain ⟨q1, q2⟩ := bitSimple_ok a1 b1 hah hbh hq
          obtain ⟨l1, l2⟩ := bitL_ok o s al bl l a2 b2 a4 b4 hl
          obtain ⟨t1, t2⟩ := scale_ok (m := 2 ^ (s + 1)) q1
          obtain ⟨u1, u2⟩ := addL_ok t1 l1
          refine ⟨u1, ?_⟩
          rw [u2, t2, q2, l2, a3, b3]
          generalize ah.val (xs ρ) = x at *
          generalize al.val (xs ρ) = y at *
          generalize bh.val (xs ρ) = z at *
          generalize bl.val (xs ρ) = u at *
          obtain ⟨x, rfl⟩ := Int.eq_ofNat_of_zero_le hah
          obtain ⟨y, rfl⟩ := Int.eq_ofNat_of_zero_le a4
          obtain ⟨z, rfl⟩ := Int.eq_ofNat_of_zero_le hbh
          obtain ⟨u, rfl⟩ := Int.eq_ofNat_of_zero_le b4
          have e2 : (2 : Int) ^ (s + 1) = ((2 ^ (s + 1) : Nat) : Int) := by simp
          rw [e2] at a5 b5 ⊢
          have hy : y < 2 ^ (s + 1) := by exact_mod_cast a5
          have hu : u < 2 ^ (s + 1) := by exact_mod_cast b5
          have := o.cut (ah := x) (bh := z) hy hu
          have k1 : ((2 ^ (s + 1) : Nat) : Int) * (x : Int) + (y : Int) = ((2 ^ (s + 1) * x + y : Nat) : Int) := by simp
          have k2 : ((2 ^ (s + 1) : Nat) : Int) * (z : Int) + (u : Int) = ((2 ^ (s + 1) * z + u : Nat) : Int) := by simp
          rw [k1, k2]
          simp only [Int.toNat_natCast]
          rw [this]
          simp
        · exact bitL_ok o s a b r ga gb ha hb h
      · exact bitL_ok o s a b r ga gb ha hb h
end

/-! ### operations -/
def eqL (a b : Lin) : Option Bool :=
  let d := addL a (scale (-1) b)
  if d.lo = 0 ∧ d.hi = 0 then some true else if 0 < d.lo ∨ d.hi < 0 then some false else none
def ltL (a b : Lin) : Option Bool :=
  let d := addL a (scale (-1) b)
  if d.hi < 0 then some true else if 0 ≤ d.lo then some false else none
def bitsL (o : BitOp) (k : IntKind) (a b : Lin) : Option Value :=
  if 0 ≤ a.lo ∧ a.hi < kTop k ∧ 0 ≤ b.lo ∧ b.hi < kTop k then (bitL o 63 a b).bind fun r => (wrapL k r).bind fun r => some (r.to k) else none
def symBin (op : BinOp) (k : IntKind) (a : Lin) (k' : IntKind) (b : Lin) : Option Value :=
  match op with
  | .shl => match b.ts with
    | [] => if b.c < 0 then none else (wrapL k (scale (2 ^ (min b.c.toNat k.bits)) a)).bind fun r => some (r.to k)
    | _ => none
  | .shr => match b.ts with
    | [] => if b.c < 0 then none else (divL (2 ^ (min b.c.toNat k.bits)) a).bind fun p => some (p.1.to k)
    | _ => none
  | op => if k = k' then match op with
    | .add => (wrapL k (addL a b)).bind fun r => some (r.to k)
    | .sub => (wrapL k (addL a (scale (-1) b))).bind fun r => some (r.to k)
    | .mul => match a.ts, b.ts with
      | _, [] => (wrapL k (scale b.c a)).bind fun r => some (r.to k)
      | [], _ => (wrapL k (scale a.c b)).bind fun r => some (r.to k)
      | _, _ => none
    | .quo => match b.ts with
      | [] => if 0 ≤ a.lo then (divL b.c a).bind fun p => (wrapL k p.1).bind fun r => some (r.to k)
        else if a.hi ≤ 0 then (divL b.c (scale (-1) a)).bind fun p => (wrapL k (scale (-1) p.1)).bind fun r => some (r.to k) else none
      | _ => none
    | .rem => match b.ts with
      | [] => if 0 ≤ a.lo then (divL b.c a).bind fun p => some (p.2.to k) else none
      | _ => none
    | .and => bitsL .and k a b
    | .or => bitsL .or k a b
    | .xor => bitsL .xor k a b
    | .andNot => bitsL .clear k a b
    | .eql => (eqL a b).bind fun t => some (.bool t)
    | .neq => (eqL a b).bind fun t => some (.bool !t)
    | .lss => (ltL a b).bind fun t => some (.bool t)
    | .geq => (ltL a b).bind fun t => some (.bool !t)
    | .gtr => (ltL b a).bind fun t => some (.bool t)
    | .leq => (ltL b a).bind fun t => some (.bool !t)
    | _ => none
    else none

section
variable {ρ : Ren} {P : Program} {w : World}
theorem diff_ok {a b : Lin} (ga : GoodT ρ a.ts) (gb : GoodT ρ b.ts) : (addL a (scale (-1) b)).lo ≤ a.val (xs ρ) - b.val (xs ρ) ∧ a.val (xs ρ) - b.val (xs ρ) ≤ (addL a (scale (-1) b)).hi := by
  obtain ⟨s1, s2⟩ := scale_ok (m := -1) gb
  obtain ⟨a1, a2⟩ := addL_ok ga s1
  have := Lin.bounds a1
  rw [a2, s2] at this
  omega
theorem eqL_ok {a b : Lin} {t : Bool} (ga : GoodT ρ a.ts) (gb : GoodT ρ b.ts) (h : eqL a b = some t) : (a.val (xs ρ) == b.val (xs ρ)) = t := by
  have := diff_ok ga gb
  unfold eqL at h
  dsimp only at h
  split at h
  · cases h; simp; omega
  · split at h
    · cases h; simp; omega
    · cases h
theorem ltL_ok {a b : Lin} {t : Bool} (ga : GoodT ρ a.ts) (gb : GoodT ρ b.ts) (h : ltL a b = some t) : decide (a.val (xs ρ) < b.val (xs ρ)) = t := by
  have := diff_ok ga gb
  unfold ltL at h
  dsimp only at h
  split at h
  · cases h; simp; omega
  · split at h
    · cases h; simp; omega
    · cases h
theorem ofInt_toNat {k : IntKind} {n : Int} (h0 : 0 ≤ n) (h1 : n < 2 ^ k.bits) : (BitVec.ofInt k.bits n).toNat = n.toNat := by
  rw [BitVec.toNat_ofInt]
  congr 1
  have e2 : ((2 ^ k.bits : Nat) : Int) = (2 : Int) ^ k.bits := by simp
  rw [e2]
  exact Int.emod_eq_of_lt h0 h1
theorem kTop_le (k : IntKind) : kTop k ≤ 2 ^ k.bits := by cases k <;> decide
theorem bitsL_ok {o : BitOp} {k : IntKind} {a b : Lin} {r : Value} (ga : GoodT ρ a.ts) (gb : GoodT ρ b.ts) (h : bitsL o k a b = some r) :
    ∃ l : Lin, GoodT ρ l.ts ∧ r = l.to k ∧ l.val (xs ρ) = k.wrap (match o with
      | .and => (BitVec.ofInt k.bits (a.val (xs ρ)) &&& BitVec.ofInt k.bits (b.val (xs ρ))).toNat
      | .or => (BitVec.ofInt k.bits (a.val (xs ρ)) ||| BitVec.ofInt k.bits (b.val (xs ρ))).toNat
      | .xor => (BitVec.ofInt k.bits (a.val (xs ρ)) ^^^ BitVec.ofInt k.bits (b.val (xs ρ))).toNat
      | .clear => (BitVec.ofInt k.bits (a.val (xs ρ)) &&& ~~~(BitVec.ofInt k.bits (b.val (xs ρ)))).toNat : Nat) := by
  unfold bitsL at h
  split at h
  · rename_i hc
    simp only [Option.bind_eq_some_iff, Option.some.injEq] at h
    obtain ⟨q, hq, l, hl, rfl⟩ := h
    have va := Lin.bounds ga
    have vb := Lin.bounds gb
    have ht := kTop_le k
    obtain ⟨q1, q2⟩ := bitL_ok o 63 a b q ga gb (by omega) (by omega) hq
    obtain ⟨l1, l2⟩ := wrapL_ok q1 hl
    refine ⟨l, l1, rfl, ?_⟩
    rw [← l2, q2]
    congr 1
    have ea := ofInt_toNat (k := k) (n := a.val (xs ρ)) (by omega) (by omega)
    have eb := ofInt_toNat (k := k) (n := b.val (xs ρ)) (by omega) (by omega)
    congr 1
    cases o with
    | and => simp only [BitOp.nat, BitVec.toNat_and, ea, eb]
    | or => simp only [BitOp.nat, BitVec.toNat_or, ea, eb]
    | xor => simp only [BitOp.nat, BitVec.toNat_xor, ea, eb]
    | clear =>
      simp only [BitOp.nat]
      rw [← ea, ← eb, ← BitVec.toNat_and, ← BitVec.toNat_xor]
      congr 1
      ext i hi
      simp
      cases (BitVec.ofInt k.bits (a.val (xs ρ)))[i] <;> simp
  · cases h
theorem tdiv_nonneg {a b : Int} (ha : 0 ≤ a) : a.tdiv b = a / b := Int.tdiv_eq_ediv_of_nonneg ha
theorem symBin_ok {op : BinOp} {k k' : IntKind} {a b : Lin} {r : Value} {t : TypeId} (ga : GoodT ρ a.ts) (gb : GoodT ρ b.ts) (h : symBin op k a k' b = some r) :
    ∃ r', (binOp op t (.int k (a.val (xs ρ))) (.int k' (b.val (xs ρ)))).run P w = .ok r' w ∧ VR ρ r r' := by
  have va := Lin.bounds ga
  have vb := Lin.bounds gb
  have cst : b.ts = [] → b.val (xs ρ) = b.c := fun e => by simp [Lin.val, e, lsum]
  have cst' : a.ts = [] → a.val (xs ρ) = a.c := fun e => by simp [Lin.val, e, lsum]
  unfold symBin at h
  split at h
  · split at h
    · rename_i e
      split at h
      · cases h
      · rename_i hb
        simp only [Option.bind_eq_some_iff, Option.some.injEq] at h
        obtain ⟨l, hl, rfl⟩ := h
        obtain ⟨s1, s2⟩ := scale_ok (m := 2 ^ (min b.c.toNat k.bits)) ga
        obtain ⟨l1, l2⟩ := wrapL_ok s1 hl
        refine ⟨_, ?_, Lin.to_ok l1⟩
        rw [cst e, ← l2, s2, Int.mul_comm]
        simp [binOp, Op.shift, hb]
    · cases h
  · split at h
    · rename_i e
      split at h
      · cases h
      · rename_i hb
        simp only [Option.bind_eq_some_iff, Option.some.injEq] at h
        obtain ⟨⟨p, q⟩, hl, rfl⟩ := h
        obtain ⟨l0, l1, _⟩ := divL_ok ga hl
        obtain ⟨l2, _⟩ := divL_div ga hl
        refine ⟨_, ?_, Lin.to_ok l1⟩
        rw [cst e, ← l2]
        simp only [binOp, Op.shift, hb, if_false]
        rw [← Int.fdiv_eq_ediv_of_nonneg _ (by omega)]
        simp
    · cases h
  · rename_i n1 n2
    split at h
    · rename_i hk
      subst hk
      split at h
      · simp only [Option.bind_eq_some_iff, Option.some.injEq] at h
        obtain ⟨l, hl, rfl⟩ := h
        obtain ⟨s1, s2⟩ := addL_ok ga gb
        obtain ⟨l1, l2⟩ := wrapL_ok s1 hl
        exact ⟨_, by rw [← l2, s2]; simp [binOp, Op.intArith], Lin.to_ok l1⟩
      · simp only [Option.bind_eq_some_iff, Option.some.injEq] at h
        obtain ⟨l, hl, rfl⟩ := h
        obtain ⟨g1, g2⟩ := scale_ok (m := -1) gb
        obtain ⟨s1, s2⟩ := addL_ok ga g1
        obtain ⟨l1, l2⟩ := wrapL_ok s1 hl
        refine ⟨_, ?_, Lin.to_ok l1⟩
        rw [← l2, s2, g2, show a.val (xs ρ) + -1 * b.val (xs ρ) = a.val (xs ρ) - b.val (xs ρ) by omega]
        simp [binOp, Op.intArith]
      · split at h
        · rename_i e
          simp only [Option.bind_eq_some_iff, Option.some.injEq] at h
          obtain ⟨l, hl, rfl⟩ := h
          obtain ⟨s1, s2⟩ := scale_ok (m := b.c) ga
          obtain ⟨l1, l2⟩ := wrapL_ok s1 hl
          exact ⟨_, by rw [← l2, s2, cst e, Int.mul_comm]; simp [binOp, Op.intArith], Lin.to_ok l1⟩
        · rename_i e _
          simp only [Option.bind_eq_some_iff, Option.some.injEq] at h
          obtain ⟨l, hl, rfl⟩ := h
          obtain ⟨s1, s2⟩ := scale_ok (m := a.c) gb
          obtain ⟨l1, l2⟩ := wrapL_ok s1 hl
          exact ⟨_, by rw [← l2, s2, cst' e]; simp [binOp, Op.intArith], Lin.to_ok l1⟩
        · cases h
      · split at h
        · rename_i e
          split at h
          · simp only [Option.bind_eq_some_iff, Option.some.injEq] at h
            obtain ⟨⟨p, q⟩, hd, l, hl, rfl⟩ := h
            obtain ⟨d0, d1, _⟩ := divL_ok ga hd
            obtain ⟨d2, _⟩ := divL_div ga hd
            obtain ⟨l1, l2⟩ := wrapL_ok d1 hl
            refine ⟨_, ?_, Lin.to_ok l1⟩
            have hb : b.val (xs ρ) ≠ 0 := by rw [cst e]; omega
            rw [← l2, ← d2, ← cst e, ← tdiv_nonneg (by omega)]
            simp [binOp, Op.intDiv, hb]
          · split at h
            · simp only [Option.bind_eq_some_iff, Option.some.injEq] at h
              obtain ⟨⟨p, q⟩, hd, l, hl, rfl⟩ := h
              obtain ⟨g1, g2⟩ := scale_ok (m := -1) ga
              obtain ⟨d0, d1, _⟩ := divL_ok g1 hd
              obtain ⟨d2, _⟩ := divL_div g1 hd
              obtain ⟨s1, s2⟩ := scale_ok (m := -1) d1
              obtain ⟨l1, l2⟩ := wrapL_ok s1 hl
              refine ⟨_, ?_, Lin.to_ok l1⟩
              have hb : b.val (xs ρ) ≠ 0 := by rw [cst e]; omega
              have e3 : (a.val (xs ρ)).tdiv (b.val (xs ρ)) = -1 * p.val (xs ρ) := by
                rw [← d2, g2, ← cst e, ← tdiv_nonneg (by omega), show -1 * a.val (xs ρ) = -(a.val (xs ρ)) by omega, Int.neg_tdiv]
                omega
              rw [← l2, s2, ← e3]
              simp [binOp, Op.intDiv, hb]
            · cases h
        · cases h
      · split at h
        · rename_i e
          split at h
          · simp only [Option.bind_eq_some_iff, Option.some.injEq] at h
            obtain ⟨⟨p, q⟩, hd, rfl⟩ := h
            obtain ⟨d0, _, d1, _⟩ := divL_ok ga hd
            obtain ⟨_, d2⟩ := divL_div ga hd
            refine ⟨_, ?_, Lin.to_ok d1⟩
            have hb : b.val (xs ρ) ≠ 0 := by rw [cst e]; omega
            rw [← d2, ← cst e, ← Int.tmod_eq_emod_of_nonneg (by omega)]
            simp [binOp, Op.intDiv, hb]
          · cases h
        · cases h
      · obtain ⟨l, l1, rfl, l2⟩ := bitsL_ok ga gb h
        exact ⟨_, by rw [l2]; simp [binOp, Op.intBits], Lin.to_ok l1⟩
      · obtain ⟨l, l1, rfl, l2⟩ := bitsL_ok ga gb h
        exact ⟨_, by rw [l2]; simp [binOp, Op.intBits], Lin.to_ok l1⟩
      · obtain ⟨l, l1, rfl, l2⟩ := bitsL_ok ga gb h
        exact ⟨_, by rw [l2]; simp [binOp, Op.intBits], Lin.to_ok l1⟩
      · obtain ⟨l, l1, rfl, l2⟩ := bitsL_ok ga gb h
        exact ⟨_, by rw [l2]; simp [binOp, Op.intBits], Lin.to_ok l1⟩
      · simp only [Option.bind_eq_some_iff, Option.some.injEq] at h
        obtain ⟨q, hq, rfl⟩ := h
        exact ⟨.bool q, by rw [← eqL_ok ga gb hq]; simp [binOp, Op.intCmp], by simp [VR, renV]⟩
      · simp only [Option.bind_eq_some_iff, Option.some.injEq] at h
        obtain ⟨q, hq, rfl⟩ := h
        exact ⟨.bool !q, by rw [← eqL_ok ga gb hq]; simp [binOp, Op.intCmp, bne], by simp [VR, renV]⟩
      · simp only [Option.bind_eq_some_iff, Option.some.injEq] at h
        obtain ⟨q, hq, rfl⟩ := h
        exact ⟨.bool q, by rw [← ltL_ok ga gb hq]; simp [binOp, Op.intCmp], by simp [VR, renV]⟩
      · simp only [Option.bind_eq_some_iff, Option.some.injEq] at h
        obtain ⟨q, hq, rfl⟩ := h
        refine ⟨.bool !q, ?_, by simp [VR, renV]⟩
        rw [← ltL_ok ga gb hq]
        have : (!decide (a.val (xs ρ) < b.val (xs ρ))) = decide (a.val (xs ρ) ≥ b.val (xs ρ)) := by rw [← decide_not]; exact decide_eq_decide.2 (by omega)
        rw [this]
        simp [binOp, Op.intCmp]
      · simp only [Option.bind_eq_some_iff, Option.some.injEq] at h
        obtain ⟨q, hq, rfl⟩ := h
        exact ⟨.bool q, by rw [← ltL_ok gb ga hq]; simp [binOp, Op.intCmp], by simp [VR, renV]⟩
      · simp only [Option.bind_eq_some_iff, Option.some.injEq] at h
        obtain ⟨q, hq, rfl⟩ := h
        refine ⟨.bool !q, ?_, by simp [VR, renV]⟩
        rw [← ltL_ok gb ga hq]
        have : (!decide (b.val (xs ρ) < a.val (xs ρ))) = decide (a.val (xs ρ) ≤ b.val (xs ρ)) := by rw [← decide_not]; exact decide_eq_decide.2 (by omega)
        rw [this]
        simp [binOp, Op.intCmp]
      · cases h
    · cases h
end
end Go.Sx
