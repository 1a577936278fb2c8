/- The private heap of the evaluator, and how it stands to the model's world: values by a renaming of blocks, objects by their cells or entries. -/
import Derived.WalkKit
import Derived.KernelRfl
namespace Go.Sx
open Go Go.RowKit

/-! ### a tree of cells, by number -/
inductive Tr (α : Type) where
  | nil
  | node (v : Option α) (l r : Tr α)

namespace Tr
variable {α : Type}
def get : Tr α → Nat → Option α
  | .nil, _ => none
  | .node v l r, i => match i with
    | 0 => v
    | n + 1 => match Nat.beq (n % 2) 0 with
      | true => l.get (n / 2)
      | false => r.get (n / 2)
def put : Nat → Tr α → Nat → Option α → Tr α
  | 0, t, _, _ => t
  | f + 1, .nil, i, x => match i with
    | 0 => .node x .nil .nil
    | n + 1 => match Nat.beq (n % 2) 0 with
      | true => .node none (put f .nil (n / 2) x) .nil
      | false => .node none .nil (put f .nil (n / 2) x)
  | f + 1, .node v l r, i, x => match i with
    | 0 => .node x l r
    | n + 1 => match Nat.beq (n % 2) 0 with
      | true => .node v (put f l (n / 2) x) r
      | false => .node v l (put f r (n / 2) x)
def ofListFrom (t : Tr α) (i : Nat) : List α → Tr α
  | [] => t
  | x :: xs => ofListFrom (put 40 t i (some x)) (i + 1) xs
def ofList (l : List α) : Tr α := ofListFrom .nil 0 l

theorem get_put (f : Nat) : ∀ (t : Tr α) (i : Nat) (x : Option α) (j : Nat), i + 1 < 2 ^ f → (put f t i x).get j = if j = i then x else t.get j := by
  induction f with
  | zero => intro t i x j h; omega
  | succ f ih =>
    intro t i x j h
    have hp : 2 ^ (f + 1) = 2 * 2 ^ f := by rw [Nat.pow_succ]; omega
    cases i with
    | zero =>
      cases t with
      | nil => cases j <;> simp [put, get]; split <;> rfl
      | node v l r => cases j <;> simp [put, get]
    | succ n =>
      have hn : n / 2 + 1 < 2 ^ f := by omega
      have key : ∀ l : Tr α, ∀ m, (put f l (n / 2) x).get (m / 2) = if m / 2 = n / 2 then x else l.get (m / 2) := fun l m => ih l (n / 2) x (m / 2) hn
      cases t with
      | nil =>
        cases j with
        | zero => cases h2 : Nat.beq (n % 2) 0 <;> simp [put, get, h2]
        | succ m =>
          have hm : ∀ b, Nat.beq (m % 2) 0 = b → (b = true ↔ m % 2 = 0) := fun b hb => by subst hb; exact ⟨Nat.eq_of_beq_eq_true, fun e => by rw [e]; rfl⟩
          have hn2 : ∀ b, Nat.beq (n % 2) 0 = b → (b = true ↔ n % 2 = 0) := fun b hb => by subst hb; exact ⟨Nat.eq_of_beq_eq_true, fun e => by rw [e]; rfl⟩
          cases h2 : Nat.beq (n % 2) 0 <;> cases h3 : Nat.beq (m % 2) 0 <;> simp only [put, get, h2, h3, key] <;>
            (have e2 := hn2 _ h2; have e3 := hm _ h3; simp only [reduceCtorEq, false_iff, true_iff] at e2 e3; by_cases e : m = n)
          all_goals first
            | (subst e; omega)
            | (subst e; rw [if_pos rfl, if_pos rfl])
            | (rw [if_neg (by omega), if_neg (by omega)])
            | (rw [if_neg (by omega)])
      | node v l r =>
        cases j with
        | zero => cases h2 : Nat.beq (n % 2) 0 <;> simp [put, get, h2]
        | succ m =>
          have hm : ∀ b, Nat.beq (m % 2) 0 = b → (b = true ↔ m % 2 = 0) := fun b hb => by subst hb; exact ⟨Nat.eq_of_beq_eq_true, fun e => by rw [e]; rfl⟩
          have hn2 : ∀ b, Nat.beq (n % 2) 0 = b → (b = true ↔ n % 2 = 0) := fun b hb => by subst hb; exact ⟨Nat.eq_of_beq_eq_true, fun e => by rw [e]; rfl⟩
          cases h2 : Nat.beq (n % 2) 0 <;> cases h3 : Nat.beq (m % 2) 0 <;> simp only [put, get, h2, h3, key] <;>
            (have e2 := hn2 _ h2; have e3 := hm _ h3; simp only [reduceCtorEq, false_iff, true_iff] at e2 e3; by_cases e : m = n)
          all_goals first
            | (subst e; omega)
            | (subst e; rw [if_pos rfl, if_pos rfl])
            | (rw [if_neg (by omega), if_neg (by omega)])
            | (rw [if_neg (by omega)])

theorem get_ofListFrom : ∀ (l : List α) (t : Tr α) (i j : Nat), i + l.length + 1 < 2 ^ 40 → (ofListFrom t i l).get j = if i ≤ j ∧ j < i + l.length then l[j - i]? else t.get j
  | [], t, i, j, _ => by rw [if_neg (by simp only [List.length_nil]; omega)]; rfl
  | x :: xs, t, i, j, h => by
    rw [ofListFrom, get_ofListFrom xs _ (i + 1) j (by simp at h ⊢; omega), get_put 40 t i (some x) j (by simp at h; omega)]
    simp only [List.length_cons]
    by_cases hj : j = i
    · subst hj; rw [if_neg (by omega), if_pos rfl, if_pos (by omega)]; simp
    · by_cases hr : i + 1 ≤ j ∧ j < i + 1 + xs.length
      · rw [if_pos hr, if_pos (by omega)]
        obtain ⟨m, hm⟩ : ∃ m, j - i = m + 1 := ⟨j - i - 1, by omega⟩
        rw [hm, List.getElem?_cons_succ]; congr 1; omega
      · rw [if_neg hr, if_neg hj, if_neg (by omega)]
theorem get_ofList (l : List α) (j : Nat) (h : l.length + 1 < 2 ^ 40) : (ofList l).get j = l[j]? := by
  rw [ofList, get_ofListFrom l .nil 0 j (by omega)]
  by_cases hj : j < l.length
  · rw [if_pos (by omega)]; rfl
  · rw [if_neg (by omega), List.getElem?_eq_none (by omega)]; rfl
end Tr

/-! ### lists: cut and laid over -/
def takeN : Nat → List Value → Option (List Value)
  | 0, _ => some []
  | n + 1, x :: xs => (takeN n xs).bind fun r => some (x :: r)
  | _ + 1, [] => none
def dropN : Nat → List Value → List Value
  | 0, l => l
  | n + 1, _ :: l => dropN n l
  | _ + 1, [] => []
def setAt : Nat → List Value → List Value → Option (List Value)
  | 0, [], l => some l
  | 0, v :: vs, _ :: l => (setAt 0 vs l).bind fun r => some (v :: r)
  | 0, _ :: _, [] => none
  | i + 1, vs, x :: l => (setAt i vs l).bind fun r => some (x :: r)
  | _ + 1, _, [] => none

theorem dropN_eq : ∀ (n : Nat) (l : List Value), dropN n l = l.drop n
  | 0, l => by simp [dropN]
  | n + 1, [] => by simp [dropN]
  | n + 1, x :: l => by simp [dropN, dropN_eq n l]
theorem takeN_some : ∀ (n : Nat) (l r : List Value), takeN n l = some r → r.length = n ∧ ∀ i, i < n → r[i]? = l[i]?
  | 0, l, r, h => by simp [takeN] at h; subst h; exact ⟨rfl, fun i hi => absurd hi (Nat.not_lt_zero _)⟩
  | n + 1, [], r, h => by simp [takeN] at h
  | n + 1, x :: l, r, h => by
    cases hq : takeN n l with
    | none => simp [takeN, hq] at h
    | some q =>
      simp [takeN, hq] at h
      subst h
      have := takeN_some n l q hq
      refine ⟨by simp [this.1], fun i hi => ?_⟩
      cases i with
      | zero => rfl
      | succ i => simpa using this.2 i (by omega)
theorem setAt_some : ∀ (i : Nat) (vs l r : List Value), setAt i vs l = some r → i + vs.length ≤ l.length ∧ r.length = l.length ∧ ∀ j, r[j]? = if i ≤ j ∧ j < i + vs.length then vs[j - i]? else l[j]?
  | 0, [], l, r, h => by simp [setAt] at h; subst h; exact ⟨by simp, rfl, fun j => by rw [if_neg (by simp)]⟩
  | 0, v :: vs, [], r, h => by simp [setAt] at h
  | 0, v :: vs, x :: l, r, h => by
    cases hq : setAt 0 vs l with
    | none => simp [setAt, hq] at h
    | some q =>
      simp [setAt, hq] at h
      subst h
      obtain ⟨h1, h2, h3⟩ := setAt_some 0 vs l q hq
      refine ⟨by simp at h1 ⊢; omega, by simp [h2], fun j => ?_⟩
      cases j with
      | zero => simp
      | succ j =>
        have := h3 j
        simp only [Nat.zero_le, true_and, Nat.zero_add, Nat.sub_zero] at this
        simp only [List.getElem?_cons_succ, this, List.length_cons, Nat.zero_le, true_and, Nat.zero_add, Nat.add_lt_add_iff_right, Nat.sub_zero]
  | i + 1, vs, [], r, h => by simp [setAt] at h
  | i + 1, vs, x :: l, r, h => by
    cases hq : setAt i vs l with
    | none => simp [setAt, hq] at h
    | some q =>
      simp [setAt, hq] at h
      subst h
      obtain ⟨h1, h2, h3⟩ := setAt_some i vs l q hq
      refine ⟨by simp; omega, by simp [h2], fun j => ?_⟩
      cases j with
      | zero => rw [if_neg (by omega)]; rfl
      | succ j =>
        simp only [List.getElem?_cons_succ, h3 j]
        by_cases hh : i ≤ j ∧ j < i + vs.length
        · rw [if_pos hh, if_pos (by omega)]; congr 1; omega
        · rw [if_neg hh, if_neg (by omega)]

/-! ### objects -/
inductive AObj where
  | cells (c : List Value) (e : TypeId) (own : Bool)
  | map (es : List MapEntry) (clock : Nat)
  | iter (m : Option Nat) (since : Nat) (seen : List Nat) (stepped : Nat)

def AObj.own : AObj → Bool
  | .cells _ _ b => b
  | _ => true

abbrev Hp := Nat → Option AObj
/-- a block of the evaluator's own: where it lies, and how many elements its row bears from there (asked of grown rows alone) -/
abbrev Ren := Nat → Option (Addr × Nat)

/-! ### numbers that are not known: c + Σ q·x, each x between two bounds; what x is, the renaming says at a far key -/
structure Term where
  q : Int
  i : Nat
  lo : Int
  hi : Int
def symKey (i : Nat) : Nat := 1152921504606846976 + i
def symAt (ρ : Ren) (i : Nat) : Option Int := (ρ (symKey i)).map fun p => (p.1.off : Int) - p.2
def sumT (ρ : Ren) : List Term → Option Int
  | [] => some 0
  | t :: r => (symAt ρ t.i).bind fun x => if t.lo ≤ x ∧ x ≤ t.hi then (sumT ρ r).bind fun s => some (t.q * x + s) else none
def termsOf : List Value → Option (List Term)
  | [] => some []
  | .int _ q :: .int _ i :: .int _ lo :: .int _ hi :: r => (termsOf r).bind fun l => some (⟨q, i.toNat, lo, hi⟩ :: l)
  | _ => none
def symVal (ρ : Ren) (fi ca : List Value) : Option Value :=
  match ca with
  | [.int k c] => (termsOf fi).bind fun ts => (sumT ρ ts).bind fun s => some (.int k (c + s))
  | _ => none

mutual
def renV (ρ : Ren) : Value → Option Value
  | .bool b => some (.bool b)
  | .int k n => some (.int k n)
  | .string s => some (.string s)
  | .pointer none => some (.pointer none)
  | .pointer (some a) => (ρ a.block).bind fun p => match a.spot with
    | none => some (.pointer (some ⟨p.1.block, p.1.off + a.off, none⟩))
    | some _ => none
  | .slice none n c => if n = 0 ∧ c = 0 then some (.slice none 0 0) else none
  | .slice (some a) n C => (ρ a.block).bind fun p => match a.spot with
    | none =>
      if C % 2 = 1 then (if n ≤ C / 2 then some (.slice (some ⟨p.1.block, p.1.off + a.off, none⟩) n (C / 2)) else none)
      else (if C / 2 + n ≤ p.2 then some (.slice (some ⟨p.1.block, p.1.off + a.off, none⟩) n (p.2 - C / 2)) else none)
    | some _ => none
  | .map none => some (.map none)
  | .map (some r) => (ρ r).bind fun p => some (.map (some p.1.block))
  | .func (.func f) ⟨fi⟩ ⟨ca⟩ => (renL ρ fi).bind fun fi' => (renL ρ ca).bind fun ca' => some (.func (.func f) ⟨fi'⟩ ⟨ca'⟩)
  | .func (.yield _) ⟨fi⟩ ⟨ca⟩ => symVal ρ fi ca
  | .nilFunc => some .nilFunc
  | .iface t v => (renV ρ v).bind fun v' => some (.iface t v')
  | .nilIface => some .nilIface
  | .agg ⟨cs⟩ => (renL ρ cs).bind fun cs' => some (.agg ⟨cs'⟩)
  | .tuple ⟨cs⟩ => (renL ρ cs).bind fun cs' => some (.tuple ⟨cs'⟩)
  | _ => none
def renL (ρ : Ren) : List Value → Option (List Value)
  | [] => some []
  | v :: vs => (renV ρ v).bind fun v' => (renL ρ vs).bind fun vs' => some (v' :: vs')
end

/-- two lists, cell by cell -/
def All2 (R : Value → Value → Prop) : List Value → List Value → Prop
  | [], [] => True
  | x :: xs, y :: ys => R x y ∧ All2 R xs ys
  | _, _ => False
abbrev VR (ρ : Ren) (v v' : Value) : Prop := renV ρ v = some v'

theorem renL_iff (ρ : Ren) : ∀ xs ys, renL ρ xs = some ys ↔ All2 (VR ρ) xs ys
  | [], [] => by simp [renL, All2]
  | [], y :: ys => by simp [renL, All2]
  | x :: xs, [] => by
    simp only [renL, All2, iff_false]
    cases renV ρ x with
    | none => simp
    | some x' => cases renL ρ xs <;> simp
  | x :: xs, y :: ys => by
    simp only [renL, All2, ← renL_iff ρ xs ys, VR]
    cases hx : renV ρ x with
    | none => simp
    | some x' => cases hy : renL ρ xs <;> simp
theorem All2.length {R : Value → Value → Prop} : ∀ {xs ys}, All2 R xs ys → ys.length = xs.length
  | [], [], _ => rfl
  | _ :: _, _ :: _, h => by simp [All2.length h.2]
  | [], _ :: _, h => h.elim
  | _ :: _, [], h => h.elim
theorem All2.get {R : Value → Value → Prop} : ∀ {xs ys}, All2 R xs ys → ∀ (i : Nat) (x : Value), xs[i]? = some x → ∃ y, ys[i]? = some y ∧ R x y
  | [], [], _, i, x, h => by simp at h
  | a :: _, b :: _, h, 0, x, hx => by simp at hx; subst hx; exact ⟨b, rfl, h.1⟩
  | _ :: _, _ :: _, h, i + 1, x, hx => by simpa using All2.get h.2 i x (by simpa using hx)
  | [], _ :: _, h, _, _, _ => h.elim
  | _ :: _, [], h, _, _, _ => h.elim
theorem All2.of_get {R : Value → Value → Prop} : ∀ {xs ys : List Value}, ys.length = xs.length → (∀ (i : Nat) (x : Value), xs[i]? = some x → ∃ y, ys[i]? = some y ∧ R x y) → All2 R xs ys
  | [], [], _, _ => trivial
  | [], _ :: _, h, _ => by simp at h
  | _ :: _, [], h, _ => by simp at h
  | x :: xs, y :: ys, h, g => by
    refine ⟨?_, All2.of_get (by simpa using h) fun i z hz => by simpa using g (i + 1) z (by simpa using hz)⟩
    obtain ⟨y', e, hr⟩ := g 0 x rfl
    simp at e; subst e; exact hr
theorem All2.mono {R R' : Value → Value → Prop} (hR : ∀ x y, R x y → R' x y) : ∀ {xs ys}, All2 R xs ys → All2 R' xs ys
  | [], [], _ => trivial
  | _ :: _, _ :: _, h => ⟨hR _ _ h.1, All2.mono hR h.2⟩
  | [], _ :: _, h => h.elim
  | _ :: _, [], h => h.elim
theorem All2.append {R : Value → Value → Prop} : ∀ {xs ys us vs}, All2 R xs ys → All2 R us vs → All2 R (xs ++ us) (ys ++ vs)
  | [], [], _, _, _, k => k
  | _ :: _, _ :: _, _, _, h, k => ⟨h.1, All2.append h.2 k⟩
  | [], _ :: _, _, _, h, _ => h.elim
  | _ :: _, [], _, _, h, _ => h.elim

/-- one renaming knows all that another one knows -/
def Ren.le (ρ ρ' : Ren) : Prop := ∀ k p, ρ k = some p → ρ' k = some p
theorem Ren.le_refl (ρ : Ren) : ρ.le ρ := fun _ _ h => h
theorem Ren.le_trans {a b c : Ren} (h : a.le b) (k : b.le c) : a.le c := fun i p e => k i p (h i p e)

theorem symAt_mono {ρ ρ' : Ren} (h : ρ.le ρ') {i : Nat} {x : Int} (e : symAt ρ i = some x) : symAt ρ' i = some x := by
  unfold symAt at e ⊢
  cases hp : ρ (symKey i) with
  | none => simp [hp] at e
  | some p => rw [hp] at e; rw [h _ _ hp]; exact e
theorem sumT_mono {ρ ρ' : Ren} (h : ρ.le ρ') : ∀ (l : List Term) (s : Int), sumT ρ l = some s → sumT ρ' l = some s
  | [], _, e => by simpa [sumT] using e
  | t :: r, s, e => by
    simp only [sumT, Option.bind_eq_some_iff] at e ⊢
    obtain ⟨x, hx, e⟩ := e
    split at e
    · rename_i hb
      simp only [Option.bind_eq_some_iff, Option.some.injEq] at e
      obtain ⟨s', hs, rfl⟩ := e
      exact ⟨x, symAt_mono h hx, by rw [if_pos hb, sumT_mono h r s' hs]; rfl⟩
    · cases e
theorem symVal_mono {ρ ρ' : Ren} (h : ρ.le ρ') {fi ca : List Value} {v : Value} (e : symVal ρ fi ca = some v) : symVal ρ' fi ca = some v := by
  unfold symVal at e ⊢
  split at e
  · simp only [Option.bind_eq_some_iff, Option.some.injEq] at e ⊢
    obtain ⟨ts, h1, s, h2, rfl⟩ := e
    exact ⟨ts, h1, s, sumT_mono h ts s h2, rfl⟩
  · cases e

mutual
theorem renV_mono {ρ ρ' : Ren} (h : ρ.le ρ') : ∀ (v v' : Value), renV ρ v = some v' → renV ρ' v = some v'
  | .bool _, _, e => by simpa [renV] using e
  | .int _ _, _, e => by simpa [renV] using e
  | .float _ _, _, e => by simp [renV] at e
  | .complex _ _ _, _, e => by simp [renV] at e
  | .chan _, _, e => by simp [renV] at e
  | .string _, _, e => by simpa [renV] using e
  | .pointer none, _, e => by simpa [renV] using e
  | .pointer (some a), v', e => by
    cases hp : ρ a.block with
    | none => simp [renV, hp] at e
    | some p => rw [renV, hp] at e; rw [renV, h _ _ hp]; exact e
  | .slice none _ _, _, e => by simpa [renV] using e
  | .slice (some a) _ _, v', e => by
    cases hp : ρ a.block with
    | none => simp [renV, hp] at e
    | some p => rw [renV, hp] at e; rw [renV, h _ _ hp]; exact e
  | .map none, _, e => by simpa [renV] using e
  | .map (some r), v', e => by
    cases hp : ρ r with
    | none => simp [renV, hp] at e
    | some p => rw [renV, hp] at e; rw [renV, h _ _ hp]; exact e
  | .func (.func f) ⟨fi⟩ ⟨ca⟩, v', e => by
    cases h1 : renL ρ fi with
    | none => simp [renV, h1] at e
    | some a =>
      cases h2 : renL ρ ca with
      | none => simp [renV, h1, h2] at e
      | some b => rw [renV, h1, h2] at e; rw [renV, renL_mono h fi a h1, renL_mono h ca b h2]; exact e
  | .func (.method _) _ _, _, e => by simp [renV] at e
  | .func (.methodOf _ _) _ _, _, e => by simp [renV] at e
  | .func (.via _ _ _ _) _ _, _, e => by simp [renV] at e
  | .func (.yield _) ⟨fi⟩ ⟨ca⟩, _, e => by rw [renV] at e ⊢; exact symVal_mono h e
  | .nilFunc, _, e => by simpa [renV] using e
  | .iface t v, v', e => by
    cases h1 : renV ρ v with
    | none => simp [renV, h1] at e
    | some a => rw [renV, h1] at e; rw [renV, renV_mono h v a h1]; exact e
  | .nilIface, _, e => by simpa [renV] using e
  | .agg ⟨cs⟩, v', e => by
    cases h1 : renL ρ cs with
    | none => simp [renV, h1] at e
    | some a => rw [renV, h1] at e; rw [renV, renL_mono h cs a h1]; exact e
  | .tuple ⟨cs⟩, v', e => by
    cases h1 : renL ρ cs with
    | none => simp [renV, h1] at e
    | some a => rw [renV, h1] at e; rw [renV, renL_mono h cs a h1]; exact e
theorem renL_mono {ρ ρ' : Ren} (h : ρ.le ρ') : ∀ (vs vs' : List Value), renL ρ vs = some vs' → renL ρ' vs = some vs'
  | [], _, e => by simpa [renL] using e
  | v :: vs, l, e => by
    cases h1 : renV ρ v with
    | none => simp [renL, h1] at e
    | some a =>
      cases h2 : renL ρ vs with
      | none => simp [renL, h1, h2] at e
      | some b => rw [renL, h1, h2] at e; rw [renL, renV_mono h v a h1, renL_mono h vs b h2]; exact e
end
theorem VR.mono {ρ ρ' : Ren} (h : ρ.le ρ') {v v' : Value} (e : VR ρ v v') : VR ρ' v v' := renV_mono h v v' e

/-- what an object of the evaluator's is in the world -/
def ObjOk (P : Program) (B : Nat) (ρ : Ren) (w : World) (k : Nat) (o : AObj) : Prop :=
  ∃ p, ρ k = some p ∧ p.1.spot = none ∧ match o with
    | .cells c e true => B ≤ p.1.block ∧ ∃ cur, w.heap[p.1.block]? = some (.cells cur e (0, 0)) ∧ p.1.off + c.length ≤ cur.size ∧
        (∀ i v, c[i]? = some v → ∃ v', cur[p.1.off + i]? = some v' ∧ VR ρ v v') ∧ (p.2 = 0 ∨ (c.length ≤ p.2 * P.cellsOf e ∧ p.1.off + p.2 * P.cellsOf e ≤ cur.size))
    | .cells c _ false => p.1.block < B ∧ ∀ i v, c[i]? = some v → ∃ v', w.cell? ⟨p.1.block, p.1.off + i, none⟩ = some v' ∧ VR ρ v v'
    | .map es clock => B ≤ p.1.block ∧ p.1.off = 0 ∧ ∃ es', w.heap[p.1.block]? = some (.map es' clock) ∧ es'.size = es.length ∧
        ∀ (i : Nat) (x : MapEntry), es[i]? = some x → ∃ y : MapEntry, es'[i]? = some y ∧ VR ρ x.key y.key ∧ VR ρ x.val y.val ∧ x.born = y.born
    | .iter m since seen stepped => B ≤ p.1.block ∧ p.1.off = 0 ∧ ∃ m', w.heap[p.1.block]? = some (.mapIter m' since seen.toArray stepped) ∧
        match m with
        | none => m' = none
        | some r => ∃ q, ρ r = some q ∧ m' = some q.1.block

def Owned (hp : Hp) (ρ : Ren) (b : Nat) : Prop := ∃ k o p, hp k = some o ∧ o.own = true ∧ ρ k = some p ∧ p.1.block = b

structure HRel (P : Program) (B lim : Nat) (hp : Hp) (nx : Nat) (ρ : Ren) (w : World) : Prop where
  base : B ≤ w.heap.size
  fresh : ∀ k, nx ≤ k → k < lim → ρ k = none
  lt : ∀ k o, hp k = some o → k < nx
  obj : ∀ k o, hp k = some o → ObjOk P B ρ w k o
  inj : ∀ k o p k' o' p', hp k = some o → o.own = true → ρ k = some p → hp k' = some o' → o'.own = true → ρ k' = some p' → p.1.block = p'.1.block → k = k'

structure Step (hp hp' : Hp) (nx nx' : Nat) (ρ ρ' : Ren) (w w' : World) : Prop where
  next : nx ≤ nx'
  ext : ∀ k, ρ' k = ρ k ∨ (nx ≤ k ∧ k < nx' ∧ ρ k = none)
  os : w'.os = w.os
  tape : w'.tape = w.tape
  output : w'.output = w.output
  size : w.heap.size ≤ w'.heap.size
  keep : ∀ b, b < w.heap.size → ¬ Owned hp ρ b → w'.heap[b]? = w.heap[b]?
  own : ∀ b, Owned hp' ρ' b → w.heap.size ≤ b ∨ Owned hp ρ b

theorem Step.le {hp hp' : Hp} {nx nx' : Nat} {ρ ρ' : Ren} {w w' : World} (h : Step hp hp' nx nx' ρ ρ' w w') : ρ.le ρ' := fun k p e => by
  rcases h.ext k with h1 | ⟨_, _, h1⟩
  · rw [h1]; exact e
  · rw [h1] at e; cases e
theorem Step.refl (hp : Hp) (nx : Nat) (ρ : Ren) (w : World) : Step hp hp nx nx ρ ρ w w :=
  ⟨Nat.le_refl _, fun _ => .inl rfl, rfl, rfl, rfl, Nat.le_refl _, fun _ _ _ => rfl, fun _ h => .inr h⟩
theorem Step.trans {h0 h1 h2 : Hp} {n0 n1 n2 : Nat} {r0 r1 r2 : Ren} {w0 w1 w2 : World} (a : Step h0 h1 n0 n1 r0 r1 w0 w1) (b : Step h1 h2 n1 n2 r1 r2 w1 w2) : Step h0 h2 n0 n2 r0 r2 w0 w2 where
  next := Nat.le_trans a.next b.next
  ext k := by
    rcases a.ext k with h | ⟨h1, h2, h3⟩ <;> rcases b.ext k with g | ⟨g1, g2, g3⟩
    · exact .inl (g.trans h)
    · exact .inr ⟨Nat.le_trans a.next g1, g2, h ▸ g3⟩
    · exact .inr ⟨h1, Nat.lt_of_lt_of_le h2 b.next, h3⟩
    · exact .inr ⟨h1, g2, h3⟩
  os := b.os.trans a.os
  tape := b.tape.trans a.tape
  output := b.output.trans a.output
  size := Nat.le_trans a.size b.size
  keep k hk hn := by
    rw [b.keep k (Nat.lt_of_lt_of_le hk a.size) fun ho => (a.own k ho).elim (fun h => by omega) hn]
    exact a.keep k hk hn
  own k hk := (b.own k hk).elim (fun h => .inl (Nat.le_trans a.size h)) fun h => a.own k h
theorem Step.below {P : Program} {B lim : Nat} {hp hp' : Hp} {nx nx' : Nat} {ρ ρ' : Ren} {w w' : World} (h : Step hp hp' nx nx' ρ ρ' w w') (hr : HRel P B lim hp nx ρ w) : Below B w w' :=
  ⟨h.os, h.tape, h.output, h.size, fun k hk => h.keep k (Nat.lt_of_lt_of_le hk hr.base) fun ⟨i, o, p, h1, h2, h3, h4⟩ => by
    obtain ⟨q, e1, _, e3⟩ := hr.obj i o h1
    rw [h3] at e1; cases e1
    cases o with
    | cells c e b => simp only [AObj.own] at h2; subst h2; have := e3.1; omega
    | map es c => have := e3.1; omega
    | iter a b c d => have := e3.1; omega⟩
/-- an object stays what it is where its block stays -/
theorem ObjOk.keep {P : Program} {B : Nat} {ρ ρ' : Ren} {w w' : World} {k : Nat} {o : AObj} (h : ObjOk P B ρ w k o) (hle : ρ.le ρ')
    (hb : ∀ p, ρ k = some p → w'.heap[p.1.block]? = w.heap[p.1.block]?) : ObjOk P B ρ' w' k o := by
  obtain ⟨p, h1, h2, h3⟩ := h
  have hk := hb p h1
  refine ⟨p, hle _ _ h1, h2, ?_⟩
  cases o with
  | cells c e b =>
    cases b with
    | true =>
      obtain ⟨g1, cur, g2, g3, g4, g5⟩ := h3
      exact ⟨g1, cur, hk.trans g2, g3, fun i v hv => let ⟨v', a, b⟩ := g4 i v hv; ⟨v', a, b.mono hle⟩, g5⟩
    | false =>
      obtain ⟨g1, g4⟩ := h3
      exact ⟨g1, fun i v hv => let ⟨v', a, b⟩ := g4 i v hv; ⟨v', (World.cell?_of_block (w := w) (a := ⟨p.1.block, p.1.off + i, none⟩) hk).trans a, b.mono hle⟩⟩
  | map es c =>
    obtain ⟨g1, g0, es', g2, g3, g4⟩ := h3
    exact ⟨g1, g0, es', hk.trans g2, g3, fun i v hv => let ⟨v', a, b, c, d⟩ := g4 i v hv; ⟨v', a, b.mono hle, c.mono hle, d⟩⟩
  | iter m a b c =>
    obtain ⟨g1, g0, m', g2, g3⟩ := h3
    refine ⟨g1, g0, m', hk.trans g2, ?_⟩
    cases m with
    | none => exact g3
    | some r => obtain ⟨q, e1, e2⟩ := g3; exact ⟨q, hle _ _ e1, e2⟩
theorem ObjOk.own_le {P : Program} {B : Nat} {ρ : Ren} {w : World} {k : Nat} {o : AObj} (h : ObjOk P B ρ w k o) (ho : o.own = true) {p : Addr × Nat} (hp : ρ k = some p) : B ≤ p.1.block ∧ p.1.block < w.heap.size := by
  obtain ⟨q, h1, _, h3⟩ := h
  rw [hp] at h1; cases h1
  cases o with
  | cells c e b =>
    simp only [AObj.own] at ho; subst ho
    obtain ⟨g1, cur, g2, _⟩ := h3
    exact ⟨g1, (Array.getElem?_eq_some_iff.1 g2).1⟩
  | map es c => obtain ⟨g1, _, cur, g2, _⟩ := h3; exact ⟨g1, (Array.getElem?_eq_some_iff.1 g2).1⟩
  | iter m a b c => obtain ⟨g1, _, cur, g2, _⟩ := h3; exact ⟨g1, (Array.getElem?_eq_some_iff.1 g2).1⟩
end Go.Sx
