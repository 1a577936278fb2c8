/-
  What is proved: what the types of this layer are, and decision trees of boxes. Conditions: none.
-/
import Derived.Test.YtbjncdcfojjacaaGreatSyWalk
import Derived.Test.YtbjncdcfojjacaaGreatProg
set_option linter.unusedVariables false
set_option linter.unusedSimpArgs false
set_option linter.unusedSectionVars false
namespace Go.Pick
open Go Go.RowKit Go.Sx Go.Sy Go.Proofs
theorem cloneOk : ∀ f g, (some 175 : Option FuncId) = some f → Tryz.prog.funcs[f]? = some g → Extern.findNext g = none ∧ Extern.find g = some Extern.MapsClone.clone := by
  intro f g hf hg
  cases hf
  have : g = Tryz.f175 := (Option.some.inj (Tryz.func175.symm.trans hg)).symm
  subst this
  exact ⟨by kernel_rfl, rfl⟩
noncomputable def env : Env := Env.of Tryz.prog (some 175)
noncomputable def tabs : Tab where
  fld := [(37, [(0, 1), (1, 1), (2, 1), (3, 1), (4, 1), (5, 1), (6, 1), (7, 1)]), (56, [(0, 8), (8, 1)]), (89, [(0, 1), (1, 1), (2, 1), (3, 1)])]
  slc := [(33, (37, 8)), (50, (56, 9)), (51, (3, 1)), (95, (4, 1))]
  agg := [(3, false), (4, false), (33, false), (35, false), (37, true), (50, false), (51, false), (56, true), (87, false), (89, true), (95, false)]
  size := [(3, 1), (4, 1), (33, 1), (35, 1), (37, 8), (50, 1), (51, 1), (56, 9), (87, 1), (89, 4), (95, 1)]
theorem tabOk : tabs.ok env = true := by kernel_rfl
theorem el3 : elOf env 3 = some (8, [.int .i64 0]) := by kernel_rfl
theorem el4 : elOf env 4 = some (1, [.bool false]) := by kernel_rfl
theorem el37 : elOf env 37 = some (64, [.int .i64 0, .int .i64 0, .int .i64 0, .int .i64 0, .int .i64 0, .bool false, .int .i64 0, .int .i64 0]) := by kernel_rfl
theorem el33 : elOf env 33 = some (24, [.slice none 0 0]) := by kernel_rfl
theorem el35 : elOf env 35 = some (8, [.int .i64 0]) := by kernel_rfl
theorem el56 : elOf env 56 = some (72, [.int .i64 0, .int .i64 0, .int .i64 0, .int .i64 0, .int .i64 0, .bool false, .int .i64 0, .int .i64 0, .int .i64 0]) := by kernel_rfl
theorem el50 : elOf env 50 = some (24, [.slice none 0 0]) := by kernel_rfl
theorem el51 : elOf env 51 = some (24, [.slice none 0 0]) := by kernel_rfl
theorem el87 : elOf env 87 = some (8, [.pointer none]) := by kernel_rfl
theorem el89 : elOf env 89 = some (96, [.slice none 0 0, .slice none 0 0, .slice none 0 0, .slice none 0 0]) := by kernel_rfl
theorem el95 : elOf env 95 = some (24, [.slice none 0 0]) := by kernel_rfl
theorem fn12 : env.fn.get 12 = some Tryz.f12 := by kernel_rfl
theorem fn13 : env.fn.get 13 = some Tryz.f13 := by kernel_rfl
theorem fn14 : env.fn.get 14 = some Tryz.f14 := by kernel_rfl
theorem fn16 : env.fn.get 16 = some Tryz.f16 := by kernel_rfl
theorem fn17 : env.fn.get 17 = some Tryz.f17 := by kernel_rfl
theorem fn28 : env.fn.get 28 = some Tryz.f28 := by kernel_rfl
theorem fn29 : env.fn.get 29 = some Tryz.f29 := by kernel_rfl
theorem fn30 : env.fn.get 30 = some Tryz.f30 := by kernel_rfl
theorem fn31 : env.fn.get 31 = some Tryz.f31 := by kernel_rfl
theorem fn32 : env.fn.get 32 = some Tryz.f32 := by kernel_rfl
theorem fn36 : env.fn.get 36 = some Tryz.f36 := by kernel_rfl
theorem fn37 : env.fn.get 37 = some Tryz.f37 := by kernel_rfl
theorem fn38 : env.fn.get 38 = some Tryz.f38 := by kernel_rfl
theorem fn50 : env.fn.get 50 = some Tryz.f50 := by kernel_rfl
theorem fn51 : env.fn.get 51 = some Tryz.f51 := by kernel_rfl
theorem fn52 : env.fn.get 52 = some Tryz.f52 := by kernel_rfl
theorem fn57 : env.fn.get 57 = some Tryz.f57 := by kernel_rfl
theorem fn58 : env.fn.get 58 = some Tryz.f58 := by kernel_rfl
theorem hE : EnvOk env Tryz.prog :=
  EnvOk.of (of_decide_eq_true (by kernel_rfl)) (of_decide_eq_true (by kernel_rfl)) (by kernel_rfl) (by kernel_rfl) (by kernel_rfl) cloneOk
end Go.Pick
namespace Go.Pick
open Go Go.RowKit Go.Sx Go.Sy Go.Proofs

inductive Tree where
  | l (b : Bool)
  | s (i : Nat) (t : Int) (a c : Tree)
abbrev y : Tree := .l true
abbrev n : Tree := .l false
abbrev Box := List (Int × Int)
def base16 (x : Int) : Int := if x < 0 then 0 else x - x % 16
def linOf (i : Nat) (lo hi : Int) : Lin :=
  if lo = hi then ⟨lo, []⟩ else
  if i = 4 ∧ lo % 16 = 0 ∧ hi % 16 = 15 ∧ 256 ≤ lo then ⟨0, [⟨16, i, lo / 16, hi / 16⟩, ⟨1, i + 20, 0, 15⟩]⟩ else
  if i = 4 ∧ hi = -16 ∧ lo % 16 = 0 then ⟨0, [⟨-16, i, 1, -(lo / 16)⟩, ⟨-1, i + 20, 0, 15⟩]⟩ else
  ⟨base16 lo, [⟨1, i, lo - base16 lo, hi - base16 lo⟩]⟩
def s1 (i : Nat) (lo hi x : Int) : Int :=
  if lo = hi then 0 else
  if i = 4 ∧ lo % 16 = 0 ∧ hi % 16 = 15 ∧ 256 ≤ lo then x / 16 else
  if i = 4 ∧ hi = -16 ∧ lo % 16 = 0 then (-x) / 16 else x - base16 lo
def s2 (i : Nat) (lo hi x : Int) : Int :=
  if lo = hi then 0 else
  if i = 4 ∧ lo % 16 = 0 ∧ hi % 16 = 15 ∧ 256 ≤ lo then x % 16 else
  if i = 4 ∧ hi = -16 ∧ lo % 16 = 0 then (-x) % 16 else 0
theorem lin_ok {i : Nat} {lo hi x : Int} {σ : Nat → Int} (h : lo ≤ x ∧ x ≤ hi) (e1 : σ i = s1 i lo hi x) (e2 : σ (i + 20) = s2 i lo hi x) : inBox σ (linOf i lo hi).ts ∧ (linOf i lo hi).val σ = x := by
  unfold linOf
  unfold s1 at e1
  unfold s2 at e2
  by_cases h1 : lo = hi
  · rw [if_pos h1]; simp [inBox, Lin.val, lsum]; omega
  · rw [if_neg h1] at e1 e2 ⊢
    by_cases h2 : i = 4 ∧ lo % 16 = 0 ∧ hi % 16 = 15 ∧ 256 ≤ lo
    · rw [if_pos h2] at e1 e2 ⊢
      simp only [inBox, Lin.val, lsum, and_true]
      omega
    · rw [if_neg h2] at e1 e2 ⊢
      by_cases h3 : i = 4 ∧ hi = -16 ∧ lo % 16 = 0
      · rw [if_pos h3] at e1 e2 ⊢
        simp only [inBox, Lin.val, lsum, and_true]
        omega
      · rw [if_neg h3] at e1 e2 ⊢
        simp only [inBox, Lin.val, lsum, and_true]
        omega
def cellOf (i : Nat) (lo hi : Int) : Value :=
  match Nat.beq i 5 with
  | true => if lo = hi then .bool (lo == 1) else .tuple #[]
  | false => (linOf i lo hi).to .i64
def valOf (i : Nat) (x : Int) : Value :=
  match Nat.beq i 5 with
  | true => .bool (x == 1)
  | false => .int .i64 x
def cellsFrom (i : Nat) : Box → List Value
  | [] => []
  | (lo, hi) :: r => cellOf i lo hi :: cellsFrom (i + 1) r
def valsFrom (i : Nat) : List Int → List Value
  | [] => []
  | x :: r => valOf i x :: valsFrom (i + 1) r
def InB : Box → List Int → Prop
  | [], [] => True
  | (lo, hi) :: r, x :: xs => (lo ≤ x ∧ x ≤ hi) ∧ InB r xs
  | _, _ => False
/-- no bool is left open -/
def fine (i : Nat) : Box → Bool
  | [] => true
  | (lo, hi) :: r => (match Nat.beq i 5 with
    | true => lo == hi
    | false => true) && fine (i + 1) r
def Sg (σ : Nat → Int) (i : Nat) : Box → List Int → Prop
  | (lo, hi) :: r, x :: xs => σ i = s1 i lo hi x ∧ σ (i + 20) = s2 i lo hi x ∧ Sg σ (i + 1) r xs
  | _, _ => True
theorem cells_vals {σ : Nat → Int} : ∀ {b : Box} {xs : List Int} {i : Nat}, fine i b = true → InB b xs → Sg σ i b xs → All2 (VR (symRen σ)) (cellsFrom i b) (valsFrom i xs)
  | [], [], _, _, _, _ => trivial
  | (lo, hi) :: r, x :: xs, i, hf, hb, hs => by
    simp only [fine, Bool.and_eq_true] at hf
    refine ⟨?_, cells_vals hf.2 hb.2 hs.2.2⟩
    have hf1 := hf.1
    unfold cellOf valOf
    cases hi5 : Nat.beq i 5 with
    | true =>
      simp only [hi5, beq_iff_eq] at hf1
      subst hf1
      have hx : lo = x := by have := hb.1; omega
      subst hx
      simp [VR, renV]
    | false =>
      obtain ⟨h1, h2⟩ := lin_ok hb.1 hs.1 hs.2.1
      have := vr_sym (k := .i64) h1
      rwa [h2] at this
  | [], _ :: _, _, _, hb, _ => hb.elim
  | _ :: _, [], _, _, hb, _ => hb.elim
def sig (i : Nat) : Box → List Int → Nat → Int
  | (lo, hi) :: r, x :: xs, j => if j = i then s1 i lo hi x else if j = i + 20 then s2 i lo hi x else sig (i + 1) r xs j
  | _, _, _ => 0
theorem sig_ok : ∀ {b : Box} {xs : List Int} {i : Nat} {σ : Nat → Int}, i + b.length ≤ 20 → (∀ j, (i ≤ j ∧ j < i + b.length) ∨ (i + 20 ≤ j ∧ j < i + 20 + b.length) → σ j = sig i b xs j) → Sg σ i b xs
  | [], _, _, _, _, _ => by simp [Sg]
  | _ :: _, [], _, _, _, _ => by simp [Sg]
  | (lo, hi) :: r, x :: xs, i, σ, hl, h => by
    simp only [List.length_cons] at hl h
    refine ⟨?_, ?_, sig_ok (by omega) fun j hj => ?_⟩
    · rw [h i (by omega)]; simp [sig]
    · rw [h (i + 20) (by omega)]; simp [sig]
    · rw [h j (by omega)]
      simp only [sig]
      rw [if_neg (by omega), if_neg (by omega)]

noncomputable def runB (f : Nat) (b : Box) : Option Bool :=
  match fine 0 b with
  | true => match callA env Tryz.prog (fun _ => none) 300 f [.agg ⟨cellsFrom 0 b⟩] ⟨.nil, 1, 0, []⟩ with
    | some (.ret (.bool c), S) => match Nat.blt S.next (symKey 0) with
      | true => some c
      | false => none
    | _ => none
  | false => none
theorem noHook : HookOk Tryz.prog fun _ => none := by intro f g h; cases h
theorem runB_ok {f : Nat} {b : Box} {c : Bool} (h : runB f b = some c) (hl : b.length ≤ 20) {xs : List Int} (hx : InB b xs) (w : World) :
    Calls Tryz.prog f #[.agg ⟨valsFrom 0 xs⟩] w fun en w' => en = .returned (.bool c) ∧ Below w.heap.size w w' := by
  unfold runB at h
  split at h
  case h_2 => cases h
  rename_i hf
  split at h
  case h_2 => cases h
  rename_i c' S hc
  split at h
  case h_2 => cases h
  rename_i hs
  simp only [Option.some.injEq] at h
  subst h
  obtain ⟨_, h2⟩ := callA_ok hE noHook 300 f _ _ _ S hc
  let σ := sig 0 b xs
  have ha : All2 (VR (symRen σ)) [.agg ⟨cellsFrom 0 b⟩] [.agg ⟨valsFrom 0 xs⟩] := ⟨VR.mkAgg (cells_vals hf hx (sig_ok (by omega) fun j _ => rfl)), trivial⟩
  have hr : HRel Tryz.prog w.heap.size (symKey 0) (Tr.nil : Tr AObj).get 1 (symRen σ) w :=
    { base := Nat.le_refl _, fresh := fun k _ hk => by unfold symRen; rw [if_neg (by omega)], lt := fun k o h => absurd h (by rw [get_nil]; simp), obj := fun k o h => absurd h (by rw [get_nil]; simp), inj := fun k o p k' o' p' h => absurd h (by rw [get_nil]; simp) }
  refine Calls.mono (h2 w.heap.size (symKey 0) (symRen σ) w _ (Sx.blt_true hs) hr ha) ?_
  rintro en w' ⟨ρ', t, hv⟩
  refine ⟨?_, t.2.below hr⟩
  cases en with
  | returned v' => rw [VR.bool hv]
  | _ => exact hv.elim

/-! ### trees -/
def cutHi (i : Nat) (t : Int) : Box → Box
  | [] => []
  | (lo, hi) :: r => match i with
    | 0 => (lo, min hi (t - 1)) :: r
    | k + 1 => (lo, hi) :: cutHi k t r
def cutLo (i : Nat) (t : Int) : Box → Box
  | [] => []
  | (lo, hi) :: r => match i with
    | 0 => (max lo t, hi) :: r
    | k + 1 => (lo, hi) :: cutLo k t r
def atI (i : Nat) : List Int → Int
  | [] => 0
  | x :: r => match i with
    | 0 => x
    | k + 1 => atI k r
def atB (i : Nat) : Box → Int × Int
  | [] => (0, 0)
  | x :: r => match i with
    | 0 => x
    | k + 1 => atB k r
def Tree.at (xs : List Int) : Tree → Bool
  | .l b => b
  | .s i t a c => if atI i xs < t then a.at xs else c.at xs
noncomputable def Tree.ok (f : Nat) : Tree → Box → Bool
  | .l b, x => match runB f x with
    | some c => c == b
    | none => false
  | .s i t a c, x => a.ok f (cutHi i t x) && c.ok f (cutLo i t x)
theorem cut_length (i : Nat) (t : Int) : ∀ b : Box, (cutHi i t b).length = b.length ∧ (cutLo i t b).length = b.length := by
  intro b
  induction b generalizing i with
  | nil => exact ⟨by simp [cutHi], by simp [cutLo]⟩
  | cons x r ih =>
    obtain ⟨lo, hi⟩ := x
    cases i with
    | zero => exact ⟨by simp [cutHi], by simp [cutLo]⟩
    | succ k => exact ⟨by simp [cutHi, (ih k).1], by simp [cutLo, (ih k).2]⟩
theorem cut_in : ∀ {i : Nat} {t : Int} {b : Box} {xs : List Int}, InB b xs → (atI i xs < t → InB (cutHi i t b) xs) ∧ (t ≤ atI i xs → InB (cutLo i t b) xs)
  | _, _, [], [], _ => ⟨fun _ => by simp [cutHi, InB], fun _ => by simp [cutLo, InB]⟩
  | 0, t, (lo, hi) :: r, x :: xs, h => ⟨fun ht => by simp only [cutHi, InB]; simp only [atI] at ht; have := h.1; exact ⟨⟨h.1.1, by omega⟩, h.2⟩, fun ht => by simp only [cutLo, InB]; simp only [atI] at ht; have := h.1; exact ⟨⟨by omega, h.1.2⟩, h.2⟩⟩
  | k + 1, t, (lo, hi) :: r, x :: xs, h => ⟨fun ht => by simp only [cutHi, InB]; exact ⟨h.1, (cut_in h.2).1 (by simpa only [atI] using ht)⟩, fun ht => by simp only [cutLo, InB]; exact ⟨h.1, (cut_in h.2).2 (by simpa only [atI] using ht)⟩⟩
  | _, _, [], _ :: _, h => h.elim
  | _, _, _ :: _, [], h => h.elim
theorem Tree.tells {f : Nat} : ∀ {T : Tree} {b : Box}, T.ok f b = true → b.length ≤ 20 → ∀ {xs : List Int}, InB b xs → ∀ w, Calls Tryz.prog f #[.agg ⟨valsFrom 0 xs⟩] w fun en w' => en = .returned (.bool (T.at xs)) ∧ Below w.heap.size w w'
  | .l c, b, h, hl, xs, hx, w => by
    unfold Tree.ok at h
    split at h
    · rename_i c' hc
      simp only [beq_iff_eq] at h
      subst h
      exact runB_ok hc hl hx w
    · cases h
  | .s i t a c, b, h, hl, xs, hx, w => by
    simp only [Tree.ok, Bool.and_eq_true] at h
    simp only [Tree.at]
    split
    · rename_i ht
      exact Tree.tells h.1 (by rw [(cut_length i t b).1]; exact hl) ((cut_in hx).1 ht) w
    · rename_i ht
      exact Tree.tells h.2 (by rw [(cut_length i t b).2]; exact hl) ((cut_in hx).2 (by omega)) w
/-- all leaves of a tree that a box comes to are this -/
def Tree.all (b : Bool) : Tree → Box → Bool
  | .l c, _ => c == b
  | .s i t a c, x => (match decide ((atB i x).1 < t) with
      | true => a.all b (cutHi i t x)
      | false => true) && (match decide (t ≤ (atB i x).2) with
      | true => c.all b (cutLo i t x)
      | false => true)
def Tree.same : Tree → Tree → Box → Bool
  | .l b, U, x => U.all b x
  | .s i t a c, U, x => a.same U (cutHi i t x) && c.same U (cutLo i t x)
theorem at_in : ∀ {i : Nat} {b : Box} {xs : List Int}, InB b xs → (atB i b).1 ≤ atI i xs ∧ atI i xs ≤ (atB i b).2
  | _, [], [], _ => by simp [atB, atI]
  | 0, (lo, hi) :: r, x :: xs, h => h.1
  | k + 1, (lo, hi) :: r, x :: xs, h => at_in (i := k) h.2
  | _, [], _ :: _, h => h.elim
  | _, _ :: _, [], h => h.elim
theorem Tree.all_at {b : Bool} : ∀ {U : Tree} {x : Box}, U.all b x = true → ∀ {xs : List Int}, InB x xs → U.at xs = b
  | .l c, _, h, _, _ => by simpa [Tree.all, Tree.at] using h
  | .s i t a c, x, h, xs, hx => by
    simp only [Tree.all, Bool.and_eq_true] at h
    obtain ⟨h1, h2⟩ := h
    have hi := at_in (i := i) hx
    simp only [Tree.at]
    split
    · rename_i ht
      rw [show decide ((atB i x).1 < t) = true by simp; omega] at h1
      exact Tree.all_at h1 ((cut_in hx).1 ht)
    · rename_i ht
      rw [show decide (t ≤ (atB i x).2) = true by simp; omega] at h2
      exact Tree.all_at h2 ((cut_in hx).2 (by omega))
theorem Tree.same_at : ∀ {T U : Tree} {x : Box}, T.same U x = true → ∀ {xs : List Int}, InB x xs → T.at xs = U.at xs
  | .l b, U, x, h, xs, hx => (Tree.all_at h hx).symm
  | .s i t a c, U, x, h, xs, hx => by
    simp only [Tree.same, Bool.and_eq_true] at h
    simp only [Tree.at]
    split
    · rename_i ht; exact Tree.same_at h.1 ((cut_in hx).1 ht)
    · rename_i ht; exact Tree.same_at h.2 ((cut_in hx).2 (by omega))

def lo64 : Int := -9223372036854775808
def hi64 : Int := 9223372036854775807
def full (lo hi : Int) : Box := [(lo, hi), (lo64, hi64), (lo64, hi64), (lo64, hi64), (lo64, hi64), (0, 1), (lo64, hi64), (lo64, hi64)]

/-- a function that answers a bool and leaves all as it was -/
theorem callR_bool {P : Program} {f : FuncId} {args : List Value} {b : Bool} (hc : ∀ ρ args', All2 (VR ρ) args args' → args' = args) (h : ∀ w, Calls P f ⟨args⟩ w fun en w' => en = .returned (.bool b) ∧ Below w.heap.size w w') (hp : Hp) (nx : Nat) :
    CallR P f args hp nx (.ret (.bool b)) hp nx := by
  refine ⟨Nat.le_refl _, fun B lim ρ w args' hl hr ha => ?_⟩
  obtain rfl := hc ρ args' ha
  refine Calls.mono (h w) ?_
  rintro en w' ⟨rfl, hb⟩
  exact ⟨ρ, rel_below hr hb, by simp [Sy.EndR, VR, renV]⟩
theorem vals_closed {ρ : Ren} : ∀ {xs : List Int} {i : Nat} {l : List Value}, All2 (VR ρ) (valsFrom i xs) l → l = valsFrom i xs
  | [], _, [], _ => rfl
  | x :: xs, i, v :: l, h => by
    have h1 := h.1
    have h2 := vals_closed h.2
    subst h2
    unfold valOf at h1
    simp only [valsFrom, valOf]
    cases hb : Nat.beq i 5 with
    | true => simp only [hb] at h1; rw [VR.bool h1]
    | false => simp only [hb] at h1; rw [VR.int h1]
  | [], _, _ :: _, h => h.elim
  | _ :: _, _, [], h => h.elim
end Go.Pick
