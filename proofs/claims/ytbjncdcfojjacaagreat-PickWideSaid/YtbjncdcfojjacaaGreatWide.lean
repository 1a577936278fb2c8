/-
  What is proved: 'clevislaw25.PickWide' answers true for every register and every number: what Wide makes is what the document says, and makes the number. Conditions: none.
-/
import Derived.Test.YtbjncdcfojjacaaGreatRows
import Derived.Test.YtbjncdcfojjacaaGreatHeads
import Derived.WalkKit
import Derived.ProofKit
import Derived.OpenShut
namespace Go.Proofs.YtbjncdcfojjacaaGreat.pickWide
open Go.ChangeShapes Go.WideShapes Go.ChangeAt Go.RowKit
open Go.Sx
set_option linter.unusedVariables false

theorem own : ownKnob Tryz.prog.godebug = none := by kernel_rfl

/-! ### the runs: the register and the halves of the number are not known -/
def hook : Hook := fun f => if f = 162 then some (sortedMap 3) else if f = 12 then some saysTrue else none
theorem hookOk : HookOk Tryz.prog hook := hook_two (fun _ _ _ _ h => Heads.listOk h) (fun _ _ _ _ h => saysTrue_ok Heads.heads h)
def half (b : Bool) (i : Nat) : List Term := match b with
  | true => [⟨2 ^ (16 * i), i, 1, 65535⟩]
  | false => []
def number (b0 b1 b2 b3 : Bool) : Lin := ⟨0, half b0 0 ++ half b1 1 ++ half b2 2 ++ half b3 3⟩
def register (lo hi : Int) : Lin := ⟨0, [⟨1, 9, lo, hi⟩]⟩
noncomputable def env : Env := Env.of Tryz.prog (some 175)
noncomputable def runs (b0 b1 b2 b3 : Bool) : Bool := goodRun (callA env Tryz.prog hook 200 5 [(register 0 31).to .i64, (number b0 b1 b2 b3).to .u64] ⟨.nil, 1, 0, []⟩)
noncomputable def wrong (lo hi : Int) : Bool := goodRun (callA env Tryz.prog hook 200 5 [(register lo hi).to .i64, (Lin.mk 0 [⟨1, 0, 0, 18446744073709551615⟩]).to .u64] ⟨.nil, 1, 0, []⟩)
def bools : List Bool := [false, true]
theorem all_runs : (bools.all fun b0 => bools.all fun b1 => bools.all fun b2 => bools.all fun b3 => runs b0 b1 b2 b3) = true := by kernel_rfl
theorem low_run : wrong (-9223372036854775808) (-1) = true := by kernel_rfl
theorem high_run : wrong 32 9223372036854775807 = true := by kernel_rfl
theorem mem_bools (b : Bool) : b ∈ bools := by cases b <;> simp [bools]
theorem run_at (b0 b1 b2 b3 : Bool) : runs b0 b1 b2 b3 = true := by
  have h := all_runs
  simp only [List.all_eq_true] at h
  exact h b0 (mem_bools b0) b1 (mem_bools b1) b2 (mem_bools b2) b3 (mem_bools b3)

theorem walk (a0 : Int) (a1 : Int) (w0 : (Lit.int .i64 a0).wf = true) (w1 : (Lit.int .u64 a1).wf = true) (w : World) :
    Calls Tryz.prog 5 #[.int .i64 a0, .int .u64 a1] w fun e w' => e = .returned (.bool true) ∧ Below w.heap.size w w' := by
  have v0 : -9223372036854775808 ≤ a0 ∧ a0 ≤ 9223372036854775807 := by
    simp [Lit.wf, IntKind.min, IntKind.max, IntKind.signed, IntKind.bits] at w0; omega
  have v1 : 0 ≤ a1 ∧ a1 ≤ 18446744073709551615 := by
    simp [Lit.wf, IntKind.min, IntKind.max, IntKind.signed, IntKind.bits] at w1; omega
  have out : ∀ lo hi, lo ≤ a0 → a0 ≤ hi → wrong lo hi = true → Calls Tryz.prog 5 #[.int .i64 a0, .int .u64 a1] w fun e w' => e = .returned (.bool true) ∧ Below w.heap.size w w' := by
    intro lo hi h1 h2 h
    let σ : Nat → Int := fun i => if i = 9 then a0 else a1
    refine sym_true Heads.envOk hookOk h (σ := σ) (args' := [.int .i64 a0, .int .u64 a1]) ⟨?_, ?_, trivial⟩ w
    · have := vr_sym (σ := σ) (k := .i64) (l := register lo hi) ⟨⟨by simpa [σ] using h1, by simpa [σ] using h2⟩, trivial⟩
      simpa [Lin.val, lsum, register, σ] using this
    · have := vr_sym (σ := σ) (k := .u64) (l := Lin.mk 0 [⟨1, 0, 0, 18446744073709551615⟩]) ⟨⟨by simp [σ]; omega, by simp [σ]; omega⟩, trivial⟩
      simpa [Lin.val, lsum, σ] using this
  rcases Int.lt_or_le a0 0 with h | h
  · exact out _ _ v0.1 (by omega) low_run
  rcases Int.lt_or_le 31 a0 with h' | h'
  · exact out _ _ (by omega) v0.2 high_run
  let σ : Nat → Int := fun i => if i = 9 then a0 else a1 / 2 ^ (16 * i) % 65536
  let b (i : Nat) : Bool := decide (a1 / 2 ^ (16 * i) % 65536 ≠ 0)
  refine sym_true Heads.envOk hookOk (run_at (b 0) (b 1) (b 2) (b 3)) (σ := σ) (args' := [.int .i64 a0, .int .u64 a1]) ⟨?_, ?_, trivial⟩ w
  · have := vr_sym (σ := σ) (k := .i64) (l := register 0 31) ⟨⟨by simpa [σ] using h, by simpa [σ] using h'⟩, trivial⟩
    simpa [Lin.val, lsum, register, σ] using this
  · have one : ∀ i, i < 4 → inBox σ (half (b i) i) ∧ lsum σ (half (b i) i) = 2 ^ (16 * i) * (a1 / 2 ^ (16 * i) % 65536) := by
      intro i hi
      have hn : i ≠ 9 := by omega
      have hr : 0 ≤ a1 / 2 ^ (16 * i) % 65536 ∧ a1 / 2 ^ (16 * i) % 65536 < 65536 := ⟨Int.emod_nonneg _ (by decide), Int.emod_lt_of_pos _ (by decide)⟩
      by_cases hz : a1 / 2 ^ (16 * i) % 65536 = 0
      · have hb : b i = false := by simp [b, hz]
        rw [hb]
        exact ⟨trivial, by rw [hz]; simp [half, lsum]⟩
      · have hb : b i = true := by simp [b, hz]
        rw [hb]
        refine ⟨⟨⟨?_, ?_⟩, trivial⟩, ?_⟩
        · simp only [σ, if_neg hn]; omega
        · simp only [σ, if_neg hn]; omega
        · simp only [half, lsum, σ, if_neg hn]; omega
    have app : ∀ l r : List Term, inBox σ l → inBox σ r → inBox σ (l ++ r) ∧ lsum σ (l ++ r) = lsum σ l + lsum σ r := by
      intro l r hl hr
      induction l with
      | nil => exact ⟨hr, by simp [lsum]⟩
      | cons t l ih =>
        obtain ⟨i1, i2⟩ := ih hl.2
        exact ⟨⟨hl.1, i1⟩, by simp only [List.cons_append, lsum, i2]; omega⟩
    obtain ⟨p0, q0⟩ := one 0 (by omega)
    obtain ⟨p1, q1⟩ := one 1 (by omega)
    obtain ⟨p2, q2⟩ := one 2 (by omega)
    obtain ⟨p3, q3⟩ := one 3 (by omega)
    obtain ⟨r1, s1⟩ := app _ _ p0 p1
    obtain ⟨r2, s2⟩ := app _ _ r1 p2
    obtain ⟨r3, s3⟩ := app _ _ r2 p3
    have := vr_sym (σ := σ) (k := .u64) (l := number (b 0) (b 1) (b 2) (b 3)) r3
    have e : (number (b 0) (b 1) (b 2) (b 3)).val σ = a1 := by
      show 0 + lsum σ (half (b 0) 0 ++ half (b 1) 1 ++ half (b 2) 2 ++ half (b 3) 3) = a1
      rw [s3, s2, s1, q0, q1, q2, q3]
      simp only [Nat.mul_zero, Nat.mul_one, Int.pow_zero, Nat.reduceMul, Int.reducePow, Int.ediv_one]
      omega
    rwa [e] at this

set_option maxRecDepth 100000 in
theorem lifted (os : Os) (started : os.Started) (H : Type) (enc : TypeId × Value → H) :
    ReturnsInHanded {} Tryz.checked os 5 .any (Rows.pickWideSpec.pre6 enc Tryz.prog Tryz.f5 Rows.pickWideRow.domain false) (Rows.pickWideSpec.post enc Tryz.prog Tryz.f5 false true false false) := by
  refine returnsInHanded_of_change (C := Tryz.checked) own started (by kernel_rfl) Tryz.func5
    (ChangeSpec.witness6 (enc := enc) (C := Tryz.checked) false ⟨#[], #[.int .i64 0, .int .u64 0], []⟩ 8 (by kernel_rfl) (by kernel_rfl) (by kernel_rfl) (by kernel_rfl)) ?_
  intro W base args ds gs before hval0 hW hcnd _
  have hval : ∀ (j : Nat) t v, Tryz.f5.params[j]? = some t → args[j]? = some v → Value.okWide Tryz.prog W .any base t v := hval0
  have hW' := hW
  obtain ⟨p, q, hA0, hV, rfl, hfz, hnd⟩ := hW
  have hA : DataW.TrodAll enc Tryz.prog W 0 (fun _ => true) true Tryz.f5.params.toList args.toList ds p := hA0
  rw [Tryz.params5] at hA hval
  obtain ⟨v0, vs0, d0, ds0, p0, q0, hargs, rfl, rfl, h0, r0⟩ := trodAll_cons hA
  obtain ⟨v1, vs1, d1, ds1, p1, q1, rfl, rfl, rfl, h1, r1⟩ := trodAll_cons r0
  obtain ⟨rfl, rfl, rfl⟩ := trodAll_nil r1
  obtain rfl : args = #[v0, v1] := by cases args; simp_all
  obtain ⟨rfl, rfl⟩ := trodVars_none hV
  obtain ⟨a0, rfl, rfl, rfl, w0⟩ := open_int Tryz.underlying3 (hval 0 3 v0 rfl rfl) h0
  obtain ⟨a1, rfl, rfl, rfl, w1⟩ := open_int Tryz.underlying22 (hval 1 22 v1 rfl rfl) h1
  clear hA0 hval0
  simp only [List.append_nil] at hW'
  refine (walk a0 a1 w0 w1 W).mono fun e W' ⟨he, hg⟩ => ?_
  subst he
  exact ⟨_, rfl, _, _, _, [], [], [], hW', (trodAll_cons_mk (shut_bool Tryz.underlying4 _) trodAll_mk0), (trodAll_cons_mk (shut_int Tryz.underlying3 w0) (trodAll_cons_mk (shut_int Tryz.underlying22 w1) trodAll_mk0)), rfl, hg.frame _, fun h => by cases h⟩

theorem over : Rows.pickWideRow.holds Tryz.pinned (OpenSpec.ofChange Rows.pickWideSpec) :=
  OpenClaim.holds_of_wide 5 Tryz.f5 rfl rfl rfl rfl rfl rfl rfl ⟨rfl, rfl, rfl, rfl, rfl⟩ rfl rfl rfl rfl rfl (by kernel_rfl) Tryz.func5 (by kernel_rfl)
    (of_decide_eq_true (by kernel_rfl)) (by unfold Func.isWrapper; first | (rw [if_pos (by decide +kernel)]; kernel_rfl) | (rw [if_neg (by decide +kernel)]; exact ⟨rfl, rfl⟩))
    (fun os started H enc _ => lifted os started H enc)

theorem pickWide_holds : Rows.PickWideSaid :=
  over
#print axioms pickWide_holds
end Go.Proofs.YtbjncdcfojjacaaGreat.pickWide
