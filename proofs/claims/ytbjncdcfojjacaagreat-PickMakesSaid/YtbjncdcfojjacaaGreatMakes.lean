/-
  What is proved: 'clevislaw25.PickMakes' answers true for every number: what Wide makes is the number, on the target. Conditions: none.
-/
import Derived.Test.YtbjncdcfojjacaaGreatRows
import Derived.Test.YtbjncdcfojjacaaGreatMakes0
import Derived.Test.YtbjncdcfojjacaaGreatMakes1
import Derived.Test.YtbjncdcfojjacaaGreatMakes2
import Derived.WalkKit
import Derived.ProofKit
import Derived.OpenShut
namespace Go.Proofs.YtbjncdcfojjacaaGreat.pickMakes
open Go.ChangeShapes Go.WideShapes Go.ChangeAt Go.RowKit
open Go.Sx
set_option linter.unusedVariables false

theorem own : ownKnob Tryz.prog.godebug = none := by kernel_rfl

theorem run_at {b0 b1 b2 b3 : Nat} (h0 : b0 ∈ three) (h1 : b1 ∈ three) (h2 : b2 ∈ three) (h3 : b3 ∈ three) : runs b0 b1 b2 b3 = true := by
  rcases three_is h0 with rfl | rfl | rfl
  · exact all0 h1 h2 h3
  · exact all1 h1 h2 h3
  · exact all2 h1 h2 h3

theorem walk (a0 : Int) (w0 : (Lit.int .u64 a0).wf = true) (w : World) :
    Calls Tryz.prog 3 #[.int .u64 a0] w fun e w' => e = .returned (.bool true) ∧ Below w.heap.size w w' := by
  have v0 : 0 ≤ a0 ∧ a0 ≤ 18446744073709551615 := by
    simp [Lit.wf, IntKind.min, IntKind.max, IntKind.signed, IntKind.bits] at w0; omega
  let h (i : Nat) : Int := a0 / 2 ^ (16 * i) % 65536
  let σ : Nat → Int := fun i => if i % 2 = 0 then h (i / 2) % 2048 else h (i / 2) / 2048
  let b (i : Nat) : Nat := if h i / 2048 ≠ 0 then 2 else if h i % 2048 ≠ 0 then 1 else 0
  have mem : ∀ i, b i ∈ three := by
    intro i
    simp only [b]
    split
    · simp [three]
    · split <;> simp [three]
  refine sym_true Heads.envOk hookOk (run_at (mem 0) (mem 1) (mem 2) (mem 3)) (σ := σ) (args' := [.int .u64 a0]) ⟨?_, trivial⟩ w
  have one : ∀ i, i < 4 → inBox σ (half (b i) i) ∧ lsum σ (half (b i) i) = 2 ^ (16 * i) * h i := by
    intro i hi
    have hr : 0 ≤ h i ∧ h i < 65536 := ⟨Int.emod_nonneg _ (by decide), Int.emod_lt_of_pos _ (by decide)⟩
    have ev : σ (2 * i) = h i % 2048 := by
      have e1 : (2 * i) % 2 = 0 := by omega
      have e2 : 2 * i / 2 = i := by omega
      simp only [σ, e1, e2, if_true]
    have od : σ (2 * i + 1) = h i / 2048 := by
      have e1 : ¬ (2 * i + 1) % 2 = 0 := by omega
      have e2 : (2 * i + 1) / 2 = i := by omega
      simp only [σ, e1, e2, if_false]
    have hbi : b i = if h i / 2048 ≠ 0 then 2 else if h i % 2048 ≠ 0 then 1 else 0 := rfl
    generalize h i = n at hr ev od hbi ⊢
    by_cases h2 : n / 2048 = 0
    · by_cases h1 : n % 2048 = 0
      · rw [hbi, if_neg (by simpa using h2), if_neg (by simpa using h1)]
        have : n = 0 := by omega
        subst this
        exact ⟨trivial, by simp [half, lsum]⟩
      · rw [hbi, if_neg (by simpa using h2), if_pos h1]
        refine ⟨⟨⟨?_, ?_⟩, trivial⟩, ?_⟩
        · show (1 : Int) ≤ σ (2 * i); rw [ev]; omega
        · show σ (2 * i) ≤ (2047 : Int); rw [ev]; omega
        · simp only [half, lsum, ev]
          rw [show n % 2048 = n by omega, Int.add_zero]
    · rw [hbi, if_pos h2]
      refine ⟨⟨⟨?_, ?_⟩, ⟨?_, ?_⟩, trivial⟩, ?_⟩
      · show (0 : Int) ≤ σ (2 * i); rw [ev]; omega
      · show σ (2 * i) ≤ (2047 : Int); rw [ev]; omega
      · show (1 : Int) ≤ σ (2 * i + 1); rw [od]; omega
      · show σ (2 * i + 1) ≤ (31 : Int); rw [od]; omega
      · simp only [half, lsum, ev, od]
        rw [Int.pow_add, Int.mul_assoc, Int.add_zero, ← Int.mul_add]
        congr 1
        omega
  have app : ∀ l r : List Term, inBox σ l → inBox σ r → inBox σ (l ++ r) ∧ lsum σ (l ++ r) = lsum σ l + lsum σ r := by
    intro l r hl hr
    induction l with
    | nil => exact ⟨hr, by simp [lsum]⟩
    | cons t l ih =>
      obtain ⟨i1, i2⟩ := ih hl.2
      exact ⟨⟨hl.1, i1⟩, by simp only [List.cons_append, lsum, i2]; omega⟩
  obtain ⟨p0, q0⟩ := one 0 (by omega)
  obtain ⟨p1, q1⟩ := one 1 (by omega)
  obtain ⟨p2, q2⟩ := one 2 (by omega)
  obtain ⟨p3, q3⟩ := one 3 (by omega)
  obtain ⟨r1, s1⟩ := app _ _ p0 p1
  obtain ⟨r2, s2⟩ := app _ _ r1 p2
  obtain ⟨r3, s3⟩ := app _ _ r2 p3
  have := vr_sym (σ := σ) (k := .u64) (l := number (b 0) (b 1) (b 2) (b 3)) r3
  have e : (number (b 0) (b 1) (b 2) (b 3)).val σ = a0 := by
    show 0 + lsum σ (half (b 0) 0 ++ half (b 1) 1 ++ half (b 2) 2 ++ half (b 3) 3) = a0
    rw [s3, s2, s1, q0, q1, q2, q3]
    simp only [h, Nat.mul_zero, Nat.mul_one, Int.pow_zero, Nat.reduceMul, Int.reducePow, Int.ediv_one]
    omega
  rwa [e] at this

set_option maxRecDepth 100000 in
theorem lifted (os : Os) (started : os.Started) (H : Type) (enc : TypeId × Value → H) :
    ReturnsInHanded {} Tryz.checked os 3 .any (Rows.pickMakesSpec.pre6 enc Tryz.prog Tryz.f3 Rows.pickMakesRow.domain false) (Rows.pickMakesSpec.post enc Tryz.prog Tryz.f3 false true false false) := by
  refine returnsInHanded_of_change (C := Tryz.checked) own started (by kernel_rfl) Tryz.func3
    (ChangeSpec.witness6 (enc := enc) (C := Tryz.checked) false ⟨#[], #[.int .u64 0], []⟩ 8 (by kernel_rfl) (by kernel_rfl) (by kernel_rfl) (by kernel_rfl)) ?_
  intro W base args ds gs before hval0 hW hcnd _
  have hval : ∀ (j : Nat) t v, Tryz.f3.params[j]? = some t → args[j]? = some v → Value.okWide Tryz.prog W .any base t v := hval0
  have hW' := hW
  obtain ⟨p, q, hA0, hV, rfl, hfz, hnd⟩ := hW
  have hA : DataW.TrodAll enc Tryz.prog W 0 (fun _ => true) true Tryz.f3.params.toList args.toList ds p := hA0
  rw [Tryz.params3] at hA hval
  obtain ⟨v0, vs0, d0, ds0, p0, q0, hargs, rfl, rfl, h0, r0⟩ := trodAll_cons hA
  obtain ⟨rfl, rfl, rfl⟩ := trodAll_nil r0
  obtain rfl : args = #[v0] := by cases args; simp_all
  obtain ⟨rfl, rfl⟩ := trodVars_none hV
  obtain ⟨a0, rfl, rfl, rfl, w0⟩ := open_int Tryz.underlying22 (hval 0 22 v0 rfl rfl) h0
  clear hA0 hval0
  simp only [List.append_nil] at hW'
  refine (walk a0 w0 W).mono fun e W' ⟨he, hg⟩ => ?_
  subst he
  exact ⟨_, rfl, _, _, _, [], [], [], hW', (trodAll_cons_mk (shut_bool Tryz.underlying4 _) trodAll_mk0), (trodAll_cons_mk (shut_int Tryz.underlying22 w0) trodAll_mk0), rfl, hg.frame _, fun h => by cases h⟩

theorem over : Rows.pickMakesRow.holds Tryz.pinned (OpenSpec.ofChange Rows.pickMakesSpec) :=
  OpenClaim.holds_of_wide 3 Tryz.f3 rfl rfl rfl rfl rfl rfl rfl ⟨rfl, rfl, rfl, rfl, rfl⟩ rfl rfl rfl rfl rfl (by kernel_rfl) Tryz.func3 (by kernel_rfl)
    (of_decide_eq_true (by kernel_rfl)) (by unfold Func.isWrapper; first | (rw [if_pos (by decide +kernel)]; kernel_rfl) | (rw [if_neg (by decide +kernel)]; exact ⟨rfl, rfl⟩))
    (fun os started H enc _ => lifted os started H enc)

theorem pickMakes_holds : Rows.PickMakesSaid :=
  over
#print axioms pickMakes_holds
end Go.Proofs.YtbjncdcfojjacaaGreat.pickMakes
