/-
  What is proved: 'clevislaw25.PickFar' answers true for whatever drafts and marks: with a gap amid the drafts, too, the program's relaxer makes what the document's makes. Conditions: none.
-/
import Derived.Test.YtbjncdcfojjacaaGreatRows
import Derived.Test.YtbjncdcfojjacaaGreatHeads
import Derived.Test.YtbjncdcfojjacaaGreatPkFar
import Derived.WalkKit
import Derived.ProofKit
import Derived.OpenShut
import Derived.Carry
namespace Go.Proofs.YtbjncdcfojjacaaGreat.pickFar
open Go.ChangeShapes Go.WideShapes Go.ChangeAt Go.RowKit
open Go.Sx
set_option linter.unusedVariables false

theorem own : ownKnob Tryz.prog.godebug = none := by kernel_rfl
theorem laid : laidOutB Tryz.prog = true := by kernel_rfl
theorem heads (hp : Hp) (nx : Nat) : ∃ nx', Go.Sy.CallR Tryz.prog 12 [] hp nx (.ret (.bool true)) hp nx' :=
  ⟨nx, Go.Pick.callR_bool (fun ρ args' h => by cases args' with | nil => rfl | cons _ _ => exact h.elim) Heads.heads hp nx⟩

theorem walk {l : List Go.Pick.Dr} {ms : List Int} {v0 v1 : Value} {a g : Int} {w : World} (h0 : Go.Sy.Lies w v0 l.length (Go.Pick.flat l)) (h1 : Go.Sy.Lies w v1 ms.length (Go.Pick.ints ms)) (hfit : ∀ x ∈ l, x.ins.fit) :
    Calls Tryz.prog 7 #[v0, v1, .int .i64 a, .int .i64 g] w fun e w' => e = .returned (.bool true) ∧ Below w.heap.size w w' :=
  Go.Sy.two_caps (s0 := 9) (s1 := 1) (rest := [.int .i64 a, .int .i64 g]) h0 h1 (Go.Pick.flat_len l) (by simp [Go.Pick.ints])
    (by intro x hx; simp only [List.mem_cons, List.not_mem_nil, or_false] at hx; rcases hx with rfl | rfl <;> exact Go.Sy.shutInt _ _)
    fun hp A0 A1 C0 C1 hl hm c0 _ => Go.Pick.law_far heads hl hm c0 hfit (Nat.le_refl _)

set_option maxRecDepth 100000 in
theorem lifted (os : Os) (started : os.Started) (H : Type) (enc : TypeId × Value → H) :
    ReturnsInHanded {} Tryz.checked os 7 .any (Rows.pickFarSpec.pre6 enc Tryz.prog Tryz.f7 Rows.pickFarRow.domain false) (Rows.pickFarSpec.post enc Tryz.prog Tryz.f7 false true false false) := by
  refine returnsInHanded_of_change (C := Tryz.checked) own started (by kernel_rfl) Tryz.func7
    (ChangeSpec.witness6 (enc := enc) (C := Tryz.checked) false ⟨#[], #[.slice none 0 0, .slice none 0 0, .int .i64 0, .int .i64 0], []⟩ 8 (by kernel_rfl) (by kernel_rfl) (by kernel_rfl) (by kernel_rfl)) ?_
  intro W base args ds gs before hval0 hW hcnd _
  have hval : ∀ (j : Nat) t v, Tryz.f7.params[j]? = some t → args[j]? = some v → Value.okWide Tryz.prog W .any base t v := hval0
  have hW' := hW
  obtain ⟨p, q, hA0, hV, rfl, hfz, hnd⟩ := hW
  have hA : DataW.TrodAll enc Tryz.prog W 0 (fun _ => true) true Tryz.f7.params.toList args.toList ds p := hA0
  rw [Tryz.params7] at hA hval
  obtain ⟨v0, vs0, d0, ds0, p0, q0, hargs, rfl, rfl, h0, r0⟩ := trodAll_cons hA
  obtain ⟨v1, vs1, d1, ds1, p1, q1, rfl, rfl, rfl, h1, r1⟩ := trodAll_cons r0
  obtain ⟨v2, vs2, d2, ds2, p2, q2, rfl, rfl, rfl, h2, r2⟩ := trodAll_cons r1
  obtain ⟨v3, vs3, d3, ds3, p3, q3, rfl, rfl, rfl, h3, r3⟩ := trodAll_cons r2
  obtain ⟨rfl, rfl, rfl⟩ := trodAll_nil r3
  obtain rfl : args = #[v0, v1, v2, v3] := by cases args; simp_all
  obtain ⟨rfl, rfl⟩ := trodVars_none hV
  obtain ⟨l, l0, hfit⟩ := Go.Pick.drafts_open (hval 0 50 v0 rfl rfl) h0
  obtain ⟨ms, l1, hM, _⟩ := Go.Pick.ints_open (hval 1 51 v1 rfl rfl) h1
  obtain ⟨a, rfl, rfl, rfl, wa⟩ := open_int Tryz.underlying3 (hval 2 3 v2 rfl rfl) h2
  obtain ⟨g, rfl, rfl, rfl, wg⟩ := open_int Tryz.underlying3 (hval 3 3 v3 rfl rfl) h3
  clear hA0 hval0
  refine (walk l0 l1 hfit).mono fun e W' ⟨he, hg⟩ => ?_
  subst he
  have hlt : ∀ x ∈ p0 ++ (p1 ++ ([] ++ ([] ++ []))) ++ [], x.block < W.heap.size := hW'.lt
  exact ⟨_, rfl, _, _, _, [], _, [], hW', (trodAll_cons_mk (shut_bool Tryz.underlying4 _) trodAll_mk0),
    (trodAll_cons_mk (Below.trod laid (by kernel_rfl) (of_decide_eq_true (by kernel_rfl)) h0 hg (fun x hx => hlt x (by simp [hx]))) (trodAll_cons_mk (Below.trod laid (by kernel_rfl) (of_decide_eq_true (by kernel_rfl)) h1 hg (fun x hx => hlt x (by simp [hx]))) (trodAll_cons_mk (shut_int Tryz.underlying3 wa) (trodAll_cons_mk (shut_int Tryz.underlying3 wg) trodAll_mk0)))),
    rfl, hg.frame _, fun h => by cases h⟩

theorem over : Rows.pickFarRow.holds Tryz.pinned (OpenSpec.ofChange Rows.pickFarSpec) :=
  OpenClaim.holds_of_wide 7 Tryz.f7 rfl rfl rfl rfl rfl rfl rfl ⟨rfl, rfl, rfl, rfl, rfl⟩ rfl rfl rfl rfl rfl (by kernel_rfl) Tryz.func7 (by kernel_rfl)
    (of_decide_eq_true (by kernel_rfl)) (by unfold Func.isWrapper; first | (rw [if_pos (by decide +kernel)]; kernel_rfl) | (rw [if_neg (by decide +kernel)]; exact ⟨rfl, rfl⟩))
    (fun os started H enc _ => lifted os started H enc)

theorem pickFar_holds : Rows.PickFarSaid :=
  over
#print axioms pickFar_holds
end Go.Proofs.YtbjncdcfojjacaaGreat.pickFar
