/-
  What is proved: 'clevislaw25.PickRelaxes' answers true for whatever drafts and marks: the program's relaxer makes what the document's makes. Conditions: none.
-/
import Derived.Test.YtbjncdcfojjacaaGreatRows
import Derived.Test.YtbjncdcfojjacaaGreatHeads
import Derived.Test.YtbjncdcfojjacaaGreatPkLaw
import Derived.WalkKit
import Derived.ProofKit
import Derived.OpenShut
import Derived.Carry
namespace Go.Proofs.YtbjncdcfojjacaaGreat.pickRelaxes
open Go.ChangeShapes Go.WideShapes Go.ChangeAt Go.RowKit
open Go.Sx
set_option linter.unusedVariables false

theorem own : ownKnob Tryz.prog.godebug = none := by kernel_rfl
theorem laid : laidOutB Tryz.prog = true := by kernel_rfl
theorem heads (hp : Hp) (nx : Nat) : ∃ nx', Go.Sy.CallR Tryz.prog 12 [] hp nx (.ret (.bool true)) hp nx' :=
  ⟨nx, Go.Pick.callR_bool (fun ρ args' h => by cases args' with | nil => rfl | cons _ _ => exact h.elim) Heads.heads hp nx⟩

theorem walk {l : List Go.Pick.Dr} {ms : List Int} {v0 v1 : Value} {w : World} (h0 : Go.Sy.Lies w v0 l.length (Go.Pick.flat l)) (h1 : Go.Sy.Lies w v1 ms.length (Go.Pick.ints ms)) (hfit : ∀ x ∈ l, x.ins.fit) (hM : ms.length ≤ 9223372036854775807) :
    Calls Tryz.prog 6 #[v0, v1] w fun e w' => e = .returned (.bool true) ∧ Below w.heap.size w w' :=
  Go.Sy.two_rows (s0 := 9) (s1 := 1) (rest := []) h0 h1 (Go.Pick.flat_len l) (by simp [Go.Pick.ints]) (by simp)
    fun hp A0 A1 C0 C1 hl hm => Go.Pick.law_relaxes heads hl hm hM hfit (Nat.le_refl _)

set_option maxRecDepth 100000 in
theorem lifted (os : Os) (started : os.Started) (H : Type) (enc : TypeId × Value → H) :
    ReturnsInHanded {} Tryz.checked os 6 .any (Rows.pickRelaxesSpec.pre6 enc Tryz.prog Tryz.f6 Rows.pickRelaxesRow.domain false) (Rows.pickRelaxesSpec.post enc Tryz.prog Tryz.f6 false true false false) := by
  refine returnsInHanded_of_change (C := Tryz.checked) own started (by kernel_rfl) Tryz.func6
    (ChangeSpec.witness6 (enc := enc) (C := Tryz.checked) false ⟨#[], #[.slice none 0 0, .slice none 0 0], []⟩ 8 (by kernel_rfl) (by kernel_rfl) (by kernel_rfl) (by kernel_rfl)) ?_
  intro W base args ds gs before hval0 hW hcnd _
  have hval : ∀ (j : Nat) t v, Tryz.f6.params[j]? = some t → args[j]? = some v → Value.okWide Tryz.prog W .any base t v := hval0
  have hW' := hW
  obtain ⟨p, q, hA0, hV, rfl, hfz, hnd⟩ := hW
  have hA : DataW.TrodAll enc Tryz.prog W 0 (fun _ => true) true Tryz.f6.params.toList args.toList ds p := hA0
  rw [Tryz.params6] at hA hval
  obtain ⟨v0, vs0, d0, ds0, p0, q0, hargs, rfl, rfl, h0, r0⟩ := trodAll_cons hA
  obtain ⟨v1, vs1, d1, ds1, p1, q1, rfl, rfl, rfl, h1, r1⟩ := trodAll_cons r0
  obtain ⟨rfl, rfl, rfl⟩ := trodAll_nil r1
  obtain rfl : args = #[v0, v1] := by cases args; simp_all
  obtain ⟨rfl, rfl⟩ := trodVars_none hV
  obtain ⟨l, l0, hfit⟩ := Go.Pick.drafts_open (hval 0 50 v0 rfl rfl) h0
  obtain ⟨ms, l1, hM, _⟩ := Go.Pick.ints_open (hval 1 51 v1 rfl rfl) h1
  clear hA0 hval0
  refine (walk l0 l1 hfit hM).mono fun e W' ⟨he, hg⟩ => ?_
  subst he
  have hlt : ∀ x ∈ p0 ++ (p1 ++ []) ++ [], x.block < W.heap.size := hW'.lt
  exact ⟨_, rfl, _, _, _, [], _, [], hW', (trodAll_cons_mk (shut_bool Tryz.underlying4 _) trodAll_mk0),
    (trodAll_cons_mk (Below.trod laid (by kernel_rfl) (of_decide_eq_true (by kernel_rfl)) h0 hg (fun x hx => hlt x (by simp [hx]))) (trodAll_cons_mk (Below.trod laid (by kernel_rfl) (of_decide_eq_true (by kernel_rfl)) h1 hg (fun x hx => hlt x (by simp [hx]))) trodAll_mk0)),
    rfl, hg.frame _, fun h => by cases h⟩

theorem over : Rows.pickRelaxesRow.holds Tryz.pinned (OpenSpec.ofChange Rows.pickRelaxesSpec) :=
  OpenClaim.holds_of_wide 6 Tryz.f6 rfl rfl rfl rfl rfl rfl rfl ⟨rfl, rfl, rfl, rfl, rfl⟩ rfl rfl rfl rfl rfl (by kernel_rfl) Tryz.func6 (by kernel_rfl)
    (of_decide_eq_true (by kernel_rfl)) (by unfold Func.isWrapper; first | (rw [if_pos (by decide +kernel)]; kernel_rfl) | (rw [if_neg (by decide +kernel)]; exact ⟨rfl, rfl⟩))
    (fun os started H enc _ => lifted os started H enc)

theorem pickRelaxes_holds : Rows.PickRelaxesSaid :=
  over
#print axioms pickRelaxes_holds
end Go.Proofs.YtbjncdcfojjacaaGreat.pickRelaxes
