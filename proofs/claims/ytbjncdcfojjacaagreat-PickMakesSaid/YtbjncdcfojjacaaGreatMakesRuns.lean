/-
  What is proved: nothing yet: the runs that the law on what Wide makes asks for are named. Conditions: none.
-/
import Derived.Test.YtbjncdcfojjacaaGreatHeads
namespace Go.Proofs.YtbjncdcfojjacaaGreat.pickMakes
open Go.RowKit
open Go.Sx

/-! ### the runs: the number's parts of 11 and of 5 bits are not known -/
def hook : Hook := fun f => if f = 162 then some (sortedMap 3) else if f = 12 then some saysTrue else none
theorem hookOk : HookOk Tryz.prog hook := hook_two (fun _ _ _ _ h => Heads.listOk h) (fun _ _ _ _ h => saysTrue_ok Heads.heads h)
/-- a half: nought; its upper bits nought, the lower not; its upper bits not nought -/
def half (k : Nat) (i : Nat) : List Term := match k with
  | 0 => []
  | 1 => [⟨2 ^ (16 * i), 2 * i, 1, 2047⟩]
  | _ => [⟨2 ^ (16 * i), 2 * i, 0, 2047⟩, ⟨2 ^ (16 * i + 11), 2 * i + 1, 1, 31⟩]
def number (b0 b1 b2 b3 : Nat) : Lin := ⟨0, half b0 0 ++ half b1 1 ++ half b2 2 ++ half b3 3⟩
noncomputable def env : Env := Env.of Tryz.prog (some 175)
noncomputable def runs (b0 b1 b2 b3 : Nat) : Bool := goodRun (callA env Tryz.prog hook 200 3 [(number b0 b1 b2 b3).to .u64] ⟨.nil, 1, 0, []⟩)
def three : List Nat := [0, 1, 2]
theorem three_is {b : Nat} (h : b ∈ three) : b = 0 ∨ b = 1 ∨ b = 2 := by simpa [three] using h
end Go.Proofs.YtbjncdcfojjacaaGreat.pickMakes
