/-
  What is proved: what Wide makes of a number is the number, on the target, for the numbers whose lowest half is of kind 1. Conditions: none.
-/
import Derived.Test.YtbjncdcfojjacaaGreatMakesRuns
namespace Go.Proofs.YtbjncdcfojjacaaGreat.pickMakes
open Go.Sx

theorem r1000 : runs 1 0 0 0 = true := by kernel_rfl
theorem r1001 : runs 1 0 0 1 = true := by kernel_rfl
theorem r1002 : runs 1 0 0 2 = true := by kernel_rfl
theorem r1010 : runs 1 0 1 0 = true := by kernel_rfl
theorem r1011 : runs 1 0 1 1 = true := by kernel_rfl
theorem r1012 : runs 1 0 1 2 = true := by kernel_rfl
theorem r1020 : runs 1 0 2 0 = true := by kernel_rfl
theorem r1021 : runs 1 0 2 1 = true := by kernel_rfl
theorem r1022 : runs 1 0 2 2 = true := by kernel_rfl
theorem r1100 : runs 1 1 0 0 = true := by kernel_rfl
theorem r1101 : runs 1 1 0 1 = true := by kernel_rfl
theorem r1102 : runs 1 1 0 2 = true := by kernel_rfl
theorem r1110 : runs 1 1 1 0 = true := by kernel_rfl
theorem r1111 : runs 1 1 1 1 = true := by kernel_rfl
theorem r1112 : runs 1 1 1 2 = true := by kernel_rfl
theorem r1120 : runs 1 1 2 0 = true := by kernel_rfl
theorem r1121 : runs 1 1 2 1 = true := by kernel_rfl
theorem r1122 : runs 1 1 2 2 = true := by kernel_rfl
theorem r1200 : runs 1 2 0 0 = true := by kernel_rfl
theorem r1201 : runs 1 2 0 1 = true := by kernel_rfl
theorem r1202 : runs 1 2 0 2 = true := by kernel_rfl
theorem r1210 : runs 1 2 1 0 = true := by kernel_rfl
theorem r1211 : runs 1 2 1 1 = true := by kernel_rfl
theorem r1212 : runs 1 2 1 2 = true := by kernel_rfl
theorem r1220 : runs 1 2 2 0 = true := by kernel_rfl
theorem r1221 : runs 1 2 2 1 = true := by kernel_rfl
theorem r1222 : runs 1 2 2 2 = true := by kernel_rfl
theorem all1 {b1 b2 b3 : Nat} (h1 : b1 ∈ three) (h2 : b2 ∈ three) (h3 : b3 ∈ three) : runs 1 b1 b2 b3 = true := by
  rcases three_is h1 with rfl | rfl | rfl <;> rcases three_is h2 with rfl | rfl | rfl <;> rcases three_is h3 with rfl | rfl | rfl
  · exact r1000
  · exact r1001
  · exact r1002
  · exact r1010
  · exact r1011
  · exact r1012
  · exact r1020
  · exact r1021
  · exact r1022
  · exact r1100
  · exact r1101
  · exact r1102
  · exact r1110
  · exact r1111
  · exact r1112
  · exact r1120
  · exact r1121
  · exact r1122
  · exact r1200
  · exact r1201
  · exact r1202
  · exact r1210
  · exact r1211
  · exact r1212
  · exact r1220
  · exact r1221
  · exact r1222
end Go.Proofs.YtbjncdcfojjacaaGreat.pickMakes
