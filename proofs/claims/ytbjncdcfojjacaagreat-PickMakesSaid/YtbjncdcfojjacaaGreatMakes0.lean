/-
  What is proved: what Wide makes of a number is the number, on the target, for the numbers whose lowest half is of kind 0. Conditions: none.
-/
import Derived.Test.YtbjncdcfojjacaaGreatMakesRuns
namespace Go.Proofs.YtbjncdcfojjacaaGreat.pickMakes
open Go.Sx

theorem r0000 : runs 0 0 0 0 = true := by kernel_rfl
theorem r0001 : runs 0 0 0 1 = true := by kernel_rfl
theorem r0002 : runs 0 0 0 2 = true := by kernel_rfl
theorem r0010 : runs 0 0 1 0 = true := by kernel_rfl
theorem r0011 : runs 0 0 1 1 = true := by kernel_rfl
theorem r0012 : runs 0 0 1 2 = true := by kernel_rfl
theorem r0020 : runs 0 0 2 0 = true := by kernel_rfl
theorem r0021 : runs 0 0 2 1 = true := by kernel_rfl
theorem r0022 : runs 0 0 2 2 = true := by kernel_rfl
theorem r0100 : runs 0 1 0 0 = true := by kernel_rfl
theorem r0101 : runs 0 1 0 1 = true := by kernel_rfl
theorem r0102 : runs 0 1 0 2 = true := by kernel_rfl
theorem r0110 : runs 0 1 1 0 = true := by kernel_rfl
theorem r0111 : runs 0 1 1 1 = true := by kernel_rfl
theorem r0112 : runs 0 1 1 2 = true := by kernel_rfl
theorem r0120 : runs 0 1 2 0 = true := by kernel_rfl
theorem r0121 : runs 0 1 2 1 = true := by kernel_rfl
theorem r0122 : runs 0 1 2 2 = true := by kernel_rfl
theorem r0200 : runs 0 2 0 0 = true := by kernel_rfl
theorem r0201 : runs 0 2 0 1 = true := by kernel_rfl
theorem r0202 : runs 0 2 0 2 = true := by kernel_rfl
theorem r0210 : runs 0 2 1 0 = true := by kernel_rfl
theorem r0211 : runs 0 2 1 1 = true := by kernel_rfl
theorem r0212 : runs 0 2 1 2 = true := by kernel_rfl
theorem r0220 : runs 0 2 2 0 = true := by kernel_rfl
theorem r0221 : runs 0 2 2 1 = true := by kernel_rfl
theorem r0222 : runs 0 2 2 2 = true := by kernel_rfl
theorem all0 {b1 b2 b3 : Nat} (h1 : b1 ∈ three) (h2 : b2 ∈ three) (h3 : b3 ∈ three) : runs 0 b1 b2 b3 = true := by
  rcases three_is h1 with rfl | rfl | rfl <;> rcases three_is h2 with rfl | rfl | rfl <;> rcases three_is h3 with rfl | rfl | rfl
  · exact r0000
  · exact r0001
  · exact r0002
  · exact r0010
  · exact r0011
  · exact r0012
  · exact r0020
  · exact r0021
  · exact r0022
  · exact r0100
  · exact r0101
  · exact r0102
  · exact r0110
  · exact r0111
  · exact r0112
  · exact r0120
  · exact r0121
  · exact r0122
  · exact r0200
  · exact r0201
  · exact r0202
  · exact r0210
  · exact r0211
  · exact r0212
  · exact r0220
  · exact r0221
  · exact r0222
end Go.Proofs.YtbjncdcfojjacaaGreat.pickMakes
