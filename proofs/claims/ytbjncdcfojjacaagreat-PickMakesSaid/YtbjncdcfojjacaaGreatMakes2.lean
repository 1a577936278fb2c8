/-
  What is proved: what Wide makes of a number is the number, on the target, for the numbers whose lowest half is of kind 2. Conditions: none.
-/
import Derived.Test.YtbjncdcfojjacaaGreatMakesRuns
namespace Go.Proofs.YtbjncdcfojjacaaGreat.pickMakes
open Go.Sx

theorem r2000 : runs 2 0 0 0 = true := by kernel_rfl
theorem r2001 : runs 2 0 0 1 = true := by kernel_rfl
theorem r2002 : runs 2 0 0 2 = true := by kernel_rfl
theorem r2010 : runs 2 0 1 0 = true := by kernel_rfl
theorem r2011 : runs 2 0 1 1 = true := by kernel_rfl
theorem r2012 : runs 2 0 1 2 = true := by kernel_rfl
theorem r2020 : runs 2 0 2 0 = true := by kernel_rfl
theorem r2021 : runs 2 0 2 1 = true := by kernel_rfl
theorem r2022 : runs 2 0 2 2 = true := by kernel_rfl
theorem r2100 : runs 2 1 0 0 = true := by kernel_rfl
theorem r2101 : runs 2 1 0 1 = true := by kernel_rfl
theorem r2102 : runs 2 1 0 2 = true := by kernel_rfl
theorem r2110 : runs 2 1 1 0 = true := by kernel_rfl
theorem r2111 : runs 2 1 1 1 = true := by kernel_rfl
theorem r2112 : runs 2 1 1 2 = true := by kernel_rfl
theorem r2120 : runs 2 1 2 0 = true := by kernel_rfl
theorem r2121 : runs 2 1 2 1 = true := by kernel_rfl
theorem r2122 : runs 2 1 2 2 = true := by kernel_rfl
theorem r2200 : runs 2 2 0 0 = true := by kernel_rfl
theorem r2201 : runs 2 2 0 1 = true := by kernel_rfl
theorem r2202 : runs 2 2 0 2 = true := by kernel_rfl
theorem r2210 : runs 2 2 1 0 = true := by kernel_rfl
theorem r2211 : runs 2 2 1 1 = true := by kernel_rfl
theorem r2212 : runs 2 2 1 2 = true := by kernel_rfl
theorem r2220 : runs 2 2 2 0 = true := by kernel_rfl
theorem r2221 : runs 2 2 2 1 = true := by kernel_rfl
theorem r2222 : runs 2 2 2 2 = true := by kernel_rfl
theorem all2 {b1 b2 b3 : Nat} (h1 : b1 ∈ three) (h2 : b2 ∈ three) (h3 : b3 ∈ three) : runs 2 b1 b2 b3 = true := by
  rcases three_is h1 with rfl | rfl | rfl <;> rcases three_is h2 with rfl | rfl | rfl <;> rcases three_is h3 with rfl | rfl | rfl
  · exact r2000
  · exact r2001
  · exact r2002
  · exact r2010
  · exact r2011
  · exact r2012
  · exact r2020
  · exact r2021
  · exact r2022
  · exact r2100
  · exact r2101
  · exact r2102
  · exact r2110
  · exact r2111
  · exact r2112
  · exact r2120
  · exact r2121
  · exact r2122
  · exact r2200
  · exact r2201
  · exact r2202
  · exact r2210
  · exact r2211
  · exact r2212
  · exact r2220
  · exact r2221
  · exact r2222
end Go.Proofs.YtbjncdcfojjacaaGreat.pickMakes
