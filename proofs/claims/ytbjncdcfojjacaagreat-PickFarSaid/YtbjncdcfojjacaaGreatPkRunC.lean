/-
  What is proved: a quarter of the runs of the two checks. Conditions: none.
-/
import Derived.Test.YtbjncdcfojjacaaGreatPkTrees
set_option linter.unusedVariables false
set_option linter.unusedSimpArgs false
set_option linter.unusedSectionVars false
namespace Go.Pick
set_option maxRecDepth 100000
theorem rAa : tAa.ok 32 (full (lo64) (0)) = true := by kernel_rfl
theorem rAc : tAc.ok 32 (full (2) (2)) = true := by kernel_rfl
theorem rAd : tAd.ok 32 (full (3) (3)) = true := by kernel_rfl
theorem rAe : tAe.ok 32 (full (4) (11)) = true := by kernel_rfl
theorem rAf : tAf.ok 32 (full (12) (19)) = true := by kernel_rfl
theorem rAh : tAh.ok 32 (full (21) (21)) = true := by kernel_rfl
theorem rAi : tAi.ok 32 (full (22) (22)) = true := by kernel_rfl
theorem rAj : tAj.ok 32 (full (23) (23)) = true := by kernel_rfl
theorem rAk : tAk.ok 32 (full (24) (24)) = true := by kernel_rfl
theorem rAl : tAl.ok 32 (full (25) (25)) = true := by kernel_rfl
theorem rAm : tAm.ok 32 (full (26) (26)) = true := by kernel_rfl
theorem rAn : tAn.ok 32 (full (27) (27)) = true := by kernel_rfl
theorem rAo : tAo.ok 32 (full (28) (hi64)) = true := by kernel_rfl
end Go.Pick
