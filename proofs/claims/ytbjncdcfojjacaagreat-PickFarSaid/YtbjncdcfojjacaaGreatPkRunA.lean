/-
  What is proved: a quarter of the runs of the two checks. Conditions: none.
-/
import Derived.Test.YtbjncdcfojjacaaGreatPkTrees
set_option linter.unusedVariables false
set_option linter.unusedSimpArgs false
set_option linter.unusedSectionVars false
namespace Go.Pick
set_option maxRecDepth 100000
theorem rAb0 : tAb0.ok 32 (cutHi 1 0 (cutHi 1 32 (cutHi 5 1 (full (1) (1))))) = true := by kernel_rfl
theorem rAb1 : tAb1.ok 32 (cutHi 2 0 (cutHi 2 32 (cutLo 1 0 (cutHi 1 32 (cutHi 5 1 (full (1) (1))))))) = true := by kernel_rfl
theorem rAb2 : tAb2.ok 32 (cutHi 3 0 (cutHi 3 32 (cutLo 2 0 (cutHi 2 32 (cutLo 1 0 (cutHi 1 32 (cutHi 5 1 (full (1) (1))))))))) = true := by kernel_rfl
theorem rAb3 : tAb3.ok 32 (cutHi 4 48 (cutHi 4 113 (cutLo 3 0 (cutHi 3 32 (cutLo 2 0 (cutHi 2 32 (cutLo 1 0 (cutHi 1 32 (cutHi 5 1 (full (1) (1))))))))))) = true := by kernel_rfl
theorem rAb4 : tAb4.ok 32 (cutLo 4 48 (cutHi 4 113 (cutLo 3 0 (cutHi 3 32 (cutLo 2 0 (cutHi 2 32 (cutLo 1 0 (cutHi 1 32 (cutHi 5 1 (full (1) (1))))))))))) = true := by kernel_rfl
theorem rAb5 : tAb5.ok 32 (cutHi 4 192 (cutLo 4 113 (cutLo 3 0 (cutHi 3 32 (cutLo 2 0 (cutHi 2 32 (cutLo 1 0 (cutHi 1 32 (cutHi 5 1 (full (1) (1))))))))))) = true := by kernel_rfl
theorem rAb6 : tAb6.ok 32 (cutLo 4 192 (cutLo 4 113 (cutLo 3 0 (cutHi 3 32 (cutLo 2 0 (cutHi 2 32 (cutLo 1 0 (cutHi 1 32 (cutHi 5 1 (full (1) (1))))))))))) = true := by kernel_rfl
theorem rAb7 : tAb7.ok 32 (cutLo 3 32 (cutLo 2 0 (cutHi 2 32 (cutLo 1 0 (cutHi 1 32 (cutHi 5 1 (full (1) (1)))))))) = true := by kernel_rfl
theorem rAb8 : tAb8.ok 32 (cutLo 2 32 (cutLo 1 0 (cutHi 1 32 (cutHi 5 1 (full (1) (1)))))) = true := by kernel_rfl
theorem rAb9 : tAb9.ok 32 (cutLo 1 32 (cutHi 5 1 (full (1) (1)))) = true := by kernel_rfl
theorem rAb10 : tAb10.ok 32 (cutHi 1 0 (cutHi 1 32 (cutLo 5 1 (full (1) (1))))) = true := by kernel_rfl
theorem rAb11 : tAb11.ok 32 (cutHi 2 0 (cutHi 2 32 (cutLo 1 0 (cutHi 1 32 (cutLo 5 1 (full (1) (1))))))) = true := by kernel_rfl
theorem rAb12 : tAb12.ok 32 (cutHi 3 0 (cutHi 3 32 (cutLo 2 0 (cutHi 2 32 (cutLo 1 0 (cutHi 1 32 (cutLo 5 1 (full (1) (1))))))))) = true := by kernel_rfl
theorem rAb13 : tAb13.ok 32 (cutHi 4 48 (cutHi 4 113 (cutLo 3 0 (cutHi 3 32 (cutLo 2 0 (cutHi 2 32 (cutLo 1 0 (cutHi 1 32 (cutLo 5 1 (full (1) (1))))))))))) = true := by kernel_rfl
theorem rAb14 : tAb14.ok 32 (cutLo 4 48 (cutHi 4 113 (cutLo 3 0 (cutHi 3 32 (cutLo 2 0 (cutHi 2 32 (cutLo 1 0 (cutHi 1 32 (cutLo 5 1 (full (1) (1))))))))))) = true := by kernel_rfl
theorem rAb15 : tAb15.ok 32 (cutHi 4 192 (cutLo 4 113 (cutLo 3 0 (cutHi 3 32 (cutLo 2 0 (cutHi 2 32 (cutLo 1 0 (cutHi 1 32 (cutLo 5 1 (full (1) (1))))))))))) = true := by kernel_rfl
theorem rAb16 : tAb16.ok 32 (cutLo 4 192 (cutLo 4 113 (cutLo 3 0 (cutHi 3 32 (cutLo 2 0 (cutHi 2 32 (cutLo 1 0 (cutHi 1 32 (cutLo 5 1 (full (1) (1))))))))))) = true := by kernel_rfl
theorem rAb17 : tAb17.ok 32 (cutLo 3 32 (cutLo 2 0 (cutHi 2 32 (cutLo 1 0 (cutHi 1 32 (cutLo 5 1 (full (1) (1)))))))) = true := by kernel_rfl
theorem rAb18 : tAb18.ok 32 (cutLo 2 32 (cutLo 1 0 (cutHi 1 32 (cutLo 5 1 (full (1) (1)))))) = true := by kernel_rfl
theorem rAb19 : tAb19.ok 32 (cutLo 1 32 (cutLo 5 1 (full (1) (1)))) = true := by kernel_rfl
theorem rAb : tAb.ok 32 (full (1) (1)) = true := (ok_s (ok_s (ok_s rAb0 (ok_s (ok_s rAb1 (ok_s (ok_s rAb2 (ok_s (ok_s rAb3 rAb4) (ok_s rAb5 rAb6))) rAb7)) rAb8)) rAb9) (ok_s (ok_s rAb10 (ok_s (ok_s rAb11 (ok_s (ok_s rAb12 (ok_s (ok_s rAb13 rAb14) (ok_s rAb15 rAb16))) rAb17)) rAb18)) rAb19))
end Go.Pick
