/-
  What is proved: a quarter of the runs of the two checks. Conditions: none.
-/
import Derived.Test.YtbjncdcfojjacaaGreatPkTrees
set_option linter.unusedVariables false
set_option linter.unusedSimpArgs false
set_option linter.unusedSectionVars false
namespace Go.Pick
set_option maxRecDepth 100000
theorem rAg0 : tAg0.ok 32 (cutHi 2 0 (cutHi 2 32 (cutHi 5 1 (full (20) (20))))) = true := by kernel_rfl
theorem rAg1 : tAg1.ok 32 (cutHi 3 0 (cutHi 3 32 (cutLo 2 0 (cutHi 2 32 (cutHi 5 1 (full (20) (20))))))) = true := by kernel_rfl
theorem rAg2 : tAg2.ok 32 (cutHi 4 32 (cutHi 4 49 (cutHi 4 97 (cutLo 3 0 (cutHi 3 32 (cutLo 2 0 (cutHi 2 32 (cutHi 5 1 (full (20) (20)))))))))) = true := by kernel_rfl
theorem rAg3 : tAg3.ok 32 (cutLo 4 32 (cutHi 4 49 (cutHi 4 97 (cutLo 3 0 (cutHi 3 32 (cutLo 2 0 (cutHi 2 32 (cutHi 5 1 (full (20) (20)))))))))) = true := by kernel_rfl
theorem rAg4 : tAg4.ok 32 (cutHi 4 80 (cutLo 4 49 (cutHi 4 97 (cutLo 3 0 (cutHi 3 32 (cutLo 2 0 (cutHi 2 32 (cutHi 5 1 (full (20) (20)))))))))) = true := by kernel_rfl
theorem rAg5 : tAg5.ok 32 (cutLo 4 80 (cutLo 4 49 (cutHi 4 97 (cutLo 3 0 (cutHi 3 32 (cutLo 2 0 (cutHi 2 32 (cutHi 5 1 (full (20) (20)))))))))) = true := by kernel_rfl
theorem rAg6 : tAg6.ok 32 (cutHi 4 160 (cutHi 4 177 (cutLo 4 97 (cutLo 3 0 (cutHi 3 32 (cutLo 2 0 (cutHi 2 32 (cutHi 5 1 (full (20) (20)))))))))) = true := by kernel_rfl
theorem rAg7 : tAg7.ok 32 (cutLo 4 160 (cutHi 4 177 (cutLo 4 97 (cutLo 3 0 (cutHi 3 32 (cutLo 2 0 (cutHi 2 32 (cutHi 5 1 (full (20) (20)))))))))) = true := by kernel_rfl
theorem rAg8 : tAg8.ok 32 (cutLo 4 177 (cutLo 4 97 (cutLo 3 0 (cutHi 3 32 (cutLo 2 0 (cutHi 2 32 (cutHi 5 1 (full (20) (20))))))))) = true := by kernel_rfl
theorem rAg9 : tAg9.ok 32 (cutLo 3 32 (cutLo 2 0 (cutHi 2 32 (cutHi 5 1 (full (20) (20)))))) = true := by kernel_rfl
theorem rAg10 : tAg10.ok 32 (cutLo 2 32 (cutHi 5 1 (full (20) (20)))) = true := by kernel_rfl
theorem rAg11 : tAg11.ok 32 (cutHi 2 0 (cutHi 2 32 (cutLo 5 1 (full (20) (20))))) = true := by kernel_rfl
theorem rAg12 : tAg12.ok 32 (cutHi 3 0 (cutHi 3 32 (cutLo 2 0 (cutHi 2 32 (cutLo 5 1 (full (20) (20))))))) = true := by kernel_rfl
theorem rAg13 : tAg13.ok 32 (cutHi 4 32 (cutHi 4 49 (cutHi 4 97 (cutLo 3 0 (cutHi 3 32 (cutLo 2 0 (cutHi 2 32 (cutLo 5 1 (full (20) (20)))))))))) = true := by kernel_rfl
theorem rAg14 : tAg14.ok 32 (cutLo 4 32 (cutHi 4 49 (cutHi 4 97 (cutLo 3 0 (cutHi 3 32 (cutLo 2 0 (cutHi 2 32 (cutLo 5 1 (full (20) (20)))))))))) = true := by kernel_rfl
theorem rAg15 : tAg15.ok 32 (cutHi 4 80 (cutLo 4 49 (cutHi 4 97 (cutLo 3 0 (cutHi 3 32 (cutLo 2 0 (cutHi 2 32 (cutLo 5 1 (full (20) (20)))))))))) = true := by kernel_rfl
theorem rAg16 : tAg16.ok 32 (cutLo 4 80 (cutLo 4 49 (cutHi 4 97 (cutLo 3 0 (cutHi 3 32 (cutLo 2 0 (cutHi 2 32 (cutLo 5 1 (full (20) (20)))))))))) = true := by kernel_rfl
theorem rAg17 : tAg17.ok 32 (cutHi 4 160 (cutHi 4 177 (cutLo 4 97 (cutLo 3 0 (cutHi 3 32 (cutLo 2 0 (cutHi 2 32 (cutLo 5 1 (full (20) (20)))))))))) = true := by kernel_rfl
theorem rAg18 : tAg18.ok 32 (cutLo 4 160 (cutHi 4 177 (cutLo 4 97 (cutLo 3 0 (cutHi 3 32 (cutLo 2 0 (cutHi 2 32 (cutLo 5 1 (full (20) (20)))))))))) = true := by kernel_rfl
theorem rAg19 : tAg19.ok 32 (cutLo 4 177 (cutLo 4 97 (cutLo 3 0 (cutHi 3 32 (cutLo 2 0 (cutHi 2 32 (cutLo 5 1 (full (20) (20))))))))) = true := by kernel_rfl
theorem rAg20 : tAg20.ok 32 (cutLo 3 32 (cutLo 2 0 (cutHi 2 32 (cutLo 5 1 (full (20) (20)))))) = true := by kernel_rfl
theorem rAg21 : tAg21.ok 32 (cutLo 2 32 (cutLo 5 1 (full (20) (20)))) = true := by kernel_rfl
theorem rAg : tAg.ok 32 (full (20) (20)) = true := (ok_s (ok_s (ok_s rAg0 (ok_s (ok_s rAg1 (ok_s (ok_s (ok_s rAg2 rAg3) (ok_s rAg4 rAg5)) (ok_s (ok_s rAg6 rAg7) rAg8))) rAg9)) rAg10) (ok_s (ok_s rAg11 (ok_s (ok_s rAg12 (ok_s (ok_s (ok_s rAg13 rAg14) (ok_s rAg15 rAg16)) (ok_s (ok_s rAg17 rAg18) rAg19))) rAg20)) rAg21))
end Go.Pick
