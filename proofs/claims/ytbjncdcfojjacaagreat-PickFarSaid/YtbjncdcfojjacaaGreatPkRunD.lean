/-
  What is proved: a quarter of the runs of the two checks. Conditions: none.
-/
import Derived.Test.YtbjncdcfojjacaaGreatPkTrees
set_option linter.unusedVariables false
set_option linter.unusedSimpArgs false
set_option linter.unusedSectionVars false
namespace Go.Pick
set_option maxRecDepth 100000
theorem rBa0 : tBa0.ok 16 (full (lo64) (0)) = true := by kernel_rfl
theorem rBa : tBa.ok 16 (full (lo64) (0)) = true := rBa0
theorem rBb0 : tBb0.ok 16 (cutHi 4 48 (cutHi 4 113 (cutHi 5 1 (full (1) (1))))) = true := by kernel_rfl
theorem rBb1 : tBb1.ok 16 (cutHi 4 81 (cutLo 4 48 (cutHi 4 113 (cutHi 5 1 (full (1) (1)))))) = true := by kernel_rfl
theorem rBb2 : tBb2.ok 16 (cutLo 4 81 (cutLo 4 48 (cutHi 4 113 (cutHi 5 1 (full (1) (1)))))) = true := by kernel_rfl
theorem rBb3 : tBb3.ok 16 (cutHi 4 160 (cutHi 4 192 (cutLo 4 113 (cutHi 5 1 (full (1) (1)))))) = true := by kernel_rfl
theorem rBb4 : tBb4.ok 16 (cutLo 4 160 (cutHi 4 192 (cutLo 4 113 (cutHi 5 1 (full (1) (1)))))) = true := by kernel_rfl
theorem rBb5 : tBb5.ok 16 (cutLo 4 192 (cutLo 4 113 (cutHi 5 1 (full (1) (1))))) = true := by kernel_rfl
theorem rBb6 : tBb6.ok 16 (cutHi 4 48 (cutHi 4 113 (cutLo 5 1 (full (1) (1))))) = true := by kernel_rfl
theorem rBb7 : tBb7.ok 16 (cutHi 4 81 (cutLo 4 48 (cutHi 4 113 (cutLo 5 1 (full (1) (1)))))) = true := by kernel_rfl
theorem rBb8 : tBb8.ok 16 (cutLo 4 81 (cutLo 4 48 (cutHi 4 113 (cutLo 5 1 (full (1) (1)))))) = true := by kernel_rfl
theorem rBb9 : tBb9.ok 16 (cutHi 4 160 (cutHi 4 192 (cutLo 4 113 (cutLo 5 1 (full (1) (1)))))) = true := by kernel_rfl
theorem rBb10 : tBb10.ok 16 (cutLo 4 160 (cutHi 4 192 (cutLo 4 113 (cutLo 5 1 (full (1) (1)))))) = true := by kernel_rfl
theorem rBb11 : tBb11.ok 16 (cutLo 4 192 (cutLo 4 113 (cutLo 5 1 (full (1) (1))))) = true := by kernel_rfl
theorem rBb : tBb.ok 16 (full (1) (1)) = true := (ok_s (ok_s (ok_s rBb0 (ok_s rBb1 rBb2)) (ok_s (ok_s rBb3 rBb4) rBb5)) (ok_s (ok_s rBb6 (ok_s rBb7 rBb8)) (ok_s (ok_s rBb9 rBb10) rBb11)))
theorem rBc0 : tBc0.ok 16 (full (2) (2)) = true := by kernel_rfl
theorem rBc : tBc.ok 16 (full (2) (2)) = true := rBc0
theorem rBd0 : tBd0.ok 16 (full (3) (3)) = true := by kernel_rfl
theorem rBd : tBd.ok 16 (full (3) (3)) = true := rBd0
theorem rBe0 : tBe0.ok 16 (full (4) (11)) = true := by kernel_rfl
theorem rBe : tBe.ok 16 (full (4) (11)) = true := rBe0
theorem rBf0 : tBf0.ok 16 (full (12) (19)) = true := by kernel_rfl
theorem rBf : tBf.ok 16 (full (12) (19)) = true := rBf0
theorem rBg0 : tBg0.ok 16 (cutHi 4 49 (cutHi 4 97 (cutHi 5 1 (full (20) (20))))) = true := by kernel_rfl
theorem rBg1 : tBg1.ok 16 (cutLo 4 49 (cutHi 4 97 (cutHi 5 1 (full (20) (20))))) = true := by kernel_rfl
theorem rBg2 : tBg2.ok 16 (cutHi 4 177 (cutLo 4 97 (cutHi 5 1 (full (20) (20))))) = true := by kernel_rfl
theorem rBg3 : tBg3.ok 16 (cutLo 4 177 (cutLo 4 97 (cutHi 5 1 (full (20) (20))))) = true := by kernel_rfl
theorem rBg4 : tBg4.ok 16 (cutHi 4 49 (cutHi 4 97 (cutLo 5 1 (full (20) (20))))) = true := by kernel_rfl
theorem rBg5 : tBg5.ok 16 (cutLo 4 49 (cutHi 4 97 (cutLo 5 1 (full (20) (20))))) = true := by kernel_rfl
theorem rBg6 : tBg6.ok 16 (cutHi 4 177 (cutLo 4 97 (cutLo 5 1 (full (20) (20))))) = true := by kernel_rfl
theorem rBg7 : tBg7.ok 16 (cutLo 4 177 (cutLo 4 97 (cutLo 5 1 (full (20) (20))))) = true := by kernel_rfl
theorem rBg : tBg.ok 16 (full (20) (20)) = true := (ok_s (ok_s (ok_s rBg0 rBg1) (ok_s rBg2 rBg3)) (ok_s (ok_s rBg4 rBg5) (ok_s rBg6 rBg7)))
theorem rBh0 : tBh0.ok 16 (full (21) (21)) = true := by kernel_rfl
theorem rBh : tBh.ok 16 (full (21) (21)) = true := rBh0
theorem rBi0 : tBi0.ok 16 (full (22) (22)) = true := by kernel_rfl
theorem rBi : tBi.ok 16 (full (22) (22)) = true := rBi0
theorem rBj0 : tBj0.ok 16 (full (23) (23)) = true := by kernel_rfl
theorem rBj : tBj.ok 16 (full (23) (23)) = true := rBj0
theorem rBk0 : tBk0.ok 16 (full (24) (24)) = true := by kernel_rfl
theorem rBk : tBk.ok 16 (full (24) (24)) = true := rBk0
theorem rBl0 : tBl0.ok 16 (full (25) (25)) = true := by kernel_rfl
theorem rBl : tBl.ok 16 (full (25) (25)) = true := rBl0
theorem rBm0 : tBm0.ok 16 (full (26) (26)) = true := by kernel_rfl
theorem rBm : tBm.ok 16 (full (26) (26)) = true := rBm0
theorem rBn0 : tBn0.ok 16 (full (27) (27)) = true := by kernel_rfl
theorem rBn : tBn.ok 16 (full (27) (27)) = true := rBn0
theorem rBo0 : tBo0.ok 16 (full (28) (hi64)) = true := by kernel_rfl
theorem rBo : tBo.ok 16 (full (28) (hi64)) = true := rBo0
end Go.Pick
