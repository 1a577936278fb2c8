/-
  What is proved: both checks of an instruction answer what one tree says. Conditions: none.
-/
import Derived.Test.YtbjncdcfojjacaaGreatPkRunA
import Derived.Test.YtbjncdcfojjacaaGreatPkRunB
import Derived.Test.YtbjncdcfojjacaaGreatPkRunC
import Derived.Test.YtbjncdcfojjacaaGreatPkRunD
set_option linter.unusedVariables false
set_option linter.unusedSimpArgs false
set_option linter.unusedSectionVars false
namespace Go.Pick
open Go Go.RowKit Go.Sx Go.Sy Go.Proofs
theorem jAo : tAo.ok 32 (full (28) hi64) = true := rAo
theorem jAn : Tree.ok 32 (.s 0 28 tAn tAo) (full (27) hi64) = true :=
  ok_s (by rw [show cutHi 0 28 (full (27) hi64) = full (27) (27) by kernel_rfl]; exact rAn) (by rw [show cutLo 0 28 (full (27) hi64) = full (28) hi64 by kernel_rfl]; exact jAo)
theorem jAm : Tree.ok 32 (.s 0 27 tAm (.s 0 28 tAn tAo)) (full (26) hi64) = true :=
  ok_s (by rw [show cutHi 0 27 (full (26) hi64) = full (26) (26) by kernel_rfl]; exact rAm) (by rw [show cutLo 0 27 (full (26) hi64) = full (27) hi64 by kernel_rfl]; exact jAn)
theorem jAl : Tree.ok 32 (.s 0 26 tAl (.s 0 27 tAm (.s 0 28 tAn tAo))) (full (25) hi64) = true :=
  ok_s (by rw [show cutHi 0 26 (full (25) hi64) = full (25) (25) by kernel_rfl]; exact rAl) (by rw [show cutLo 0 26 (full (25) hi64) = full (26) hi64 by kernel_rfl]; exact jAm)
theorem jAk : Tree.ok 32 (.s 0 25 tAk (.s 0 26 tAl (.s 0 27 tAm (.s 0 28 tAn tAo)))) (full (24) hi64) = true :=
  ok_s (by rw [show cutHi 0 25 (full (24) hi64) = full (24) (24) by kernel_rfl]; exact rAk) (by rw [show cutLo 0 25 (full (24) hi64) = full (25) hi64 by kernel_rfl]; exact jAl)
theorem jAj : Tree.ok 32 (.s 0 24 tAj (.s 0 25 tAk (.s 0 26 tAl (.s 0 27 tAm (.s 0 28 tAn tAo))))) (full (23) hi64) = true :=
  ok_s (by rw [show cutHi 0 24 (full (23) hi64) = full (23) (23) by kernel_rfl]; exact rAj) (by rw [show cutLo 0 24 (full (23) hi64) = full (24) hi64 by kernel_rfl]; exact jAk)
theorem jAi : Tree.ok 32 (.s 0 23 tAi (.s 0 24 tAj (.s 0 25 tAk (.s 0 26 tAl (.s 0 27 tAm (.s 0 28 tAn tAo)))))) (full (22) hi64) = true :=
  ok_s (by rw [show cutHi 0 23 (full (22) hi64) = full (22) (22) by kernel_rfl]; exact rAi) (by rw [show cutLo 0 23 (full (22) hi64) = full (23) hi64 by kernel_rfl]; exact jAj)
theorem jAh : Tree.ok 32 (.s 0 22 tAh (.s 0 23 tAi (.s 0 24 tAj (.s 0 25 tAk (.s 0 26 tAl (.s 0 27 tAm (.s 0 28 tAn tAo))))))) (full (21) hi64) = true :=
  ok_s (by rw [show cutHi 0 22 (full (21) hi64) = full (21) (21) by kernel_rfl]; exact rAh) (by rw [show cutLo 0 22 (full (21) hi64) = full (22) hi64 by kernel_rfl]; exact jAi)
theorem jAg : Tree.ok 32 (.s 0 21 tAg (.s 0 22 tAh (.s 0 23 tAi (.s 0 24 tAj (.s 0 25 tAk (.s 0 26 tAl (.s 0 27 tAm (.s 0 28 tAn tAo)))))))) (full (20) hi64) = true :=
  ok_s (by rw [show cutHi 0 21 (full (20) hi64) = full (20) (20) by kernel_rfl]; exact rAg) (by rw [show cutLo 0 21 (full (20) hi64) = full (21) hi64 by kernel_rfl]; exact jAh)
theorem jAf : Tree.ok 32 (.s 0 20 tAf (.s 0 21 tAg (.s 0 22 tAh (.s 0 23 tAi (.s 0 24 tAj (.s 0 25 tAk (.s 0 26 tAl (.s 0 27 tAm (.s 0 28 tAn tAo))))))))) (full (12) hi64) = true :=
  ok_s (by rw [show cutHi 0 20 (full (12) hi64) = full (12) (19) by kernel_rfl]; exact rAf) (by rw [show cutLo 0 20 (full (12) hi64) = full (20) hi64 by kernel_rfl]; exact jAg)
theorem jAe : Tree.ok 32 (.s 0 12 tAe (.s 0 20 tAf (.s 0 21 tAg (.s 0 22 tAh (.s 0 23 tAi (.s 0 24 tAj (.s 0 25 tAk (.s 0 26 tAl (.s 0 27 tAm (.s 0 28 tAn tAo)))))))))) (full (4) hi64) = true :=
  ok_s (by rw [show cutHi 0 12 (full (4) hi64) = full (4) (11) by kernel_rfl]; exact rAe) (by rw [show cutLo 0 12 (full (4) hi64) = full (12) hi64 by kernel_rfl]; exact jAf)
theorem jAd : Tree.ok 32 (.s 0 4 tAd (.s 0 12 tAe (.s 0 20 tAf (.s 0 21 tAg (.s 0 22 tAh (.s 0 23 tAi (.s 0 24 tAj (.s 0 25 tAk (.s 0 26 tAl (.s 0 27 tAm (.s 0 28 tAn tAo))))))))))) (full (3) hi64) = true :=
  ok_s (by rw [show cutHi 0 4 (full (3) hi64) = full (3) (3) by kernel_rfl]; exact rAd) (by rw [show cutLo 0 4 (full (3) hi64) = full (4) hi64 by kernel_rfl]; exact jAe)
theorem jAc : Tree.ok 32 (.s 0 3 tAc (.s 0 4 tAd (.s 0 12 tAe (.s 0 20 tAf (.s 0 21 tAg (.s 0 22 tAh (.s 0 23 tAi (.s 0 24 tAj (.s 0 25 tAk (.s 0 26 tAl (.s 0 27 tAm (.s 0 28 tAn tAo)))))))))))) (full (2) hi64) = true :=
  ok_s (by rw [show cutHi 0 3 (full (2) hi64) = full (2) (2) by kernel_rfl]; exact rAc) (by rw [show cutLo 0 3 (full (2) hi64) = full (3) hi64 by kernel_rfl]; exact jAd)
theorem jAb : Tree.ok 32 (.s 0 2 tAb (.s 0 3 tAc (.s 0 4 tAd (.s 0 12 tAe (.s 0 20 tAf (.s 0 21 tAg (.s 0 22 tAh (.s 0 23 tAi (.s 0 24 tAj (.s 0 25 tAk (.s 0 26 tAl (.s 0 27 tAm (.s 0 28 tAn tAo))))))))))))) (full (1) hi64) = true :=
  ok_s (by rw [show cutHi 0 2 (full (1) hi64) = full (1) (1) by kernel_rfl]; exact rAb) (by rw [show cutLo 0 2 (full (1) hi64) = full (2) hi64 by kernel_rfl]; exact jAc)
theorem jAa : Tree.ok 32 (.s 0 1 tAa (.s 0 2 tAb (.s 0 3 tAc (.s 0 4 tAd (.s 0 12 tAe (.s 0 20 tAf (.s 0 21 tAg (.s 0 22 tAh (.s 0 23 tAi (.s 0 24 tAj (.s 0 25 tAk (.s 0 26 tAl (.s 0 27 tAm (.s 0 28 tAn tAo)))))))))))))) (full (lo64) hi64) = true :=
  ok_s (by rw [show cutHi 0 1 (full (lo64) hi64) = full (lo64) (0) by kernel_rfl]; exact rAa) (by rw [show cutLo 0 1 (full (lo64) hi64) = full (1) hi64 by kernel_rfl]; exact jAb)
theorem jBo : tBo.ok 16 (full (28) hi64) = true := rBo
theorem jBn : Tree.ok 16 (.s 0 28 tBn tBo) (full (27) hi64) = true :=
  ok_s (by rw [show cutHi 0 28 (full (27) hi64) = full (27) (27) by kernel_rfl]; exact rBn) (by rw [show cutLo 0 28 (full (27) hi64) = full (28) hi64 by kernel_rfl]; exact jBo)
theorem jBm : Tree.ok 16 (.s 0 27 tBm (.s 0 28 tBn tBo)) (full (26) hi64) = true :=
  ok_s (by rw [show cutHi 0 27 (full (26) hi64) = full (26) (26) by kernel_rfl]; exact rBm) (by rw [show cutLo 0 27 (full (26) hi64) = full (27) hi64 by kernel_rfl]; exact jBn)
theorem jBl : Tree.ok 16 (.s 0 26 tBl (.s 0 27 tBm (.s 0 28 tBn tBo))) (full (25) hi64) = true :=
  ok_s (by rw [show cutHi 0 26 (full (25) hi64) = full (25) (25) by kernel_rfl]; exact rBl) (by rw [show cutLo 0 26 (full (25) hi64) = full (26) hi64 by kernel_rfl]; exact jBm)
theorem jBk : Tree.ok 16 (.s 0 25 tBk (.s 0 26 tBl (.s 0 27 tBm (.s 0 28 tBn tBo)))) (full (24) hi64) = true :=
  ok_s (by rw [show cutHi 0 25 (full (24) hi64) = full (24) (24) by kernel_rfl]; exact rBk) (by rw [show cutLo 0 25 (full (24) hi64) = full (25) hi64 by kernel_rfl]; exact jBl)
theorem jBj : Tree.ok 16 (.s 0 24 tBj (.s 0 25 tBk (.s 0 26 tBl (.s 0 27 tBm (.s 0 28 tBn tBo))))) (full (23) hi64) = true :=
  ok_s (by rw [show cutHi 0 24 (full (23) hi64) = full (23) (23) by kernel_rfl]; exact rBj) (by rw [show cutLo 0 24 (full (23) hi64) = full (24) hi64 by kernel_rfl]; exact jBk)
theorem jBi : Tree.ok 16 (.s 0 23 tBi (.s 0 24 tBj (.s 0 25 tBk (.s 0 26 tBl (.s 0 27 tBm (.s 0 28 tBn tBo)))))) (full (22) hi64) = true :=
  ok_s (by rw [show cutHi 0 23 (full (22) hi64) = full (22) (22) by kernel_rfl]; exact rBi) (by rw [show cutLo 0 23 (full (22) hi64) = full (23) hi64 by kernel_rfl]; exact jBj)
theorem jBh : Tree.ok 16 (.s 0 22 tBh (.s 0 23 tBi (.s 0 24 tBj (.s 0 25 tBk (.s 0 26 tBl (.s 0 27 tBm (.s 0 28 tBn tBo))))))) (full (21) hi64) = true :=
  ok_s (by rw [show cutHi 0 22 (full (21) hi64) = full (21) (21) by kernel_rfl]; exact rBh) (by rw [show cutLo 0 22 (full (21) hi64) = full (22) hi64 by kernel_rfl]; exact jBi)
theorem jBg : Tree.ok 16 (.s 0 21 tBg (.s 0 22 tBh (.s 0 23 tBi (.s 0 24 tBj (.s 0 25 tBk (.s 0 26 tBl (.s 0 27 tBm (.s 0 28 tBn tBo)))))))) (full (20) hi64) = true :=
  ok_s (by rw [show cutHi 0 21 (full (20) hi64) = full (20) (20) by kernel_rfl]; exact rBg) (by rw [show cutLo 0 21 (full (20) hi64) = full (21) hi64 by kernel_rfl]; exact jBh)
theorem jBf : Tree.ok 16 (.s 0 20 tBf (.s 0 21 tBg (.s 0 22 tBh (.s 0 23 tBi (.s 0 24 tBj (.s 0 25 tBk (.s 0 26 tBl (.s 0 27 tBm (.s 0 28 tBn tBo))))))))) (full (12) hi64) = true :=
  ok_s (by rw [show cutHi 0 20 (full (12) hi64) = full (12) (19) by kernel_rfl]; exact rBf) (by rw [show cutLo 0 20 (full (12) hi64) = full (20) hi64 by kernel_rfl]; exact jBg)
theorem jBe : Tree.ok 16 (.s 0 12 tBe (.s 0 20 tBf (.s 0 21 tBg (.s 0 22 tBh (.s 0 23 tBi (.s 0 24 tBj (.s 0 25 tBk (.s 0 26 tBl (.s 0 27 tBm (.s 0 28 tBn tBo)))))))))) (full (4) hi64) = true :=
  ok_s (by rw [show cutHi 0 12 (full (4) hi64) = full (4) (11) by kernel_rfl]; exact rBe) (by rw [show cutLo 0 12 (full (4) hi64) = full (12) hi64 by kernel_rfl]; exact jBf)
theorem jBd : Tree.ok 16 (.s 0 4 tBd (.s 0 12 tBe (.s 0 20 tBf (.s 0 21 tBg (.s 0 22 tBh (.s 0 23 tBi (.s 0 24 tBj (.s 0 25 tBk (.s 0 26 tBl (.s 0 27 tBm (.s 0 28 tBn tBo))))))))))) (full (3) hi64) = true :=
  ok_s (by rw [show cutHi 0 4 (full (3) hi64) = full (3) (3) by kernel_rfl]; exact rBd) (by rw [show cutLo 0 4 (full (3) hi64) = full (4) hi64 by kernel_rfl]; exact jBe)
theorem jBc : Tree.ok 16 (.s 0 3 tBc (.s 0 4 tBd (.s 0 12 tBe (.s 0 20 tBf (.s 0 21 tBg (.s 0 22 tBh (.s 0 23 tBi (.s 0 24 tBj (.s 0 25 tBk (.s 0 26 tBl (.s 0 27 tBm (.s 0 28 tBn tBo)))))))))))) (full (2) hi64) = true :=
  ok_s (by rw [show cutHi 0 3 (full (2) hi64) = full (2) (2) by kernel_rfl]; exact rBc) (by rw [show cutLo 0 3 (full (2) hi64) = full (3) hi64 by kernel_rfl]; exact jBd)
theorem jBb : Tree.ok 16 (.s 0 2 tBb (.s 0 3 tBc (.s 0 4 tBd (.s 0 12 tBe (.s 0 20 tBf (.s 0 21 tBg (.s 0 22 tBh (.s 0 23 tBi (.s 0 24 tBj (.s 0 25 tBk (.s 0 26 tBl (.s 0 27 tBm (.s 0 28 tBn tBo))))))))))))) (full (1) hi64) = true :=
  ok_s (by rw [show cutHi 0 2 (full (1) hi64) = full (1) (1) by kernel_rfl]; exact rBb) (by rw [show cutLo 0 2 (full (1) hi64) = full (2) hi64 by kernel_rfl]; exact jBc)
theorem jBa : Tree.ok 16 (.s 0 1 tBa (.s 0 2 tBb (.s 0 3 tBc (.s 0 4 tBd (.s 0 12 tBe (.s 0 20 tBf (.s 0 21 tBg (.s 0 22 tBh (.s 0 23 tBi (.s 0 24 tBj (.s 0 25 tBk (.s 0 26 tBl (.s 0 27 tBm (.s 0 28 tBn tBo)))))))))))))) (full (lo64) hi64) = true :=
  ok_s (by rw [show cutHi 0 1 (full (lo64) hi64) = full (lo64) (0) by kernel_rfl]; exact rBa) (by rw [show cutLo 0 1 (full (lo64) hi64) = full (1) hi64 by kernel_rfl]; exact jBb)
theorem okA : treeA.ok 32 (full lo64 hi64) = true := jAa
theorem okB : treeB.ok 16 (full lo64 hi64) = true := jBa

/-- an instruction -/
structure Ins where
  op : Int
  d : Int
  a : Int
  b : Int
  fn : Int
  wide : Bool
  part : Int
  imm : Int
def i64 (x : Int) : Prop := -9223372036854775808 ≤ x ∧ x ≤ 9223372036854775807
def Ins.fit (x : Ins) : Prop := i64 x.op ∧ i64 x.d ∧ i64 x.a ∧ i64 x.b ∧ i64 x.fn ∧ i64 x.part ∧ i64 x.imm
def Ins.vals (x : Ins) : List Value := [.int .i64 x.op, .int .i64 x.d, .int .i64 x.a, .int .i64 x.b, .int .i64 x.fn, .bool x.wide, .int .i64 x.part, .int .i64 x.imm]
def Ins.nums (x : Ins) : List Int := [x.op, x.d, x.a, x.b, x.fn, if x.wide then 1 else 0, x.part, x.imm]
/-- may an instruction be -/
def chk (x : Ins) : Bool := treeA.at x.nums
theorem vals_nums (x : Ins) : valsFrom 0 x.nums = x.vals := by
  obtain ⟨op, d, a, b, fn, wide, part, imm⟩ := x
  cases wide <;> rfl
theorem fit_in {x : Ins} (h : x.fit) : InB (full lo64 hi64) x.nums := by
  obtain ⟨op, d, a, b, fn, wide, part, imm⟩ := x
  obtain ⟨h1, h2, h3, h4, h5, h6, h7⟩ := h
  refine ⟨h1, h2, h3, h4, h5, ?_, h6, h7, trivial⟩
  cases wide <;> simp
theorem agg_closed {ρ : Ren} {x : Ins} {l : List Value} (h : All2 (VR ρ) [.agg ⟨x.vals⟩] l) : l = [.agg ⟨x.vals⟩] := by
  match l, h with
  | [v], h =>
    obtain ⟨cs, h1, rfl⟩ := VR.agg h.1
    rw [← vals_nums] at h1
    rw [vals_closed h1, vals_nums]
theorem check_ok {x : Ins} (h : x.fit) (hp : Hp) (nx : Nat) : CallR Tryz.prog 32 [.agg ⟨x.vals⟩] hp nx (.ret (.bool (chk x))) hp nx :=
  callR_bool (fun _ _ => agg_closed) (fun w => by have := Tree.tells okA (by decide) (fit_in h) w; rw [vals_nums] at this; exact this) hp nx
theorem check2_ok {x : Ins} (h : x.fit) (hp : Hp) (nx : Nat) : CallR Tryz.prog 16 [.agg ⟨x.vals⟩] hp nx (.ret (.bool (chk x))) hp nx :=
  callR_bool (fun _ _ => agg_closed) (fun w => by have := Tree.tells okB (by decide) (fit_in h) w; rw [vals_nums, ← Tree.same_at same (fit_in h)] at this; exact this) hp nx
end Go.Pick
