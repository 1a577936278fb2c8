/-
  What is proved: a further law of the layer. Conditions: none.
-/
import Derived.Test.YtbjncdcfojjacaaGreatPkRelax
set_option linter.unusedVariables false
set_option linter.unusedSimpArgs false
set_option linter.unusedSectionVars false
namespace Go.Sy
open Go Go.RowKit Go.Sx
theorem CallE.rowC {P : Program} {f : FuncId} {args : List Value} {hp : Hp} {nx k : Nat} {c : List Value} {e : TypeId} (h : CallE P f args hp nx fun x h' n => ∃ b C, x = .ret (.slice (some ⟨b, 0, none⟩) k C) ∧ nx ≤ b ∧ b < n ∧ h' b = some (.cells c e true) ∧ ∀ j, j < nx → h' j = hp j) :
    ∃ nx' b C, nx ≤ b ∧ b < nx' ∧ CallR P f args hp nx (.ret (.slice (some ⟨b, 0, none⟩) k C)) (over hp b (some (.cells c e true))) nx' := by
  obtain ⟨x, h', nx', h1, b, C, rfl, h2, h3, h4, h5⟩ := h
  refine ⟨nx', b, C, h2, h3, h1.canonNew (b := b) (fun j hj => ?_) ?_ fun j _ hne => over_other _ _ hne⟩
  · rw [over_other _ _ (by omega), h5 j hj]
  · rw [over_same, h4]
theorem aAppend_full {E : Env} {hp : Hp} {nx : Nat} {t e sz bt : Nat} {zl : List Value} {sa : Addr} {b n m c : Nat} {old news : List Value} (ht : slcOf E t = some (e, sz)) (he : elOf E e = some (bt, zl)) (hm : m ≠ 0) (hs : 0 < sz) (hb : 0 < bt) (hl : (n + m) * bt ≤ 1000000000000)
    (hown : hp b = some (.cells old e true)) (hlen : old.length = n * sz) (hr : hread hp sa (m * sz) = some news) (ho : ones news = true) :
    aAppend E hp nx t (.slice (some ⟨b, 0, none⟩) n (2 * n + 1)) (.slice (some sa) m c) = some (.slice (some ⟨nx, 0, none⟩) (n + m) 0, .new (.cells (old ++ news) e true)) := by
  obtain ⟨h1, h2⟩ := slcOf_some ht
  obtain ⟨i, z, hi, hz, rfl, rfl⟩ := elOf_some he
  have hsz : i.size = sz := by unfold Env.size at h2; rw [hi] at h2; simpa using h2
  have hno : ¬ (i.size = 0 ∨ (n + m) * i.bytes > 1000000000000 ∨ (E.zero e).isNone = true ∨ i.bytes = 0) := by
    rw [hz]; simp; omega
  have e1 : (2 * n + 1) % 2 = 1 := by omega
  have e2 : ¬ (n + m ≤ (2 * n + 1) / 2) := by omega
  have e3 : takeN (n * i.size) old = some old := by
    have : ∀ (l : List Value) k, k = l.length → takeN k l = some l := by
      intro l
      induction l with
      | nil => rintro k rfl; rfl
      | cons x l ih => rintro k rfl; simp [takeN, ih l.length rfl]
    exact this _ _ (by rw [hlen, hsz])
  unfold aAppend
  simp only [h1, hi, Option.bind_some, hm, if_false, hsz, hr, ho, if_true, hown, dropN]
  rw [if_neg (by rw [← hsz]; exact hno)]
  rw [hsz] at e3
  simp only [e1, if_true, e2, if_false, e3, Option.bind_some]
end Go.Sy
namespace Go.Pick
open Go Go.RowKit Go.Sx Go.Sy Go.Proofs

set_option maxHeartbeats 8000000 in
theorem opp3_ok (x : Int) (hp : Hp) (nx : Nat) : ∃ nx', CallR Tryz.prog 58 [.int .i64 x] hp nx (.ret (.int .i64 (opp x))) hp nx' := by
  refine CallE.still ?_
  rcases opp_cases x with rfl | rfl | rfl | rfl | rfl | rfl | rfl | rfl | rfl | rfl | h
  case inr.inr.inr.inr.inr.inr.inr.inr.inr.inr =>
    rw [opp_no h]
    refine CallE.of_code hE Tryz.func58 rfl rfl ?_
    repeat (first | refine SeqE.nil ?_ | refine CodeE.seq ?_ | refine CodeE.region ?_ | refine CodeE.block ?_ | refine SeqE.step hE (StepO.assign (by rfl)) (by rfl) (by rfl) ?_ | refine SeqE.step hE (StepO.buildSlice (by rfl) (Tab.slcAt tabOk (by rfl)) (by first | exact el3 | exact el4 | exact el33 | exact el35 | exact el37 | exact el50 | exact el51 | exact el56 | exact el87 | exact el89 | exact el95) (by decide) (by rfl)) (by rfl) (by rfl) ?_)
    repeat
      refine CodeE.round ?_
      repeat (first | refine SeqE.nil ?_ | refine CodeE.seq ?_ | refine CodeE.region ?_ | refine CodeE.block ?_ | refine CodeE.condT (by rfl) ?_ | refine CodeE.condF (by rfl) ?_ | refine CodeE.skip ?_ | refine CodeE.exit ?_ | refine CodeE.ret ?_ | refine SeqE.step hE (StepO.move (by rfl)) (by rfl) (by rfl) ?_ | refine SeqE.step hE (StepO.assign (by rfl)) (by rfl) (by rfl) ?_ | refine SeqE.step hE (StepO.load1 (by rfl) (Tab.aggAt tabOk (by rfl)) (by (try dsimp only); (repeat rw [over_other _ _ (by omega)]); first | assumption | exact over_same _ _ _) (by rfl)) (by rfl) (by rfl) ?_ | refine SeqE.step hE (StepO.indexAddr (by rfl) (by rfl) (Tab.slcAt tabOk (by rfl)) (by omega)) (by rfl) (by rfl) ?_ | refine SeqE.step hE (StepO.lenSlice (by rfl) (Tab.slcAt tabOk (by rfl))) (by rfl) (by rfl) ?_ | refine SeqE.step hE (StepO.binOp (by rfl) (by rfl) (lssT (by omega))) (by rfl) (by rfl) ?_ | refine SeqE.step hE (StepO.binOp (by rfl) (by rfl) (lssF (by omega))) (by rfl) (by rfl) ?_ | refine SeqE.step hE (StepO.binOp (by rfl) (by rfl) (eqlF (by omega))) (by rfl) (by rfl) ?_ | refine SeqE.step hE (StepO.binOp (by rfl) (by rfl) (addI (by omega))) (by rfl) (by rfl) ?_)
    exact ⟨_, rfl, rfl, fun k hk => (by (try dsimp only); (repeat rw [over_other _ _ (by omega)]))⟩
  all_goals
    refine CallE.of_code hE Tryz.func58 rfl rfl ?_
    repeat (first | refine SeqE.nil ?_ | refine CodeE.seq ?_ | refine CodeE.region ?_ | refine CodeE.block ?_ | refine SeqE.step hE (StepO.assign (by rfl)) (by rfl) (by rfl) ?_ | refine SeqE.step hE (StepO.buildSlice (by rfl) (Tab.slcAt tabOk (by rfl)) (by first | exact el3 | exact el4 | exact el33 | exact el35 | exact el37 | exact el50 | exact el51 | exact el56 | exact el87 | exact el89 | exact el95) (by decide) (by rfl)) (by rfl) (by rfl) ?_)
    repeat
      refine CodeE.round ?_
      repeat (first | refine SeqE.nil ?_ | refine CodeE.seq ?_ | refine CodeE.region ?_ | refine CodeE.block ?_ | refine CodeE.condT (by rfl) ?_ | refine CodeE.condF (by rfl) ?_ | refine CodeE.skip ?_ | refine CodeE.ret ?_ | refine SeqE.step hE (StepO.move (by rfl)) (by rfl) (by rfl) ?_ | refine SeqE.step hE (StepO.assign (by rfl)) (by rfl) (by rfl) ?_ | refine SeqE.step hE (StepO.load1 (by rfl) (Tab.aggAt tabOk (by rfl)) (by (try dsimp only); (repeat rw [over_other _ _ (by omega)]); first | assumption | exact over_same _ _ _) (by rfl)) (by rfl) (by rfl) ?_ | refine SeqE.step hE (StepO.indexAddr (by rfl) (by rfl) (Tab.slcAt tabOk (by rfl)) (by omega)) (by rfl) (by rfl) ?_ | refine SeqE.step hE (StepO.lenSlice (by rfl) (Tab.slcAt tabOk (by rfl))) (by rfl) (by rfl) ?_ | refine SeqE.step hE (StepO.binOp (by rfl) (by rfl) (lssT (by omega))) (by rfl) (by rfl) ?_ | refine SeqE.step hE (StepO.binOp (by rfl) (by rfl) (eqlT (by omega))) (by rfl) (by rfl) ?_ | refine SeqE.step hE (StepO.binOp (by rfl) (by rfl) (eqlF (by omega))) (by rfl) (by rfl) ?_ | refine SeqE.step hE (StepO.binOp (by rfl) (by rfl) (addI (by omega))) (by rfl) (by rfl) ?_ | refine SeqE.step hE (StepO.binOp (by rfl) (by rfl) (subI (by omega))) (by rfl) (by rfl) ?_ | refine SeqE.step hE (StepO.binOp (by rfl) (by rfl) (eqlT (by decide))) (by rfl) (by rfl) ?_ | refine SeqE.step hE (StepO.binOp (by rfl) (by rfl) (eqlF (by decide))) (by rfl) (by rfl) ?_ | refine SeqE.step hE (StepO.binOp (by rfl) (by rfl) (by rfl)) (by rfl) (by rfl) ?_)
    exact ⟨_, rfl, rfl, fun k hk => (by (try dsimp only); (repeat rw [over_other _ _ (by omega)]))⟩
end Go.Pick
namespace Go.Pick
open Go Go.RowKit Go.Sx Go.Sy Go.Proofs

set_option maxRecDepth 20000 in
theorem size_ok (x : Dr) (b : Bool) (hp : Hp) (nx : Nat) : ∃ nx', CallR Tryz.prog 57 [.agg ⟨x.vals⟩, .bool b] hp nx (.ret (.int .i64 (szOf x b : Nat))) hp nx' := by
  refine CallE.still ?_
  cases b
  · have hsz : szOf x false = 1 := rfl
    rw [hsz]
    refine CallE.of_code hE Tryz.func57 rfl rfl ?_
    repeat (first | refine SeqE.nil ?_ | refine CodeE.seq ?_ | refine CodeE.region ?_ | refine CodeE.condT (by rfl) ?_ | refine CodeE.ret ?_ | refine SeqE.step hE (StepO.move (by rfl)) (by rfl) (by rfl) ?_ | refine SeqE.step hE (StepO.assign (by rfl)) (by rfl) (by rfl) ?_ | refine SeqE.step hE (StepO.box (by rfl) (by rfl)) (by rfl) (by rfl) ?_ | refine SeqE.step hE (StepO.unOp (by rfl) (by rfl)) (by rfl) (by rfl) ?_)
    exact ⟨_, rfl, rfl, fun k hk => (by (try dsimp only); (repeat rw [over_other _ _ (by omega)]))⟩
  by_cases ho : 0 ≤ opp x.ins.fn
  · have hsz : szOf x true = 2 := by simp [szOf, ho]
    rw [hsz]
    refine CallE.of_code hE Tryz.func57 rfl rfl ?_
    repeat (first | refine SeqE.nil ?_ | refine CodeE.seq ?_ | refine CodeE.region ?_ | refine CodeE.condF (by rfl) ?_ | refine CodeE.skip ?_ | refine SeqE.step hE (StepO.move (by rfl)) (by rfl) (by rfl) ?_ | refine SeqE.step hE (StepO.assign (by rfl)) (by rfl) (by rfl) ?_ | refine SeqE.step hE (StepO.fieldAddr (by rfl) (Tab.fldAt tabOk (by rfl) (by rfl))) (by rfl) (by rfl) ?_ | refine SeqE.step hE (StepO.load1 (by rfl) (Tab.aggAt tabOk (by rfl)) (by (try dsimp only); (repeat rw [over_other _ _ (by omega)]); first | assumption | exact over_same _ _ _) (by rfl)) (by rfl) (by rfl) ?_ | refine SeqE.step hE (StepO.box (by rfl) (by rfl)) (by rfl) (by rfl) ?_ | refine SeqE.step hE (StepO.unOp (by rfl) (by rfl)) (by rfl) (by rfl) ?_)
    refine SeqE.callX hE (opA_call rfl fn58 rfl) (opp3_ok x.ins.fn _ _) rfl rfl fun nx2 hg2 => ?_
    repeat (first | refine SeqE.nil ?_ | refine CodeE.seq ?_ | refine CodeE.region ?_ | refine CodeE.condT (by rfl) ?_ | refine CodeE.ret ?_ | refine SeqE.step hE (StepO.assign (by rfl)) (by rfl) (by rfl) ?_ | refine SeqE.step hE (StepO.binOp (by rfl) (by rfl) (geqT (by omega))) (by rfl) (by rfl) ?_)
    exact ⟨_, rfl, rfl, fun k hk => (by (try dsimp only); (repeat rw [over_other _ _ (by omega)]))⟩
  · have hsz : szOf x true = 3 := by simp [szOf, ho]
    rw [hsz]
    refine CallE.of_code hE Tryz.func57 rfl rfl ?_
    repeat (first | refine SeqE.nil ?_ | refine CodeE.seq ?_ | refine CodeE.region ?_ | refine CodeE.condF (by rfl) ?_ | refine CodeE.skip ?_ | refine SeqE.step hE (StepO.move (by rfl)) (by rfl) (by rfl) ?_ | refine SeqE.step hE (StepO.assign (by rfl)) (by rfl) (by rfl) ?_ | refine SeqE.step hE (StepO.fieldAddr (by rfl) (Tab.fldAt tabOk (by rfl) (by rfl))) (by rfl) (by rfl) ?_ | refine SeqE.step hE (StepO.load1 (by rfl) (Tab.aggAt tabOk (by rfl)) (by (try dsimp only); (repeat rw [over_other _ _ (by omega)]); first | assumption | exact over_same _ _ _) (by rfl)) (by rfl) (by rfl) ?_ | refine SeqE.step hE (StepO.box (by rfl) (by rfl)) (by rfl) (by rfl) ?_ | refine SeqE.step hE (StepO.unOp (by rfl) (by rfl)) (by rfl) (by rfl) ?_)
    refine SeqE.callX hE (opA_call rfl fn58 rfl) (opp3_ok x.ins.fn _ _) rfl rfl fun nx2 hg2 => ?_
    repeat (first | refine SeqE.nil ?_ | refine CodeE.seq ?_ | refine CodeE.region ?_ | refine CodeE.condF (by rfl) ?_ | refine CodeE.skip ?_ | refine CodeE.ret ?_ | refine SeqE.step hE (StepO.assign (by rfl)) (by rfl) (by rfl) ?_ | refine SeqE.step hE (StepO.binOp (by rfl) (by rfl) (geqF (by omega))) (by rfl) (by rfl) ?_)
    exact ⟨_, rfl, rfl, fun k hk => (by (try dsimp only); (repeat rw [over_other _ _ (by omega)]))⟩
/-- a far draft's instructions -/
def expF (x : Dr) (w : Int) : List Ins :=
  if 0 ≤ opp x.ins.fn then [{ x.ins with fn := opp x.ins.fn, imm := 1 }, jmp (w - 2)] else [{ x.ins with imm := 1 }, jmp 1, jmp (w - 3)]
theorem outF_exp {l : List Dr} {ms : List Int} {zs : List Nat} {i : Nat} {x : Dr} (h : x.mark ≠ 0) : outF l ms zs i x true = expF x (wayOf l ms zs i) := by
  simp [outF, h, expF]
set_option maxHeartbeats 4000000 in
set_option maxRecDepth 20000 in
theorem exp_ok (x : Dr) (w : Int) (hw : -300000 ≤ w ∧ w ≤ 300000) (hp : Hp) (nx : Nat) : ∃ nx' b, nx ≤ b ∧ b < nx' ∧
    CallR Tryz.prog 38 [.agg ⟨x.vals⟩, .int .i64 w] hp nx (.ret (.slice (some ⟨b, 0, none⟩) (expF x w).length (2 * (expF x w).length + 1))) (over hp b (some (.cells (insFlat (expF x w)) 37 true))) nx' := by
  refine CallE.row ?_
  refine CallE.of_code hE Tryz.func38 rfl rfl ?_
  by_cases ho : 0 ≤ opp x.ins.fn
  · rw [show expF x w = [{ x.ins with fn := opp x.ins.fn, imm := 1 }, jmp (w - 2)] by simp [expF, ho]]
    repeat (first | refine SeqE.nil ?_ | refine CodeE.seq ?_ | refine CodeE.region ?_ | refine SeqE.step hE (StepO.assign (by rfl)) (by rfl) (by rfl) ?_ | refine SeqE.step hE (StepO.fieldAddr (by rfl) (Tab.fldAt tabOk (by rfl) (by rfl))) (by rfl) (by rfl) ?_ | refine SeqE.step hE (StepO.load1 (by rfl) (Tab.aggAt tabOk (by rfl)) (by (try dsimp only); (repeat rw [over_other _ _ (by omega)]); first | assumption | exact over_same _ _ _) (by rfl)) (by rfl) (by rfl) ?_ | refine SeqE.step hE (StepO.loadC (by rfl) (Tab.aggAt tabOk (by rfl)) (Tab.sizeAt tabOk (by rfl)) (by (try dsimp only); (repeat rw [over_other _ _ (by omega)]); first | assumption | exact over_same _ _ _) (by rfl)) (by rfl) (by rfl) ?_ | refine SeqE.step hE (StepO.store1 (by rfl) (by rfl) (Tab.sizeAt tabOk (by rfl)) (by rfl) (by rfl) (by (try dsimp only); (repeat rw [over_other _ _ (by omega)]); first | assumption | exact over_same _ _ _) (Nat.le_of_ble_eq_true (by rfl))) (by rfl) (by rfl) ?_ | refine SeqE.step hE (StepO.storeAll (by rfl) (by rfl) (Tab.sizeAt tabOk (by rfl)) (by (try dsimp only); (repeat rw [over_other _ _ (by omega)]); first | assumption | exact over_same _ _ _) (by rfl) (by rfl)) (by rfl) (by rfl) ?_ | refine SeqE.step hE (StepO.make (by first | exact el3 | exact el4 | exact el33 | exact el35 | exact el37 | exact el50 | exact el51 | exact el56 | exact el87 | exact el89 | exact el95)) (by rfl) (by rfl) ?_ | refine SeqE.step hE (StepO.box (by rfl) (by rfl)) (by rfl) (by rfl) ?_)
    refine SeqE.callX hE (opA_call rfl fn58 rfl) (opp3_ok x.ins.fn _ _) rfl rfl fun nx2 hg2 => ?_
    repeat (first | refine SeqE.nil ?_ | refine CodeE.seq ?_ | refine CodeE.region ?_ | refine CodeE.condT (by rfl) ?_ | refine CodeE.ret ?_ | refine SeqE.step hE (StepO.move (by rfl)) (by rfl) (by rfl) ?_ | refine SeqE.step hE (StepO.assign (by rfl)) (by rfl) (by rfl) ?_ | refine SeqE.step hE (StepO.fieldAddr (by rfl) (Tab.fldAt tabOk (by rfl) (by rfl))) (by rfl) (by rfl) ?_ | refine SeqE.step hE (StepO.loadC (by rfl) (Tab.aggAt tabOk (by rfl)) (Tab.sizeAt tabOk (by rfl)) (by (try dsimp only); (repeat rw [over_other _ _ (by omega)]); first | assumption | exact over_same _ _ _) (by rfl)) (by rfl) (by rfl) ?_ | refine SeqE.step hE (StepO.store1 (by rfl) (by rfl) (Tab.sizeAt tabOk (by rfl)) (by rfl) (by rfl) (by (try dsimp only); (repeat rw [over_other _ _ (by omega)]); first | assumption | exact over_same _ _ _) (Nat.le_of_ble_eq_true (by rfl))) (by rfl) (by rfl) ?_ | refine SeqE.step hE (StepO.binOp (by rfl) (by rfl) (geqT (by omega))) (by rfl) (by rfl) ?_ | refine SeqE.step hE (StepO.binOp (by rfl) (by rfl) (subI (by omega))) (by rfl) (by rfl) ?_ | refine SeqE.step hE (StepO.buildSlice (by rfl) (Tab.slcAt tabOk (by rfl)) (by first | exact el3 | exact el4 | exact el33 | exact el35 | exact el37 | exact el50 | exact el51 | exact el56 | exact el87 | exact el89 | exact el95) (by decide) (by rfl)) (by rfl) (by rfl) ?_ | refine SeqE.step hE (StepO.buildT tabOk (by rfl) (by rfl) (by first | exact el3 | exact el4 | exact el33 | exact el35 | exact el37 | exact el50 | exact el51 | exact el56 | exact el87 | exact el89 | exact el95) (by rfl) (by kernel_rfl) (by rfl)) (by rfl) (by rfl) ?_)
    exact ⟨_, rfl, _, rfl, by omega, by omega, (by (try dsimp only); (repeat rw [over_other _ _ (by omega)]); first | assumption | exact over_same _ _ _), fun j hj => (by (try dsimp only); (repeat rw [over_other _ _ (by omega)]))⟩
  · rw [show expF x w = [{ x.ins with imm := 1 }, jmp 1, jmp (w - 3)] by simp [expF, ho]]
    repeat (first | refine SeqE.nil ?_ | refine CodeE.seq ?_ | refine CodeE.region ?_ | refine SeqE.step hE (StepO.assign (by rfl)) (by rfl) (by rfl) ?_ | refine SeqE.step hE (StepO.fieldAddr (by rfl) (Tab.fldAt tabOk (by rfl) (by rfl))) (by rfl) (by rfl) ?_ | refine SeqE.step hE (StepO.load1 (by rfl) (Tab.aggAt tabOk (by rfl)) (by (try dsimp only); (repeat rw [over_other _ _ (by omega)]); first | assumption | exact over_same _ _ _) (by rfl)) (by rfl) (by rfl) ?_ | refine SeqE.step hE (StepO.loadC (by rfl) (Tab.aggAt tabOk (by rfl)) (Tab.sizeAt tabOk (by rfl)) (by (try dsimp only); (repeat rw [over_other _ _ (by omega)]); first | assumption | exact over_same _ _ _) (by rfl)) (by rfl) (by rfl) ?_ | refine SeqE.step hE (StepO.store1 (by rfl) (by rfl) (Tab.sizeAt tabOk (by rfl)) (by rfl) (by rfl) (by (try dsimp only); (repeat rw [over_other _ _ (by omega)]); first | assumption | exact over_same _ _ _) (Nat.le_of_ble_eq_true (by rfl))) (by rfl) (by rfl) ?_ | refine SeqE.step hE (StepO.storeAll (by rfl) (by rfl) (Tab.sizeAt tabOk (by rfl)) (by (try dsimp only); (repeat rw [over_other _ _ (by omega)]); first | assumption | exact over_same _ _ _) (by rfl) (by rfl)) (by rfl) (by rfl) ?_ | refine SeqE.step hE (StepO.make (by first | exact el3 | exact el4 | exact el33 | exact el35 | exact el37 | exact el50 | exact el51 | exact el56 | exact el87 | exact el89 | exact el95)) (by rfl) (by rfl) ?_ | refine SeqE.step hE (StepO.box (by rfl) (by rfl)) (by rfl) (by rfl) ?_)
    refine SeqE.callX hE (opA_call rfl fn58 rfl) (opp3_ok x.ins.fn _ _) rfl rfl fun nx2 hg2 => ?_
    repeat (first | refine SeqE.nil ?_ | refine CodeE.seq ?_ | refine CodeE.region ?_ | refine CodeE.condF (by rfl) ?_ | refine CodeE.skip ?_ | refine CodeE.ret ?_ | refine SeqE.step hE (StepO.move (by rfl)) (by rfl) (by rfl) ?_ | refine SeqE.step hE (StepO.assign (by rfl)) (by rfl) (by rfl) ?_ | refine SeqE.step hE (StepO.loadC (by rfl) (Tab.aggAt tabOk (by rfl)) (Tab.sizeAt tabOk (by rfl)) (by (try dsimp only); (repeat rw [over_other _ _ (by omega)]); first | assumption | exact over_same _ _ _) (by rfl)) (by rfl) (by rfl) ?_ | refine SeqE.step hE (StepO.binOp (by rfl) (by rfl) (geqF (by omega))) (by rfl) (by rfl) ?_ | refine SeqE.step hE (StepO.binOp (by rfl) (by rfl) (subI (by omega))) (by rfl) (by rfl) ?_ | refine SeqE.step hE (StepO.buildSlice (by rfl) (Tab.slcAt tabOk (by rfl)) (by first | exact el3 | exact el4 | exact el33 | exact el35 | exact el37 | exact el50 | exact el51 | exact el56 | exact el87 | exact el89 | exact el95) (by decide) (by rfl)) (by rfl) (by rfl) ?_ | refine SeqE.step hE (StepO.buildT tabOk (by rfl) (by rfl) (by first | exact el3 | exact el4 | exact el33 | exact el35 | exact el37 | exact el50 | exact el51 | exact el56 | exact el87 | exact el89 | exact el95) (by rfl) (by kernel_rfl) (by rfl)) (by rfl) (by rfl) ?_)
    exact ⟨_, rfl, _, rfl, by omega, by omega, (by (try dsimp only); (repeat rw [over_other _ _ (by omega)]); first | assumption | exact over_same _ _ _), fun j hj => (by (try dsimp only); (repeat rw [over_other _ _ (by omega)]))⟩
end Go.Pick
namespace Go.Pick
open Go Go.RowKit Go.Sx Go.Sy Go.Proofs

def bools (l : List Bool) : List Value := l.map Value.bool
theorem bools_at {l : List Bool} {i k : Nat} (hk : k = i) (h : i < l.length) : (bools l)[k]? = some (.bool l[i]) := by subst hk; simp [bools, h]
theorem bools_len (l : List Bool) : (bools l).length = l.length := by simp [bools]
def posK (zs : List Nat) (k : Nat) : List Nat := (List.range k).map (pos zs)
theorem posK_len (zs : List Nat) (k : Nat) : (posK zs k).length = k := by simp [posK]
theorem posK_at {zs : List Nat} {k i : Nat} (h : i < (posK zs k).length) : (posK zs k)[i] = pos zs i := by simp [posK]
theorem posK_succ (zs : List Nat) (k : Nat) : posK zs (k + 1) = posK zs k ++ [pos zs k] := by simp [posK, List.range_succ]
theorem nums_snoc (l : List Nat) (z : Nat) : nums (l ++ [z]) = nums l ++ [.int .i64 (z : Nat)] := by simp [nums]
theorem posK_next {zs : List Nat} {k : Nat} (h : k < zs.length) : nums (posK zs (k + 1 + 1)) = nums (posK zs (k + 1)) ++ [.int .i64 ((pos zs k : Nat) + (zs[k] : Nat))] := by
  rw [posK_succ zs (k + 1), nums_snoc, pos_succ h, Int.natCast_add]

set_option maxHeartbeats 4000000 in
set_option maxRecDepth 20000 in
theorem places_ok {bb lim : Nat} {l : List Dr} {long : List Bool} {L : Option Addr} {CL Cb : Nat} {hp : Hp} {nx : Nat}
    (hl : Row hp lim L l.length 9 (flat l)) (hbc : hp bb = some (.cells (bools long) 4 true)) (hlen : long.length = l.length) (hn : l.length ≤ 100000) (h4 : lim ≤ nx) (hbb : bb < nx) :
    ∃ nx' b C, nx ≤ b ∧ b < nx' ∧ CallR Tryz.prog 37 [.slice L l.length CL, .slice (some ⟨bb, 0, none⟩) l.length Cb] hp nx (.ret (.slice (some ⟨b, 0, none⟩) (l.length + 1) C)) (over hp b (some (.cells (nums (posL (zsOf l long))) 3 true))) nx' := by
  refine CallE.rowC ?_
  have hz := zsOf_len hlen
  refine CallE.of_code hE Tryz.func37 rfl rfl ?_
  repeat (first | refine SeqE.nil ?_ | refine CodeE.seq ?_ | refine CodeE.region ?_ | refine CodeE.block ?_ | refine SeqE.step hE (StepO.assign (by rfl)) (by rfl) (by rfl) ?_ | refine SeqE.step hE (StepO.buildSlice (by rfl) (Tab.slcAt tabOk (by rfl)) (by first | exact el3 | exact el4 | exact el33 | exact el35 | exact el37 | exact el50 | exact el51 | exact el56 | exact el87 | exact el89 | exact el95) (by decide) (by rfl)) (by rfl) (by rfl) ?_)
  refine CodeE.loop (fun m tm h x => ∃ i b C, i ≤ l.length ∧ m = l.length - i ∧ nx ≤ b ∧ b < x ∧ (∀ k, k < nx → h k = hp k) ∧ h b = some (.cells (nums (posK (zsOf l long) (i + 1))) 3 true) ∧ (i = 0 → C = 3) ∧ (0 < i → C = 0) ∧
    ExtL [(0, .slice L l.length CL), (1, .slice (some ⟨bb, 0, none⟩) l.length Cb), (5, .slice (some ⟨b, 0, none⟩) (i + 1) C), (6, .int .i64 i)] tm) ?_ l.length _ _ _
    ⟨0, nx, 3, by omega, by omega, by omega, by omega, fun k hk => by ((try dsimp only [Eff.hp, Eff.nx]); (repeat rw [over_other _ _ (by omega)])), by first | rfl | (rw [over_same]; rfl), fun _ => rfl, fun h => absurd h (by omega), rfl, rfl, rfl, rfl, trivial⟩
  rintro m tm h x ⟨i, b, C, hi, rfl, hb1, hb2, hfr, hcb, hC0, hC1, ht⟩
  refine CodeE.less ht ?_
  clear ht tm
  by_cases hlt : i < l.length
  case neg =>
    obtain rfl : i = l.length := by omega
    repeat (first | refine SeqE.nil ?_ | refine CodeE.seq ?_ | refine CodeE.region ?_ | refine CodeE.condF (by rfl) ?_ | refine CodeE.exit ?_ | refine CodeE.ret ?_ | refine SeqE.step hE (StepO.move (by rfl)) (by rfl) (by rfl) ?_ | refine SeqE.step hE (StepO.assign (by rfl)) (by rfl) (by rfl) ?_ | refine SeqE.step hE (StepO.lenSlice (by rfl) (Tab.slcAt tabOk (by rfl))) (by rfl) (by rfl) ?_ | refine SeqE.step hE (StepO.binOp (by rfl) (by rfl) (lssF (by omega))) (by rfl) (by rfl) ?_)
    refine ⟨_, rfl, b, C, rfl, hb1, by omega, ?_, hfr⟩
    rw [hcb]; unfold posL; rw [hz]; rfl
  obtain ⟨bl, el, ol, rfl, hbl, hcl⟩ := hl.2 (by omega)
  have hcl' : h bl = some (.cells (flat l) el ol) := (hfr bl (by omega)).trans hcl
  have hbc' : h bb = some (.cells (bools long) 4 true) := (hfr bb hbb).trans hbc
  have hpl := pos_le (zs := zsOf l long) zsOf_le i
  have hsz : (zsOf l long)[i]'(by omega) = szOf l[i] long[i] := zsOf_at _ hlt (by omega)
  have hs3 : szOf l[i] (long[i]'(by omega)) ≤ 3 := by unfold szOf; split <;> (try split) <;> omega
  have hnext := posK_next (zs := zsOf l long) (k := i) (by omega)
  rw [hsz] at hnext
  repeat (first | refine SeqE.nil ?_ | refine CodeE.seq ?_ | refine CodeE.region ?_ | refine CodeE.draw (slsOf tabs) [57] (Tab.slOk tabOk) hE (by kernel_rfl) ?_ | refine CodeE.block ?_ | refine CodeE.condT (by rfl) ?_ | refine CodeE.skip ?_ | refine SeqE.step hE (StepO.move (by rfl)) (by rfl) (by rfl) ?_ | refine SeqD.step (StepO.move (by rfl)) (by rfl) (by rfl) ?_ | refine SeqD.step (StepO.indexAddr (by rfl) (by rfl) (Tab.slcAt tabOk (by rfl)) (by omega)) (by rfl) (by rfl) ?_ | refine SeqE.step hE (StepO.lenSlice (by rfl) (Tab.slcAt tabOk (by rfl))) (by rfl) (by rfl) ?_ | refine SeqE.step hE (StepO.binOp (by rfl) (by rfl) (lssT (by omega))) (by rfl) (by rfl) ?_)
  refine SeqD.step (StepO.load1 rfl (Tab.aggAt tabOk rfl) (by (try dsimp only); (repeat rw [over_other _ _ (by omega)]); first | assumption | exact over_same _ _ _) (nums_val (i := i) (v := pos (zsOf l long) i) (at_int i) (by rw [posK_len]; omega) (posK_at _))) rfl rfl ?_
  repeat (first | refine SeqD.step (StepO.move (by rfl)) (by rfl) (by rfl) ?_ | refine SeqD.step (StepO.indexAddr (by rfl) (by rfl) (Tab.slcAt tabOk (by rfl)) (by omega)) (by rfl) (by rfl) ?_)
  refine SeqD.step (StepO.loadA rfl (Tab.aggAt tabOk rfl) (Tab.sizeAt tabOk rfl) (flat_draft hcl' hlt (by first | omega | (dsimp only; omega) | (simp only [] at *; omega)))) rfl rfl ?_
  repeat (first | refine SeqD.step (StepO.move (by rfl)) (by rfl) (by rfl) ?_ | refine SeqD.step (StepO.indexAddr (by rfl) (by rfl) (Tab.slcAt tabOk (by rfl)) (by omega)) (by rfl) (by rfl) ?_)
  refine SeqD.step (StepO.load1 rfl (Tab.aggAt tabOk rfl) (by (try dsimp only); (repeat rw [over_other _ _ (by omega)]); first | assumption | exact over_same _ _ _) (bools_at (i := i) (at_int i) (by omega))) rfl rfl ?_
  repeat (first | refine SeqE.nil ?_ | refine SeqD.nil ?_ | refine CodeE.seq ?_ | refine CodeE.region ?_ | refine CodeE.draw (slsOf tabs) [57] (Tab.slOk tabOk) hE (by kernel_rfl) ?_ | refine CodeE.block ?_ | refine CodeE.condT (by rfl) ?_ | refine CodeE.condF (by rfl) ?_ | refine CodeE.skip ?_ | refine CodeE.exit ?_ | refine CodeE.ret ?_ | refine SeqE.step hE (StepO.move (by rfl)) (by rfl) (by rfl) ?_ | refine SeqD.step (StepO.move (by rfl)) (by rfl) (by rfl) ?_ | refine SeqE.step hE (StepO.assign (by rfl)) (by rfl) (by rfl) ?_ | refine SeqD.step (StepO.assign (by rfl)) (by rfl) (by rfl) ?_ | refine SeqE.step hE (StepO.pickT (by rfl) (by rfl)) (by rfl) (by rfl) ?_ | refine SeqD.step (StepO.pickT (by rfl) (by rfl)) (by rfl) (by rfl) ?_ | refine SeqE.step hE (StepO.pickF (by rfl) (by rfl)) (by rfl) (by rfl) ?_ | refine SeqD.step (StepO.pickF (by rfl) (by rfl)) (by rfl) (by rfl) ?_ | refine SeqE.step hE (StepO.nilCheck (by rfl)) (by rfl) (by rfl) ?_ | refine SeqD.step (StepO.nilCheck (by rfl)) (by rfl) (by rfl) ?_ | refine SeqE.step hE (StepO.nilCheckF (by rfl)) (by rfl) (by rfl) ?_ | refine SeqD.step (StepO.nilCheckF (by rfl)) (by rfl) (by rfl) ?_ | refine SeqE.step hE (StepO.fieldAddr (by rfl) (Tab.fldAt tabOk (by rfl) (by rfl))) (by rfl) (by rfl) ?_ | refine SeqD.step (StepO.fieldAddr (by rfl) (Tab.fldAt tabOk (by rfl) (by rfl))) (by rfl) (by rfl) ?_ | refine SeqE.step hE (StepO.load1 (by rfl) (Tab.aggAt tabOk (by rfl)) (by (try dsimp only); (repeat rw [over_other _ _ (by omega)]); first | assumption | exact over_same _ _ _) (by rfl)) (by rfl) (by rfl) ?_ | refine SeqD.step (StepO.load1 (by rfl) (Tab.aggAt tabOk (by rfl)) (by (try dsimp only); (repeat rw [over_other _ _ (by omega)]); first | assumption | exact over_same _ _ _) (by rfl)) (by rfl) (by rfl) ?_ | refine SeqE.step hE (StepO.loadC (by rfl) (Tab.aggAt tabOk (by rfl)) (Tab.sizeAt tabOk (by rfl)) (by (try dsimp only); (repeat rw [over_other _ _ (by omega)]); first | assumption | exact over_same _ _ _) (by rfl)) (by rfl) (by rfl) ?_ | refine SeqD.step (StepO.loadC (by rfl) (Tab.aggAt tabOk (by rfl)) (Tab.sizeAt tabOk (by rfl)) (by (try dsimp only); (repeat rw [over_other _ _ (by omega)]); first | assumption | exact over_same _ _ _) (by rfl)) (by rfl) (by rfl) ?_ | refine SeqE.step hE (StepO.store1 (by rfl) (by rfl) (Tab.sizeAt tabOk (by rfl)) (by rfl) (by rfl) (by (try dsimp only); (repeat rw [over_other _ _ (by omega)]); first | assumption | exact over_same _ _ _) (Nat.le_of_ble_eq_true (by rfl))) (by rfl) (by rfl) ?_ | refine SeqD.step (StepO.store1 (by rfl) (by rfl) (Tab.sizeAt tabOk (by rfl)) (by rfl) (by rfl) (by (try dsimp only); (repeat rw [over_other _ _ (by omega)]); first | assumption | exact over_same _ _ _) (Nat.le_of_ble_eq_true (by rfl))) (by rfl) (by rfl) ?_ | refine SeqE.step hE (StepO.storeAll (by rfl) (by rfl) (Tab.sizeAt tabOk (by rfl)) (by (try dsimp only); (repeat rw [over_other _ _ (by omega)]); first | assumption | exact over_same _ _ _) (by rfl) (by rfl)) (by rfl) (by rfl) ?_ | refine SeqD.step (StepO.storeAll (by rfl) (by rfl) (Tab.sizeAt tabOk (by rfl)) (by (try dsimp only); (repeat rw [over_other _ _ (by omega)]); first | assumption | exact over_same _ _ _) (by rfl) (by rfl)) (by rfl) (by rfl) ?_ | refine SeqE.step hE (StepO.make (by first | exact el3 | exact el4 | exact el33 | exact el35 | exact el37 | exact el50 | exact el51 | exact el56 | exact el87 | exact el89 | exact el95)) (by rfl) (by rfl) ?_ | refine SeqD.step (StepO.make (by first | exact el3 | exact el4 | exact el33 | exact el35 | exact el37 | exact el50 | exact el51 | exact el56 | exact el87 | exact el89 | exact el95)) (by rfl) (by rfl) ?_ | refine SeqE.step hE (StepO.box (by rfl) (by rfl)) (by rfl) (by rfl) ?_ | refine SeqD.step (StepO.box (by rfl) (by rfl)) (by rfl) (by rfl) ?_ | refine SeqE.step hE (StepO.indexAddr (by rfl) (by rfl) (Tab.slcAt tabOk (by rfl)) (by omega)) (by rfl) (by rfl) ?_ | refine SeqD.step (StepO.indexAddr (by rfl) (by rfl) (Tab.slcAt tabOk (by rfl)) (by omega)) (by rfl) (by rfl) ?_ | refine SeqE.step hE (StepO.lenSlice (by rfl) (Tab.slcAt tabOk (by rfl))) (by rfl) (by rfl) ?_ | refine SeqD.step (StepO.lenSlice (by rfl) (Tab.slcAt tabOk (by rfl))) (by rfl) (by rfl) ?_ | refine SeqE.step hE (StepO.binOp (by rfl) (by rfl) (lssT (by omega))) (by rfl) (by rfl) ?_ | refine SeqD.step (StepO.binOp (by rfl) (by rfl) (lssT (by omega))) (by rfl) (by rfl) ?_ | refine SeqE.step hE (StepO.binOp (by rfl) (by rfl) (lssF (by omega))) (by rfl) (by rfl) ?_ | refine SeqD.step (StepO.binOp (by rfl) (by rfl) (lssF (by omega))) (by rfl) (by rfl) ?_ | refine SeqE.step hE (StepO.binOp (by rfl) (by rfl) (leqT (by omega))) (by rfl) (by rfl) ?_ | refine SeqD.step (StepO.binOp (by rfl) (by rfl) (leqT (by omega))) (by rfl) (by rfl) ?_ | refine SeqE.step hE (StepO.binOp (by rfl) (by rfl) (leqF (by omega))) (by rfl) (by rfl) ?_ | refine SeqD.step (StepO.binOp (by rfl) (by rfl) (leqF (by omega))) (by rfl) (by rfl) ?_ | refine SeqE.step hE (StepO.binOp (by rfl) (by rfl) (gtrT (by omega))) (by rfl) (by rfl) ?_ | refine SeqD.step (StepO.binOp (by rfl) (by rfl) (gtrT (by omega))) (by rfl) (by rfl) ?_ | refine SeqE.step hE (StepO.binOp (by rfl) (by rfl) (gtrF (by omega))) (by rfl) (by rfl) ?_ | refine SeqD.step (StepO.binOp (by rfl) (by rfl) (gtrF (by omega))) (by rfl) (by rfl) ?_ | refine SeqE.step hE (StepO.binOp (by rfl) (by rfl) (geqT (by omega))) (by rfl) (by rfl) ?_ | refine SeqD.step (StepO.binOp (by rfl) (by rfl) (geqT (by omega))) (by rfl) (by rfl) ?_ | refine SeqE.step hE (StepO.binOp (by rfl) (by rfl) (geqF (by omega))) (by rfl) (by rfl) ?_ | refine SeqD.step (StepO.binOp (by rfl) (by rfl) (geqF (by omega))) (by rfl) (by rfl) ?_ | refine SeqE.step hE (StepO.binOp (by rfl) (by rfl) (eqlT (by omega))) (by rfl) (by rfl) ?_ | refine SeqD.step (StepO.binOp (by rfl) (by rfl) (eqlT (by omega))) (by rfl) (by rfl) ?_ | refine SeqE.step hE (StepO.binOp (by rfl) (by rfl) (eqlF (by omega))) (by rfl) (by rfl) ?_ | refine SeqD.step (StepO.binOp (by rfl) (by rfl) (eqlF (by omega))) (by rfl) (by rfl) ?_ | refine SeqE.step hE (StepO.binOp (by rfl) (by rfl) (neqT (by omega))) (by rfl) (by rfl) ?_ | refine SeqD.step (StepO.binOp (by rfl) (by rfl) (neqT (by omega))) (by rfl) (by rfl) ?_ | refine SeqE.step hE (StepO.binOp (by rfl) (by rfl) (neqF (by omega))) (by rfl) (by rfl) ?_ | refine SeqD.step (StepO.binOp (by rfl) (by rfl) (neqF (by omega))) (by rfl) (by rfl) ?_ | refine SeqE.step hE (StepO.binOp (by rfl) (by rfl) (addI (by omega))) (by rfl) (by rfl) ?_ | refine SeqD.step (StepO.binOp (by rfl) (by rfl) (addI (by omega))) (by rfl) (by rfl) ?_ | refine SeqE.step hE (StepO.binOp (by rfl) (by rfl) (subI (by omega))) (by rfl) (by rfl) ?_ | refine SeqD.step (StepO.binOp (by rfl) (by rfl) (subI (by omega))) (by rfl) (by rfl) ?_ | refine SeqE.step hE (StepO.buildSlice (by rfl) (Tab.slcAt tabOk (by rfl)) (by first | exact el3 | exact el4 | exact el33 | exact el35 | exact el37 | exact el50 | exact el51 | exact el56 | exact el87 | exact el89 | exact el95) (by decide) (by rfl)) (by rfl) (by rfl) ?_ | refine SeqD.step (StepO.buildSlice (by rfl) (Tab.slcAt tabOk (by rfl)) (by first | exact el3 | exact el4 | exact el33 | exact el35 | exact el37 | exact el50 | exact el51 | exact el56 | exact el87 | exact el89 | exact el95) (by decide) (by rfl)) (by rfl) (by rfl) ?_ | refine SeqE.step hE (StepO.buildT tabOk (by rfl) (by rfl) (by first | exact el3 | exact el4 | exact el33 | exact el35 | exact el37 | exact el50 | exact el51 | exact el56 | exact el87 | exact el89 | exact el95) (by rfl) (by kernel_rfl) (by rfl)) (by rfl) (by rfl) ?_ | refine SeqD.step (StepO.buildT tabOk (by rfl) (by rfl) (by first | exact el3 | exact el4 | exact el33 | exact el35 | exact el37 | exact el50 | exact el51 | exact el56 | exact el87 | exact el89 | exact el95) (by rfl) (by kernel_rfl) (by rfl)) (by rfl) (by rfl) ?_ | refine SeqE.step hE (StepO.binOp (by rfl) (by rfl) (eqlT (by decide))) (by rfl) (by rfl) ?_ | refine SeqD.step (StepO.binOp (by rfl) (by rfl) (eqlT (by decide))) (by rfl) (by rfl) ?_ | refine SeqE.step hE (StepO.binOp (by rfl) (by rfl) (eqlF (by decide))) (by rfl) (by rfl) ?_ | refine SeqD.step (StepO.binOp (by rfl) (by rfl) (eqlF (by decide))) (by rfl) (by rfl) ?_ | refine SeqE.step hE (StepO.binOp (by rfl) (by rfl) (neqT (by decide))) (by rfl) (by rfl) ?_ | refine SeqD.step (StepO.binOp (by rfl) (by rfl) (neqT (by decide))) (by rfl) (by rfl) ?_ | refine SeqE.step hE (StepO.binOp (by rfl) (by rfl) (neqF (by decide))) (by rfl) (by rfl) ?_ | refine SeqD.step (StepO.binOp (by rfl) (by rfl) (neqF (by decide))) (by rfl) (by rfl) ?_ | refine SeqE.step hE (StepO.binOp (by rfl) (by rfl) (by rfl)) (by rfl) (by rfl) ?_ | refine SeqD.step (StepO.binOp (by rfl) (by rfl) (by rfl)) (by rfl) (by rfl) ?_ | refine SeqE.step hE (StepO.unOp (by rfl) (by rfl)) (by rfl) (by rfl) ?_ | refine SeqD.step (StepO.unOp (by rfl) (by rfl)) (by rfl) (by rfl) ?_ | refine SeqE.step hE (StepO.extract (by rfl) (by rfl)) (by rfl) (by rfl) ?_ | refine SeqD.step (StepO.extract (by rfl) (by rfl)) (by rfl) (by rfl) ?_ | refine SeqE.leave (by rfl) (by rfl) ?_ | refine SeqD.leave (by rfl) ?_)
  refine SeqD.callX (opA_call rfl fn57 rfl) (size_ok l[i] (long[i]'(by omega)) _ _) rfl rfl fun nx1 hg1 => ?_
  repeat (first | refine SeqD.step (StepO.binOp (by rfl) (by rfl) (addI (by omega))) (by rfl) (by rfl) ?_ | refine SeqD.step (StepO.buildSlice (by rfl) (Tab.slcAt tabOk (by rfl)) (by first | exact el3 | exact el4 | exact el33 | exact el35 | exact el37 | exact el50 | exact el51 | exact el56 | exact el87 | exact el89 | exact el95) (by decide) (by rfl)) (by rfl) (by rfl) ?_)
  by_cases hi0 : i = 0
  · obtain rfl := hC0 hi0
    subst hi0
    refine SeqD.step (StepO.append rfl rfl (aAppend_full (Tab.slcAt tabOk rfl) el3 (by omega) (by decide) (by decide) (by omega) (by (try dsimp only); (repeat rw [over_other _ _ (by omega)]); first | assumption | exact over_same _ _ _) (by rw [nums_len, posK_len]) (hread_all (by (try dsimp only); (repeat rw [over_other _ _ (by omega)]); first | assumption | exact over_same _ _ _) rfl) rfl)) rfl rfl ?_
    repeat (first | refine SeqE.nil ?_ | refine SeqD.nil ?_ | refine CodeE.region ?_ | refine SeqE.step hE (StepO.move (by rfl)) (by rfl) (by rfl) ?_ | refine SeqE.step hE (StepO.assign (by rfl)) (by rfl) (by rfl) ?_ | refine SeqD.step (StepO.assign (by rfl)) (by rfl) (by rfl) ?_ | refine SeqE.step hE (StepO.binOp (by rfl) (by rfl) (addI (by omega))) (by rfl) (by rfl) ?_)
    refine ⟨l.length - (0 + 1), by omega, 0 + 1, _, 0, by omega, rfl, ?_, ?_, fun k hk => ?_, ?_, fun h => absurd h (by omega), fun _ => rfl, rfl, rfl, rfl, rfl, trivial⟩
    · (try dsimp only [Eff.nx]); omega
    · (try dsimp only [Eff.nx]); omega
    · ((try dsimp only [Eff.hp, Eff.nx]); (repeat rw [over_other _ _ (by omega)])); exact hfr k hk
    · (try dsimp only [Eff.hp]); rw [over_same, hnext]; rfl
  · obtain rfl := hC1 (by omega)
    refine SeqD.step (StepO.append rfl rfl (aAppend_own (Tab.slcAt tabOk rfl) el3 (by omega) (by omega) (by decide) (by decide) (by omega) (by (try dsimp only); (repeat rw [over_other _ _ (by omega)]); first | assumption | exact over_same _ _ _) (by rw [nums_len, posK_len]; omega) (hread_all (by (try dsimp only); (repeat rw [over_other _ _ (by omega)]); first | assumption | exact over_same _ _ _) rfl) rfl)) rfl rfl ?_
    repeat (first | refine SeqE.nil ?_ | refine SeqD.nil ?_ | refine CodeE.region ?_ | refine SeqE.step hE (StepO.move (by rfl)) (by rfl) (by rfl) ?_ | refine SeqE.step hE (StepO.assign (by rfl)) (by rfl) (by rfl) ?_ | refine SeqD.step (StepO.assign (by rfl)) (by rfl) (by rfl) ?_ | refine SeqE.step hE (StepO.binOp (by rfl) (by rfl) (addI (by omega))) (by rfl) (by rfl) ?_)
    refine ⟨l.length - (i + 1), by omega, i + 1, _, 0, by omega, rfl, ?_, ?_, fun k hk => ?_, ?_, fun h => absurd h (by omega), fun _ => rfl, rfl, rfl, rfl, rfl, trivial⟩
    · (try dsimp only [Eff.nx]); omega
    · (try dsimp only [Eff.nx]); omega
    · ((try dsimp only [Eff.hp, Eff.nx]); (repeat rw [over_other _ _ (by omega)])); exact hfr k hk
    · (try dsimp only [Eff.hp]); rw [over_same, hnext]; rfl
end Go.Pick
