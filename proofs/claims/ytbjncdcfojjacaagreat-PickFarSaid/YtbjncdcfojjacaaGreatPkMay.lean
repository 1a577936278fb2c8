/-
  What is proved: what may be a draft. Conditions: none.
-/
import Derived.Test.YtbjncdcfojjacaaGreatPkGrow
set_option linter.unusedVariables false
set_option linter.unusedSimpArgs false
set_option linter.unusedSectionVars false
namespace Go.Pick
open Go Go.RowKit Go.Sx Go.Sy Go.Proofs

def markOk (n : Nat) (k : Int) : Bool := decide (0 ≤ k ∧ k ≤ n)
def drOk (M : Nat) (x : Dr) : Bool := decide (0 ≤ x.mark ∧ x.mark ≤ M ∧ (x.mark ≤ 0 ∨ ((x.ins.op = 21 ∨ x.ins.op = 20) ∧ x.ins.imm = 0))) && chk x.ins
/-- may drafts be -/
def mayB (l : List Dr) (ms : List Int) : Bool := decide (l.length ≤ 100000) && ms.all (markOk l.length) && l.all (drOk ms.length)
theorem may_no1 {l : List Dr} {ms : List Int} {i : Nat} (hi : i < ms.length) (h : ¬ (0 ≤ ms[i] ∧ ms[i] ≤ l.length)) : mayB l ms = false := by
  have : ms.all (markOk l.length) = false := by
    rw [List.all_eq_false]
    exact ⟨ms[i], List.getElem_mem hi, by simpa [markOk] using h⟩
  simp [mayB, this]
theorem may_no2 {l : List Dr} {ms : List Int} {i : Nat} (hi : i < l.length) (h : drOk ms.length l[i] = false) : mayB l ms = false := by
  have : l.all (drOk ms.length) = false := by
    rw [List.all_eq_false]
    exact ⟨l[i], List.getElem_mem hi, by simp [h]⟩
  simp [mayB, this]
theorem may_yes {l : List Dr} {ms : List Int} (h0 : l.length ≤ 100000) (h1 : ∀ i (hi : i < ms.length), 0 ≤ ms[i] ∧ ms[i] ≤ l.length) (h2 : ∀ i (hi : i < l.length), drOk ms.length l[i] = true) : mayB l ms = true := by
  have a1 : ms.all (markOk l.length) = true := by
    rw [List.all_eq_true]
    intro k hk
    obtain ⟨i, hi, rfl⟩ := List.getElem_of_mem hk
    simpa [markOk] using h1 i hi
  have a2 : l.all (drOk ms.length) = true := by
    rw [List.all_eq_true]
    intro k hk
    obtain ⟨i, hi, rfl⟩ := List.getElem_of_mem hk
    exact h2 i hi
  simp [mayB, h0, a1, a2]
theorem drOk_no {M : Nat} {x : Dr} (h : ¬ (0 ≤ x.mark ∧ x.mark ≤ M ∧ (x.mark ≤ 0 ∨ ((x.ins.op = 21 ∨ x.ins.op = 20) ∧ x.ins.imm = 0)))) : drOk M x = false := by
  simp only [drOk, h, decide_false, Bool.false_and]
theorem drOk_chk {M : Nat} {x : Dr} (h : 0 ≤ x.mark ∧ x.mark ≤ M ∧ (x.mark ≤ 0 ∨ ((x.ins.op = 21 ∨ x.ins.op = 20) ∧ x.ins.imm = 0))) : drOk M x = chk x.ins := by
  unfold drOk
  rw [decide_eq_true h, Bool.true_and]

set_option maxHeartbeats 16000000 in
set_option maxRecDepth 20000 in
theorem may_ok {lim : Nat} {l : List Dr} {ms : List Int} {L M : Option Addr} {CL CM : Nat} {hp : Hp} {nx : Nat}
    (hl : Row hp lim L l.length 9 (flat l)) (hm : Row hp lim M ms.length 1 (ints ms)) (hn : l.length ≤ 100000) (hM : ms.length ≤ 9223372036854775807) (hfit : ∀ x ∈ l, x.ins.fit) (h4 : lim ≤ nx) :
    ∃ nx', CallR Tryz.prog 28 [.slice L l.length CL, .slice M ms.length CM] hp nx (.ret (.bool (mayB l ms))) hp nx' := by
  refine CallE.still ?_
  refine CallE.of_code hE Tryz.func28 rfl rfl ?_
  repeat (first | refine SeqE.nil ?_ | refine CodeE.seq ?_ | refine CodeE.region ?_ | refine CodeE.block ?_ | refine CodeE.condF (by rfl) ?_ | refine CodeE.skip ?_ | refine SeqE.step hE (StepO.move (by rfl)) (by rfl) (by rfl) ?_ | refine SeqE.step hE (StepO.assign (by rfl)) (by rfl) (by rfl) ?_ | refine SeqE.step hE (StepO.lenSlice (by rfl) (Tab.slcAt tabOk (by rfl))) (by rfl) (by rfl) ?_ | refine SeqE.step hE (StepO.binOp (by rfl) (by rfl) (gtrF (by omega))) (by rfl) (by rfl) ?_)
  refine CodeE.loop (fun m tm h x => ∃ i, i ≤ ms.length ∧ m = ms.length - i ∧ nx = x ∧ hp = h ∧ (∀ j (hj : j < ms.length), j < i → 0 ≤ ms[j] ∧ ms[j] ≤ l.length) ∧
    ExtL [(0, .slice L l.length CL), (1, .slice M ms.length CM), (13, .slice M ms.length CM), (14, .int .i64 ms.length), (15, .int .i64 i)] tm) ?_ ms.length _ _ _
    ⟨0, by omega, by omega, rfl, rfl, fun j _ hj => by omega, rfl, rfl, rfl, rfl, rfl, trivial⟩
  rintro m tm h x ⟨i, hi, rfl, rfl, rfl, hok, ht⟩
  refine CodeE.less ht ?_
  clear ht tm
  by_cases hlt : i < ms.length
  case pos =>
    obtain ⟨bm, em, om, rfl, hbm, hcm⟩ := hm.2 (by omega)
    repeat (first | refine SeqE.nil ?_ | refine CodeE.seq ?_ | refine CodeE.region ?_ | refine CodeE.block ?_ | refine CodeE.condT (by rfl) ?_ | refine CodeE.skip ?_ | refine SeqE.step hE (StepO.indexAddr (by rfl) (by rfl) (Tab.slcAt tabOk (by rfl)) (by omega)) (by rfl) (by rfl) ?_ | refine SeqE.step hE (StepO.binOp (by rfl) (by rfl) (lssT (by omega))) (by rfl) (by rfl) ?_)
    refine SeqE.step hE (StepO.load1 rfl (Tab.aggAt tabOk rfl) (by (try dsimp only); (repeat rw [over_other _ _ (by omega)]); first | assumption | exact over_same _ _ _) (ints_at (i := i) (by first | omega | (dsimp only; omega) | (simp only [] at *; omega)) hlt)) rfl rfl ?_
    by_cases g1 : ms[i] < 0
    · rw [may_no1 hlt (by omega)]
      repeat (first | refine SeqE.nil ?_ | refine CodeE.seq ?_ | refine CodeE.region ?_ | refine CodeE.condT (by rfl) ?_ | refine CodeE.ret ?_ | refine SeqE.step hE (StepO.move (by rfl)) (by rfl) (by rfl) ?_ | refine SeqE.step hE (StepO.assign (by rfl)) (by rfl) (by rfl) ?_ | refine SeqE.step hE (StepO.pickT (by rfl) (by rfl)) (by rfl) (by rfl) ?_ | refine SeqE.step hE (StepO.binOp (by rfl) (by rfl) (lssT (by omega))) (by rfl) (by rfl) ?_ | refine SeqE.leave (by rfl) (by rfl) ?_)
      exact ⟨_, rfl, rfl, fun k hk => rfl⟩
    by_cases g2 : (l.length : Int) < ms[i]
    · rw [may_no1 hlt (by omega)]
      repeat (first | refine SeqE.nil ?_ | refine CodeE.seq ?_ | refine CodeE.region ?_ | refine CodeE.condT (by rfl) ?_ | refine CodeE.ret ?_ | refine SeqE.step hE (StepO.move (by rfl)) (by rfl) (by rfl) ?_ | refine SeqE.step hE (StepO.assign (by rfl)) (by rfl) (by rfl) ?_ | refine SeqE.step hE (StepO.pickF (by rfl) (by rfl)) (by rfl) (by rfl) ?_ | refine SeqE.step hE (StepO.lenSlice (by rfl) (Tab.slcAt tabOk (by rfl))) (by rfl) (by rfl) ?_ | refine SeqE.step hE (StepO.binOp (by rfl) (by rfl) (lssF (by omega))) (by rfl) (by rfl) ?_ | refine SeqE.step hE (StepO.binOp (by rfl) (by rfl) (gtrT (by omega))) (by rfl) (by rfl) ?_)
      exact ⟨_, rfl, rfl, fun k hk => rfl⟩
    repeat (first | refine SeqE.nil ?_ | refine CodeE.seq ?_ | refine CodeE.region ?_ | refine CodeE.condF (by rfl) ?_ | refine CodeE.skip ?_ | refine SeqE.step hE (StepO.move (by rfl)) (by rfl) (by rfl) ?_ | refine SeqE.step hE (StepO.assign (by rfl)) (by rfl) (by rfl) ?_ | refine SeqE.step hE (StepO.pickF (by rfl) (by rfl)) (by rfl) (by rfl) ?_ | refine SeqE.step hE (StepO.lenSlice (by rfl) (Tab.slcAt tabOk (by rfl))) (by rfl) (by rfl) ?_ | refine SeqE.step hE (StepO.binOp (by rfl) (by rfl) (lssF (by omega))) (by rfl) (by rfl) ?_ | refine SeqE.step hE (StepO.binOp (by rfl) (by rfl) (gtrF (by omega))) (by rfl) (by rfl) ?_ | refine SeqE.step hE (StepO.binOp (by rfl) (by rfl) (addI (by omega))) (by rfl) (by rfl) ?_)
    refine ⟨ms.length - (i + 1), by omega, i + 1, by omega, rfl, rfl, rfl, fun j hj hji => ?_, rfl, rfl, rfl, rfl, rfl, trivial⟩
    by_cases e : j = i
    · subst e; omega
    · exact hok j hj (by omega)
  case neg =>
    obtain rfl : i = ms.length := by omega
    have hms : ∀ j (hj : j < ms.length), 0 ≤ ms[j] ∧ ms[j] ≤ l.length := fun j hj => hok j hj hj
    clear hok
    repeat (first | refine SeqE.nil ?_ | refine CodeE.seq ?_ | refine CodeE.region ?_ | refine CodeE.block ?_ | refine CodeE.condF (by rfl) ?_ | refine CodeE.exit ?_ | refine SeqE.step hE (StepO.move (by rfl)) (by rfl) (by rfl) ?_ | refine SeqE.step hE (StepO.lenSlice (by rfl) (Tab.slcAt tabOk (by rfl))) (by rfl) (by rfl) ?_ | refine SeqE.step hE (StepO.binOp (by rfl) (by rfl) (lssF (by omega))) (by rfl) (by rfl) ?_)
    refine CodeE.loop (fun m tm h y => ∃ i, i ≤ l.length ∧ m = l.length - i ∧ nx ≤ y ∧ (∀ k, k < nx → h k = hp k) ∧ (∀ j (hj : j < l.length), j < i → drOk ms.length l[j] = true) ∧
      ExtL [(0, .slice L l.length CL), (1, .slice M ms.length CM), (28, .slice L l.length CL), (29, .int .i64 l.length), (30, .int .i64 i)] tm) ?_ l.length _ _ _
      ⟨0, by omega, by omega, Nat.le_refl _, fun _ _ => rfl, fun j _ hj => by omega, rfl, rfl, rfl, rfl, rfl, trivial⟩
    rintro m tm h y ⟨i, hi, rfl, hxy, hk, hok, ht⟩
    refine CodeE.less ht ?_
    clear ht tm
    by_cases hlt2 : i < l.length
    case neg =>
      obtain rfl : i = l.length := by omega
      rw [may_yes hn hms fun j hj => hok j hj hj]
      repeat (first | refine SeqE.nil ?_ | refine CodeE.seq ?_ | refine CodeE.region ?_ | refine CodeE.condF (by rfl) ?_ | refine CodeE.exit ?_ | refine CodeE.ret ?_ | refine SeqE.step hE (StepO.assign (by rfl)) (by rfl) (by rfl) ?_ | refine SeqE.step hE (StepO.binOp (by rfl) (by rfl) (lssF (by omega))) (by rfl) (by rfl) ?_)
      exact ⟨_, rfl, rfl, hk⟩
    obtain ⟨bl, el, ol, rfl, hbl, hcl⟩ := hl.2 (by omega)
    have hcl' : h bl = some (.cells (flat l) el ol) := (hk bl (by omega)).trans hcl
    have hf := hfit _ (List.getElem_mem hlt2)
    repeat (first | refine SeqE.nil ?_ | refine CodeE.seq ?_ | refine CodeE.region ?_ | refine CodeE.block ?_ | refine CodeE.condT (by rfl) ?_ | refine CodeE.skip ?_ | refine SeqE.step hE (StepO.indexAddr (by rfl) (by rfl) (Tab.slcAt tabOk (by rfl)) (by omega)) (by rfl) (by rfl) ?_ | refine SeqE.step hE (StepO.binOp (by rfl) (by rfl) (lssT (by omega))) (by rfl) (by rfl) ?_)
    refine SeqE.step hE (StepO.loadA rfl (Tab.aggAt tabOk rfl) (Tab.sizeAt tabOk rfl) (flat_draft hcl' hlt2 (by first | omega | (dsimp only; omega) | (simp only [] at *; omega)))) rfl rfl ?_
    have hop : l[i].ins.op = 21 ∨ l[i].ins.op = 20 ∨ (l[i].ins.op ≠ 21 ∧ l[i].ins.op ≠ 20) := by omega
    have hmk : l[i].mark < 0 ∨ (0 ≤ l[i].mark ∧ (ms.length : Int) < l[i].mark) ∨ l[i].mark = 0 ∨ (0 < l[i].mark ∧ l[i].mark ≤ ms.length ∧ l[i].ins.imm ≠ 0) ∨ (0 < l[i].mark ∧ l[i].mark ≤ ms.length ∧ l[i].ins.imm = 0) := by omega
    have fin : ∀ (H : Hp), (∀ k, k < nx → H k = h k) → ∀ k, k < nx → H k = hp k := fun H h1 k hkx => (h1 k hkx).trans (hk k hkx)
    rcases hop with hop | hop | hop
    all_goals rcases hmk with hmk | hmk | hmk | hmk | hmk
    all_goals first
      | (rw [may_no2 hlt2 (drOk_no (by omega))]
         repeat (first | refine SeqE.nil ?_ | refine CodeE.seq ?_ | refine CodeE.region ?_ | refine CodeE.condT (by rfl) ?_ | refine CodeE.ret ?_ | refine SeqE.step hE (StepO.move (by rfl)) (by rfl) (by rfl) ?_ | refine SeqE.step hE (StepO.assign (by rfl)) (by rfl) (by rfl) ?_ | refine SeqE.step hE (StepO.pickT (by rfl) (by rfl)) (by rfl) (by rfl) ?_ | refine SeqE.step hE (StepO.pickF (by rfl) (by rfl)) (by rfl) (by rfl) ?_ | refine SeqE.step hE (StepO.fieldAddr (by rfl) (Tab.fldAt tabOk (by rfl) (by rfl))) (by rfl) (by rfl) ?_ | refine SeqE.step hE (StepO.load1 (by rfl) (Tab.aggAt tabOk (by rfl)) (by (try dsimp only); (repeat rw [over_other _ _ (by omega)]); first | assumption | exact over_same _ _ _) (by rfl)) (by rfl) (by rfl) ?_ | refine SeqE.step hE (StepO.storeAll (by rfl) (by rfl) (Tab.sizeAt tabOk (by rfl)) (by (try dsimp only); (repeat rw [over_other _ _ (by omega)]); first | assumption | exact over_same _ _ _) (by rfl) (by rfl)) (by rfl) (by rfl) ?_ | refine SeqE.step hE (StepO.make (by first | exact el3 | exact el4 | exact el33 | exact el35 | exact el37 | exact el50 | exact el51 | exact el56 | exact el87 | exact el89 | exact el95)) (by rfl) (by rfl) ?_ | refine SeqE.step hE (StepO.lenSlice (by rfl) (Tab.slcAt tabOk (by rfl))) (by rfl) (by rfl) ?_ | refine SeqE.step hE (StepO.binOp (by rfl) (by rfl) (lssT (by omega))) (by rfl) (by rfl) ?_ | refine SeqE.step hE (StepO.binOp (by rfl) (by rfl) (lssF (by omega))) (by rfl) (by rfl) ?_ | refine SeqE.step hE (StepO.binOp (by rfl) (by rfl) (gtrT (by omega))) (by rfl) (by rfl) ?_ | refine SeqE.step hE (StepO.binOp (by rfl) (by rfl) (gtrF (by omega))) (by rfl) (by rfl) ?_ | refine SeqE.step hE (StepO.binOp (by rfl) (by rfl) (eqlT (by omega))) (by rfl) (by rfl) ?_ | refine SeqE.step hE (StepO.binOp (by rfl) (by rfl) (eqlF (by omega))) (by rfl) (by rfl) ?_ | refine SeqE.step hE (StepO.binOp (by rfl) (by rfl) (neqT (by omega))) (by rfl) (by rfl) ?_ | refine SeqE.step hE (StepO.unOp (by rfl) (by rfl)) (by rfl) (by rfl) ?_ | refine SeqE.leave (by rfl) (by rfl) ?_)
         exact ⟨_, rfl, rfl, fin _ fun k hk => (by (try dsimp only); (repeat rw [over_other _ _ (by omega)]))⟩)
      | skip
    all_goals
      have hd := drOk_chk (M := ms.length) (x := l[i]) (by omega)
      rcases Bool.eq_false_or_eq_true (chk l[i].ins) with hc | hc
      · have hck : ∀ hp nx, ∃ nx1, CallR Tryz.prog 32 [.agg ⟨l[i].ins.vals⟩] hp nx (.ret (.bool true)) hp nx1 := fun hp nx => ⟨nx, by have := check_ok hf hp nx; rwa [hc] at this⟩
        repeat (first | refine SeqE.nil ?_ | refine CodeE.seq ?_ | refine CodeE.region ?_ | refine SeqE.step hE (StepO.move (by rfl)) (by rfl) (by rfl) ?_ | refine SeqE.step hE (StepO.assign (by rfl)) (by rfl) (by rfl) ?_ | refine SeqE.step hE (StepO.pickT (by rfl) (by rfl)) (by rfl) (by rfl) ?_ | refine SeqE.step hE (StepO.pickF (by rfl) (by rfl)) (by rfl) (by rfl) ?_ | refine SeqE.step hE (StepO.fieldAddr (by rfl) (Tab.fldAt tabOk (by rfl) (by rfl))) (by rfl) (by rfl) ?_ | refine SeqE.step hE (StepO.load1 (by rfl) (Tab.aggAt tabOk (by rfl)) (by (try dsimp only); (repeat rw [over_other _ _ (by omega)]); first | assumption | exact over_same _ _ _) (by rfl)) (by rfl) (by rfl) ?_ | refine SeqE.step hE (StepO.loadC (by rfl) (Tab.aggAt tabOk (by rfl)) (Tab.sizeAt tabOk (by rfl)) (by (try dsimp only); (repeat rw [over_other _ _ (by omega)]); first | assumption | exact over_same _ _ _) (by rfl)) (by rfl) (by rfl) ?_ | refine SeqE.step hE (StepO.storeAll (by rfl) (by rfl) (Tab.sizeAt tabOk (by rfl)) (by (try dsimp only); (repeat rw [over_other _ _ (by omega)]); first | assumption | exact over_same _ _ _) (by rfl) (by rfl)) (by rfl) (by rfl) ?_ | refine SeqE.step hE (StepO.make (by first | exact el3 | exact el4 | exact el33 | exact el35 | exact el37 | exact el50 | exact el51 | exact el56 | exact el87 | exact el89 | exact el95)) (by rfl) (by rfl) ?_ | refine SeqE.step hE (StepO.lenSlice (by rfl) (Tab.slcAt tabOk (by rfl))) (by rfl) (by rfl) ?_ | refine SeqE.step hE (StepO.binOp (by rfl) (by rfl) (lssF (by omega))) (by rfl) (by rfl) ?_ | refine SeqE.step hE (StepO.binOp (by rfl) (by rfl) (gtrT (by omega))) (by rfl) (by rfl) ?_ | refine SeqE.step hE (StepO.binOp (by rfl) (by rfl) (gtrF (by omega))) (by rfl) (by rfl) ?_ | refine SeqE.step hE (StepO.binOp (by rfl) (by rfl) (eqlT (by omega))) (by rfl) (by rfl) ?_ | refine SeqE.step hE (StepO.binOp (by rfl) (by rfl) (eqlF (by omega))) (by rfl) (by rfl) ?_ | refine SeqE.step hE (StepO.binOp (by rfl) (by rfl) (neqF (by omega))) (by rfl) (by rfl) ?_ | refine SeqE.step hE (StepO.unOp (by rfl) (by rfl)) (by rfl) (by rfl) ?_ | refine SeqE.leave (by rfl) (by rfl) ?_)
        refine SeqE.callX hE (opA_call rfl fn32 rfl) (hck _ _) rfl rfl fun nx1 hg1 => ?_
        repeat (first | refine SeqE.nil ?_ | refine CodeE.region ?_ | refine CodeE.condF (by rfl) ?_ | refine CodeE.skip ?_ | refine SeqE.step hE (StepO.move (by rfl)) (by rfl) (by rfl) ?_ | refine SeqE.step hE (StepO.pickF (by rfl) (by rfl)) (by rfl) (by rfl) ?_ | refine SeqE.step hE (StepO.binOp (by rfl) (by rfl) (addI (by omega))) (by rfl) (by rfl) ?_ | refine SeqE.step hE (StepO.unOp (by rfl) (by rfl)) (by rfl) (by rfl) ?_)
        refine ⟨l.length - (i + 1), by omega, i + 1, by omega, rfl, by omega, fin _ fun k hk => (by (try dsimp only); (repeat rw [over_other _ _ (by omega)])), fun j hj hji => ?_, rfl, rfl, rfl, rfl, rfl, trivial⟩
        by_cases e : j = i
        · subst e; rw [hd, hc]
        · exact hok j hj (by omega)
      · have hck : ∀ hp nx, ∃ nx1, CallR Tryz.prog 32 [.agg ⟨l[i].ins.vals⟩] hp nx (.ret (.bool false)) hp nx1 := fun hp nx => ⟨nx, by have := check_ok hf hp nx; rwa [hc] at this⟩
        rw [may_no2 hlt2 (by rw [hd, hc])]
        repeat (first | refine SeqE.nil ?_ | refine CodeE.seq ?_ | refine CodeE.region ?_ | refine SeqE.step hE (StepO.move (by rfl)) (by rfl) (by rfl) ?_ | refine SeqE.step hE (StepO.assign (by rfl)) (by rfl) (by rfl) ?_ | refine SeqE.step hE (StepO.pickT (by rfl) (by rfl)) (by rfl) (by rfl) ?_ | refine SeqE.step hE (StepO.pickF (by rfl) (by rfl)) (by rfl) (by rfl) ?_ | refine SeqE.step hE (StepO.fieldAddr (by rfl) (Tab.fldAt tabOk (by rfl) (by rfl))) (by rfl) (by rfl) ?_ | refine SeqE.step hE (StepO.load1 (by rfl) (Tab.aggAt tabOk (by rfl)) (by (try dsimp only); (repeat rw [over_other _ _ (by omega)]); first | assumption | exact over_same _ _ _) (by rfl)) (by rfl) (by rfl) ?_ | refine SeqE.step hE (StepO.loadC (by rfl) (Tab.aggAt tabOk (by rfl)) (Tab.sizeAt tabOk (by rfl)) (by (try dsimp only); (repeat rw [over_other _ _ (by omega)]); first | assumption | exact over_same _ _ _) (by rfl)) (by rfl) (by rfl) ?_ | refine SeqE.step hE (StepO.storeAll (by rfl) (by rfl) (Tab.sizeAt tabOk (by rfl)) (by (try dsimp only); (repeat rw [over_other _ _ (by omega)]); first | assumption | exact over_same _ _ _) (by rfl) (by rfl)) (by rfl) (by rfl) ?_ | refine SeqE.step hE (StepO.make (by first | exact el3 | exact el4 | exact el33 | exact el35 | exact el37 | exact el50 | exact el51 | exact el56 | exact el87 | exact el89 | exact el95)) (by rfl) (by rfl) ?_ | refine SeqE.step hE (StepO.lenSlice (by rfl) (Tab.slcAt tabOk (by rfl))) (by rfl) (by rfl) ?_ | refine SeqE.step hE (StepO.binOp (by rfl) (by rfl) (lssF (by omega))) (by rfl) (by rfl) ?_ | refine SeqE.step hE (StepO.binOp (by rfl) (by rfl) (gtrT (by omega))) (by rfl) (by rfl) ?_ | refine SeqE.step hE (StepO.binOp (by rfl) (by rfl) (gtrF (by omega))) (by rfl) (by rfl) ?_ | refine SeqE.step hE (StepO.binOp (by rfl) (by rfl) (eqlT (by omega))) (by rfl) (by rfl) ?_ | refine SeqE.step hE (StepO.binOp (by rfl) (by rfl) (eqlF (by omega))) (by rfl) (by rfl) ?_ | refine SeqE.step hE (StepO.binOp (by rfl) (by rfl) (neqF (by omega))) (by rfl) (by rfl) ?_ | refine SeqE.step hE (StepO.unOp (by rfl) (by rfl)) (by rfl) (by rfl) ?_ | refine SeqE.leave (by rfl) (by rfl) ?_)
        refine SeqE.callX hE (opA_call rfl fn32 rfl) (hck _ _) rfl rfl fun nx1 hg1 => ?_
        repeat (first | refine SeqE.nil ?_ | refine CodeE.seq ?_ | refine CodeE.region ?_ | refine CodeE.condT (by rfl) ?_ | refine CodeE.ret ?_ | refine SeqE.step hE (StepO.assign (by rfl)) (by rfl) (by rfl) ?_ | refine SeqE.step hE (StepO.pickF (by rfl) (by rfl)) (by rfl) (by rfl) ?_ | refine SeqE.step hE (StepO.unOp (by rfl) (by rfl)) (by rfl) (by rfl) ?_)
        exact ⟨_, rfl, rfl, fin _ fun k hk => (by (try dsimp only); (repeat rw [over_other _ _ (by omega)]))⟩
end Go.Pick
