/-
  What is proved: a further law of the layer. Conditions: none.
-/
import Derived.Test.YtbjncdcfojjacaaGreatPkDocRelax
import Derived.Test.YtbjncdcfojjacaaGreatPkShort
set_option linter.unusedVariables false
set_option linter.unusedSimpArgs false
set_option linter.unusedSectionVars false
namespace Go.Pick
open Go Go.RowKit Go.Sx Go.Sy Go.Proofs

set_option maxHeartbeats 4000000 in
set_option maxRecDepth 20000 in
theorem same_ok {o : List Ins} {A B : Option Addr} {CA CB : Nat} {hp : Hp} {nx : Nat} (hbig : o.length ≤ 1000000) (hA : 0 < o.length → ∃ b e own, A = some ⟨b, 0, none⟩ ∧ hp b = some (.cells (insFlat o) e own)) (hB : 0 < o.length → ∃ b e own, B = some ⟨b, 0, none⟩ ∧ hp b = some (.cells (insFlat o) e own)) :
    ∃ nx', CallR Tryz.prog 14 [.slice A o.length CA, .slice B o.length CB] hp nx (.ret (.bool true)) hp nx' := by
  refine CallE.still ?_
  refine CallE.of_code hE Tryz.func14 rfl rfl ?_
  repeat (first | refine SeqE.nil ?_ | refine CodeE.seq ?_ | refine CodeE.region ?_ | refine CodeE.block ?_ | refine CodeE.condF (by rfl) ?_ | refine CodeE.skip ?_ | refine SeqE.step hE (StepO.move (by rfl)) (by rfl) (by rfl) ?_ | refine SeqE.step hE (StepO.assign (by rfl)) (by rfl) (by rfl) ?_ | refine SeqE.step hE (StepO.lenSlice (by rfl) (Tab.slcAt tabOk (by rfl))) (by rfl) (by rfl) ?_ | refine SeqE.step hE (StepO.binOp (by rfl) (by rfl) (neqF (by omega))) (by rfl) (by rfl) ?_)
  refine CodeE.loop (fun m tm h x => ∃ i, i ≤ o.length ∧ m = o.length - i ∧ nx ≤ x ∧ hp = h ∧
    ExtL [(0, .slice A o.length CA), (1, .slice B o.length CB), (5, .int .i64 i)] tm) ?_ o.length _ _ _
    ⟨0, by omega, by omega, Nat.le_refl _, rfl, rfl, rfl, rfl, trivial⟩
  rintro m tm h x ⟨i, hi, rfl, hnx, rfl, ht⟩
  refine CodeE.less ht ?_
  clear ht tm
  by_cases hlt : i < o.length
  case neg =>
    obtain rfl : i = o.length := by omega
    repeat (first | refine SeqE.nil ?_ | refine CodeE.seq ?_ | refine CodeE.region ?_ | refine CodeE.condF (by rfl) ?_ | refine CodeE.exit ?_ | refine CodeE.ret ?_ | refine SeqE.step hE (StepO.move (by rfl)) (by rfl) (by rfl) ?_ | refine SeqE.step hE (StepO.assign (by rfl)) (by rfl) (by rfl) ?_ | refine SeqE.step hE (StepO.lenSlice (by rfl) (Tab.slcAt tabOk (by rfl))) (by rfl) (by rfl) ?_ | refine SeqE.step hE (StepO.binOp (by rfl) (by rfl) (lssF (by omega))) (by rfl) (by rfl) ?_)
    exact ⟨_, rfl, rfl, fun _ _ => rfl⟩
  obtain ⟨ba, ea, oa, rfl, hca⟩ := hA (by omega)
  obtain ⟨bb, eb, ob, rfl, hcb⟩ := hB (by omega)
  repeat (first | refine SeqE.nil ?_ | refine CodeE.seq ?_ | refine CodeE.region ?_ | refine CodeE.draw (slsOf tabs) [] (Tab.slOk tabOk) hE (by kernel_rfl) ?_ | refine CodeE.block ?_ | refine CodeE.condT (by rfl) ?_ | refine CodeE.skip ?_ | refine SeqE.step hE (StepO.move (by rfl)) (by rfl) (by rfl) ?_ | refine SeqD.step (StepO.move (by rfl)) (by rfl) (by rfl) ?_ | refine SeqD.step (StepO.indexAddr (by rfl) (by rfl) (Tab.slcAt tabOk (by rfl)) (by omega)) (by rfl) (by rfl) ?_ | refine SeqE.step hE (StepO.lenSlice (by rfl) (Tab.slcAt tabOk (by rfl))) (by rfl) (by rfl) ?_ | refine SeqE.step hE (StepO.binOp (by rfl) (by rfl) (lssT (by omega))) (by rfl) (by rfl) ?_)
  refine SeqD.step (StepO.loadA rfl (Tab.aggAt tabOk rfl) (Tab.sizeAt tabOk rfl) (ins_read (i := i) (by (try dsimp only); (repeat rw [over_other _ _ (by omega)]); first | assumption | exact over_same _ _ _) hlt (by first | omega | (dsimp only; omega) | (simp only [] at *; omega)))) rfl rfl ?_
  repeat (first | refine SeqD.step (StepO.move (by rfl)) (by rfl) (by rfl) ?_ | refine SeqD.step (StepO.indexAddr (by rfl) (by rfl) (Tab.slcAt tabOk (by rfl)) (by omega)) (by rfl) (by rfl) ?_)
  refine SeqD.step (StepO.loadA rfl (Tab.aggAt tabOk rfl) (Tab.sizeAt tabOk rfl) (ins_read (i := i) (by (try dsimp only); (repeat rw [over_other _ _ (by omega)]); first | assumption | exact over_same _ _ _) hlt (by first | omega | (dsimp only; omega) | (simp only [] at *; omega)))) rfl rfl ?_
  refine SeqD.step (StepO.binOp rfl rfl (ins_neq_same o[i] _ _)) rfl rfl ?_
  repeat (first | refine SeqE.nil ?_ | refine SeqD.nil ?_ | refine CodeE.region ?_ | refine CodeE.condF (by rfl) ?_ | refine CodeE.skip ?_ | refine SeqE.step hE (StepO.move (by rfl)) (by rfl) (by rfl) ?_ | refine SeqE.step hE (StepO.assign (by rfl)) (by rfl) (by rfl) ?_ | refine SeqE.step hE (StepO.binOp (by rfl) (by rfl) (addI (by omega))) (by rfl) (by rfl) ?_)
  exact ⟨o.length - (i + 1), by omega, i + 1, by omega, rfl, by omega, rfl, rfl, rfl, rfl, trivial⟩

set_option maxHeartbeats 16000000 in
set_option maxRecDepth 20000 in
theorem law_relaxes {lim : Nat} {l : List Dr} {ms : List Int} {L M : Option Addr} {CL CM : Nat} {hp : Hp} {nx : Nat} (hheads : ∀ hp nx, ∃ nx', CallR Tryz.prog 12 [] hp nx (.ret (.bool true)) hp nx')
    (hl : Row hp lim L l.length 9 (flat l)) (hm : Row hp lim M ms.length 1 (ints ms)) (hM : ms.length ≤ 9223372036854775807) (hfit : ∀ x ∈ l, x.ins.fit) (h4 : lim ≤ nx) :
    CallE Tryz.prog 6 [.slice L l.length CL, .slice M ms.length CM] hp nx fun e _ _ => e = .ret (.bool true) := by
  by_cases hn : 6000 < l.length
  · refine CallE.of_code hE Tryz.func6 rfl rfl ?_
    repeat (first | refine SeqE.nil ?_ | refine CodeE.seq ?_ | refine CodeE.region ?_ | refine CodeE.condT (by rfl) ?_ | refine SeqE.step hE (StepO.move (by rfl)) (by rfl) (by rfl) ?_ | refine SeqE.step hE (StepO.assign (by rfl)) (by rfl) (by rfl) ?_ | refine SeqE.step hE (StepO.pickT (by rfl) (by rfl)) (by rfl) (by rfl) ?_ | refine SeqE.step hE (StepO.lenSlice (by rfl) (Tab.slcAt tabOk (by rfl))) (by rfl) (by rfl) ?_ | refine SeqE.step hE (StepO.binOp (by rfl) (by rfl) (gtrT (by omega))) (by rfl) (by rfl) ?_ | refine SeqE.leave (by rfl) (by rfl) ?_)
    refine SeqE.callX hE (opA_call rfl fn12 rfl) (hheads _ _) rfl rfl fun nx1 hg1 => ?_
    repeat (first | refine SeqE.nil ?_ | refine CodeE.ret ?_ | refine SeqE.step hE (StepO.assign (by rfl)) (by rfl) (by rfl) ?_)
    exact ⟨_, rfl, rfl⟩
  by_cases hn2 : 1000 < ms.length
  · refine CallE.of_code hE Tryz.func6 rfl rfl ?_
    repeat (first | refine SeqE.nil ?_ | refine CodeE.seq ?_ | refine CodeE.region ?_ | refine CodeE.condT (by rfl) ?_ | refine SeqE.step hE (StepO.move (by rfl)) (by rfl) (by rfl) ?_ | refine SeqE.step hE (StepO.assign (by rfl)) (by rfl) (by rfl) ?_ | refine SeqE.step hE (StepO.pickF (by rfl) (by rfl)) (by rfl) (by rfl) ?_ | refine SeqE.step hE (StepO.lenSlice (by rfl) (Tab.slcAt tabOk (by rfl))) (by rfl) (by rfl) ?_ | refine SeqE.step hE (StepO.binOp (by rfl) (by rfl) (gtrT (by omega))) (by rfl) (by rfl) ?_ | refine SeqE.step hE (StepO.binOp (by rfl) (by rfl) (gtrF (by omega))) (by rfl) (by rfl) ?_)
    refine SeqE.callX hE (opA_call rfl fn12 rfl) (hheads _ _) rfl rfl fun nx1 hg1 => ?_
    repeat (first | refine SeqE.nil ?_ | refine CodeE.ret ?_ | refine SeqE.step hE (StepO.assign (by rfl)) (by rfl) (by rfl) ?_)
    exact ⟨_, rfl, rfl⟩
  rcases Bool.eq_false_or_eq_true (mayB l ms) with hmay | hmay
  case inr =>
    refine CallE.of_code hE Tryz.func6 rfl rfl ?_
    repeat (first | refine SeqE.nil ?_ | refine CodeE.seq ?_ | refine CodeE.region ?_ | refine CodeE.condF (by rfl) ?_ | refine CodeE.skip ?_ | refine SeqE.step hE (StepO.move (by rfl)) (by rfl) (by rfl) ?_ | refine SeqE.step hE (StepO.assign (by rfl)) (by rfl) (by rfl) ?_ | refine SeqE.step hE (StepO.pickF (by rfl) (by rfl)) (by rfl) (by rfl) ?_ | refine SeqE.step hE (StepO.lenSlice (by rfl) (Tab.slcAt tabOk (by rfl))) (by rfl) (by rfl) ?_ | refine SeqE.step hE (StepO.binOp (by rfl) (by rfl) (gtrF (by omega))) (by rfl) (by rfl) ?_)
    refine SeqE.callX hE (opA_call rfl fn13 rfl) (relax_no hl hm (by omega) hM hfit h4 hmay) rfl rfl fun nx1 hg1 => ?_
    repeat (first | refine SeqE.nil ?_ | refine CodeE.seq ?_ | refine CodeE.region ?_ | refine SeqE.step hE (StepO.move (by rfl)) (by rfl) (by rfl) ?_ | refine SeqE.step hE (StepO.assign (by rfl)) (by rfl) (by rfl) ?_ | refine SeqE.step hE (StepO.extract (by rfl) (by rfl)) (by rfl) (by rfl) ?_)
    refine SeqE.callX hE (opA_call rfl fn17 rfl) (relax2_no hl hm (by omega) hM hfit (by omega) hmay) rfl rfl fun nx2 hg2 => ?_
    repeat (first | refine SeqE.nil ?_ | refine CodeE.seq ?_ | refine CodeE.region ?_ | refine SeqE.step hE (StepO.move (by rfl)) (by rfl) (by rfl) ?_ | refine SeqE.step hE (StepO.assign (by rfl)) (by rfl) (by rfl) ?_ | refine SeqE.step hE (StepO.extract (by rfl) (by rfl)) (by rfl) (by rfl) ?_)
    refine SeqE.callX hE (opA_call rfl fn14 rfl) (same_ok (o := []) (by simp) (fun h => absurd h (by simp)) (fun h => absurd h (by simp))) rfl rfl fun nx3 hg3 => ?_
    repeat (first | refine SeqE.step hE (StepO.move (by rfl)) (by rfl) (by rfl) ?_ | refine SeqE.step hE (StepO.pickT (by rfl) (by rfl)) (by rfl) (by rfl) ?_ | refine SeqE.step hE (StepO.binOp (by rfl) (by rfl) (eqlT (by omega))) (by rfl) (by rfl) ?_)
    refine SeqE.callX hE (opA_call rfl fn12 rfl) (hheads _ _) rfl rfl fun nx4 hg4 => ?_
    repeat (first | refine SeqE.nil ?_ | refine CodeE.ret ?_ | refine SeqE.step hE (StepO.assign (by rfl)) (by rfl) (by rfl) ?_ | refine SeqE.step hE (StepO.pickT (by rfl) (by rfl)) (by rfl) (by rfl) ?_)
    exact ⟨_, rfl, rfl⟩
  obtain ⟨e, h', n', hc, r, hr, hG, hfr, hQ⟩ := relax_yes (CL := CL) (CM := CM) hl hm (by omega) hM hfit h4 hmay
  have hge := hc.1
  obtain ⟨e2, h2, n2, hc2, r2, hr2, hG2, hfr2, hQ2⟩ := relax2_yes (CL := CL) (CM := CM) (hl.keep fun k hk => hfr k (by omega)) (hm.keep fun k hk => hfr k (by omega)) (by omega) hM hfit (Nat.le_trans h4 hge) hmay
  obtain rfl := hG.one hG2
  have hge2 := hc2.1
  have hol := outAll_len (l := l) (ms := ms) (r := r) (Nat.le_refl l.length)
  generalize outAll l ms r l.length = o at hQ hQ2 hol
  rcases hQ with ⟨hck, A, rfl, hA⟩ | ⟨hck, rfl⟩
  · rcases hQ2 with ⟨_, B, rfl, hB⟩ | ⟨hck2, _⟩
    case inr => rw [hck] at hck2; cases hck2
    refine CallE.of_code hE Tryz.func6 rfl rfl ?_
    repeat (first | refine SeqE.nil ?_ | refine CodeE.seq ?_ | refine CodeE.region ?_ | refine CodeE.condF (by rfl) ?_ | refine CodeE.skip ?_ | refine SeqE.step hE (StepO.move (by rfl)) (by rfl) (by rfl) ?_ | refine SeqE.step hE (StepO.assign (by rfl)) (by rfl) (by rfl) ?_ | refine SeqE.step hE (StepO.pickF (by rfl) (by rfl)) (by rfl) (by rfl) ?_ | refine SeqE.step hE (StepO.lenSlice (by rfl) (Tab.slcAt tabOk (by rfl))) (by rfl) (by rfl) ?_ | refine SeqE.step hE (StepO.binOp (by rfl) (by rfl) (gtrF (by omega))) (by rfl) (by rfl) ?_)
    refine SeqE.call hE (opA_call rfl fn13 rfl) hc rfl rfl ?_
    repeat (first | refine SeqE.nil ?_ | refine CodeE.seq ?_ | refine CodeE.region ?_ | refine SeqE.step hE (StepO.move (by rfl)) (by rfl) (by rfl) ?_ | refine SeqE.step hE (StepO.assign (by rfl)) (by rfl) (by rfl) ?_ | refine SeqE.step hE (StepO.extract (by rfl) (by rfl)) (by rfl) (by rfl) ?_)
    refine SeqE.call hE (opA_call rfl fn17 rfl) hc2 rfl rfl ?_
    repeat (first | refine SeqE.nil ?_ | refine CodeE.seq ?_ | refine CodeE.region ?_ | refine SeqE.step hE (StepO.move (by rfl)) (by rfl) (by rfl) ?_ | refine SeqE.step hE (StepO.assign (by rfl)) (by rfl) (by rfl) ?_ | refine SeqE.step hE (StepO.extract (by rfl) (by rfl)) (by rfl) (by rfl) ?_)
    refine SeqE.callX hE (opA_call rfl fn14 rfl) (same_ok (o := o) (by omega) (fun h => ?_) (fun h => ?_)) rfl rfl fun nx3 hg3 => ?_
    · obtain ⟨b, q1, q2, q3, q4⟩ := hA h; exact ⟨b, _, _, q1, (hfr2 b q3).trans q4⟩
    · obtain ⟨b, q1, q2, q3, q4⟩ := hB h; exact ⟨b, _, _, q1, q4⟩
    repeat (first | refine SeqE.step hE (StepO.move (by rfl)) (by rfl) (by rfl) ?_ | refine SeqE.step hE (StepO.pickT (by rfl) (by rfl)) (by rfl) (by rfl) ?_ | refine SeqE.step hE (StepO.binOp (by rfl) (by rfl) (eqlT (by omega))) (by rfl) (by rfl) ?_)
    refine SeqE.callX hE (opA_call rfl fn12 rfl) (hheads _ _) rfl rfl fun nx4 hg4 => ?_
    repeat (first | refine SeqE.nil ?_ | refine CodeE.ret ?_ | refine SeqE.step hE (StepO.assign (by rfl)) (by rfl) (by rfl) ?_ | refine SeqE.step hE (StepO.pickT (by rfl) (by rfl)) (by rfl) (by rfl) ?_)
    exact ⟨_, rfl, rfl⟩
  · rcases hQ2 with ⟨hck2, _⟩ | ⟨_, rfl⟩
    · rw [hck] at hck2; cases hck2
    refine CallE.of_code hE Tryz.func6 rfl rfl ?_
    repeat (first | refine SeqE.nil ?_ | refine CodeE.seq ?_ | refine CodeE.region ?_ | refine CodeE.condF (by rfl) ?_ | refine CodeE.skip ?_ | refine SeqE.step hE (StepO.move (by rfl)) (by rfl) (by rfl) ?_ | refine SeqE.step hE (StepO.assign (by rfl)) (by rfl) (by rfl) ?_ | refine SeqE.step hE (StepO.pickF (by rfl) (by rfl)) (by rfl) (by rfl) ?_ | refine SeqE.step hE (StepO.lenSlice (by rfl) (Tab.slcAt tabOk (by rfl))) (by rfl) (by rfl) ?_ | refine SeqE.step hE (StepO.binOp (by rfl) (by rfl) (gtrF (by omega))) (by rfl) (by rfl) ?_)
    refine SeqE.call hE (opA_call rfl fn13 rfl) hc rfl rfl ?_
    repeat (first | refine SeqE.nil ?_ | refine CodeE.seq ?_ | refine CodeE.region ?_ | refine SeqE.step hE (StepO.move (by rfl)) (by rfl) (by rfl) ?_ | refine SeqE.step hE (StepO.assign (by rfl)) (by rfl) (by rfl) ?_ | refine SeqE.step hE (StepO.extract (by rfl) (by rfl)) (by rfl) (by rfl) ?_)
    refine SeqE.call hE (opA_call rfl fn17 rfl) hc2 rfl rfl ?_
    repeat (first | refine SeqE.nil ?_ | refine CodeE.seq ?_ | refine CodeE.region ?_ | refine SeqE.step hE (StepO.move (by rfl)) (by rfl) (by rfl) ?_ | refine SeqE.step hE (StepO.assign (by rfl)) (by rfl) (by rfl) ?_ | refine SeqE.step hE (StepO.extract (by rfl) (by rfl)) (by rfl) (by rfl) ?_)
    refine SeqE.callX hE (opA_call rfl fn14 rfl) (same_ok (o := []) (by simp) (fun h => absurd h (by simp)) (fun h => absurd h (by simp))) rfl rfl fun nx3 hg3 => ?_
    repeat (first | refine SeqE.step hE (StepO.move (by rfl)) (by rfl) (by rfl) ?_ | refine SeqE.step hE (StepO.pickT (by rfl) (by rfl)) (by rfl) (by rfl) ?_ | refine SeqE.step hE (StepO.binOp (by rfl) (by rfl) (eqlT (by omega))) (by rfl) (by rfl) ?_)
    refine SeqE.callX hE (opA_call rfl fn12 rfl) (hheads _ _) rfl rfl fun nx4 hg4 => ?_
    repeat (first | refine SeqE.nil ?_ | refine CodeE.ret ?_ | refine SeqE.step hE (StepO.assign (by rfl)) (by rfl) (by rfl) ?_ | refine SeqE.step hE (StepO.pickT (by rfl) (by rfl)) (by rfl) (by rfl) ?_)
    exact ⟨_, rfl, rfl⟩
end Go.Pick
