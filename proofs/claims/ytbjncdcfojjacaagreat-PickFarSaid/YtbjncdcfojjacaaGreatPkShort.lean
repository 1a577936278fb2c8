/-
  What is proved: law 4 over a plain heap. Conditions: none.
-/
import Derived.Test.YtbjncdcfojjacaaGreatPkRelax
set_option linter.unusedVariables false
set_option linter.unusedSimpArgs false
set_option linter.unusedSectionVars false
namespace Go.Pick
open Go Go.RowKit Go.Sx Go.Sy Go.Proofs
theorem eq37 (a b c d e : Int) (w : Bool) (p i a' b' c' d' e' : Int) (w' : Bool) (p' i' : Int) :
    eqAt env Tryz.prog 100 37 (.agg ⟨[.int .i64 a, .int .i64 b, .int .i64 c, .int .i64 d, .int .i64 e, .bool w, .int .i64 p, .int .i64 i]⟩) (.agg ⟨[.int .i64 a', .int .i64 b', .int .i64 c', .int .i64 d', .int .i64 e', .bool w', .int .i64 p', .int .i64 i']⟩) =
    (if (a == a') = true then if (b == b') = true then if (c == c') = true then if (d == d') = true then if (e == e') = true then if (w == w') = true then if (p == p') = true then if (i == i') = true then some true
      else some false else some false else some false else some false else some false else some false else some false else some false) := by kernel_rfl
theorem guard37 : Tryz.prog.eqGuardType Tryz.prog.depth 37 = false := by kernel_rfl
theorem ins_neq (x z : Ins) (cx cy : Bool) : ∃ q : Bool, aBin env Tryz.prog .neq 37 cx cy (.agg ⟨x.vals⟩) (.agg ⟨z.vals⟩) = some (.bool q) ∧ (q = false ↔ x = z) := by
  obtain ⟨a, b, c, d, e, w, p, i⟩ := x
  obtain ⟨a', b', c', d', e', w', p', i'⟩ := z
  have h : aBin env Tryz.prog .neq 37 cx cy (.agg ⟨(Ins.mk a b c d e w p i).vals⟩) (.agg ⟨(Ins.mk a' b' c' d' e' w' p' i').vals⟩) = (eqAt env Tryz.prog 100 37 (.agg ⟨(Ins.mk a b c d e w p i).vals⟩) (.agg ⟨(Ins.mk a' b' c' d' e' w' p' i').vals⟩)).bind fun b => some (.bool (!b)) := by
    simp only [aBin, isSym, Bool.or_self, aBin0, guard37, Bool.false_eq_true, if_false]
  rw [h]
  unfold Ins.vals
  rw [eq37]
  simp only [Ins.mk.injEq, beq_iff_eq]
  refine ⟨!(decide (a = a' ∧ b = b' ∧ c = c' ∧ d = d' ∧ e = e' ∧ w = w' ∧ p = p' ∧ i = i')), ?_, by simp⟩
  by_cases h1 : a = a' <;> by_cases h2 : b = b' <;> by_cases h3 : c = c' <;> by_cases h4 : d = d' <;> simp [h1, h2, h3, h4]
  by_cases h5 : e = e' <;> by_cases h6 : w = w' <;> by_cases h7 : p = p' <;> by_cases h8 : i = i' <;> simp [h5, h6, h7, h8]
theorem ins_neq_same (x : Ins) (cx cy : Bool) : aBin env Tryz.prog .neq 37 cx cy (.agg ⟨x.vals⟩) (.agg ⟨x.vals⟩) = some (.bool false) := by
  obtain ⟨q, h1, h2⟩ := ins_neq x x cx cy
  rw [h1, h2.2 rfl]
theorem ins_neq_diff {x z : Ins} (h : x ≠ z) (cx cy : Bool) : aBin env Tryz.prog .neq 37 cx cy (.agg ⟨x.vals⟩) (.agg ⟨z.vals⟩) = some (.bool true) := by
  obtain ⟨q, h1, h2⟩ := ins_neq x z cx cy
  rw [h1]
  cases q with
  | true => rfl
  | false => exact absurd (h2.1 rfl) h
end Go.Pick
namespace Go.Pick
open Go Go.RowKit Go.Sx Go.Sy Go.Proofs

theorem pos_ones {n k : Nat} (h : k ≤ n) : pos (List.replicate n 1) k = k := by
  unfold pos
  rw [List.take_replicate, Nat.min_eq_left h]
  induction k with
  | zero => rfl
  | succ k ih => rw [List.replicate_succ, List.sum_cons, ih (by omega)]; omega
theorem way_short {l : List Dr} {ms : List Int} (hms : ∀ k ∈ ms, 0 ≤ k ∧ k ≤ l.length) {i : Nat} (hi : i < l.length) (h1 : 0 < l[i].mark) (h2 : l[i].mark ≤ ms.length) :
    ∃ (m : Nat) (hm : m < ms.length), l[i].mark - 1 = m ∧ 0 ≤ ms[m] ∧ ms[m] ≤ l.length ∧ wayOf l ms (List.replicate l.length 1) i = ms[m] - i := by
  obtain ⟨m, em⟩ : ∃ m : Nat, l[i].mark - 1 = m := ⟨(l[i].mark - 1).toNat, by omega⟩
  have hm : m < ms.length := by omega
  have hk := hms _ (List.getElem_mem hm)
  obtain ⟨k, ek⟩ : ∃ k : Nat, ms[m] = k := ⟨ms[m].toNat, by omega⟩
  refine ⟨m, hm, em, hk.1, hk.2, ?_⟩
  rw [way_eq hi hm em ek, pos_ones (by omega), pos_ones (by omega), ek]
theorem short_stop {l : List Dr} {ms : List Int} (hn : l.length ≤ 1000) (hmk : ∀ x ∈ l, 0 ≤ x.mark ∧ x.mark ≤ ms.length) (hms : ∀ k ∈ ms, 0 ≤ k ∧ k ≤ l.length) : anyNew l ms (List.replicate l.length false) l.length = false := by
  unfold anyNew
  rw [List.any_eq_false]
  intro i hi
  have hi := List.mem_range.1 hi
  have hf : farB l ms (zsOf l (List.replicate l.length false)) i = false := by
    rw [farB_eq hi, zsOf_short]
    by_cases h0 : l[i].mark = 0
    · simp [h0]
    · have hm := hmk _ (List.getElem_mem hi)
      obtain ⟨m, hml, _, h1, h2, h3⟩ := way_short hms hi (by omega) hm.2
      rw [h3]
      have : ¬ (ms[m] - (i : Int) - 1 < -1024 ∨ 1024 ≤ ms[m] - (i : Int) - 1) := by omega
      simp only [this, and_false, decide_false]
  rw [hf]; simp
def shortIns (l : List Dr) (ms : List Int) (i : Nat) : Ins :=
  match l[i]? with
  | some x => if x.mark ≤ 0 then x.ins else { x.ins with imm := ms.getD (x.mark - 1).toNat 0 - i - 1 }
  | none => jmp 0
theorem short_out {l : List Dr} {ms : List Int} (hmk : ∀ x ∈ l, 0 ≤ x.mark ∧ x.mark ≤ ms.length) (hms : ∀ k ∈ ms, 0 ≤ k ∧ k ≤ l.length) : ∀ k, k ≤ l.length → outAll l ms (List.replicate l.length false) k = (List.range k).map (shortIns l ms) := by
  intro k
  induction k with
  | zero => intro _; rfl
  | succ k ih =>
    intro hk
    rw [outAll_succ (by omega) (by simp; omega), ih (by omega), List.range_succ, List.map_append]
    congr 1
    have hkl : k < l.length := by omega
    have hm := hmk _ (List.getElem_mem hkl)
    simp only [List.map_cons, List.map_nil, shortIns, List.getElem?_eq_getElem hkl, List.getElem_replicate, outF, zsOf_short]
    by_cases h0 : l[k].mark = 0
    · rw [if_pos h0, if_pos (by omega)]
    · obtain ⟨m, hml, em, _, _, h3⟩ := way_short hms hkl (by omega) hm.2
      rw [if_neg h0, if_pos trivial, if_neg (by omega), h3, em]
      simp [List.getD, hml]

set_option maxHeartbeats 16000000 in
set_option maxRecDepth 20000 in
theorem law_short {lim : Nat} {l : List Dr} {ms : List Int} {L M : Option Addr} {CL CM : Nat} {hp : Hp} {nx : Nat} (hheads : ∀ hp nx, ∃ nx', CallR Tryz.prog 12 [] hp nx (.ret (.bool true)) hp nx')
    (hl : Row hp lim L l.length 9 (flat l)) (hm : Row hp lim M ms.length 1 (ints ms)) (hM : ms.length ≤ 9223372036854775807) (hfit : ∀ x ∈ l, x.ins.fit) (h4 : lim ≤ nx) :
    CallE Tryz.prog 4 [.slice L l.length CL, .slice M ms.length CM] hp nx fun e _ _ => e = .ret (.bool true) := by
  by_cases hn : 1000 < l.length
  · refine CallE.of_code hE Tryz.func4 rfl rfl ?_
    repeat (first | refine SeqE.nil ?_ | refine CodeE.seq ?_ | refine CodeE.region ?_ | refine CodeE.condT (by rfl) ?_ | refine SeqE.step hE (StepO.move (by rfl)) (by rfl) (by rfl) ?_ | refine SeqE.step hE (StepO.assign (by rfl)) (by rfl) (by rfl) ?_ | refine SeqE.step hE (StepO.lenSlice (by rfl) (Tab.slcAt tabOk (by rfl))) (by rfl) (by rfl) ?_ | refine SeqE.step hE (StepO.binOp (by rfl) (by rfl) (gtrT (by omega))) (by rfl) (by rfl) ?_)
    refine SeqE.callX hE (opA_call rfl fn12 rfl) (hheads _ _) rfl rfl fun nx1 hg1 => ?_
    repeat (first | refine SeqE.nil ?_ | refine CodeE.ret ?_ | refine SeqE.step hE (StepO.assign (by rfl)) (by rfl) (by rfl) ?_)
    exact ⟨_, rfl, rfl⟩
  rcases Bool.eq_false_or_eq_true (mayB l ms) with hmay | hmay
  case inr =>
    refine CallE.of_code hE Tryz.func4 rfl rfl ?_
    repeat (first | refine SeqE.nil ?_ | refine CodeE.seq ?_ | refine CodeE.region ?_ | refine CodeE.condF (by rfl) ?_ | refine CodeE.skip ?_ | refine SeqE.step hE (StepO.move (by rfl)) (by rfl) (by rfl) ?_ | refine SeqE.step hE (StepO.assign (by rfl)) (by rfl) (by rfl) ?_ | refine SeqE.step hE (StepO.lenSlice (by rfl) (Tab.slcAt tabOk (by rfl))) (by rfl) (by rfl) ?_ | refine SeqE.step hE (StepO.binOp (by rfl) (by rfl) (gtrF (by omega))) (by rfl) (by rfl) ?_)
    refine SeqE.callX hE (opA_call rfl fn13 rfl) (relax_no hl hm (by omega) hM hfit h4 hmay) rfl rfl fun nx1 hg1 => ?_
    repeat (first | refine SeqE.nil ?_ | refine CodeE.seq ?_ | refine CodeE.region ?_ | refine CodeE.condT (by rfl) ?_ | refine SeqE.step hE (StepO.move (by rfl)) (by rfl) (by rfl) ?_ | refine SeqE.step hE (StepO.assign (by rfl)) (by rfl) (by rfl) ?_ | refine SeqE.step hE (StepO.lenSlice (by rfl) (Tab.slcAt tabOk (by rfl))) (by rfl) (by rfl) ?_ | refine SeqE.step hE (StepO.binOp (by rfl) (by rfl) (eqlT (by omega))) (by rfl) (by rfl) ?_ | refine SeqE.step hE (StepO.binOp (by rfl) (by rfl) (neqT (by omega))) (by rfl) (by rfl) ?_ | refine SeqE.step hE (StepO.extract (by rfl) (by rfl)) (by rfl) (by rfl) ?_)
    refine SeqE.callX hE (opA_call rfl fn12 rfl) (hheads _ _) rfl rfl fun nx2 hg2 => ?_
    repeat (first | refine SeqE.nil ?_ | refine CodeE.ret ?_ | refine SeqE.step hE (StepO.assign (by rfl)) (by rfl) (by rfl) ?_ | refine SeqE.step hE (StepO.pickT (by rfl) (by rfl)) (by rfl) (by rfl) ?_)
    exact ⟨_, rfl, rfl⟩
  obtain ⟨hmk, hms⟩ := may_says hmay
  obtain ⟨e, h', n', hc, r, hr, hG, hfr, hQ⟩ := relax_yes (CL := CL) (CM := CM) hl hm (by omega) hM hfit h4 hmay
  obtain rfl : r = List.replicate l.length false := hG.one (.stop (short_stop (by omega) hmk hms))
  rw [short_out hmk hms _ (Nat.le_refl _)] at hQ
  have hlen : ((List.range l.length).map (shortIns l ms)).length = l.length := by simp
  have hge := hc.1
  rcases hQ with ⟨hck, A, rfl, hA⟩ | ⟨hck, rfl⟩
  case inr =>
    refine CallE.of_code hE Tryz.func4 rfl rfl ?_
    repeat (first | refine SeqE.nil ?_ | refine CodeE.seq ?_ | refine CodeE.region ?_ | refine CodeE.condF (by rfl) ?_ | refine CodeE.skip ?_ | refine SeqE.step hE (StepO.move (by rfl)) (by rfl) (by rfl) ?_ | refine SeqE.step hE (StepO.assign (by rfl)) (by rfl) (by rfl) ?_ | refine SeqE.step hE (StepO.lenSlice (by rfl) (Tab.slcAt tabOk (by rfl))) (by rfl) (by rfl) ?_ | refine SeqE.step hE (StepO.binOp (by rfl) (by rfl) (gtrF (by omega))) (by rfl) (by rfl) ?_)
    refine SeqE.call hE (opA_call rfl fn13 rfl) hc rfl rfl ?_
    repeat (first | refine SeqE.nil ?_ | refine CodeE.seq ?_ | refine CodeE.region ?_ | refine CodeE.condT (by rfl) ?_ | refine SeqE.step hE (StepO.move (by rfl)) (by rfl) (by rfl) ?_ | refine SeqE.step hE (StepO.assign (by rfl)) (by rfl) (by rfl) ?_ | refine SeqE.step hE (StepO.lenSlice (by rfl) (Tab.slcAt tabOk (by rfl))) (by rfl) (by rfl) ?_ | refine SeqE.step hE (StepO.binOp (by rfl) (by rfl) (eqlT (by omega))) (by rfl) (by rfl) ?_ | refine SeqE.step hE (StepO.binOp (by rfl) (by rfl) (neqT (by omega))) (by rfl) (by rfl) ?_ | refine SeqE.step hE (StepO.extract (by rfl) (by rfl)) (by rfl) (by rfl) ?_)
    refine SeqE.callX hE (opA_call rfl fn12 rfl) (hheads _ _) rfl rfl fun nx2 hg2 => ?_
    repeat (first | refine SeqE.nil ?_ | refine CodeE.ret ?_ | refine SeqE.step hE (StepO.assign (by rfl)) (by rfl) (by rfl) ?_ | refine SeqE.step hE (StepO.pickT (by rfl) (by rfl)) (by rfl) (by rfl) ?_)
    exact ⟨_, rfl, rfl⟩
  rw [hlen] at hA hc
  refine CallE.of_code hE Tryz.func4 rfl rfl ?_
  repeat (first | refine SeqE.nil ?_ | refine CodeE.seq ?_ | refine CodeE.region ?_ | refine CodeE.condF (by rfl) ?_ | refine CodeE.skip ?_ | refine SeqE.step hE (StepO.move (by rfl)) (by rfl) (by rfl) ?_ | refine SeqE.step hE (StepO.assign (by rfl)) (by rfl) (by rfl) ?_ | refine SeqE.step hE (StepO.lenSlice (by rfl) (Tab.slcAt tabOk (by rfl))) (by rfl) (by rfl) ?_ | refine SeqE.step hE (StepO.binOp (by rfl) (by rfl) (gtrF (by omega))) (by rfl) (by rfl) ?_)
  refine SeqE.call hE (opA_call rfl fn13 rfl) hc rfl rfl ?_
  repeat (first | refine SeqE.nil ?_ | refine CodeE.seq ?_ | refine CodeE.region ?_ | refine CodeE.block ?_ | refine CodeE.condF (by rfl) ?_ | refine CodeE.skip ?_ | refine SeqE.step hE (StepO.move (by rfl)) (by rfl) (by rfl) ?_ | refine SeqE.step hE (StepO.assign (by rfl)) (by rfl) (by rfl) ?_ | refine SeqE.step hE (StepO.lenSlice (by rfl) (Tab.slcAt tabOk (by rfl))) (by rfl) (by rfl) ?_ | refine SeqE.step hE (StepO.binOp (by rfl) (by rfl) (neqF (by omega))) (by rfl) (by rfl) ?_ | refine SeqE.step hE (StepO.extract (by rfl) (by rfl)) (by rfl) (by rfl) ?_)
  refine CodeE.loop (fun m tm h x => ∃ i, i ≤ l.length ∧ m = l.length - i ∧ n' ≤ x ∧ (∀ k, k < n' → h k = h' k) ∧
    ExtL [(0, .slice L l.length CL), (1, .slice M ms.length CM), (5, .slice A l.length 0), (7, .int .i64 i)] tm) ?_ l.length _ _ _
    ⟨0, by omega, by omega, Nat.le_refl _, fun k hk => rfl, rfl, rfl, rfl, rfl, trivial⟩
  rintro m tm h x ⟨i, hi, rfl, hnx, hfr2, ht⟩
  refine CodeE.less ht ?_
  clear ht tm
  by_cases hlt : i < l.length
  case neg =>
    obtain rfl : i = l.length := by omega
    repeat (first | refine SeqE.nil ?_ | refine CodeE.seq ?_ | refine CodeE.region ?_ | refine CodeE.condF (by rfl) ?_ | refine CodeE.exit ?_ | refine SeqE.step hE (StepO.move (by rfl)) (by rfl) (by rfl) ?_ | refine SeqE.step hE (StepO.lenSlice (by rfl) (Tab.slcAt tabOk (by rfl))) (by rfl) (by rfl) ?_ | refine SeqE.step hE (StepO.binOp (by rfl) (by rfl) (lssF (by omega))) (by rfl) (by rfl) ?_)
    refine SeqE.callX hE (opA_call rfl fn12 rfl) (hheads _ _) rfl rfl fun nx2 hg2 => ?_
    repeat (first | refine SeqE.nil ?_ | refine CodeE.ret ?_ | refine SeqE.step hE (StepO.assign (by rfl)) (by rfl) (by rfl) ?_)
    exact ⟨_, rfl, rfl⟩
  obtain ⟨bl, el, ol, rfl, hbl, hcl⟩ := hl.2 (by omega)
  have hcl' : h bl = some (.cells (flat l) el ol) := ((hfr2 bl (by omega)).trans (hfr bl (by omega))).trans hcl
  obtain ⟨b, rfl, hb1, hb2, hb3⟩ := hA (by omega)
  have hb4 := (hfr2 b hb2).trans hb3
  have hmki := hmk _ (List.getElem_mem hlt)
  repeat (first | refine SeqE.nil ?_ | refine CodeE.seq ?_ | refine CodeE.region ?_ | refine CodeE.block ?_ | refine CodeE.condT (by rfl) ?_ | refine CodeE.skip ?_ | refine SeqE.step hE (StepO.move (by rfl)) (by rfl) (by rfl) ?_ | refine SeqE.step hE (StepO.fieldAddr (by rfl) (Tab.fldAt tabOk (by rfl) (by rfl))) (by rfl) (by rfl) ?_ | refine SeqE.step hE (StepO.indexAddr (by rfl) (by rfl) (Tab.slcAt tabOk (by rfl)) (by omega)) (by rfl) (by rfl) ?_ | refine SeqE.step hE (StepO.lenSlice (by rfl) (Tab.slcAt tabOk (by rfl))) (by rfl) (by rfl) ?_ | refine SeqE.step hE (StepO.binOp (by rfl) (by rfl) (lssT (by omega))) (by rfl) (by rfl) ?_)
  refine SeqE.step hE (StepO.loadA rfl (Tab.aggAt tabOk rfl) (Tab.sizeAt tabOk rfl) (flat_ins hcl' hlt (by first | omega | (dsimp only; omega) | (simp only [] at *; omega)))) rfl rfl ?_
  repeat (first | refine SeqE.nil ?_ | refine CodeE.seq ?_ | refine CodeE.region ?_ | refine SeqE.step hE (StepO.move (by rfl)) (by rfl) (by rfl) ?_ | refine SeqE.step hE (StepO.fieldAddr (by rfl) (Tab.fldAt tabOk (by rfl) (by rfl))) (by rfl) (by rfl) ?_ | refine SeqE.step hE (StepO.storeAll (by rfl) (by rfl) (Tab.sizeAt tabOk (by rfl)) (by (try dsimp only); (repeat rw [over_other _ _ (by omega)]); first | assumption | exact over_same _ _ _) (by rfl) (by rfl)) (by rfl) (by rfl) ?_ | refine SeqE.step hE (StepO.make (by first | exact el3 | exact el4 | exact el33 | exact el35 | exact el37 | exact el50 | exact el51 | exact el56 | exact el87 | exact el89 | exact el95)) (by rfl) (by rfl) ?_ | refine SeqE.step hE (StepO.indexAddr (by rfl) (by rfl) (Tab.slcAt tabOk (by rfl)) (by omega)) (by rfl) (by rfl) ?_)
  refine SeqE.step hE (StepO.load1 rfl (Tab.aggAt tabOk rfl) (by (try dsimp only); (repeat rw [over_other _ _ (by omega)]); first | assumption | exact over_same _ _ _) (flat_mark hlt (by first | omega | (dsimp only; omega) | (simp only [] at *; omega)))) rfl rfl ?_
  have hgi : ((List.range l.length).map (shortIns l ms))[i]'(by rw [hlen]; exact hlt) = shortIns l ms i := by simp
  by_cases h0 : l[i].mark = 0
  · have hsh : shortIns l ms i = l[i].ins := by simp [shortIns, hlt, h0]
    repeat (first | refine SeqE.nil ?_ | refine CodeE.seq ?_ | refine CodeE.draw (slsOf tabs) [] (Tab.slOk tabOk) hE (by kernel_rfl) ?_ | refine CodeE.condF (by rfl) ?_ | refine CodeE.skip ?_ | refine SeqD.step (StepO.move (by rfl)) (by rfl) (by rfl) ?_ | refine SeqD.step (StepO.indexAddr (by rfl) (by rfl) (Tab.slcAt tabOk (by rfl)) (by omega)) (by rfl) (by rfl) ?_ | refine SeqE.step hE (StepO.binOp (by rfl) (by rfl) (gtrF (by omega))) (by rfl) (by rfl) ?_)
    refine SeqD.step (StepO.loadA rfl (Tab.aggAt tabOk rfl) (Tab.sizeAt tabOk rfl) (ins_read (i := i) (by (try dsimp only); (repeat rw [over_other _ _ (by omega)]); first | assumption | exact over_same _ _ _) (by rw [hlen]; exact hlt) (by first | omega | (dsimp only; omega) | (simp only [] at *; omega)))) rfl rfl ?_
    rw [hgi, hsh]
    repeat (first | refine SeqD.step (StepO.loadC (by rfl) (Tab.aggAt tabOk (by rfl)) (Tab.sizeAt tabOk (by rfl)) (by (try dsimp only); (repeat rw [over_other _ _ (by omega)]); first | assumption | exact over_same _ _ _) (by rfl)) (by rfl) (by rfl) ?_)
    refine SeqD.step (StepO.binOp rfl rfl (ins_neq_same l[i].ins _ _)) rfl rfl ?_
    repeat (first | refine SeqE.nil ?_ | refine SeqD.nil ?_ | refine CodeE.region ?_ | refine CodeE.condF (by rfl) ?_ | refine CodeE.skip ?_ | refine SeqE.step hE (StepO.move (by rfl)) (by rfl) (by rfl) ?_ | refine SeqE.step hE (StepO.assign (by rfl)) (by rfl) (by rfl) ?_ | refine SeqE.step hE (StepO.binOp (by rfl) (by rfl) (addI (by omega))) (by rfl) (by rfl) ?_)
    exact ⟨l.length - (i + 1), by omega, i + 1, by omega, rfl, by omega, fun k hk => by ((try dsimp only); (repeat rw [over_other _ _ (by omega)])); exact hfr2 k hk, rfl, rfl, rfl, rfl, trivial⟩
  · obtain ⟨m, hml, em, q1, q2, _⟩ := way_short hms hlt (by omega) hmki.2
    obtain ⟨bm, em', om, rfl, hbm, hcm⟩ := hm.2 (by omega)
    have hcm' : h bm = some (.cells (ints ms) em' om) := ((hfr2 bm (by omega)).trans (hfr bm (by omega))).trans hcm
    have hsh : shortIns l ms i = { l[i].ins with imm := ms[m] - i - 1 } := by
      have : ¬ l[i].mark ≤ 0 := by omega
      simp [shortIns, hlt, this, em, List.getD, hml]
    repeat (first | refine SeqE.nil ?_ | refine CodeE.region ?_ | refine CodeE.condT (by rfl) ?_ | refine SeqE.step hE (StepO.move (by rfl)) (by rfl) (by rfl) ?_ | refine SeqE.step hE (StepO.fieldAddr (by rfl) (Tab.fldAt tabOk (by rfl) (by rfl))) (by rfl) (by rfl) ?_ | refine SeqE.step hE (StepO.indexAddr (by rfl) (by rfl) (Tab.slcAt tabOk (by rfl)) (by omega)) (by rfl) (by rfl) ?_ | refine SeqE.step hE (StepO.binOp (by rfl) (by rfl) (gtrT (by omega))) (by rfl) (by rfl) ?_)
    refine SeqE.step hE (StepO.load1 rfl (Tab.aggAt tabOk rfl) (by (try dsimp only); (repeat rw [over_other _ _ (by omega)]); first | assumption | exact over_same _ _ _) (flat_mark hlt (by first | omega | (dsimp only; omega) | (simp only [] at *; omega)))) rfl rfl ?_
    repeat (first | refine SeqE.step hE (StepO.indexAddr (by rfl) (by rfl) (Tab.slcAt tabOk (by rfl)) (by omega)) (by rfl) (by rfl) ?_ | refine SeqE.step hE (StepO.binOp (by rfl) (by rfl) (subI (by omega))) (by rfl) (by rfl) ?_)
    refine SeqE.step hE (StepO.load1 rfl (Tab.aggAt tabOk rfl) (by (try dsimp only); (repeat rw [over_other _ _ (by omega)]); first | assumption | exact over_same _ _ _) (ints_at (i := m) (by first | omega | (dsimp only; omega) | (simp only [] at *; omega)) hml)) rfl rfl ?_
    repeat (first | refine SeqE.nil ?_ | refine CodeE.seq ?_ | refine CodeE.draw (slsOf tabs) [] (Tab.slOk tabOk) hE (by kernel_rfl) ?_ | refine SeqE.step hE (StepO.move (by rfl)) (by rfl) (by rfl) ?_ | refine SeqD.step (StepO.move (by rfl)) (by rfl) (by rfl) ?_ | refine SeqE.step hE (StepO.fieldAddr (by rfl) (Tab.fldAt tabOk (by rfl) (by rfl))) (by rfl) (by rfl) ?_ | refine SeqE.step hE (StepO.store1 (by rfl) (by rfl) (Tab.sizeAt tabOk (by rfl)) (by rfl) (by rfl) (by (try dsimp only); (repeat rw [over_other _ _ (by omega)]); first | assumption | exact over_same _ _ _) (Nat.le_of_ble_eq_true (by rfl))) (by rfl) (by rfl) ?_ | refine SeqD.step (StepO.indexAddr (by rfl) (by rfl) (Tab.slcAt tabOk (by rfl)) (by omega)) (by rfl) (by rfl) ?_ | refine SeqE.step hE (StepO.binOp (by rfl) (by rfl) (subI (by omega))) (by rfl) (by rfl) ?_)
    refine SeqD.step (StepO.loadA rfl (Tab.aggAt tabOk rfl) (Tab.sizeAt tabOk rfl) (ins_read (i := i) (by (try dsimp only); (repeat rw [over_other _ _ (by omega)]); first | assumption | exact over_same _ _ _) (by rw [hlen]; exact hlt) (by first | omega | (dsimp only; omega) | (simp only [] at *; omega)))) rfl rfl ?_
    rw [hgi, hsh]
    repeat (first | refine SeqD.step (StepO.loadC (by rfl) (Tab.aggAt tabOk (by rfl)) (Tab.sizeAt tabOk (by rfl)) (by (try dsimp only); (repeat rw [over_other _ _ (by omega)]); first | assumption | exact over_same _ _ _) (by rfl)) (by rfl) (by rfl) ?_)
    refine SeqD.step (StepO.binOp rfl rfl (ins_neq_same { l[i].ins with imm := ms[m] - i - 1 } _ _)) rfl rfl ?_
    repeat (first | refine SeqE.nil ?_ | refine SeqD.nil ?_ | refine CodeE.region ?_ | refine CodeE.condF (by rfl) ?_ | refine CodeE.skip ?_ | refine SeqE.step hE (StepO.move (by rfl)) (by rfl) (by rfl) ?_ | refine SeqE.step hE (StepO.assign (by rfl)) (by rfl) (by rfl) ?_ | refine SeqE.step hE (StepO.binOp (by rfl) (by rfl) (addI (by omega))) (by rfl) (by rfl) ?_)
    exact ⟨l.length - (i + 1), by omega, i + 1, by omega, rfl, by omega, fun k hk => by ((try dsimp only); (repeat rw [over_other _ _ (by omega)])); exact hfr2 k hk, rfl, rfl, rfl, rfl, trivial⟩
end Go.Pick
