/-
  What is proved: drafts and marks in memory, places, opposites, ways. Conditions: none.
-/
import Derived.Test.YtbjncdcfojjacaaGreatPkTab
import Derived.Test.YtbjncdcfojjacaaGreatPkCheck
import Derived.WalkKit
import Derived.ProofKit
import Derived.OpenShut
import Derived.Deep.Slices
import Derived.WideKeyArgs
set_option linter.unusedVariables false
set_option linter.unusedSimpArgs false
set_option linter.unusedSectionVars false
namespace Go.Pick
open Go Go.RowKit Go.Sx Go.Sy Go.Proofs

def nums (l : List Nat) : List Value := l.map fun (z : Nat) => Value.int .i64 z
theorem nums_at {l : List Nat} {i k : Nat} (hk : k = i) (h : i < l.length) : (nums l)[k]? = some (.int .i64 (l[i] : Nat)) := by subst hk; simp [nums, h]
theorem nums_get {l : List Nat} {i : Nat} (h : i < l.length) : (nums l)[i]? = some (.int .i64 (l[i] : Nat)) := by simp [nums, h]
def pos (zs : List Nat) (i : Nat) : Nat := (zs.take i).sum
/-- the places up to k are laid over what was there -/
def laid (zs : List Nat) (cs : List Value) (k : Nat) : List Value := (List.range k).map (fun i => Value.int .i64 (pos zs i : Nat)) ++ cs.drop k
theorem laid_length {zs : List Nat} {cs : List Value} {k : Nat} (h : k ≤ cs.length) : (laid zs cs k).length = cs.length := by simp [laid]; omega
theorem laid_set {zs : List Nat} {cs : List Value} {k : Nat} (h : k < cs.length) : (laid zs cs k).set k (.int .i64 (pos zs k : Nat)) = laid zs cs (k + 1) := by
  unfold laid
  rw [List.set_append_right _ _ (by simp), List.range_succ, List.map_append, List.append_assoc]
  congr 1
  simp only [List.length_map, List.length_range, Nat.sub_self, List.map_cons, List.map_nil]
  rw [List.drop_eq_getElem_cons h]
  rfl
theorem pos_succ {zs : List Nat} {i : Nat} (h : i < zs.length) : pos zs (i + 1) = pos zs i + zs[i] := by
  unfold pos
  rw [List.take_succ_eq_append_getElem h, List.sum_append]
  simp
theorem pos_le {zs : List Nat} (hb : ∀ z ∈ zs, z ≤ 3) (i : Nat) : pos zs i ≤ 3 * zs.length := by
  have : ∀ (l : List Nat), (∀ z ∈ l, z ≤ 3) → ∀ i, (l.take i).sum ≤ 3 * l.length := by
    intro l
    induction l with
    | nil => intro _ i; simp
    | cons z l ih =>
      intro h i
      cases i with
      | zero => simp
      | succ i =>
        have h1 := ih (fun x hx => h x (List.mem_cons_of_mem _ hx)) i
        have h2 := h z List.mem_cons_self
        simp only [List.take_succ_cons, List.sum_cons, List.length_cons]
        omega
  exact this zs hb i

theorem place_ok {br bs ba n C C' : Nat} {L M : Value} {zs : List Nat} {cs : List Value} {e1 e2 : TypeId} {o1 o2 : Bool} {hp : Hp} {nx : Nat}
    (h1 : hp br = some (.cells [L, M, .slice (some ⟨bs, 0, none⟩) n C, .slice (some ⟨ba, 0, none⟩) (n + 1) C'] e1 o1))
    (h2 : hp bs = some (.cells (nums zs) e2 o2)) (h3 : hp ba = some (.cells cs 3 true)) (hz : zs.length = n) (hc : cs.length = n + 1) (hn : n ≤ 100000) (hb : ∀ z ∈ zs, z ≤ 3) (hd1 : br ≠ ba) (hd2 : bs ≠ ba) :
    CallE Tryz.prog 29 [.pointer (some ⟨br, 0, none⟩)] hp nx fun e hp' _ => e = .ret (.tuple #[]) ∧ hp' = over hp ba (some (.cells (laid zs cs (n + 1)) 3 true)) := by
  refine CallE.of_code hE Tryz.func29 rfl rfl ?_
  repeat (first | refine SeqE.nil ?_ | refine CodeE.seq ?_ | refine CodeE.region ?_ | refine CodeE.block ?_ | refine SeqE.step hE (StepO.move (by rfl)) (by rfl) (by rfl) ?_ | refine SeqE.step hE (StepO.assign (by rfl)) (by rfl) (by rfl) ?_ | refine SeqE.step hE (StepO.nilCheck (by rfl)) (by rfl) (by rfl) ?_ | refine SeqE.step hE (StepO.fieldAddr (by rfl) (Tab.fldAt tabOk (by rfl) (by rfl))) (by rfl) (by rfl) ?_ | refine SeqE.step hE (StepO.load1 (by rfl) (Tab.aggAt tabOk (by rfl)) (by (try dsimp only); (repeat rw [over_other _ _ (by omega)]); first | assumption | exact over_same _ _ _) (by rfl)) (by rfl) (by rfl) ?_ | refine SeqE.step hE (StepO.lenSlice (by rfl) (Tab.slcAt tabOk (by rfl))) (by rfl) (by rfl) ?_)
  refine CodeE.loop (fun m tm h x => ∃ i, i ≤ n ∧ m = n - i ∧ x = nx ∧ h = over hp ba (some (.cells (laid zs cs i) 3 true)) ∧
    ExtL [(0, .pointer (some ⟨br, 0, none⟩)), (2, .int .i64 (pos zs i : Nat)), (8, .slice (some ⟨bs, 0, none⟩) n C), (9, .int .i64 n), (10, .int .i64 i)] tm) ?_ n _ _ _ ⟨0, by omega, by omega, rfl, ?_, rfl, rfl, rfl, rfl, rfl, trivial⟩
  · rintro m tm h x ⟨i, hi, rfl, rfl, rfl, hx⟩
    refine CodeE.less hx ?_
    clear hx tm
    have hp1 := pos_le hb i
    by_cases hlt : i < n
    · have hs := pos_succ (zs := zs) (i := i) (by omega)
      have hz3 : zs[i] ≤ 3 := hb _ (List.getElem_mem _)
      repeat (first | refine SeqE.nil ?_ | refine CodeE.seq ?_ | refine CodeE.region ?_ | refine CodeE.block ?_ | refine CodeE.condT (by rfl) ?_ | refine CodeE.skip ?_ | refine SeqE.step hE (StepO.move (by rfl)) (by rfl) (by rfl) ?_ | refine SeqE.step hE (StepO.indexAddr (by rfl) (by rfl) (Tab.slcAt tabOk (by rfl)) (by omega)) (by rfl) (by rfl) ?_ | refine SeqE.step hE (StepO.binOp (by rfl) (by rfl) (lssT (by omega))) (by rfl) (by rfl) ?_)
      refine SeqE.step hE (StepO.load1 rfl (Tab.aggAt tabOk rfl) (by (try dsimp only); (repeat rw [over_other _ _ (by omega)]); first | assumption | exact over_same _ _ _) (nums_at (i := i) (at_int i) (by omega))) rfl rfl ?_
      repeat (first | refine SeqE.nil ?_ | refine CodeE.seq ?_ | refine CodeE.region ?_ | refine SeqE.step hE (StepO.move (by rfl)) (by rfl) (by rfl) ?_ | refine SeqE.step hE (StepO.assign (by rfl)) (by rfl) (by rfl) ?_ | refine SeqE.step hE (StepO.nilCheck (by rfl)) (by rfl) (by rfl) ?_ | refine SeqE.step hE (StepO.fieldAddr (by rfl) (Tab.fldAt tabOk (by rfl) (by rfl))) (by rfl) (by rfl) ?_ | refine SeqE.step hE (StepO.load1 (by rfl) (Tab.aggAt tabOk (by rfl)) (by (try dsimp only); (repeat rw [over_other _ _ (by omega)]); first | assumption | exact over_same _ _ _) (by rfl)) (by rfl) (by rfl) ?_ | refine SeqE.step hE (StepO.indexAddr (by rfl) (by rfl) (Tab.slcAt tabOk (by rfl)) (by omega)) (by rfl) (by rfl) ?_)
      refine SeqE.step hE (StepO.store1 rfl rfl (Tab.sizeAt tabOk rfl) rfl rfl (by (try dsimp only); (repeat rw [over_other _ _ (by omega)]); first | assumption | exact over_same _ _ _) (by rw [laid_length (by omega), hc]; dsimp only; omega)) rfl rfl ?_
      repeat (first | refine SeqE.nil ?_ | refine CodeE.region ?_ | refine SeqE.step hE (StepO.move (by rfl)) (by rfl) (by rfl) ?_ | refine SeqE.step hE (StepO.assign (by rfl)) (by rfl) (by rfl) ?_ | refine SeqE.step hE (StepO.binOp (by rfl) (by rfl) (addI (by omega))) (by rfl) (by rfl) ?_)
      refine ⟨n - (i + 1), by omega, i + 1, by omega, rfl, rfl, ?_, rfl, ri ?_, rfl, rfl, ri ?_, trivial⟩
      · rw [over_over]; dsimp only; rw [at_int, laid_set (by omega)]
      · omega
      · rfl
    · have hin : i = n := by omega
      subst hin
      repeat (first | refine SeqE.nil ?_ | refine CodeE.seq ?_ | refine CodeE.region ?_ | refine CodeE.draw (slsOf tabs) [] (Tab.slOk tabOk) hE (by kernel_rfl) ?_ | refine CodeE.condF (by rfl) ?_ | refine CodeE.exit ?_ | refine SeqD.step (StepO.move (by rfl)) (by rfl) (by rfl) ?_ | refine SeqD.step (StepO.nilCheck (by rfl)) (by rfl) (by rfl) ?_ | refine SeqD.step (StepO.fieldAddr (by rfl) (Tab.fldAt tabOk (by rfl) (by rfl))) (by rfl) (by rfl) ?_ | refine SeqD.step (StepO.load1 (by rfl) (Tab.aggAt tabOk (by rfl)) (by (try dsimp only); (repeat rw [over_other _ _ (by omega)]); first | assumption | exact over_same _ _ _) (by rfl)) (by rfl) (by rfl) ?_ | refine SeqD.step (StepO.indexAddr (by rfl) (by rfl) (Tab.slcAt tabOk (by rfl)) (by omega)) (by rfl) (by rfl) ?_ | refine SeqD.step (StepO.lenSlice (by rfl) (Tab.slcAt tabOk (by rfl))) (by rfl) (by rfl) ?_ | refine SeqE.step hE (StepO.binOp (by rfl) (by rfl) (lssF (by omega))) (by rfl) (by rfl) ?_)
      refine SeqD.step (StepO.store1 rfl rfl (Tab.sizeAt tabOk rfl) rfl rfl (by (try dsimp only); (repeat rw [over_other _ _ (by omega)]); first | assumption | exact over_same _ _ _) (by rw [laid_length (by omega), hc]; dsimp only; omega)) rfl rfl ?_
      repeat (first | refine SeqD.nil ?_)
      refine ⟨_, rfl, rfl, ?_⟩
      rw [over_over]; dsimp only; rw [at_int, laid_set (by omega)]
  · rw [show laid zs cs 0 = cs by simp [laid]]; exact over_self h3
end Go.Pick
namespace Go.Pick
open Go Go.RowKit Go.Sx Go.Sy Go.Proofs

def opp (x : Int) : Int :=
  if x = 16 then 80 else if x = 80 then 16 else if x = 32 then 176 else if x = 176 then 32 else if x = 48 then 160 else if x = 160 then 48 else
  if x = 96 then 208 else if x = 208 then 96 else if x = 112 then 192 else if x = 192 then 112 else -1
theorem opp_cases (x : Int) : x = 16 ∨ x = 80 ∨ x = 32 ∨ x = 176 ∨ x = 48 ∨ x = 160 ∨ x = 96 ∨ x = 208 ∨ x = 112 ∨ x = 192 ∨ (x ≠ 16 ∧ x ≠ 80 ∧ x ≠ 32 ∧ x ≠ 176 ∧ x ≠ 48 ∧ x ≠ 160 ∧ x ≠ 96 ∧ x ≠ 208 ∧ x ≠ 112 ∧ x ≠ 192) := by omega
theorem opp_no {x : Int} (h : x ≠ 16 ∧ x ≠ 80 ∧ x ≠ 32 ∧ x ≠ 176 ∧ x ≠ 48 ∧ x ≠ 160 ∧ x ≠ 96 ∧ x ≠ 208 ∧ x ≠ 112 ∧ x ≠ 192) : opp x = -1 := by
  obtain ⟨h1, h2, h3, h4, h5, h6, h7, h8, h9, h10⟩ := h
  simp [opp, h1, h2, h3, h4, h5, h6, h7, h8, h9, h10]

set_option maxHeartbeats 4000000 in
theorem opp_ok (x : Int) (hp : Hp) (nx : Nat) : CallE Tryz.prog 51 [.int .i64 x] hp nx fun e hp' nx' => e = .ret (.int .i64 (opp x)) ∧ hp' = hp ∧ nx' = nx := by
  rcases opp_cases x with rfl | rfl | rfl | rfl | rfl | rfl | rfl | rfl | rfl | rfl | h
  case inr.inr.inr.inr.inr.inr.inr.inr.inr.inr =>
    rw [opp_no h]
    refine CallE.of_code hE Tryz.func51 rfl rfl ?_
    repeat (first | refine SeqE.nil ?_ | refine CodeE.seq ?_ | refine CodeE.region ?_ | refine CodeE.block ?_ | refine CodeE.condF (by rfl) ?_ | refine CodeE.skip ?_ | refine CodeE.ret ?_ | refine SeqE.step hE (StepO.move (by rfl)) (by rfl) (by rfl) ?_ | refine SeqE.step hE (StepO.assign (by rfl)) (by rfl) (by rfl) ?_ | refine SeqE.step hE (StepO.binOp (by rfl) (by rfl) (eqlF (by omega))) (by rfl) (by rfl) ?_)
    exact ⟨_, rfl, rfl, rfl, rfl⟩
  all_goals
    refine CallE.of_code hE Tryz.func51 rfl rfl ?_
    repeat (first | refine SeqE.nil ?_ | refine CodeE.seq ?_ | refine CodeE.region ?_ | refine CodeE.block ?_ | refine CodeE.condT (by rfl) ?_ | refine CodeE.condF (by rfl) ?_ | refine CodeE.ret ?_ | refine SeqE.step hE (StepO.move (by rfl)) (by rfl) (by rfl) ?_ | refine SeqE.step hE (StepO.assign (by rfl)) (by rfl) (by rfl) ?_ | refine SeqE.step hE (StepO.binOp (by rfl) (by rfl) (eqlT (by omega))) (by rfl) (by rfl) ?_ | refine SeqE.step hE (StepO.binOp (by rfl) (by rfl) (eqlF (by omega))) (by rfl) (by rfl) ?_)
    exact ⟨_, rfl, rfl, rfl, rfl⟩
end Go.Pick
namespace Go.Pick
open Go Go.RowKit Go.Sx Go.Sy Go.Proofs

set_option maxHeartbeats 8000000 in
theorem opp2_ok (x : Int) (hp : Hp) (nx : Nat) : CallE Tryz.prog 58 [.int .i64 x] hp nx fun e _ _ => e = .ret (.int .i64 (opp x)) := by
  rcases opp_cases x with rfl | rfl | rfl | rfl | rfl | rfl | rfl | rfl | rfl | rfl | h
  case inr.inr.inr.inr.inr.inr.inr.inr.inr.inr =>
    rw [opp_no h]
    refine CallE.of_code hE Tryz.func58 rfl rfl ?_
    repeat (first | refine SeqE.nil ?_ | refine CodeE.seq ?_ | refine CodeE.region ?_ | refine CodeE.block ?_ | refine SeqE.step hE (StepO.assign (by rfl)) (by rfl) (by rfl) ?_ | refine SeqE.step hE (StepO.buildSlice (by rfl) (Tab.slcAt tabOk (by rfl)) (by first | exact el3 | exact el4 | exact el33 | exact el35 | exact el37 | exact el50 | exact el51 | exact el56 | exact el87 | exact el89 | exact el95) (by decide) (by rfl)) (by rfl) (by rfl) ?_)
    repeat
      refine CodeE.round ?_
      repeat (first | refine SeqE.nil ?_ | refine CodeE.seq ?_ | refine CodeE.region ?_ | refine CodeE.block ?_ | refine CodeE.condT (by rfl) ?_ | refine CodeE.condF (by rfl) ?_ | refine CodeE.skip ?_ | refine CodeE.exit ?_ | refine CodeE.ret ?_ | refine SeqE.step hE (StepO.move (by rfl)) (by rfl) (by rfl) ?_ | refine SeqE.step hE (StepO.assign (by rfl)) (by rfl) (by rfl) ?_ | refine SeqE.step hE (StepO.load1 (by rfl) (Tab.aggAt tabOk (by rfl)) (by (try dsimp only); (repeat rw [over_other _ _ (by omega)]); first | assumption | exact over_same _ _ _) (by rfl)) (by rfl) (by rfl) ?_ | refine SeqE.step hE (StepO.indexAddr (by rfl) (by rfl) (Tab.slcAt tabOk (by rfl)) (by omega)) (by rfl) (by rfl) ?_ | refine SeqE.step hE (StepO.lenSlice (by rfl) (Tab.slcAt tabOk (by rfl))) (by rfl) (by rfl) ?_ | refine SeqE.step hE (StepO.binOp (by rfl) (by rfl) (lssT (by omega))) (by rfl) (by rfl) ?_ | refine SeqE.step hE (StepO.binOp (by rfl) (by rfl) (lssF (by omega))) (by rfl) (by rfl) ?_ | refine SeqE.step hE (StepO.binOp (by rfl) (by rfl) (eqlF (by omega))) (by rfl) (by rfl) ?_ | refine SeqE.step hE (StepO.binOp (by rfl) (by rfl) (addI (by omega))) (by rfl) (by rfl) ?_)
    exact ⟨_, rfl, rfl⟩
  all_goals
    refine CallE.of_code hE Tryz.func58 rfl rfl ?_
    repeat (first | refine SeqE.nil ?_ | refine CodeE.seq ?_ | refine CodeE.region ?_ | refine CodeE.block ?_ | refine SeqE.step hE (StepO.assign (by rfl)) (by rfl) (by rfl) ?_ | refine SeqE.step hE (StepO.buildSlice (by rfl) (Tab.slcAt tabOk (by rfl)) (by first | exact el3 | exact el4 | exact el33 | exact el35 | exact el37 | exact el50 | exact el51 | exact el56 | exact el87 | exact el89 | exact el95) (by decide) (by rfl)) (by rfl) (by rfl) ?_)
    repeat
      refine CodeE.round ?_
      repeat (first | refine SeqE.nil ?_ | refine CodeE.seq ?_ | refine CodeE.region ?_ | refine CodeE.block ?_ | refine CodeE.condT (by rfl) ?_ | refine CodeE.condF (by rfl) ?_ | refine CodeE.skip ?_ | refine CodeE.ret ?_ | refine SeqE.step hE (StepO.move (by rfl)) (by rfl) (by rfl) ?_ | refine SeqE.step hE (StepO.assign (by rfl)) (by rfl) (by rfl) ?_ | refine SeqE.step hE (StepO.load1 (by rfl) (Tab.aggAt tabOk (by rfl)) (by (try dsimp only); (repeat rw [over_other _ _ (by omega)]); first | assumption | exact over_same _ _ _) (by rfl)) (by rfl) (by rfl) ?_ | refine SeqE.step hE (StepO.indexAddr (by rfl) (by rfl) (Tab.slcAt tabOk (by rfl)) (by omega)) (by rfl) (by rfl) ?_ | refine SeqE.step hE (StepO.lenSlice (by rfl) (Tab.slcAt tabOk (by rfl))) (by rfl) (by rfl) ?_ | refine SeqE.step hE (StepO.binOp (by rfl) (by rfl) (lssT (by omega))) (by rfl) (by rfl) ?_ | refine SeqE.step hE (StepO.binOp (by rfl) (by rfl) (eqlT (by omega))) (by rfl) (by rfl) ?_ | refine SeqE.step hE (StepO.binOp (by rfl) (by rfl) (eqlF (by omega))) (by rfl) (by rfl) ?_ | refine SeqE.step hE (StepO.binOp (by rfl) (by rfl) (addI (by omega))) (by rfl) (by rfl) ?_ | refine SeqE.step hE (StepO.binOp (by rfl) (by rfl) (subI (by omega))) (by rfl) (by rfl) ?_ | refine SeqE.step hE (StepO.binOp (by rfl) (by rfl) (eqlT (by decide))) (by rfl) (by rfl) ?_ | refine SeqE.step hE (StepO.binOp (by rfl) (by rfl) (eqlF (by decide))) (by rfl) (by rfl) ?_ | refine SeqE.step hE (StepO.binOp (by rfl) (by rfl) (by rfl)) (by rfl) (by rfl) ?_)
    exact ⟨_, rfl, rfl⟩
end Go.Pick
namespace Go.Sy
open Go Go.RowKit Go.Sx
theorem CallE.mono {P : Program} {f : FuncId} {args : List Value} {hp : Hp} {nx : Nat} {Q Q' : AEnd → Hp → Nat → Prop} (h : CallE P f args hp nx Q) (hq : ∀ e h n, Q e h n → Q' e h n) : CallE P f args hp nx Q' := by
  obtain ⟨e, h', nx', h1, h2⟩ := h
  exact ⟨e, h', nx', h1, hq _ _ _ h2⟩
theorem CallE.pure {P : Program} {f : FuncId} {args : List Value} {hp : Hp} {nx : Nat} {v : Value} {hp' : Hp} (h : CallE P f args hp nx fun e h' _ => e = .ret v ∧ h' = hp') : ∃ nx', CallR P f args hp nx (.ret v) hp' nx' := by
  obtain ⟨e, h', nx', h1, rfl, rfl⟩ := h
  exact ⟨nx', h1⟩
end Go.Sy
namespace Go.Pick
open Go Go.RowKit Go.Sx Go.Sy Go.Proofs

/-- a draft -/
structure Dr where
  ins : Ins
  mark : Int
def Dr.vals (x : Dr) : List Value := x.ins.vals ++ [.int .i64 x.mark]
def flat (l : List Dr) : List Value := l.flatMap Dr.vals
def insFlat (l : List Ins) : List Value := l.flatMap Ins.vals
def ints (l : List Int) : List Value := l.map fun z => Value.int .i64 z
theorem ints_at {l : List Int} {i k : Nat} (hk : k = i) (h : i < l.length) : (ints l)[k]? = some (.int .i64 l[i]) := by subst hk; simp [ints, h]
theorem flatMap_at {α : Type} {f : α → List Value} {n : Nat} (hn : ∀ x, (f x).length = n) : ∀ (l : List α) (i j : Nat) (hi : i < l.length), j < n → (l.flatMap f)[i * n + j]? = (f l[i])[j]?
  | x :: l, 0, j, _, hj => by
    rw [List.flatMap_cons, Nat.zero_mul, Nat.zero_add, List.getElem?_append_left (by rw [hn]; exact hj)]
    rfl
  | x :: l, i + 1, j, hi, hj => by
    have h1 : (i + 1) * n + j = i * n + j + n := by rw [Nat.add_mul]; omega
    rw [List.flatMap_cons, List.getElem?_append_right (by rw [hn]; omega), hn, h1, Nat.add_sub_cancel]
    exact flatMap_at hn l i j (by simpa using hi) hj
theorem flatMap_len {α : Type} {f : α → List Value} {n : Nat} (hn : ∀ x, (f x).length = n) : ∀ (l : List α), (l.flatMap f).length = l.length * n
  | [] => by simp
  | x :: l => by simp only [List.flatMap_cons, List.length_append, flatMap_len hn l, hn, List.length_cons, Nat.add_mul]; omega
theorem flat_at {l : List Dr} {i k j : Nat} (hi : i < l.length) (hj : j < 9) (hk : k = i * 9 + j) : (flat l)[k]? = (l[i].vals)[j]? := by
  subst hk; exact flatMap_at (f := Dr.vals) (n := 9) (fun _ => rfl) l i j hi hj
theorem flat_len (l : List Dr) : (flat l).length = l.length * 9 := flatMap_len (f := Dr.vals) (n := 9) (fun _ => rfl) l
theorem ins_at {l : List Ins} {i k j : Nat} (hi : i < l.length) (hj : j < 8) (hk : k = i * 8 + j) : (insFlat l)[k]? = (l[i].vals)[j]? := by
  subst hk; exact flatMap_at (f := Ins.vals) (n := 8) (fun _ => rfl) l i j hi hj
theorem ins_len (l : List Ins) : (insFlat l).length = l.length * 8 := flatMap_len (f := Ins.vals) (n := 8) (fun _ => rfl) l
/-- a row that came in, or that was made: perhaps nil -/
def Row (hp : Hp) (lim : Nat) (A : Option Addr) (n sz : Nat) (c : List Value) : Prop :=
  c.length = n * sz ∧ (0 < n → ∃ b e own, A = some ⟨b, 0, none⟩ ∧ b < lim ∧ hp b = some (.cells c e own))
theorem Row.keep {hp hp' : Hp} {lim : Nat} {A : Option Addr} {n sz : Nat} {c : List Value} (h : Row hp lim A n sz c) (hk : ∀ k, k < lim → hp' k = hp k) : Row hp' lim A n sz c :=
  ⟨h.1, fun hn => let ⟨b, e, own, h1, h2, h3⟩ := h.2 hn; ⟨b, e, own, h1, h2, (hk b h2).trans h3⟩⟩

/-- a draft's mark, its instruction's op: where they lie -/
theorem flat_mark {l : List Dr} {i k : Nat} (hi : i < l.length) (hk : k = i * 9 + 8) : (flat l)[k]? = some (.int .i64 l[i].mark) := by
  rw [flat_at hi (j := 8) (by omega) hk]; rfl
theorem flat_draft {hp : Hp} {l : List Dr} {i : Nat} {p : Addr} {e : TypeId} {own : Bool} (hc : hp p.block = some (.cells (flat l) e own)) (hi : i < l.length) (hk : p.off = i * 9) : hread hp p 9 = some l[i].vals :=
  hread_cells hc rfl fun j hj => flat_at hi hj (by omega)
theorem flat_ins {hp : Hp} {l : List Dr} {i : Nat} {p : Addr} {e : TypeId} {own : Bool} (hc : hp p.block = some (.cells (flat l) e own)) (hi : i < l.length) (hk : p.off = i * 9) : hread hp p 8 = some l[i].ins.vals :=
  hread_cells hc rfl fun j hj => by
    rw [flat_at hi (j := j) (by omega) (by omega)]
    unfold Dr.vals
    rw [List.getElem?_append_left (by simpa [Ins.vals] using hj)]
theorem ins_read {hp : Hp} {l : List Ins} {i : Nat} {p : Addr} {e : TypeId} {own : Bool} (hc : hp p.block = some (.cells (insFlat l) e own)) (hi : i < l.length) (hk : p.off = i * 8) : hread hp p 8 = some l[i].vals :=
  hread_cells hc rfl fun j hj => ins_at hi hj (by omega)
/-- the places of drafts -/
def posL (zs : List Nat) : List Nat := (List.range (zs.length + 1)).map (pos zs)
theorem posL_at {zs : List Nat} {i : Nat} (h : i < (posL zs).length) : (posL zs)[i] = pos zs i := by simp [posL]
theorem posL_len (zs : List Nat) : (posL zs).length = zs.length + 1 := by simp [posL]
theorem laid_posL {zs : List Nat} {cs : List Value} (h : cs.length = zs.length + 1) : laid zs cs (zs.length + 1) = nums (posL zs) := by
  unfold laid nums posL
  rw [List.drop_eq_nil_of_le (by omega), List.append_nil, List.map_map]
  rfl
end Go.Pick
namespace Go.Pick
open Go Go.RowKit Go.Sx Go.Sy Go.Proofs

/-- how far a draft's mark is -/
def wayOf (l : List Dr) (ms : List Int) (zs : List Nat) (i : Nat) : Int :=
  ((pos zs (ms.getD ((l.getD i ⟨⟨0, 0, 0, 0, 0, false, 0, 0⟩, 0⟩).mark - 1).toNat 0).toNat : Nat) : Int) - ((pos zs i : Nat) : Int)
theorem way_eq {l : List Dr} {ms : List Int} {zs : List Nat} {i : Nat} (hi : i < l.length) {m : Nat} (hm : m < ms.length) (e : l[i].mark - 1 = m) {k : Nat} (ek : ms[m] = k) : wayOf l ms zs i = (pos zs k : Int) - pos zs i := by
  unfold wayOf
  have h1 : l.getD i ⟨⟨0, 0, 0, 0, 0, false, 0, 0⟩, 0⟩ = l[i] := by simp [List.getD, hi]
  rw [h1, e, Int.toNat_natCast]
  have h2 : ms.getD m 0 = ms[m] := by simp [List.getD, hm]
  rw [h2, ek, Int.toNat_natCast]
set_option maxRecDepth 20000 in
theorem way_ok {br ba lim i : Nat} {l : List Dr} {ms : List Int} {zs : List Nat} {L M : Option Addr} {CL CM Ca : Nat} {Z : Value} {e1 : TypeId} {o1 : Bool} {hp : Hp} {nx : Nat}
    (h1 : hp br = some (.cells [.slice L l.length CL, .slice M ms.length CM, Z, .slice (some ⟨ba, 0, none⟩) (l.length + 1) Ca] e1 o1))
    (hl : Row hp lim L l.length 9 (flat l)) (hm : Row hp lim M ms.length 1 (ints ms)) (h3 : hp ba = some (.cells (nums (posL zs)) 3 true)) (hz : zs.length = l.length)
    (hn : l.length ≤ 100000) (hM : ms.length ≤ 9223372036854775807) (hb : ∀ z ∈ zs, z ≤ 3) (hi : i < l.length) (hk1 : 1 ≤ l[i].mark) (hk2 : l[i].mark ≤ ms.length) (hms : ∀ k ∈ ms, 0 ≤ k ∧ k ≤ l.length) :
    ∃ nx', CallR Tryz.prog 50 [.pointer (some ⟨br, 0, none⟩), .int .i64 i] hp nx (.ret (.int .i64 (wayOf l ms zs i))) hp nx' := by
  refine CallE.pure ?_
  obtain ⟨bl, el, ol, rfl, hbl, hcl⟩ := hl.2 (by omega)
  obtain ⟨bm, em, om, rfl, hbm, hcm⟩ := hm.2 (by omega)
  obtain ⟨m, em1⟩ : ∃ m : Nat, l[i].mark - 1 = m := ⟨(l[i].mark - 1).toNat, by omega⟩
  have hml : m < ms.length := by omega
  obtain ⟨k, ek⟩ : ∃ k : Nat, ms[m] = k := ⟨ms[m].toNat, by have := hms _ (List.getElem_mem hml); omega⟩
  have hkl : k ≤ l.length := by have := hms _ (List.getElem_mem hml); omega
  have hw := way_eq (zs := zs) hi hml em1 ek
  have p1 := pos_le hb k
  have p2 := pos_le hb i
  have hpl := posL_len zs
  refine CallE.of_code hE Tryz.func50 rfl rfl ?_
  repeat (first | refine SeqE.nil ?_ | refine CodeE.seq ?_ | refine CodeE.region ?_ | refine CodeE.draw (slsOf tabs) [] (Tab.slOk tabOk) hE (by kernel_rfl) ?_ | refine SeqD.step (StepO.move (by rfl)) (by rfl) (by rfl) ?_ | refine SeqE.step hE (StepO.assign (by rfl)) (by rfl) (by rfl) ?_ | refine SeqD.step (StepO.nilCheck (by rfl)) (by rfl) (by rfl) ?_ | refine SeqD.step (StepO.fieldAddr (by rfl) (Tab.fldAt tabOk (by rfl) (by rfl))) (by rfl) (by rfl) ?_ | refine SeqD.step (StepO.load1 (by rfl) (Tab.aggAt tabOk (by rfl)) (by (try dsimp only); (repeat rw [over_other _ _ (by omega)]); first | assumption | exact over_same _ _ _) (by rfl)) (by rfl) (by rfl) ?_ | refine SeqD.step (StepO.indexAddr (by rfl) (by rfl) (Tab.slcAt tabOk (by rfl)) (by omega)) (by rfl) (by rfl) ?_)
  refine SeqD.step (StepO.load1 rfl (Tab.aggAt tabOk rfl) hcl (flat_mark hi (by first | omega | (dsimp only; omega) | (simp only [] at *; omega)))) rfl rfl ?_
  repeat (first | refine SeqD.step (StepO.indexAddr (by rfl) (by rfl) (Tab.slcAt tabOk (by rfl)) (by omega)) (by rfl) (by rfl) ?_ | refine SeqD.step (StepO.binOp (by rfl) (by rfl) (subI (by omega))) (by rfl) (by rfl) ?_)
  refine SeqD.step (StepO.load1 rfl (Tab.aggAt tabOk rfl) hcm (ints_at (i := m) (by first | omega | (dsimp only; omega) | (simp only [] at *; omega)) hml)) rfl rfl ?_
  rw [ek]
  repeat (first | refine SeqD.step (StepO.indexAddr (by rfl) (by rfl) (Tab.slcAt tabOk (by rfl)) (by omega)) (by rfl) (by rfl) ?_)
  refine SeqD.step (StepO.load1 rfl (Tab.aggAt tabOk rfl) h3 (nums_at (i := k) (by first | omega | (dsimp only; omega) | (simp only [] at *; omega)) (by omega))) rfl rfl ?_
  rw [posL_at]
  repeat (first | refine SeqD.step (StepO.move (by rfl)) (by rfl) (by rfl) ?_ | refine SeqD.step (StepO.nilCheck (by rfl)) (by rfl) (by rfl) ?_ | refine SeqD.step (StepO.fieldAddr (by rfl) (Tab.fldAt tabOk (by rfl) (by rfl))) (by rfl) (by rfl) ?_ | refine SeqD.step (StepO.load1 (by rfl) (Tab.aggAt tabOk (by rfl)) (by (try dsimp only); (repeat rw [over_other _ _ (by omega)]); first | assumption | exact over_same _ _ _) (by rfl)) (by rfl) (by rfl) ?_ | refine SeqD.step (StepO.indexAddr (by rfl) (by rfl) (Tab.slcAt tabOk (by rfl)) (by omega)) (by rfl) (by rfl) ?_)
  refine SeqD.step (StepO.load1 rfl (Tab.aggAt tabOk rfl) h3 (nums_at (i := i) (by first | omega | (dsimp only; omega) | (simp only [] at *; omega)) (by omega))) rfl rfl ?_
  rw [posL_at]
  repeat (first | refine SeqD.nil ?_ | refine CodeE.ret ?_ | refine SeqD.step (StepO.assign (by rfl)) (by rfl) (by rfl) ?_ | refine SeqD.step (StepO.binOp (by rfl) (by rfl) (subI (by omega))) (by rfl) (by rfl) ?_)
  exact ⟨_, rfl, by rw [hw]; rfl, rfl⟩
end Go.Pick
namespace Go.Sy
open Go Go.RowKit Go.Sx
/-- a value that reads alike under every renaming -/
def Shut (v : Value) : Prop := ∀ ρ : Ren, VR ρ v v
theorem shutInt (k : IntKind) (z : Int) : Shut (.int k z) := fun ρ => by simp [VR, renV]
theorem shutBool (b : Bool) : Shut (.bool b) := fun ρ => by simp [VR, renV]
/-- a row of closed cells that lies in the world, at the slice that is the value -/
structure Lies (w : World) (v : Value) (n : Nat) (c : List Value) : Prop where
  h : (v = .slice none 0 0 ∧ n = 0 ∧ c = []) ∨ ∃ a cap, v = .slice (some a) n cap ∧ a.spot = none ∧ a.block < w.heap.size ∧ n ≤ cap ∧
    ∀ i x, c[i]? = some x → Shut x ∧ w.cell? ⟨a.block, a.off + i, none⟩ = some x
/-- two rows that came in, as a plain heap -/
theorem two_rows {P : Program} {f : FuncId} {w : World} {v0 v1 : Value} {n0 n1 s0 s1 : Nat} {c0 c1 : List Value} {rest : List Value} {b : Bool} (h0 : Lies w v0 n0 c0) (h1 : Lies w v1 n1 c1) (l0 : c0.length = n0 * s0) (l1 : c1.length = n1 * s1) (hs : ∀ x ∈ rest, Shut x)
    (hc : ∀ hp A0 A1 C0 C1, Go.Pick.Row hp 3 A0 n0 s0 c0 → Go.Pick.Row hp 3 A1 n1 s1 c1 → CallE P f (.slice A0 n0 C0 :: .slice A1 n1 C1 :: rest) hp 3 fun e _ _ => e = .ret (.bool b)) :
    Calls P f ⟨v0 :: v1 :: rest⟩ w fun e w' => e = .returned (.bool b) ∧ Below w.heap.size w w' := by
  have one : ∀ {v n s c} (k : Nat), Lies w v n c → c.length = n * s → ∃ (A : Option Addr) (C : Nat) (o : Option AObj) (r : Option (Addr × Nat)),
      (∀ hp : Hp, k < 3 → hp k = o → Go.Pick.Row hp 3 A n s c) ∧ (∀ ρ : Ren, ρ k = r → VR ρ (.slice A n C) v) ∧
      (∀ x, o = some x → x.own = false) ∧ (∀ x B ρ, o = some x → B = w.heap.size → ρ k = r → ObjOk P B ρ w k x) := by
    intro v n s c k hl hlen
    rcases hl.h with ⟨rfl, rfl, rfl⟩ | ⟨a, cap, rfl, ha, hb, hn, hcl⟩
    · exact ⟨none, 0, none, none, fun hp _ _ => ⟨hlen, fun h => by omega⟩, fun ρ _ => by simp [VR, renV], fun x h => (by cases h), fun x B ρ h => (by cases h)⟩
    · refine ⟨some ⟨k, 0, none⟩, 2 * cap + 1, some (.cells c 0 false), some (a, 0), fun hp hk e => ⟨hlen, fun _ => ⟨k, 0, false, rfl, hk, e⟩⟩, fun ρ hr => ?_, fun x h => by cases h; rfl, fun x B ρ h hB hr => ?_⟩
      · have e1 : (2 * cap + 1) % 2 = 1 := by omega
        have e2 : (2 * cap + 1) / 2 = cap := by omega
        have e3 : (⟨a.block, a.off, none⟩ : Addr) = a := by cases a; simp at ha; subst ha; rfl
        simp only [VR, renV, hr, Option.bind_some, e1, e2, if_true, if_pos hn, Nat.add_zero, e3]
      · cases h
        refine ⟨(a, 0), hr, ha, hB ▸ hb, fun i x hi => ⟨x, (hcl i x hi).2, (hcl i x hi).1 ρ⟩⟩
  obtain ⟨A0, C0, o0, r0, q1, q2, q3, q4⟩ := one (s := s0) 1 h0 l0
  obtain ⟨A1, C1, o1, r1, p1, p2, p3, p4⟩ := one (s := s1) 2 h1 l1
  let hp : Hp := fun k => if k = 1 then o0 else if k = 2 then o1 else none
  let ρ : Ren := fun k => if k = 1 then r0 else if k = 2 then r1 else none
  obtain ⟨e, hp', nx', hcall, rfl⟩ := hc hp A0 A1 C0 C1 (q1 hp (by omega) rfl) (p1 hp (by omega) rfl)
  have hrel : HRel P w.heap.size (nx' + 1) hp 3 ρ w := by
    refine ⟨Nat.le_refl _, fun k hk _ => ?_, fun k o ho => ?_, fun k o ho => ?_, fun k o p k' o' p' ho hown => ?_⟩
    · simp only [ρ]; rw [if_neg (by omega), if_neg (by omega)]
    · simp only [hp] at ho
      split at ho
      · omega
      · split at ho
        · omega
        · cases ho
    · simp only [hp] at ho
      split at ho
      · rename_i hk; subst hk; exact q4 _ _ _ ho rfl rfl
      · split at ho
        · rename_i hk; subst hk; exact p4 _ _ _ ho rfl rfl
        · cases ho
    · simp only [hp] at ho
      split at ho
      · rw [q3 _ ho] at hown; cases hown
      · split at ho
        · rw [p3 _ ho] at hown; cases hown
        · cases ho
  have hall : All2 (VR ρ) (.slice A0 n0 C0 :: .slice A1 n1 C1 :: rest) (v0 :: v1 :: rest) := by
    refine ⟨q2 ρ rfl, p2 ρ rfl, ?_⟩
    clear hc hcall
    induction rest with
    | nil => trivial
    | cons x rest ih => exact ⟨hs x (by simp) ρ, ih fun y hy => hs y (by simp [hy])⟩
  refine (hcall.2 _ _ ρ w _ (Nat.lt_succ_self _) hrel hall).mono ?_
  rintro en w' ⟨ρ', ⟨_, hst⟩, hen⟩
  refine ⟨?_, hst.below hrel⟩
  cases en with
  | returned v' => simp only [Sy.EndR, VR, renV, Option.some.injEq] at hen; rw [← hen]
  | panicked c => exact hen.elim
  | outgrown => exact hen.elim
end Go.Sy
namespace Go.Pick
set_option linter.constructorNameAsVariable false
open Go Go.RowKit Go.Sx Go.Sy Go.Proofs Go.ChangeShapes Go.WideShapes Go.Deep
variable {H : Type} {enc : TypeId × Value → H} {w : World} {base : Nat} {spare : Nat → Bool} {held : Bool}
theorem size37 : Tryz.prog.cellsOf 37 = 8 := by kernel_rfl
theorem size56 : Tryz.prog.cellsOf 56 = 9 := by kernel_rfl
theorem size3 : Tryz.prog.cellsOf 3 = 1 := by kernel_rfl
theorem size35 : Tryz.prog.cellsOf 35 = 1 := by kernel_rfl
theorem size4 : Tryz.prog.cellsOf 4 = 1 := by kernel_rfl
theorem wf_i64 {z : Int} (h : (Lit.int .i64 z).wf = true) : i64 z := by
  simp [Lit.wf, IntKind.min, IntKind.max, IntKind.signed, IntKind.bits] at h; exact ⟨by omega, by omega⟩
theorem field_open {n : Nat} {fs : Array Field} {cs : List Value} {xs : List (DataW H × List MemPlace)} {P : Program} (hf : ∀ (i : Nat) (f : Field), fs[i]? = some f → DataW.trod enc P w base spare held n f.type ((cs.drop f.offset).take (P.cellsOf f.type)) = xs[i]?)
    {i : Nat} {f : Field} (h : fs[i]? = some f) {t o s : Nat} (ht : f.type = t) (ho : f.offset = o) (hs : P.cellsOf t = s) {y : DataW H × List MemPlace} (hx : xs[i]? = some y) {c : List Value} (hc : (cs.drop o).take s = c) : DataW.trod enc P w base spare held n t c = some y := by
  subst ht ho hs hc
  rw [hf i f h, hx]
set_option maxRecDepth 20000 in
theorem ins_open {fuel : Nat} {cs : List Value} {x : DataW H × List MemPlace} (h : DataW.trod enc Tryz.prog w base spare held fuel 37 cs = some x) : ∃ d : Ins, cs = d.vals ∧ d.fit := by
  obtain ⟨xs, n, _, _, hl, hlen, hf⟩ := DataW.trod_struct Tryz.underlying37 h
  rw [size37] at hl
  match cs, hl with
  | [c0, c1, c2, c3, c4, c5, c6, c7], _ =>
    match xs, hlen with
    | [y0, y1, y2, y3, y4, y5, y6, y7], _ =>
      have g0 := field_open hf (i := 0) rfl rfl rfl size35 rfl rfl
      have g1 := field_open hf (i := 1) rfl rfl rfl size3 rfl rfl
      have g2 := field_open hf (i := 2) rfl rfl rfl size3 rfl rfl
      have g3 := field_open hf (i := 3) rfl rfl rfl size3 rfl rfl
      have g4 := field_open hf (i := 4) rfl rfl rfl size3 rfl rfl
      have g5 := field_open hf (i := 5) rfl rfl rfl size4 rfl rfl
      have g6 := field_open hf (i := 6) rfl rfl rfl size3 rfl rfl
      have g7 := field_open hf (i := 7) rfl rfl rfl size3 rfl rfl
      obtain ⟨z0, e0, _, w0⟩ := DataW.trod_int Tryz.underlying35 g0
      obtain ⟨z1, e1, _, w1⟩ := DataW.trod_int Tryz.underlying3 g1
      obtain ⟨z2, e2, _, w2⟩ := DataW.trod_int Tryz.underlying3 g2
      obtain ⟨z3, e3, _, w3⟩ := DataW.trod_int Tryz.underlying3 g3
      obtain ⟨z4, e4, _, w4⟩ := DataW.trod_int Tryz.underlying3 g4
      obtain ⟨z5, e5, _⟩ := DataW.trod_bool Tryz.underlying4 g5
      obtain ⟨z6, e6, _, w6⟩ := DataW.trod_int Tryz.underlying3 g6
      obtain ⟨z7, e7, _, w7⟩ := DataW.trod_int Tryz.underlying3 g7
      have e0 : c0 = _ := (List.cons.inj (show [c0] = [_] from e0)).1
      have e1 : c1 = _ := (List.cons.inj (show [c1] = [_] from e1)).1
      have e2 : c2 = _ := (List.cons.inj (show [c2] = [_] from e2)).1
      have e3 : c3 = _ := (List.cons.inj (show [c3] = [_] from e3)).1
      have e4 : c4 = _ := (List.cons.inj (show [c4] = [_] from e4)).1
      have e5 : c5 = _ := (List.cons.inj (show [c5] = [_] from e5)).1
      have e6 : c6 = _ := (List.cons.inj (show [c6] = [_] from e6)).1
      have e7 : c7 = _ := (List.cons.inj (show [c7] = [_] from e7)).1
      exact ⟨⟨z0, z1, z2, z3, z4, z5, z6, z7⟩, by rw [e0, e1, e2, e3, e4, e5, e6, e7]; rfl, wf_i64 w0, wf_i64 w1, wf_i64 w2, wf_i64 w3, wf_i64 w4, wf_i64 w6, wf_i64 w7⟩
set_option maxRecDepth 20000 in
theorem draft_open {fuel : Nat} {cs : List Value} {x : DataW H × List MemPlace} (h : DataW.trod enc Tryz.prog w base spare held fuel 56 cs = some x) : ∃ d : Dr, cs = d.vals ∧ d.ins.fit := by
  obtain ⟨xs, n, _, _, hl, hlen, hf⟩ := DataW.trod_struct Tryz.underlying56 h
  rw [size56] at hl
  match cs, hl with
  | [c0, c1, c2, c3, c4, c5, c6, c7, c8], _ =>
    match xs, hlen with
    | [y0, y1], _ =>
      have g0 := field_open hf (i := 0) rfl rfl rfl size37 rfl rfl
      have g1 := field_open hf (i := 1) rfl rfl rfl size3 rfl rfl
      obtain ⟨d, e0, f0⟩ := ins_open g0
      obtain ⟨z, e1, _, w1⟩ := DataW.trod_int Tryz.underlying3 g1
      have e0 : [c0, c1, c2, c3, c4, c5, c6, c7] = d.vals := e0
      have e1 : c8 = _ := (List.cons.inj (show [c8] = [_] from e1)).1
      exact ⟨⟨d, z⟩, by unfold Dr.vals; rw [← e0, e1]; rfl, f0⟩
set_option maxRecDepth 20000 in
theorem shut_ins {d : Ins} {i : Nat} {x : Value} (h : d.vals[i]? = some x) : Shut x := by
  have hm := List.mem_of_getElem? h
  simp only [Ins.vals, List.mem_cons, List.not_mem_nil, or_false] at hm
  rcases hm with rfl | rfl | rfl | rfl | rfl | rfl | rfl | rfl <;> first | exact shutInt _ _ | exact shutBool _
theorem shut_draft {d : Dr} {i : Nat} {x : Value} (h : d.vals[i]? = some x) : Shut x := by
  have hm := List.mem_of_getElem? h
  simp only [Dr.vals, List.mem_append, List.mem_cons, List.not_mem_nil, or_false] at hm
  rcases hm with hm | rfl
  · obtain ⟨j, hj⟩ := List.getElem?_of_mem hm; exact shut_ins hj
  · exact shutInt _ _
theorem has_of {t e : TypeId} {a : Addr} {n cap : Nat} {r : Reach} {bs : Nat} (ht : Tryz.prog.underlying t = some (.slice e)) (h : Value.okWide Tryz.prog w r bs t (.slice (some a) n cap)) : a.spot = none ∧ a.block < w.heap.size := by
  simp only [Value.okWide, Cell.okWide, Cell.ok, ht] at h
  obtain ⟨_, _, _, h1, row, cells, h2, _⟩ := h
  refine ⟨h1, ?_⟩
  unfold World.shape? at h2
  cases hh : w.heap[a.block]? with
  | none => simp [hh] at h2
  | some o => exact (Array.getElem?_eq_some_iff.1 hh).1
theorem slice_of {t e : TypeId} {v : Value} {r : Reach} {bs : Nat} (ht : Tryz.prog.underlying t = some (.slice e)) (h : Value.okWide Tryz.prog w r bs t v) : ∃ a n c, v = .slice a n c := by
  unfold Value.okWide at h
  rw [ht] at h
  simp only [Cell.okWide, ht] at h
  cases v <;> first | exact ⟨_, _, _, rfl⟩ | (simp [Cell.ok, ht] at h)
theorem list_of {α : Type} {n : Nat} {p : Nat → α → Prop} : (∀ i, i < n → ∃ x, p i x) → ∃ l : List α, l.length = n ∧ ∀ i x, l[i]? = some x → p i x := by
  induction n with
  | zero => exact fun _ => ⟨[], rfl, fun i x h => by simp at h⟩
  | succ n ih =>
    intro h
    obtain ⟨l, h1, h2⟩ := ih fun i hi => h i (by omega)
    obtain ⟨x, hx⟩ := h n (by omega)
    refine ⟨l ++ [x], by simp [h1], fun i y hy => ?_⟩
    by_cases hi : i < n
    · rw [List.getElem?_append_left (by omega)] at hy; exact h2 i y hy
    · rw [List.getElem?_append_right (by omega), h1] at hy
      have : i - n = 0 := by
        cases hh : i - n with
        | zero => rfl
        | succ k => rw [hh] at hy; simp at hy
      rw [this] at hy; simp at hy; subst hy
      have : i = n := by omega
      subst this; exact hx
theorem cell_at {w : World} {a : Addr} {i s j : Nat} {c : List Value} (ha : a.spot = none) (h : w.cells? 0 (a.add (i * s)) s = some c) (hj : j < s) : w.cell? ⟨a.block, a.off + (i * s + j), none⟩ = c[j]? := by
  have := (World.cells?_some h).2.2 j hj
  rw [Deep.add_add] at this
  rw [← this]
  unfold Addr.add
  split
  · rename_i h0; rw [h0]; cases a; simp at ha; subst ha; rfl
  · rfl
set_option maxRecDepth 20000 in
theorem drafts_open {v : Value} {d : DataW H} {ps : List MemPlace} {r : Reach} {bs : Nat} (hok : Value.okWide Tryz.prog w r bs 50 v) (h : DataW.Trod enc Tryz.prog w 0 spare held 50 v d ps) :
    ∃ l : List Dr, Lies w v l.length (flat l) ∧ ∀ x ∈ l, x.ins.fit := by
  obtain ⟨fuel, h⟩ := h
  obtain ⟨A, N, C, rfl⟩ := slice_of Tryz.underlying50 hok
  rcases open_slice Tryz.underlying50 h with ⟨h1, _⟩ | ⟨a, len, cap, m, n, D, Pl, h1, _, hle, hmx, hm, _, hx⟩
  · obtain ⟨rfl, rfl, rfl⟩ : A = none ∧ N = 0 ∧ C = 0 := by simpa [Value.cells] using h1
    exact ⟨[], ⟨.inl ⟨rfl, rfl, rfl⟩⟩, by simp⟩
  · obtain ⟨rfl, rfl, rfl⟩ : some a = A ∧ len = N ∧ cap = C := by
      have h2 : A = some a ∧ N = len ∧ C = cap := by simpa [Value.cells] using h1
      exact ⟨h2.1.symm, h2.2.1.symm, h2.2.2.symm⟩
    have hlm : len ≤ m := by rw [hm]; split <;> omega
    obtain ⟨h2, h3⟩ := has_of Tryz.underlying50 hok
    rw [size56] at hx
    obtain ⟨l, h4, h5⟩ := list_of (p := fun i (d : Dr) => w.cells? 0 (a.add (i * 9)) 9 = some d.vals ∧ d.ins.fit) (fun i (hi : i < len) => by
      obtain ⟨cs, e1, e2⟩ := hx i (by omega)
      obtain ⟨d, rfl, e3⟩ := draft_open e2
      exact ⟨d, e1, e3⟩)
    subst h4
    refine ⟨l, ⟨.inr ⟨a, cap, rfl, h2, h3, hle, fun i x hi => ?_⟩⟩, fun x hx => ?_⟩
    · have hi2 : i < l.length * 9 := by rw [← flat_len]; exact (List.getElem?_eq_some_iff.1 hi).1
      have hq : i / 9 < l.length := by omega
      rw [flat_at (i := i / 9) (j := i % 9) hq (by omega) (by omega)] at hi
      have h6 := (h5 (i / 9) _ (List.getElem?_eq_getElem hq)).1
      refine ⟨shut_draft hi, ?_⟩
      rw [← hi, ← cell_at h2 h6 (by omega : i % 9 < 9)]
      congr 3; omega
    · obtain ⟨i, hi⟩ := List.getElem?_of_mem hx
      exact (h5 i x hi).2
set_option maxRecDepth 20000 in
theorem ints_open {v : Value} {d : DataW H} {ps : List MemPlace} {r : Reach} {bs : Nat} (hok : Value.okWide Tryz.prog w r bs 51 v) (h : DataW.Trod enc Tryz.prog w 0 spare held 51 v d ps) :
    ∃ l : List Int, Lies w v l.length (ints l) ∧ l.length ≤ 9223372036854775807 ∧ ∀ z ∈ l, i64 z := by
  obtain ⟨fuel, h⟩ := h
  obtain ⟨A, N, C, rfl⟩ := slice_of Tryz.underlying51 hok
  rcases open_ints Tryz.underlying51 Tryz.underlying3 size3 h with ⟨h1, _⟩ | ⟨a, len, cap, zs, h1, _, hle, hmx, hm, _, hx, hw⟩
  · obtain ⟨rfl, rfl, rfl⟩ : A = none ∧ N = 0 ∧ C = 0 := by simpa [Value.cells] using h1
    exact ⟨[], ⟨.inl ⟨rfl, rfl, rfl⟩⟩, by simp, by simp⟩
  · obtain ⟨rfl, rfl, rfl⟩ : some a = A ∧ len = N ∧ cap = C := by
      have h2 : A = some a ∧ N = len ∧ C = cap := by simpa [Value.cells] using h1
      exact ⟨h2.1.symm, h2.2.1.symm, h2.2.2.symm⟩
    have hlm : len ≤ zs.length := by rw [hm]; split <;> omega
    obtain ⟨h2, h3⟩ := has_of Tryz.underlying51 hok
    have hlt : (zs.take len).length = len := by rw [List.length_take]; omega
    refine ⟨zs.take len, ⟨.inr ⟨a, cap, by rw [hlt], h2, h3, by rw [hlt]; exact hle, fun i x hi => ?_⟩⟩, by rw [hlt]; unfold maxLen at hmx; omega, fun z hz => wf_i64 (hw z (List.mem_of_mem_take hz))⟩
    have hi2 : i < len := by have := (List.getElem?_eq_some_iff.1 hi).1; simp [ints] at this; omega
    rw [ints_at (i := i) rfl (by rw [hlt]; exact hi2)] at hi
    cases hi
    refine ⟨shutInt _ _, ?_⟩
    have h6 := hx i (by omega)
    have h7 : a.add i = ⟨a.block, a.off + i, none⟩ := by
      unfold Addr.add
      split
      · rename_i h0; subst h0; cases a; simp at h2; subst h2; rfl
      · rfl
    rw [h7] at h6
    rw [h6]
    simp [List.getD, hi2, List.getElem?_eq_getElem (show i < zs.length by omega)]
end Go.Pick
