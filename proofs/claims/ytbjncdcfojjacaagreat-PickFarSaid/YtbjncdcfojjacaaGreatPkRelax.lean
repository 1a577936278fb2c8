/-
  What is proved: the relaxer as a whole. Conditions: none.
-/
import Derived.Test.YtbjncdcfojjacaaGreatPkMay
set_option linter.unusedVariables false
set_option linter.unusedSimpArgs false
set_option linter.unusedSectionVars false
namespace Go.Pick
open Go Go.RowKit Go.Sx Go.Sy Go.Proofs

/-- branches grow till none is too far -/
inductive Grows (l : List Dr) (ms : List Int) : List Bool → List Bool → Prop where
  | stop {long : List Bool} (h : anyNew l ms long l.length = false) : Grows l ms long long
  | step {long r : List Bool} (h : anyNew l ms long l.length = true) (k : Grows l ms (growL l ms long) r) : Grows l ms long r
theorem Grows.one {l : List Dr} {ms : List Int} {long r s : List Bool} (h : Grows l ms long r) (k : Grows l ms long s) : r = s := by
  induction h with
  | stop h => cases k with
    | stop _ => rfl
    | step h' _ => rw [h] at h'; cases h'
  | step h _ ih => cases k with
    | stop h' => rw [h] at h'; cases h'
    | step _ k => exact ih k
def short (long : List Bool) : Nat := (long.filter fun b => !b).length
theorem growL_same {l : List Dr} {ms : List Int} {long : List Bool} (hlen : long.length = l.length) (h : anyNew l ms long l.length = false) : growL l ms long = long := by
  apply List.ext_getElem
  · rw [growL_len, hlen]
  · intro i h1 h2
    rw [growL_at h1 h2]
    cases hb : long[i] with
    | true => rfl
    | false =>
      have : anyNew l ms long l.length = true ∨ farB l ms (zsOf l long) i = false := by
        cases hf : farB l ms (zsOf l long) i with
        | false => exact .inr rfl
        | true =>
          left
          unfold anyNew
          rw [List.any_eq_true]
          refine ⟨i, List.mem_range.2 (by omega), ?_⟩
          simp [List.getD, h2, hb, hf]
      rcases this with h' | h'
      · rw [h] at h'; cases h'
      · rw [h']; rfl
theorem short_lt {l : List Dr} {ms : List Int} {long : List Bool} (hlen : long.length = l.length) (h : anyNew l ms long l.length = true) : short (growL l ms long) < short long := by
  have key : ∀ (a b : List Bool), a.length = b.length → (∀ i (h1 : i < a.length) (h2 : i < b.length), a[i] = true → b[i] = true) → short b ≤ short a ∧ ((∃ i, ∃ (h1 : i < a.length) (h2 : i < b.length), a[i] = false ∧ b[i] = true) → short b < short a) := by
    intro a
    induction a with
    | nil => intro b hb _; cases b with
      | nil => exact ⟨Nat.le_refl _, fun ⟨i, h1, _⟩ => absurd h1 (by simp)⟩
      | cons _ _ => simp at hb
    | cons x a ih =>
      intro b hb hi
      cases b with
      | nil => simp at hb
      | cons z b =>
        obtain ⟨i1, i2⟩ := ih b (by simpa using hb) fun i h1 h2 hx => by
          have := hi (i + 1) (by simpa using h1) (by simpa using h2) (by simpa using hx)
          simpa using this
        have h0 := hi 0 (by simp) (by simp)
        simp only [List.getElem_cons_zero] at h0
        unfold short at i1 i2 ⊢
        cases x with
        | true =>
          rw [h0 rfl]
          simp only [List.filter_cons, Bool.not_true, Bool.false_eq_true, if_false]
          refine ⟨i1, fun ⟨i, h1, h2, h3, h4⟩ => i2 ?_⟩
          cases i with
          | zero => simp at h3
          | succ i => exact ⟨i, by simpa using h1, by simpa using h2, by simpa using h3, by simpa using h4⟩
        | false =>
          cases z with
          | true =>
            simp only [List.filter_cons, Bool.not_true, Bool.not_false, Bool.false_eq_true, if_false, if_true, List.length_cons]
            exact ⟨by omega, fun _ => by omega⟩
          | false =>
            simp only [List.filter_cons, Bool.not_false, if_true, List.length_cons]
            refine ⟨by omega, fun ⟨i, h1, h2, h3, h4⟩ => Nat.succ_lt_succ (i2 ?_)⟩
            cases i with
            | zero => simp at h4
            | succ i => exact ⟨i, by simpa using h1, by simpa using h2, by simpa using h3, by simpa using h4⟩
  refine (key long (growL l ms long) (by rw [growL_len, hlen]) fun i h1 h2 hx => by rw [growL_at h2 h1, hx]; rfl).2 ?_
  unfold anyNew at h
  rw [List.any_eq_true] at h
  obtain ⟨i, hi, hx⟩ := h
  have hil : i < l.length := List.mem_range.1 hi
  have hil' : i < long.length := by omega
  simp only [List.getD, List.getElem?_eq_getElem hil', Option.getD_some, Bool.and_eq_true, Bool.not_eq_true'] at hx
  exact ⟨i, hil', by rw [growL_len]; exact hil, hx.1, by rw [growL_at _ hil', hx.2, Bool.or_true]⟩

/-- all instructions -/
def outAll (l : List Dr) (ms : List Int) (r : List Bool) (k : Nat) : List Ins := (List.range k).flatMap fun i => match l[i]? with
  | some x => outF l ms (zsOf l r) i x (r.getD i false)
  | none => []
theorem outAll_succ {l : List Dr} {ms : List Int} {r : List Bool} {k : Nat} (h : k < l.length) (h2 : k < r.length) : outAll l ms r (k + 1) = outAll l ms r k ++ outF l ms (zsOf l r) k l[k] r[k] := by
  unfold outAll
  rw [List.range_succ, List.flatMap_append]
  simp [h, List.getD, h2]
theorem outF_len {l : List Dr} {ms : List Int} {zs : List Nat} {i : Nat} {x : Dr} {b : Bool} : 1 ≤ (outF l ms zs i x b).length ∧ (outF l ms zs i x b).length ≤ 3 := by
  unfold outF
  split
  · simp
  · split
    · simp
    · split <;> simp
theorem outAll_len {l : List Dr} {ms : List Int} {r : List Bool} {k : Nat} (h : k ≤ l.length) : k ≤ (outAll l ms r k).length ∧ (outAll l ms r k).length ≤ 3 * k := by
  induction k with
  | zero => simp [outAll]
  | succ k ih =>
    have ih := ih (by omega)
    unfold outAll at ih ⊢
    rw [List.range_succ, List.flatMap_append, List.length_append]
    have hk : k < l.length := by omega
    have := outF_len (l := l) (ms := ms) (zs := zsOf l r) (i := k) (x := l[k]) (b := r.getD k false)
    simp only [List.flatMap_cons, List.flatMap_nil, List.append_nil, List.getElem?_eq_getElem hk]
    omega
theorem opp_bd (x : Int) : -1 ≤ opp x ∧ opp x ≤ 208 := by
  rcases opp_cases x with rfl | rfl | rfl | rfl | rfl | rfl | rfl | rfl | rfl | rfl | h
  all_goals first | (rw [opp_no h]; omega) | decide
theorem small64 {z : Int} (h1 : -400000 ≤ z) (h2 : z ≤ 400000) : i64 z := ⟨by omega, by omega⟩
theorem jmp_fit {z : Int} (h1 : -400000 ≤ z) (h2 : z ≤ 400000) : (jmp z).fit :=
  ⟨small64 (z := 21) (by omega) (by omega), small64 (z := 0) (by omega) (by omega), small64 (z := 0) (by omega) (by omega), small64 (z := 0) (by omega) (by omega), small64 (z := 0) (by omega) (by omega), small64 (z := 0) (by omega) (by omega), small64 (z := z) h1 h2⟩
theorem ins_fit {x : Ins} (h : x.fit) {f z : Int} (hf : i64 f) (h1 : -400000 ≤ z) (h2 : z ≤ 400000) : Ins.fit { x with fn := f, imm := z } := by
  obtain ⟨f1, f2, f3, f4, f5, f6, f7⟩ := h
  exact ⟨f1, f2, f3, f4, hf, f6, small64 h1 h2⟩
theorem outF_fit {l : List Dr} {ms : List Int} {zs : List Nat} {i : Nat} {x : Dr} {b : Bool} (hx : x.ins.fit) (hw : -300000 ≤ wayOf l ms zs i ∧ wayOf l ms zs i ≤ 300000) : ∀ y ∈ outF l ms zs i x b, y.fit := by
  have ho := opp_bd x.ins.fn
  have hfn : i64 x.ins.fn := hx.2.2.2.2.1
  unfold outF
  intro y hy
  split at hy
  · simp only [List.mem_cons, List.not_mem_nil, or_false] at hy; subst hy; exact hx
  · split at hy
    · simp only [List.mem_cons, List.not_mem_nil, or_false] at hy; subst hy; exact ins_fit hx hfn (by omega) (by omega)
    · split at hy
      · simp only [List.mem_cons, List.not_mem_nil, or_false] at hy
        rcases hy with rfl | rfl
        · exact ins_fit hx (small64 (by omega) (by omega)) (by omega) (by omega)
        · exact jmp_fit (by omega) (by omega)
      · simp only [List.mem_cons, List.not_mem_nil, or_false] at hy
        rcases hy with rfl | rfl | rfl
        · exact ins_fit hx hfn (by omega) (by omega)
        · exact jmp_fit (by omega) (by omega)
        · exact jmp_fit (by omega) (by omega)
theorem outAll_fit {l : List Dr} {ms : List Int} {r : List Bool} (hl : ∀ x ∈ l, x.ins.fit) (hn : l.length ≤ 100000) (hr : r.length = l.length) (k : Nat) : ∀ y ∈ outAll l ms r k, y.fit := by
  intro y hy
  unfold outAll at hy
  rw [List.mem_flatMap] at hy
  obtain ⟨i, _, hy⟩ := hy
  split at hy
  · rename_i x hx
    exact outF_fit (hl x (List.mem_of_getElem? hx)) (wayOf_bd zsOf_le (by rw [zsOf_len hr]; exact hn) i) y hy
  · cases hy
theorem reps_zero (n : Nat) : reps [.int .i64 0] n = nums (List.replicate n 0) := by
  induction n with
  | zero => rfl
  | succ n ih => simp only [reps, ih, List.replicate_succ, nums, List.map_cons, List.cons_append, List.nil_append]; rfl
theorem zsOf_short (l : List Dr) : zsOf l (List.replicate l.length false) = List.replicate l.length 1 := by
  apply List.ext_getElem
  · simp [zsOf]
  · intro i h1 h2; simp [zsOf, szOf]

set_option maxHeartbeats 16000000 in
set_option maxRecDepth 20000 in
theorem relax_no {lim : Nat} {l : List Dr} {ms : List Int} {L M : Option Addr} {CL CM : Nat} {hp : Hp} {nx : Nat}
    (hl : Row hp lim L l.length 9 (flat l)) (hm : Row hp lim M ms.length 1 (ints ms)) (hn : l.length ≤ 100000) (hM : ms.length ≤ 9223372036854775807) (hfit : ∀ x ∈ l, x.ins.fit) (h4 : lim ≤ nx) (hmay : mayB l ms = false) :
    ∃ nx', CallR Tryz.prog 13 [.slice L l.length CL, .slice M ms.length CM] hp nx (.ret (.tuple #[.slice none 0 0, .int .i64 2])) hp nx' := by
  refine CallE.still ?_
  refine CallE.of_code hE Tryz.func13 rfl rfl ?_
  repeat (first | refine SeqE.nil ?_ | refine CodeE.seq ?_ | refine CodeE.region ?_ | refine SeqE.step hE (StepO.move (by rfl)) (by rfl) (by rfl) ?_ | refine SeqE.step hE (StepO.assign (by rfl)) (by rfl) (by rfl) ?_)
  refine SeqE.callX hE (opA_call rfl fn28 rfl) (may_ok hl hm hn hM hfit h4) rfl rfl fun nx1 hg1 => ?_
  rw [hmay]
  repeat (first | refine SeqE.nil ?_ | refine CodeE.seq ?_ | refine CodeE.region ?_ | refine CodeE.condT (by rfl) ?_ | refine CodeE.ret ?_ | refine SeqE.step hE (StepO.assign (by rfl)) (by rfl) (by rfl) ?_ | refine SeqE.step hE (StepO.unOp (by rfl) (by rfl)) (by rfl) (by rfl) ?_)
  exact ⟨_, rfl, rfl, fun _ _ => rfl⟩
theorem place_ok' {br bs ba n C C' : Nat} {L M : Value} {zs : List Nat} {cs : List Value} {e1 e2 : TypeId} {o1 o2 : Bool} {hp : Hp} {nx : Nat}
    (h1 : hp br = some (.cells [L, M, .slice (some ⟨bs, 0, none⟩) n C, .slice (some ⟨ba, 0, none⟩) (n + 1) C'] e1 o1))
    (h2 : hp bs = some (.cells (nums zs) e2 o2)) (h3 : hp ba = some (.cells cs 3 true)) (hz : zs.length = n) (hc : cs.length = n + 1) (hn : n ≤ 100000) (hb : ∀ z ∈ zs, z ≤ 3) (hd1 : br ≠ ba) (hd2 : bs ≠ ba) :
    ∃ nx', CallR Tryz.prog 29 [.pointer (some ⟨br, 0, none⟩)] hp nx (.ret (.tuple #[])) (over hp ba (some (.cells (nums (posL zs)) 3 true))) nx' := by
  subst hz
  obtain ⟨e, h', nx', a1, rfl, rfl⟩ := place_ok (nx := nx) h1 h2 h3 rfl hc hn hb hd1 hd2
  rw [laid_posL hc] at a1
  exact ⟨nx', a1⟩
theorem may_says {l : List Dr} {ms : List Int} (h : mayB l ms = true) : (∀ x ∈ l, 0 ≤ x.mark ∧ x.mark ≤ ms.length) ∧ ∀ k ∈ ms, 0 ≤ k ∧ k ≤ l.length := by
  simp only [mayB, Bool.and_eq_true, List.all_eq_true, decide_eq_true_eq, drOk, markOk] at h
  exact ⟨fun x hx => ⟨(h.2 x hx).1.1, (h.2 x hx).1.2.1⟩, fun k hk => h.1.2 k hk⟩
theorem mix0 (n : Nat) : nums (mixL (List.replicate n 0) (List.replicate n 1) 0) = reps [.int .i64 0] n := by rw [reps_zero]; simp [mixL]
theorem reps_len (n : Nat) : (reps [.int .i64 0] n).length = n := by rw [reps_zero]; simp [nums]
theorem posn_len (zs : List Nat) : (nums (posL zs)).length = zs.length + 1 := by rw [nums_len, posL_len]

theorem ones_flat (l : List Ins) : ones (insFlat l) = true := by
  induction l with
  | nil => rfl
  | cons x l ih =>
    have : ∀ (a b : List Value), ones a = true → ones b = true → ones (a ++ b) = true := by
      intro a b ha hb
      induction a with
      | nil => exact hb
      | cons y a iha =>
        simp only [ones, Bool.and_eq_true, List.cons_append] at ha ⊢
        exact ⟨ha.1, iha ha.2⟩
    unfold insFlat at ih ⊢
    rw [List.flatMap_cons]
    exact this _ _ rfl ih
theorem insFlat_append (a b : List Ins) : insFlat (a ++ b) = insFlat a ++ insFlat b := by simp [insFlat]
def RelaxQ (l : List Dr) (ms : List Int) (hp : Hp) (nx : Nat) (e : AEnd) (h' : Hp) (n' : Nat) : Prop :=
  ∃ r, r.length = l.length ∧ Grows l ms (List.replicate l.length false) r ∧ (∀ k, k < nx → h' k = hp k) ∧
    (((outAll l ms r l.length).all chk = true ∧ ∃ A, e = .ret (.tuple #[.slice A (outAll l ms r l.length).length 0, .int .i64 0]) ∧
      (0 < (outAll l ms r l.length).length → ∃ b, A = some ⟨b, 0, none⟩ ∧ nx ≤ b ∧ b < n' ∧ h' b = some (.cells (insFlat (outAll l ms r l.length)) 37 true))) ∨
    ((outAll l ms r l.length).all chk = false ∧ e = .ret (.tuple #[.slice none 0 0, .int .i64 250])))
set_option maxHeartbeats 16000000 in
set_option maxRecDepth 20000 in
theorem relax_yes {lim : Nat} {l : List Dr} {ms : List Int} {L M : Option Addr} {CL CM : Nat} {hp : Hp} {nx : Nat}
    (hl : Row hp lim L l.length 9 (flat l)) (hm : Row hp lim M ms.length 1 (ints ms)) (hn : l.length ≤ 100000) (hM : ms.length ≤ 9223372036854775807) (hfit : ∀ x ∈ l, x.ins.fit) (h4 : lim ≤ nx) (hmay : mayB l ms = true) :
    CallE Tryz.prog 13 [.slice L l.length CL, .slice M ms.length CM] hp nx (RelaxQ l ms hp nx) := by
  obtain ⟨hmk, hms⟩ := may_says hmay
  refine CallE.of_code hE Tryz.func13 rfl rfl ?_
  repeat (first | refine SeqE.nil ?_ | refine CodeE.seq ?_ | refine CodeE.region ?_ | refine SeqE.step hE (StepO.move (by rfl)) (by rfl) (by rfl) ?_ | refine SeqE.step hE (StepO.assign (by rfl)) (by rfl) (by rfl) ?_)
  refine SeqE.callX hE (opA_call rfl fn28 rfl) (may_ok hl hm hn hM hfit h4) rfl rfl fun nx1 hg1 => ?_
  rw [hmay]
  repeat (first | refine SeqE.nil ?_ | refine CodeE.seq ?_ | refine CodeE.draw (slsOf tabs) [] (Tab.slOk tabOk) hE (by kernel_rfl) ?_ | refine CodeE.condF (by rfl) ?_ | refine CodeE.skip ?_ | refine SeqD.step (StepO.move (by rfl)) (by rfl) (by rfl) ?_ | refine SeqD.step (StepO.lenSlice (by rfl) (Tab.slcAt tabOk (by rfl))) (by rfl) (by rfl) ?_ | refine SeqE.step hE (StepO.unOp (by rfl) (by rfl)) (by rfl) (by rfl) ?_)
  refine SeqD.step (StepO.makeSlice (l := l.length) (c := l.length) rfl rfl (Tab.slcAt tabOk rfl) el3 (Nat.le_refl _) (by omega) (by decide)) rfl rfl ?_
  repeat (first | refine SeqD.step (StepO.move (by rfl)) (by rfl) (by rfl) ?_ | refine SeqD.step (StepO.lenSlice (by rfl) (Tab.slcAt tabOk (by rfl))) (by rfl) (by rfl) ?_ | refine SeqD.step (StepO.binOp (by rfl) (by rfl) (addI (by omega))) (by rfl) (by rfl) ?_)
  refine SeqD.step (StepO.makeSlice (l := l.length + 1) (c := l.length + 1) rfl rfl (Tab.slcAt tabOk rfl) el3 (Nat.le_refl _) (by omega) (by decide)) rfl rfl ?_
  repeat (first | refine SeqE.nil ?_ | refine SeqD.nil ?_ | refine CodeE.seq ?_ | refine CodeE.region ?_ | refine CodeE.block ?_ | refine SeqE.step hE (StepO.move (by rfl)) (by rfl) (by rfl) ?_ | refine SeqD.step (StepO.assign (by rfl)) (by rfl) (by rfl) ?_ | refine SeqE.step hE (StepO.nilCheck (by rfl)) (by rfl) (by rfl) ?_ | refine SeqE.step hE (StepO.fieldAddr (by rfl) (Tab.fldAt tabOk (by rfl) (by rfl))) (by rfl) (by rfl) ?_ | refine SeqE.step hE (StepO.load1 (by rfl) (Tab.aggAt tabOk (by rfl)) (by (try dsimp only); (repeat rw [over_other _ _ (by omega)]); first | assumption | exact over_same _ _ _) (by rfl)) (by rfl) (by rfl) ?_ | refine SeqD.step (StepO.box (by rfl) (by rfl)) (by rfl) (by rfl) ?_ | refine SeqE.step hE (StepO.lenSlice (by rfl) (Tab.slcAt tabOk (by rfl))) (by rfl) (by rfl) ?_ | refine SeqD.step (StepO.buildT tabOk (by rfl) (by rfl) (by first | exact el3 | exact el4 | exact el33 | exact el35 | exact el37 | exact el50 | exact el51 | exact el56 | exact el87 | exact el89 | exact el95) (by rfl) (by kernel_rfl) (by rfl)) (by rfl) (by rfl) ?_)
  generalize hbs : nx1 + 1 + 1 + 1 + 1 = bs
  generalize hba : bs + 1 + 1 + 1 + 1 + 1 = ba
  generalize hbr : ba + 1 + 1 + 1 = br
  generalize hN : br + 1 + 1 + 1 = N
  refine CodeE.loop (fun m tm h x => ∃ i, i ≤ l.length ∧ m = l.length - i ∧ N = x ∧ (∀ k, k < nx1 → h k = hp k) ∧
    h br = some (.cells [.slice L l.length CL, .slice M ms.length CM, .slice (some ⟨bs, 0, none⟩) l.length (2 * l.length + 1), .slice (some ⟨ba, 0, none⟩) (l.length + 1) (2 * (l.length + 1) + 1)] 89 true) ∧
    h ba = some (.cells (reps [.int .i64 0] (l.length + 1)) 3 true) ∧ h bs = some (.cells (nums (mixL (List.replicate l.length 0) (List.replicate l.length 1) i)) 3 true) ∧
    ExtL [(0, .slice L l.length CL), (1, .slice M ms.length CM), (6, .pointer (some ⟨br, 0, none⟩)), (31, .int .i64 l.length), (32, .int .i64 i)] tm) ?_ l.length _ _ _
    ⟨0, by omega, by omega, rfl, fun k hk => by rw [over_other _ _ (by omega), over_other _ _ (by omega), over_other _ _ (by omega)], by rw [over_same]; rfl, by rw [over_other _ _ (by omega), over_same], by rw [over_other _ _ (by omega), over_other _ _ (by omega), over_same, mix0], rfl, rfl, rfl, rfl, rfl, trivial⟩
  rintro m tm h x ⟨i, hi, rfl, rfl, hfr, hhr, hha, hhs, ht⟩
  refine CodeE.less ht ?_
  clear ht tm
  by_cases hlt : i < l.length
  case pos =>
    repeat (first | refine SeqE.nil ?_ | refine CodeE.seq ?_ | refine CodeE.region ?_ | refine CodeE.block ?_ | refine CodeE.condT (by rfl) ?_ | refine CodeE.skip ?_ | refine SeqE.step hE (StepO.move (by rfl)) (by rfl) (by rfl) ?_ | refine SeqE.step hE (StepO.assign (by rfl)) (by rfl) (by rfl) ?_ | refine SeqE.step hE (StepO.nilCheck (by rfl)) (by rfl) (by rfl) ?_ | refine SeqE.step hE (StepO.fieldAddr (by rfl) (Tab.fldAt tabOk (by rfl) (by rfl))) (by rfl) (by rfl) ?_ | refine SeqE.step hE (StepO.load1 (by rfl) (Tab.aggAt tabOk (by rfl)) (by (try dsimp only); (repeat rw [over_other _ _ (by omega)]); first | assumption | exact over_same _ _ _) (by rfl)) (by rfl) (by rfl) ?_ | refine SeqE.step hE (StepO.indexAddr (by rfl) (by rfl) (Tab.slcAt tabOk (by rfl)) (by omega)) (by rfl) (by rfl) ?_ | refine SeqE.step hE (StepO.binOp (by rfl) (by rfl) (lssT (by omega))) (by rfl) (by rfl) ?_)
    refine SeqE.step hE (StepO.store1 rfl rfl (Tab.sizeAt tabOk rfl) rfl rfl (by (try dsimp only); (repeat rw [over_other _ _ (by omega)]); first | assumption | exact over_same _ _ _) (by rw [nums_len, mixL_len (by simp) (by simp; omega)]; simp; omega)) rfl rfl ?_
    repeat (first | refine SeqE.nil ?_ | refine CodeE.region ?_ | refine SeqE.step hE (StepO.move (by rfl)) (by rfl) (by rfl) ?_ | refine SeqE.step hE (StepO.binOp (by rfl) (by rfl) (addI (by omega))) (by rfl) (by rfl) ?_)
    refine ⟨l.length - (i + 1), by omega, i + 1, by omega, rfl, rfl, fun k hk => ?_, ?_, ?_, ?_, rfl, rfl, rfl, rfl, rfl, trivial⟩
    · ((try dsimp only); (repeat rw [over_other _ _ (by omega)])); exact hfr k hk
    · ((try dsimp only); (repeat rw [over_other _ _ (by omega)])); exact hhr
    · ((try dsimp only); (repeat rw [over_other _ _ (by omega)])); exact hha
    · (try dsimp only); rw [over_same, at_int, nums_set (i := i) (v := 1) (x := 1) rfl rfl]
      have := mixL_set (a := List.replicate l.length 0) (b := List.replicate l.length 1) (k := i) (by simp) (by simpa using hlt)
      simp only [List.getElem_replicate] at this
      rw [this]
  obtain rfl : i = l.length := by omega
  rw [mixL_full (by simp) (by simp), ← zsOf_short l] at hhs
  clear hlt hi
  have hsl : (zsOf l (List.replicate l.length false)).length = l.length := zsOf_len (by simp)
  repeat (first | refine SeqE.nil ?_ | refine CodeE.seq ?_ | refine CodeE.region ?_ | refine CodeE.condF (by rfl) ?_ | refine CodeE.exit ?_ | refine SeqE.step hE (StepO.move (by rfl)) (by rfl) (by rfl) ?_ | refine SeqE.step hE (StepO.binOp (by rfl) (by rfl) (lssF (by omega))) (by rfl) (by rfl) ?_)
  refine SeqE.callX hE (opA_call rfl fn29 rfl) (place_ok' (by (try dsimp only); (repeat rw [over_other _ _ (by omega)]); first | assumption | exact over_same _ _ _) (by (try dsimp only); (repeat rw [over_other _ _ (by omega)]); first | assumption | exact over_same _ _ _) (by (try dsimp only); (repeat rw [over_other _ _ (by omega)]); first | assumption | exact over_same _ _ _) hsl (reps_len _) hn zsOf_le (by omega) (by omega)) rfl rfl fun nx2 hg2 => ?_
  repeat (first | refine SeqE.nil ?_ | refine CodeE.seq ?_ | refine CodeE.block ?_)
  refine CodeE.loop (fun m tm h x => ∃ long : List Bool, m = short long ∧ long.length = l.length ∧ N ≤ x ∧ (∀ r, Grows l ms long r → Grows l ms (List.replicate l.length false) r) ∧ (∀ k, k < nx1 → h k = hp k) ∧
    h br = some (.cells [.slice L l.length CL, .slice M ms.length CM, .slice (some ⟨bs, 0, none⟩) l.length (2 * l.length + 1), .slice (some ⟨ba, 0, none⟩) (l.length + 1) (2 * (l.length + 1) + 1)] 89 true) ∧
    h ba = some (.cells (nums (posL (zsOf l long))) 3 true) ∧ h bs = some (.cells (nums (zsOf l long)) 3 true) ∧
    ExtL [(0, .slice L l.length CL), (1, .slice M ms.length CM), (6, .pointer (some ⟨br, 0, none⟩))] tm) ?_ _ _ _ _
    ⟨List.replicate l.length false, rfl, by simp, by omega, fun r hr => hr, fun k hk => by ((try dsimp only); (repeat rw [over_other _ _ (by omega)])); exact hfr k hk, by ((try dsimp only); (repeat rw [over_other _ _ (by omega)])); exact hhr, by rw [over_same], by ((try dsimp only); (repeat rw [over_other _ _ (by omega)])); exact hhs, rfl, rfl, rfl, trivial⟩
  rintro m tm h2 x ⟨long, rfl, hlen, hNx, hG, hfr2, hhr2, hha2, hhs2, ht⟩
  refine CodeE.less ht ?_
  clear ht tm
  have hl2 : Row h2 lim L l.length 9 (flat l) := hl.keep fun k hk => hfr2 k (by omega)
  have hm2 : Row h2 lim M ms.length 1 (ints ms) := hm.keep fun k hk => hfr2 k (by omega)
  have hzl := zsOf_len hlen
  have hgrow : ∀ nx, N ≤ nx → ∃ nx', CallR Tryz.prog 30 [.pointer (some ⟨br, 0, none⟩)] h2 nx (.ret (.bool (anyNew l ms long l.length))) (over h2 bs (some (.cells (nums (zsOf l (growL l ms long))) 3 true))) nx' :=
    fun nx hnx => grow_ok hhr2 hl2 hm2 hhs2 hha2 hlen hn hM hmk hms (by omega) (by omega) (by omega) (by omega) (by omega) (by omega) (by omega)
  rcases Bool.eq_false_or_eq_true (anyNew l ms long l.length) with hany | hany
  · rw [hany] at hgrow
    repeat (first | refine CodeE.seq ?_ | refine CodeE.region ?_ | refine SeqE.step hE (StepO.move (by rfl)) (by rfl) (by rfl) ?_)
    refine SeqE.callX hE (opA_call rfl fn30 rfl) (hgrow _ (by omega)) rfl rfl fun nx3 hg3 => ?_
    repeat (first | refine SeqE.nil ?_ | refine CodeE.region ?_ | refine CodeE.block ?_ | refine CodeE.condT (by rfl) ?_ | refine CodeE.skip ?_ | refine SeqE.step hE (StepO.move (by rfl)) (by rfl) (by rfl) ?_)
    refine SeqE.callX hE (opA_call rfl fn29 rfl) (place_ok' (by (try dsimp only); (repeat rw [over_other _ _ (by omega)]); first | assumption | exact over_same _ _ _) (by (try dsimp only); (repeat rw [over_other _ _ (by omega)]); first | assumption | exact over_same _ _ _) (by (try dsimp only); (repeat rw [over_other _ _ (by omega)]); first | assumption | exact over_same _ _ _) (zsOf_len (growL_len l ms long)) (by rw [posn_len, hzl]) hn zsOf_le (by omega) (by omega)) rfl rfl fun nx4 hg4 => ?_
    repeat (first | refine SeqE.nil ?_)
    refine ⟨short (growL l ms long), short_lt hlen hany, growL l ms long, rfl, growL_len l ms long, by omega, fun r hr => hG r (.step hany hr), fun k hk => ?_, ?_, ?_, ?_, rfl, rfl, rfl, trivial⟩
    · ((try dsimp only); (repeat rw [over_other _ _ (by omega)])); exact hfr2 k hk
    · ((try dsimp only); (repeat rw [over_other _ _ (by omega)])); exact hhr2
    · ((try dsimp only); (repeat rw [over_other _ _ (by omega)])); rw [over_same]
    · ((try dsimp only); (repeat rw [over_other _ _ (by omega)])); rw [over_same]
  rw [hany, growL_same hlen hany] at hgrow
  have hGr := hG long (.stop hany)
  repeat (first | refine CodeE.seq ?_ | refine CodeE.region ?_ | refine SeqE.step hE (StepO.move (by rfl)) (by rfl) (by rfl) ?_)
  refine SeqE.callX hE (opA_call rfl fn30 rfl) (hgrow _ (by omega)) rfl rfl fun nx3 hg3 => ?_
  rw [← over_self hhs2]
  repeat (first | refine SeqE.nil ?_ | refine CodeE.seq ?_ | refine CodeE.region ?_ | refine CodeE.block ?_ | refine CodeE.condF (by rfl) ?_ | refine CodeE.exit ?_ | refine SeqE.step hE (StepO.move (by rfl)) (by rfl) (by rfl) ?_ | refine SeqE.step hE (StepO.assign (by rfl)) (by rfl) (by rfl) ?_ | refine SeqE.step hE (StepO.lenSlice (by rfl) (Tab.slcAt tabOk (by rfl))) (by rfl) (by rfl) ?_)
  refine CodeE.loop (fun m tm h y => ∃ i A, i ≤ l.length ∧ m = l.length - i ∧ nx3 ≤ y ∧ (∀ k, k < nx3 → h k = h2 k) ∧ (i = 0 → A = none) ∧
    (0 < i → ∃ b, A = some ⟨b, 0, none⟩ ∧ nx3 ≤ b ∧ b < y ∧ h b = some (.cells (insFlat (outAll l ms long i)) 37 true)) ∧
    ExtL [(6, .pointer (some ⟨br, 0, none⟩)), (8, .slice A (outAll l ms long i).length 0), (49, .int .i64 l.length), (50, .int .i64 i)] tm) ?_ l.length _ _ _
    ⟨0, none, by omega, by omega, Nat.le_refl _, fun k hk => rfl, fun _ => rfl, fun h => absurd h (by omega), rfl, rfl, rfl, rfl, trivial⟩
  rintro m tm h3 y ⟨i, A, hi, rfl, hny, hfr3, hA0, hA1, ht⟩
  refine CodeE.less ht ?_
  clear ht tm
  have hol := outAll_len (ms := ms) (r := long) hi
  by_cases hlt : i < l.length
  case pos =>
    have hsucc := outAll_succ (ms := ms) hlt (by omega : i < long.length)
    have hm1 := outF_len (l := l) (ms := ms) (zs := zsOf l long) (i := i) (x := l[i]) (b := long[i]'(by omega))
    repeat (first | refine SeqE.nil ?_ | refine CodeE.seq ?_ | refine CodeE.region ?_ | refine CodeE.block ?_ | refine CodeE.condT (by rfl) ?_ | refine CodeE.skip ?_ | refine SeqE.step hE (StepO.move (by rfl)) (by rfl) (by rfl) ?_ | refine SeqE.step hE (StepO.assign (by rfl)) (by rfl) (by rfl) ?_ | refine SeqE.step hE (StepO.binOp (by rfl) (by rfl) (lssT (by omega))) (by rfl) (by rfl) ?_)
    obtain ⟨nx4, b, hb1, hb2, hco⟩ := out_ok (nx := y) ((hfr3 br (by omega)).trans hhr2) (hl2.keep fun k hk => hfr3 k (by omega)) (hm2.keep fun k hk => hfr3 k (by omega)) ((hfr3 bs (by omega)).trans hhs2) ((hfr3 ba (by omega)).trans hha2) hlen hn hM hmk hms (by omega) (by omega) (by omega) (by omega) hlt
    generalize hgo : outF l ms (zsOf l long) i l[i] (long[i]'(by omega)) = o at hsucc hm1 hco
    refine SeqE.call hE (opA_call rfl fn31 rfl) hco rfl rfl ?_
    by_cases hi0 : i = 0
    · obtain rfl := hA0 hi0
      subst hi0
      refine SeqE.step hE (StepO.append rfl rfl (aAppend_nil (news := insFlat o) (Tab.slcAt tabOk rfl) el37 (by omega) (by decide) (by decide) (by omega) (hread_all (by (try dsimp only); (repeat rw [over_other _ _ (by omega)]); first | assumption | exact over_same _ _ _) (ins_len o)) (ones_flat o))) rfl rfl ?_
      repeat (first | refine SeqE.nil ?_ | refine CodeE.region ?_ | refine SeqE.step hE (StepO.move (by rfl)) (by rfl) (by rfl) ?_ | refine SeqE.step hE (StepO.assign (by rfl)) (by rfl) (by rfl) ?_ | refine SeqE.step hE (StepO.binOp (by rfl) (by rfl) (addI (by omega))) (by rfl) (by rfl) ?_)
      refine ⟨l.length - (0 + 1), by omega, 0 + 1, some ⟨nx4, 0, none⟩, by omega, rfl, ?_, fun k hk => ?_, fun h => absurd h (by omega), fun _ => ⟨nx4, rfl, by omega, ?_, ?_⟩, rfl, ?_, rfl, rfl, trivial⟩
      · dsimp only [Eff.nx]; omega
      · dsimp only [Eff.hp]; rw [over_other _ _ (by omega), over_other _ _ (by omega)]; exact hfr3 k hk
      · dsimp only [Eff.nx]; omega
      · dsimp only [Eff.hp]; rw [over_same, hsucc]; rfl
      · rw [hsucc]; rfl
    · obtain ⟨b0, rfl, hb3, hb4, hb5⟩ := hA1 (by omega)
      refine SeqE.step hE (StepO.append rfl rfl (aAppend_own (old := insFlat (outAll l ms long i)) (news := insFlat o) (Tab.slcAt tabOk rfl) el37 (by omega) (by omega) (by decide) (by decide) (by omega) (by rw [over_other _ _ (by omega)]; exact hb5) (ins_len _) (hread_all (by (try dsimp only); (repeat rw [over_other _ _ (by omega)]); first | assumption | exact over_same _ _ _) (ins_len o)) (ones_flat o))) rfl rfl ?_
      repeat (first | refine SeqE.nil ?_ | refine CodeE.region ?_ | refine SeqE.step hE (StepO.move (by rfl)) (by rfl) (by rfl) ?_ | refine SeqE.step hE (StepO.assign (by rfl)) (by rfl) (by rfl) ?_ | refine SeqE.step hE (StepO.binOp (by rfl) (by rfl) (addI (by omega))) (by rfl) (by rfl) ?_)
      refine ⟨l.length - (i + 1), by omega, i + 1, some ⟨nx4, 0, none⟩, by omega, rfl, ?_, fun k hk => ?_, fun h => absurd h (by omega), fun _ => ⟨nx4, rfl, by omega, ?_, ?_⟩, rfl, ?_, rfl, rfl, trivial⟩
      · dsimp only [Eff.nx]; omega
      · dsimp only [Eff.hp]; rw [over_other _ _ (by omega), over_other _ _ (by omega), over_other _ _ (by omega)]; exact hfr3 k hk
      · dsimp only [Eff.nx]; omega
      · dsimp only [Eff.hp]; rw [over_same, hsucc, insFlat_append]
      · rw [hsucc, List.length_append]; rfl
  obtain rfl : i = l.length := by omega
  have hfo := outAll_fit (ms := ms) hfit hn hlen l.length
  have hob : (outAll l ms long l.length).length ≤ 300000 := by omega
  have hfr5 : ∀ k, k < nx1 → h3 k = hp k := fun k hk => (hfr3 k (by omega)).trans (hfr2 k hk)
  have hA2 : 0 < (outAll l ms long l.length).length → ∃ b, A = some ⟨b, 0, none⟩ ∧ nx3 ≤ b ∧ b < y ∧ h3 b = some (.cells (insFlat (outAll l ms long l.length)) 37 true) := fun h => hA1 (by omega)
  generalize hgo : outAll l ms long l.length = o at hfo hob hA2 hol
  have hQ : ∀ e h' n', (∀ k, k < nx → h' k = hp k) ∧ ((o.all chk = true ∧ ∃ A, e = .ret (.tuple #[.slice A o.length 0, .int .i64 0]) ∧ (0 < o.length → ∃ b, A = some ⟨b, 0, none⟩ ∧ nx ≤ b ∧ b < n' ∧ h' b = some (.cells (insFlat o) 37 true))) ∨
      (o.all chk = false ∧ e = .ret (.tuple #[.slice none 0 0, .int .i64 250]))) → RelaxQ l ms hp nx e h' n' := by
    intro e h' n' ⟨q1, q2⟩
    refine ⟨long, hlen, hGr, q1, ?_⟩
    rw [hgo]; exact q2
  clear hA0 hA1
  repeat (first | refine SeqE.nil ?_ | refine CodeE.seq ?_ | refine CodeE.region ?_ | refine CodeE.block ?_ | refine CodeE.condF (by rfl) ?_ | refine CodeE.exit ?_ | refine SeqE.step hE (StepO.move (by rfl)) (by rfl) (by rfl) ?_ | refine SeqE.step hE (StepO.lenSlice (by rfl) (Tab.slcAt tabOk (by rfl))) (by rfl) (by rfl) ?_ | refine SeqE.step hE (StepO.binOp (by rfl) (by rfl) (lssF (by omega))) (by rfl) (by rfl) ?_)
  refine CodeE.loop (fun m tm h z => ∃ j, j ≤ o.length ∧ m = o.length - j ∧ y ≤ z ∧ (∀ k, k < y → h k = h3 k) ∧ (∀ i (hi : i < o.length), i < j → chk o[i] = true) ∧
    ExtL [(8, .slice A o.length 0), (59, .slice A o.length 0), (60, .int .i64 o.length), (61, .int .i64 j)] tm) ?_ o.length _ _ _
    ⟨0, by omega, by omega, Nat.le_refl _, fun k hk => rfl, fun i _ h => absurd h (by omega), by rw [← hgo]; rfl, by rw [← hgo]; rfl, by rw [← hgo]; rfl, rfl, trivial⟩
  rintro m tm h4' z ⟨j, hj, rfl, hyz, hfr4, hck, ht⟩
  refine CodeE.less ht ?_
  clear ht tm
  by_cases hlt2 : j < o.length
  case pos =>
    obtain ⟨b, rfl, hb1, hb2, hb3⟩ := hA2 (by omega)
    have hb4 : h4' b = some (.cells (insFlat o) 37 true) := (hfr4 b hb2).trans hb3
    have hfj := hfo _ (List.getElem_mem hlt2)
    repeat (first | refine SeqE.nil ?_ | refine CodeE.seq ?_ | refine CodeE.region ?_ | refine CodeE.block ?_ | refine CodeE.condT (by rfl) ?_ | refine CodeE.skip ?_ | refine SeqE.step hE (StepO.indexAddr (by rfl) (by rfl) (Tab.slcAt tabOk (by rfl)) (by omega)) (by rfl) (by rfl) ?_ | refine SeqE.step hE (StepO.binOp (by rfl) (by rfl) (lssT (by omega))) (by rfl) (by rfl) ?_)
    refine SeqE.step hE (StepO.loadA rfl (Tab.aggAt tabOk rfl) (Tab.sizeAt tabOk rfl) (ins_read hb4 hlt2 (by first | omega | (dsimp only; omega) | (simp only [] at *; omega)))) rfl rfl ?_
    rcases Bool.eq_false_or_eq_true (chk o[j]) with hc | hc
    · have hck2 : ∀ hp nx, ∃ nx1, CallR Tryz.prog 32 [.agg ⟨o[j].vals⟩] hp nx (.ret (.bool true)) hp nx1 := fun hp nx => ⟨nx, by have := check_ok hfj hp nx; rwa [hc] at this⟩
      repeat (first | refine SeqE.nil ?_ | refine CodeE.seq ?_ | refine CodeE.region ?_ | refine SeqE.step hE (StepO.loadC (by rfl) (Tab.aggAt tabOk (by rfl)) (Tab.sizeAt tabOk (by rfl)) (by (try dsimp only); (repeat rw [over_other _ _ (by omega)]); first | assumption | exact over_same _ _ _) (by rfl)) (by rfl) (by rfl) ?_ | refine SeqE.step hE (StepO.storeAll (by rfl) (by rfl) (Tab.sizeAt tabOk (by rfl)) (by (try dsimp only); (repeat rw [over_other _ _ (by omega)]); first | assumption | exact over_same _ _ _) (by rfl) (by rfl)) (by rfl) (by rfl) ?_ | refine SeqE.step hE (StepO.make (by first | exact el3 | exact el4 | exact el33 | exact el35 | exact el37 | exact el50 | exact el51 | exact el56 | exact el87 | exact el89 | exact el95)) (by rfl) (by rfl) ?_)
      refine SeqE.callX hE (opA_call rfl fn32 rfl) (hck2 _ _) rfl rfl fun nx5 hg5 => ?_
      repeat (first | refine SeqE.nil ?_ | refine CodeE.region ?_ | refine CodeE.condF (by rfl) ?_ | refine CodeE.skip ?_ | refine SeqE.step hE (StepO.move (by rfl)) (by rfl) (by rfl) ?_ | refine SeqE.step hE (StepO.binOp (by rfl) (by rfl) (addI (by omega))) (by rfl) (by rfl) ?_ | refine SeqE.step hE (StepO.unOp (by rfl) (by rfl)) (by rfl) (by rfl) ?_)
      refine ⟨o.length - (j + 1), by omega, j + 1, by omega, rfl, by omega, fun k hk => ?_, fun i hi hij => ?_, rfl, rfl, rfl, rfl, trivial⟩
      · ((try dsimp only); (repeat rw [over_other _ _ (by omega)])); exact hfr4 k hk
      · by_cases e : i = j
        · subst e; exact hc
        · exact hck i hi (by omega)
    · have hck2 : ∀ hp nx, ∃ nx1, CallR Tryz.prog 32 [.agg ⟨o[j].vals⟩] hp nx (.ret (.bool false)) hp nx1 := fun hp nx => ⟨nx, by have := check_ok hfj hp nx; rwa [hc] at this⟩
      repeat (first | refine SeqE.nil ?_ | refine CodeE.seq ?_ | refine CodeE.region ?_ | refine SeqE.step hE (StepO.loadC (by rfl) (Tab.aggAt tabOk (by rfl)) (Tab.sizeAt tabOk (by rfl)) (by (try dsimp only); (repeat rw [over_other _ _ (by omega)]); first | assumption | exact over_same _ _ _) (by rfl)) (by rfl) (by rfl) ?_ | refine SeqE.step hE (StepO.storeAll (by rfl) (by rfl) (Tab.sizeAt tabOk (by rfl)) (by (try dsimp only); (repeat rw [over_other _ _ (by omega)]); first | assumption | exact over_same _ _ _) (by rfl) (by rfl)) (by rfl) (by rfl) ?_ | refine SeqE.step hE (StepO.make (by first | exact el3 | exact el4 | exact el33 | exact el35 | exact el37 | exact el50 | exact el51 | exact el56 | exact el87 | exact el89 | exact el95)) (by rfl) (by rfl) ?_)
      refine SeqE.callX hE (opA_call rfl fn32 rfl) (hck2 _ _) rfl rfl fun nx5 hg5 => ?_
      repeat (first | refine SeqE.nil ?_ | refine CodeE.seq ?_ | refine CodeE.region ?_ | refine CodeE.condT (by rfl) ?_ | refine CodeE.ret ?_ | refine SeqE.step hE (StepO.assign (by rfl)) (by rfl) (by rfl) ?_ | refine SeqE.step hE (StepO.unOp (by rfl) (by rfl)) (by rfl) (by rfl) ?_)
      refine ⟨_, rfl, hQ _ _ _ ⟨fun k hk => ?_, .inr ⟨?_, rfl⟩⟩⟩
      · ((try dsimp only); (repeat rw [over_other _ _ (by omega)])); rw [hfr4 k (by omega)]; exact hfr5 k (by omega)
      · rw [List.all_eq_false]; exact ⟨o[j], List.getElem_mem hlt2, by simp [hc]⟩
  obtain rfl : j = o.length := by omega
  repeat (first | refine SeqE.nil ?_ | refine CodeE.seq ?_ | refine CodeE.region ?_ | refine CodeE.condF (by rfl) ?_ | refine CodeE.exit ?_ | refine CodeE.ret ?_ | refine SeqE.step hE (StepO.move (by rfl)) (by rfl) (by rfl) ?_ | refine SeqE.step hE (StepO.assign (by rfl)) (by rfl) (by rfl) ?_ | refine SeqE.step hE (StepO.binOp (by rfl) (by rfl) (lssF (by omega))) (by rfl) (by rfl) ?_)
  refine ⟨_, rfl, hQ _ _ _ ⟨fun k hk => ?_, .inl ⟨?_, A, rfl, fun hpos => ?_⟩⟩⟩
  · rw [hfr4 k (by omega)]; exact hfr5 k (by omega)
  · rw [List.all_eq_true]
    intro x hx
    obtain ⟨i, hi, rfl⟩ := List.getElem_of_mem hx
    exact hck i hi hi
  · obtain ⟨b, e1, e2, e3, e4⟩ := hA2 hpos
    exact ⟨b, e1, by omega, by omega, (hfr4 b e3).trans e4⟩
end Go.Pick
