/-
  What is proved: a further law of the layer. Conditions: none.
-/
import Derived.Test.YtbjncdcfojjacaaGreatPkDoc
import Derived.Test.YtbjncdcfojjacaaGreatPkMayTwo
set_option linter.unusedVariables false
set_option linter.unusedSimpArgs false
set_option linter.unusedSectionVars false
namespace Go.Pick
open Go Go.RowKit Go.Sx Go.Sy Go.Proofs

theorem flat_op {l : List Dr} {i k : Nat} (hi : i < l.length) (hk : k = i * 9) : (flat l)[k]? = some (.int .i64 l[i].ins.op) := by
  rw [flat_at hi (j := 0) (by omega) (by omega)]; rfl
theorem bools_val {l : List Bool} {i k : Nat} {v : Bool} (hk : k = i) (h : i < l.length) (hv : l[i] = v) : (bools l)[k]? = some (.bool v) := by subst hk; subst hv; simp [bools, h]
theorem bools_set {l : List Bool} {i k : Nat} {v : Bool} (hk : k = i) : (bools l).set k (.bool v) = bools (l.set i v) := by
  subst hk; simp [bools, List.map_set]
theorem reps_false (n : Nat) : reps [.bool false] n = bools (List.replicate n false) := by
  induction n with
  | zero => rfl
  | succ n ih => simp only [reps, ih, List.replicate_succ, bools, List.map_cons, List.cons_append, List.nil_append]
/-- the first of one, the rest of another -/
def mixG (a b : List Bool) (k : Nat) : List Bool := b.take k ++ a.drop k
theorem mixG_len {a b : List Bool} {k : Nat} (h : b.length = a.length) (hk : k ≤ a.length) : (mixG a b k).length = a.length := by simp [mixG]; omega
theorem mixG_at {a b : List Bool} {k : Nat} (h : b.length = a.length) (hk : k < a.length) (h1 : k < (mixG a b k).length) : (mixG a b k)[k] = a[k] := by
  have h2 : (mixG a b k)[k]? = a[k]? := by
    unfold mixG
    rw [List.getElem?_append_right (by simp; omega)]
    simp [h, Nat.min_eq_left (Nat.le_of_lt hk)]
  rw [List.getElem?_eq_getElem h1, List.getElem?_eq_getElem hk] at h2
  exact Option.some.inj h2
theorem mixG_set {a b : List Bool} {k : Nat} (h : b.length = a.length) (hk : k < a.length) : (mixG a b k).set k b[k] = mixG a b (k + 1) := by
  unfold mixG
  rw [List.set_append_right _ _ (by simp; omega), List.take_succ_eq_append_getElem (by omega), List.append_assoc, List.drop_eq_getElem_cons hk]
  congr 1
  simp [h, Nat.min_eq_left (Nat.le_of_lt hk)]
  rw [List.drop_eq_getElem_cons hk]
  rfl
theorem mixG_full {a b : List Bool} {n : Nat} (h : b.length = n) (h2 : a.length = n) : mixG a b n = b := by subst h; simp [mixG, h2]
theorem mixG_same {a b : List Bool} {k : Nat} (h : b.length = a.length) (hk : k < a.length) (e : b[k] = a[k]) : mixG a b k = mixG a b (k + 1) := by
  rw [← mixG_set h hk, e]
  rw [show a[k] = (mixG a b k)[k]'(by rw [mixG_len h (by omega)]; exact hk) from (mixG_at h hk _).symm, List.set_getElem_self]
theorem mixG_zero (a b : List Bool) : mixG a b 0 = a := by simp [mixG]
/-- what has been put out so far -/
structure Out (lo : Nat) (h : Hp) (y : Nat) (A : Option Addr) (o : List Ins) : Prop where
  nil : o.length = 0 → A = none
  row : 0 < o.length → ∃ b, A = some ⟨b, 0, none⟩ ∧ lo ≤ b ∧ b < y ∧ h b = some (.cells (insFlat o) 37 true)
theorem Out.keep {lo : Nat} {h h' : Hp} {y y' : Nat} {A : Option Addr} {o : List Ins} (H : Out lo h y A o) (hy : y ≤ y') (hk : ∀ k, lo ≤ k → k < y → h' k = h k) : Out lo h' y' A o :=
  ⟨H.nil, fun hp => let ⟨b, e1, e2, e3, e4⟩ := H.row hp; ⟨b, e1, e2, by omega, (hk b e2 e3).trans e4⟩⟩
theorem Out.app {lo : Nat} {h : Hp} {y : Nat} {A : Option Addr} {o q : List Ins} {s C : Nat} {own : Bool} (H : Out lo h y A o) (hs : h s = some (.cells (insFlat q) 37 own)) (hq : 0 < q.length) (hbig : o.length + q.length ≤ 300000) (hlo : lo ≤ y) :
    ∃ e : Eff, aAppend env h y 33 (.slice A o.length 0) (.slice (some ⟨s, 0, none⟩) q.length C) = some (.slice (some ⟨y, 0, none⟩) (o ++ q).length 0, e) ∧ e.nx y = y + 1 ∧ (∀ k, k < lo → e.hp h y k = h k) ∧ Out lo (e.hp h y) (y + 1) (some ⟨y, 0, none⟩) (o ++ q) := by
  have hr : hread h ⟨s, 0, none⟩ (q.length * 8) = some (insFlat q) := hread_all hs (ins_len q)
  by_cases h0 : o.length = 0
  · obtain rfl := H.nil h0
    have e0 : o = [] := List.eq_nil_of_length_eq_zero h0
    subst e0
    refine ⟨_, aAppend_nil (Tab.slcAt tabOk rfl) el37 (by omega) (by decide) (by decide) (by omega) hr (ones_flat q), rfl, fun k hk => ?_, fun h => ?_, fun _ => ⟨y, rfl, hlo, by omega, ?_⟩⟩
    · dsimp only [Eff.hp]; rw [over_other _ _ (by omega)]
    · rw [List.length_append] at h; omega
    · dsimp only [Eff.hp]; rw [over_same]; rfl
  · obtain ⟨b, rfl, h1, h2, h3⟩ := H.row (by omega)
    refine ⟨.move b (.cells (insFlat o ++ insFlat q) 37 true), ?_, ?_, fun k hk => ?_, fun h => ?_, fun _ => ⟨y, rfl, hlo, by omega, ?_⟩⟩
    · rw [List.length_append]; exact aAppend_own (Tab.slcAt tabOk rfl) el37 h0 (by omega) (by decide) (by decide) (by omega) h3 (ins_len o) hr (ones_flat q)
    · rfl
    · dsimp only [Eff.hp]; rw [over_other _ _ (by omega), over_other _ _ (by omega)]
    · rw [List.length_append] at h; omega
    · dsimp only [Eff.hp]; rw [over_same, insFlat_append]
theorem SeqE.out {N : Nat} {all : Array Oper} {rest : List Oper} {tm : T} {hp : Hp} {nx : Nat} {Q : Option Value → T → Hp → Nat → Prop} {d : Option Tmp} {x yv : Operand} {ty pos after g} {A : Option Addr} {o q : List Ins} {s C lo : Nat} {own : Bool} (hE : EnvOk env Tryz.prog)
    (hx : ev tm x = some (.slice A o.length 0)) (hy : ev tm yv = some (.slice (some ⟨s, 0, none⟩) q.length C)) (H : Out lo hp nx A o) (hs : hp s = some (.cells (insFlat q) 37 own)) (hq : 0 < q.length) (hbig : o.length + q.length ≤ 300000) (hlo : lo ≤ nx)
    (hw : Sy.wantedA tm all ⟨d, .call ⟨.builtin .append, #[x, yv], #[33, 33]⟩, ty, pos, after, g⟩ = some true) (hd : Sy.dstOk N d = true)
    (k : ∀ h' b, (∀ k, k < lo → h' k = hp k) → Out lo h' (nx + 1) (some ⟨b, 0, none⟩) (o ++ q) → Sy.SeqE Tryz.prog N all rest (Sy.upd tm d (.slice (some ⟨b, 0, none⟩) (o ++ q).length 0)) h' (nx + 1) Q) :
    Sy.SeqE Tryz.prog N all (⟨d, .call ⟨.builtin .append, #[x, yv], #[33, 33]⟩, ty, pos, after, g⟩ :: rest) tm hp nx Q := by
  obtain ⟨e, h1, h2, h3, h4⟩ := H.app (C := C) hs hq hbig hlo
  have h5 : StepO env Tryz.prog ⟨d, .call ⟨.builtin .append, #[x, yv], #[33, 33]⟩, ty, pos, after, g⟩ tm hp nx _ (e.hp hp nx) (e.nx nx) := StepO.append hx hy h1
  rw [h2] at h5
  exact Sy.SeqE.step hE h5 hw hd (k _ _ h3 h4)
end Go.Pick
namespace Go.Pick
open Go Go.RowKit Go.Sx Go.Sy Go.Proofs

set_option maxHeartbeats 16000000 in
set_option maxRecDepth 20000 in
theorem relax2_no {lim : Nat} {l : List Dr} {ms : List Int} {L M : Option Addr} {CL CM : Nat} {hp : Hp} {nx : Nat}
    (hl : Row hp lim L l.length 9 (flat l)) (hm : Row hp lim M ms.length 1 (ints ms)) (hn : l.length ≤ 100000) (hM : ms.length ≤ 9223372036854775807) (hfit : ∀ x ∈ l, x.ins.fit) (h4 : lim ≤ nx) (hmay : mayB l ms = false) :
    ∃ nx', CallR Tryz.prog 17 [.slice L l.length CL, .slice M ms.length CM] hp nx (.ret (.tuple #[.slice none 0 0, .int .i64 2])) hp nx' := by
  refine CallE.still ?_
  refine CallE.of_code hE Tryz.func17 rfl rfl ?_
  repeat (first | refine SeqE.nil ?_ | refine CodeE.seq ?_ | refine CodeE.region ?_ | refine SeqE.step hE (StepO.move (by rfl)) (by rfl) (by rfl) ?_ | refine SeqE.step hE (StepO.assign (by rfl)) (by rfl) (by rfl) ?_)
  refine SeqE.callX hE (opA_call rfl fn36 rfl) (may2_ok hl hm hn hM hfit h4) rfl rfl fun nx1 hg1 => ?_
  rw [hmay]
  repeat (first | refine SeqE.nil ?_ | refine CodeE.seq ?_ | refine CodeE.region ?_ | refine CodeE.condT (by rfl) ?_ | refine CodeE.ret ?_ | refine SeqE.step hE (StepO.assign (by rfl)) (by rfl) (by rfl) ?_ | refine SeqE.step hE (StepO.unOp (by rfl) (by rfl)) (by rfl) (by rfl) ?_)
  exact ⟨_, rfl, rfl, fun _ _ => rfl⟩

set_option maxHeartbeats 16000000 in
set_option maxRecDepth 20000 in
theorem relax2_yes {lim : Nat} {l : List Dr} {ms : List Int} {L M : Option Addr} {CL CM : Nat} {hp : Hp} {nx : Nat}
    (hl : Row hp lim L l.length 9 (flat l)) (hm : Row hp lim M ms.length 1 (ints ms)) (hn : l.length ≤ 100000) (hM : ms.length ≤ 9223372036854775807) (hfit : ∀ x ∈ l, x.ins.fit) (h4 : lim ≤ nx) (hmay : mayB l ms = true) :
    CallE Tryz.prog 17 [.slice L l.length CL, .slice M ms.length CM] hp nx (RelaxQ l ms hp nx) := by
  obtain ⟨hmk, hms⟩ := may_says hmay
  refine CallE.of_code hE Tryz.func17 rfl rfl ?_
  repeat (first | refine SeqE.nil ?_ | refine CodeE.seq ?_ | refine CodeE.region ?_ | refine SeqE.step hE (StepO.move (by rfl)) (by rfl) (by rfl) ?_ | refine SeqE.step hE (StepO.assign (by rfl)) (by rfl) (by rfl) ?_)
  refine SeqE.callX hE (opA_call rfl fn36 rfl) (may2_ok hl hm hn hM hfit h4) rfl rfl fun nx1 hg1 => ?_
  rw [hmay]
  repeat (first | refine SeqE.nil ?_ | refine CodeE.seq ?_ | refine CodeE.region ?_ | refine CodeE.condF (by rfl) ?_ | refine CodeE.skip ?_ | refine SeqE.step hE (StepO.move (by rfl)) (by rfl) (by rfl) ?_ | refine SeqE.step hE (StepO.lenSlice (by rfl) (Tab.slcAt tabOk (by rfl))) (by rfl) (by rfl) ?_ | refine SeqE.step hE (StepO.unOp (by rfl) (by rfl)) (by rfl) (by rfl) ?_)
  refine SeqE.step hE (StepO.makeSlice (l := l.length) (c := l.length) rfl rfl (Tab.slcAt tabOk rfl) el4 (Nat.le_refl _) (by omega) (by decide)) rfl rfl ?_
  rw [reps_false]
  repeat (first | refine SeqE.nil ?_ | refine CodeE.seq ?_ | refine CodeE.region ?_ | refine SeqE.step hE (StepO.move (by rfl)) (by rfl) (by rfl) ?_ | refine SeqE.step hE (StepO.assign (by rfl)) (by rfl) (by rfl) ?_)
  generalize hbb : nx1 = bb
  obtain ⟨nx2, bp, Cp, hp1, hp2, hco⟩ := places_ok (nx := bb + 1) (bb := bb) (hp := over hp bb (some (.cells (bools (List.replicate l.length false)) 4 true))) (CL := CL) (Cb := 2 * l.length + 1) (hl.keep fun k hk => by ((try dsimp only); (repeat rw [over_other _ _ (by omega)]))) (by rw [over_same]) (by simp) hn (by omega) (by omega)
  refine SeqE.call hE (opA_call rfl fn37 rfl) hco rfl rfl ?_
  repeat (first | refine SeqE.nil ?_ | refine CodeE.seq ?_ | refine CodeE.block ?_ | refine SeqE.step hE (StepO.assign (by rfl)) (by rfl) (by rfl) ?_)
  refine CodeE.loop (fun m tm h x => ∃ (long : List Bool) (bp Cp : Nat), m = short long ∧ long.length = l.length ∧ bb < bp ∧ bp < x ∧ (∀ r, Grows l ms long r → Grows l ms (List.replicate l.length false) r) ∧ (∀ k, k < nx → h k = hp k) ∧
    h bb = some (.cells (bools long) 4 true) ∧ h bp = some (.cells (nums (posL (zsOf l long))) 3 true) ∧
    ExtL [(0, .slice L l.length CL), (1, .slice M ms.length CM), (6, .slice (some ⟨bb, 0, none⟩) l.length (2 * l.length + 1)), (7, .slice (some ⟨bp, 0, none⟩) (l.length + 1) Cp)] tm) ?_ _ _ _ _
    ⟨List.replicate l.length false, bp, Cp, rfl, by simp, by omega, by omega, fun r hr => hr, fun k hk => by ((try dsimp only); (repeat rw [over_other _ _ (by omega)])), by ((try dsimp only); (repeat rw [over_other _ _ (by omega)])); rw [over_same], by rw [over_same], rfl, rfl, rfl, rfl, trivial⟩
  clear hp1 hp2 hco
  rintro m tm h2 x ⟨long, bp, Cp, rfl, hlen, hbp1, hbp2, hG, hfr2, hbc, hpc, ht⟩
  refine CodeE.less ht ?_
  clear ht tm
  have hl2 : Row h2 lim L l.length 9 (flat l) := hl.keep fun k hk => hfr2 k (by omega)
  have hm2 : Row h2 lim M ms.length 1 (ints ms) := hm.keep fun k hk => hfr2 k (by omega)
  have hzl := zsOf_len hlen
  have hgl := growL_len l ms long
  have hbd := fun i => wayOf_bd (l := l) (ms := ms) (zs := zsOf l long) zsOf_le (by omega) i
  repeat (first | refine SeqE.nil ?_ | refine CodeE.seq ?_ | refine CodeE.region ?_ | refine CodeE.block ?_ | refine SeqE.step hE (StepO.assign (by rfl)) (by rfl) (by rfl) ?_)
  refine CodeE.loop (fun m tm h y => ∃ i, i ≤ l.length ∧ m = l.length - i ∧ x ≤ y ∧ (∀ k, k < x → k ≠ bb → h k = h2 k) ∧ h bb = some (.cells (bools (mixG long (growL l ms long) i)) 4 true) ∧
    ExtL [(0, .slice L l.length CL), (1, .slice M ms.length CM), (6, .slice (some ⟨bb, 0, none⟩) l.length (2 * l.length + 1)), (7, .slice (some ⟨bp, 0, none⟩) (l.length + 1) Cp), (8, .bool (anyNew l ms long i)), (9, .int .i64 i)] tm) ?_ l.length _ _ _
    ⟨0, by omega, by omega, Nat.le_refl _, fun k _ _ => rfl, by rw [mixG_zero]; exact hbc, rfl, rfl, rfl, rfl, rfl, rfl, trivial⟩
  rintro m tm h y ⟨i, hi, rfl, hxy, hk, hbm, ht⟩
  refine CodeE.less ht ?_
  clear ht tm
  by_cases hlt : i < l.length
  case pos =>
    obtain ⟨bl, el, ol, rfl, hbl, hcl⟩ := hl2.2 (by omega)
    have hcl' : h bl = some (.cells (flat l) el ol) := (hk bl (by omega) (by omega)).trans hcl
    have hpc' : h bp = some (.cells (nums (posL (zsOf l long))) 3 true) := (hk bp (by omega) (by omega)).trans hpc
    have hmki := hmk _ (List.getElem_mem hlt)
    have hmx := mixG_at (a := long) (b := growL l ms long) (k := i) (by omega) (by omega) (by rw [mixG_len (by omega) (by omega)]; omega)
    have hml : (mixG long (growL l ms long) i).length = l.length := by rw [mixG_len (by omega) (by omega)]; omega
    have hnew : (growL l ms long)[i]'(by omega) = (long[i]'(by omega) || farB l ms (zsOf l long) i) := growL_at _ (by omega)
    have hany := anyNew_succ (l := l) (ms := ms) (long := long) (k := i) (by omega)
    have hfar := farB_eq (ms := ms) (zs := zsOf l long) hlt
    have hsame : (farB l ms (zsOf l long) i = false ∨ long[i]'(by omega) = true) → mixG long (growL l ms long) i = mixG long (growL l ms long) (i + 1) ∧ anyNew l ms long (i + 1) = anyNew l ms long i := by
      intro hf
      refine ⟨mixG_same (by omega) (by omega) ?_, ?_⟩
      · rw [hnew]; rcases hf with hf | hf <;> simp [hf]
      · rw [hany]; rcases hf with hf | hf <;> simp [hf]
    repeat (first | refine SeqE.nil ?_ | refine CodeE.seq ?_ | refine CodeE.region ?_ | refine CodeE.block ?_ | refine CodeE.condT (by rfl) ?_ | refine CodeE.skip ?_ | refine SeqE.step hE (StepO.move (by rfl)) (by rfl) (by rfl) ?_ | refine SeqE.step hE (StepO.fieldAddr (by rfl) (Tab.fldAt tabOk (by rfl) (by rfl))) (by rfl) (by rfl) ?_ | refine SeqE.step hE (StepO.indexAddr (by rfl) (by rfl) (Tab.slcAt tabOk (by rfl)) (by omega)) (by rfl) (by rfl) ?_ | refine SeqE.step hE (StepO.lenSlice (by rfl) (Tab.slcAt tabOk (by rfl))) (by rfl) (by rfl) ?_ | refine SeqE.step hE (StepO.binOp (by rfl) (by rfl) (lssT (by omega))) (by rfl) (by rfl) ?_)
    refine SeqE.step hE (StepO.load1 rfl (Tab.aggAt tabOk rfl) (by (try dsimp only); (repeat rw [over_other _ _ (by omega)]); first | assumption | exact over_same _ _ _) (flat_mark hlt (by first | omega | (dsimp only; omega) | (simp only [] at *; omega)))) rfl rfl ?_
    by_cases hm0 : l[i].mark = 0
    · obtain ⟨g1, g2⟩ := hsame (.inl (by rw [hfar]; simp [hm0]))
      repeat (first | refine SeqE.nil ?_ | refine CodeE.region ?_ | refine CodeE.condT (by rfl) ?_ | refine CodeE.exit ?_ | refine SeqE.step hE (StepO.move (by rfl)) (by rfl) (by rfl) ?_ | refine SeqE.step hE (StepO.assign (by rfl)) (by rfl) (by rfl) ?_ | refine SeqE.step hE (StepO.pickT (by rfl) (by rfl)) (by rfl) (by rfl) ?_ | refine SeqE.step hE (StepO.binOp (by rfl) (by rfl) (eqlT (by omega))) (by rfl) (by rfl) ?_ | refine SeqE.step hE (StepO.binOp (by rfl) (by rfl) (addI (by omega))) (by rfl) (by rfl) ?_ | refine SeqE.leave (by rfl) (by rfl) ?_)
      exact ⟨l.length - (i + 1), by omega, i + 1, by omega, rfl, by omega, hk, by rw [hbm, g1], rfl, rfl, rfl, rfl, by rw [g2]; rfl, rfl, trivial⟩
    by_cases hop : l[i].ins.op = 20
    case neg =>
      obtain ⟨g1, g2⟩ := hsame (.inl (by rw [hfar]; simp [hop]))
      repeat (first | refine SeqE.step hE (StepO.move (by rfl)) (by rfl) (by rfl) ?_ | refine SeqE.step hE (StepO.fieldAddr (by rfl) (Tab.fldAt tabOk (by rfl) (by rfl))) (by rfl) (by rfl) ?_ | refine SeqE.step hE (StepO.indexAddr (by rfl) (by rfl) (Tab.slcAt tabOk (by rfl)) (by omega)) (by rfl) (by rfl) ?_ | refine SeqE.step hE (StepO.binOp (by rfl) (by rfl) (eqlF (by omega))) (by rfl) (by rfl) ?_)
      refine SeqE.step hE (StepO.load1 rfl (Tab.aggAt tabOk rfl) (by (try dsimp only); (repeat rw [over_other _ _ (by omega)]); first | assumption | exact over_same _ _ _) (flat_op hlt (by first | omega | (dsimp only; omega) | (simp only [] at *; omega)))) rfl rfl ?_
      repeat (first | refine SeqE.nil ?_ | refine CodeE.region ?_ | refine CodeE.condT (by rfl) ?_ | refine CodeE.exit ?_ | refine SeqE.step hE (StepO.move (by rfl)) (by rfl) (by rfl) ?_ | refine SeqE.step hE (StepO.assign (by rfl)) (by rfl) (by rfl) ?_ | refine SeqE.step hE (StepO.pickT (by rfl) (by rfl)) (by rfl) (by rfl) ?_ | refine SeqE.step hE (StepO.pickF (by rfl) (by rfl)) (by rfl) (by rfl) ?_ | refine SeqE.step hE (StepO.binOp (by rfl) (by rfl) (neqT (by omega))) (by rfl) (by rfl) ?_ | refine SeqE.step hE (StepO.binOp (by rfl) (by rfl) (addI (by omega))) (by rfl) (by rfl) ?_ | refine SeqE.leave (by rfl) (by rfl) ?_)
      exact ⟨l.length - (i + 1), by omega, i + 1, by omega, rfl, by omega, hk, by rw [hbm, g1], rfl, rfl, rfl, rfl, by rw [g2]; rfl, rfl, trivial⟩
    by_cases hlg : long[i]'(by omega) = true
    · obtain ⟨g1, g2⟩ := hsame (.inr hlg)
      repeat (first | refine SeqE.step hE (StepO.move (by rfl)) (by rfl) (by rfl) ?_ | refine SeqE.step hE (StepO.fieldAddr (by rfl) (Tab.fldAt tabOk (by rfl) (by rfl))) (by rfl) (by rfl) ?_ | refine SeqE.step hE (StepO.indexAddr (by rfl) (by rfl) (Tab.slcAt tabOk (by rfl)) (by omega)) (by rfl) (by rfl) ?_ | refine SeqE.step hE (StepO.binOp (by rfl) (by rfl) (eqlF (by omega))) (by rfl) (by rfl) ?_)
      refine SeqE.step hE (StepO.load1 rfl (Tab.aggAt tabOk rfl) (by (try dsimp only); (repeat rw [over_other _ _ (by omega)]); first | assumption | exact over_same _ _ _) (flat_op hlt (by first | omega | (dsimp only; omega) | (simp only [] at *; omega)))) rfl rfl ?_
      repeat (first | refine SeqE.step hE (StepO.move (by rfl)) (by rfl) (by rfl) ?_ | refine SeqE.step hE (StepO.pickF (by rfl) (by rfl)) (by rfl) (by rfl) ?_ | refine SeqE.step hE (StepO.indexAddr (by rfl) (by rfl) (Tab.slcAt tabOk (by rfl)) (by omega)) (by rfl) (by rfl) ?_ | refine SeqE.step hE (StepO.binOp (by rfl) (by rfl) (neqF (by omega))) (by rfl) (by rfl) ?_)
      refine SeqE.step hE (StepO.load1 rfl (Tab.aggAt tabOk rfl) (by (try dsimp only); (repeat rw [over_other _ _ (by omega)]); first | assumption | exact over_same _ _ _) (bools_val (i := i) (v := true) (at_int i) (by omega) (hmx.trans hlg))) rfl rfl ?_
      repeat (first | refine SeqE.nil ?_ | refine CodeE.region ?_ | refine CodeE.condT (by rfl) ?_ | refine CodeE.exit ?_ | refine SeqE.step hE (StepO.move (by rfl)) (by rfl) (by rfl) ?_ | refine SeqE.step hE (StepO.assign (by rfl)) (by rfl) (by rfl) ?_ | refine SeqE.step hE (StepO.pickF (by rfl) (by rfl)) (by rfl) (by rfl) ?_ | refine SeqE.step hE (StepO.binOp (by rfl) (by rfl) (addI (by omega))) (by rfl) (by rfl) ?_)
      exact ⟨l.length - (i + 1), by omega, i + 1, by omega, rfl, by omega, hk, by rw [hbm, g1], rfl, rfl, rfl, rfl, by rw [g2]; rfl, rfl, trivial⟩
    have hlg' : long[i]'(by omega) = false := by simpa using hlg
    obtain ⟨bm, em, om, rfl, hbm1, hcm⟩ := hm2.2 (by omega)
    have hcm' : h bm = some (.cells (ints ms) em om) := (hk bm (by omega) (by omega)).trans hcm
    obtain ⟨m, em1⟩ : ∃ m : Nat, l[i].mark - 1 = m := ⟨(l[i].mark - 1).toNat, by omega⟩
    have hmlt : m < ms.length := by omega
    obtain ⟨k, ek⟩ : ∃ k : Nat, ms[m] = k := ⟨ms[m].toNat, by have := hms _ (List.getElem_mem hmlt); omega⟩
    have hkl : k ≤ l.length := by have := hms _ (List.getElem_mem hmlt); omega
    have hw := way_eq (zs := zsOf l long) hlt hmlt em1 ek
    have p1 := pos_le (zs := zsOf l long) zsOf_le k
    have p2 := pos_le (zs := zsOf l long) zsOf_le i
    have hpl := posL_len (zsOf l long)
    repeat (first | refine SeqE.step hE (StepO.move (by rfl)) (by rfl) (by rfl) ?_ | refine SeqE.step hE (StepO.fieldAddr (by rfl) (Tab.fldAt tabOk (by rfl) (by rfl))) (by rfl) (by rfl) ?_ | refine SeqE.step hE (StepO.indexAddr (by rfl) (by rfl) (Tab.slcAt tabOk (by rfl)) (by omega)) (by rfl) (by rfl) ?_ | refine SeqE.step hE (StepO.binOp (by rfl) (by rfl) (eqlF (by omega))) (by rfl) (by rfl) ?_)
    refine SeqE.step hE (StepO.load1 rfl (Tab.aggAt tabOk rfl) (by (try dsimp only); (repeat rw [over_other _ _ (by omega)]); first | assumption | exact over_same _ _ _) (flat_op hlt (by first | omega | (dsimp only; omega) | (simp only [] at *; omega)))) rfl rfl ?_
    repeat (first | refine SeqE.step hE (StepO.move (by rfl)) (by rfl) (by rfl) ?_ | refine SeqE.step hE (StepO.pickF (by rfl) (by rfl)) (by rfl) (by rfl) ?_ | refine SeqE.step hE (StepO.indexAddr (by rfl) (by rfl) (Tab.slcAt tabOk (by rfl)) (by omega)) (by rfl) (by rfl) ?_ | refine SeqE.step hE (StepO.binOp (by rfl) (by rfl) (neqF (by omega))) (by rfl) (by rfl) ?_)
    refine SeqE.step hE (StepO.load1 rfl (Tab.aggAt tabOk rfl) (by (try dsimp only); (repeat rw [over_other _ _ (by omega)]); first | assumption | exact over_same _ _ _) (bools_val (i := i) (v := false) (at_int i) (by omega) (hmx.trans hlg'))) rfl rfl ?_
    repeat (first | refine SeqE.nil ?_ | refine CodeE.seq ?_ | refine CodeE.draw (slsOf tabs) [] (Tab.slOk tabOk) hE (by kernel_rfl) ?_ | refine CodeE.condF (by rfl) ?_ | refine CodeE.skip ?_ | refine SeqD.step (StepO.move (by rfl)) (by rfl) (by rfl) ?_ | refine SeqE.step hE (StepO.pickF (by rfl) (by rfl)) (by rfl) (by rfl) ?_ | refine SeqD.step (StepO.fieldAddr (by rfl) (Tab.fldAt tabOk (by rfl) (by rfl))) (by rfl) (by rfl) ?_ | refine SeqD.step (StepO.indexAddr (by rfl) (by rfl) (Tab.slcAt tabOk (by rfl)) (by omega)) (by rfl) (by rfl) ?_)
    refine SeqD.step (StepO.load1 rfl (Tab.aggAt tabOk rfl) hcl' (flat_mark hlt (by first | omega | (dsimp only; omega) | (simp only [] at *; omega)))) rfl rfl ?_
    repeat (first | refine SeqD.step (StepO.indexAddr (by rfl) (by rfl) (Tab.slcAt tabOk (by rfl)) (by omega)) (by rfl) (by rfl) ?_ | refine SeqD.step (StepO.binOp (by rfl) (by rfl) (subI (by omega))) (by rfl) (by rfl) ?_)
    refine SeqD.step (StepO.load1 rfl (Tab.aggAt tabOk rfl) hcm' (ints_at (i := m) (by first | omega | (dsimp only; omega) | (simp only [] at *; omega)) hmlt)) rfl rfl ?_
    rw [ek]
    repeat (first | refine SeqD.step (StepO.indexAddr (by rfl) (by rfl) (Tab.slcAt tabOk (by rfl)) (by omega)) (by rfl) (by rfl) ?_)
    refine SeqD.step (StepO.load1 rfl (Tab.aggAt tabOk rfl) hpc' (nums_at (i := k) (by first | omega | (dsimp only; omega) | (simp only [] at *; omega)) (by omega))) rfl rfl ?_
    rw [posL_at]
    repeat (first | refine SeqD.step (StepO.move (by rfl)) (by rfl) (by rfl) ?_ | refine SeqD.step (StepO.indexAddr (by rfl) (by rfl) (Tab.slcAt tabOk (by rfl)) (by omega)) (by rfl) (by rfl) ?_)
    refine SeqD.step (StepO.load1 rfl (Tab.aggAt tabOk rfl) hpc' (nums_at (i := i) (by first | omega | (dsimp only; omega) | (simp only [] at *; omega)) (by omega))) rfl rfl ?_
    rw [posL_at]
    by_cases hf : wayOf l ms (zsOf l long) i - 1 < -1024 ∨ 1024 ≤ wayOf l ms (zsOf l long) i - 1
    case neg =>
      obtain ⟨g1, g2⟩ := hsame (.inl (by rw [hfar]; simp only [hf, and_false, decide_false]))
      repeat (first | refine SeqE.nil ?_ | refine SeqD.nil ?_ | refine CodeE.seq ?_ | refine CodeE.region ?_ | refine CodeE.condF (by rfl) ?_ | refine CodeE.skip ?_ | refine SeqE.step hE (StepO.move (by rfl)) (by rfl) (by rfl) ?_ | refine SeqE.step hE (StepO.assign (by rfl)) (by rfl) (by rfl) ?_ | refine SeqD.step (StepO.assign (by rfl)) (by rfl) (by rfl) ?_ | refine SeqE.step hE (StepO.pickF (by rfl) (by rfl)) (by rfl) (by rfl) ?_ | refine SeqE.step hE (StepO.binOp (by rfl) (by rfl) (lssF (by omega))) (by rfl) (by rfl) ?_ | refine SeqE.step hE (StepO.binOp (by rfl) (by rfl) (gtrF (by omega))) (by rfl) (by rfl) ?_ | refine SeqE.step hE (StepO.binOp (by rfl) (by rfl) (addI (by omega))) (by rfl) (by rfl) ?_ | refine SeqD.step (StepO.binOp (by rfl) (by rfl) (subI (by omega))) (by rfl) (by rfl) ?_)
      exact ⟨l.length - (i + 1), by omega, i + 1, by omega, rfl, by omega, hk, by rw [hbm, g1], rfl, rfl, rfl, rfl, by rw [g2]; rfl, rfl, trivial⟩
    have hfT : farB l ms (zsOf l long) i = true := by rw [hfar]; simp only [hf, hop, hm0, not_false_eq_true, ne_eq, and_self, decide_true]
    rw [hlg', hfT] at hnew
    have hanyT : anyNew l ms long (i + 1) = true := by rw [hany, hlg', hfT]; simp
    have hset : (mixG long (growL l ms long) i).set i true = mixG long (growL l ms long) (i + 1) := by
      rw [← mixG_set (a := long) (b := growL l ms long) (by omega) (by omega), hnew]; rfl
    rcases hf with hf | hf
    all_goals
      repeat (first | refine SeqE.nil ?_ | refine SeqD.nil ?_ | refine CodeE.seq ?_ | refine CodeE.region ?_ | refine CodeE.condT (by rfl) ?_ | refine SeqE.step hE (StepO.move (by rfl)) (by rfl) (by rfl) ?_ | refine SeqD.step (StepO.assign (by rfl)) (by rfl) (by rfl) ?_ | refine SeqE.step hE (StepO.pickT (by rfl) (by rfl)) (by rfl) (by rfl) ?_ | refine SeqE.step hE (StepO.pickF (by rfl) (by rfl)) (by rfl) (by rfl) ?_ | refine SeqE.step hE (StepO.indexAddr (by rfl) (by rfl) (Tab.slcAt tabOk (by rfl)) (by omega)) (by rfl) (by rfl) ?_ | refine SeqE.step hE (StepO.binOp (by rfl) (by rfl) (lssT (by omega))) (by rfl) (by rfl) ?_ | refine SeqE.step hE (StepO.binOp (by rfl) (by rfl) (lssF (by omega))) (by rfl) (by rfl) ?_ | refine SeqE.step hE (StepO.binOp (by rfl) (by rfl) (gtrT (by omega))) (by rfl) (by rfl) ?_ | refine SeqD.step (StepO.binOp (by rfl) (by rfl) (subI (by omega))) (by rfl) (by rfl) ?_ | refine SeqE.leave (by rfl) (by rfl) ?_)
      refine SeqE.step hE (StepO.store1 rfl rfl (Tab.sizeAt tabOk rfl) rfl rfl (by (try dsimp only); (repeat rw [over_other _ _ (by omega)]); first | assumption | exact over_same _ _ _) (by rw [bools_len]; dsimp only; omega)) rfl rfl ?_
      repeat (first | refine SeqE.nil ?_ | refine CodeE.region ?_ | refine SeqE.step hE (StepO.move (by rfl)) (by rfl) (by rfl) ?_ | refine SeqE.step hE (StepO.assign (by rfl)) (by rfl) (by rfl) ?_ | refine SeqE.step hE (StepO.binOp (by rfl) (by rfl) (addI (by omega))) (by rfl) (by rfl) ?_)
      refine ⟨l.length - (i + 1), by omega, i + 1, by omega, rfl, by omega, fun k h1 h2 => ?_, ?_, rfl, rfl, rfl, rfl, by rw [hanyT]; rfl, rfl, trivial⟩
      · ((try dsimp only); (repeat rw [over_other _ _ (by omega)])); exact hk k h1 h2
      · (try dsimp only); rw [over_same, at_int, bools_set rfl, hset]
  obtain rfl : i = l.length := by omega
  clear hlt hi
  rw [mixG_full hgl hlen] at hbm
  have hfr3 : ∀ k, k < nx → h k = hp k := fun k hkx => (hk k (by omega) (by omega)).trans (hfr2 k hkx)
  rcases Bool.eq_false_or_eq_true (anyNew l ms long l.length) with hany | hany
  · rw [hany]
    repeat (first | refine SeqE.nil ?_ | refine CodeE.seq ?_ | refine CodeE.region ?_ | refine CodeE.condF (by rfl) ?_ | refine CodeE.skip ?_ | refine CodeE.exit ?_ | refine SeqE.step hE (StepO.move (by rfl)) (by rfl) (by rfl) ?_ | refine SeqE.step hE (StepO.lenSlice (by rfl) (Tab.slcAt tabOk (by rfl))) (by rfl) (by rfl) ?_ | refine SeqE.step hE (StepO.binOp (by rfl) (by rfl) (lssF (by omega))) (by rfl) (by rfl) ?_ | refine SeqE.step hE (StepO.unOp (by rfl) (by rfl)) (by rfl) (by rfl) ?_)
    obtain ⟨nx2, bq, Cq, hp1, hp2, hco⟩ := places_ok (nx := y) (bb := bb) (hp := h) (CL := CL) (Cb := 2 * l.length + 1) (hl.keep fun k hk => hfr3 k (by omega)) hbm hgl hn (by omega) (by omega)
    refine SeqE.call hE (opA_call rfl fn37 rfl) hco rfl rfl ?_
    repeat (first | refine SeqE.nil ?_ | refine SeqE.step hE (StepO.assign (by rfl)) (by rfl) (by rfl) ?_)
    exact ⟨short (growL l ms long), short_lt hlen hany, growL l ms long, bq, Cq, rfl, hgl, by omega, by omega, fun r hr => hG r (.step hany hr), fun k hk => by ((try dsimp only); (repeat rw [over_other _ _ (by omega)])); exact hfr3 k hk, by ((try dsimp only); (repeat rw [over_other _ _ (by omega)])); exact hbm, by rw [over_same], rfl, rfl, rfl, rfl, trivial⟩
  rw [hany]
  rw [growL_same hlen hany] at hbm
  have hGr := hG long (.stop hany)
  have hpc3 : h bp = some (.cells (nums (posL (zsOf l long))) 3 true) := (hk bp (by omega) (by omega)).trans hpc
  clear hk
  repeat (first | refine SeqE.nil ?_ | refine CodeE.seq ?_ | refine CodeE.region ?_ | refine CodeE.block ?_ | refine CodeE.condT (by rfl) ?_ | refine CodeE.condF (by rfl) ?_ | refine CodeE.exit ?_ | refine SeqE.step hE (StepO.move (by rfl)) (by rfl) (by rfl) ?_ | refine SeqE.step hE (StepO.assign (by rfl)) (by rfl) (by rfl) ?_ | refine SeqE.step hE (StepO.lenSlice (by rfl) (Tab.slcAt tabOk (by rfl))) (by rfl) (by rfl) ?_ | refine SeqE.step hE (StepO.binOp (by rfl) (by rfl) (lssF (by omega))) (by rfl) (by rfl) ?_ | refine SeqE.step hE (StepO.unOp (by rfl) (by rfl)) (by rfl) (by rfl) ?_)
  refine CodeE.loop (fun m tm h' z => ∃ i A, i ≤ l.length ∧ m = l.length - i ∧ y ≤ z ∧ (∀ k, k < y → h' k = h k) ∧ Out y h' z A (outAll l ms long i) ∧
    ExtL [(0, .slice L l.length CL), (1, .slice M ms.length CM), (6, .slice (some ⟨bb, 0, none⟩) l.length (2 * l.length + 1)), (7, .slice (some ⟨bp, 0, none⟩) (l.length + 1) Cp), (11, .slice A (outAll l ms long i).length 0), (12, .int .i64 i)] tm) ?_ l.length _ _ _
    ⟨0, none, by omega, by omega, Nat.le_refl _, fun k hk => rfl, ⟨fun _ => rfl, fun h => absurd h (by simp [outAll])⟩, rfl, rfl, rfl, rfl, rfl, rfl, trivial⟩
  rintro m tm h3 z ⟨i, A, hi, rfl, hyz, hfr4, hO, ht⟩
  refine CodeE.less ht ?_
  clear ht tm
  have hol := outAll_len (ms := ms) (r := long) hi
  by_cases hlt : i < l.length
  case pos =>
    have hsucc := outAll_succ (ms := ms) hlt (by omega : i < long.length)
    obtain ⟨bl, el, ol, rfl, hbl, hcl⟩ := hl.2 (by omega)
    have hcl' : h3 bl = some (.cells (flat l) el ol) := (hfr4 bl (by omega)).trans ((hfr3 bl (by omega)).trans hcl)
    have hpc' : h3 bp = some (.cells (nums (posL (zsOf l long))) 3 true) := (hfr4 bp (by omega)).trans hpc3
    have hbm' : h3 bb = some (.cells (bools long) 4 true) := (hfr4 bb (by omega)).trans hbm
    have hmki := hmk _ (List.getElem_mem hlt)
    repeat (first | refine SeqE.nil ?_ | refine CodeE.seq ?_ | refine CodeE.region ?_ | refine CodeE.block ?_ | refine CodeE.condT (by rfl) ?_ | refine CodeE.skip ?_ | refine SeqE.step hE (StepO.move (by rfl)) (by rfl) (by rfl) ?_ | refine SeqE.step hE (StepO.fieldAddr (by rfl) (Tab.fldAt tabOk (by rfl) (by rfl))) (by rfl) (by rfl) ?_ | refine SeqE.step hE (StepO.indexAddr (by rfl) (by rfl) (Tab.slcAt tabOk (by rfl)) (by omega)) (by rfl) (by rfl) ?_ | refine SeqE.step hE (StepO.lenSlice (by rfl) (Tab.slcAt tabOk (by rfl))) (by rfl) (by rfl) ?_ | refine SeqE.step hE (StepO.binOp (by rfl) (by rfl) (lssT (by omega))) (by rfl) (by rfl) ?_)
    refine SeqE.step hE (StepO.loadA rfl (Tab.aggAt tabOk rfl) (Tab.sizeAt tabOk rfl) (flat_ins hcl' hlt (by first | omega | (dsimp only; omega) | (simp only [] at *; omega)))) rfl rfl ?_
    repeat (first | refine SeqE.nil ?_ | refine CodeE.seq ?_ | refine CodeE.region ?_ | refine SeqE.step hE (StepO.move (by rfl)) (by rfl) (by rfl) ?_ | refine SeqE.step hE (StepO.fieldAddr (by rfl) (Tab.fldAt tabOk (by rfl) (by rfl))) (by rfl) (by rfl) ?_ | refine SeqE.step hE (StepO.storeAll (by rfl) (by rfl) (Tab.sizeAt tabOk (by rfl)) (by (try dsimp only); (repeat rw [over_other _ _ (by omega)]); first | assumption | exact over_same _ _ _) (by rfl) (by rfl)) (by rfl) (by rfl) ?_ | refine SeqE.step hE (StepO.make (by first | exact el3 | exact el4 | exact el33 | exact el35 | exact el37 | exact el50 | exact el51 | exact el56 | exact el87 | exact el89 | exact el95)) (by rfl) (by rfl) ?_ | refine SeqE.step hE (StepO.indexAddr (by rfl) (by rfl) (Tab.slcAt tabOk (by rfl)) (by omega)) (by rfl) (by rfl) ?_)
    refine SeqE.step hE (StepO.load1 rfl (Tab.aggAt tabOk rfl) (by (try dsimp only); (repeat rw [over_other _ _ (by omega)]); first | assumption | exact over_same _ _ _) (flat_mark hlt (by first | omega | (dsimp only; omega) | (simp only [] at *; omega)))) rfl rfl ?_
    by_cases hm0 : l[i].mark = 0
    · have ho : outF l ms (zsOf l long) i l[i] (long[i]'(by omega)) = [l[i].ins] := by simp [outF, hm0]
      rw [ho] at hsucc
      repeat (first | refine SeqE.nil ?_ | refine CodeE.seq ?_ | refine CodeE.region ?_ | refine CodeE.condT (by rfl) ?_ | refine SeqE.step hE (StepO.move (by rfl)) (by rfl) (by rfl) ?_ | refine SeqE.step hE (StepO.loadC (by rfl) (Tab.aggAt tabOk (by rfl)) (Tab.sizeAt tabOk (by rfl)) (by (try dsimp only); (repeat rw [over_other _ _ (by omega)]); first | assumption | exact over_same _ _ _) (by rfl)) (by rfl) (by rfl) ?_ | refine SeqE.step hE (StepO.binOp (by rfl) (by rfl) (eqlT (by omega))) (by rfl) (by rfl) ?_ | refine SeqE.step hE (StepO.buildSlice (by rfl) (Tab.slcAt tabOk (by rfl)) (by first | exact el3 | exact el4 | exact el33 | exact el35 | exact el37 | exact el50 | exact el51 | exact el56 | exact el87 | exact el89 | exact el95) (by decide) (by rfl)) (by rfl) (by rfl) ?_)
      refine SeqE.out (q := [l[i].ins]) hE rfl rfl (hO.keep (by omega) fun k h1 h2 => by ((try dsimp only); (repeat rw [over_other _ _ (by omega)]))) (by (try dsimp only); (repeat rw [over_other _ _ (by omega)]); first | assumption | exact over_same _ _ _) (by simp) (by simp; omega) (by omega) rfl rfl fun h' b g1 g2 => ?_
      repeat (first | refine SeqE.nil ?_ | refine CodeE.region ?_ | refine CodeE.exit ?_ | refine SeqE.step hE (StepO.move (by rfl)) (by rfl) (by rfl) ?_ | refine SeqE.step hE (StepO.assign (by rfl)) (by rfl) (by rfl) ?_ | refine SeqE.step hE (StepO.binOp (by rfl) (by rfl) (addI (by omega))) (by rfl) (by rfl) ?_)
      exact ⟨l.length - (i + 1), by omega, i + 1, some ⟨b, 0, none⟩, by omega, rfl, by omega, fun k hk => by rw [g1 k hk]; ((try dsimp only); (repeat rw [over_other _ _ (by omega)])); exact hfr4 k hk, by rw [hsucc]; exact g2, rfl, rfl, rfl, rfl, by rw [hsucc]; rfl, rfl, trivial⟩
    obtain ⟨bm, em, om, rfl, hbm1, hcm⟩ := hm.2 (by omega)
    have hcm' : h3 bm = some (.cells (ints ms) em om) := (hfr4 bm (by omega)).trans ((hfr3 bm (by omega)).trans hcm)
    obtain ⟨m, em1⟩ : ∃ m : Nat, l[i].mark - 1 = m := ⟨(l[i].mark - 1).toNat, by omega⟩
    have hmlt : m < ms.length := by omega
    obtain ⟨k, ek⟩ : ∃ k : Nat, ms[m] = k := ⟨ms[m].toNat, by have := hms _ (List.getElem_mem hmlt); omega⟩
    have hkl : k ≤ l.length := by have := hms _ (List.getElem_mem hmlt); omega
    have hw := way_eq (zs := zsOf l long) hlt hmlt em1 ek
    have p1 := pos_le (zs := zsOf l long) zsOf_le k
    have p2 := pos_le (zs := zsOf l long) zsOf_le i
    have hpl := posL_len (zsOf l long)
    repeat (first | refine SeqE.nil ?_ | refine CodeE.seq ?_ | refine CodeE.draw (slsOf tabs) [] (Tab.slOk tabOk) hE (by kernel_rfl) ?_ | refine CodeE.condF (by rfl) ?_ | refine CodeE.skip ?_ | refine SeqD.step (StepO.move (by rfl)) (by rfl) (by rfl) ?_ | refine SeqD.step (StepO.fieldAddr (by rfl) (Tab.fldAt tabOk (by rfl) (by rfl))) (by rfl) (by rfl) ?_ | refine SeqD.step (StepO.indexAddr (by rfl) (by rfl) (Tab.slcAt tabOk (by rfl)) (by omega)) (by rfl) (by rfl) ?_ | refine SeqE.step hE (StepO.binOp (by rfl) (by rfl) (eqlF (by omega))) (by rfl) (by rfl) ?_)
    refine SeqD.step (StepO.load1 rfl (Tab.aggAt tabOk rfl) (by (try dsimp only); (repeat rw [over_other _ _ (by omega)]); first | assumption | exact over_same _ _ _) (flat_mark hlt (by first | omega | (dsimp only; omega) | (simp only [] at *; omega)))) rfl rfl ?_
    repeat (first | refine SeqD.step (StepO.indexAddr (by rfl) (by rfl) (Tab.slcAt tabOk (by rfl)) (by omega)) (by rfl) (by rfl) ?_ | refine SeqD.step (StepO.binOp (by rfl) (by rfl) (subI (by omega))) (by rfl) (by rfl) ?_)
    refine SeqD.step (StepO.load1 rfl (Tab.aggAt tabOk rfl) (by (try dsimp only); (repeat rw [over_other _ _ (by omega)]); first | assumption | exact over_same _ _ _) (ints_at (i := m) (by first | omega | (dsimp only; omega) | (simp only [] at *; omega)) hmlt)) rfl rfl ?_
    rw [ek]
    repeat (first | refine SeqD.step (StepO.indexAddr (by rfl) (by rfl) (Tab.slcAt tabOk (by rfl)) (by omega)) (by rfl) (by rfl) ?_)
    refine SeqD.step (StepO.load1 rfl (Tab.aggAt tabOk rfl) (by (try dsimp only); (repeat rw [over_other _ _ (by omega)]); first | assumption | exact over_same _ _ _) (nums_at (i := k) (by first | omega | (dsimp only; omega) | (simp only [] at *; omega)) (by omega))) rfl rfl ?_
    rw [posL_at]
    repeat (first | refine SeqD.step (StepO.move (by rfl)) (by rfl) (by rfl) ?_ | refine SeqD.step (StepO.indexAddr (by rfl) (by rfl) (Tab.slcAt tabOk (by rfl)) (by omega)) (by rfl) (by rfl) ?_)
    refine SeqD.step (StepO.load1 rfl (Tab.aggAt tabOk rfl) (by (try dsimp only); (repeat rw [over_other _ _ (by omega)]); first | assumption | exact over_same _ _ _) (nums_at (i := i) (by first | omega | (dsimp only; omega) | (simp only [] at *; omega)) (by omega))) rfl rfl ?_
    rw [posL_at]
    by_cases hlg : long[i]'(by omega) = true
    · have ho : outF l ms (zsOf l long) i l[i] (long[i]'(by omega)) = expF l[i] ((pos (zsOf l long) k : Int) - pos (zsOf l long) i) := by rw [hlg, outF_exp hm0, hw]
      have hq := outF_len (l := l) (ms := ms) (zs := zsOf l long) (i := i) (x := l[i]) (b := long[i]'(by omega))
      rw [ho] at hsucc hq
      repeat (first | refine SeqD.nil ?_ | refine CodeE.seq ?_ | refine CodeE.region ?_ | refine SeqE.step hE (StepO.move (by rfl)) (by rfl) (by rfl) ?_ | refine SeqD.step (StepO.assign (by rfl)) (by rfl) (by rfl) ?_ | refine SeqE.step hE (StepO.indexAddr (by rfl) (by rfl) (Tab.slcAt tabOk (by rfl)) (by omega)) (by rfl) (by rfl) ?_ | refine SeqD.step (StepO.binOp (by rfl) (by rfl) (subI (by omega))) (by rfl) (by rfl) ?_)
      refine SeqE.step hE (StepO.load1 rfl (Tab.aggAt tabOk rfl) (by (try dsimp only); (repeat rw [over_other _ _ (by omega)]); first | assumption | exact over_same _ _ _) (bools_val (i := i) (v := true) (at_int i) (by omega) hlg)) rfl rfl ?_
      repeat (first | refine SeqE.nil ?_ | refine CodeE.seq ?_ | refine CodeE.region ?_ | refine CodeE.condT (by rfl) ?_ | refine SeqE.step hE (StepO.move (by rfl)) (by rfl) (by rfl) ?_ | refine SeqE.step hE (StepO.indexAddr (by rfl) (by rfl) (Tab.slcAt tabOk (by rfl)) (by omega)) (by rfl) (by rfl) ?_)
      refine SeqE.step hE (StepO.loadA rfl (Tab.aggAt tabOk rfl) (Tab.sizeAt tabOk rfl) (flat_draft (by ((try dsimp only); (repeat rw [over_other _ _ (by omega)])); exact hcl') hlt (by first | omega | (dsimp only; omega) | (simp only [] at *; omega)))) rfl rfl ?_
      repeat (first | refine SeqE.step hE (StepO.move (by rfl)) (by rfl) (by rfl) ?_)
      obtain ⟨nx4, b4, hb1, hb2, hco⟩ := exp_ok l[i] ((pos (zsOf l long) k : Int) - pos (zsOf l long) i) (by omega) _ _
      refine SeqE.call hE (opA_call rfl fn38 rfl) hco rfl rfl ?_
      refine SeqE.out (q := expF l[i] ((pos (zsOf l long) k : Int) - pos (zsOf l long) i)) hE rfl rfl (hO.keep (by omega) fun k h1 h2 => by ((try dsimp only); (repeat rw [over_other _ _ (by omega)]))) (by (try dsimp only); (repeat rw [over_other _ _ (by omega)]); first | assumption | exact over_same _ _ _) (by omega) (by omega) (by omega) rfl rfl fun h' b g1 g2 => ?_
      repeat (first | refine SeqE.nil ?_ | refine CodeE.region ?_ | refine CodeE.exit ?_ | refine SeqE.step hE (StepO.move (by rfl)) (by rfl) (by rfl) ?_ | refine SeqE.step hE (StepO.assign (by rfl)) (by rfl) (by rfl) ?_ | refine SeqE.step hE (StepO.binOp (by rfl) (by rfl) (addI (by omega))) (by rfl) (by rfl) ?_)
      exact ⟨l.length - (i + 1), by omega, i + 1, some ⟨b, 0, none⟩, by omega, rfl, by omega, fun k hk => by rw [g1 k hk]; ((try dsimp only); (repeat rw [over_other _ _ (by omega)])); exact hfr4 k hk, by rw [hsucc]; exact g2, rfl, rfl, rfl, rfl, by rw [hsucc]; rfl, rfl, trivial⟩
    · have hlg' : long[i]'(by omega) = false := by simpa using hlg
      have ho : outF l ms (zsOf l long) i l[i] (long[i]'(by omega)) = [{ l[i].ins with imm := (pos (zsOf l long) k : Int) - pos (zsOf l long) i - 1 }] := by rw [hlg', ← hw]; simp [outF, hm0]
      rw [ho] at hsucc
      repeat (first | refine SeqD.nil ?_ | refine CodeE.seq ?_ | refine CodeE.region ?_ | refine SeqE.step hE (StepO.move (by rfl)) (by rfl) (by rfl) ?_ | refine SeqD.step (StepO.assign (by rfl)) (by rfl) (by rfl) ?_ | refine SeqE.step hE (StepO.indexAddr (by rfl) (by rfl) (Tab.slcAt tabOk (by rfl)) (by omega)) (by rfl) (by rfl) ?_ | refine SeqD.step (StepO.binOp (by rfl) (by rfl) (subI (by omega))) (by rfl) (by rfl) ?_)
      refine SeqE.step hE (StepO.load1 rfl (Tab.aggAt tabOk rfl) (by (try dsimp only); (repeat rw [over_other _ _ (by omega)]); first | assumption | exact over_same _ _ _) (bools_val (i := i) (v := false) (at_int i) (by omega) hlg')) rfl rfl ?_
      repeat (first | refine SeqE.nil ?_ | refine CodeE.seq ?_ | refine CodeE.region ?_ | refine CodeE.condF (by rfl) ?_ | refine CodeE.skip ?_ | refine SeqE.step hE (StepO.move (by rfl)) (by rfl) (by rfl) ?_ | refine SeqE.step hE (StepO.fieldAddr (by rfl) (Tab.fldAt tabOk (by rfl) (by rfl))) (by rfl) (by rfl) ?_ | refine SeqE.step hE (StepO.loadC (by rfl) (Tab.aggAt tabOk (by rfl)) (Tab.sizeAt tabOk (by rfl)) (by (try dsimp only); (repeat rw [over_other _ _ (by omega)]); first | assumption | exact over_same _ _ _) (by rfl)) (by rfl) (by rfl) ?_ | refine SeqE.step hE (StepO.store1 (by rfl) (by rfl) (Tab.sizeAt tabOk (by rfl)) (by rfl) (by rfl) (by (try dsimp only); (repeat rw [over_other _ _ (by omega)]); first | assumption | exact over_same _ _ _) (Nat.le_of_ble_eq_true (by rfl))) (by rfl) (by rfl) ?_ | refine SeqE.step hE (StepO.binOp (by rfl) (by rfl) (subI (by omega))) (by rfl) (by rfl) ?_ | refine SeqE.step hE (StepO.buildSlice (by rfl) (Tab.slcAt tabOk (by rfl)) (by first | exact el3 | exact el4 | exact el33 | exact el35 | exact el37 | exact el50 | exact el51 | exact el56 | exact el87 | exact el89 | exact el95) (by decide) (by rfl)) (by rfl) (by rfl) ?_)
      refine SeqE.out (q := [{ l[i].ins with imm := (pos (zsOf l long) k : Int) - pos (zsOf l long) i - 1 }]) hE rfl rfl (hO.keep (by omega) fun k h1 h2 => by ((try dsimp only); (repeat rw [over_other _ _ (by omega)]))) (by (try dsimp only); (repeat rw [over_other _ _ (by omega)]); first | assumption | exact over_same _ _ _) (by simp) (by simp; omega) (by omega) rfl rfl fun h' b g1 g2 => ?_
      repeat (first | refine SeqE.nil ?_ | refine CodeE.region ?_ | refine SeqE.step hE (StepO.move (by rfl)) (by rfl) (by rfl) ?_ | refine SeqE.step hE (StepO.assign (by rfl)) (by rfl) (by rfl) ?_ | refine SeqE.step hE (StepO.binOp (by rfl) (by rfl) (addI (by omega))) (by rfl) (by rfl) ?_)
      exact ⟨l.length - (i + 1), by omega, i + 1, some ⟨b, 0, none⟩, by omega, rfl, by omega, fun k hk => by rw [g1 k hk]; ((try dsimp only); (repeat rw [over_other _ _ (by omega)])); exact hfr4 k hk, by rw [hsucc]; exact g2, rfl, rfl, rfl, rfl, by rw [hsucc]; rfl, rfl, trivial⟩
  obtain rfl : i = l.length := by omega
  have hfo := outAll_fit (ms := ms) hfit hn hlen l.length
  have hob : (outAll l ms long l.length).length ≤ 300000 := by omega
  have hfr5 : ∀ k, k < nx → h3 k = hp k := fun k hk => (hfr4 k (by omega)).trans (hfr3 k hk)
  have hA2 := hO.row
  generalize hgo : outAll l ms long l.length = o at hfo hob hA2 hol
  have hQ : ∀ e h' n', (∀ k, k < nx → h' k = hp k) ∧ ((o.all chk = true ∧ ∃ A, e = .ret (.tuple #[.slice A o.length 0, .int .i64 0]) ∧ (0 < o.length → ∃ b, A = some ⟨b, 0, none⟩ ∧ nx ≤ b ∧ b < n' ∧ h' b = some (.cells (insFlat o) 37 true))) ∨
      (o.all chk = false ∧ e = .ret (.tuple #[.slice none 0 0, .int .i64 250]))) → RelaxQ l ms hp nx e h' n' := by
    intro e h' n' ⟨q1, q2⟩
    refine ⟨long, hlen, hGr, q1, ?_⟩
    rw [hgo]; exact q2
  clear hO
  repeat (first | refine SeqE.nil ?_ | refine CodeE.seq ?_ | refine CodeE.region ?_ | refine CodeE.block ?_ | refine CodeE.condF (by rfl) ?_ | refine CodeE.exit ?_ | refine SeqE.step hE (StepO.move (by rfl)) (by rfl) (by rfl) ?_ | refine SeqE.step hE (StepO.assign (by rfl)) (by rfl) (by rfl) ?_ | refine SeqE.step hE (StepO.lenSlice (by rfl) (Tab.slcAt tabOk (by rfl))) (by rfl) (by rfl) ?_ | refine SeqE.step hE (StepO.binOp (by rfl) (by rfl) (lssF (by omega))) (by rfl) (by rfl) ?_)
  refine CodeE.loop (fun m tm h z' => ∃ j, j ≤ o.length ∧ m = o.length - j ∧ z ≤ z' ∧ (∀ k, k < z → h k = h3 k) ∧ (∀ i (hi : i < o.length), i < j → chk o[i] = true) ∧
    ExtL [(11, .slice A o.length 0), (15, .int .i64 j)] tm) ?_ o.length _ _ _
    ⟨0, by omega, by omega, Nat.le_refl _, fun k hk => rfl, fun i _ h => absurd h (by omega), by rw [← hgo]; rfl, rfl, trivial⟩
  rintro m tm h4' z' ⟨j, hj, rfl, hzz, hfr6, hck, ht⟩
  refine CodeE.less ht ?_
  clear ht tm
  by_cases hlt2 : j < o.length
  case pos =>
    obtain ⟨b, rfl, hb1, hb2, hb3⟩ := hA2 (by omega)
    have hb4 : h4' b = some (.cells (insFlat o) 37 true) := (hfr6 b hb2).trans hb3
    have hfj := hfo _ (List.getElem_mem hlt2)
    repeat (first | refine SeqE.nil ?_ | refine CodeE.seq ?_ | refine CodeE.region ?_ | refine CodeE.block ?_ | refine CodeE.condT (by rfl) ?_ | refine CodeE.skip ?_ | refine SeqE.step hE (StepO.move (by rfl)) (by rfl) (by rfl) ?_ | refine SeqE.step hE (StepO.indexAddr (by rfl) (by rfl) (Tab.slcAt tabOk (by rfl)) (by omega)) (by rfl) (by rfl) ?_ | refine SeqE.step hE (StepO.lenSlice (by rfl) (Tab.slcAt tabOk (by rfl))) (by rfl) (by rfl) ?_ | refine SeqE.step hE (StepO.binOp (by rfl) (by rfl) (lssT (by omega))) (by rfl) (by rfl) ?_)
    refine SeqE.step hE (StepO.loadA rfl (Tab.aggAt tabOk rfl) (Tab.sizeAt tabOk rfl) (ins_read hb4 hlt2 (by first | omega | (dsimp only; omega) | (simp only [] at *; omega)))) rfl rfl ?_
    rcases Bool.eq_false_or_eq_true (chk o[j]) with hc | hc
    · have hck2 : ∀ hp nx, ∃ nx1, CallR Tryz.prog 16 [.agg ⟨o[j].vals⟩] hp nx (.ret (.bool true)) hp nx1 := fun hp nx => ⟨nx, by have := check2_ok hfj hp nx; rwa [hc] at this⟩
      repeat (first | refine SeqE.nil ?_ | refine SeqD.nil ?_ | refine CodeE.seq ?_ | refine CodeE.region ?_ | refine CodeE.draw (slsOf tabs) [] (Tab.slOk tabOk) hE (by kernel_rfl) ?_ | refine CodeE.block ?_ | refine CodeE.condT (by rfl) ?_ | refine CodeE.condF (by rfl) ?_ | refine CodeE.skip ?_ | refine CodeE.exit ?_ | refine CodeE.ret ?_ | refine SeqE.step hE (StepO.move (by rfl)) (by rfl) (by rfl) ?_ | refine SeqD.step (StepO.move (by rfl)) (by rfl) (by rfl) ?_ | refine SeqE.step hE (StepO.assign (by rfl)) (by rfl) (by rfl) ?_ | refine SeqD.step (StepO.assign (by rfl)) (by rfl) (by rfl) ?_ | refine SeqE.step hE (StepO.pickT (by rfl) (by rfl)) (by rfl) (by rfl) ?_ | refine SeqD.step (StepO.pickT (by rfl) (by rfl)) (by rfl) (by rfl) ?_ | refine SeqE.step hE (StepO.pickF (by rfl) (by rfl)) (by rfl) (by rfl) ?_ | refine SeqD.step (StepO.pickF (by rfl) (by rfl)) (by rfl) (by rfl) ?_ | refine SeqE.step hE (StepO.nilCheck (by rfl)) (by rfl) (by rfl) ?_ | refine SeqD.step (StepO.nilCheck (by rfl)) (by rfl) (by rfl) ?_ | refine SeqE.step hE (StepO.nilCheckF (by rfl)) (by rfl) (by rfl) ?_ | refine SeqD.step (StepO.nilCheckF (by rfl)) (by rfl) (by rfl) ?_ | refine SeqE.step hE (StepO.fieldAddr (by rfl) (Tab.fldAt tabOk (by rfl) (by rfl))) (by rfl) (by rfl) ?_ | refine SeqD.step (StepO.fieldAddr (by rfl) (Tab.fldAt tabOk (by rfl) (by rfl))) (by rfl) (by rfl) ?_ | refine SeqE.step hE (StepO.load1 (by rfl) (Tab.aggAt tabOk (by rfl)) (by (try dsimp only); (repeat rw [over_other _ _ (by omega)]); first | assumption | exact over_same _ _ _) (by rfl)) (by rfl) (by rfl) ?_ | refine SeqD.step (StepO.load1 (by rfl) (Tab.aggAt tabOk (by rfl)) (by (try dsimp only); (repeat rw [over_other _ _ (by omega)]); first | assumption | exact over_same _ _ _) (by rfl)) (by rfl) (by rfl) ?_ | refine SeqE.step hE (StepO.loadC (by rfl) (Tab.aggAt tabOk (by rfl)) (Tab.sizeAt tabOk (by rfl)) (by (try dsimp only); (repeat rw [over_other _ _ (by omega)]); first | assumption | exact over_same _ _ _) (by rfl)) (by rfl) (by rfl) ?_ | refine SeqD.step (StepO.loadC (by rfl) (Tab.aggAt tabOk (by rfl)) (Tab.sizeAt tabOk (by rfl)) (by (try dsimp only); (repeat rw [over_other _ _ (by omega)]); first | assumption | exact over_same _ _ _) (by rfl)) (by rfl) (by rfl) ?_ | refine SeqE.step hE (StepO.store1 (by rfl) (by rfl) (Tab.sizeAt tabOk (by rfl)) (by rfl) (by rfl) (by (try dsimp only); (repeat rw [over_other _ _ (by omega)]); first | assumption | exact over_same _ _ _) (Nat.le_of_ble_eq_true (by rfl))) (by rfl) (by rfl) ?_ | refine SeqD.step (StepO.store1 (by rfl) (by rfl) (Tab.sizeAt tabOk (by rfl)) (by rfl) (by rfl) (by (try dsimp only); (repeat rw [over_other _ _ (by omega)]); first | assumption | exact over_same _ _ _) (Nat.le_of_ble_eq_true (by rfl))) (by rfl) (by rfl) ?_ | refine SeqE.step hE (StepO.storeAll (by rfl) (by rfl) (Tab.sizeAt tabOk (by rfl)) (by (try dsimp only); (repeat rw [over_other _ _ (by omega)]); first | assumption | exact over_same _ _ _) (by rfl) (by rfl)) (by rfl) (by rfl) ?_ | refine SeqD.step (StepO.storeAll (by rfl) (by rfl) (Tab.sizeAt tabOk (by rfl)) (by (try dsimp only); (repeat rw [over_other _ _ (by omega)]); first | assumption | exact over_same _ _ _) (by rfl) (by rfl)) (by rfl) (by rfl) ?_ | refine SeqE.step hE (StepO.make (by first | exact el3 | exact el4 | exact el33 | exact el35 | exact el37 | exact el50 | exact el51 | exact el56 | exact el87 | exact el89 | exact el95)) (by rfl) (by rfl) ?_ | refine SeqD.step (StepO.make (by first | exact el3 | exact el4 | exact el33 | exact el35 | exact el37 | exact el50 | exact el51 | exact el56 | exact el87 | exact el89 | exact el95)) (by rfl) (by rfl) ?_ | refine SeqE.step hE (StepO.box (by rfl) (by rfl)) (by rfl) (by rfl) ?_ | refine SeqD.step (StepO.box (by rfl) (by rfl)) (by rfl) (by rfl) ?_ | refine SeqE.step hE (StepO.indexAddr (by rfl) (by rfl) (Tab.slcAt tabOk (by rfl)) (by omega)) (by rfl) (by rfl) ?_ | refine SeqD.step (StepO.indexAddr (by rfl) (by rfl) (Tab.slcAt tabOk (by rfl)) (by omega)) (by rfl) (by rfl) ?_ | refine SeqE.step hE (StepO.lenSlice (by rfl) (Tab.slcAt tabOk (by rfl))) (by rfl) (by rfl) ?_ | refine SeqD.step (StepO.lenSlice (by rfl) (Tab.slcAt tabOk (by rfl))) (by rfl) (by rfl) ?_ | refine SeqE.step hE (StepO.binOp (by rfl) (by rfl) (lssT (by omega))) (by rfl) (by rfl) ?_ | refine SeqD.step (StepO.binOp (by rfl) (by rfl) (lssT (by omega))) (by rfl) (by rfl) ?_ | refine SeqE.step hE (StepO.binOp (by rfl) (by rfl) (lssF (by omega))) (by rfl) (by rfl) ?_ | refine SeqD.step (StepO.binOp (by rfl) (by rfl) (lssF (by omega))) (by rfl) (by rfl) ?_ | refine SeqE.step hE (StepO.binOp (by rfl) (by rfl) (leqT (by omega))) (by rfl) (by rfl) ?_ | refine SeqD.step (StepO.binOp (by rfl) (by rfl) (leqT (by omega))) (by rfl) (by rfl) ?_ | refine SeqE.step hE (StepO.binOp (by rfl) (by rfl) (leqF (by omega))) (by rfl) (by rfl) ?_ | refine SeqD.step (StepO.binOp (by rfl) (by rfl) (leqF (by omega))) (by rfl) (by rfl) ?_ | refine SeqE.step hE (StepO.binOp (by rfl) (by rfl) (gtrT (by omega))) (by rfl) (by rfl) ?_ | refine SeqD.step (StepO.binOp (by rfl) (by rfl) (gtrT (by omega))) (by rfl) (by rfl) ?_ | refine SeqE.step hE (StepO.binOp (by rfl) (by rfl) (gtrF (by omega))) (by rfl) (by rfl) ?_ | refine SeqD.step (StepO.binOp (by rfl) (by rfl) (gtrF (by omega))) (by rfl) (by rfl) ?_ | refine SeqE.step hE (StepO.binOp (by rfl) (by rfl) (geqT (by omega))) (by rfl) (by rfl) ?_ | refine SeqD.step (StepO.binOp (by rfl) (by rfl) (geqT (by omega))) (by rfl) (by rfl) ?_ | refine SeqE.step hE (StepO.binOp (by rfl) (by rfl) (geqF (by omega))) (by rfl) (by rfl) ?_ | refine SeqD.step (StepO.binOp (by rfl) (by rfl) (geqF (by omega))) (by rfl) (by rfl) ?_ | refine SeqE.step hE (StepO.binOp (by rfl) (by rfl) (eqlT (by omega))) (by rfl) (by rfl) ?_ | refine SeqD.step (StepO.binOp (by rfl) (by rfl) (eqlT (by omega))) (by rfl) (by rfl) ?_ | refine SeqE.step hE (StepO.binOp (by rfl) (by rfl) (eqlF (by omega))) (by rfl) (by rfl) ?_ | refine SeqD.step (StepO.binOp (by rfl) (by rfl) (eqlF (by omega))) (by rfl) (by rfl) ?_ | refine SeqE.step hE (StepO.binOp (by rfl) (by rfl) (neqT (by omega))) (by rfl) (by rfl) ?_ | refine SeqD.step (StepO.binOp (by rfl) (by rfl) (neqT (by omega))) (by rfl) (by rfl) ?_ | refine SeqE.step hE (StepO.binOp (by rfl) (by rfl) (neqF (by omega))) (by rfl) (by rfl) ?_ | refine SeqD.step (StepO.binOp (by rfl) (by rfl) (neqF (by omega))) (by rfl) (by rfl) ?_ | refine SeqE.step hE (StepO.binOp (by rfl) (by rfl) (addI (by omega))) (by rfl) (by rfl) ?_ | refine SeqD.step (StepO.binOp (by rfl) (by rfl) (addI (by omega))) (by rfl) (by rfl) ?_ | refine SeqE.step hE (StepO.binOp (by rfl) (by rfl) (subI (by omega))) (by rfl) (by rfl) ?_ | refine SeqD.step (StepO.binOp (by rfl) (by rfl) (subI (by omega))) (by rfl) (by rfl) ?_ | refine SeqE.step hE (StepO.buildSlice (by rfl) (Tab.slcAt tabOk (by rfl)) (by first | exact el3 | exact el4 | exact el33 | exact el35 | exact el37 | exact el50 | exact el51 | exact el56 | exact el87 | exact el89 | exact el95) (by decide) (by rfl)) (by rfl) (by rfl) ?_ | refine SeqD.step (StepO.buildSlice (by rfl) (Tab.slcAt tabOk (by rfl)) (by first | exact el3 | exact el4 | exact el33 | exact el35 | exact el37 | exact el50 | exact el51 | exact el56 | exact el87 | exact el89 | exact el95) (by decide) (by rfl)) (by rfl) (by rfl) ?_ | refine SeqE.step hE (StepO.buildT tabOk (by rfl) (by rfl) (by first | exact el3 | exact el4 | exact el33 | exact el35 | exact el37 | exact el50 | exact el51 | exact el56 | exact el87 | exact el89 | exact el95) (by rfl) (by kernel_rfl) (by rfl)) (by rfl) (by rfl) ?_ | refine SeqD.step (StepO.buildT tabOk (by rfl) (by rfl) (by first | exact el3 | exact el4 | exact el33 | exact el35 | exact el37 | exact el50 | exact el51 | exact el56 | exact el87 | exact el89 | exact el95) (by rfl) (by kernel_rfl) (by rfl)) (by rfl) (by rfl) ?_ | refine SeqE.step hE (StepO.binOp (by rfl) (by rfl) (eqlT (by decide))) (by rfl) (by rfl) ?_ | refine SeqD.step (StepO.binOp (by rfl) (by rfl) (eqlT (by decide))) (by rfl) (by rfl) ?_ | refine SeqE.step hE (StepO.binOp (by rfl) (by rfl) (eqlF (by decide))) (by rfl) (by rfl) ?_ | refine SeqD.step (StepO.binOp (by rfl) (by rfl) (eqlF (by decide))) (by rfl) (by rfl) ?_ | refine SeqE.step hE (StepO.binOp (by rfl) (by rfl) (neqT (by decide))) (by rfl) (by rfl) ?_ | refine SeqD.step (StepO.binOp (by rfl) (by rfl) (neqT (by decide))) (by rfl) (by rfl) ?_ | refine SeqE.step hE (StepO.binOp (by rfl) (by rfl) (neqF (by decide))) (by rfl) (by rfl) ?_ | refine SeqD.step (StepO.binOp (by rfl) (by rfl) (neqF (by decide))) (by rfl) (by rfl) ?_ | refine SeqE.step hE (StepO.binOp (by rfl) (by rfl) (by rfl)) (by rfl) (by rfl) ?_ | refine SeqD.step (StepO.binOp (by rfl) (by rfl) (by rfl)) (by rfl) (by rfl) ?_ | refine SeqE.step hE (StepO.unOp (by rfl) (by rfl)) (by rfl) (by rfl) ?_ | refine SeqD.step (StepO.unOp (by rfl) (by rfl)) (by rfl) (by rfl) ?_ | refine SeqE.step hE (StepO.extract (by rfl) (by rfl)) (by rfl) (by rfl) ?_ | refine SeqD.step (StepO.extract (by rfl) (by rfl)) (by rfl) (by rfl) ?_ | refine SeqE.leave (by rfl) (by rfl) ?_ | refine SeqD.leave (by rfl) ?_)
      refine SeqE.callX hE (opA_call rfl fn16 rfl) (hck2 _ _) rfl rfl fun nx5 hg5 => ?_
      repeat (first | refine SeqE.nil ?_ | refine CodeE.region ?_ | refine CodeE.condF (by rfl) ?_ | refine CodeE.skip ?_ | refine SeqE.step hE (StepO.move (by rfl)) (by rfl) (by rfl) ?_ | refine SeqE.step hE (StepO.assign (by rfl)) (by rfl) (by rfl) ?_ | refine SeqE.step hE (StepO.binOp (by rfl) (by rfl) (addI (by omega))) (by rfl) (by rfl) ?_ | refine SeqE.step hE (StepO.unOp (by rfl) (by rfl)) (by rfl) (by rfl) ?_)
      refine ⟨o.length - (j + 1), by omega, j + 1, by omega, rfl, by omega, fun k hk => ?_, fun i hi hij => ?_, rfl, rfl, trivial⟩
      · ((try dsimp only); (repeat rw [over_other _ _ (by omega)])); exact hfr6 k hk
      · by_cases e : i = j
        · subst e; exact hc
        · exact hck i hi (by omega)
    · have hck2 : ∀ hp nx, ∃ nx1, CallR Tryz.prog 16 [.agg ⟨o[j].vals⟩] hp nx (.ret (.bool false)) hp nx1 := fun hp nx => ⟨nx, by have := check2_ok hfj hp nx; rwa [hc] at this⟩
      repeat (first | refine SeqE.nil ?_ | refine SeqD.nil ?_ | refine CodeE.seq ?_ | refine CodeE.region ?_ | refine CodeE.draw (slsOf tabs) [] (Tab.slOk tabOk) hE (by kernel_rfl) ?_ | refine CodeE.block ?_ | refine CodeE.condT (by rfl) ?_ | refine CodeE.condF (by rfl) ?_ | refine CodeE.skip ?_ | refine CodeE.exit ?_ | refine CodeE.ret ?_ | refine SeqE.step hE (StepO.move (by rfl)) (by rfl) (by rfl) ?_ | refine SeqD.step (StepO.move (by rfl)) (by rfl) (by rfl) ?_ | refine SeqE.step hE (StepO.assign (by rfl)) (by rfl) (by rfl) ?_ | refine SeqD.step (StepO.assign (by rfl)) (by rfl) (by rfl) ?_ | refine SeqE.step hE (StepO.pickT (by rfl) (by rfl)) (by rfl) (by rfl) ?_ | refine SeqD.step (StepO.pickT (by rfl) (by rfl)) (by rfl) (by rfl) ?_ | refine SeqE.step hE (StepO.pickF (by rfl) (by rfl)) (by rfl) (by rfl) ?_ | refine SeqD.step (StepO.pickF (by rfl) (by rfl)) (by rfl) (by rfl) ?_ | refine SeqE.step hE (StepO.nilCheck (by rfl)) (by rfl) (by rfl) ?_ | refine SeqD.step (StepO.nilCheck (by rfl)) (by rfl) (by rfl) ?_ | refine SeqE.step hE (StepO.nilCheckF (by rfl)) (by rfl) (by rfl) ?_ | refine SeqD.step (StepO.nilCheckF (by rfl)) (by rfl) (by rfl) ?_ | refine SeqE.step hE (StepO.fieldAddr (by rfl) (Tab.fldAt tabOk (by rfl) (by rfl))) (by rfl) (by rfl) ?_ | refine SeqD.step (StepO.fieldAddr (by rfl) (Tab.fldAt tabOk (by rfl) (by rfl))) (by rfl) (by rfl) ?_ | refine SeqE.step hE (StepO.load1 (by rfl) (Tab.aggAt tabOk (by rfl)) (by (try dsimp only); (repeat rw [over_other _ _ (by omega)]); first | assumption | exact over_same _ _ _) (by rfl)) (by rfl) (by rfl) ?_ | refine SeqD.step (StepO.load1 (by rfl) (Tab.aggAt tabOk (by rfl)) (by (try dsimp only); (repeat rw [over_other _ _ (by omega)]); first | assumption | exact over_same _ _ _) (by rfl)) (by rfl) (by rfl) ?_ | refine SeqE.step hE (StepO.loadC (by rfl) (Tab.aggAt tabOk (by rfl)) (Tab.sizeAt tabOk (by rfl)) (by (try dsimp only); (repeat rw [over_other _ _ (by omega)]); first | assumption | exact over_same _ _ _) (by rfl)) (by rfl) (by rfl) ?_ | refine SeqD.step (StepO.loadC (by rfl) (Tab.aggAt tabOk (by rfl)) (Tab.sizeAt tabOk (by rfl)) (by (try dsimp only); (repeat rw [over_other _ _ (by omega)]); first | assumption | exact over_same _ _ _) (by rfl)) (by rfl) (by rfl) ?_ | refine SeqE.step hE (StepO.store1 (by rfl) (by rfl) (Tab.sizeAt tabOk (by rfl)) (by rfl) (by rfl) (by (try dsimp only); (repeat rw [over_other _ _ (by omega)]); first | assumption | exact over_same _ _ _) (Nat.le_of_ble_eq_true (by rfl))) (by rfl) (by rfl) ?_ | refine SeqD.step (StepO.store1 (by rfl) (by rfl) (Tab.sizeAt tabOk (by rfl)) (by rfl) (by rfl) (by (try dsimp only); (repeat rw [over_other _ _ (by omega)]); first | assumption | exact over_same _ _ _) (Nat.le_of_ble_eq_true (by rfl))) (by rfl) (by rfl) ?_ | refine SeqE.step hE (StepO.storeAll (by rfl) (by rfl) (Tab.sizeAt tabOk (by rfl)) (by (try dsimp only); (repeat rw [over_other _ _ (by omega)]); first | assumption | exact over_same _ _ _) (by rfl) (by rfl)) (by rfl) (by rfl) ?_ | refine SeqD.step (StepO.storeAll (by rfl) (by rfl) (Tab.sizeAt tabOk (by rfl)) (by (try dsimp only); (repeat rw [over_other _ _ (by omega)]); first | assumption | exact over_same _ _ _) (by rfl) (by rfl)) (by rfl) (by rfl) ?_ | refine SeqE.step hE (StepO.make (by first | exact el3 | exact el4 | exact el33 | exact el35 | exact el37 | exact el50 | exact el51 | exact el56 | exact el87 | exact el89 | exact el95)) (by rfl) (by rfl) ?_ | refine SeqD.step (StepO.make (by first | exact el3 | exact el4 | exact el33 | exact el35 | exact el37 | exact el50 | exact el51 | exact el56 | exact el87 | exact el89 | exact el95)) (by rfl) (by rfl) ?_ | refine SeqE.step hE (StepO.box (by rfl) (by rfl)) (by rfl) (by rfl) ?_ | refine SeqD.step (StepO.box (by rfl) (by rfl)) (by rfl) (by rfl) ?_ | refine SeqE.step hE (StepO.indexAddr (by rfl) (by rfl) (Tab.slcAt tabOk (by rfl)) (by omega)) (by rfl) (by rfl) ?_ | refine SeqD.step (StepO.indexAddr (by rfl) (by rfl) (Tab.slcAt tabOk (by rfl)) (by omega)) (by rfl) (by rfl) ?_ | refine SeqE.step hE (StepO.lenSlice (by rfl) (Tab.slcAt tabOk (by rfl))) (by rfl) (by rfl) ?_ | refine SeqD.step (StepO.lenSlice (by rfl) (Tab.slcAt tabOk (by rfl))) (by rfl) (by rfl) ?_ | refine SeqE.step hE (StepO.binOp (by rfl) (by rfl) (lssT (by omega))) (by rfl) (by rfl) ?_ | refine SeqD.step (StepO.binOp (by rfl) (by rfl) (lssT (by omega))) (by rfl) (by rfl) ?_ | refine SeqE.step hE (StepO.binOp (by rfl) (by rfl) (lssF (by omega))) (by rfl) (by rfl) ?_ | refine SeqD.step (StepO.binOp (by rfl) (by rfl) (lssF (by omega))) (by rfl) (by rfl) ?_ | refine SeqE.step hE (StepO.binOp (by rfl) (by rfl) (leqT (by omega))) (by rfl) (by rfl) ?_ | refine SeqD.step (StepO.binOp (by rfl) (by rfl) (leqT (by omega))) (by rfl) (by rfl) ?_ | refine SeqE.step hE (StepO.binOp (by rfl) (by rfl) (leqF (by omega))) (by rfl) (by rfl) ?_ | refine SeqD.step (StepO.binOp (by rfl) (by rfl) (leqF (by omega))) (by rfl) (by rfl) ?_ | refine SeqE.step hE (StepO.binOp (by rfl) (by rfl) (gtrT (by omega))) (by rfl) (by rfl) ?_ | refine SeqD.step (StepO.binOp (by rfl) (by rfl) (gtrT (by omega))) (by rfl) (by rfl) ?_ | refine SeqE.step hE (StepO.binOp (by rfl) (by rfl) (gtrF (by omega))) (by rfl) (by rfl) ?_ | refine SeqD.step (StepO.binOp (by rfl) (by rfl) (gtrF (by omega))) (by rfl) (by rfl) ?_ | refine SeqE.step hE (StepO.binOp (by rfl) (by rfl) (geqT (by omega))) (by rfl) (by rfl) ?_ | refine SeqD.step (StepO.binOp (by rfl) (by rfl) (geqT (by omega))) (by rfl) (by rfl) ?_ | refine SeqE.step hE (StepO.binOp (by rfl) (by rfl) (geqF (by omega))) (by rfl) (by rfl) ?_ | refine SeqD.step (StepO.binOp (by rfl) (by rfl) (geqF (by omega))) (by rfl) (by rfl) ?_ | refine SeqE.step hE (StepO.binOp (by rfl) (by rfl) (eqlT (by omega))) (by rfl) (by rfl) ?_ | refine SeqD.step (StepO.binOp (by rfl) (by rfl) (eqlT (by omega))) (by rfl) (by rfl) ?_ | refine SeqE.step hE (StepO.binOp (by rfl) (by rfl) (eqlF (by omega))) (by rfl) (by rfl) ?_ | refine SeqD.step (StepO.binOp (by rfl) (by rfl) (eqlF (by omega))) (by rfl) (by rfl) ?_ | refine SeqE.step hE (StepO.binOp (by rfl) (by rfl) (neqT (by omega))) (by rfl) (by rfl) ?_ | refine SeqD.step (StepO.binOp (by rfl) (by rfl) (neqT (by omega))) (by rfl) (by rfl) ?_ | refine SeqE.step hE (StepO.binOp (by rfl) (by rfl) (neqF (by omega))) (by rfl) (by rfl) ?_ | refine SeqD.step (StepO.binOp (by rfl) (by rfl) (neqF (by omega))) (by rfl) (by rfl) ?_ | refine SeqE.step hE (StepO.binOp (by rfl) (by rfl) (addI (by omega))) (by rfl) (by rfl) ?_ | refine SeqD.step (StepO.binOp (by rfl) (by rfl) (addI (by omega))) (by rfl) (by rfl) ?_ | refine SeqE.step hE (StepO.binOp (by rfl) (by rfl) (subI (by omega))) (by rfl) (by rfl) ?_ | refine SeqD.step (StepO.binOp (by rfl) (by rfl) (subI (by omega))) (by rfl) (by rfl) ?_ | refine SeqE.step hE (StepO.buildSlice (by rfl) (Tab.slcAt tabOk (by rfl)) (by first | exact el3 | exact el4 | exact el33 | exact el35 | exact el37 | exact el50 | exact el51 | exact el56 | exact el87 | exact el89 | exact el95) (by decide) (by rfl)) (by rfl) (by rfl) ?_ | refine SeqD.step (StepO.buildSlice (by rfl) (Tab.slcAt tabOk (by rfl)) (by first | exact el3 | exact el4 | exact el33 | exact el35 | exact el37 | exact el50 | exact el51 | exact el56 | exact el87 | exact el89 | exact el95) (by decide) (by rfl)) (by rfl) (by rfl) ?_ | refine SeqE.step hE (StepO.buildT tabOk (by rfl) (by rfl) (by first | exact el3 | exact el4 | exact el33 | exact el35 | exact el37 | exact el50 | exact el51 | exact el56 | exact el87 | exact el89 | exact el95) (by rfl) (by kernel_rfl) (by rfl)) (by rfl) (by rfl) ?_ | refine SeqD.step (StepO.buildT tabOk (by rfl) (by rfl) (by first | exact el3 | exact el4 | exact el33 | exact el35 | exact el37 | exact el50 | exact el51 | exact el56 | exact el87 | exact el89 | exact el95) (by rfl) (by kernel_rfl) (by rfl)) (by rfl) (by rfl) ?_ | refine SeqE.step hE (StepO.binOp (by rfl) (by rfl) (eqlT (by decide))) (by rfl) (by rfl) ?_ | refine SeqD.step (StepO.binOp (by rfl) (by rfl) (eqlT (by decide))) (by rfl) (by rfl) ?_ | refine SeqE.step hE (StepO.binOp (by rfl) (by rfl) (eqlF (by decide))) (by rfl) (by rfl) ?_ | refine SeqD.step (StepO.binOp (by rfl) (by rfl) (eqlF (by decide))) (by rfl) (by rfl) ?_ | refine SeqE.step hE (StepO.binOp (by rfl) (by rfl) (neqT (by decide))) (by rfl) (by rfl) ?_ | refine SeqD.step (StepO.binOp (by rfl) (by rfl) (neqT (by decide))) (by rfl) (by rfl) ?_ | refine SeqE.step hE (StepO.binOp (by rfl) (by rfl) (neqF (by decide))) (by rfl) (by rfl) ?_ | refine SeqD.step (StepO.binOp (by rfl) (by rfl) (neqF (by decide))) (by rfl) (by rfl) ?_ | refine SeqE.step hE (StepO.binOp (by rfl) (by rfl) (by rfl)) (by rfl) (by rfl) ?_ | refine SeqD.step (StepO.binOp (by rfl) (by rfl) (by rfl)) (by rfl) (by rfl) ?_ | refine SeqE.step hE (StepO.unOp (by rfl) (by rfl)) (by rfl) (by rfl) ?_ | refine SeqD.step (StepO.unOp (by rfl) (by rfl)) (by rfl) (by rfl) ?_ | refine SeqE.step hE (StepO.extract (by rfl) (by rfl)) (by rfl) (by rfl) ?_ | refine SeqD.step (StepO.extract (by rfl) (by rfl)) (by rfl) (by rfl) ?_ | refine SeqE.leave (by rfl) (by rfl) ?_ | refine SeqD.leave (by rfl) ?_)
      refine SeqE.callX hE (opA_call rfl fn16 rfl) (hck2 _ _) rfl rfl fun nx5 hg5 => ?_
      repeat (first | refine SeqE.nil ?_ | refine CodeE.seq ?_ | refine CodeE.region ?_ | refine CodeE.condT (by rfl) ?_ | refine CodeE.ret ?_ | refine SeqE.step hE (StepO.assign (by rfl)) (by rfl) (by rfl) ?_ | refine SeqE.step hE (StepO.unOp (by rfl) (by rfl)) (by rfl) (by rfl) ?_)
      refine ⟨_, rfl, hQ _ _ _ ⟨fun k hk => ?_, .inr ⟨?_, rfl⟩⟩⟩
      · ((try dsimp only); (repeat rw [over_other _ _ (by omega)])); rw [hfr6 k (by omega)]; exact hfr5 k (by omega)
      · rw [List.all_eq_false]; exact ⟨o[j], List.getElem_mem hlt2, by simp [hc]⟩
  obtain rfl : j = o.length := by omega
  repeat (first | refine SeqE.nil ?_ | refine CodeE.seq ?_ | refine CodeE.region ?_ | refine CodeE.condF (by rfl) ?_ | refine CodeE.exit ?_ | refine CodeE.ret ?_ | refine SeqE.step hE (StepO.move (by rfl)) (by rfl) (by rfl) ?_ | refine SeqE.step hE (StepO.assign (by rfl)) (by rfl) (by rfl) ?_ | refine SeqE.step hE (StepO.lenSlice (by rfl) (Tab.slcAt tabOk (by rfl))) (by rfl) (by rfl) ?_ | refine SeqE.step hE (StepO.binOp (by rfl) (by rfl) (lssF (by omega))) (by rfl) (by rfl) ?_)
  refine ⟨_, rfl, hQ _ _ _ ⟨fun k hk => ?_, .inl ⟨?_, A, rfl, fun hpos => ?_⟩⟩⟩
  · rw [hfr6 k (by omega)]; exact hfr5 k (by omega)
  · rw [List.all_eq_true]
    intro x hx
    obtain ⟨i, hi, rfl⟩ := List.getElem_of_mem hx
    exact hck i hi hi
  · obtain ⟨b, e1, e2, e3, e4⟩ := hA2 hpos
    exact ⟨b, e1, by omega, by omega, (hfr6 b e3).trans e4⟩
end Go.Pick
