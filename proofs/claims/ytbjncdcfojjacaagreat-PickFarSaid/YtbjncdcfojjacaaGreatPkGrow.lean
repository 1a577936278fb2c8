/-
  What is proved: growing and laying out of drafts. Conditions: none.
-/
import Derived.Test.YtbjncdcfojjacaaGreatPkData
set_option linter.unusedVariables false
set_option linter.unusedSimpArgs false
set_option linter.unusedSectionVars false
namespace Go.Pick
open Go Go.RowKit Go.Sx Go.Sy Go.Proofs

/-- how many instructions a draft is -/
def szOf (x : Dr) (b : Bool) : Nat := if b then (if 0 ≤ opp x.ins.fn then 2 else 3) else 1
def zsOf (l : List Dr) (long : List Bool) : List Nat := List.zipWith szOf l long
theorem zsOf_len {l : List Dr} {long : List Bool} (h : long.length = l.length) : (zsOf l long).length = l.length := by simp [zsOf, h]
theorem zsOf_at {l : List Dr} {long : List Bool} {i : Nat} (h : i < (zsOf l long).length) (h1 : i < l.length) (h2 : i < long.length) : (zsOf l long)[i] = szOf l[i] long[i] := by simp [zsOf]
theorem zsOf_le {l : List Dr} {long : List Bool} : ∀ z ∈ zsOf l long, z ≤ 3 := by
  intro z hz
  obtain ⟨i, hi, rfl⟩ := List.getElem_of_mem hz
  simp only [zsOf, List.getElem_zipWith, szOf]
  split
  · split <;> omega
  · omega
/-- is a branch too far -/
def farB (l : List Dr) (ms : List Int) (zs : List Nat) (i : Nat) : Bool :=
  match l[i]? with
  | some x => decide (x.mark ≠ 0 ∧ x.ins.op = 20 ∧ (wayOf l ms zs i - 1 < -1024 ∨ 1024 ≤ wayOf l ms zs i - 1))
  | none => false
/-- which branches are long behind a round -/
def growL (l : List Dr) (ms : List Int) (long : List Bool) : List Bool := (List.range l.length).map fun i => long.getD i false || farB l ms (zsOf l long) i
def anyNew (l : List Dr) (ms : List Int) (long : List Bool) (k : Nat) : Bool := (List.range k).any fun i => !(long.getD i false) && farB l ms (zsOf l long) i
theorem growL_len (l : List Dr) (ms : List Int) (long : List Bool) : (growL l ms long).length = l.length := by simp [growL]
theorem growL_at {l : List Dr} {ms : List Int} {long : List Bool} {i : Nat} (h : i < (growL l ms long).length) (h2 : i < long.length) : (growL l ms long)[i] = (long[i] || farB l ms (zsOf l long) i) := by
  simp [growL, List.getD, h2]
theorem anyNew_succ {l : List Dr} {ms : List Int} {long : List Bool} {k : Nat} (h2 : k < long.length) : anyNew l ms long (k + 1) = (anyNew l ms long k || (!long[k] && farB l ms (zsOf l long) k)) := by
  unfold anyNew
  rw [List.range_succ, List.any_append]
  simp [List.getD, h2]
def mixL (a b : List Nat) (k : Nat) : List Nat := b.take k ++ a.drop k
theorem mixL_len {a b : List Nat} {k : Nat} (h : b.length = a.length) (hk : k ≤ a.length) : (mixL a b k).length = a.length := by simp [mixL]; omega
theorem mixL_at {a b : List Nat} {k : Nat} (h : b.length = a.length) (hk : k < a.length) (h1 : k < (mixL a b k).length) : (mixL a b k)[k] = a[k] := by
  have h2 : (mixL a b k)[k]? = a[k]? := by
    unfold mixL
    rw [List.getElem?_append_right (by simp; omega)]
    simp [h, Nat.min_eq_left (Nat.le_of_lt hk)]
  rw [List.getElem?_eq_getElem h1, List.getElem?_eq_getElem hk] at h2
  exact Option.some.inj h2
theorem mixL_set {a b : List Nat} {k : Nat} (h : b.length = a.length) (hk : k < a.length) : (mixL a b k).set k b[k] = mixL a b (k + 1) := by
  unfold mixL
  rw [List.set_append_right _ _ (by simp; omega), List.take_succ_eq_append_getElem (by omega), List.append_assoc, List.drop_eq_getElem_cons hk]
  congr 1
  simp [h, Nat.min_eq_left (Nat.le_of_lt hk)]
  rw [List.drop_eq_getElem_cons hk]
  rfl
theorem mixL_full {a b : List Nat} {n : Nat} (h : b.length = n) (h2 : a.length = n) : mixL a b n = b := by subst h; simp [mixL, h2]
theorem mixL_same {a b : List Nat} {k : Nat} (h : b.length = a.length) (hk : k < a.length) (e : b[k] = a[k]) : mixL a b k = mixL a b (k + 1) := by
  rw [← mixL_set h hk, e]
  rw [show a[k] = (mixL a b k)[k]'(by rw [mixL_len h (by omega)]; exact hk) from (mixL_at h hk _).symm, List.set_getElem_self]
theorem nums_set {l : List Nat} {i k : Nat} {v : Nat} {x : Int} (hk : k = i) (hx : x = v) : (nums l).set k (.int .i64 x) = nums (l.set i v) := by
  subst hk; subst hx
  simp [nums, List.map_set]
theorem nums_len (l : List Nat) : (nums l).length = l.length := by simp [nums]
theorem nums_val {l : List Nat} {i k v : Nat} (hk : k = i) (h : i < l.length) (hv : l[i] = v) : (nums l)[k]? = some (.int .i64 (v : Nat)) := by subst hk; subst hv; simp [nums, h]
theorem farB_eq {l : List Dr} {ms : List Int} {zs : List Nat} {i : Nat} (hi : i < l.length) : farB l ms zs i = decide (l[i].mark ≠ 0 ∧ l[i].ins.op = 20 ∧ (wayOf l ms zs i - 1 < -1024 ∨ 1024 ≤ wayOf l ms zs i - 1)) := by
  simp [farB, hi]
theorem wayOf_bd {l : List Dr} {ms : List Int} {zs : List Nat} (hb : ∀ z ∈ zs, z ≤ 3) (hn : zs.length ≤ 100000) (i : Nat) : -300000 ≤ wayOf l ms zs i ∧ wayOf l ms zs i ≤ 300000 := by
  unfold wayOf
  have h1 := pos_le hb (ms.getD ((l.getD i ⟨⟨0, 0, 0, 0, 0, false, 0, 0⟩, 0⟩).mark - 1).toNat 0).toNat
  have h2 := pos_le hb i
  omega

set_option maxHeartbeats 4000000 in
set_option maxRecDepth 20000 in
theorem grow_ok {br bs ba lim : Nat} {l : List Dr} {ms : List Int} {long : List Bool} {L M : Option Addr} {CL CM Cs Ca : Nat} {e1 : TypeId} {o1 : Bool} {hp : Hp} {nx : Nat}
    (hr : hp br = some (.cells [.slice L l.length CL, .slice M ms.length CM, .slice (some ⟨bs, 0, none⟩) l.length Cs, .slice (some ⟨ba, 0, none⟩) (l.length + 1) Ca] e1 o1))
    (hl : Row hp lim L l.length 9 (flat l)) (hm : Row hp lim M ms.length 1 (ints ms)) (hs : hp bs = some (.cells (nums (zsOf l long)) 3 true)) (ha : hp ba = some (.cells (nums (posL (zsOf l long))) 3 true))
    (hlen : long.length = l.length) (hn : l.length ≤ 100000) (hM : ms.length ≤ 9223372036854775807) (hmk : ∀ x ∈ l, 0 ≤ x.mark ∧ x.mark ≤ ms.length) (hms : ∀ k ∈ ms, 0 ≤ k ∧ k ≤ l.length)
    (hlim : lim ≤ bs) (h1 : br < nx) (h2 : bs < nx) (h3 : ba < nx) (h4 : lim ≤ nx) (d1 : br ≠ bs) (d2 : ba ≠ bs) :
    ∃ nx', CallR Tryz.prog 30 [.pointer (some ⟨br, 0, none⟩)] hp nx (.ret (.bool (anyNew l ms long l.length))) (over hp bs (some (.cells (nums (zsOf l (growL l ms long))) 3 true))) nx' := by
  refine CallE.leaves ?_ (over_far h2)
  have hz := zsOf_len hlen
  have hz' := zsOf_len (growL_len l ms long)
  have hbd := fun i => wayOf_bd (l := l) (ms := ms) (zs := zsOf l long) zsOf_le (by omega) i
  refine CallE.of_code hE Tryz.func30 rfl rfl ?_
  repeat (first | refine SeqE.nil ?_ | refine CodeE.seq ?_ | refine CodeE.region ?_ | refine CodeE.block ?_ | refine SeqE.step hE (StepO.move (by rfl)) (by rfl) (by rfl) ?_ | refine SeqE.step hE (StepO.assign (by rfl)) (by rfl) (by rfl) ?_ | refine SeqE.step hE (StepO.nilCheck (by rfl)) (by rfl) (by rfl) ?_ | refine SeqE.step hE (StepO.fieldAddr (by rfl) (Tab.fldAt tabOk (by rfl) (by rfl))) (by rfl) (by rfl) ?_ | refine SeqE.step hE (StepO.load1 (by rfl) (Tab.aggAt tabOk (by rfl)) (by (try dsimp only); (repeat rw [over_other _ _ (by omega)]); first | assumption | exact over_same _ _ _) (by rfl)) (by rfl) (by rfl) ?_ | refine SeqE.step hE (StepO.lenSlice (by rfl) (Tab.slcAt tabOk (by rfl))) (by rfl) (by rfl) ?_)
  refine CodeE.loop (fun m tm h x => ∃ i, i ≤ l.length ∧ m = l.length - i ∧ nx ≤ x ∧ (∀ k, k < nx → k ≠ bs → h k = hp k) ∧ h bs = some (.cells (nums (mixL (zsOf l long) (zsOf l (growL l ms long)) i)) 3 true) ∧
    ExtL [(0, .pointer (some ⟨br, 0, none⟩)), (3, .bool (anyNew l ms long i)), (10, .slice L l.length CL), (11, .int .i64 l.length), (12, .int .i64 i)] tm) ?_ l.length _ _ _
    ⟨0, by omega, by omega, Nat.le_refl _, fun _ _ _ => rfl, by rw [hs]; simp [mixL], rfl, rfl, rfl, rfl, rfl, trivial⟩
  · rintro m tm h x ⟨i, hi, rfl, hx, hk, hh, ht⟩
    refine CodeE.less ht ?_
    clear ht tm
    by_cases hlt : i < l.length
    case neg =>
      obtain rfl : i = l.length := by omega
      repeat (first | refine SeqE.nil ?_ | refine CodeE.seq ?_ | refine CodeE.region ?_ | refine CodeE.condF (by rfl) ?_ | refine CodeE.exit ?_ | refine CodeE.ret ?_ | refine SeqE.step hE (StepO.move (by rfl)) (by rfl) (by rfl) ?_ | refine SeqE.step hE (StepO.assign (by rfl)) (by rfl) (by rfl) ?_ | refine SeqE.step hE (StepO.binOp (by rfl) (by rfl) (lssF (by omega))) (by rfl) (by rfl) ?_)
      refine ⟨_, rfl, rfl, fun k hkn => ?_⟩
      by_cases e : k = bs
      · rw [e, hh, over_same, mixL_full hz' hz]
      · rw [hk k hkn e, over_other _ _ e]
    case pos =>
      obtain ⟨bl, el, ol, rfl, hbl, hcl⟩ := hl.2 (by omega)
      have hcl' : h bl = some (.cells (flat l) el ol) := (hk bl (by omega) (by omega)).trans hcl
      have hr' := (hk br h1 d1).trans hr
      have ha' := (hk ba h3 d2).trans ha
      have hl' : Row h lim _ l.length 9 (flat l) := hl.keep fun k hkl => hk k (by omega) (by omega)
      have hm' : Row h lim M ms.length 1 (ints ms) := hm.keep fun k hkl => hk k (by omega) (by omega)
      have hmki := hmk _ (List.getElem_mem hlt)
      have hmx := mixL_at (a := zsOf l long) (b := zsOf l (growL l ms long)) (k := i) (by omega) (by omega) (by rw [mixL_len (by omega) (by omega)]; omega)
      rw [zsOf_at _ hlt (by omega)] at hmx
      have hnew : (zsOf l (growL l ms long))[i]'(by omega) = szOf l[i] (long[i] || farB l ms (zsOf l long) i) := by
        rw [zsOf_at _ hlt (by rw [growL_len]; exact hlt), growL_at _ (by omega)]
      have hold : (zsOf l long)[i]'(by omega) = szOf l[i] long[i] := zsOf_at _ hlt (by omega)
      have hany := anyNew_succ (l := l) (ms := ms) (long := long) (k := i) (by omega)
      have hfar := farB_eq (ms := ms) (zs := zsOf l long) hlt
      have hsame : (farB l ms (zsOf l long) i = false ∨ long[i] = true) → mixL (zsOf l long) (zsOf l (growL l ms long)) i = mixL (zsOf l long) (zsOf l (growL l ms long)) (i + 1) ∧ anyNew l ms long (i + 1) = anyNew l ms long i := by
        intro hf
        refine ⟨mixL_same (by omega) (by omega) ?_, ?_⟩
        · rw [hnew, hold]; rcases hf with hf | hf <;> simp [hf]
        · rw [hany]; rcases hf with hf | hf <;> simp [hf]
      have hml : (mixL (zsOf l long) (zsOf l (growL l ms long)) i).length = l.length := by rw [mixL_len (by omega) (by omega)]; omega
      repeat (first | refine SeqE.nil ?_ | refine CodeE.seq ?_ | refine CodeE.region ?_ | refine CodeE.block ?_ | refine CodeE.condT (by rfl) ?_ | refine CodeE.skip ?_ | refine SeqE.step hE (StepO.move (by rfl)) (by rfl) (by rfl) ?_ | refine SeqE.step hE (StepO.indexAddr (by rfl) (by rfl) (Tab.slcAt tabOk (by rfl)) (by omega)) (by rfl) (by rfl) ?_ | refine SeqE.step hE (StepO.binOp (by rfl) (by rfl) (lssT (by omega))) (by rfl) (by rfl) ?_)
      refine SeqE.step hE (StepO.loadA rfl (Tab.aggAt tabOk rfl) (Tab.sizeAt tabOk rfl) (flat_draft hcl' hlt (by first | omega | (dsimp only; omega) | (simp only [] at *; omega)))) rfl rfl ?_
      by_cases hm0 : l[i].mark = 0
      · obtain ⟨g1, g2⟩ := hsame (.inl (by rw [hfar]; simp [hm0]))
        repeat (first | refine SeqE.nil ?_ | refine CodeE.seq ?_ | refine CodeE.region ?_ | refine CodeE.condT (by rfl) ?_ | refine CodeE.exit ?_ | refine SeqE.step hE (StepO.move (by rfl)) (by rfl) (by rfl) ?_ | refine SeqE.step hE (StepO.assign (by rfl)) (by rfl) (by rfl) ?_ | refine SeqE.step hE (StepO.pickT (by rfl) (by rfl)) (by rfl) (by rfl) ?_ | refine SeqE.step hE (StepO.fieldAddr (by rfl) (Tab.fldAt tabOk (by rfl) (by rfl))) (by rfl) (by rfl) ?_ | refine SeqE.step hE (StepO.load1 (by rfl) (Tab.aggAt tabOk (by rfl)) (by (try dsimp only); (repeat rw [over_other _ _ (by omega)]); first | assumption | exact over_same _ _ _) (by rfl)) (by rfl) (by rfl) ?_ | refine SeqE.step hE (StepO.storeAll (by rfl) (by rfl) (Tab.sizeAt tabOk (by rfl)) (by (try dsimp only); (repeat rw [over_other _ _ (by omega)]); first | assumption | exact over_same _ _ _) (by rfl) (by rfl)) (by rfl) (by rfl) ?_ | refine SeqE.step hE (StepO.make (by first | exact el3 | exact el4 | exact el33 | exact el35 | exact el37 | exact el50 | exact el51 | exact el56 | exact el87 | exact el89 | exact el95)) (by rfl) (by rfl) ?_ | refine SeqE.step hE (StepO.binOp (by rfl) (by rfl) (eqlT (by omega))) (by rfl) (by rfl) ?_ | refine SeqE.step hE (StepO.binOp (by rfl) (by rfl) (addI (by omega))) (by rfl) (by rfl) ?_ | refine SeqE.leave (by rfl) (by rfl) ?_)
        refine ⟨l.length - (i + 1), by omega, i + 1, by omega, rfl, by omega, fun k h1 h2 => ?_, ?_, rfl, ?_, rfl, rfl, rfl, trivial⟩
        · (repeat rw [over_other _ _ (by omega)]); exact hk k h1 h2
        · (repeat rw [over_other _ _ (by omega)]); rw [hh, g1]
        · rw [g2]; rfl
      by_cases hop : l[i].ins.op = 20
      case neg =>
        obtain ⟨g1, g2⟩ := hsame (.inl (by rw [hfar]; simp [hop]))
        repeat (first | refine SeqE.nil ?_ | refine CodeE.seq ?_ | refine CodeE.region ?_ | refine CodeE.condT (by rfl) ?_ | refine CodeE.exit ?_ | refine SeqE.step hE (StepO.move (by rfl)) (by rfl) (by rfl) ?_ | refine SeqE.step hE (StepO.assign (by rfl)) (by rfl) (by rfl) ?_ | refine SeqE.step hE (StepO.pickT (by rfl) (by rfl)) (by rfl) (by rfl) ?_ | refine SeqE.step hE (StepO.pickF (by rfl) (by rfl)) (by rfl) (by rfl) ?_ | refine SeqE.step hE (StepO.fieldAddr (by rfl) (Tab.fldAt tabOk (by rfl) (by rfl))) (by rfl) (by rfl) ?_ | refine SeqE.step hE (StepO.load1 (by rfl) (Tab.aggAt tabOk (by rfl)) (by (try dsimp only); (repeat rw [over_other _ _ (by omega)]); first | assumption | exact over_same _ _ _) (by rfl)) (by rfl) (by rfl) ?_ | refine SeqE.step hE (StepO.storeAll (by rfl) (by rfl) (Tab.sizeAt tabOk (by rfl)) (by (try dsimp only); (repeat rw [over_other _ _ (by omega)]); first | assumption | exact over_same _ _ _) (by rfl) (by rfl)) (by rfl) (by rfl) ?_ | refine SeqE.step hE (StepO.make (by first | exact el3 | exact el4 | exact el33 | exact el35 | exact el37 | exact el50 | exact el51 | exact el56 | exact el87 | exact el89 | exact el95)) (by rfl) (by rfl) ?_ | refine SeqE.step hE (StepO.binOp (by rfl) (by rfl) (eqlF (by omega))) (by rfl) (by rfl) ?_ | refine SeqE.step hE (StepO.binOp (by rfl) (by rfl) (neqT (by omega))) (by rfl) (by rfl) ?_ | refine SeqE.step hE (StepO.binOp (by rfl) (by rfl) (addI (by omega))) (by rfl) (by rfl) ?_ | refine SeqE.leave (by rfl) (by rfl) ?_)
        refine ⟨l.length - (i + 1), by omega, i + 1, by omega, rfl, by omega, fun k h1 h2 => ?_, ?_, rfl, ?_, rfl, rfl, rfl, trivial⟩
        · (repeat rw [over_other _ _ (by omega)]); exact hk k h1 h2
        · (repeat rw [over_other _ _ (by omega)]); rw [hh, g1]
        · rw [g2]; rfl
      repeat (first | refine SeqE.nil ?_ | refine CodeE.seq ?_ | refine CodeE.region ?_ | refine SeqE.step hE (StepO.move (by rfl)) (by rfl) (by rfl) ?_ | refine SeqE.step hE (StepO.assign (by rfl)) (by rfl) (by rfl) ?_ | refine SeqE.step hE (StepO.pickF (by rfl) (by rfl)) (by rfl) (by rfl) ?_ | refine SeqE.step hE (StepO.nilCheck (by rfl)) (by rfl) (by rfl) ?_ | refine SeqE.step hE (StepO.fieldAddr (by rfl) (Tab.fldAt tabOk (by rfl) (by rfl))) (by rfl) (by rfl) ?_ | refine SeqE.step hE (StepO.load1 (by rfl) (Tab.aggAt tabOk (by rfl)) (by (try dsimp only); (repeat rw [over_other _ _ (by omega)]); first | assumption | exact over_same _ _ _) (by rfl)) (by rfl) (by rfl) ?_ | refine SeqE.step hE (StepO.storeAll (by rfl) (by rfl) (Tab.sizeAt tabOk (by rfl)) (by (try dsimp only); (repeat rw [over_other _ _ (by omega)]); first | assumption | exact over_same _ _ _) (by rfl) (by rfl)) (by rfl) (by rfl) ?_ | refine SeqE.step hE (StepO.make (by first | exact el3 | exact el4 | exact el33 | exact el35 | exact el37 | exact el50 | exact el51 | exact el56 | exact el87 | exact el89 | exact el95)) (by rfl) (by rfl) ?_ | refine SeqE.step hE (StepO.indexAddr (by rfl) (by rfl) (Tab.slcAt tabOk (by rfl)) (by omega)) (by rfl) (by rfl) ?_ | refine SeqE.step hE (StepO.binOp (by rfl) (by rfl) (eqlF (by omega))) (by rfl) (by rfl) ?_ | refine SeqE.step hE (StepO.binOp (by rfl) (by rfl) (neqF (by omega))) (by rfl) (by rfl) ?_)
      refine SeqE.step hE (StepO.load1 rfl (Tab.aggAt tabOk rfl) (by (try dsimp only); (repeat rw [over_other _ _ (by omega)]); first | assumption | exact over_same _ _ _) (nums_val (i := i) (v := szOf l[i] long[i]) (at_int i) (by omega) hmx)) rfl rfl ?_
      by_cases hlg : long[i] = true
      · have hsz : 1 < szOf l[i] long[i] := by rw [hlg]; unfold szOf; simp only [if_true]; split <;> omega
        obtain ⟨g1, g2⟩ := hsame (.inr hlg)
        repeat (first | refine SeqE.nil ?_ | refine CodeE.region ?_ | refine CodeE.condT (by rfl) ?_ | refine CodeE.exit ?_ | refine SeqE.step hE (StepO.move (by rfl)) (by rfl) (by rfl) ?_ | refine SeqE.step hE (StepO.pickF (by rfl) (by rfl)) (by rfl) (by rfl) ?_ | refine SeqE.step hE (StepO.binOp (by rfl) (by rfl) (gtrT (by omega))) (by rfl) (by rfl) ?_ | refine SeqE.step hE (StepO.binOp (by rfl) (by rfl) (addI (by omega))) (by rfl) (by rfl) ?_)
        refine ⟨l.length - (i + 1), by omega, i + 1, by omega, rfl, by omega, fun k h1 h2 => ?_, ?_, rfl, ?_, rfl, rfl, rfl, trivial⟩
        · (repeat rw [over_other _ _ (by omega)]); exact hk k h1 h2
        · (repeat rw [over_other _ _ (by omega)]); rw [hh, g1]
        · rw [g2]; rfl
      have hlg' : long[i] = false := by simpa using hlg
      have hsz : szOf l[i] long[i] = 1 := by rw [hlg']; rfl
      have hbi := hbd i
      repeat (first | refine SeqE.nil ?_ | refine CodeE.seq ?_ | refine CodeE.region ?_ | refine CodeE.condF (by rfl) ?_ | refine CodeE.skip ?_ | refine SeqE.step hE (StepO.move (by rfl)) (by rfl) (by rfl) ?_ | refine SeqE.step hE (StepO.pickF (by rfl) (by rfl)) (by rfl) (by rfl) ?_ | refine SeqE.step hE (StepO.binOp (by rfl) (by rfl) (gtrF (by omega))) (by rfl) (by rfl) ?_)
      refine SeqE.callX hE (opA_call rfl fn50 rfl) (way_ok (by (try dsimp only); (repeat rw [over_other _ _ (by omega)]); first | assumption | exact over_same _ _ _) (hl'.keep fun k hkl => (by (try dsimp only); (repeat rw [over_other _ _ (by omega)]))) (hm'.keep fun k hkl => (by (try dsimp only); (repeat rw [over_other _ _ (by omega)]))) (by (try dsimp only); (repeat rw [over_other _ _ (by omega)]); first | assumption | exact over_same _ _ _) hz hn hM zsOf_le hlt (by omega) (by omega) hms) rfl rfl fun nx1 hg1 => ?_
      by_cases hf : wayOf l ms (zsOf l long) i - 1 < -1024 ∨ 1024 ≤ wayOf l ms (zsOf l long) i - 1
      case neg =>
        obtain ⟨g1, g2⟩ := hsame (.inl (by rw [hfar]; simp only [hf, and_false, decide_false]))
        have hf1 : -1024 ≤ wayOf l ms (zsOf l long) i - 1 := by omega
        have hf2 : wayOf l ms (zsOf l long) i - 1 < 1024 := by omega
        repeat (first | refine SeqE.nil ?_ | refine CodeE.seq ?_ | refine CodeE.region ?_ | refine CodeE.condF (by rfl) ?_ | refine CodeE.skip ?_ | refine SeqE.step hE (StepO.move (by rfl)) (by rfl) (by rfl) ?_ | refine SeqE.step hE (StepO.assign (by rfl)) (by rfl) (by rfl) ?_ | refine SeqE.step hE (StepO.pickF (by rfl) (by rfl)) (by rfl) (by rfl) ?_ | refine SeqE.step hE (StepO.binOp (by rfl) (by rfl) (lssF (by omega))) (by rfl) (by rfl) ?_ | refine SeqE.step hE (StepO.binOp (by rfl) (by rfl) (geqF (by omega))) (by rfl) (by rfl) ?_ | refine SeqE.step hE (StepO.binOp (by rfl) (by rfl) (addI (by omega))) (by rfl) (by rfl) ?_ | refine SeqE.step hE (StepO.binOp (by rfl) (by rfl) (subI (by omega))) (by rfl) (by rfl) ?_)
        refine ⟨l.length - (i + 1), by omega, i + 1, by omega, rfl, by omega, fun k h1 h2 => ?_, ?_, rfl, ?_, rfl, rfl, rfl, trivial⟩
        · (repeat rw [over_other _ _ (by omega)]); exact hk k h1 h2
        · (repeat rw [over_other _ _ (by omega)]); rw [hh, g1]
        · rw [g2]; rfl
      have hfT : farB l ms (zsOf l long) i = true := by rw [hfar]; simp only [hf, hop, hm0, not_false_eq_true, ne_eq, and_self, decide_true]
      rw [hlg', hfT] at hnew
      have hanyT : anyNew l ms long (i + 1) = true := by rw [hany, hlg', hfT]; simp
      rcases hf with hf | hf
      all_goals
        repeat (first | refine SeqE.nil ?_ | refine CodeE.seq ?_ | refine CodeE.region ?_ | refine CodeE.condT (by rfl) ?_ | refine SeqE.step hE (StepO.move (by rfl)) (by rfl) (by rfl) ?_ | refine SeqE.step hE (StepO.assign (by rfl)) (by rfl) (by rfl) ?_ | refine SeqE.step hE (StepO.pickT (by rfl) (by rfl)) (by rfl) (by rfl) ?_ | refine SeqE.step hE (StepO.pickF (by rfl) (by rfl)) (by rfl) (by rfl) ?_ | refine SeqE.step hE (StepO.nilCheck (by rfl)) (by rfl) (by rfl) ?_ | refine SeqE.step hE (StepO.fieldAddr (by rfl) (Tab.fldAt tabOk (by rfl) (by rfl))) (by rfl) (by rfl) ?_ | refine SeqE.step hE (StepO.load1 (by rfl) (Tab.aggAt tabOk (by rfl)) (by (try dsimp only); (repeat rw [over_other _ _ (by omega)]); first | assumption | exact over_same _ _ _) (by rfl)) (by rfl) (by rfl) ?_ | refine SeqE.step hE (StepO.indexAddr (by rfl) (by rfl) (Tab.slcAt tabOk (by rfl)) (by omega)) (by rfl) (by rfl) ?_ | refine SeqE.step hE (StepO.binOp (by rfl) (by rfl) (lssT (by omega))) (by rfl) (by rfl) ?_ | refine SeqE.step hE (StepO.binOp (by rfl) (by rfl) (lssF (by omega))) (by rfl) (by rfl) ?_ | refine SeqE.step hE (StepO.binOp (by rfl) (by rfl) (geqT (by omega))) (by rfl) (by rfl) ?_ | refine SeqE.step hE (StepO.binOp (by rfl) (by rfl) (subI (by omega))) (by rfl) (by rfl) ?_ | refine SeqE.leave (by rfl) (by rfl) ?_)
        refine SeqE.step hE (StepO.store1 rfl rfl (Tab.sizeAt tabOk rfl) rfl rfl (by (try dsimp only); (repeat rw [over_other _ _ (by omega)]); first | assumption | exact over_same _ _ _) (by rw [nums_len]; dsimp only; omega)) rfl rfl ?_
        repeat (first | refine SeqE.nil ?_ | refine CodeE.seq ?_ | refine CodeE.region ?_ | refine SeqE.step hE (StepO.fieldAddr (by rfl) (Tab.fldAt tabOk (by rfl) (by rfl))) (by rfl) (by rfl) ?_ | refine SeqE.step hE (StepO.load1 (by rfl) (Tab.aggAt tabOk (by rfl)) (by (try dsimp only); (repeat rw [over_other _ _ (by omega)]); first | assumption | exact over_same _ _ _) (by rfl)) (by rfl) (by rfl) ?_)
        refine SeqE.callX hE (opA_call rfl fn51 rfl) (CallE.still ((opp_ok l[i].ins.fn _ _).mono fun _ _ _ ⟨a1, a2, _⟩ => ⟨a1, fun _ _ => by rw [a2]⟩)) rfl rfl fun nx2 hg2 => ?_
        by_cases ho : 0 ≤ opp l[i].ins.fn
        · have hn2 : (zsOf l (growL l ms long))[i]'(by omega) = 2 := by rw [hnew]; simp [szOf, ho]
          repeat (first | refine SeqE.nil ?_ | refine CodeE.region ?_ | refine CodeE.condT (by rfl) ?_ | refine SeqE.step hE (StepO.move (by rfl)) (by rfl) (by rfl) ?_ | refine SeqE.step hE (StepO.nilCheck (by rfl)) (by rfl) (by rfl) ?_ | refine SeqE.step hE (StepO.fieldAddr (by rfl) (Tab.fldAt tabOk (by rfl) (by rfl))) (by rfl) (by rfl) ?_ | refine SeqE.step hE (StepO.load1 (by rfl) (Tab.aggAt tabOk (by rfl)) (by (try dsimp only); (repeat rw [over_other _ _ (by omega)]); first | assumption | exact over_same _ _ _) (by rfl)) (by rfl) (by rfl) ?_ | refine SeqE.step hE (StepO.indexAddr (by rfl) (by rfl) (Tab.slcAt tabOk (by rfl)) (by omega)) (by rfl) (by rfl) ?_ | refine SeqE.step hE (StepO.binOp (by rfl) (by rfl) (geqT (by omega))) (by rfl) (by rfl) ?_)
          refine SeqE.step hE (StepO.store1 rfl rfl (Tab.sizeAt tabOk rfl) rfl rfl (by (try dsimp only); (repeat rw [over_other _ _ (by omega)]); first | assumption | exact over_same _ _ _) (by rw [List.length_set, nums_len]; dsimp only; omega)) rfl rfl ?_
          repeat (first | refine SeqE.nil ?_ | refine CodeE.region ?_ | refine SeqE.step hE (StepO.move (by rfl)) (by rfl) (by rfl) ?_ | refine SeqE.step hE (StepO.assign (by rfl)) (by rfl) (by rfl) ?_ | refine SeqE.step hE (StepO.binOp (by rfl) (by rfl) (addI (by omega))) (by rfl) (by rfl) ?_)
          refine ⟨l.length - (i + 1), by omega, i + 1, by omega, rfl, by omega, fun k h1 h2 => ?_, ?_, rfl, ?_, rfl, rfl, rfl, trivial⟩
          · (try dsimp only); (repeat rw [over_other _ _ (by omega)]); exact hk k h1 h2
          · (try dsimp only); (repeat rw [over_other _ _ (by omega)]); rw [over_same, at_int, List.set_set, nums_set (i := i) (v := 2) (x := 2) rfl rfl, ← hn2, mixL_set (by omega) (by omega)]
          · rw [hanyT]; rfl
        · have hn3 : (zsOf l (growL l ms long))[i]'(by omega) = 3 := by rw [hnew]; simp [szOf, ho]
          repeat (first | refine SeqE.nil ?_ | refine CodeE.region ?_ | refine CodeE.condF (by rfl) ?_ | refine CodeE.skip ?_ | refine SeqE.step hE (StepO.move (by rfl)) (by rfl) (by rfl) ?_ | refine SeqE.step hE (StepO.assign (by rfl)) (by rfl) (by rfl) ?_ | refine SeqE.step hE (StepO.binOp (by rfl) (by rfl) (geqF (by omega))) (by rfl) (by rfl) ?_ | refine SeqE.step hE (StepO.binOp (by rfl) (by rfl) (addI (by omega))) (by rfl) (by rfl) ?_)
          refine ⟨l.length - (i + 1), by omega, i + 1, by omega, rfl, by omega, fun k h1 h2 => ?_, ?_, rfl, ?_, rfl, rfl, rfl, trivial⟩
          · (try dsimp only); (repeat rw [over_other _ _ (by omega)]); exact hk k h1 h2
          · (try dsimp only); (repeat rw [over_other _ _ (by omega)]); rw [over_same, at_int, nums_set (i := i) (v := 3) (x := 3) rfl rfl, ← hn3, mixL_set (by omega) (by omega)]
          · rw [hanyT]; rfl
end Go.Pick
namespace Go.Pick
open Go Go.RowKit Go.Sx Go.Sy Go.Proofs

def jmp (n : Int) : Ins := ⟨21, 0, 0, 0, 0, false, 0, n⟩
set_option maxRecDepth 20000 in
theorem jump_ok (n : Int) (hp : Hp) (nx : Nat) : ∃ nx', CallR Tryz.prog 52 [.int .i64 n] hp nx (.ret (.agg ⟨(jmp n).vals⟩)) hp nx' := by
  refine CallE.still ?_
  refine CallE.of_code hE Tryz.func52 rfl rfl ?_
  repeat (first | refine SeqE.nil ?_ | refine CodeE.seq ?_ | refine CodeE.region ?_ | refine CodeE.ret ?_ | refine SeqE.step hE (StepO.move (by rfl)) (by rfl) (by rfl) ?_ | refine SeqE.step hE (StepO.storeAll (by rfl) (by rfl) (Tab.sizeAt tabOk (by rfl)) (by (try dsimp only); (repeat rw [over_other _ _ (by omega)]); first | assumption | exact over_same _ _ _) (by rfl) (by rfl)) (by rfl) (by rfl) ?_ | refine SeqE.step hE (StepO.make (by first | exact el3 | exact el4 | exact el33 | exact el35 | exact el37 | exact el50 | exact el51 | exact el56 | exact el87 | exact el89 | exact el95)) (by rfl) (by rfl) ?_ | refine SeqE.step hE (StepO.buildT tabOk (by rfl) (by rfl) (by first | exact el3 | exact el4 | exact el33 | exact el35 | exact el37 | exact el50 | exact el51 | exact el56 | exact el87 | exact el89 | exact el95) (by rfl) (by kernel_rfl) (by rfl)) (by rfl) (by rfl) ?_)
  refine ⟨_, res_cell rfl (Tab.aggAt tabOk rfl) (Tab.sizeAt tabOk rfl) (hread_all (by (try dsimp only); (repeat rw [over_other _ _ (by omega)]); first | assumption | exact over_same _ _ _) rfl), rfl, fun k hk => (by (try dsimp only); (repeat rw [over_other _ _ (by omega)]))⟩

/-- a draft's instructions -/
def outF (l : List Dr) (ms : List Int) (zs : List Nat) (i : Nat) (x : Dr) (b : Bool) : List Ins :=
  if x.mark = 0 then [x.ins] else
  if b = false then [{ x.ins with imm := wayOf l ms zs i - 1 }] else
  if 0 ≤ opp x.ins.fn then [{ x.ins with fn := opp x.ins.fn, imm := 1 }, jmp (wayOf l ms zs i - 2)] else
  [{ x.ins with imm := 1 }, jmp 1, jmp (wayOf l ms zs i - 3)]
set_option maxHeartbeats 4000000 in
set_option maxRecDepth 20000 in
theorem out_ok {br bs ba lim i : Nat} {l : List Dr} {ms : List Int} {long : List Bool} {L M : Option Addr} {CL CM Cs Ca : Nat} {e1 : TypeId} {o1 : Bool} {hp : Hp} {nx : Nat}
    (hr : hp br = some (.cells [.slice L l.length CL, .slice M ms.length CM, .slice (some ⟨bs, 0, none⟩) l.length Cs, .slice (some ⟨ba, 0, none⟩) (l.length + 1) Ca] e1 o1))
    (hl : Row hp lim L l.length 9 (flat l)) (hm : Row hp lim M ms.length 1 (ints ms)) (hs : hp bs = some (.cells (nums (zsOf l long)) 3 true)) (ha : hp ba = some (.cells (nums (posL (zsOf l long))) 3 true))
    (hlen : long.length = l.length) (hn : l.length ≤ 100000) (hM : ms.length ≤ 9223372036854775807) (hmk : ∀ x ∈ l, 0 ≤ x.mark ∧ x.mark ≤ ms.length) (hms : ∀ k ∈ ms, 0 ≤ k ∧ k ≤ l.length)
    (h1 : br < nx) (h2 : bs < nx) (h3 : ba < nx) (h4 : lim ≤ nx) (hi : i < l.length) :
    ∃ nx' b, nx ≤ b ∧ b < nx' ∧ CallR Tryz.prog 31 [.pointer (some ⟨br, 0, none⟩), .int .i64 i] hp nx
      (.ret (.slice (some ⟨b, 0, none⟩) (outF l ms (zsOf l long) i l[i] (long[i]'(by omega))).length (2 * (outF l ms (zsOf l long) i l[i] (long[i]'(by omega))).length + 1)))
      (over hp b (some (.cells (insFlat (outF l ms (zsOf l long) i l[i] (long[i]'(by omega)))) 37 true))) nx' := by
  refine CallE.row ?_
  obtain ⟨bl, el, ol, rfl, hbl, hcl⟩ := hl.2 (by omega)
  have hz := zsOf_len hlen
  have hbd := wayOf_bd (l := l) (ms := ms) (zs := zsOf l long) zsOf_le (by omega) i
  have hold : (zsOf l long)[i]'(by omega) = szOf l[i] (long[i]'(by omega)) := zsOf_at _ hi (by omega)
  have hmki := hmk _ (List.getElem_mem hi)
  refine CallE.of_code hE Tryz.func31 rfl rfl ?_
  repeat (first | refine SeqE.nil ?_ | refine CodeE.seq ?_ | refine CodeE.region ?_ | refine SeqE.step hE (StepO.move (by rfl)) (by rfl) (by rfl) ?_ | refine SeqE.step hE (StepO.assign (by rfl)) (by rfl) (by rfl) ?_ | refine SeqE.step hE (StepO.nilCheck (by rfl)) (by rfl) (by rfl) ?_ | refine SeqE.step hE (StepO.fieldAddr (by rfl) (Tab.fldAt tabOk (by rfl) (by rfl))) (by rfl) (by rfl) ?_ | refine SeqE.step hE (StepO.load1 (by rfl) (Tab.aggAt tabOk (by rfl)) (by (try dsimp only); (repeat rw [over_other _ _ (by omega)]); first | assumption | exact over_same _ _ _) (by rfl)) (by rfl) (by rfl) ?_ | refine SeqE.step hE (StepO.indexAddr (by rfl) (by rfl) (Tab.slcAt tabOk (by rfl)) (by omega)) (by rfl) (by rfl) ?_)
  refine SeqE.step hE (StepO.loadA rfl (Tab.aggAt tabOk rfl) (Tab.sizeAt tabOk rfl) (flat_ins hcl hi (by first | omega | (dsimp only; omega) | (simp only [] at *; omega)))) rfl rfl ?_
  repeat (first | refine SeqE.nil ?_ | refine CodeE.seq ?_ | refine CodeE.region ?_ | refine SeqE.step hE (StepO.move (by rfl)) (by rfl) (by rfl) ?_ | refine SeqE.step hE (StepO.nilCheck (by rfl)) (by rfl) (by rfl) ?_ | refine SeqE.step hE (StepO.fieldAddr (by rfl) (Tab.fldAt tabOk (by rfl) (by rfl))) (by rfl) (by rfl) ?_ | refine SeqE.step hE (StepO.load1 (by rfl) (Tab.aggAt tabOk (by rfl)) (by (try dsimp only); (repeat rw [over_other _ _ (by omega)]); first | assumption | exact over_same _ _ _) (by rfl)) (by rfl) (by rfl) ?_ | refine SeqE.step hE (StepO.storeAll (by rfl) (by rfl) (Tab.sizeAt tabOk (by rfl)) (by (try dsimp only); (repeat rw [over_other _ _ (by omega)]); first | assumption | exact over_same _ _ _) (by rfl) (by rfl)) (by rfl) (by rfl) ?_ | refine SeqE.step hE (StepO.make (by first | exact el3 | exact el4 | exact el33 | exact el35 | exact el37 | exact el50 | exact el51 | exact el56 | exact el87 | exact el89 | exact el95)) (by rfl) (by rfl) ?_ | refine SeqE.step hE (StepO.indexAddr (by rfl) (by rfl) (Tab.slcAt tabOk (by rfl)) (by omega)) (by rfl) (by rfl) ?_)
  refine SeqE.step hE (StepO.load1 rfl (Tab.aggAt tabOk rfl) (by (try dsimp only); (repeat rw [over_other _ _ (by omega)]); first | assumption | exact over_same _ _ _) (flat_mark hi (by first | omega | (dsimp only; omega) | (simp only [] at *; omega)))) rfl rfl ?_
  by_cases hm0 : l[i].mark = 0
  · rw [show outF l ms (zsOf l long) i l[i] (long[i]'(by omega)) = [l[i].ins] by simp [outF, hm0]]
    repeat (first | refine SeqE.nil ?_ | refine CodeE.seq ?_ | refine CodeE.region ?_ | refine CodeE.condT (by rfl) ?_ | refine CodeE.ret ?_ | refine SeqE.step hE (StepO.assign (by rfl)) (by rfl) (by rfl) ?_ | refine SeqE.step hE (StepO.loadC (by rfl) (Tab.aggAt tabOk (by rfl)) (Tab.sizeAt tabOk (by rfl)) (by (try dsimp only); (repeat rw [over_other _ _ (by omega)]); first | assumption | exact over_same _ _ _) (by rfl)) (by rfl) (by rfl) ?_ | refine SeqE.step hE (StepO.binOp (by rfl) (by rfl) (eqlT (by omega))) (by rfl) (by rfl) ?_ | refine SeqE.step hE (StepO.buildSlice (by rfl) (Tab.slcAt tabOk (by rfl)) (by first | exact el3 | exact el4 | exact el33 | exact el35 | exact el37 | exact el50 | exact el51 | exact el56 | exact el87 | exact el89 | exact el95) (by decide) (by rfl)) (by rfl) (by rfl) ?_)
    exact ⟨_, rfl, _, rfl, by omega, by omega, (by (try dsimp only); (repeat rw [over_other _ _ (by omega)]); first | assumption | exact over_same _ _ _), fun j hj => (by (try dsimp only); (repeat rw [over_other _ _ (by omega)]))⟩
  repeat (first | refine SeqE.nil ?_ | refine CodeE.seq ?_ | refine CodeE.region ?_ | refine CodeE.condF (by rfl) ?_ | refine CodeE.skip ?_ | refine SeqE.step hE (StepO.move (by rfl)) (by rfl) (by rfl) ?_ | refine SeqE.step hE (StepO.binOp (by rfl) (by rfl) (eqlF (by omega))) (by rfl) (by rfl) ?_)
  refine SeqE.callX hE (opA_call rfl fn50 rfl) (way_ok (by (try dsimp only); (repeat rw [over_other _ _ (by omega)]); first | assumption | exact over_same _ _ _) (hl.keep fun k hkl => (by (try dsimp only); (repeat rw [over_other _ _ (by omega)]))) (hm.keep fun k hkl => (by (try dsimp only); (repeat rw [over_other _ _ (by omega)]))) (by (try dsimp only); (repeat rw [over_other _ _ (by omega)]); first | assumption | exact over_same _ _ _) hz hn hM zsOf_le hi (by omega) (by omega) hms) rfl rfl fun nx1 hg1 => ?_
  repeat (first | refine SeqE.nil ?_ | refine CodeE.seq ?_ | refine CodeE.region ?_ | refine SeqE.step hE (StepO.move (by rfl)) (by rfl) (by rfl) ?_ | refine SeqE.step hE (StepO.assign (by rfl)) (by rfl) (by rfl) ?_ | refine SeqE.step hE (StepO.nilCheck (by rfl)) (by rfl) (by rfl) ?_ | refine SeqE.step hE (StepO.fieldAddr (by rfl) (Tab.fldAt tabOk (by rfl) (by rfl))) (by rfl) (by rfl) ?_ | refine SeqE.step hE (StepO.load1 (by rfl) (Tab.aggAt tabOk (by rfl)) (by (try dsimp only); (repeat rw [over_other _ _ (by omega)]); first | assumption | exact over_same _ _ _) (by rfl)) (by rfl) (by rfl) ?_ | refine SeqE.step hE (StepO.indexAddr (by rfl) (by rfl) (Tab.slcAt tabOk (by rfl)) (by omega)) (by rfl) (by rfl) ?_)
  refine SeqE.step hE (StepO.load1 rfl (Tab.aggAt tabOk rfl) (by (try dsimp only); (repeat rw [over_other _ _ (by omega)]); first | assumption | exact over_same _ _ _) (nums_val (i := i) (v := szOf l[i] (long[i]'(by omega))) (at_int i) (by omega) hold)) rfl rfl ?_
  by_cases hlg : long[i]'(by omega) = true
  case neg =>
    have hlg' : long[i]'(by omega) = false := by simpa using hlg
    rw [show outF l ms (zsOf l long) i l[i] (long[i]'(by omega)) = [{ l[i].ins with imm := wayOf l ms (zsOf l long) i - 1 }] by simp [outF, hm0, hlg']]
    have hsz : szOf l[i] (long[i]'(by omega)) = 1 := by rw [hlg']; rfl
    repeat (first | refine SeqE.nil ?_ | refine CodeE.seq ?_ | refine CodeE.region ?_ | refine CodeE.block ?_ | refine CodeE.condT (by rfl) ?_ | refine CodeE.ret ?_ | refine SeqE.step hE (StepO.move (by rfl)) (by rfl) (by rfl) ?_ | refine SeqE.step hE (StepO.assign (by rfl)) (by rfl) (by rfl) ?_ | refine SeqE.step hE (StepO.fieldAddr (by rfl) (Tab.fldAt tabOk (by rfl) (by rfl))) (by rfl) (by rfl) ?_ | refine SeqE.step hE (StepO.loadC (by rfl) (Tab.aggAt tabOk (by rfl)) (Tab.sizeAt tabOk (by rfl)) (by (try dsimp only); (repeat rw [over_other _ _ (by omega)]); first | assumption | exact over_same _ _ _) (by rfl)) (by rfl) (by rfl) ?_ | refine SeqE.step hE (StepO.store1 (by rfl) (by rfl) (Tab.sizeAt tabOk (by rfl)) (by rfl) (by rfl) (by (try dsimp only); (repeat rw [over_other _ _ (by omega)]); first | assumption | exact over_same _ _ _) (Nat.le_of_ble_eq_true (by rfl))) (by rfl) (by rfl) ?_ | refine SeqE.step hE (StepO.binOp (by rfl) (by rfl) (eqlT (by omega))) (by rfl) (by rfl) ?_ | refine SeqE.step hE (StepO.binOp (by rfl) (by rfl) (subI (by omega))) (by rfl) (by rfl) ?_ | refine SeqE.step hE (StepO.buildSlice (by rfl) (Tab.slcAt tabOk (by rfl)) (by first | exact el3 | exact el4 | exact el33 | exact el35 | exact el37 | exact el50 | exact el51 | exact el56 | exact el87 | exact el89 | exact el95) (by decide) (by rfl)) (by rfl) (by rfl) ?_)
    exact ⟨_, rfl, _, rfl, by omega, by omega, (by (try dsimp only); (repeat rw [over_other _ _ (by omega)]); first | assumption | exact over_same _ _ _), fun j hj => (by (try dsimp only); (repeat rw [over_other _ _ (by omega)]))⟩
  by_cases ho : 0 ≤ opp l[i].ins.fn
  · rw [show outF l ms (zsOf l long) i l[i] (long[i]'(by omega)) = [{ l[i].ins with fn := opp l[i].ins.fn, imm := 1 }, jmp (wayOf l ms (zsOf l long) i - 2)] by simp [outF, hm0, hlg, ho]]
    have hsz : szOf l[i] (long[i]'(by omega)) = 2 := by rw [hlg]; simp [szOf, ho]
    repeat (first | refine SeqE.nil ?_ | refine CodeE.seq ?_ | refine CodeE.region ?_ | refine CodeE.block ?_ | refine CodeE.condT (by rfl) ?_ | refine CodeE.condF (by rfl) ?_ | refine SeqE.step hE (StepO.assign (by rfl)) (by rfl) (by rfl) ?_ | refine SeqE.step hE (StepO.fieldAddr (by rfl) (Tab.fldAt tabOk (by rfl) (by rfl))) (by rfl) (by rfl) ?_ | refine SeqE.step hE (StepO.load1 (by rfl) (Tab.aggAt tabOk (by rfl)) (by (try dsimp only); (repeat rw [over_other _ _ (by omega)]); first | assumption | exact over_same _ _ _) (by rfl)) (by rfl) (by rfl) ?_ | refine SeqE.step hE (StepO.binOp (by rfl) (by rfl) (eqlT (by omega))) (by rfl) (by rfl) ?_ | refine SeqE.step hE (StepO.binOp (by rfl) (by rfl) (eqlF (by omega))) (by rfl) (by rfl) ?_)
    refine SeqE.callX hE (opA_call rfl fn51 rfl) (CallE.still ((opp_ok l[i].ins.fn _ _).mono fun _ _ _ ⟨a1, a2, _⟩ => ⟨a1, fun _ _ => by rw [a2]⟩)) rfl rfl fun nx2 hg2 => ?_
    repeat (first | refine SeqE.nil ?_ | refine CodeE.seq ?_ | refine CodeE.draw (slsOf tabs) [52] (Tab.slOk tabOk) hE (by kernel_rfl) ?_ | refine SeqD.step (StepO.move (by rfl)) (by rfl) (by rfl) ?_ | refine SeqE.step hE (StepO.fieldAddr (by rfl) (Tab.fldAt tabOk (by rfl) (by rfl))) (by rfl) (by rfl) ?_ | refine SeqD.step (StepO.loadC (by rfl) (Tab.aggAt tabOk (by rfl)) (Tab.sizeAt tabOk (by rfl)) (by (try dsimp only); (repeat rw [over_other _ _ (by omega)]); first | assumption | exact over_same _ _ _) (by rfl)) (by rfl) (by rfl) ?_ | refine SeqE.step hE (StepO.store1 (by rfl) (by rfl) (Tab.sizeAt tabOk (by rfl)) (by rfl) (by rfl) (by (try dsimp only); (repeat rw [over_other _ _ (by omega)]); first | assumption | exact over_same _ _ _) (Nat.le_of_ble_eq_true (by rfl))) (by rfl) (by rfl) ?_ | refine SeqD.step (StepO.binOp (by rfl) (by rfl) (subI (by omega))) (by rfl) (by rfl) ?_)
    refine SeqD.callX (opA_call rfl fn52 rfl) (jump_ok _ _ _) rfl rfl fun nx3 hg3 => ?_
    repeat (first | refine SeqD.nil ?_ | refine CodeE.ret ?_ | refine SeqD.step (StepO.assign (by rfl)) (by rfl) (by rfl) ?_ | refine SeqD.step (StepO.buildSlice (by rfl) (Tab.slcAt tabOk (by rfl)) (by first | exact el3 | exact el4 | exact el33 | exact el35 | exact el37 | exact el50 | exact el51 | exact el56 | exact el87 | exact el89 | exact el95) (by decide) (by rfl)) (by rfl) (by rfl) ?_)
    exact ⟨_, rfl, _, rfl, by omega, by omega, (by (try dsimp only); (repeat rw [over_other _ _ (by omega)]); first | assumption | exact over_same _ _ _), fun j hj => (by (try dsimp only); (repeat rw [over_other _ _ (by omega)]))⟩
  · rw [show outF l ms (zsOf l long) i l[i] (long[i]'(by omega)) = [{ l[i].ins with imm := 1 }, jmp 1, jmp (wayOf l ms (zsOf l long) i - 3)] by simp [outF, hm0, hlg, ho]]
    have hsz : szOf l[i] (long[i]'(by omega)) = 3 := by rw [hlg]; simp [szOf, ho]
    repeat (first | refine SeqE.nil ?_ | refine CodeE.seq ?_ | refine CodeE.region ?_ | refine CodeE.draw (slsOf tabs) [52] (Tab.slOk tabOk) hE (by kernel_rfl) ?_ | refine CodeE.block ?_ | refine CodeE.condF (by rfl) ?_ | refine CodeE.skip ?_ | refine SeqE.step hE (StepO.assign (by rfl)) (by rfl) (by rfl) ?_ | refine SeqE.step hE (StepO.fieldAddr (by rfl) (Tab.fldAt tabOk (by rfl) (by rfl))) (by rfl) (by rfl) ?_ | refine SeqD.step (StepO.loadC (by rfl) (Tab.aggAt tabOk (by rfl)) (Tab.sizeAt tabOk (by rfl)) (by (try dsimp only); (repeat rw [over_other _ _ (by omega)]); first | assumption | exact over_same _ _ _) (by rfl)) (by rfl) (by rfl) ?_ | refine SeqE.step hE (StepO.store1 (by rfl) (by rfl) (Tab.sizeAt tabOk (by rfl)) (by rfl) (by rfl) (by (try dsimp only); (repeat rw [over_other _ _ (by omega)]); first | assumption | exact over_same _ _ _) (Nat.le_of_ble_eq_true (by rfl))) (by rfl) (by rfl) ?_ | refine SeqE.step hE (StepO.binOp (by rfl) (by rfl) (eqlF (by omega))) (by rfl) (by rfl) ?_)
    refine SeqD.callX (opA_call rfl fn52 rfl) (jump_ok _ _ _) rfl rfl fun nx3 hg3 => ?_
    repeat (first | refine SeqD.step (StepO.move (by rfl)) (by rfl) (by rfl) ?_ | refine SeqD.step (StepO.binOp (by rfl) (by rfl) (subI (by omega))) (by rfl) (by rfl) ?_)
    refine SeqD.callX (opA_call rfl fn52 rfl) (jump_ok _ _ _) rfl rfl fun nx4 hg4 => ?_
    repeat (first | refine SeqD.nil ?_ | refine CodeE.ret ?_ | refine SeqD.step (StepO.assign (by rfl)) (by rfl) (by rfl) ?_ | refine SeqD.step (StepO.buildSlice (by rfl) (Tab.slcAt tabOk (by rfl)) (by first | exact el3 | exact el4 | exact el33 | exact el35 | exact el37 | exact el50 | exact el51 | exact el56 | exact el87 | exact el89 | exact el95) (by decide) (by rfl)) (by rfl) (by rfl) ?_)
    exact ⟨_, rfl, _, rfl, by omega, by omega, (by (try dsimp only); (repeat rw [over_other _ _ (by omega)]); first | assumption | exact over_same _ _ _), fun j hj => (by (try dsimp only); (repeat rw [over_other _ _ (by omega)]))⟩
end Go.Pick
