/-
  What is proved: a further law of the layer. Conditions: none.
-/
import Derived.Test.YtbjncdcfojjacaaGreatPkLaw
import Derived.Test.YtbjncdcfojjacaaGreatPkData
set_option linter.unusedVariables false
set_option linter.unusedSimpArgs false
set_option linter.unusedSectionVars false
namespace Go.Sy
open Go Go.RowKit Go.Sx
/-- what a slice's third number is, where it came in -/
def Cap (A : Option Addr) (n C : Nat) : Prop := (A = none ∧ n = 0 ∧ C = 0) ∨ ∃ b cap, A = some ⟨b, 0, none⟩ ∧ C = 2 * cap + 1 ∧ n ≤ cap
/-- two rows that came in, as a plain heap -/
theorem two_caps {P : Program} {f : FuncId} {w : World} {v0 v1 : Value} {n0 n1 s0 s1 : Nat} {c0 c1 : List Value} {rest : List Value} {b : Bool} (h0 : Lies w v0 n0 c0) (h1 : Lies w v1 n1 c1) (l0 : c0.length = n0 * s0) (l1 : c1.length = n1 * s1) (hs : ∀ x ∈ rest, Shut x)
    (hc : ∀ hp A0 A1 C0 C1, Go.Pick.Row hp 3 A0 n0 s0 c0 → Go.Pick.Row hp 3 A1 n1 s1 c1 → Cap A0 n0 C0 → Cap A1 n1 C1 → CallE P f (.slice A0 n0 C0 :: .slice A1 n1 C1 :: rest) hp 3 fun e _ _ => e = .ret (.bool b)) :
    Calls P f ⟨v0 :: v1 :: rest⟩ w fun e w' => e = .returned (.bool b) ∧ Below w.heap.size w w' := by
  have one : ∀ {v n s c} (k : Nat), Lies w v n c → c.length = n * s → ∃ (A : Option Addr) (C : Nat) (o : Option AObj) (r : Option (Addr × Nat)), Cap A n C ∧
      (∀ hp : Hp, k < 3 → hp k = o → Go.Pick.Row hp 3 A n s c) ∧ (∀ ρ : Ren, ρ k = r → VR ρ (.slice A n C) v) ∧
      (∀ x, o = some x → x.own = false) ∧ (∀ x B ρ, o = some x → B = w.heap.size → ρ k = r → ObjOk P B ρ w k x) := by
    intro v n s c k hl hlen
    rcases hl.h with ⟨rfl, rfl, rfl⟩ | ⟨a, cap, rfl, ha, hb, hn, hcl⟩
    · exact ⟨none, 0, none, none, .inl ⟨rfl, rfl, rfl⟩, fun hp _ _ => ⟨hlen, fun h => by omega⟩, fun ρ _ => by simp [VR, renV], fun x h => (by cases h), fun x B ρ h => (by cases h)⟩
    · refine ⟨some ⟨k, 0, none⟩, 2 * cap + 1, some (.cells c 0 false), some (a, 0), .inr ⟨k, cap, rfl, rfl, hn⟩, fun hp hk e => ⟨hlen, fun _ => ⟨k, 0, false, rfl, hk, e⟩⟩, fun ρ hr => ?_, fun x h => (by cases h; rfl), fun x B ρ h hB hr => ?_⟩
      · have e1 : (2 * cap + 1) % 2 = 1 := by omega
        have e2 : (2 * cap + 1) / 2 = cap := by omega
        have e3 : (⟨a.block, a.off, none⟩ : Addr) = a := by cases a; simp at ha; subst ha; rfl
        simp only [VR, renV, hr, Option.bind_some, e1, e2, if_true, if_pos hn, Nat.add_zero, e3]
      · cases h
        refine ⟨(a, 0), hr, ha, hB ▸ hb, fun i x hi => ⟨x, (hcl i x hi).2, (hcl i x hi).1 ρ⟩⟩
  obtain ⟨A0, C0, o0, r0, qc, q1, q2, q3, q4⟩ := one (s := s0) 1 h0 l0
  obtain ⟨A1, C1, o1, r1, pc, p1, p2, p3, p4⟩ := one (s := s1) 2 h1 l1
  let hp : Hp := fun k => if k = 1 then o0 else if k = 2 then o1 else none
  let ρ : Ren := fun k => if k = 1 then r0 else if k = 2 then r1 else none
  obtain ⟨e, hp', nx', hcall, rfl⟩ := hc hp A0 A1 C0 C1 (q1 hp (by omega) rfl) (p1 hp (by omega) rfl) qc pc
  have hrel : HRel P w.heap.size (nx' + 1) hp 3 ρ w := by
    refine ⟨Nat.le_refl _, fun k hk _ => ?_, fun k o ho => ?_, fun k o ho => ?_, fun k o p k' o' p' ho hown => ?_⟩
    · simp only [ρ]; rw [if_neg (by omega), if_neg (by omega)]
    · simp only [hp] at ho
      split at ho
      · omega
      · split at ho
        · omega
        · cases ho
    · simp only [hp] at ho
      split at ho
      · rename_i hk; subst hk; exact q4 _ _ _ ho rfl rfl
      · split at ho
        · rename_i hk; subst hk; exact p4 _ _ _ ho rfl rfl
        · cases ho
    · simp only [hp] at ho
      split at ho
      · rw [q3 _ ho] at hown; cases hown
      · split at ho
        · rw [p3 _ ho] at hown; cases hown
        · cases ho
  have hall : All2 (VR ρ) (.slice A0 n0 C0 :: .slice A1 n1 C1 :: rest) (v0 :: v1 :: rest) := by
    refine ⟨q2 ρ rfl, p2 ρ rfl, ?_⟩
    clear hc hcall
    induction rest with
    | nil => trivial
    | cons x rest ih => exact ⟨hs x (by simp) ρ, ih fun y hy => hs y (by simp [hy])⟩
  refine (hcall.2 _ _ ρ w _ (Nat.lt_succ_self _) hrel hall).mono ?_
  rintro en w' ⟨ρ', ⟨_, hst⟩, hen⟩
  refine ⟨?_, hst.below hrel⟩
  cases en with
  | returned v' => simp only [Sy.EndR, VR, renV, Option.some.injEq] at hen; rw [← hen]
  | panicked c => exact hen.elim
  | outgrown => exact hen.elim
end Go.Sy
namespace Go.Pick
open Go Go.RowKit Go.Sx Go.Sy Go.Proofs
/-- a row that grows: nil, or the call's own -/
structure Grow (e : TypeId) (sz lo : Nat) (h : Hp) (y : Nat) (v : Value) (n : Nat) (c : List Value) : Prop where
  len : c.length = n * sz
  is : (v = .slice none 0 0 ∧ n = 0) ∨ ∃ b C, v = .slice (some ⟨b, 0, none⟩) n C ∧ lo ≤ b ∧ b < y ∧ h b = some (.cells c e true) ∧ ((C = 0 ∧ n ≠ 0) ∨ C = 2 * n + 1)
theorem Grow.keep {e : TypeId} {sz lo : Nat} {h h' : Hp} {y y' : Nat} {v : Value} {n : Nat} {c : List Value} (H : Grow e sz lo h y v n c) (hy : y ≤ y') (hk : ∀ k, lo ≤ k → k < y → h' k = h k) : Grow e sz lo h' y' v n c := by
  refine ⟨H.len, ?_⟩
  rcases H.is with h1 | ⟨b, C, h1, h2, h3, h4, h5⟩
  · exact .inl h1
  · exact .inr ⟨b, C, h1, h2, by omega, (hk b h2 h3).trans h4, h5⟩
theorem Grow.row {e : TypeId} {sz lo : Nat} {h : Hp} {y : Nat} {v : Value} {n : Nat} {c : List Value} (H : Grow e sz lo h y v n c) : ∃ A C, v = .slice A n C ∧ Row h y A n sz c := by
  rcases H.is with ⟨rfl, rfl⟩ | ⟨b, C, h1, h2, h3, h4, h5⟩
  · exact ⟨none, 0, rfl, H.len, fun h => absurd h (by omega)⟩
  · exact ⟨_, C, h1, H.len, fun _ => ⟨b, e, true, rfl, h3, h4⟩⟩
theorem Grow.app {t e sz bt lo : Nat} {zl : List Value} {h : Hp} {y : Nat} {v : Value} {n m C' : Nat} {c news : List Value} {src : Option Addr} (ht : slcOf env t = some (e, sz)) (he : elOf env e = some (bt, zl)) (hs : 0 < sz) (hb : 0 < bt)
    (H : Grow e sz lo h y v n c) (hsrc : 0 < m → ∃ sa, src = some sa ∧ hread h sa (m * sz) = some news ∧ ones news = true) (hlen : news.length = m * sz) (hbig : (n + m) * bt ≤ 1000000000000) (hlo : lo ≤ y) :
    ∃ v' e', aAppend env h y t v (.slice src m C') = some (v', e') ∧ y ≤ e'.nx y ∧ (∀ k, k < lo → e'.hp h y k = h k) ∧ Grow e sz lo (e'.hp h y) (e'.nx y) v' (n + m) (c ++ news) := by
  have hl2 : (c ++ news).length = (n + m) * sz := by rw [List.length_append, H.len, hlen, Nat.add_mul]
  by_cases hm : m = 0
  · subst hm
    have : news = [] := List.eq_nil_of_length_eq_zero (by omega)
    subst this
    rw [List.append_nil, Nat.add_zero]
    rcases H.is with ⟨rfl, rfl⟩ | ⟨b, C, rfl, h2, h3, h4, h5⟩
    · exact ⟨_, _, aAppend_none ht he, Nat.le_refl _, fun _ _ => rfl, H⟩
    · exact ⟨_, _, aAppend_none ht he, Nat.le_refl _, fun _ _ => rfl, H⟩
  obtain ⟨sa, rfl, hr, ho⟩ := hsrc (by omega)
  rcases H.is with ⟨rfl, rfl⟩ | ⟨b, C, rfl, h2, h3, h4, h5⟩
  · have hc0 : c = [] := List.eq_nil_of_length_eq_zero (by rw [H.len]; omega)
    subst hc0
    refine ⟨_, _, aAppend_nil ht he hm hs hb (by simpa using hbig) hr ho, ?_, fun k hk => ?_, hl2, .inr ⟨y, 0, ?_, hlo, ?_, ?_, .inl ⟨rfl, by omega⟩⟩⟩
    · dsimp only [Eff.nx]; omega
    · dsimp only [Eff.hp]; rw [over_other _ _ (by omega)]
    · rw [Nat.zero_add]
    · dsimp only [Eff.nx]; omega
    · dsimp only [Eff.hp]; rw [over_same]; rfl
  · rcases h5 with ⟨rfl, hn⟩ | rfl
    · refine ⟨.slice (some ⟨y, 0, none⟩) (n + m) 0, .move b (.cells (c ++ news) e true), aAppend_own ht he hn hm hs hb hbig h4 H.len hr ho, ?_, fun k hk => ?_, hl2, .inr ⟨y, 0, rfl, hlo, ?_, ?_, .inl ⟨rfl, by omega⟩⟩⟩
      · dsimp only [Eff.nx]; omega
      · dsimp only [Eff.hp]; rw [over_other _ _ (by omega), over_other _ _ (by omega)]
      · dsimp only [Eff.nx]; omega
      · dsimp only [Eff.hp]; rw [over_same]
    · refine ⟨.slice (some ⟨y, 0, none⟩) (n + m) 0, .new (.cells (c ++ news) e true), aAppend_full ht he hm hs hb hbig h4 H.len hr ho, ?_, fun k hk => ?_, hl2, .inr ⟨y, 0, rfl, hlo, ?_, ?_, .inl ⟨rfl, by omega⟩⟩⟩
      · dsimp only [Eff.nx]; omega
      · dsimp only [Eff.hp]; rw [over_other _ _ (by omega)]
      · dsimp only [Eff.nx]; omega
      · dsimp only [Eff.hp]; rw [over_same]
theorem SeqE.grow {N : Nat} {all : Array Oper} {rest : List Oper} {tm : T} {hp : Hp} {nx : Nat} {Q : Option Value → T → Hp → Nat → Prop} {d : Option Tmp} {x yv : Operand} {ty pos after g} {t e sz bt lo : Nat} {zl : List Value} {v : Value} {n m C' : Nat} {c news : List Value} {src : Option Addr} (hE : EnvOk env Tryz.prog)
    (hx : ev tm x = some v) (hy : ev tm yv = some (.slice src m C')) (ht : slcOf env t = some (e, sz)) (he : elOf env e = some (bt, zl)) (hs : 0 < sz) (hb : 0 < bt)
    (H : Grow e sz lo hp nx v n c) (hsrc : 0 < m → ∃ sa, src = some sa ∧ hread hp sa (m * sz) = some news ∧ ones news = true) (hlen : news.length = m * sz) (hbig : (n + m) * bt ≤ 1000000000000) (hlo : lo ≤ nx)
    (hw : Sy.wantedA tm all ⟨d, .call ⟨.builtin .append, #[x, yv], #[t, t]⟩, ty, pos, after, g⟩ = some true) (hd : Sy.dstOk N d = true)
    (k : ∀ h' nx' v', nx ≤ nx' → (∀ k, k < lo → h' k = hp k) → Grow e sz lo h' nx' v' (n + m) (c ++ news) → Sy.SeqE Tryz.prog N all rest (Sy.upd tm d v') h' nx' Q) :
    Sy.SeqE Tryz.prog N all (⟨d, .call ⟨.builtin .append, #[x, yv], #[t, t]⟩, ty, pos, after, g⟩ :: rest) tm hp nx Q := by
  obtain ⟨v', e', h1, h2, h3, h4⟩ := H.app (C' := C') ht he hs hb hsrc hlen hbig hlo
  have h5 : StepO env Tryz.prog ⟨d, .call ⟨.builtin .append, #[x, yv], #[t, t]⟩, ty, pos, after, g⟩ tm hp nx v' (e'.hp hp nx) (e'.nx nx) := StepO.append hx hy h1
  exact Sy.SeqE.step hE h5 hw hd (k _ _ _ h2 h3 h4)
theorem hread_keep {hp h : Hp} {a : Addr} {n : Nat} (e : h a.block = hp a.block) : hread h a n = hread hp a n := by unfold hread; rw [e]
theorem flat_append (a b : List Dr) : flat (a ++ b) = flat a ++ flat b := by simp [flat]
theorem ones_draft (l : List Dr) : ones (flat l) = true := by
  induction l with
  | nil => rfl
  | cons x l ih =>
    have : ∀ (a b : List Value), ones a = true → ones b = true → ones (a ++ b) = true := by
      intro a b ha hb
      induction a with
      | nil => exact hb
      | cons y a iha =>
        simp only [ones, Bool.and_eq_true, List.cons_append] at ha ⊢
        exact ⟨ha.1, iha ha.2⟩
    unfold flat at ih ⊢
    rw [List.flatMap_cons]
    exact this _ _ rfl ih
theorem slc50 : slcOf env 50 = some (56, 9) := Tab.slcAt tabOk rfl
theorem und50 : env.und 50 = some (.slice 56) := (slcOf_some slc50).1
theorem size56e : env.size 56 = some 9 := (slcOf_some slc50).2
/-- a row's first part -/
theorem slice_lo {hp : Hp} {lim : Nat} {l : List Dr} {L : Option Addr} {CL a : Nat} (hl : Row hp lim L l.length 9 (flat l)) (hc : Cap L l.length CL) (ha : a ≤ l.length) :
    ∃ src C', aSlice env 50 (.slice L l.length CL) none (some (.int .i64 a)) none = some (.slice src a C') ∧ (0 < a → ∃ sa, src = some sa ∧ sa.block < lim ∧ hread hp sa (a * 9) = some (flat (l.take a))) := by
  rcases hc with ⟨rfl, h1, rfl⟩ | ⟨b, cap, rfl, rfl, hcap⟩
  · have h0 : a = 0 := by omega
    subst h0
    exact ⟨none, 0, by simp [aSlice, und50, size56e, num, h1], fun h => absurd h (by omega)⟩
  · have e1 : (2 * cap + 1) % 2 = 1 := by omega
    have e2 : (2 * cap + 1) / 2 = cap := by omega
    refine ⟨some ⟨b, 0, none⟩, 2 * (cap - 0) + 1, ?_, fun h => ⟨_, rfl, ?_⟩⟩
    · simp only [aSlice, und50, size56e, num, Option.bind_some, e1, e2, if_true]
      have : (0 : Int) ≤ (a : Int) := by omega
      simp only [this, if_true, Option.bind_some, Int.toNat_natCast]
      rw [if_pos ⟨by omega, by omega⟩]
      split <;> simp
    · obtain ⟨b', e, own, hb, h3, h4⟩ := hl.2 (by omega)
      cases hb
      refine ⟨h3, hread_cells (p := ⟨b, 0, none⟩) h4 (by rw [flat_len, List.length_take, Nat.min_eq_left ha]) fun j hj => ?_⟩
      have : flat l = flat (l.take a) ++ flat (l.drop a) := by rw [← flat_append, List.take_append_drop]
      rw [this, Nat.zero_add, List.getElem?_append_left (by rw [flat_len, List.length_take, Nat.min_eq_left ha]; exact hj)]
/-- a row's last part -/
theorem slice_hi {hp : Hp} {lim : Nat} {l : List Dr} {L : Option Addr} {CL a : Nat} (hl : Row hp lim L l.length 9 (flat l)) (hc : Cap L l.length CL) (ha : a ≤ l.length) :
    ∃ src C', aSlice env 50 (.slice L l.length CL) (some (.int .i64 a)) none none = some (.slice src (l.length - a) C') ∧ (0 < l.length - a → ∃ sa, src = some sa ∧ sa.block < lim ∧ hread hp sa ((l.length - a) * 9) = some (flat (l.drop a))) := by
  rcases hc with ⟨rfl, h1, rfl⟩ | ⟨b, cap, rfl, rfl, hcap⟩
  · have h0 : a = 0 := by omega
    subst h0
    exact ⟨none, 0, by simp [aSlice, und50, size56e, num, h1], fun h => absurd h (by omega)⟩
  · have e1 : (2 * cap + 1) % 2 = 1 := by omega
    have e2 : (2 * cap + 1) / 2 = cap := by omega
    refine ⟨some (if cap = a then ⟨b, 0, none⟩ else ⟨b, 0 + a * 9, none⟩), 2 * (cap - a) + 1, ?_, fun h => ⟨_, rfl, ?_⟩⟩
    · simp only [aSlice, und50, size56e, num, Option.bind_some, e1, e2, if_true]
      have : (0 : Int) ≤ (a : Int) := by omega
      simp only [this, if_true, Option.bind_some, Int.toNat_natCast]
      rw [if_pos ⟨by omega, by omega⟩]
    · obtain ⟨b', e, own, hb, h3, h4⟩ := hl.2 (by omega)
      cases hb
      rw [if_neg (by omega)]
      refine ⟨h3, hread_cells (p := ⟨b, 0 + a * 9, none⟩) h4 (by rw [flat_len, List.length_drop]) fun j hj => ?_⟩
      have h5 : flat l = flat (l.take a) ++ flat (l.drop a) := by rw [← flat_append, List.take_append_drop]
      have h6 : (flat (l.take a)).length = a * 9 := by rw [flat_len, List.length_take, Nat.min_eq_left ha]
      show (flat l)[0 + a * 9 + j]? = _
      rw [h5, List.getElem?_append_right (by omega), h6]
      congr 1; omega
def brk : Dr := ⟨⟨23, 0, 0, 0, 0, false, 0, 0⟩, 0⟩
/-- the drafts with a gap -/
def gapL (l : List Dr) (a g : Nat) : List Dr := l.take a ++ List.replicate g brk
def gapped (l : List Dr) (a g : Nat) : List Dr := gapL l a g ++ l.drop a
theorem gapL_succ (l : List Dr) (a g : Nat) : flat (gapL l a (g + 1)) = flat (gapL l a g) ++ brk.vals := by
  unfold gapL
  rw [List.replicate_succ', ← List.append_assoc, flat_append]
  simp [flat]
theorem gapL_len {l : List Dr} {a g : Nat} (h : a ≤ l.length) : (gapL l a g).length = a + g := by simp [gapL, Nat.min_eq_left h]
theorem gapped_len {l : List Dr} {a g : Nat} (h : a ≤ l.length) : (gapped l a g).length = l.length + g := by
  unfold gapped
  rw [List.length_append, gapL_len h, List.length_drop]; omega
theorem gapped_fit {l : List Dr} {a g : Nat} (h : ∀ x ∈ l, x.ins.fit) : ∀ x ∈ gapped l a g, x.ins.fit := by
  intro x hx
  simp only [gapped, gapL, List.mem_append] at hx
  rcases hx with (hx | hx) | hx
  · exact h x (List.mem_of_mem_take hx)
  · rw [List.eq_of_mem_replicate hx]; simp [brk, Ins.fit, i64]
  · exact h x (List.mem_of_mem_drop hx)
def adj (n a g k : Int) : Int := if a < k ∧ k ≤ n then k + g else k
theorem ints_snoc (l : List Int) (z : Int) : ints (l ++ [z]) = ints l ++ [.int .i64 z] := by simp [ints]
theorem ints_take {ms : List Int} {f : Int → Int} {i : Nat} (h : i < ms.length) : ints ((ms.take (i + 1)).map f) = ints ((ms.take i).map f) ++ [.int .i64 (f ms[i])] := by
  rw [List.take_succ_eq_append_getElem h, List.map_append, List.map_cons, List.map_nil, ints_snoc]
end Go.Pick
namespace Go.Pick
open Go Go.RowKit Go.Sx Go.Sy Go.Proofs

set_option maxHeartbeats 16000000 in
set_option maxRecDepth 20000 in
theorem far_guard {lim : Nat} {l : List Dr} {ms : List Int} {L M : Option Addr} {CL CM : Nat} {at_ gap : Int} {hp : Hp} {nx : Nat} (hheads : ∀ hp nx, ∃ nx', CallR Tryz.prog 12 [] hp nx (.ret (.bool true)) hp nx')
    (h : 50 < l.length ∨ (l.length ≤ 50 ∧ 50 < ms.length) ∨ (l.length ≤ 50 ∧ ms.length ≤ 50 ∧ at_ < 0) ∨ (l.length ≤ 50 ∧ ms.length ≤ 50 ∧ 0 ≤ at_ ∧ (l.length : Int) < at_) ∨
      (l.length ≤ 50 ∧ ms.length ≤ 50 ∧ 0 ≤ at_ ∧ at_ ≤ l.length ∧ gap < 0) ∨ (l.length ≤ 50 ∧ ms.length ≤ 50 ∧ 0 ≤ at_ ∧ at_ ≤ l.length ∧ 3000 < gap)) :
    CallE Tryz.prog 7 [.slice L l.length CL, .slice M ms.length CM, .int .i64 at_, .int .i64 gap] hp nx fun e _ _ => e = .ret (.bool true) := by
  rcases h with h | h | h | h | h | h
  all_goals
    refine CallE.of_code hE Tryz.func7 rfl rfl ?_
    repeat (first | refine SeqE.nil ?_ | refine CodeE.seq ?_ | refine CodeE.region ?_ | refine CodeE.condT (by rfl) ?_ | refine SeqE.step hE (StepO.move (by rfl)) (by rfl) (by rfl) ?_ | refine SeqE.step hE (StepO.assign (by rfl)) (by rfl) (by rfl) ?_ | refine SeqE.step hE (StepO.pickT (by rfl) (by rfl)) (by rfl) (by rfl) ?_ | refine SeqE.step hE (StepO.pickF (by rfl) (by rfl)) (by rfl) (by rfl) ?_ | refine SeqE.step hE (StepO.lenSlice (by rfl) (Tab.slcAt tabOk (by rfl))) (by rfl) (by rfl) ?_ | refine SeqE.step hE (StepO.binOp (by rfl) (by rfl) (lssT (by omega))) (by rfl) (by rfl) ?_ | refine SeqE.step hE (StepO.binOp (by rfl) (by rfl) (lssF (by omega))) (by rfl) (by rfl) ?_ | refine SeqE.step hE (StepO.binOp (by rfl) (by rfl) (gtrT (by omega))) (by rfl) (by rfl) ?_ | refine SeqE.step hE (StepO.binOp (by rfl) (by rfl) (gtrF (by omega))) (by rfl) (by rfl) ?_ | refine SeqE.leave (by rfl) (by rfl) ?_)
    refine SeqE.callX hE (opA_call rfl fn12 rfl) (hheads _ _) rfl rfl fun nx1 hg1 => ?_
    repeat (first | refine SeqE.nil ?_ | refine CodeE.ret ?_ | refine SeqE.step hE (StepO.assign (by rfl)) (by rfl) (by rfl) ?_)
    exact ⟨_, rfl, rfl⟩

set_option maxHeartbeats 16000000 in
set_option maxRecDepth 20000 in
theorem law_far {lim : Nat} {l : List Dr} {ms : List Int} {L M : Option Addr} {CL CM : Nat} {at_ gap : Int} {hp : Hp} {nx : Nat} (hheads : ∀ hp nx, ∃ nx', CallR Tryz.prog 12 [] hp nx (.ret (.bool true)) hp nx')
    (hl : Row hp lim L l.length 9 (flat l)) (hm : Row hp lim M ms.length 1 (ints ms)) (hcL : Cap L l.length CL) (hfit : ∀ x ∈ l, x.ins.fit) (h4 : lim ≤ nx) :
    CallE Tryz.prog 7 [.slice L l.length CL, .slice M ms.length CM, .int .i64 at_, .int .i64 gap] hp nx fun e _ _ => e = .ret (.bool true) := by
  by_cases hguard : l.length ≤ 50 ∧ ms.length ≤ 50 ∧ 0 ≤ at_ ∧ at_ ≤ l.length ∧ 0 ≤ gap ∧ gap ≤ 3000
  case neg => exact far_guard (lim := lim) hheads (by omega)
  obtain ⟨hn, hn2, ha0, ha1, hg0, hg1⟩ := hguard
  obtain ⟨a, rfl⟩ : ∃ a : Nat, at_ = a := ⟨at_.toNat, by omega⟩
  obtain ⟨g, rfl⟩ : ∃ g : Nat, gap = g := ⟨gap.toNat, by omega⟩
  have ha : a ≤ l.length := by omega
  refine CallE.of_code hE Tryz.func7 rfl rfl ?_
  repeat (first | refine SeqE.nil ?_ | refine CodeE.seq ?_ | refine CodeE.region ?_ | refine CodeE.condF (by rfl) ?_ | refine CodeE.skip ?_ | refine SeqE.step hE (StepO.move (by rfl)) (by rfl) (by rfl) ?_ | refine SeqE.step hE (StepO.assign (by rfl)) (by rfl) (by rfl) ?_ | refine SeqE.step hE (StepO.pickF (by rfl) (by rfl)) (by rfl) (by rfl) ?_ | refine SeqE.step hE (StepO.lenSlice (by rfl) (Tab.slcAt tabOk (by rfl))) (by rfl) (by rfl) ?_ | refine SeqE.step hE (StepO.binOp (by rfl) (by rfl) (lssF (by omega))) (by rfl) (by rfl) ?_ | refine SeqE.step hE (StepO.binOp (by rfl) (by rfl) (gtrF (by omega))) (by rfl) (by rfl) ?_ | refine SeqE.step hE (StepO.buildSlice (by rfl) (Tab.slcAt tabOk (by rfl)) (by first | exact el3 | exact el4 | exact el33 | exact el35 | exact el37 | exact el50 | exact el51 | exact el56 | exact el87 | exact el89 | exact el95) (by decide) (by rfl)) (by rfl) (by rfl) ?_)
  obtain ⟨s1, C1, hs1, hr1⟩ := slice_lo (a := a) hl hcL ha
  refine SeqE.step hE (StepO.slice rfl rfl rfl rfl hs1) rfl rfl ?_
  refine SeqE.grow (e := 56) (sz := 9) (bt := 72) (lo := nx) (n := 0) (c := []) (m := a) (news := flat (l.take a)) hE rfl rfl (Tab.slcAt tabOk rfl) el56 (by decide) (by decide) ⟨rfl, .inr ⟨nx, 1, rfl, Nat.le_refl _, by omega, (by (try dsimp only); (repeat rw [over_other _ _ (by omega)]); first | assumption | exact over_same _ _ _), .inr rfl⟩⟩ ?_ (by rw [flat_len, List.length_take, Nat.min_eq_left ha]) (by omega) (by omega) rfl rfl fun h1 nx1 v1 g1 g2 g3 => ?_
  · intro h
    obtain ⟨sa, q1, q2, q3⟩ := hr1 h
    exact ⟨sa, q1, by rw [← q3]; exact hread_keep (by ((try dsimp only); (repeat rw [over_other _ _ (by omega)]))), ones_draft _⟩
  have hfr1 : ∀ k, k < nx → h1 k = hp k := fun k hk => by rw [g2 k hk]; ((try dsimp only); (repeat rw [over_other _ _ (by omega)]))
  clear hr1 g2
  repeat (first | refine SeqE.nil ?_ | refine CodeE.seq ?_ | refine CodeE.region ?_ | refine CodeE.block ?_ | refine SeqE.step hE (StepO.assign (by rfl)) (by rfl) (by rfl) ?_)
  refine CodeE.loop (fun m tm h x => ∃ j v, j ≤ g ∧ m = g - j ∧ nx1 ≤ x ∧ (∀ k, k < nx → h k = hp k) ∧ Grow 56 9 nx h x v (a + j) (flat (gapL l a j)) ∧
    ExtL [(0, .slice L l.length CL), (1, .slice M ms.length CM), (2, .int .i64 a), (3, .int .i64 g), (9, v), (10, .int .i64 j)] tm) ?_ g _ _ _
    ⟨0, v1, by omega, by omega, Nat.le_refl _, hfr1, by simpa [gapL] using g3, rfl, rfl, rfl, rfl, rfl, rfl, trivial⟩
  rintro m tm h x ⟨j, v, hj, rfl, hnx, hfr, hv, ht⟩
  refine CodeE.less ht ?_
  clear ht tm
  by_cases hlt : j < g
  case pos =>
    repeat (first | refine SeqE.nil ?_ | refine CodeE.seq ?_ | refine CodeE.region ?_ | refine CodeE.block ?_ | refine CodeE.condT (by rfl) ?_ | refine CodeE.skip ?_ | refine SeqE.step hE (StepO.move (by rfl)) (by rfl) (by rfl) ?_ | refine SeqE.step hE (StepO.binOp (by rfl) (by rfl) (lssT (by omega))) (by rfl) (by rfl) ?_ | refine SeqE.step hE (StepO.buildSlice (by rfl) (Tab.slcAt tabOk (by rfl)) (by first | exact el3 | exact el4 | exact el33 | exact el35 | exact el37 | exact el50 | exact el51 | exact el56 | exact el87 | exact el89 | exact el95) (by decide) (by rfl)) (by rfl) (by rfl) ?_ | refine SeqE.step hE (StepO.buildT tabOk (by rfl) (by rfl) (by first | exact el3 | exact el4 | exact el33 | exact el35 | exact el37 | exact el50 | exact el51 | exact el56 | exact el87 | exact el89 | exact el95) (by rfl) (by kernel_rfl) (by rfl)) (by rfl) (by rfl) ?_)
    refine SeqE.grow (e := 56) (sz := 9) (bt := 72) (lo := nx) (n := a + j) (m := 1) (news := brk.vals) hE rfl rfl (Tab.slcAt tabOk rfl) el56 (by decide) (by decide) (hv.keep (by omega) fun k q1 q2 => by ((try dsimp only); (repeat rw [over_other _ _ (by omega)]))) (fun _ => ⟨_, rfl, hread_all (by (try dsimp only); (repeat rw [over_other _ _ (by omega)]); first | assumption | exact over_same _ _ _) rfl, rfl⟩) rfl (by omega) (by omega) rfl rfl fun h2 nx2 v2 q1 q2 q3 => ?_
    rw [← gapL_succ] at q3
    repeat (first | refine SeqE.nil ?_ | refine CodeE.region ?_ | refine SeqE.step hE (StepO.move (by rfl)) (by rfl) (by rfl) ?_ | refine SeqE.step hE (StepO.assign (by rfl)) (by rfl) (by rfl) ?_ | refine SeqE.step hE (StepO.binOp (by rfl) (by rfl) (addI (by omega))) (by rfl) (by rfl) ?_)
    exact ⟨g - (j + 1), by omega, j + 1, v2, by omega, rfl, by omega, fun k hk => by rw [q2 k hk]; ((try dsimp only); (repeat rw [over_other _ _ (by omega)])); exact hfr k hk, q3, rfl, rfl, rfl, rfl, rfl, rfl, trivial⟩
  obtain rfl : j = g := by omega
  clear hlt hj
  obtain ⟨s2, C2, hs2, hr2⟩ := slice_hi (a := a) (hl.keep fun k hk => hfr k (by omega)) hcL ha
  repeat (first | refine SeqE.nil ?_ | refine CodeE.seq ?_ | refine CodeE.region ?_ | refine CodeE.condF (by rfl) ?_ | refine CodeE.exit ?_ | refine SeqE.step hE (StepO.move (by rfl)) (by rfl) (by rfl) ?_ | refine SeqE.step hE (StepO.binOp (by rfl) (by rfl) (lssF (by omega))) (by rfl) (by rfl) ?_)
  refine SeqE.step hE (StepO.slice rfl rfl rfl rfl hs2) rfl rfl ?_
  refine SeqE.grow (e := 56) (sz := 9) (bt := 72) (lo := nx) (n := a + j) (m := l.length - a) (news := flat (l.drop a)) hE rfl rfl (Tab.slcAt tabOk rfl) el56 (by decide) (by decide) hv ?_ (by rw [flat_len, List.length_drop]) (by omega) (by omega) rfl rfl fun h2 nx2 v2 q1 q2 q3 => ?_
  · intro h
    obtain ⟨sa, e1, e2, e3⟩ := hr2 h
    exact ⟨sa, e1, e3, ones_draft _⟩
  rw [← flat_append, show gapL l a j ++ l.drop a = gapped l a j from rfl, show a + j + (l.length - a) = (gapped l a j).length by rw [gapped_len ha]; omega] at q3
  have hfr2 : ∀ k, k < nx → h2 k = hp k := fun k hk => (q2 k hk).trans (hfr k hk)
  have hgl := gapped_len (g := j) ha
  have hgf := gapped_fit (a := a) (g := j) hfit
  generalize gapped l a j = d at q3 hgl hgf
  clear hs1 hs2 hr2 hv hfr q2 g3 hfr1
  repeat (first | refine SeqE.nil ?_ | refine CodeE.seq ?_ | refine CodeE.region ?_ | refine CodeE.block ?_ | refine SeqE.step hE (StepO.assign (by rfl)) (by rfl) (by rfl) ?_)
  refine CodeE.loop (fun m tm h y => ∃ i w, i ≤ ms.length ∧ m = ms.length - i ∧ nx2 ≤ y ∧ (∀ k, k < nx2 → h k = h2 k) ∧ Grow 3 1 nx2 h y w i (ints ((ms.take i).map (adj l.length a j))) ∧
    ExtL [(0, .slice L l.length CL), (1, .slice M ms.length CM), (2, .int .i64 a), (3, .int .i64 j), (9, v2), (11, w), (12, .int .i64 i)] tm) ?_ ms.length _ _ _
    ⟨0, .slice none 0 0, by omega, by omega, Nat.le_refl _, fun k hk => rfl, ⟨rfl, .inl ⟨rfl, rfl⟩⟩, rfl, rfl, rfl, rfl, rfl, rfl, rfl, trivial⟩
  rintro m tm h3 y ⟨i, w, hi, rfl, hny, hfr3, hw, ht⟩
  refine CodeE.less ht ?_
  clear ht tm
  by_cases hlt : i < ms.length
  case pos =>
    obtain ⟨bm, em, om, rfl, hbm, hcm⟩ := hm.2 (by omega)
    have hcm' : h3 bm = some (.cells (ints ms) em om) := (hfr3 bm (by omega)).trans ((hfr2 bm (by omega)).trans hcm)
    have htk := ints_take (f := adj l.length a j) hlt
    have hcase : (ms[i] ≤ a ∧ adj l.length a j ms[i] = ms[i]) ∨ ((a : Int) < ms[i] ∧ (l.length : Int) < ms[i] ∧ adj l.length a j ms[i] = ms[i]) ∨ ((a : Int) < ms[i] ∧ ms[i] ≤ l.length ∧ adj l.length a j ms[i] = ms[i] + j) := by
      unfold adj
      split <;> omega
    rcases hcase with ⟨c1, c3⟩ | ⟨c1, c2, c3⟩ | ⟨c1, c2, c3⟩
    all_goals
      repeat (first | refine SeqE.nil ?_ | refine CodeE.seq ?_ | refine CodeE.region ?_ | refine CodeE.block ?_ | refine CodeE.condT (by rfl) ?_ | refine CodeE.skip ?_ | refine SeqE.step hE (StepO.move (by rfl)) (by rfl) (by rfl) ?_ | refine SeqE.step hE (StepO.indexAddr (by rfl) (by rfl) (Tab.slcAt tabOk (by rfl)) (by omega)) (by rfl) (by rfl) ?_ | refine SeqE.step hE (StepO.lenSlice (by rfl) (Tab.slcAt tabOk (by rfl))) (by rfl) (by rfl) ?_ | refine SeqE.step hE (StepO.binOp (by rfl) (by rfl) (lssT (by omega))) (by rfl) (by rfl) ?_)
      refine SeqE.step hE (StepO.load1 rfl (Tab.aggAt tabOk rfl) (by (try dsimp only); (repeat rw [over_other _ _ (by omega)]); first | assumption | exact over_same _ _ _) (ints_at (i := i) (by first | omega | (dsimp only; omega) | (simp only [] at *; omega)) hlt)) rfl rfl ?_
      repeat (first | refine SeqE.nil ?_ | refine CodeE.seq ?_ | refine CodeE.region ?_ | refine CodeE.condT (by rfl) ?_ | refine CodeE.condF (by rfl) ?_ | refine CodeE.skip ?_ | refine SeqE.step hE (StepO.move (by rfl)) (by rfl) (by rfl) ?_ | refine SeqE.step hE (StepO.assign (by rfl)) (by rfl) (by rfl) ?_ | refine SeqE.step hE (StepO.pickT (by rfl) (by rfl)) (by rfl) (by rfl) ?_ | refine SeqE.step hE (StepO.pickF (by rfl) (by rfl)) (by rfl) (by rfl) ?_ | refine SeqE.step hE (StepO.lenSlice (by rfl) (Tab.slcAt tabOk (by rfl))) (by rfl) (by rfl) ?_ | refine SeqE.step hE (StepO.binOp (by rfl) (by rfl) (leqT (by omega))) (by rfl) (by rfl) ?_ | refine SeqE.step hE (StepO.binOp (by rfl) (by rfl) (leqF (by omega))) (by rfl) (by rfl) ?_ | refine SeqE.step hE (StepO.binOp (by rfl) (by rfl) (gtrT (by omega))) (by rfl) (by rfl) ?_ | refine SeqE.step hE (StepO.binOp (by rfl) (by rfl) (gtrF (by omega))) (by rfl) (by rfl) ?_ | refine SeqE.step hE (StepO.binOp (by rfl) (by rfl) (addI (by omega))) (by rfl) (by rfl) ?_ | refine SeqE.step hE (StepO.buildSlice (by rfl) (Tab.slcAt tabOk (by rfl)) (by first | exact el3 | exact el4 | exact el33 | exact el35 | exact el37 | exact el50 | exact el51 | exact el56 | exact el87 | exact el89 | exact el95) (by decide) (by rfl)) (by rfl) (by rfl) ?_ | refine SeqE.leave (by rfl) (by rfl) ?_)
      refine SeqE.grow (e := 3) (sz := 1) (bt := 8) (lo := nx2) (n := i) (m := 1) (news := [.int .i64 (adj l.length a j ms[i])]) hE rfl rfl (Tab.slcAt tabOk rfl) el3 (by decide) (by decide) (hw.keep (by omega) fun k q1 q2 => by ((try dsimp only); (repeat rw [over_other _ _ (by omega)]))) (fun _ => ⟨_, rfl, hread_all (by rw [c3]; exact over_same _ _ _) rfl, rfl⟩) rfl (by omega) (by omega) rfl rfl fun h5 nx5 w5 u1 u2 u3 => ?_
      rw [← htk] at u3
      repeat (first | refine SeqE.nil ?_ | refine CodeE.region ?_ | refine SeqE.step hE (StepO.move (by rfl)) (by rfl) (by rfl) ?_ | refine SeqE.step hE (StepO.assign (by rfl)) (by rfl) (by rfl) ?_ | refine SeqE.step hE (StepO.binOp (by rfl) (by rfl) (addI (by omega))) (by rfl) (by rfl) ?_)
      exact ⟨ms.length - (i + 1), by omega, i + 1, w5, by omega, rfl, by omega, fun k hk => by rw [u2 k hk]; ((try dsimp only); (repeat rw [over_other _ _ (by omega)])); exact hfr3 k hk, u3, rfl, rfl, rfl, rfl, rfl, rfl, rfl, trivial⟩
  obtain rfl : i = ms.length := by omega
  clear hlt hi
  rw [List.take_length] at hw
  have hml : (ms.map (adj l.length a j)).length = ms.length := by simp
  generalize ms.map (adj l.length a j) = ns at hw hml
  rw [← hml] at hw
  obtain ⟨A, CA, rfl, hAr⟩ := q3.row
  obtain ⟨B, CB, rfl, hBr⟩ := hw.row
  have hd2 : Row h3 y A d.length 9 (flat d) := ⟨hAr.1, fun hp => let ⟨b, e, own, e1, e2, e3⟩ := hAr.2 hp; ⟨b, e, own, e1, by omega, (hfr3 b e2).trans e3⟩⟩
  clear hAr q3 hw hfr3 hfr2
  rcases Bool.eq_false_or_eq_true (mayB d ns) with hmay | hmay
  case inr =>
    repeat (first | refine SeqE.nil ?_ | refine CodeE.seq ?_ | refine CodeE.region ?_ | refine CodeE.condF (by rfl) ?_ | refine CodeE.exit ?_ | refine SeqE.step hE (StepO.move (by rfl)) (by rfl) (by rfl) ?_ | refine SeqE.step hE (StepO.lenSlice (by rfl) (Tab.slcAt tabOk (by rfl))) (by rfl) (by rfl) ?_ | refine SeqE.step hE (StepO.binOp (by rfl) (by rfl) (lssF (by omega))) (by rfl) (by rfl) ?_)
    refine SeqE.callX hE (opA_call rfl fn13 rfl) (relax_no hd2 hBr (by omega) (by omega) hgf (Nat.le_refl _) hmay) rfl rfl fun nx6 hg6 => ?_
    repeat (first | refine SeqE.nil ?_ | refine CodeE.seq ?_ | refine CodeE.region ?_ | refine SeqE.step hE (StepO.move (by rfl)) (by rfl) (by rfl) ?_ | refine SeqE.step hE (StepO.assign (by rfl)) (by rfl) (by rfl) ?_ | refine SeqE.step hE (StepO.extract (by rfl) (by rfl)) (by rfl) (by rfl) ?_)
    refine SeqE.callX hE (opA_call rfl fn17 rfl) (relax2_no hd2 hBr (by omega) (by omega) hgf (by omega) hmay) rfl rfl fun nx7 hg7 => ?_
    repeat (first | refine SeqE.nil ?_ | refine CodeE.seq ?_ | refine CodeE.region ?_ | refine SeqE.step hE (StepO.move (by rfl)) (by rfl) (by rfl) ?_ | refine SeqE.step hE (StepO.assign (by rfl)) (by rfl) (by rfl) ?_ | refine SeqE.step hE (StepO.extract (by rfl) (by rfl)) (by rfl) (by rfl) ?_)
    refine SeqE.callX hE (opA_call rfl fn14 rfl) (same_ok (o := []) (by simp) (fun h => absurd h (by simp)) (fun h => absurd h (by simp))) rfl rfl fun nx3 hg3 => ?_
    repeat (first | refine SeqE.step hE (StepO.move (by rfl)) (by rfl) (by rfl) ?_ | refine SeqE.step hE (StepO.pickT (by rfl) (by rfl)) (by rfl) (by rfl) ?_ | refine SeqE.step hE (StepO.binOp (by rfl) (by rfl) (eqlT (by omega))) (by rfl) (by rfl) ?_)
    refine SeqE.callX hE (opA_call rfl fn12 rfl) (hheads _ _) rfl rfl fun nx4 hg4 => ?_
    repeat (first | refine SeqE.nil ?_ | refine CodeE.ret ?_ | refine SeqE.step hE (StepO.assign (by rfl)) (by rfl) (by rfl) ?_ | refine SeqE.step hE (StepO.pickT (by rfl) (by rfl)) (by rfl) (by rfl) ?_)
    exact ⟨_, rfl, rfl⟩
  obtain ⟨e, h', n', hc, r, hr, hG, hfr, hQ⟩ := relax_yes (CL := CA) (CM := CB) hd2 hBr (by omega) (by omega) hgf (Nat.le_refl _) hmay
  have hge := hc.1
  obtain ⟨e2, h5, n2, hc2, r2, hr2, hG2, hfr2, hQ2⟩ := relax2_yes (CL := CA) (CM := CB) (hd2.keep fun k hk => hfr k (by omega)) (hBr.keep fun k hk => hfr k (by omega)) (by omega) (by omega) hgf hge hmay
  obtain rfl := hG.one hG2
  have hge2 := hc2.1
  have hol := outAll_len (l := d) (ms := ns) (r := r) (Nat.le_refl d.length)
  generalize outAll d ns r d.length = o at hQ hQ2 hol
  rcases hQ with ⟨hck, X, rfl, hX⟩ | ⟨hck, rfl⟩
  · rcases hQ2 with ⟨_, Y, rfl, hY⟩ | ⟨hck2, _⟩
    case inr => rw [hck] at hck2; cases hck2
    repeat (first | refine SeqE.nil ?_ | refine CodeE.seq ?_ | refine CodeE.region ?_ | refine CodeE.condF (by rfl) ?_ | refine CodeE.exit ?_ | refine SeqE.step hE (StepO.move (by rfl)) (by rfl) (by rfl) ?_ | refine SeqE.step hE (StepO.lenSlice (by rfl) (Tab.slcAt tabOk (by rfl))) (by rfl) (by rfl) ?_ | refine SeqE.step hE (StepO.binOp (by rfl) (by rfl) (lssF (by omega))) (by rfl) (by rfl) ?_)
    refine SeqE.call hE (opA_call rfl fn13 rfl) hc rfl rfl ?_
    repeat (first | refine SeqE.nil ?_ | refine CodeE.seq ?_ | refine CodeE.region ?_ | refine SeqE.step hE (StepO.move (by rfl)) (by rfl) (by rfl) ?_ | refine SeqE.step hE (StepO.assign (by rfl)) (by rfl) (by rfl) ?_ | refine SeqE.step hE (StepO.extract (by rfl) (by rfl)) (by rfl) (by rfl) ?_)
    refine SeqE.call hE (opA_call rfl fn17 rfl) hc2 rfl rfl ?_
    repeat (first | refine SeqE.nil ?_ | refine CodeE.seq ?_ | refine CodeE.region ?_ | refine SeqE.step hE (StepO.move (by rfl)) (by rfl) (by rfl) ?_ | refine SeqE.step hE (StepO.assign (by rfl)) (by rfl) (by rfl) ?_ | refine SeqE.step hE (StepO.extract (by rfl) (by rfl)) (by rfl) (by rfl) ?_)
    refine SeqE.callX hE (opA_call rfl fn14 rfl) (same_ok (o := o) (by omega) (fun h => ?_) (fun h => ?_)) rfl rfl fun nx3 hg3 => ?_
    · obtain ⟨b, q1, q2, q3, q4⟩ := hX h; exact ⟨b, _, _, q1, (hfr2 b q3).trans q4⟩
    · obtain ⟨b, q1, q2, q3, q4⟩ := hY h; exact ⟨b, _, _, q1, q4⟩
    repeat (first | refine SeqE.step hE (StepO.move (by rfl)) (by rfl) (by rfl) ?_ | refine SeqE.step hE (StepO.pickT (by rfl) (by rfl)) (by rfl) (by rfl) ?_ | refine SeqE.step hE (StepO.binOp (by rfl) (by rfl) (eqlT (by omega))) (by rfl) (by rfl) ?_)
    refine SeqE.callX hE (opA_call rfl fn12 rfl) (hheads _ _) rfl rfl fun nx4 hg4 => ?_
    repeat (first | refine SeqE.nil ?_ | refine CodeE.ret ?_ | refine SeqE.step hE (StepO.assign (by rfl)) (by rfl) (by rfl) ?_ | refine SeqE.step hE (StepO.pickT (by rfl) (by rfl)) (by rfl) (by rfl) ?_)
    exact ⟨_, rfl, rfl⟩
  · rcases hQ2 with ⟨hck2, _⟩ | ⟨_, rfl⟩
    · rw [hck] at hck2; cases hck2
    repeat (first | refine SeqE.nil ?_ | refine CodeE.seq ?_ | refine CodeE.region ?_ | refine CodeE.condF (by rfl) ?_ | refine CodeE.exit ?_ | refine SeqE.step hE (StepO.move (by rfl)) (by rfl) (by rfl) ?_ | refine SeqE.step hE (StepO.lenSlice (by rfl) (Tab.slcAt tabOk (by rfl))) (by rfl) (by rfl) ?_ | refine SeqE.step hE (StepO.binOp (by rfl) (by rfl) (lssF (by omega))) (by rfl) (by rfl) ?_)
    refine SeqE.call hE (opA_call rfl fn13 rfl) hc rfl rfl ?_
    repeat (first | refine SeqE.nil ?_ | refine CodeE.seq ?_ | refine CodeE.region ?_ | refine SeqE.step hE (StepO.move (by rfl)) (by rfl) (by rfl) ?_ | refine SeqE.step hE (StepO.assign (by rfl)) (by rfl) (by rfl) ?_ | refine SeqE.step hE (StepO.extract (by rfl) (by rfl)) (by rfl) (by rfl) ?_)
    refine SeqE.call hE (opA_call rfl fn17 rfl) hc2 rfl rfl ?_
    repeat (first | refine SeqE.nil ?_ | refine CodeE.seq ?_ | refine CodeE.region ?_ | refine SeqE.step hE (StepO.move (by rfl)) (by rfl) (by rfl) ?_ | refine SeqE.step hE (StepO.assign (by rfl)) (by rfl) (by rfl) ?_ | refine SeqE.step hE (StepO.extract (by rfl) (by rfl)) (by rfl) (by rfl) ?_)
    refine SeqE.callX hE (opA_call rfl fn14 rfl) (same_ok (o := []) (by simp) (fun h => absurd h (by simp)) (fun h => absurd h (by simp))) rfl rfl fun nx3 hg3 => ?_
    repeat (first | refine SeqE.step hE (StepO.move (by rfl)) (by rfl) (by rfl) ?_ | refine SeqE.step hE (StepO.pickT (by rfl) (by rfl)) (by rfl) (by rfl) ?_ | refine SeqE.step hE (StepO.binOp (by rfl) (by rfl) (eqlT (by omega))) (by rfl) (by rfl) ?_)
    refine SeqE.callX hE (opA_call rfl fn12 rfl) (hheads _ _) rfl rfl fun nx4 hg4 => ?_
    repeat (first | refine SeqE.nil ?_ | refine CodeE.ret ?_ | refine SeqE.step hE (StepO.assign (by rfl)) (by rfl) (by rfl) ?_ | refine SeqE.step hE (StepO.pickT (by rfl) (by rfl)) (by rfl) (by rfl) ?_)
    exact ⟨_, rfl, rfl⟩
end Go.Pick
