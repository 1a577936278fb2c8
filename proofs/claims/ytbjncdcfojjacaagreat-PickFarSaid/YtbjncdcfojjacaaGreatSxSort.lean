/- The evaluator: a map's keys, sorted: a hook. -/
import Derived.Test.YtbjncdcfojjacaaGreatSxZ
import Derived.Lib.SlKeysI
namespace Go.Sx
open Go Go.RowKit

def insI (x : Int) : List Int → List Int
  | [] => [x]
  | y :: ys => if x ≤ y then x :: y :: ys else y :: insI x ys
def sortI : List Int → List Int
  | [] => []
  | x :: l => insI x (sortI l)
def keysI : List MapEntry → Option (List Int)
  | [] => some []
  | e :: es => match e.key with
    | .int .i64 k => (keysI es).bind fun l => some (k :: l)
    | _ => none
def freshI (x : Int) : List Int → Bool
  | [] => true
  | y :: l => !(x == y) && freshI x l
def nodupI : List Int → Bool
  | [] => true
  | x :: l => freshI x l && nodupI l
def rangeI : List Int → Bool
  | [] => true
  | x :: l => decide (-9223372036854775808 ≤ x ∧ x ≤ 9223372036854775807) && rangeI l
def bornFresh (b : Nat) : List MapEntry → Bool
  | [] => true
  | e :: l => !(Nat.beq b e.born) && bornFresh b l
def stampsOk (c : Nat) : List MapEntry → Bool
  | [] => true
  | e :: l => Nat.blt e.born c && bornFresh e.born l && stampsOk c l
def sortedMap (ti : TypeId) (args : List Value) (S : St) : Option (AEnd × St) :=
  match args with
  | [.map (some r)] => match S.heap.get r with
    | some (.map es c) => (keysI es).bind fun l => match stampsOk c es && nodupI l && rangeI l && Nat.ble l.length 1000 with
      | true => match sortI l with
        | [] => some (.ret (.slice none 0 0), S)
        | x :: xs => (S.eff (.new (.cells ((x :: xs).map (Value.int .i64)) ti true))).bind fun S' => some (.ret (.slice (some ⟨S.next, 0, none⟩) (x :: xs).length 0), S')
      | false => none
    | _ => none
  | _ => none

theorem insI_perm (x : Int) : ∀ l, (insI x l).Perm (x :: l)
  | [] => .refl _
  | y :: ys => by
    unfold insI
    split
    · exact .refl _
    · exact ((insI_perm x ys).cons y).trans (.swap x y ys)
theorem sortI_perm : ∀ l, (sortI l).Perm l
  | [] => .refl _
  | x :: l => (insI_perm x _).trans ((sortI_perm l).cons x)
theorem insI_sorted (x : Int) : ∀ l : List Int, l.Pairwise (fun a b => leI a b = true) → (insI x l).Pairwise (fun a b => leI a b = true)
  | [], _ => by simp [insI]
  | y :: ys, h => by
    unfold insI
    rw [List.pairwise_cons] at h
    split
    · rename_i hx
      refine List.pairwise_cons.2 ⟨fun z hz => ?_, List.pairwise_cons.2 h⟩
      cases hz with
      | head => simpa [leI] using hx
      | tail _ hz =>
        have := h.1 z hz
        simp only [leI, decide_eq_true_eq] at this ⊢
        omega
    · rename_i hx
      refine List.pairwise_cons.2 ⟨fun z hz => ?_, insI_sorted x ys h.2⟩
      rcases List.mem_cons.1 ((insI_perm x ys).mem_iff.1 hz) with rfl | hz
      · simp only [leI, decide_eq_true_eq]; omega
      · exact h.1 z hz
theorem sortI_sorted : ∀ l : List Int, (sortI l).Pairwise (fun a b => leI a b = true)
  | [] => .nil
  | x :: l => insI_sorted x _ (sortI_sorted l)
theorem sortI_eq (l : List Int) : l.mergeSort leI = sortI l := by
  have tr : ∀ a b c : Int, leI a b = true → leI b c = true → leI a c = true := fun a b c h1 h2 => by simp only [leI, decide_eq_true_eq] at *; exact Int.le_trans h1 h2
  have to : ∀ a b : Int, (leI a b || leI b a) = true := fun a b => by simp only [leI, Bool.or_eq_true, decide_eq_true_eq]; exact Int.le_total a b
  refine List.Perm.eq_of_pairwise (le := fun a b => leI a b = true) (fun a b _ _ h1 h2 => ?_) (List.pairwise_mergeSort tr to l) (sortI_sorted l) ((List.mergeSort_perm l leI).trans (sortI_perm l).symm)
  simp only [leI, decide_eq_true_eq] at h1 h2
  exact Int.le_antisymm h1 h2

theorem keysI_get : ∀ (es : List MapEntry) (l : List Int), keysI es = some l → l.length = es.length ∧ ∀ (i : Nat) (e : MapEntry), es[i]? = some e → ∃ k, l[i]? = some k ∧ e.key = .int .i64 k
  | [], l, h => by simp [keysI] at h; subst h; exact ⟨rfl, fun i e h => by simp at h⟩
  | x :: es, l, h => by
    unfold keysI at h
    split at h
    · rename_i k hk
      simp only [Option.bind_eq_some_iff, Option.some.injEq] at h
      obtain ⟨q, hq, rfl⟩ := h
      obtain ⟨h1, h2⟩ := keysI_get es q hq
      refine ⟨by simp [h1], fun i e he => ?_⟩
      cases i with
      | zero => simp at he; subst he; exact ⟨k, rfl, hk⟩
      | succ i => simpa using h2 i e (by simpa using he)
    · cases h
theorem freshI_ok {x : Int} : ∀ {l : List Int}, freshI x l = true → x ∉ l
  | [], _ => by simp
  | y :: l, h => by
    simp [freshI] at h
    simp only [List.mem_cons, not_or]
    exact ⟨h.1, freshI_ok h.2⟩
theorem nodupI_ok : ∀ {l : List Int}, nodupI l = true → l.Nodup
  | [], _ => .nil
  | x :: l, h => by
    simp [nodupI] at h
    exact List.nodup_cons.2 ⟨freshI_ok h.1, nodupI_ok h.2⟩
theorem rangeI_ok : ∀ {l : List Int}, rangeI l = true → ∀ x ∈ l, -9223372036854775808 ≤ x ∧ x ≤ 9223372036854775807
  | [], _, x, hx => by cases hx
  | y :: l, h, x, hx => by
    simp only [rangeI, Bool.and_eq_true, decide_eq_true_eq] at h
    cases hx with
    | head => exact h.1
    | tail _ hx => exact rangeI_ok h.2 x hx
theorem bornFresh_ok {b : Nat} : ∀ {l : List MapEntry}, bornFresh b l = true → b ∉ l.map (·.born)
  | [], _ => by simp
  | e :: l, h => by
    simp only [bornFresh, Bool.and_eq_true, Bool.not_eq_true'] at h
    simp only [List.map_cons, List.mem_cons, not_or]
    exact ⟨Nat.ne_of_beq_eq_false h.1, bornFresh_ok h.2⟩
theorem stampsOk_ok {c : Nat} : ∀ {l : List MapEntry}, stampsOk c l = true → (∀ b ∈ l.map (·.born), b < c) ∧ (l.map (·.born)).Nodup
  | [], _ => ⟨by simp, .nil⟩
  | e :: l, h => by
    simp only [stampsOk, Bool.and_eq_true] at h
    obtain ⟨⟨h1, h2⟩, h3⟩ := h
    obtain ⟨g1, g2⟩ := stampsOk_ok h3
    refine ⟨fun b hb => ?_, List.nodup_cons.2 ⟨bornFresh_ok h2, g2⟩⟩
    cases hb with
    | head => exact blt_true h1
    | tail _ hb => exact g1 b hb

theorem insert_perm {H : Type} (x : Lit × DataW H) : ∀ l, (DataW.insert x l).Perm (x :: l)
  | [] => .refl _
  | y :: r => by
    unfold DataW.insert
    split
    · exact .refl _
    · exact ((insert_perm x r).cons y).trans (.swap x y r)
theorem inserts_perm {H : Type} : ∀ l : List (Lit × DataW H), (l.foldr DataW.insert []).Perm l
  | [] => .refl _
  | x :: l => (insert_perm x _).trans ((inserts_perm l).cons x)

theorem thousand : 1000 ≤ maxLen := by decide
def anyVal : Value → Option (DataW Unit × List MemPlace) := fun _ => some (.nil, [])
theorem sortedMap_ok {P : Program} {f : FuncId} {mt ti : TypeId} (hk : P.underlying mt = some (.int .i64)) (hcell : P.cellsOf ti = 1)
    (hc : ∀ (b nn : Nat) (D0 : DataW Unit) (w : World), w.ownsMap P mt anyVal b nn D0 → Maps.size D0 ≤ maxLen → Maps.size D0 * 8 ≤ 140737488355328 →
      Calls P f #[.map (some b)] w fun e w' => ∃ (v : Value) (ss : List Int), e = .returned v ∧ ss.Perm (intKeys D0) ∧ w'.ownsRow w.heap.size ti 1 v ss.length ((ss.mergeSort leI).map encZ) ∧ (v = .slice none 0 0 ↔ ss = []) ∧ Below w.heap.size w w')
    {args : List Value} {S S' : St} {e : AEnd} (h : sortedMap ti args S = some (e, S')) : CallOk P f args S e S' := by
  unfold sortedMap at h
  split at h
  · rename_i r
    split at h
    · rename_i es c hr0
      simp only [Option.bind_eq_some_iff] at h
      obtain ⟨l, hl, h⟩ := h
      split at h
      · rename_i hchk
        simp only [Bool.and_eq_true] at hchk
        obtain ⟨⟨⟨c1, c2⟩, c3⟩, c4⟩ := hchk
        have c4 : l.length ≤ 1000 := Nat.le_of_ble_eq_true c4
        obtain ⟨k1, k2⟩ := keysI_get es l hl
        -- what the world holds
        have key : ∀ (B lim : Nat) (ρ : Ren) (w : World) (args' : List Value), HRel P B lim S.heap.get S.next ρ w → All2 (VR ρ) [.map (some r)] args' →
            Calls P f ⟨args'⟩ w fun e w' => ∃ v, e = .returned v ∧ w'.ownsRow w.heap.size ti 1 v (sortI l).length ((sortI l).map encZ) ∧ (v = .slice none 0 0 ↔ sortI l = []) ∧ Below w.heap.size w w' := by
          intro B lim ρ w args' hr ha
          match args', ha with
          | [x], ha =>
            obtain ⟨p, hp0, rfl⟩ := VR.map ha.1
            obtain ⟨q, e1, e2, g1, g2, es', g3, g4, g5⟩ := hr.obj r _ hr0
            rw [hp0] at e1; cases e1
            have keyAt : ∀ (i : Nat) (e : MapEntry), es'[i]? = some e → ∃ x, es[i]? = some x ∧ ∃ k, l[i]? = some k ∧ e.key = .int .i64 k ∧ x.born = e.born := by
              intro i e he
              have hi : i < es.length := by rw [← g4]; exact (Array.getElem?_eq_some_iff.1 he).1
              obtain ⟨y, hy, v1, v2, v3⟩ := g5 i es[i] (List.getElem?_eq_getElem hi)
              rw [he] at hy; cases hy
              obtain ⟨k, hk1, hk2⟩ := k2 i es[i] (List.getElem?_eq_getElem hi)
              rw [hk2] at v1
              exact ⟨es[i], List.getElem?_eq_getElem hi, k, hk1, VR.int v1, v3⟩
            have keysEq : es'.toList.map (·.key) = l.map encZ := by
              apply List.ext_getElem?
              intro i
              rw [List.getElem?_map, List.getElem?_map, Array.getElem?_toList]
              cases he : es'[i]? with
              | none =>
                have : es'.size ≤ i := by simpa using he
                rw [List.getElem?_eq_none (by omega)]; rfl
              | some e => obtain ⟨x, _, k, h1, h2, _⟩ := keyAt i e he; rw [h1]; simp [h2]
            have bornEq : es'.toList.map (·.born) = es.map (·.born) := by
              apply List.ext_getElem?
              intro i
              rw [List.getElem?_map, List.getElem?_map, Array.getElem?_toList]
              cases he : es'[i]? with
              | none =>
                have : es'.size ≤ i := by simpa using he
                rw [List.getElem?_eq_none (by omega)]
              | some e => obtain ⟨x, h0, k, h1, h2, h3⟩ := keyAt i e he; rw [h0]; simp [h3]
            have rdAt : ∀ e ∈ es'.toList, ∃ k, e.key = .int .i64 k ∧ WideElems.rd P mt anyVal e = some (.int .i64 k, .nil) := by
              intro e he
              obtain ⟨i, hi⟩ := List.mem_iff_getElem?.1 he
              rw [Array.getElem?_toList] at hi
              obtain ⟨x, _, k, h1, h2, _⟩ := keyAt i e hi
              have hw := rangeI_ok c3 k (List.mem_of_getElem? h1)
              refine ⟨k, h2, ?_⟩
              have hwf : (Lit.int .i64 k).wf = true := by
                simp [Lit.wf, IntKind.min, IntKind.max, IntKind.signed, IntKind.bits]; omega
              simp [WideElems.rd, keyOf, hk, mapKey, h2, hwf, anyVal]
            have hfit : WideElems.Fit P mt anyVal es' c := by
              obtain ⟨s1, s2⟩ := stampsOk_ok c1
              refine ⟨by have : 1000 ≤ maxLen := thousand; omega, ⟨fun x hx => s1 _ (by rw [← bornEq]; exact List.mem_map_of_mem hx), by rw [bornEq]; exact s2, ?_⟩, fun x hx => ?_⟩
              · rw [keysEq]
                exact List.pairwise_map.2 ((nodupI_ok c2).imp fun hne hab => hne (encZ_inj hab))
              · obtain ⟨k, _, h2⟩ := rdAt x hx; exact ⟨_, h2⟩
            have hown : w.ownsMap P mt anyVal p.1.block es'.size (.map ((es'.toList.map (WideElems.rg P mt anyVal)).foldr DataW.insert [])) := ⟨es', c, g3, hfit, Nat.le_refl _, rfl⟩
            have hperm : (intKeys (.map ((es'.toList.map (WideElems.rg P mt anyVal)).foldr DataW.insert []))).Perm l := by
              show (List.map (fun p : Lit × DataW Unit => intOf p.1) _).Perm l
              refine ((inserts_perm _).map _).trans ?_
              rw [List.map_map]
              have : es'.toList.map ((fun p : Lit × DataW Unit => intOf p.1) ∘ WideElems.rg P mt anyVal) = l := by
                apply List.ext_getElem?
                intro i
                rw [List.getElem?_map, Array.getElem?_toList]
                cases he : es'[i]? with
                | none =>
                  have : es'.size ≤ i := by simpa using he
                  rw [List.getElem?_eq_none (by omega)]; rfl
                | some e =>
                  obtain ⟨x, _, k, h1, h2, _⟩ := keyAt i e he
                  obtain ⟨k', h3, h4⟩ := rdAt e (List.mem_iff_getElem?.2 ⟨i, by rw [Array.getElem?_toList]; exact he⟩)
                  rw [h2] at h3; cases h3
                  rw [h1]
                  simp [WideElems.rg, h4, intOf]
              rw [this]
            have hsz : Maps.size (.map ((es'.toList.map (WideElems.rg P mt anyVal)).foldr DataW.insert []) : DataW Unit) = l.length := by
              show List.length _ = _
              rw [(inserts_perm _).length_eq, List.length_map, Array.length_toList, g4, k1]
            refine Calls.mono (hc p.1.block es'.size _ w hown (by rw [hsz]; have : 1000 ≤ maxLen := thousand; omega) (by rw [hsz]; omega)) ?_
            rintro en w' ⟨v, ss, rfl, hss, hrow, hnil, hb⟩
            have e1 : ss.mergeSort leI = sortI l := by rw [mergeSort_of_perm_i (hss.trans hperm), sortI_eq]
            have e2 : ss.length = (sortI l).length := by rw [(hss.trans hperm).length_eq, (sortI_perm l).length_eq]
            rw [e1, e2] at hrow
            refine ⟨v, rfl, hrow, hnil.trans ?_, hb⟩
            rw [← List.length_eq_zero_iff, ← List.length_eq_zero_iff, e2]
      -- the two ends
        split at h
        · rename_i hnil
          simp only [Option.some.injEq, Prod.mk.injEq] at h
          obtain ⟨rfl, rfl⟩ := h
          refine ⟨Fx.refl S, fun B lim ρ w args' hl hr ha => Calls.mono (key B lim ρ w args' hr ha) ?_⟩
          rintro en w' ⟨v, rfl, _, h2, hb⟩
          obtain rfl := h2.2 hnil
          exact ⟨ρ, rel_below hr hb, by simp [EndR, VR, renV]⟩
        · rename_i x xs hcons
          simp only [Option.bind_eq_some_iff, Option.some.injEq, Prod.mk.injEq] at h
          obtain ⟨S1, hS, rfl, rfl⟩ := h
          obtain ⟨f1, f2, f3⟩ := eff_get hS
          refine ⟨f3, fun B lim ρ w args' hl hr ha => Calls.mono (key B lim ρ w args' hr ha) ?_⟩
          rintro en w' ⟨v, rfl, hrow, h2, hb⟩
          rw [hcons] at hrow
          rcases hrow.2 with ⟨rfl, h0⟩ | ⟨g, cap, cur, rfl, hg, hcur, r1, r2, r3, r4⟩
          · simp at h0
          · have hlt : S.next < lim := by rw [f2] at hl; simp only [Eff.nx] at hl; omega
            have hcur' : ∀ (i : Nat) (v : Value), ((x :: xs).map (Value.int .i64))[i]? = some v → cur[i]? = some v := by
              intro i v hv
              rw [← r4, Nat.mul_one] at hv
              rw [List.getElem?_take] at hv
              split at hv
              · rw [Array.getElem?_toList] at hv; exact hv
              · cases hv
            have hlen : (x :: xs).length ≤ cap := r1
            obtain ⟨n1, n2⟩ := rel_newAt (o := .cells ((x :: xs).map (Value.int .i64)) ti true) (c := cap) hr hlt hb hg (Array.getElem?_eq_some_iff.1 hcur).1 (fun ρ' hle hn => by
              refine ⟨_, hn, rfl, Nat.le_trans hr.base hg, cur, hcur, ?_, fun i v hv => ?_, .inr ⟨?_, ?_⟩⟩
              · simp only [List.length_map]; omega
              · refine ⟨v, by simpa using hcur' i v hv, ?_⟩
                rw [List.getElem?_map] at hv
                simp only [Option.map_eq_some_iff] at hv
                obtain ⟨n, _, rfl⟩ := hv
                simp [VR, renV]
              · rw [hcell]; simp only [List.length_map]; omega
              · rw [hcell]; dsimp only; omega)
            refine ⟨ρ.put S.next (⟨g, 0, none⟩, cap), ⟨?_, ?_⟩, ?_⟩
            · show HRel P B lim S1.heap.get S1.next _ w'
              rw [f1, f2]; exact n1
            · show Step S.heap.get S1.heap.get S.next S1.next ρ (ρ.put S.next (⟨g, 0, none⟩, cap)) w w'
              rw [f1, f2]; exact n2
            · have := VR.mkOpen (ρ := ρ.put S.next (⟨g, 0, none⟩, cap)) (k := S.next) (o := 0) (n := (x :: xs).length) (j := 0) (Ren.put_same _ _ _) (by simpa using hlen)
              simpa [EndR] using this
      · cases h
    · cases h
  · cases h
end Go.Sx
