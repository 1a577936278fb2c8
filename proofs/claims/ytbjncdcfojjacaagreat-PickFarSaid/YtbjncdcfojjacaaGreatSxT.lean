/- The evaluator: a drawn region, evaluated, is known to be good. -/
import Derived.Test.YtbjncdcfojjacaaGreatSxS
namespace Go.Sx
open Go Go.RowKit

section
variable {E : Env} {P : Program} {call : CallF} {N : Nat} {all : Array Oper} {h0 : Tr AObj} {tm0 : TT} {nx0 : Nat}
theorem eff_nx_ge (e : Eff) (nx : Nat) : nx ≤ e.nx nx := by cases e <;> simp [Eff.nx]
theorem draw_good (hN : N < big) (hcall : CallsOk P call) : ∀ (rest : List Oper) (i : Nat) (before : List Oper) (ms : List Nat) (recs : List Rec) (tm : TT) (nx : Nat) (recsF : List Rec) (tmF : TT) (nxF : Nat),
    GoodD E P call N all h0 tm0 nx0 before ms recs tm nx → i = before.length → drawA E P call N all h0 i before ms rest recs tm nx = some (recsF, tmF, nxF) →
    ∃ ms', GoodD E P call N all h0 tm0 nx0 (before ++ rest) ms' recsF tmF nxF := by
  intro rest
  induction rest with
  | nil =>
    intro i before ms recs tm nx recsF tmF nxF g _ h
    simp [drawA] at h
    obtain ⟨rfl, rfl, rfl⟩ := h
    exact ⟨ms, by simpa using g⟩
  | cons o rest ih =>
    intro i before ms recs tm nx recsF tmF nxF g hi h
    subst hi
    simp only [drawA, Option.bind_eq_some_iff] at h
    obtain ⟨mask, hmask, h⟩ := h
    cases hap : (apartD all mask o 0 before && Nat.blt nx big) with
    | false => simp [hap] at h
    | true =>
      simp only [hap, Option.bind_eq_some_iff] at h
      simp only [Bool.and_eq_true] at hap
      obtain ⟨hap, hnxb⟩ := hap
      have hnx := blt_true hnxb
      obtain ⟨b, hb, h⟩ := h
      cases b with
      | false =>
        simp only [Option.bind_eq_some_iff] at h
        obtain ⟨tm1, ht, h⟩ := h
        have g' := g.snoc hN (r := ⟨before.length, mask, some [], [], [], undef, o, tm, .nil, nx, nx, none⟩) hmask hap hnx ht rfl rfl rfl rfl rfl (Nat.le_refl _) (CoreEq.refl recs)
          (.inl ⟨hb, rfl, rfl, rfl, rfl, rfl⟩) (fun k q r' h1 h2 => by
            rw [h1] at h2; cases h2
            refine .inl ⟨rfl, .inr ⟨?_, ?_⟩⟩
            · simp only [meets]; simp
            · cases hq : q.rd with
              | none => simp [meets]
              | some l => simp [meets])
        have := ih _ _ _ _ _ _ _ _ _ g' (by simp) h
        simpa [List.append_assoc] using this
      | true =>
        simp only [Option.bind_eq_some_iff] at h
        obtain ⟨⟨n, e⟩, hop, h⟩ := h
        have basic : ∀ v, (n = .value v ∨ (n = .skip ∧ v = undef)) →
            (match wrOk (viewD h0 mask recs) nx (some (topsAll (looked all o tm) (touches o))) (effWr e) with
              | true => (calmD E P all before.length mask (some (topsAll (looked all o tm) (touches o))) (effWr e) (effD e nx) recs).bind fun recs1 =>
                (tset N tm o.dst v).bind fun tm1 => drawA E P call N all h0 (before.length + 1) (before ++ [o]) (ms ++ [mask]) rest (recs1 ++ [⟨before.length, mask, some (topsAll (looked all o tm) (touches o)), effWr e, effD e nx, v, o, tm, viewD h0 mask recs, nx, e.nx nx, none⟩]) tm1 (e.nx nx + 1)
              | false => none) = some (recsF, tmF, nxF) → ∃ ms', GoodD E P call N all h0 tm0 nx0 (before ++ o :: rest) ms' recsF tmF nxF := by
          intro v hv h
          cases hw : wrOk (viewD h0 mask recs) nx (some (topsAll (looked all o tm) (touches o))) (effWr e) with
          | false => simp [hw] at h
          | true =>
            simp only [hw, Option.bind_eq_some_iff] at h
            obtain ⟨recs1, hc, tm1, ht, h⟩ := h
            obtain ⟨c1, c2⟩ := calmD_ok hc
            have g' := g.snoc hN (r := ⟨before.length, mask, some (topsAll (looked all o tm) (touches o)), effWr e, effD e nx, v, o, tm, viewD h0 mask recs, nx, e.nx nx, none⟩) hmask hap hnx ht rfl rfl rfl rfl rfl (eff_nx_ge e nx) c1
              (.inr ⟨hb, rfl, hw, .inl ⟨_, n, e, rfl, hop, hv, rfl, rfl, rfl⟩⟩) c2
            have := ih _ _ _ _ _ _ _ _ _ g' (by simp) h
            simpa [List.append_assoc] using this
        cases n with
        | value v => exact basic v (.inl rfl) h
        | skip => exact basic undef (.inr ⟨rfl, rfl⟩) h
        | panic v => cases h
        | enter f args =>
          cases e with
          | none =>
            simp only [Option.bind_eq_some_iff] at h
            obtain ⟨⟨en, S'⟩, hcl, h⟩ := h
            cases en with
            | panic v => cases h
            | ret v =>
              simp only at h
              cases hw : (wrOk (viewD h0 mask recs) nx none S'.wr && Nat.blt S'.next big) with
              | false => simp [hw] at h
              | true =>
                simp only [hw, Option.bind_eq_some_iff] at h
                simp only [Bool.and_eq_true] at hw
                obtain ⟨recs1, hc, tm1, ht, h⟩ := h
                obtain ⟨c1, c2⟩ := calmD_ok hc
                have hle := (hcall f args _ _ _ hcl).1.next
                have g' := g.snoc hN (r := ⟨before.length, mask, none, S'.wr, (S'.wr.map fun k => (k, S'.heap.get k)) ++ newsD S'.heap nx (S'.next - nx), v, o, tm, viewD h0 mask recs, nx, S'.next, none⟩) hmask hap hnx ht rfl rfl rfl rfl rfl hle c1
                  (.inr ⟨hb, rfl, hw.1, .inr ⟨_, f, args, S', rfl, hop, hcl, rfl, rfl, rfl, blt_true hw.2⟩⟩) c2
                have := ih _ _ _ _ _ _ _ _ _ g' (by simp) h
                simpa [List.append_assoc] using this
          | _ => cases h
theorem GoodD.start : GoodD E P call N all h0 tm0 nx0 [] [] [] tm0 nx0 :=
  ⟨rfl, rfl, fun i r h => by simp at h, fun i r h => by simp at h, fun i r k rk h => by simp at h, fun i r h => by simp at h, rfl, fun i r d h => by simp at h, fun i r h => by simp at h,
    ⟨Nat.le_refl _, fun r h => by cases h⟩, fun i r h => by simp at h, fun i r k rk h => by simp at h⟩

/-! ### the numbers that an operation changes -/
theorem newsD_ids (h : Tr AObj) : ∀ (n lo k : Nat), idsOf (newsD h lo n) k ↔ lo ≤ k ∧ k < lo + n
  | 0, lo, k => by simp [newsD, idsOf]
  | n + 1, lo, k => by
    have := newsD_ids h n (lo + 1) k
    simp only [newsD, idsOf, List.map_cons, List.mem_cons] at this ⊢
    rw [this]; omega
theorem newsD_val (h : Tr AObj) (f : Hp) : ∀ (n lo k : Nat), lo ≤ k → k < lo + n → layF f (newsD h lo n) k = h.get k
  | 0, lo, k, h1, h2 => by omega
  | n + 1, lo, k, h1, h2 => by
    simp only [newsD, layF]
    by_cases e : k = lo
    · subst e
      rw [layF_other _ _ _ (by rw [newsD_ids]; omega), over_same]
    · have := newsD_val h (over f lo (h.get lo)) n (lo + 1) k (by omega) (by omega)
      exact this
theorem mapD_val (h : Tr AObj) : ∀ (l : List Nat) (f : Hp) (k : Nat), k ∈ l → layF f (l.map fun k => (k, h.get k)) k = h.get k
  | [], f, k, hk => by cases hk
  | j :: l, f, k, hk => by
    simp only [List.map_cons, layF]
    by_cases e : k ∈ l
    · exact mapD_val h l _ k e
    · have : k = j := by cases hk with | head => rfl | tail _ h => exact absurd h e
      subst this
      rw [layF_other _ _ _ (by simpa [idsOf] using e), over_same]
theorem mapD_ids (h : Tr AObj) (l : List Nat) (k : Nat) : idsOf (l.map fun k => (k, h.get k)) k ↔ k ∈ l := by simp [idsOf]
theorem ids_append (l m : List (Nat × Option AObj)) (k : Nat) : idsOf (l ++ m) k ↔ idsOf l k ∨ idsOf m k := by simp [idsOf]
theorem layF_append : ∀ (l m : List (Nat × Option AObj)) (f : Hp), layF f (l ++ m) = layF (layF f l) m
  | [], m, f => rfl
  | (k, o) :: l, m, f => by simp only [List.cons_append, layF]; exact layF_append l m _
theorem effD_ids (e : Eff) (nx k : Nat) : idsOf (effD e nx) k ↔ k ∈ effWr e ∨ (nx ≤ k ∧ k < e.nx nx) := by
  cases e <;> simp [effD, effWr, idsOf, Eff.nx] <;> omega
theorem effD_lay (e : Eff) (nx : Nat) (f : Hp) : layF f (effD e nx) = e.hp f nx := by cases e <;> rfl
theorem wrOk_mem {view : Tr AObj} {nx : Nat} {foot : Option (List Nat)} {wr : List Nat} (h : wrOk view nx foot wr = true) {k : Nat} (hk : k ∈ wr) : k < nx ∧ (view.get k).isSome = true ∧ ∀ l, foot = some l → l.contains k = true := by
  unfold wrOk at h
  rw [List.all_eq_true] at h
  have := h k hk
  simp only [Bool.and_eq_true] at this
  refine ⟨blt_true this.1.1, this.1.2, fun l e => ?_⟩
  subst e
  exact this.2
theorem meets_false {wr : List Nat} {rd : Option (List Nat)} (h : meets wr rd = false) {k : Nat} (hk : k ∈ wr) : ∃ l, rd = some l ∧ l.contains k = false := by
  cases rd with
  | none => simp [meets] at h; rw [h] at hk; cases hk
  | some l =>
    refine ⟨l, rfl, ?_⟩
    simp only [meets, List.any_eq_false] at h
    simpa using h k hk
/-- what a record changes: what it wrote, and its own new numbers -/
theorem did_ids {r : Rec} {pre : List Rec} (hd : DidOk E P call all h0 r pre) (hcall : CallsOk P call) {k : Nat} : idsOf r.delta k ↔ k ∈ r.wr ∨ (r.nx ≤ k ∧ k < r.fin) := by
  rcases hd with ⟨_, _, _, h4, h5, h6⟩ | ⟨_, _, _, ⟨foot, n, e, _, _, _, h4, h5, h6⟩ | ⟨foot, f, args, S', _, _, hc, h4, h5, h6, _⟩⟩
  · rw [h4, h5, h6]; simp [idsOf]
  · rw [h4, h5, h6]; exact effD_ids e r.nx k
  · have hle := (hcall f args _ _ _ hc).1.next
    have hle : r.nx ≤ S'.next := hle
    rw [h4, h5, h6, ids_append, mapD_ids, newsD_ids]
    have : r.nx + (S'.next - r.nx) = S'.next := by omega
    rw [this]
theorem did_wr {r : Rec} {pre : List Rec} (hd : DidOk E P call all h0 r pre) {k : Nat} (hk : k ∈ r.wr) : r.view = viewD h0 r.mask pre ∧ k < r.nx ∧ (r.view.get k).isSome = true ∧ ∀ l, r.rd = some l → l.contains k = true := by
  rcases hd with ⟨_, _, _, h4, _⟩ | ⟨_, h2, h3, _⟩
  · rw [h4] at hk; cases hk
  · exact ⟨h2, wrOk_mem h3 hk⟩
end
end Go.Sx
