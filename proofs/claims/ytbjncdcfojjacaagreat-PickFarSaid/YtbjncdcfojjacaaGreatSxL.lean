/- The evaluator: append and copy. -/
import Derived.Test.YtbjncdcfojjacaaGreatSxK
namespace Go.Sx
open Go Go.RowKit

section
variable {E : Env} {P : Program} {a : Act} {B lim N : Nat} {hp : Hp} {nx : Nat} {ρ : Ren} {w : World} {tm : T} {n : ANext} {e : Eff}

/-- a built-in, run -/
def BDone (P : Program) (s : Sem Value) (B lim : Nat) (hp : Hp) (nx : Nat) (ρ : Ren) (w : World) (v : Value) (e : Eff) : Prop :=
  ∃ ρ' w' v', HRel P B lim (e.hp hp nx) (e.nx nx) ρ' w' ∧ Step hp (e.hp hp nx) nx (e.nx nx) ρ ρ' w w' ∧ s.run P w = .ok v' w' ∧ VR ρ' v v'
theorem bdone_value {s : Sem Value} (hr : HRel P B lim hp nx ρ w) {v v' : Value} (h : s.run P w = .ok v' w) (hv : VR ρ v v') : BDone P s B lim hp nx ρ w v .none :=
  ⟨ρ, w, v', hr, Step.refl _ _ _ _, h, hv⟩

theorem takeN_le {n : Nat} {l r : List Value} (h : takeN n l = some r) : n ≤ l.length := by
  obtain ⟨h1, h2⟩ := takeN_some n l r h
  rcases Nat.lt_or_ge l.length n with hlt | hge
  · exfalso
    have := h2 l.length hlt
    rw [List.getElem?_eq_none (Nat.le_refl _), List.getElem?_eq_none_iff] at this
    omega
  · exact hge
/-- a row that grows into a new one -/
theorem grown_rel (hr : HRel P B lim hp nx ρ w) (hl : nx < lim) {el : TypeId} {c c' rest : List Value} {cap : Nat} (hc : All2 (VR ρ) c c') (hcap : c.length ≤ cap * P.cellsOf el ∧ cap * P.cellsOf el ≤ c'.length + rest.length) :
    HRel P B lim (over hp nx (some (.cells c el true))) (nx + 1) (ρ.put nx (⟨w.heap.size, 0, none⟩, cap)) (w.drew.alloc (.cells (c'.toArray ++ rest.toArray) el)) ∧
    Step hp (over hp nx (some (.cells c el true))) nx (nx + 1) ρ (ρ.put nx (⟨w.heap.size, 0, none⟩, cap)) w (w.drew.alloc (.cells (c'.toArray ++ rest.toArray) el)) := by
  have hlen := hc.length
  obtain ⟨g1, g2, _⟩ := newcells_rel (w' := w.drew.alloc (.cells (c'.toArray ++ rest.toArray) el)) (cap := cap) (c := c) (e := el) hr hl rfl rfl rfl rfl
    (by simp; omega) (.inr ⟨hcap.1, by simpa using hcap.2⟩) fun i v hv => by
      obtain ⟨y, e1, e2⟩ := hc.get i v hv
      have hi : i < c'.length := (List.getElem?_eq_some_iff.1 e1).1
      exact ⟨y, by rw [Array.getElem?_append_left (by simpa using hi)]; simpa using e1, e2⟩
  exact ⟨g1, g2⟩
theorem run_append_in (hE : EnvOk E P) {t ty el : TypeId} {i : TypeInfo} {ad b : Addr} {n c m c2 : Nat} {news : List Value} {w' : World} (hu : E.und t = some (.slice el)) (hi : E.ty.get el = some i)
    (hl : news.length = m * i.size) (hnews : ∀ j u, news[j]? = some u → w.cell? (b.add j) = some u) (hroom : n + m ≤ c) (hst : (storeCells (ad.add (n * i.size)) news).run P w = .ok () w') :
    (Builtin.append_ #[t, t] ty #[.slice (some ad) n c, .slice (some b) m c2]).run P w = .ok (.slice (some ad) (n + m) c) w' := by
  have hf := run_firstCells_some (P := P) w i.size m b m c2 news hl hnews
  simp [Builtin.append_, hE.run_und hu, sizeOf, typeInfo, hE.ty el i hi, Builtin.lenOf, hroom, hf, hst]
theorem run_append_nothing (hE : EnvOk E P) {t ty el : TypeId} {i : TypeInfo} {base src : Option Addr} {n c c2 : Nat} (hu : E.und t = some (.slice el)) (hi : E.ty.get el = some i) (hroom : n ≤ c) :
    (Builtin.append_ #[t, t] ty #[.slice base n c, .slice src 0 c2]).run P w = .ok (.slice base n c) w := by
  have hf : (Builtin.firstCells i.size 0 (.slice src 0 c2)).run P w = .ok #[] w := by
    cases src with
    | none => simp [Builtin.firstCells]
    | some b => simp [Builtin.firstCells, loadCells, loadCellsFrom]
  have hs : ∀ x : Addr, (storeCells x []).run P w = .ok () w := fun x => rfl
  cases base <;> simp [Builtin.append_, hE.run_und hu, sizeOf, typeInfo, hE.ty el i hi, Builtin.lenOf, hroom, hf, hs]
theorem grownCap_maxLen (w : World) {need old : Nat} {el : TypeId} : need ≤ grownCap w need old el := grownCap_ge w need old el

theorem aAppend_ok (hE : EnvOk E P) (hr : HRel P B lim hp nx ρ w) (hl : nx < lim) {t ty : TypeId} {s x s' x' v : Value} (h : aAppend E hp nx t s x = some (v, e)) (hs : VR ρ s s') (hx : VR ρ x x') :
    BDone P (Builtin.append_ #[t, t] ty #[s', x']) B lim hp nx ρ w v e := by
  unfold aAppend at h
  split at h
  · rename_i el base n C src m C2 hu
    simp only [Option.bind_eq_some_iff] at h
    obtain ⟨i, hi, h⟩ := h
    by_cases hm : m = 0
    · rw [if_pos hm] at h
      simp only [Option.some.injEq, Prod.mk.injEq] at h
      obtain ⟨rfl, rfl⟩ := h
      subst hm
      have hx' : ∃ src' c2, x' = .slice src' 0 c2 := by
        cases src with
        | none => obtain ⟨_, _, rfl⟩ := hx.sliceNil; exact ⟨_, _, rfl⟩
        | some b => obtain ⟨p, c, _, _, rfl, _⟩ := hx.slice; exact ⟨_, _, rfl⟩
      obtain ⟨src', c2, rfl⟩ := hx'
      cases base with
      | none =>
        obtain ⟨rfl, rfl, rfl⟩ := hs.sliceNil
        exact bdone_value hr (run_append_nothing hE hu hi (Nat.le_refl _)) hs
      | some ad =>
        obtain ⟨p, c, _, _, rfl, hnc, _⟩ := hs.slice
        exact bdone_value hr (run_append_nothing hE hu hi hnc) hs
    · rw [if_neg hm] at h
      by_cases hg : i.size = 0 ∨ (n + m) * i.bytes > 1000000000000 ∨ (E.zero el).isNone = true ∨ i.bytes = 0
      · rw [if_pos hg] at h; cases h
      · rw [if_neg hg] at h
        have hsz0 : i.size ≠ 0 := fun e => hg (.inl e)
        have hb0 : i.bytes ≠ 0 := fun e => hg (.inr (.inr (.inr e)))
        have hby : (n + m) * i.bytes ≤ 1000000000000 := Nat.le_of_not_lt fun e => hg (.inr (.inl e))
        obtain ⟨z, hz⟩ : ∃ z, E.zero el = some z := by
          cases hz : E.zero el with
          | none => exact absurd (.inr (.inr (.inl (by simp [hz])))) hg
          | some z => exact ⟨z, rfl⟩
        have hnm : n + m ≤ 1000000000000 := Nat.le_trans (Nat.le_mul_of_pos_right _ (Nat.pos_of_ne_zero hb0)) hby
        obtain ⟨i', hi', hzi, _, hzs⟩ := hE.of_zero hz
        rw [hi] at hi'; cases hi'
        cases src with
        | none => cases h
        | some sa =>
          simp only [Option.bind_eq_some_iff] at h
          obtain ⟨news, hnews, h⟩ := h
          obtain ⟨q, c2, hq0, hqs, rfl, hmc, _⟩ := hx.slice
          obtain ⟨news', n1, n2, n3⟩ := hread_ok hr hnews hq0
          by_cases h1 : ones news = true
          · rw [if_pos h1] at h
            have hPi := hE.ty el i hi
            have hPu := hE.und hu
            cases base with
            | none =>
              dsimp only at h
              split at h
              · rename_i h00
                obtain ⟨rfl, rfl⟩ := h00
                simp only [Option.some.injEq, Prod.mk.injEq] at h
                obtain ⟨rfl, rfl⟩ := h
                obtain ⟨_, _, rfl⟩ := hs.sliceNil
                simp only [Nat.zero_add] at hby
                have h63 : (m : Int) ≤ 9223372036854775807 := by omega
                have hcs : P.cellsOf el = i.size := by simp [Program.cellsOf, hPi]
                have hge := grownCap_ge w m 0 el
                have hrun := run_append_nil (P := P) w t ty el i z hPu hPi hzi _ m c2 news' n2 n3 (by omega) h63 (by omega)
                obtain ⟨g1, g2⟩ := grown_rel (rest := (Builtin.zeroCells z.cells (grownCap w m 0 el - m)).toList) (cap := grownCap w m 0 el) (el := el) hr hl n1 (by rw [hcs, ← n1.length, n2]; simp only [Array.length_toList, size_zeroCells, hzs, ← Nat.add_mul]; exact ⟨Nat.mul_le_mul_right _ hge, Nat.le_of_eq (by congr 1; omega)⟩)
                simp only [Array.toArray_toList] at g1 g2
                refine ⟨_, _, _, g1, g2, hrun, ?_⟩
                have := VR.mkOpen (o := 0) (n := m) (j := 0) (Ren.put_same ρ nx (⟨w.heap.size, 0, none⟩, grownCap w m 0 el)) (by have := grownCap_ge w m 0 el; simp; exact this)
                simpa using this
              · cases h
            | some ad =>
              dsimp only at h
              obtain ⟨p, c, hp0, hps, rfl, hnc, hC⟩ := hs.slice
              obtain ⟨ab, ao, as⟩ := ad
              dsimp only at hps hp0
              subst hps
              split at h
              · rename_i cl el' hob
                dsimp only at hob
                by_cases hel : el' = el
                · rw [if_pos hel] at h
                  subst hel
                  have hcs : P.cellsOf el' = i.size := by simp [Program.cellsOf, hPi]
                  have hgcap : ∀ (c : Nat) {old : List Value} (old' : List Value), old'.length = n * i.size → old.length = old'.length → (old ++ news).length ≤ grownCap w (n + m) c el' * P.cellsOf el' ∧
                      grownCap w (n + m) c el' * P.cellsOf el' ≤ (old' ++ news').length + (Builtin.zeroCells z.cells (grownCap w (n + m) c el' - (n + m))).toList.length := by
                    intro c old old' ho hoo
                    have hge := grownCap_ge w (n + m) c el'
                    rw [hcs]
                    simp only [List.length_append, Array.length_toList, size_zeroCells, hzs, hoo, ho, ← n1.length, n2, ← Nat.add_mul]
                    exact ⟨Nat.mul_le_mul_right _ hge, Nat.le_of_eq (by congr 1; omega)⟩
                  -- where it fits for sure
                  have fits : ∀ cl', setAt (ao + n * i.size) news cl = some cl' → n + m ≤ c →
                      ∃ w', (Builtin.append_ #[t, t] ty #[.slice (some ⟨p.1.block, p.1.off + ao, none⟩) n c, .slice (some ⟨q.1.block, q.1.off + sa.off, none⟩) m c2]).run P w = .ok (.slice (some ⟨p.1.block, p.1.off + ao, none⟩) (n + m) c) w' ∧
                        HRel P B lim (over hp ab (some (.cells cl' el' true))) nx ρ w' ∧ Step hp (over hp ab (some (.cells cl' el' true))) nx nx ρ ρ w w' := by
                    intro cl' hset hroom
                    obtain ⟨w', f1, f2, f3⟩ := laid_ok (P := P) hr hob hset h1 hp0 n1
                    refine ⟨w', run_append_in hE hu hi n2 n3 hroom ?_, f2, f3⟩
                    rw [add_mk, Nat.add_assoc]; exact f1
                  -- where it grows for sure
                  have grows : ∀ old, takeN (n * i.size) (dropN ao cl) = some old → c < n + m →
                      BDone P (Builtin.append_ #[t, t] ty #[.slice (some ⟨p.1.block, p.1.off + ao, none⟩) n c, .slice (some ⟨q.1.block, q.1.off + sa.off, none⟩) m c2]) B lim hp nx ρ w (.slice (some ⟨nx, 0, none⟩) (n + m) 0) (.new (.cells (old ++ news) el' true)) := by
                    intro old hold hgrow
                    obtain ⟨old', o1, o2, o3⟩ := hread_ok (a := ⟨ab, ao, none⟩) (n := n * i.size) hr (by unfold hread; dsimp only; rw [hob]; exact hold) hp0
                    have hrun := run_append_grow (P := P) w t ty el' i z hPu hPi hzi _ n c old' o2 o3 _ m c2 news' n2 n3 hgrow (by omega) (growslice_fits hgrow (by omega))
                    obtain ⟨g1, g2⟩ := grown_rel (c := old ++ news) (c' := old' ++ news') (rest := (Builtin.zeroCells z.cells (grownCap w (n + m) c el' - (n + m))).toList) (cap := grownCap w (n + m) c el') (el := el') hr hl (o1.append n1) (hgcap c old' o2 (o1.length.symm))
                    have hap : (old' ++ news').toArray = old'.toArray ++ news'.toArray := by simp
                    simp only [Array.toArray_toList, hap] at g1 g2
                    refine ⟨_, _, _, g1, g2, hrun, ?_⟩
                    have := VR.mkOpen (o := 0) (n := n + m) (j := 0) (Ren.put_same ρ nx (⟨w.heap.size, 0, none⟩, grownCap w (n + m) c el')) (by have := grownCap_ge w (n + m) c el'; simp; exact this)
                    simpa using this
                  by_cases hodd : C % 2 = 1
                  · rw [if_pos hodd] at h hC
                    subst hC
                    by_cases hroom : n + m ≤ C / 2
                    · rw [if_pos hroom] at h
                      simp only [Option.bind_eq_some_iff, Option.some.injEq, Prod.mk.injEq] at h
                      obtain ⟨cl', hset, rfl, rfl⟩ := h
                      obtain ⟨w', f1, f2, f3⟩ := fits cl' hset hroom
                      refine ⟨ρ, w', _, f2, f3, f1, ?_⟩
                      have hCC : C = 2 * (C / 2) + 1 := by omega
                      rw [hCC]
                      have : (2 * (C / 2) + 1) / 2 = C / 2 := by omega
                      simp only [this]
                      exact VR.mkExact hp0 hroom
                    · rw [if_neg hroom] at h
                      simp only [Option.bind_eq_some_iff, Option.some.injEq, Prod.mk.injEq] at h
                      obtain ⟨old, hold, rfl, rfl⟩ := h
                      exact grows old hold (by omega)
                  · rw [if_neg hodd] at h hC
                    obtain ⟨hC1, hC2⟩ := hC
                    by_cases hao : ao = C / 2 * i.size ∧ n ≠ 0
                    · rw [if_pos hao] at h
                      obtain ⟨hao, hn0⟩ := hao
                      obtain ⟨q', e1, e2, g1, cur, g2, g3, g4, g5⟩ := hr.obj ab _ hob
                      rw [hp0] at e1; cases e1
                      rcases g5 with g5 | ⟨g5, g6⟩
                      · omega
                      rw [hcs] at g5 g6
                      have hmul : ∀ k, (C / 2 + k) * i.size = ao + k * i.size := fun k => by rw [Nat.add_mul, hao]
                      have hpos : 0 < i.size := Nat.pos_of_ne_zero hsz0
                      by_cases hin : ao + (n + m) * i.size ≤ cl.length
                      · rw [if_pos hin] at h
                        simp only [Option.bind_eq_some_iff, Option.some.injEq, Prod.mk.injEq] at h
                        obtain ⟨cl', hset, rfl, rfl⟩ := h
                        have hle : C / 2 + (n + m) ≤ p.2 := by
                          have : (C / 2 + (n + m)) * i.size ≤ p.2 * i.size := by rw [hmul]; omega
                          exact Nat.le_of_mul_le_mul_right this hpos
                        obtain ⟨w', f1, f2, f3⟩ := fits cl' hset (by omega)
                        refine ⟨ρ, w', _, f2, f3, f1, ?_⟩
                        have hCC : C = 2 * (C / 2) := by omega
                        rw [hCC, hC1]
                        exact VR.mkOpen hp0 hle
                      · rw [if_neg hin] at h
                        by_cases hfr : ao + n * i.size = cl.length
                        · rw [if_pos hfr] at h
                          simp only [Option.some.injEq, Prod.mk.injEq] at h
                          obtain ⟨rfl, rfl⟩ := h
                          by_cases hroom : n + m ≤ c
                          · -- in place: the row moves to a new number
                            have hle : C / 2 + (n + m) ≤ p.2 := by omega
                            have hroom2 : p.1.off + (ao + (n + m) * i.size) ≤ cur.size := by
                              have : (C / 2 + (n + m)) * i.size ≤ p.2 * i.size := Nat.mul_le_mul_right _ hle
                              rw [hmul] at this; omega
                            have hnl := n1.length
                            have hnm2 : (n + m) * i.size = n * i.size + m * i.size := Nat.add_mul _ _ _
                            have hst := run_storeCells_at (P := P) p.1.block (p.1.off + (ao + n * i.size)) el' news' 0 cur w g2 (by omega) (ones_all2 n1 h1)
                            simp only [Nat.add_zero] at hst
                            have hsz2 : (cur.toList.take (p.1.off + (ao + n * i.size)) ++ news' ++ cur.toList.drop (p.1.off + (ao + n * i.size) + news'.length)).toArray.size = cur.size := by
                              simp only [List.size_toArray, List.length_append, List.length_take, List.length_drop, Array.length_toList]; omega
                            have hrun := run_append_in (P := P) (ty := ty) (w := w) (ad := ⟨p.1.block, p.1.off + ao, none⟩) (b := ⟨q.1.block, q.1.off + sa.off, none⟩) (c2 := c2) hE hu hi n2 n3 hroom (by rw [add_mk, Nat.add_assoc]; exact hst)
                            obtain ⟨r1, r2⟩ := rel_move (p' := (⟨p.1.block, p.1.off + ao, none⟩, p.2 - C / 2)) (o := .cells (dropN ao cl ++ news) el' true) hr hl hob rfl hp0 rfl (by simp) (fun b hb => setRow_other w _ b _ hb) rfl rfl rfl
                              fun ρ' hle' hn' => ⟨_, hn', rfl, g1, _, setRow_heap w _ cur _ el' (0, 0) g2, by
                                  rw [hsz2, dropN_eq]; simp only [List.length_append, List.length_drop]; omega, fun j v hv => by
                                  simp only [List.getElem?_toArray]
                                  rw [dropN_eq] at hv
                                  by_cases hj : j < (cl.drop ao).length
                                  · rw [List.getElem?_append_left hj, List.getElem?_drop] at hv
                                    obtain ⟨v', f1, f2⟩ := g4 _ v hv
                                    simp only [List.length_drop] at hj
                                    refine ⟨v', ?_, f2.mono hle'⟩
                                    rw [List.append_assoc, List.getElem?_append_left (by simp; omega), List.getElem?_take, if_pos (by omega)]
                                    rw [Nat.add_assoc]; simpa using f1
                                  · rw [List.getElem?_append_right (by omega)] at hv
                                    obtain ⟨v', f1, f2⟩ := n1.get _ _ hv
                                    have hj2 : j - (cl.drop ao).length < news'.length := (List.getElem?_eq_some_iff.1 f1).1
                                    simp only [List.length_drop] at hj hj2 f1
                                    refine ⟨v', ?_, f2.mono hle'⟩
                                    rw [List.append_assoc, List.getElem?_append_right (by simp; omega), List.getElem?_append_left (by simp; omega)]
                                    simp only [List.length_take, Array.length_toList]
                                    rw [← f1]; congr 1; omega, .inr ⟨by
                                  rw [hcs, dropN_eq, Nat.sub_mul]; simp only [List.length_append, List.length_drop]
                                  have : (C / 2 + (n + m)) * i.size ≤ p.2 * i.size := Nat.mul_le_mul_right _ hle
                                  rw [hmul] at this; omega, by
                                  rw [hcs, hsz2, Nat.sub_mul]; dsimp only; omega⟩⟩
                            refine ⟨_, _, _, r1, r2, hrun, ?_⟩
                            have := VR.mkOpen (o := 0) (n := n + m) (j := 0) (Ren.put_same ρ nx (⟨p.1.block, p.1.off + ao, none⟩, p.2 - C / 2)) (by dsimp only; omega)
                            simpa [hC1] using this
                          · -- a new row; the old one is let go
                            obtain ⟨k1, k2⟩ := rel_kill hr ab
                            have hold : hread hp ⟨ab, ao, none⟩ (n * i.size) = takeN (n * i.size) (dropN ao cl) := by unfold hread; dsimp only; rw [hob]
                            obtain ⟨old', o1, o2, o3⟩ : ∃ l', All2 (VR ρ) (dropN ao cl) l' ∧ l'.length = n * i.size ∧ ∀ j u, l'[j]? = some u → w.cell? ((⟨p.1.block, p.1.off + ao, none⟩ : Addr).add j) = some u := by
                              have hk := known_cells hr hob hp0
                              obtain ⟨l', g1, g2⟩ := list_of (ρ := ρ) (q := fun i => w.cell? ⟨p.1.block, p.1.off + ao + i, none⟩) (dropN ao cl) fun i v hv => by
                                rw [dropN_eq, List.getElem?_drop] at hv
                                obtain ⟨v', f1, f2⟩ := hk _ v hv
                                exact ⟨v', by rw [Nat.add_assoc]; exact f1, f2⟩
                              exact ⟨l', g1, by rw [g1.length, dropN_eq]; simp only [List.length_drop]; omega, fun j u hu => by rw [add_mk]; exact g2 j u hu⟩
                            have hrun := run_append_grow (P := P) w t ty el' i z hPu hPi hzi _ n c old' o2 o3 _ m c2 news' n2 n3 (by omega) (by omega) (growslice_fits (by omega) (by omega))
                            obtain ⟨r1, r2⟩ := grown_rel (c := dropN ao cl ++ news) (c' := old' ++ news') (rest := (Builtin.zeroCells z.cells (grownCap w (n + m) c el' - (n + m))).toList) (cap := grownCap w (n + m) c el') (el := el') k1 hl (o1.append n1) (hgcap c old' o2 (o1.length.symm))
                            have hap : (old' ++ news').toArray = old'.toArray ++ news'.toArray := by simp
                            simp only [Array.toArray_toList, hap] at r1 r2
                            refine ⟨_, _, _, r1, k2.trans r2, hrun, ?_⟩
                            have := VR.mkOpen (o := 0) (n := n + m) (j := 0) (Ren.put_same ρ nx (⟨w.heap.size, 0, none⟩, grownCap w (n + m) c el')) (by have := grownCap_ge w (n + m) c el'; simp; exact this)
                            simpa using this
                        · rw [if_neg hfr] at h; cases h
                    · rw [if_neg hao] at h; cases h
                · rw [if_neg hel] at h; cases h
              · cases h
          · rw [if_neg h1] at h; cases h
  · cases h
end
end Go.Sx
