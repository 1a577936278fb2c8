/- The evaluator: a drawn region, whole. -/
import Derived.Test.YtbjncdcfojjacaaGreatSxV
namespace Go.Sx
open Go Go.RowKit

theorem Step.wide {hp hp' : Hp} {n0 n m m0 : Nat} {ρ ρ' : Ren} {w w' : World} (h : Step hp hp' n m ρ ρ' w w') (h1 : n0 ≤ n) (h2 : m ≤ m0) : Step hp hp' n0 m0 ρ ρ' w w' :=
  ⟨by have := h.next; omega, fun k => (h.ext k).imp_right fun ⟨a, b, c⟩ => ⟨by omega, by omega, c⟩, h.os, h.tape, h.output, h.size, h.keep, h.own⟩

section
variable {E : Env} {P : Program} {call : CallF} {N : Nat} {all : Array Oper} {h0 : Tr AObj} {tm0 : TT} {nx0 : Nat} {ms : List Nat} {recs : List Rec} {tmF : TT} {nxF : Nat}
variable {B : Nat} {ρ0 : Ren} {w0 : World} {d0 : List Deferred} {listed : Array Bool} {a : Act} {w : World}

/-- what was seen, with the other's writing laid over, is what stands there behind it -/
theorem seen_alt (g : GoodD E P call N all h0 tm0 nx0 all.toList ms recs tmF nxF) (hcall : CallsOk P call) (hlt : ∀ k o, h0.get k = some o → k < nx0) {i : Nat} {r : Rec} (hr : recs[i]? = some r) (hn : listed.getD i false = false)
    (hclosed : ∀ (i : Nat) (r : Rec), recs[i]? = some r → listed.getD i false = true → ∀ k, r.mask.testBit k = true → listed.getD k false = true)
    (hmask : ∀ k, r.mask.testBit k = true → listed.getD k false = true) (hview : r.view = viewD h0 r.mask (recs.take i)) {b0 : Nat} {q0 : Rec} (hb0 : recs[b0]? = some q0) (hib : i < b0) (hD0 : listed.getD b0 false = true) {id : Nat} {o : AObj}
    (hv : layF r.view.get q0.delta id = some o) (hsome : (r.view.get id).isSome = true) (hread : ∀ l, r.rd = some l → l.contains id = true)
    (hcalm : ∀ (b : Nat) (q : Rec), recs[b]? = some q → i < b → b ≠ b0 → listed.getD b false = true → q.mask.testBit i = false → meets q.wr r.rd = false) : layR h0.get (recs.filter (DR listed)) id = some o := by
  have hv' : layR h0.get ((recs.filter fun q => r.mask.testBit q.i) ++ [q0]) id = some o := by
    rw [layR_append]
    simp only [layR]
    rw [← g.maskPre hr, ← g.viewGet hcall hr, ← hview]; exact hv
  have hsplit : (recs.filter (DR listed)).filter (fun q => r.mask.testBit q.i || q.i == b0) = (recs.filter fun q => r.mask.testBit q.i) ++ [q0] := by
    rw [List.filter_filter]
    have hsp : recs = recs.take b0 ++ q0 :: recs.drop (b0 + 1) := by
      obtain ⟨hlt, he⟩ := List.getElem?_eq_some_iff.1 hb0
      rw [← he, List.getElem_cons_drop, List.take_append_drop]
    have hq0 := (g.at_ b0 q0 hb0).1
    have hbit0 : r.mask.testBit b0 = false := by
      cases hc : r.mask.testBit b0 with
      | false => rfl
      | true => have := ((g.mask i r hr).2 b0 hc).1; omega
    have c1 : (recs.take b0).filter (fun q => (r.mask.testBit q.i || q.i == b0) && DR listed q) = (recs.take b0).filter fun q => r.mask.testBit q.i := by
      refine List.filter_congr fun q hq => ?_
      obtain ⟨j, hj⟩ := List.getElem?_of_mem hq
      rw [List.getElem?_take] at hj
      split at hj
      · have hqi := (g.at_ j q hj).1
        have : (q.i == b0) = false := by simp; omega
        rw [this, Bool.or_false]
        cases hc : r.mask.testBit q.i with
        | false => rfl
        | true => unfold DR; rw [hmask _ hc]; rfl
      · cases hj
    have c2 : ∀ q ∈ recs.drop (b0 + 1), q.i ≠ b0 ∧ r.mask.testBit q.i = false := by
      intro q hq
      obtain ⟨j, hj⟩ := List.getElem?_of_mem hq
      rw [List.getElem?_drop] at hj
      have hqi := (g.at_ _ q hj).1
      refine ⟨by omega, ?_⟩
      cases hc : r.mask.testBit q.i with
      | false => rfl
      | true => have := ((g.mask i r hr).2 _ hc).1; omega
    have c3 : (recs.drop (b0 + 1)).filter (fun q => (r.mask.testBit q.i || q.i == b0) && DR listed q) = [] := by
      rw [List.filter_eq_nil_iff]
      intro q hq
      obtain ⟨d1, d2⟩ := c2 q hq
      simp [d1, d2]
    have c4 : (recs.drop (b0 + 1)).filter (fun q => r.mask.testBit q.i) = [] := by
      rw [List.filter_eq_nil_iff]
      intro q hq
      simp [(c2 q hq).2]
    conv => lhs; rw [hsp, List.filter_append]
    conv => rhs; rw [hsp, List.filter_append]
    rw [List.filter_cons_of_pos (by unfold DR; rw [hq0, hD0]; simp), List.filter_cons_of_neg (by rw [hq0, hbit0]; simp), c1, c3, c4]
    simp
  rw [layR_filter (fun q => r.mask.testBit q.i || q.i == b0), hsplit, hv']
  intro q hq hb hid
  simp only [List.mem_filter] at hq
  obtain ⟨hq, hD⟩ := hq
  obtain ⟨k, hk, hki⟩ := g.of_mem hq
  unfold DR at hD
  rw [hki] at hD
  simp only [Bool.or_eq_false_iff] at hb
  rw [hki] at hb
  have hkb0 : k ≠ b0 := by simpa using hb.2
  have hqi : ∀ (h : i < k), q.mask.testBit i = false := fun h => by
    cases hc : q.mask.testBit i with
    | false => rfl
    | true => have := hclosed k q hk hD i hc; rw [hn] at this; cases this
  obtain ⟨o', ho'⟩ := Option.isSome_iff_exists.1 hsome
  rw [hview, g.viewGet hcall hr, g.maskPre hr] at ho'
  rcases (did_ids (g.did k q hk) hcall).1 hid with hw | ⟨w1, w2⟩
  · rcases Nat.lt_trichotomy k i with h | h | h
    · obtain ⟨l, e1, e2⟩ := meets_false (g.pair i r k q hr h hk hb.1).1 hw
      rw [hread l e1] at e2; cases e2
    · rw [h] at hD; rw [hn] at hD; cases hD
    · obtain ⟨l, e1, e2⟩ := meets_false (hcalm k q hk h hkb0 hD (hqi h)) hw
      rw [hread l e1] at e2; cases e2
  · rcases Nat.lt_trichotomy k i with h | h | h
    · have := g.unseen hcall hlt hk i r hr hb.1 id w1 (by omega)
      rw [ho'] at this; cases this
    · rw [h] at hD; rw [hn] at hD; cases hD
    · have hq' := g.apartNx hk hr h
      have : layR h0.get (recs.filter fun q => r.mask.testBit q.i) id = none := by
        rw [layR_other]
        · cases hh : h0.get id with
          | none => rfl
          | some o' => have := hlt id o' hh; have := (g.nxs i r hr).1; have := (g.nxs i r hr).2.1; omega
        · intro y hy hyid
          simp only [List.mem_filter] at hy
          obtain ⟨hy, hyb⟩ := hy
          obtain ⟨j, hj, rfl⟩ := g.of_mem hy
          have hji := ((g.mask i r hr).2 y.i hyb).1
          have hyf := g.apartNx hr hj hji
          have hrn := (g.nxs i r hr).2.1
          have hyn := (g.nxs _ y hj).2.1
          rcases (did_ids (g.did _ y hj) hcall).1 hyid with hw | ⟨_, _⟩
          · have := (did_wr (g.did _ y hj) hw).2.1; omega
          · omega
      rw [ho'] at this; cases this

/-- one operation more, whichever may come next -/
theorem draw_step (g : GoodD E P call N all h0 tm0 nx0 all.toList ms recs tmF nxF) (hcall : CallsOk P call) (hE : EnvOk E P) (hlt : ∀ k o, h0.get k = some o → k < nx0) {Q : Exit → Act → World → Prop} {i : Nat} (hrd : i ∈ Region.ready .any all listed) (hinv : Inv P N B h0 tm0 nx0 nxF recs ρ0 w0 d0 listed a w) :
    wpOp P all Q i (Inv P N B h0 tm0 nx0 nxF recs ρ0 w0 d0 (listed.setIfInBounds i true)) a w := by
  rw [mem_ready] at hrd
  obtain ⟨h1, o, ho, hedges⟩ := hrd
  obtain ⟨hi, hn⟩ := getD_split h1
  obtain ⟨r, hr⟩ : ∃ r, recs[i]? = some r := ⟨recs[i]'(hinv.size ▸ hi), List.getElem?_eq_getElem _⟩
  have hro : o = r.o := by
    have := (g.at_ i r hr).2
    rw [Array.getElem?_toList, ho] at this
    exact Option.some.inj this
  subst hro
  obtain ⟨m1, m2⟩ := g.mask i r hr
  have hmask : ∀ k, r.mask.testBit k = true → listed.getD k false = true := by
    intro k hk
    obtain ⟨_, e, he, hb, h⟩ := m2 k hk
    have hel := hedges e (by simpa using he) hb
    rcases h with rfl | ⟨q, hq, hk'⟩
    · exact hel
    · exact hinv.closed _ q hq hel k hk'
  obtain ⟨ρ, hO, hS, hF, hT⟩ := hinv.rel
  have hlook := looked_rel g hr hi hn hinv.closed hmask hT
  have fin := fun {ρ' w' v'} (hv : VR ρ' r.v v') (hO' : ORel P B (layF (layR h0.get (recs.filter (DR listed))) r.delta) ρ' w') hS' =>
    inv_next (d0 := d0) (ρ0 := ρ0) (w0 := w0) g hcall hlt hr hi hn hinv hmask hT hS hF hv hO' hS'
  have hnx := g.nxs i r hr
  have hfresh : ∀ k, r.nx ≤ k → k < r.fin + 1 → ρ k = none := fun k a b => hF i r hr hn k a (by omega)
  unfold wpOp
  simp only [ho]
  have hd := g.did i r hr
  rcases hd with ⟨d1, d2, d3, d4, d5, d6⟩ | ⟨d1, d2, d3, hd⟩
  · rw [wanted_ok hlook d1]
    simp only [Bool.false_eq_true, if_false]
    have := @fin ρ w undef (by rw [d2]; exact vr_undef ρ) (by rw [d5]; exact hO) (by rw [d5, d6]; exact Step.refl _ _ _ _)
    exact this
  · rw [wanted_ok hlook d1]
    simp only [if_true]
    refine .inl ?_
    -- ids that are seen lie below
    have hseenlt : ∀ k ob, r.view.get k = some ob → k < r.nx := by
      intro k ob hk
      rw [d2, g.viewGet hcall hr, g.maskPre hr] at hk
      by_cases hlt' : k < r.nx
      · exact hlt'
      · exfalso
        rw [layR_other] at hk
        · have := hlt k ob hk; omega
        · intro y hy hyid
          simp only [List.mem_filter] at hy
          obtain ⟨hy, hyb⟩ := hy
          obtain ⟨j, hj, rfl⟩ := g.of_mem hy
          have hyf := g.apartNx hr hj ((g.mask i r hr).2 y.i hyb).1
          have hyn := (g.nxs _ y hj).2.1
          rcases (did_ids (g.did _ y hj) hcall).1 hyid with hw | ⟨_, _⟩
          · have := (did_wr (g.did _ y hj) hw).2.1; omega
          · omega
    rcases hd with ⟨foot, n, e, c1, c2, c3, c4, c5, c6⟩ | ⟨foot, f, args, S', c1, c2, c3, c4, c5, c6, c7⟩
    · -- an operation of the model's own
      have run : ∀ (gp : Hp) (n : ANext) (e : Eff), (∀ k ob, gp k = some ob → layR h0.get (recs.filter (DR listed)) k = some ob) → (∀ k ob, gp k = some ob → k < r.nx) → opA E P (looked all r.o r.tm) gp r.nx r.o = some (n, e) →
          (n = .value r.v ∨ (n = .skip ∧ r.v = undef)) → r.delta = effD e r.nx → e.nx r.nx ≤ r.fin → r.o.wp P a w (Inv P N B h0 tm0 nx0 nxF recs ρ0 w0 d0 (listed.setIfInBounds i true)) Q := by
        intro gp n e hsub hgl hop hnv hdel hfin
        have hH : HRel P B (r.fin + 1) gp r.nx ρ w := (hO.sub hsub).hrel hfresh hgl
        obtain ⟨ρ', w', r1, r2, r3⟩ := opA_ok hE hH (by omega) hlook hop
        obtain ⟨k1, k2⟩ := merge (G := layR h0.get (recs.filter (DR listed))) (G' := layF (layR h0.get (recs.filter (DR listed))) r.delta) (idsOf r.delta) hO hsub r2 r1
          (fun k hk => by rw [hdel] at hk ⊢; rw [effD_lay, ← effD_lay e r.nx gp, ← effD_lay e r.nx _]; exact layF_congr _ _ _ _ (.inl hk))
          (fun k hk => by rw [hdel] at hk; rw [← effD_lay]; exact layF_other _ _ _ hk)
          (fun k hk => layF_other _ _ _ hk)
        have k2' := k2.wide (Nat.le_refl _) hfin
        unfold Oper.wp
        rcases hnv with rfl | ⟨rfl, hu⟩
        · obtain ⟨v', q1, q2⟩ := r3
          rw [q1]
          exact fin q2 k1 k2'
        · have r3 : (execOp a.eval r.o).run P w = .ok .skip w' := r3
          rw [r3]
          exact fin (v' := undef) (by rw [hu]; exact vr_undef ρ') k1 k2'
      -- does one that may write what it reads stand behind it already?
      by_cases halt : ∃ b0 q0, recs[b0]? = some q0 ∧ i < b0 ∧ listed.getD b0 false = true ∧ q0.mask.testBit i = false ∧ meets q0.wr r.rd = true
      · obtain ⟨b0, q0, hq0, hib, hD0, hm0, hmeet⟩ := halt
        obtain ⟨_, hp2⟩ := g.pair b0 q0 i r hq0 hib hr hm0
        rcases hp2 with h | ⟨ha1, foot', ha2, ha3, ha4, ha5⟩
        · rw [h] at hmeet; cases hmeet
        · rw [c1] at ha2; cases ha2
          refine run _ _ _ (fun k ob hk => ?_) (fun k ob hk => ?_) ha5 (.inl rfl) ha4 hnx.2.1
          · unfold behind at hk
            cases hf : foot.contains k && (r.view.get k).isSome with
            | false => rw [hf] at hk; cases hk
            | true =>
              rw [hf] at hk
              simp only [Bool.and_eq_true] at hf
              dsimp only at hk
              rw [layD_get _ _ fun j hj => g.idsBig hcall (List.mem_of_getElem? hq0) hj] at hk
              refine seen_alt g hcall hlt hr hn hinv.closed hmask d2 hq0 hib hD0 hk hf.2 (fun l e => by rw [c1] at e; cases e; exact hf.1) fun b q hb hib' hne hDb hbi => ?_
              obtain ⟨_, hp⟩ := g.pair b q i r hb hib' hr hbi
              rcases hp with hp | ⟨hp, _⟩
              · exact hp
              · rw [ha1] at hp; simp only [Option.some.injEq, Prod.mk.injEq] at hp; exact absurd hp.1.symm hne
          · unfold behind at hk
            cases hf : foot.contains k && (r.view.get k).isSome with
            | false => rw [hf] at hk; cases hk
            | true =>
              simp only [Bool.and_eq_true] at hf
              obtain ⟨ob', h'⟩ := Option.isSome_iff_exists.1 hf.2
              exact hseenlt k ob' h'
      · refine run _ _ _ (fun k ob hk => ?_) (fun k ob hk => ?_) c2 c3 c5 (Nat.le_of_eq c6.symm)
        · unfold within at hk
          cases hf : foot.contains k with
          | false => rw [hf] at hk; cases hk
          | true =>
            rw [hf] at hk
            refine seen_is g hcall hlt hr hn hinv.closed hmask d2 hk (fun l e => by rw [c1] at e; cases e; exact hf) fun b q hb hib' hDb hbi => ?_
            cases hm : meets q.wr r.rd with
            | false => rfl
            | true => exact absurd ⟨b, q, hb, hib', hDb, hbi, hm⟩ halt
        · unfold within at hk
          cases hf : foot.contains k with
          | false => rw [hf] at hk; cases hk
          | true => rw [hf] at hk; exact hseenlt k ob hk
    · -- a call
      have hsub : ∀ k ob, r.view.get k = some ob → layR h0.get (recs.filter (DR listed)) k = some ob := by
        intro k ob hk
        refine seen_is g hcall hlt hr hn hinv.closed hmask d2 hk (fun l e => by rw [c1] at e; cases e) fun b q hb hib' hDb hbi => ?_
        obtain ⟨_, hp⟩ := g.pair b q i r hb hib' hr hbi
        rcases hp with hp | ⟨_, foot', ha2, _⟩
        · exact hp
        · rw [c1] at ha2; cases ha2
      have hwithin : ∀ k ob, within foot r.view k = some ob → r.view.get k = some ob := by
        intro k ob hk
        unfold within at hk
        cases hf : foot.contains k with
        | false => rw [hf] at hk; cases hk
        | true => rw [hf] at hk; exact hk
      have hH : HRel P B (r.fin + 1) (within foot r.view) r.nx ρ w := (hO.sub fun k ob hk => hsub k ob (hwithin k ob hk)).hrel hfresh fun k ob hk => hseenlt k ob (hwithin k ob hk)
      have hHv : HRel P B (r.fin + 1) r.view.get r.nx ρ w := (hO.sub hsub).hrel hfresh hseenlt
      obtain ⟨ρ1, w1, r1, r2, args', r3, r4⟩ := opA_ok hE hH (by omega) hlook c2
      obtain ⟨cf, cc⟩ := hcall f args _ _ _ c3
      -- the operation itself did nothing
      have hsame1 : ORel P B (layR h0.get (recs.filter (DR listed))) ρ1 w1 ∧ Step (layR h0.get (recs.filter (DR listed))) (layR h0.get (recs.filter (DR listed))) r.nx r.nx ρ ρ1 w w1 :=
        merge (fun _ => False) hO (fun k ob hk => hsub k ob (hwithin k ob hk)) r2 r1 (fun _ h => h.elim) (fun _ _ => rfl) (fun _ _ => rfl)
      have hfresh1 : ∀ k, r.nx ≤ k → k < r.fin + 1 → ρ1 k = none := fun k a b => by
        rcases r2.ext k with h | ⟨_, h, _⟩
        · rw [h]; exact hfresh k a b
        · exact absurd h (Nat.not_lt.2 a)
      have hHv1 : HRel P B (r.fin + 1) r.view.get r.nx ρ1 w1 := (hsame1.1.sub hsub).hrel hfresh1 hseenlt
      have hcallr := cc B (r.fin + 1) ρ1 w1 args'.toList (by rw [c6]; exact Nat.lt_succ_self _) hHv1 r4
      unfold Oper.wp
      rw [r3]
      refine hcallr.mono ?_
      rintro en w2 ⟨ρ2, ⟨hH2, hS2⟩, hen⟩
      cases en with
      | panicked c => exact hen.elim
      | outgrown => exact hen.elim
      | returned v' =>
        have hle : r.nx ≤ S'.next := cf.next
        have hids : ∀ k, idsOf r.delta k ↔ k ∈ S'.wr ∨ (r.nx ≤ k ∧ k < S'.next) := fun k => by rw [did_ids (g.did i r hr) hcall, c4, c6]
        obtain ⟨k1, k2⟩ := merge (G := layR h0.get (recs.filter (DR listed))) (G' := layF (layR h0.get (recs.filter (DR listed))) r.delta) (idsOf r.delta) hsame1.1 hsub hS2 hH2
          (fun k hk => by
            rw [c5, layF_append]
            by_cases hnew : r.nx ≤ k ∧ k < S'.next
            · exact newsD_val _ _ _ _ _ hnew.1 (by omega)
            · rw [layF_other _ _ _ (by rw [newsD_ids]; omega)]
              exact mapD_val _ _ _ _ (((hids k).1 hk).resolve_right hnew))
          (fun k hk => by
            rw [hids] at hk
            simp only [not_or, not_and, Nat.not_lt] at hk
            by_cases hkn : k < r.nx
            · exact cf.keep (Nat.le_refl _) k hkn hk.1
            · have h1 : S'.heap.get k = none := by
                cases hx : S'.heap.get k with
                | none => rfl
                | some ob => have := hH2.lt k ob hx; have := hk.2 (by omega); omega
              have h2 : r.view.get k = none := by
                cases hx : r.view.get k with
                | none => rfl
                | some ob => have := hseenlt k ob hx; omega
              show S'.heap.get k = r.view.get k
              rw [h1, h2])
          (fun k hk => layF_other _ _ _ hk)
        have hSS := (hsame1.2.trans k2)
        exact fin hen k1 (by rw [c6]; exact hSS)
end
end Go.Sx
