/- The evaluator: a drawn region, step by step. -/
import Derived.Test.YtbjncdcfojjacaaGreatSxU
namespace Go.Sx
open Go Go.RowKit

section
variable {E : Env} {P : Program} {call : CallF} {N : Nat} {all : Array Oper} {h0 : Tr AObj} {tm0 : TT} {nx0 : Nat} {ms : List Nat} {recs : List Rec} {tmF : TT} {nxF : Nat}
variable {B : Nat} {ρ0 : Ren} {w0 : World} {d0 : List Deferred} {listed : Array Bool} {a : Act} {w : World}

/-- behind an operation's own step, everything stands again -/
theorem inv_next (g : GoodD E P call N all h0 tm0 nx0 all.toList ms recs tmF nxF) (hcall : CallsOk P call) (hlt : ∀ k o, h0.get k = some o → k < nx0) {i : Nat} {r : Rec} (hr : recs[i]? = some r) (hi : i < listed.size) (hn : listed.getD i false = false)
    (hinv : Inv P N B h0 tm0 nx0 nxF recs ρ0 w0 d0 listed a w) (hmask : ∀ k, r.mask.testBit k = true → listed.getD k false = true)
    {ρ ρ' : Ren} {w' : World} {v' : Value} (hT : TRel N ρ (tmR tm0.get (recs.filter (DR listed))) a.tmps) (hS : Step h0.get (layR h0.get (recs.filter (DR listed))) nx0 nxF ρ0 ρ w0 w)
    (hF : ∀ (i : Nat) (r : Rec), recs[i]? = some r → listed.getD i false = false → ∀ k, r.nx ≤ k → k ≤ r.fin → ρ k = none)
    (hv : VR ρ' r.v v') (hO : ORel P B (layF (layR h0.get (recs.filter (DR listed))) r.delta) ρ' w')
    (hS' : Step (layR h0.get (recs.filter (DR listed))) (layF (layR h0.get (recs.filter (DR listed))) r.delta) r.nx r.fin ρ ρ' w w') :
    Inv P N B h0 tm0 nx0 nxF recs ρ0 w0 d0 (listed.setIfInBounds i true) (a.put r.o.dst v') w' := by
  obtain ⟨f1, f2⟩ := g.filter_set hr hi hn
  have later : ∀ q ∈ (recs.drop (i + 1)).filter (DR listed), ∃ j : Nat, recs[j]? = some q ∧ i < j ∧ q.mask.testBit i = false := by
    intro q hq
    simp only [List.mem_filter] at hq
    obtain ⟨hq, hD⟩ := hq
    obtain ⟨j, hj⟩ := List.getElem?_of_mem hq
    rw [List.getElem?_drop] at hj
    refine ⟨i + 1 + j, hj, by omega, ?_⟩
    have hqi := (g.at_ _ q hj).1
    unfold DR at hD
    rw [hqi] at hD
    cases hc : q.mask.testBit i with
    | false => rfl
    | true => have := hinv.closed _ q hj hD i hc; rw [hn] at this; cases this
  have hlay : layR h0.get (recs.filter (DR (listed.setIfInBounds i true))) = layF (layR h0.get (recs.filter (DR listed))) r.delta := by
    rw [f1, f2, layR_append, layR_append]
    simp only [layR]
    refine layR_past _ _ _ fun q hq k hk => ?_
    obtain ⟨j, hj, hij, hb⟩ := later q hq
    exact g.disj hcall hlt hr hj hij hb k hk
  have htm : tmR tm0.get (recs.filter (DR (listed.setIfInBounds i true))) = fun t => if r.o.dst = some t then some r.v else tmR tm0.get (recs.filter (DR listed)) t := by
    rw [f1, f2, tmR_append, tmR_append]
    simp only [tmR]
    funext t
    by_cases e : r.o.dst = some t
    · rw [if_pos e]
      rw [tmR_other _ _ t]
      · rw [if_pos e]
      · intro q hq hd
        obtain ⟨j, hj, hij, hb⟩ := later q hq
        rcases g.apart j q i r hj hij hr with h | h
        · rw [h] at hb; cases hb
        · exact (Oper.apart_spec h).2.1 t e hd
    · rw [if_neg e]
      exact tmR_congr _ _ _ t (if_neg e)
  have hnx := g.nxs i r hr
  have hfinF : r.fin ≤ nxF := by have := g.nxF.2 r (List.mem_of_getElem? hr); omega
  refine ⟨by rw [Array.size_setIfInBounds]; exact hinv.size, fun j q hj hD k hk => ?_, ?_, ρ', ?_, ?_, ?_, ?_⟩
  · rw [getD_set hi] at hD ⊢
    split
    · rfl
    · by_cases e : j = i
      · subst e; rw [hr] at hj; cases hj; exact hmask k hk
      · rw [if_neg e] at hD; exact hinv.closed j q hj hD k hk
  · rw [← hinv.defers]; cases r.o.dst <;> rfl
  · rw [hlay]; exact hO
  · rw [hlay]; exact hS.within hS' hnx.1 hfinF
  · intro j q hj hD k h1 h2
    rw [getD_set hi] at hD
    split at hD
    · cases hD
    · rename_i e
      have hk := hF j q hj hD k h1 h2
      rcases hS'.ext k with h | ⟨b1, b2, _⟩
      · rw [h]; exact hk
      · exfalso
        rcases Nat.lt_or_gt_of_ne e with hlt' | hgt
        · have := g.apartNx hr hj hlt'; omega
        · have := g.apartNx hj hr hgt; omega
  · rw [htm]
    exact trel_put_fn (hT.mono hS'.le) (fun d hd => g.dst i r d hr hd) hv

/-- what an operation looks at is what it saw when it was evaluated -/
theorem looked_rel (g : GoodD E P call N all h0 tm0 nx0 all.toList ms recs tmF nxF) {i : Nat} {r : Rec} (hr : recs[i]? = some r) (hi : i < listed.size) (hn : listed.getD i false = false) (hclosed : ∀ (i : Nat) (r : Rec), recs[i]? = some r → listed.getD i false = true → ∀ k, r.mask.testBit k = true → listed.getD k false = true)
    (hmask : ∀ k, r.mask.testBit k = true → listed.getD k false = true) {ρ : Ren} (hT : TRel N ρ (tmR tm0.get (recs.filter (DR listed))) a.tmps) : TRel N ρ (looked all r.o r.tm) a.tmps := by
  obtain ⟨f1, f2⟩ := g.filter_set hr hi hn
  refine ⟨hT.1, fun t v hv => hT.2 t v ?_⟩
  unfold looked at hv
  cases hc : (r.o.looksAt all).contains t with
  | false => rw [hc] at hv; cases hv
  | true =>
    rw [hc] at hv
    dsimp only at hv
    have hmem : t ∈ r.o.looksAt all := by simpa using hc
    rw [g.tms i r hr] at hv
    rw [f1, tmR_append, tmR_other, ← tmR_filter]
    · exact hv
    · intro q hq hD hd
      obtain ⟨k, hk⟩ := List.getElem?_of_mem hq
      rw [List.getElem?_take] at hk
      split at hk
      · rename_i hki
        have hqi := (g.at_ k q hk).1
        unfold DR at hD
        rw [hqi] at hD
        rcases g.apart i r k q hr hki hk with h | h
        · have := hmask k h; rw [hD] at this; cases this
        · exact (Oper.apart_spec h).1 t hd hmem
      · cases hk
    · intro q hq hd
      simp only [List.mem_filter] at hq
      obtain ⟨hq, hD⟩ := hq
      obtain ⟨j, hj⟩ := List.getElem?_of_mem hq
      rw [List.getElem?_drop] at hj
      have hqi := (g.at_ _ q hj).1
      unfold DR at hD
      rw [hqi] at hD
      rcases g.apart _ q i r hj (by omega) hr with h | h
      · have := hclosed _ q hj hD i h; rw [hn] at this; cases this
      · exact (Oper.apart_spec h).2.2 t hd hmem

/-- what was seen of a number is what stands there, where nobody else writes it -/
theorem seen_is (g : GoodD E P call N all h0 tm0 nx0 all.toList ms recs tmF nxF) (hcall : CallsOk P call) (hlt : ∀ k o, h0.get k = some o → k < nx0) {i : Nat} {r : Rec} (hr : recs[i]? = some r) (hn : listed.getD i false = false)
    (hclosed : ∀ (i : Nat) (r : Rec), recs[i]? = some r → listed.getD i false = true → ∀ k, r.mask.testBit k = true → listed.getD k false = true)
    (hmask : ∀ k, r.mask.testBit k = true → listed.getD k false = true) (hview : r.view = viewD h0 r.mask (recs.take i)) {id : Nat} {o : AObj}
    (hv : r.view.get id = some o) (hread : ∀ l, r.rd = some l → l.contains id = true) :
    (∀ (b : Nat) (q : Rec), recs[b]? = some q → i < b → listed.getD b false = true → q.mask.testBit i = false → meets q.wr r.rd = false) → layR h0.get (recs.filter (DR listed)) id = some o := by
  intro hcalm
  have hv' : layR h0.get (recs.filter fun q => r.mask.testBit q.i) id = some o := by
    rw [← g.maskPre hr, ← g.viewGet hcall hr, ← hview]; exact hv
  have hsub : recs.filter (fun q => r.mask.testBit q.i) = (recs.filter (DR listed)).filter fun q => r.mask.testBit q.i := by
    rw [List.filter_filter]
    refine List.filter_congr fun q hq => ?_
    cases hb : r.mask.testBit q.i with
    | false => simp
    | true => have := hmask _ hb; unfold DR; rw [this]; rfl
  rw [hsub] at hv'
  rw [layR_filter (fun q => r.mask.testBit q.i), hv']
  intro q hq hb hid
  simp only [List.mem_filter] at hq
  obtain ⟨hq, hD⟩ := hq
  obtain ⟨k, hk, hki⟩ := g.of_mem hq
  unfold DR at hD
  rw [hki] at hD hb
  rcases (did_ids (g.did k q hk) hcall).1 hid with hw | ⟨w1, w2⟩
  · rcases Nat.lt_trichotomy k i with h | h | h
    · obtain ⟨l, e1, e2⟩ := meets_false (g.pair i r k q hr h hk hb).1 hw
      rw [hread l e1] at e2; cases e2
    · rw [h] at hD; rw [hn] at hD; cases hD
    · have hqi : q.mask.testBit i = false := by
        cases hc : q.mask.testBit i with
        | false => rfl
        | true => have := hclosed k q hk hD i hc; rw [hn] at this; cases this
      obtain ⟨l, e1, e2⟩ := meets_false (hcalm k q hk h hD hqi) hw
      rw [hread l e1] at e2; cases e2
  · rcases Nat.lt_trichotomy k i with h | h | h
    · have := g.unseen hcall hlt hk i r hr hb id w1 (by omega)
      rw [hsub, hv'] at this; cases this
    · rw [h] at hD; rw [hn] at hD; cases hD
    · -- a later one's new number is past all that was seen
      have hqi : q.mask.testBit i = false := by
        cases hc : q.mask.testBit i with
        | false => rfl
        | true => have := hclosed k q hk hD i hc; rw [hn] at this; cases this
      have hq' := g.apartNx hk hr h
      have : layR h0.get ((recs.filter (DR listed)).filter fun q => r.mask.testBit q.i) id = none := by
        rw [layR_other]
        · cases hh : h0.get id with
          | none => rfl
          | some o' => have := hlt id o' hh; have := (g.nxs i r hr).1; have := (g.nxs i r hr).2.1; omega
        · intro y hy hyid
          simp only [List.mem_filter] at hy
          obtain ⟨⟨hy, _⟩, hyb⟩ := hy
          obtain ⟨j, hj, rfl⟩ := g.of_mem hy
          have hji := ((g.mask i r hr).2 y.i hyb).1
          have hyf := g.apartNx hr hj hji
          have hrn := (g.nxs i r hr).2.1
          have hyn := (g.nxs _ y hj).2.1
          rcases (did_ids (g.did _ y hj) hcall).1 hyid with hw | ⟨_, _⟩
          · have := (did_wr (g.did _ y hj) hw).2.1; omega
          · omega
      rw [hv'] at this; cases this
end
end Go.Sx
