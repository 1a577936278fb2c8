/- The evaluator: a drawn region, in whatever order. -/
import Derived.Test.YtbjncdcfojjacaaGreatSxT
import Derived.Orders
namespace Go.Sx
open Go Go.RowKit

theorem Step.within {h0 h1 h2 : Hp} {n0 n1 m1 m2 : Nat} {r0 r1 r2 : Ren} {w0 w1 w2 : World} (a : Step h0 h1 n0 n1 r0 r1 w0 w1) (b : Step h1 h2 m1 m2 r1 r2 w1 w2) (hl : n0 ≤ m1) (hu : m2 ≤ n1) : Step h0 h2 n0 n1 r0 r2 w0 w2 where
  next := a.next
  ext k := by
    rcases a.ext k with h | ⟨h1, h2, h3⟩ <;> rcases b.ext k with g | ⟨g1, g2, g3⟩
    · exact .inl (g.trans h)
    · exact .inr ⟨Nat.le_trans hl g1, Nat.lt_of_lt_of_le g2 hu, h ▸ g3⟩
    · exact .inr ⟨h1, h2, h3⟩
    · exact .inr ⟨h1, h2, h3⟩
  os := b.os.trans a.os
  tape := b.tape.trans a.tape
  output := b.output.trans a.output
  size := Nat.le_trans a.size b.size
  keep k hk hn := by
    rw [b.keep k (Nat.lt_of_lt_of_le hk a.size) fun ho => (a.own k ho).elim (fun h => by omega) hn]
    exact a.keep k hk hn
  own k hk := (b.own k hk).elim (fun h => .inl (Nat.le_trans a.size h)) fun h => a.own k h
theorem trel_put_fn {N : Nat} {ρ : Ren} {f : T} {a : Act} {dst : Option Tmp} {v v' : Value} (ht : TRel N ρ f a.tmps) (hd : ∀ d, dst = some d → Nat.blt d N = true) (hv : VR ρ v v') :
    TRel N ρ (fun t => if dst = some t then some v else f t) (a.put dst v').tmps := by
  cases dst with
  | none => exact ⟨ht.1, fun t u hu => by simp at hu; exact ht.2 t u hu⟩
  | some d =>
    have hlt := blt_true (hd d rfl)
    have hsz := ht.1
    refine ⟨by simp only [Act.put, Array.size_setIfInBounds]; exact hsz, fun t u hu => ?_⟩
    by_cases e : t = d
    · subst e
      simp only [if_true, Option.some.injEq] at hu
      subst hu
      refine ⟨v', ?_, hv⟩
      have hlt' : t < a.tmps.size := Nat.lt_of_lt_of_le hlt hsz
      simp [Act.put, hlt']
    · have e' : ¬ (some d = some t) := fun h => e (by cases h; rfl)
      dsimp only at hu
      rw [if_neg e'] at hu
      obtain ⟨x, e1, e2⟩ := ht.2 t u hu
      refine ⟨x, ?_, e2⟩
      rw [← e1]
      simp only [Act.put, Array.getD_eq_getD_getElem?, Array.getElem?_setIfInBounds_ne (Ne.symm e)]
theorem filter_lt {α : Type} {p q : α → Bool} : ∀ (l : List α), (∀ x ∈ l, q x = true → p x = true) → (∃ x ∈ l, p x = true ∧ q x = false) → (l.filter q).length < (l.filter p).length
  | [], _, h => by obtain ⟨x, h, _⟩ := h; cases h
  | y :: l, h, ⟨x, hx, h1, h2⟩ => by
    have le : ∀ (l : List α), (∀ x ∈ l, q x = true → p x = true) → (l.filter q).length ≤ (l.filter p).length := by
      intro l
      induction l with
      | nil => intro _; exact Nat.le_refl _
      | cons z l ih =>
        intro h
        have := ih fun x hx => h x (List.mem_cons_of_mem _ hx)
        cases hq : q z with
        | true => rw [List.filter_cons_of_pos hq, List.filter_cons_of_pos (h z List.mem_cons_self hq)]; simp; exact this
        | false =>
          rw [List.filter_cons_of_neg (by simp [hq])]
          cases hp : p z with
          | true => rw [List.filter_cons_of_pos hp]; simp; omega
          | false => rw [List.filter_cons_of_neg (by simp [hp])]; exact this
    have hr := fun x hx => h x (List.mem_cons_of_mem _ hx)
    cases hx with
    | head =>
      rw [List.filter_cons_of_pos h1, List.filter_cons_of_neg (by simp [h2])]
      have := le l hr
      simp; omega
    | tail _ hx =>
      have ih := filter_lt l hr ⟨x, hx, h1, h2⟩
      cases hq : q y with
      | true => rw [List.filter_cons_of_pos hq, List.filter_cons_of_pos (h y List.mem_cons_self hq)]; simp; exact ih
      | false =>
        rw [List.filter_cons_of_neg (by simp [hq])]
        cases hp : p y with
        | true => rw [List.filter_cons_of_pos hp]; simp; omega
        | false => rw [List.filter_cons_of_neg (by simp [hp])]; exact ih

section
variable {E : Env} {P : Program} {call : CallF} {N : Nat} {all : Array Oper} {h0 : Tr AObj} {tm0 : TT} {nx0 : Nat} {ms : List Nat} {recs : List Rec} {tmF : TT} {nxF : Nat} {before : List Oper}

theorem GoodD.of_mem (g : GoodD E P call N all h0 tm0 nx0 before ms recs tmF nxF) {r : Rec} (h : r ∈ recs) : ∃ i : Nat, recs[i]? = some r ∧ r.i = i := by
  obtain ⟨i, hi⟩ := List.getElem?_of_mem h
  exact ⟨i, hi, (g.at_ i r hi).1⟩
theorem GoodD.apartNx (g : GoodD E P call N all h0 tm0 nx0 before ms recs tmF nxF) {i k : Nat} {r q : Rec} (h : recs[i]? = some r) (hk : recs[k]? = some q) (hlt : k < i) : q.fin < r.nx :=
  (g.nxs i r h).2.2.2 q (List.mem_of_getElem? (i := k) (by rw [List.getElem?_take, if_pos hlt]; exact hk))
theorem GoodD.trans (g : GoodD E P call N all h0 tm0 nx0 before ms recs tmF nxF) {i j k : Nat} {r q : Rec} (h : recs[i]? = some r) (hj : r.mask.testBit j = true) (hq : recs[j]? = some q) (hk : q.mask.testBit k = true) : r.mask.testBit k = true := by
  induction i using Nat.strongRecOn generalizing r j q with
  | _ i ih =>
    obtain ⟨m1, m2⟩ := g.mask i r h
    obtain ⟨_, e, he, hb, h3⟩ := m2 j hj
    obtain ⟨b1, b2, b3⟩ := m1 e he hb
    rcases h3 with rfl | ⟨x, hx, hxj⟩
    · exact b3 q hq k hk
    · exact b3 x hx k (ih e.on b1 hx hxj hq hk)
theorem GoodD.maskPre (g : GoodD E P call N all h0 tm0 nx0 before ms recs tmF nxF) {i : Nat} {r : Rec} (h : recs[i]? = some r) : (recs.take i).filter (fun q => r.mask.testBit q.i) = recs.filter fun q => r.mask.testBit q.i := by
  conv => rhs; rw [← List.take_append_drop i recs, List.filter_append]
  have : (recs.drop i).filter (fun q => r.mask.testBit q.i) = [] := by
    rw [List.filter_eq_nil_iff]
    intro q hq hb
    obtain ⟨j, hj⟩ := List.getElem?_of_mem hq
    rw [List.getElem?_drop] at hj
    have := ((g.mask i r h).2 q.i hb).1
    rw [(g.at_ _ q hj).1] at this
    omega
  rw [this, List.append_nil]
theorem GoodD.idsBig (g : GoodD E P call N all h0 tm0 nx0 before ms recs tmF nxF) (hcall : CallsOk P call) {r : Rec} (h : r ∈ recs) {k : Nat} (hk : idsOf r.delta k) : k < big := by
  obtain ⟨i, hi, _⟩ := g.of_mem h
  have hd := g.did i r hi
  have hx := g.nxs i r hi
  rcases (did_ids hd hcall).1 hk with h | ⟨h1, h2⟩
  · have := (did_wr hd h).2.1; omega
  · rcases hd with ⟨_, _, _, _, _, h6⟩ | ⟨_, _, _, ⟨foot, n, e, _, _, _, _, _, h6⟩ | ⟨foot, f, args, S', _, _, hc, _, _, h6, h7⟩⟩
    · omega
    · have : r.fin ≤ r.nx + 1 := by rw [h6]; cases e <;> simp [Eff.nx]
      omega
    · omega
theorem GoodD.viewGet (g : GoodD E P call N all h0 tm0 nx0 before ms recs tmF nxF) (hcall : CallsOk P call) {i : Nat} {r : Rec} (_h : recs[i]? = some r) (mask : Nat) : (viewD h0 mask (recs.take i)).get = layR h0.get ((recs.take i).filter fun q => mask.testBit q.i) :=
  viewD_get mask _ h0 fun _ hq _ hk => g.idsBig hcall (List.mem_of_mem_take hq) hk
/-- the new numbers of one that is not waited for are not seen -/
theorem GoodD.unseen (g : GoodD E P call N all h0 tm0 nx0 before ms recs tmF nxF) (hcall : CallsOk P call) (hlt : ∀ k o, h0.get k = some o → k < nx0) {k : Nat} {x : Rec} (hx : recs[k]? = some x) : ∀ (i : Nat) (r : Rec), recs[i]? = some r → r.mask.testBit k = false → ∀ id, x.nx ≤ id → id ≤ x.fin → layR h0.get (recs.filter fun q => r.mask.testBit q.i) id = none := by
  intro i
  induction i using Nat.strongRecOn with
  | _ i ih =>
    intro r hr hbit id h1 h2
    rw [layR_other]
    · cases hh : h0.get id with
      | none => rfl
      | some o => have := hlt id o hh; have := (g.nxs k x hx).1; omega
    · intro y hy hid
      simp only [List.mem_filter] at hy
      obtain ⟨hy, hyb⟩ := hy
      obtain ⟨j, hj, rfl⟩ := g.of_mem hy
      have hji := ((g.mask i r hr).2 y.i hyb).1
      have hjk : y.i ≠ k := fun e => by rw [e] at hyb; rw [hyb] at hbit; cases hbit
      rcases (did_ids (g.did _ y hj) hcall).1 hid with hw | ⟨w1, w2⟩
      · obtain ⟨v1, v2, v3, _⟩ := did_wr (g.did _ y hj) hw
        have hyk : y.mask.testBit k = false := by
          cases hc : y.mask.testBit k with
          | false => rfl
          | true => have := g.trans hr hyb hj hc; rw [this] at hbit; cases hbit
        rw [v1, g.viewGet hcall hj, g.maskPre hj, ih y.i hji y hj hyk id h1 h2] at v3
        cases v3
      · rcases Nat.lt_or_gt_of_ne hjk with hlt' | hgt
        · have := g.apartNx hx hj hlt'; omega
        · have := g.apartNx hj hx hgt; omega
theorem GoodD.disj (g : GoodD E P call N all h0 tm0 nx0 before ms recs tmF nxF) (hcall : CallsOk P call) (hlt : ∀ k o, h0.get k = some o → k < nx0) {i b : Nat} {r q : Rec} (hr : recs[i]? = some r) (hq : recs[b]? = some q) (hib : i < b) (hbit : q.mask.testBit i = false) : ∀ k, idsOf r.delta k → ¬ idsOf q.delta k := by
  intro k h1 h2
  have hap := g.apartNx hq hr hib
  have hrn := (g.nxs i r hr).2.1
  rcases (did_ids (g.did i r hr) hcall).1 h1 with hw | ⟨w1, w2⟩
  · have hk := (did_wr (g.did i r hr) hw).2.1
    rcases (did_ids (g.did b q hq) hcall).1 h2 with hv | ⟨v1, v2⟩
    · obtain ⟨l, e1, e2⟩ := meets_false (g.pair b q i r hq hib hr hbit).1 hw
      have := (did_wr (g.did b q hq) hv).2.2.2 l e1
      rw [e2] at this; cases this
    · omega
  · rcases (did_ids (g.did b q hq) hcall).1 h2 with hv | ⟨v1, v2⟩
    · obtain ⟨v1, _, v3, _⟩ := did_wr (g.did b q hq) hv
      rw [v1, g.viewGet hcall hq, g.maskPre hq, g.unseen hcall hlt hr b q hq hbit k (by omega) (by omega)] at v3
      cases v3
    · omega

def DR (listed : Array Bool) (r : Rec) : Bool := listed.getD r.i false
/-- what stands while a drawn region is under way -/
structure Inv (P : Program) (N B : Nat) (h0 : Tr AObj) (tm0 : TT) (nx0 nxF : Nat) (recs : List Rec) (ρ0 : Ren) (w0 : World) (d0 : List Deferred) (listed : Array Bool) (a : Act) (w : World) : Prop where
  size : listed.size = recs.length
  closed : ∀ (i : Nat) (r : Rec), recs[i]? = some r → listed.getD i false = true → ∀ k, r.mask.testBit k = true → listed.getD k false = true
  defers : a.defers = d0
  rel : ∃ ρ, ORel P B (layR h0.get (recs.filter (DR listed))) ρ w ∧ Step h0.get (layR h0.get (recs.filter (DR listed))) nx0 nxF ρ0 ρ w0 w ∧
    (∀ (i : Nat) (r : Rec), recs[i]? = some r → listed.getD i false = false → ∀ k, r.nx ≤ k → k ≤ r.fin → ρ k = none) ∧ TRel N ρ (tmR tm0.get (recs.filter (DR listed))) a.tmps

variable {B : Nat} {ρ0 : Ren} {w0 : World} {d0 : List Deferred} {listed : Array Bool} {a : Act} {w : World}
theorem getD_split {i : Nat} (h : listed.getD i true = false) : i < listed.size ∧ listed.getD i false = false := by
  rw [Array.getD_eq_getD_getElem?] at h ⊢
  cases hx : listed[i]? with
  | none => simp [hx] at h
  | some b => simp [hx] at h ⊢; exact ⟨(Array.getElem?_eq_some_iff.1 hx).1, h⟩
theorem getD_set {i k : Nat} (hi : i < listed.size) : (listed.setIfInBounds i true).getD k false = (if k = i then true else listed.getD k false) := by
  rw [Array.getD_eq_getD_getElem?, Array.getD_eq_getD_getElem?]
  by_cases e : k = i
  · subst e; simp [hi]
  · rw [Array.getElem?_setIfInBounds_ne (Ne.symm e), if_neg e]
/-- those that are done, one more among them -/
theorem GoodD.filter_set (g : GoodD E P call N all h0 tm0 nx0 before ms recs tmF nxF) {i : Nat} {r : Rec} (hr : recs[i]? = some r) (hi : i < listed.size) (hn : listed.getD i false = false) :
    recs.filter (DR listed) = (recs.take i).filter (DR listed) ++ (recs.drop (i + 1)).filter (DR listed) ∧
    recs.filter (DR (listed.setIfInBounds i true)) = (recs.take i).filter (DR listed) ++ r :: (recs.drop (i + 1)).filter (DR listed) := by
  have hsp : recs = recs.take i ++ r :: recs.drop (i + 1) := by
    obtain ⟨hlt, he⟩ := List.getElem?_eq_some_iff.1 hr
    rw [← he, List.getElem_cons_drop, List.take_append_drop]
  have hri := (g.at_ i r hr).1
  have c1 : (recs.take i).filter (DR (listed.setIfInBounds i true)) = (recs.take i).filter (DR listed) := by
    refine List.filter_congr fun q hq => ?_
    obtain ⟨j, hj⟩ := List.getElem?_of_mem hq
    rw [List.getElem?_take] at hj
    split at hj
    · have := (g.at_ j q hj).1
      unfold DR
      rw [getD_set hi, if_neg (by omega)]
    · cases hj
  have c2 : (recs.drop (i + 1)).filter (DR (listed.setIfInBounds i true)) = (recs.drop (i + 1)).filter (DR listed) := by
    refine List.filter_congr fun q hq => ?_
    obtain ⟨j, hj⟩ := List.getElem?_of_mem hq
    rw [List.getElem?_drop] at hj
    have := (g.at_ _ q hj).1
    unfold DR
    rw [getD_set hi, if_neg (by omega)]
  constructor
  · conv => lhs; rw [hsp, List.filter_append]
    rw [List.filter_cons_of_neg (by unfold DR; rw [hri, hn]; simp)]
  · conv => lhs; rw [hsp, List.filter_append]
    rw [List.filter_cons_of_pos (by unfold DR; rw [hri, getD_set hi, if_pos rfl]), c1, c2]
end
end Go.Sx
