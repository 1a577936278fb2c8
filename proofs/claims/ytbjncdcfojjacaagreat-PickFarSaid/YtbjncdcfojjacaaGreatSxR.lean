/- The evaluator: what an operation does to a part of the heap, it does to the whole. -/
import Derived.Test.YtbjncdcfojjacaaGreatSxQ
namespace Go.Sx
open Go Go.RowKit

/-- the objects of a heap, wherever they lie -/
structure ORel (P : Program) (B : Nat) (hp : Hp) (ρ : Ren) (w : World) : Prop where
  base : B ≤ w.heap.size
  obj : ∀ k o, hp k = some o → ObjOk P B ρ w k o
  inj : ∀ k o p k' o' p', hp k = some o → o.own = true → ρ k = some p → hp k' = some o' → o'.own = true → ρ k' = some p' → p.1.block = p'.1.block → k = k'
theorem HRel.orel {P : Program} {B lim nx : Nat} {hp : Hp} {ρ : Ren} {w : World} (h : HRel P B lim hp nx ρ w) : ORel P B hp ρ w := ⟨h.base, h.obj, h.inj⟩
theorem ORel.sub {P : Program} {B : Nat} {G g : Hp} {ρ : Ren} {w : World} (h : ORel P B G ρ w) (hs : ∀ k o, g k = some o → G k = some o) : ORel P B g ρ w :=
  ⟨h.base, fun k o e => h.obj k o (hs k o e), fun k o p k' o' p' a b c d => h.inj k o p k' o' p' (hs _ _ a) b c (hs _ _ d)⟩
theorem ORel.hrel {P : Program} {B lim nx : Nat} {hp : Hp} {ρ : Ren} {w : World} (h : ORel P B hp ρ w) (hf : ∀ k, nx ≤ k → k < lim → ρ k = none) (hl : ∀ k o, hp k = some o → k < nx) : HRel P B lim hp nx ρ w := ⟨h.base, hf, hl, h.obj, h.inj⟩
theorem ObjOk.ren {P : Program} {B : Nat} {ρ : Ren} {w : World} {k : Nat} {o : AObj} (h : ObjOk P B ρ w k o) : ∃ p, ρ k = some p := let ⟨p, h, _⟩ := h; ⟨p, h⟩

theorem merge {P : Program} {B lim : Nat} {G g g' G' : Hp} {nx nx' : Nat} {ρ ρ' : Ren} {w w' : World} (ids : Nat → Prop)
    (hG : ORel P B G ρ w) (hsub : ∀ k o, g k = some o → G k = some o) (hst : Step g g' nx nx' ρ ρ' w w') (hg' : HRel P B lim g' nx' ρ' w')
    (ha : ∀ k, ids k → G' k = g' k) (hb : ∀ k, ¬ ids k → g' k = g k) (hb' : ∀ k, ¬ ids k → G' k = G k) :
    ORel P B G' ρ' w' ∧ Step G G' nx nx' ρ ρ' w w' := by
  have hle := hst.le
  -- what stands outside
  have outer : ∀ k o, ¬ ids k → G k = some o → g k = none → ∀ p, ρ k = some p → o.own = true → ¬ Owned g ρ p.1.block := by
    intro k o hk hGk hgk p hp ho hown
    obtain ⟨j, q, u, h1, h2, h3, h4⟩ := hown
    have := hG.inj j q u k o p (hsub _ _ h1) h2 h3 hGk ho hp h4
    subst this
    rw [hgk] at h1; cases h1
  have ownB : ∀ b, Owned g ρ b → B ≤ b := by
    rintro b ⟨j, q, u, h1, h2, h3, rfl⟩
    exact ((hG.obj j q (hsub _ _ h1)).own_le h2 h3).1
  have keepo : ∀ k o, ¬ ids k → G k = some o → g k = none → ObjOk P B ρ' w' k o := by
    intro k o hk hGk hgk
    refine (hG.obj k o hGk).keep hle fun p hp => ?_
    by_cases ho : o.own = true
    · exact hst.keep _ ((hG.obj k o hGk).own_le ho hp).2 (outer k o hk hGk hgk p hp ho)
    · obtain ⟨q, h1, _, h3⟩ := hG.obj k o hGk
      rw [hp] at h1; cases h1
      cases o with
      | cells c e b => cases b with
        | true => exact absurd rfl ho
        | false =>
          have := hG.base
          exact hst.keep _ (by have := h3.1; omega) fun hown => by have := ownB _ hown; have := h3.1; omega
      | map es c => exact absurd rfl ho
      | iter a b c d => exact absurd rfl ho
  have cases' : ∀ k o, G' k = some o → g' k = some o ∨ (¬ ids k ∧ G k = some o ∧ g k = none) := by
    intro k o h
    by_cases hk : ids k
    · exact .inl ((ha k hk) ▸ h)
    · rw [hb' k hk] at h
      cases hgk : g k with
      | none => exact .inr ⟨hk, h, rfl⟩
      | some o' =>
        have := hsub k o' hgk
        rw [h] at this; cases this
        exact .inl (by rw [hb k hk]; exact hgk)
  have rho : ∀ k o, G k = some o → ∀ p, ρ' k = some p → ρ k = some p := by
    intro k o h p hp
    obtain ⟨q, hq⟩ := (hG.obj k o h).ren
    have := hle k q hq
    rw [hp] at this; cases this; exact hq
  have mixed : ∀ k o p k' o' p', g' k = some o → o.own = true → ρ' k = some p → ¬ ids k' → G k' = some o' → g k' = none → o'.own = true → ρ' k' = some p' → p.1.block ≠ p'.1.block := by
    intro k o p k' o' p' h1 h2 h3 h4 h5 h6 h7 h8 he
    have hp' := rho k' o' h5 p' h8
    have hlt := ((hG.obj k' o' h5).own_le h7 hp').2
    rcases hst.own p.1.block ⟨k, o, p, h1, h2, h3, rfl⟩ with h | h
    · omega
    · rw [he] at h; exact outer k' o' h4 h5 h6 p' hp' h7 h
  refine ⟨⟨Nat.le_trans hG.base hst.size, fun k o h => ?_, fun k o p k' o' p' h1 h2 h3 h4 h5 h6 he => ?_⟩, ⟨hst.next, hst.ext, hst.os, hst.tape, hst.output, hst.size, fun b hb hn => ?_, fun b hb => ?_⟩⟩
  · rcases cases' k o h with h | ⟨h1, h2, h3⟩
    · exact hg'.obj k o h
    · exact keepo k o h1 h2 h3
  · rcases cases' k o h1 with g1 | ⟨a1, a2, a3⟩ <;> rcases cases' k' o' h4 with g2 | ⟨b1, b2, b3⟩
    · exact hg'.inj k o p k' o' p' g1 h2 h3 g2 h5 h6 he
    · exact absurd he (mixed k o p k' o' p' g1 h2 h3 b1 b2 b3 h5 h6)
    · exact absurd he.symm (mixed k' o' p' k o p g2 h5 h6 a1 a2 a3 h2 h3)
    · exact hG.inj k o p k' o' p' a2 h2 (rho k o a2 p h3) b2 h5 (rho k' o' b2 p' h6) he
  · exact hst.keep b hb fun ⟨j, q, u, h1, h2, h3, h4⟩ => hn ⟨j, q, u, hsub _ _ h1, h2, h3, h4⟩
  · obtain ⟨k, o, p, h1, h2, h3, rfl⟩ := hb
    rcases cases' k o h1 with g1 | ⟨a1, a2, a3⟩
    · rcases hst.own p.1.block ⟨k, o, p, g1, h2, h3, rfl⟩ with h | ⟨j, q, u, b1, b2, b3, b4⟩
      · exact .inl h
      · exact .inr ⟨j, q, u, hsub _ _ b1, b2, b3, b4⟩
    · exact .inr ⟨k, o, p, a2, h2, rho k o a2 p h3, rfl⟩

/-! ### what was done, laid over a heap -/
def layF (f : Hp) : List (Nat × Option AObj) → Hp
  | [] => f
  | (k, o) :: l => layF (over f k o) l
def idsOf (l : List (Nat × Option AObj)) (k : Nat) : Prop := k ∈ l.map (·.1)
theorem layF_other : ∀ (l : List (Nat × Option AObj)) (f : Hp) (k : Nat), ¬ idsOf l k → layF f l k = f k
  | [], f, k, _ => rfl
  | (j, o) :: l, f, k, h => by
    simp only [idsOf, List.map_cons, List.mem_cons, not_or] at h
    rw [layF, layF_other l _ k h.2, over_other _ _ h.1]
theorem layF_congr : ∀ (l : List (Nat × Option AObj)) (f g : Hp) (k : Nat), (idsOf l k ∨ f k = g k) → layF f l k = layF g l k
  | [], f, g, k, h => by
    rcases h with h | h
    · simp [idsOf] at h
    · exact h
  | (j, o) :: l, f, g, k, h => by
    refine layF_congr l _ _ k ?_
    by_cases e : k = j
    · subst e; exact .inr (by rw [over_same, over_same])
    · rcases h with h | h
      · simp only [idsOf, List.map_cons, List.mem_cons] at h
        exact .inl (h.resolve_left e)
      · exact .inr (by rw [over_other _ _ e, over_other _ _ e]; exact h)
theorem layF_comm {l m : List (Nat × Option AObj)} (f : Hp) (h : ∀ k, idsOf l k → ¬ idsOf m k) : layF (layF f l) m = layF (layF f m) l := by
  funext k
  by_cases hl : idsOf l k
  · rw [layF_other m _ k (h k hl)]
    exact layF_congr l f (layF f m) k (.inl hl)
  · rw [layF_other l _ k hl]
    exact layF_congr m _ f k (.inr (layF_other l f k hl))
theorem layD_get : ∀ (l : List (Nat × Option AObj)) (h : Tr AObj), (∀ k, idsOf l k → k < big) → (layD h l).get = layF h.get l
  | [], h, _ => rfl
  | (k, o) :: l, h, hb => by
    have hk : k < big := hb k (by simp [idsOf])
    rw [layD, layD_get l _ fun j hj => hb j (by simp only [idsOf, List.map_cons, List.mem_cons]; exact .inr hj), get_put_fn hk]
    rfl
def layR (f : Hp) : List Rec → Hp
  | [] => f
  | r :: l => layR (layF f r.delta) l
theorem layR_append (f : Hp) : ∀ (l m : List Rec), layR f (l ++ m) = layR (layR f l) m
  | [], m => rfl
  | r :: l, m => by simp only [List.cons_append, layR]; exact layR_append _ l m
theorem layR_other : ∀ (l : List Rec) (f : Hp) (k : Nat), (∀ r ∈ l, ¬ idsOf r.delta k) → layR f l k = f k
  | [], f, k, _ => rfl
  | r :: l, f, k, h => by
    rw [layR, layR_other l _ k fun x hx => h x (List.mem_cons_of_mem _ hx), layF_other _ _ _ (h r List.mem_cons_self)]
theorem layR_past (m : List (Nat × Option AObj)) : ∀ (l : List Rec) (f : Hp), (∀ r ∈ l, ∀ k, idsOf m k → ¬ idsOf r.delta k) → layR (layF f m) l = layF (layR f l) m
  | [], f, _ => rfl
  | r :: l, f, h => by
    simp only [layR]
    rw [layF_comm f (h r List.mem_cons_self)]
    exact layR_past m l _ fun x hx => h x (List.mem_cons_of_mem _ hx)
/-- those that leave a number alone may be left out -/
theorem layR_filter (D : Rec → Bool) : ∀ (l : List Rec) (f : Hp) (k : Nat), (∀ r ∈ l, D r = false → ¬ idsOf r.delta k) → layR f l k = layR f (l.filter D) k
  | [], f, k, _ => rfl
  | r :: l, f, k, h => by
    have ih := fun f => layR_filter D l f k fun x hx => h x (List.mem_cons_of_mem _ hx)
    have cong : ∀ (l : List Rec) (f g : Hp), f k = g k → layR f l k = layR g l k := by
      intro l
      induction l with
      | nil => intro f g e; exact e
      | cons x l il => intro f g e; exact il _ _ (layF_congr _ _ _ _ (.inr e))
    cases hD : D r with
    | true => rw [List.filter_cons_of_pos hD]; simp only [layR]; exact ih _
    | false =>
      rw [List.filter_cons_of_neg (by simp [hD])]
      simp only [layR]
      rw [ih]
      exact cong _ _ _ (layF_other _ _ _ (h r List.mem_cons_self hD))
theorem viewD_get (mask : Nat) : ∀ (l : List Rec) (h : Tr AObj), (∀ r ∈ l, ∀ k, idsOf r.delta k → k < big) → (viewD h mask l).get = layR h.get (l.filter fun r => mask.testBit r.i)
  | [], h, _ => rfl
  | r :: l, h, hb => by
    have ih := fun h => viewD_get mask l h fun x hx => hb x (List.mem_cons_of_mem _ hx)
    cases hm : mask.testBit r.i with
    | true => rw [List.filter_cons_of_pos (by simpa using hm)]; simp only [viewD, hm, layR]; rw [ih, layD_get _ _ (hb r List.mem_cons_self)]
    | false => rw [List.filter_cons_of_neg (by simp [hm])]; simp only [viewD, hm]; exact ih _
theorem layAll_get : ∀ (l : List Rec) (h : Tr AObj), (∀ r ∈ l, ∀ k, idsOf r.delta k → k < big) → (layAll h l).get = layR h.get l
  | [], h, _ => rfl
  | r :: l, h, hb => by
    simp only [layAll, layR]
    rw [layAll_get l _ fun x hx => hb x (List.mem_cons_of_mem _ hx), layD_get _ _ (hb r List.mem_cons_self)]

/-! ### the temporaries -/
def tmR (f : T) : List Rec → T
  | [] => f
  | r :: l => tmR (fun t => if r.o.dst = some t then some r.v else f t) l
theorem tmR_append (f : T) : ∀ (l m : List Rec), tmR f (l ++ m) = tmR (tmR f l) m
  | [], m => rfl
  | r :: l, m => by simp only [List.cons_append, tmR]; exact tmR_append _ l m
theorem tmR_congr : ∀ (l : List Rec) (f g : T) (t : Nat), f t = g t → tmR f l t = tmR g l t
  | [], _, _, _, h => h
  | r :: l, f, g, t, h => tmR_congr l _ _ t (by split <;> first | rfl | exact h)
theorem tmR_other : ∀ (l : List Rec) (f : T) (t : Nat), (∀ r ∈ l, r.o.dst ≠ some t) → tmR f l t = f t
  | [], f, t, _ => rfl
  | r :: l, f, t, h => by
    rw [tmR, tmR_other l _ t fun x hx => h x (List.mem_cons_of_mem _ hx), if_neg (h r List.mem_cons_self)]
theorem tmR_filter (D : Rec → Bool) : ∀ (l : List Rec) (f : T) (t : Nat), (∀ r ∈ l, D r = false → r.o.dst ≠ some t) → tmR f l t = tmR f (l.filter D) t
  | [], f, t, _ => rfl
  | r :: l, f, t, h => by
    have ih := fun f => tmR_filter D l f t fun x hx => h x (List.mem_cons_of_mem _ hx)
    cases hD : D r with
    | true => rw [List.filter_cons_of_pos hD]; simp only [tmR]; exact ih _
    | false =>
      rw [List.filter_cons_of_neg (by simp [hD])]
      simp only [tmR]
      rw [ih]
      exact tmR_congr _ _ _ _ (if_neg (h r List.mem_cons_self hD))
end Go.Sx
