/- The evaluator: the heap's relation behind each effect. -/
import Derived.Test.YtbjncdcfojjacaaGreatSxC
namespace Go.Sx
open Go Go.RowKit

def over (hp : Hp) (k : Nat) (o : Option AObj) : Hp := fun i => if i = k then o else hp i
theorem over_same (hp : Hp) (k : Nat) (o : Option AObj) : over hp k o k = o := if_pos rfl
theorem over_other (hp : Hp) {k i : Nat} (o : Option AObj) (h : i ≠ k) : over hp k o i = hp i := if_neg h
def Eff.hp (e : Eff) (hp : Hp) (nx : Nat) : Hp :=
  match e with
  | .none => hp
  | .new o => over hp nx (some o)
  | .upd k o => over hp k (some o)
  | .move k o => over (over hp k Option.none) nx (some o)
def Eff.nx (e : Eff) (nx : Nat) : Nat :=
  match e with
  | .none => nx
  | .upd _ _ => nx
  | _ => nx + 1
def Ren.put (ρ : Ren) (k : Nat) (p : Addr × Nat) : Ren := fun i => if i = k then some p else ρ i
theorem Ren.put_same (ρ : Ren) (k : Nat) (p : Addr × Nat) : ρ.put k p k = some p := if_pos rfl
theorem Ren.put_other (ρ : Ren) {k i : Nat} (p : Addr × Nat) (h : i ≠ k) : ρ.put k p i = ρ i := if_neg h
theorem Ren.le_put {ρ : Ren} {k : Nat} (p : Addr × Nat) (h : ρ k = none) : ρ.le (ρ.put k p) := fun i q e => by
  unfold Ren.put
  split
  · rename_i hk; subst hk; rw [h] at e; cases e
  · exact e

/-- w' is w, but for what was drawn -/
structure Alike0 (w w' : World) : Prop where
  heap : w'.heap = w.heap
  os : w'.os = w.os
  tape : w'.tape = w.tape
  output : w'.output = w.output
theorem Alike0.refl (w : World) : Alike0 w w := ⟨rfl, rfl, rfl, rfl⟩
theorem Alike0.drew (w : World) : Alike0 w w.drew := ⟨rfl, rfl, rfl, rfl⟩

section
variable {P : Program} {B lim : Nat} {hp : Hp} {nx : Nat} {ρ : Ren} {w w' : World}
theorem HRel.owned_of (hr : HRel P B lim hp nx ρ w) {b : Nat} (h : Owned hp ρ b) : B ≤ b ∧ b < w.heap.size := by
  obtain ⟨k, o, p, h1, h2, h3, rfl⟩ := h
  exact (hr.obj k o h1).own_le h2 h3
/-- a block that belongs to nobody else keeps everybody else -/
theorem HRel.obj_keep (hr : HRel P B lim hp nx ρ w) {ρ' : Ren} (hle : ρ.le ρ') {k : Nat} {o : AObj} (ho : hp k = some o)
    (hb : ∀ b, b < w.heap.size → ((∃ p, ρ k = some p ∧ p.1.block = b) → w'.heap[b]? = w.heap[b]?)) : ObjOk P B ρ' w' k o := by
  refine (hr.obj k o ho).keep hle fun p hp' => ?_
  by_cases hown : o.own = true
  · exact hb _ ((hr.obj k o ho).own_le hown hp').2 ⟨p, hp', rfl⟩
  · obtain ⟨q, h1, _, h3⟩ := hr.obj k o ho
    rw [hp'] at h1; cases h1
    cases o with
    | cells c e b => cases b with
      | true => exact absurd rfl hown
      | false => exact hb _ (Nat.lt_of_lt_of_le h3.1 hr.base) ⟨p, hp', rfl⟩
    | map es c => exact absurd rfl hown
    | iter a b c d => exact absurd rfl hown
/-- a block that is no own one's is not the own one's -/
theorem HRel.ne_block (hr : HRel P B lim hp nx ρ w) {k k' : Nat} {o o' : AObj} {p p' : Addr × Nat} (h1 : hp k = some o) (h2 : o.own = true) (h3 : ρ k = some p) (g1 : hp k' = some o') (g3 : ρ k' = some p') (hk : k ≠ k') : p'.1.block ≠ p.1.block := by
  intro e
  by_cases hown : o'.own = true
  · exact hk (hr.inj k o p k' o' p' h1 h2 h3 g1 hown g3 e.symm)
  · have hB := ((hr.obj k o h1).own_le h2 h3).1
    obtain ⟨q, q1, _, q3⟩ := hr.obj k' o' g1
    rw [g3] at q1; cases q1
    cases o' with
    | cells c e' b => cases b with
      | true => exact absurd rfl hown
      | false => have := q3.1; omega
    | map es c => exact absurd rfl hown
    | iter a b c d => exact absurd rfl hown

theorem rel_none (hr : HRel P B lim hp nx ρ w) (ha : Alike0 w w') : HRel P B lim hp nx ρ w' ∧ Step hp hp nx nx ρ ρ w w' :=
  ⟨⟨by rw [ha.heap]; exact hr.base, hr.fresh, hr.lt, fun k o h => (hr.obj k o h).keep (Ren.le_refl ρ) fun p _ => by rw [ha.heap], hr.inj⟩,
   ⟨Nat.le_refl _, fun _ => .inl rfl, ha.os, ha.tape, ha.output, by rw [ha.heap]; exact Nat.le_refl _, fun b _ _ => by rw [ha.heap], fun b h => .inr h⟩⟩
theorem rel_new (hr : HRel P B lim hp nx ρ w) (hl : nx < lim) {obj : Obj} {o : AObj} {c : Nat} (hw : w'.heap = w.heap.push obj) (h1 : w'.os = w.os) (h2 : w'.tape = w.tape) (h3 : w'.output = w.output)
    (ho : ∀ ρ', ρ.le ρ' → ρ' nx = some (⟨w.heap.size, 0, none⟩, c) → ObjOk P B ρ' w' nx o) :
    HRel P B lim (over hp nx (some o)) (nx + 1) (ρ.put nx (⟨w.heap.size, 0, none⟩, c)) w' ∧
    Step hp (over hp nx (some o)) nx (nx + 1) ρ (ρ.put nx (⟨w.heap.size, 0, none⟩, c)) w w' := by
  have hf := hr.fresh nx (Nat.le_refl _) hl
  have hle := Ren.le_put (⟨w.heap.size, 0, none⟩, c) hf
  have hsz : w'.heap.size = w.heap.size + 1 := by rw [hw]; simp
  have hkeep : ∀ b, b < w.heap.size → w'.heap[b]? = w.heap[b]? := fun b hb => by rw [hw, Array.getElem?_push, if_neg (by omega)]
  refine ⟨⟨by have := hr.base; omega, fun k g1 g2 => ?_, fun k q hq => ?_, fun k q hq => ?_, fun k q p k' q' p' a1 a2 a3 b1 b2 b3 hbl => ?_⟩, ⟨by omega, fun k => ?_, h1, h2, h3, by omega, fun b hb _ => hkeep b hb, fun b hb => ?_⟩⟩
  · rw [Ren.put_other _ _ (by omega)]; exact hr.fresh k (by omega) g2
  · by_cases e : k = nx
    · omega
    · rw [over_other _ _ e] at hq; have := hr.lt k q hq; omega
  · by_cases e : k = nx
    · subst e; rw [over_same] at hq; cases hq; exact ho _ hle (Ren.put_same _ _ _)
    · rw [over_other _ _ e] at hq; exact hr.obj_keep hle hq fun b hb _ => hkeep b hb
  · by_cases e : k = nx <;> by_cases e' : k' = nx
    · rw [e, e']
    · subst e
      rw [Ren.put_same] at a3; cases a3
      rw [over_other _ _ e'] at b1; rw [Ren.put_other _ _ e'] at b3
      have := ((hr.obj k' q' b1).own_le b2 b3).2
      dsimp only at hbl; omega
    · subst e'
      rw [Ren.put_same] at b3; cases b3
      rw [over_other _ _ e] at a1; rw [Ren.put_other _ _ e] at a3
      have := ((hr.obj k q a1).own_le a2 a3).2
      dsimp only at hbl; omega
    · rw [over_other _ _ e] at a1; rw [Ren.put_other _ _ e] at a3
      rw [over_other _ _ e'] at b1; rw [Ren.put_other _ _ e'] at b3
      exact hr.inj k q p k' q' p' a1 a2 a3 b1 b2 b3 hbl
  · by_cases e : k = nx
    · subst e; exact .inr ⟨Nat.le_refl _, by omega, hf⟩
    · exact .inl (Ren.put_other _ _ e)
  · obtain ⟨k, q, p, a1, a2, a3, rfl⟩ := hb
    by_cases e : k = nx
    · subst e; rw [Ren.put_same] at a3; cases a3; exact .inl (Nat.le_refl _)
    · rw [over_other _ _ e] at a1; rw [Ren.put_other _ _ e] at a3
      exact .inr ⟨k, q, p, a1, a2, a3, rfl⟩
theorem rel_upd (hr : HRel P B lim hp nx ρ w) {k : Nat} {o0 o : AObj} {p : Addr × Nat} (h0 : hp k = some o0) (hown0 : o0.own = true) (hp0 : ρ k = some p)
    (hs : w'.heap.size = w.heap.size) (hw : ∀ b, b ≠ p.1.block → w'.heap[b]? = w.heap[b]?) (h1 : w'.os = w.os) (h2 : w'.tape = w.tape) (h3 : w'.output = w.output)
    (ho : ObjOk P B ρ w' k o) :
    HRel P B lim (over hp k (some o)) nx ρ w' ∧ Step hp (over hp k (some o)) nx nx ρ ρ w w' := by
  refine ⟨⟨by rw [hs]; exact hr.base, hr.fresh, fun i q hq => ?_, fun i q hq => ?_, fun i q u i' q' u' a1 a2 a3 b1 b2 b3 hbl => ?_⟩, ⟨Nat.le_refl _, fun _ => .inl rfl, h1, h2, h3, by omega, fun b hb hn => ?_, fun b hb => ?_⟩⟩
  · by_cases e : i = k
    · subst e; exact hr.lt i o0 h0
    · rw [over_other _ _ e] at hq; exact hr.lt i q hq
  · by_cases e : i = k
    · subst e; rw [over_same] at hq; cases hq; exact ho
    · rw [over_other _ _ e] at hq
      exact hr.obj_keep (Ren.le_refl ρ) hq fun b hb ⟨u, hu, hub⟩ => hw b (by rw [← hub]; exact hr.ne_block h0 hown0 hp0 hq hu (Ne.symm e))
  · by_cases e : i = k <;> by_cases e' : i' = k
    · rw [e, e']
    · subst e
      rw [over_other _ _ e'] at b1
      rw [hp0] at a3; cases a3
      exact absurd hbl (Ne.symm (hr.ne_block h0 hown0 hp0 b1 b3 (Ne.symm e')))
    · subst e'
      rw [over_other _ _ e] at a1
      rw [hp0] at b3; cases b3
      exact absurd hbl (hr.ne_block h0 hown0 hp0 a1 a3 (Ne.symm e))
    · rw [over_other _ _ e] at a1
      rw [over_other _ _ e'] at b1
      exact hr.inj i q u i' q' u' a1 a2 a3 b1 b2 b3 hbl
  · exact hw b fun e => hn ⟨k, o0, p, h0, hown0, hp0, e.symm⟩
  · obtain ⟨i, q, u, a1, a2, a3, rfl⟩ := hb
    by_cases e : i = k
    · subst e; rw [hp0] at a3; cases a3; exact .inr ⟨i, o0, p, h0, hown0, hp0, rfl⟩
    · rw [over_other _ _ e] at a1; exact .inr ⟨i, q, u, a1, a2, a3, rfl⟩
theorem rel_kill (hr : HRel P B lim hp nx ρ w) (k : Nat) : HRel P B lim (over hp k none) nx ρ w ∧ Step hp (over hp k none) nx nx ρ ρ w w := by
  have sub : ∀ i q, over hp k none i = some q → hp i = some q := fun i q h => by
    by_cases e : i = k
    · subst e; rw [over_same] at h; cases h
    · rwa [over_other _ _ e] at h
  exact ⟨⟨hr.base, hr.fresh, fun i q h => hr.lt i q (sub i q h), fun i q h => hr.obj i q (sub i q h), fun i q u i' q' u' a1 a2 a3 b1 b2 b3 => hr.inj i q u i' q' u' (sub _ _ a1) a2 a3 (sub _ _ b1) b2 b3⟩,
    ⟨Nat.le_refl _, fun _ => .inl rfl, rfl, rfl, rfl, Nat.le_refl _, fun _ _ _ => rfl, fun b ⟨i, q, u, a1, a2, a3, a4⟩ => .inr ⟨i, q, u, sub _ _ a1, a2, a3, a4⟩⟩⟩
/-- the row moves to a new number, in its place -/
theorem rel_move (hr : HRel P B lim hp nx ρ w) (hl : nx < lim) {k : Nat} {o0 o : AObj} {p p' : Addr × Nat} (h0 : hp k = some o0) (hown0 : o0.own = true) (hp0 : ρ k = some p) (hb : p'.1.block = p.1.block)
    (hs : w'.heap.size = w.heap.size) (hw : ∀ b, b ≠ p.1.block → w'.heap[b]? = w.heap[b]?) (h1 : w'.os = w.os) (h2 : w'.tape = w.tape) (h3 : w'.output = w.output)
    (ho : ∀ ρ', ρ.le ρ' → ρ' nx = some p' → ObjOk P B ρ' w' nx o) :
    HRel P B lim (over (over hp k none) nx (some o)) (nx + 1) (ρ.put nx p') w' ∧
    Step hp (over (over hp k none) nx (some o)) nx (nx + 1) ρ (ρ.put nx p') w w' := by
  have hf := hr.fresh nx (Nat.le_refl _) hl
  have hle := Ren.le_put p' hf
  have hk : k ≠ nx := by have := hr.lt k o0 h0; omega
  have sub : ∀ i q, i ≠ nx → over (over hp k none) nx (some o) i = some q → i ≠ k ∧ hp i = some q := fun i q e h => by
    rw [over_other _ _ e] at h
    by_cases e' : i = k
    · subst e'; rw [over_same] at h; cases h
    · rw [over_other _ _ e'] at h; exact ⟨e', h⟩
  refine ⟨⟨by rw [hs]; exact hr.base, fun i g1 g2 => ?_, fun i q hq => ?_, fun i q hq => ?_, fun i q u i' q' u' a1 a2 a3 b1 b2 b3 hbl => ?_⟩, ⟨by omega, fun i => ?_, h1, h2, h3, by omega, fun b hb' hn => ?_, fun b hb' => ?_⟩⟩
  · rw [Ren.put_other _ _ (by omega)]; exact hr.fresh i (by omega) g2
  · by_cases e : i = nx
    · omega
    · have := hr.lt i q (sub i q e hq).2; omega
  · by_cases e : i = nx
    · subst e; rw [over_same] at hq; cases hq; exact ho _ hle (Ren.put_same _ _ _)
    · obtain ⟨e', hq⟩ := sub i q e hq
      exact hr.obj_keep hle hq fun b hb ⟨u, hu, hub⟩ => hw b (by rw [← hub]; exact hr.ne_block h0 hown0 hp0 hq hu (Ne.symm e'))
  · by_cases e : i = nx <;> by_cases e' : i' = nx
    · rw [e, e']
    · subst e
      obtain ⟨g, b1⟩ := sub i' q' e' b1
      rw [Ren.put_same] at a3; cases a3
      rw [Ren.put_other _ _ e'] at b3
      exact absurd (hb.symm.trans hbl).symm (hr.ne_block h0 hown0 hp0 b1 b3 (Ne.symm g))
    · subst e'
      obtain ⟨g, a1⟩ := sub i q e a1
      rw [Ren.put_same] at b3; cases b3
      rw [Ren.put_other _ _ e] at a3
      exact absurd (hbl.trans hb) (hr.ne_block h0 hown0 hp0 a1 a3 (Ne.symm g))
    · obtain ⟨_, a1⟩ := sub i q e a1
      obtain ⟨_, b1⟩ := sub i' q' e' b1
      rw [Ren.put_other _ _ e] at a3
      rw [Ren.put_other _ _ e'] at b3
      exact hr.inj i q u i' q' u' a1 a2 a3 b1 b2 b3 hbl
  · by_cases e : i = nx
    · subst e; exact .inr ⟨Nat.le_refl _, by omega, hf⟩
    · exact .inl (Ren.put_other _ _ e)
  · exact hw b fun e => hn ⟨k, o0, p, h0, hown0, hp0, e.symm⟩
  · obtain ⟨i, q, u, a1, a2, a3, rfl⟩ := hb'
    by_cases e : i = nx
    · subst e; rw [Ren.put_same] at a3; cases a3; exact .inr ⟨k, o0, p, h0, hown0, hp0, hb.symm⟩
    · obtain ⟨_, a1⟩ := sub i q e a1
      rw [Ren.put_other _ _ e] at a3
      exact .inr ⟨i, q, u, a1, a2, a3, rfl⟩
end

/-! ### readings and stores -/
theorem add_mk (b o n : Nat) : (⟨b, o, none⟩ : Addr).add n = ⟨b, o + n, none⟩ := by unfold Addr.add; split <;> simp_all
theorem cell_of_heap {w : World} {b : Nat} {cur : Array Value} {e : TypeId} {f : Nat × Nat} (h : w.heap[b]? = some (.cells cur e f)) (i : Nat) : w.cell? ⟨b, i, none⟩ = cur[i]? := by simp [World.cell?, h]

section
variable {B lim : Nat} {hp : Hp} {nx : Nat} {ρ : Ren} {w : World} {P : Program}
/-- cells that the evaluator knows -/
theorem known_cells (hr : HRel P B lim hp nx ρ w) {k : Nat} {c : List Value} {e : TypeId} {b : Bool} (h : hp k = some (.cells c e b)) {p : Addr × Nat} (hp0 : ρ k = some p) :
    ∀ i v, c[i]? = some v → ∃ v', w.cell? ⟨p.1.block, p.1.off + i, none⟩ = some v' ∧ VR ρ v v' := by
  obtain ⟨q, h1, h2, h3⟩ := hr.obj k _ h
  rw [hp0] at h1; cases h1
  intro i v hv
  cases b with
  | true =>
    obtain ⟨_, cur, g2, g3, g4, _⟩ := h3
    obtain ⟨v', e1, e2⟩ := g4 i v hv
    exact ⟨v', by rw [cell_of_heap g2]; exact e1, e2⟩
  | false => exact h3.2 i v hv
theorem list_of {ρ : Ren} {q : Nat → Option Value} : ∀ (l : List Value), (∀ i v, l[i]? = some v → ∃ v', q i = some v' ∧ VR ρ v v') → ∃ l', All2 (VR ρ) l l' ∧ ∀ j u, l'[j]? = some u → q j = some u
  | [], _ => ⟨[], trivial, fun j u h => by simp at h⟩
  | x :: xs, h => by
    obtain ⟨x', h1, h2⟩ := h 0 x rfl
    obtain ⟨l', g1, g2⟩ := list_of (q := fun i => q (i + 1)) xs fun i v hv => h (i + 1) v (by simpa using hv)
    refine ⟨x' :: l', ⟨h2, g1⟩, fun j u hj => ?_⟩
    cases j with
    | zero => simp at hj; subst hj; exact h1
    | succ j => exact g2 j u (by simpa using hj)
theorem hread_ok (hr : HRel P B lim hp nx ρ w) {a : Addr} {n : Nat} {l : List Value} (h : hread hp a n = some l) {p : Addr × Nat} (hp0 : ρ a.block = some p) :
    ∃ l', All2 (VR ρ) l l' ∧ l'.length = n ∧ ∀ j u, l'[j]? = some u → w.cell? ((⟨p.1.block, p.1.off + a.off, none⟩ : Addr).add j) = some u := by
  unfold hread at h
  cases ho : hp a.block with
  | none => simp [ho] at h
  | some o =>
    cases o with
    | cells c e b =>
      rw [ho] at h
      dsimp only at h
      obtain ⟨hl, hg⟩ := takeN_some n _ l h
      have hk := known_cells hr ho hp0
      obtain ⟨l', g1, g2⟩ := list_of (ρ := ρ) (q := fun i => w.cell? ⟨p.1.block, p.1.off + a.off + i, none⟩) l fun i v hv => by
        have hi : i < n := by rw [← hl]; exact (List.getElem?_eq_some_iff.1 hv).1
        have := hg i hi
        rw [hv, dropN_eq, List.getElem?_drop] at this
        obtain ⟨v', e1, e2⟩ := hk (a.off + i) v this.symm
        exact ⟨v', by rw [Nat.add_assoc]; exact e1, e2⟩
      exact ⟨l', g1, by rw [g1.length, hl], fun j u hu => by rw [add_mk]; exact g2 j u hu⟩
    | map es c => simp [ho] at h
    | iter x y z t => simp [ho] at h
/-- cells laid over those of an own block -/
theorem laid_ok (hr : HRel P B lim hp nx ρ w) {k off : Nat} {c c' vs vs' : List Value} {e : TypeId} (h : hp k = some (.cells c e true)) (hset : setAt off vs c = some c') (h1 : ones vs = true)
    {p : Addr × Nat} (hp0 : ρ k = some p) (hv : All2 (VR ρ) vs vs') :
    ∃ w', (storeCells ⟨p.1.block, p.1.off + off, none⟩ vs').run P w = .ok () w' ∧ HRel P B lim (over hp k (some (.cells c' e true))) nx ρ w' ∧ Step hp (over hp k (some (.cells c' e true))) nx nx ρ ρ w w' := by
  obtain ⟨q, e1, e2, g1, cur, g2, g3, g4, g5⟩ := hr.obj k _ h
  rw [hp0] at e1; cases e1
  obtain ⟨s1, s2, s3⟩ := setAt_some off vs c c' hset
  have hlen := hv.length
  have hrun := run_storeCells_at (P := P) p.1.block (p.1.off + off) e vs' 0 cur w g2 (by omega) (ones_all2 hv h1)
  simp only [Nat.add_zero] at hrun
  refine ⟨_, hrun, rel_upd hr h rfl hp0 (by simp) (fun b hb => setRow_other w _ b _ hb) rfl rfl rfl ?_⟩
  have hsz : (cur.toList.take (p.1.off + off) ++ vs' ++ cur.toList.drop (p.1.off + off + vs'.length)).toArray.size = cur.size := by
    simp only [List.size_toArray, List.length_append, List.length_take, List.length_drop, Array.length_toList]; omega
  refine ⟨p, hp0, e2, g1, _, setRow_heap w _ cur _ e (0, 0) g2, by rw [hsz]; omega, fun i v hi => ?_, by rw [hsz, s2]; exact g5⟩
  · rw [s3 i] at hi
    simp only [List.getElem?_toArray]
    by_cases hh : off ≤ i ∧ i < off + vs.length
    · rw [if_pos hh] at hi
      obtain ⟨v', f1, f2⟩ := hv.get _ _ hi
      refine ⟨v', ?_, f2⟩
      rw [List.append_assoc, List.getElem?_append_right (by simp; omega), List.getElem?_append_left (by simp; omega)]
      simp only [List.length_take, Array.length_toList]
      rw [← f1]; congr 1; omega
    · rw [if_neg hh] at hi
      obtain ⟨v', f1, f2⟩ := g4 i v hi
      refine ⟨v', ?_, f2⟩
      by_cases hlt : i < off
      · rw [List.append_assoc, List.getElem?_append_left (by simp; omega), List.getElem?_take, if_pos (by omega)]
        simpa using f1
      · rw [List.getElem?_append_right (by simp; omega), List.getElem?_drop]
        simp only [List.length_append, List.length_take, Array.length_toList]
        rw [← Array.getElem?_toList] at f1
        rw [← f1]; congr 1; omega
end
end Go.Sx
