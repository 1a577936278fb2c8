/- The evaluator: code and calls. -/
import Derived.Test.YtbjncdcfojjacaaGreatSxW
namespace Go.Sx
open Go Go.RowKit

section
variable {E : Env} {P : Program} {call : CallF} {N : Nat}
theorem draw_any {all : Array Oper} {h0 : Tr AObj} {tm0 : TT} {nx0 : Nat} {ms : List Nat} {recs : List Rec} {tmF : TT} {nxF : Nat} (g : GoodD E P call N all h0 tm0 nx0 all.toList ms recs tmF nxF) (hcall : CallsOk P call) (hE : EnvOk E P)
    {B : Nat} {ρ0 : Ren} {w0 : World} {d0 : List Deferred} (hlt : ∀ k o, h0.get k = some o → k < nx0) {Q : Exit → Act → World → Prop}
    (hQ : ∀ listed a w, Inv P N B h0 tm0 nx0 nxF recs ρ0 w0 d0 listed a w → (∀ i, i < recs.length → listed.getD i false = true) → Q .normal a w) :
    ∀ (fuel : Nat) (listed : Array Bool) (a : Act) (w : World), Inv P N B h0 tm0 nx0 nxF recs ρ0 w0 d0 listed a w → ((List.range recs.length).filter fun i => !listed.getD i false).length ≤ fuel → wpAny P .any all Q fuel listed a w := by
  have hlen : recs.length = all.size := by have := g.len; simpa using this
  have full : ∀ (listed : Array Bool) a w, Inv P N B h0 tm0 nx0 nxF recs ρ0 w0 d0 listed a w → Region.ready .any all listed = [] → ∀ i, i < recs.length → listed.getD i false = true := by
    intro listed a w hinv hnil i
    induction i using Nat.strongRecOn with
    | _ i ih =>
      intro hi
      cases hc : listed.getD i false with
      | true => rfl
      | false =>
        exfalso
        have hil : i < listed.size := by rw [hinv.size]; exact hi
        have : i ∈ Region.ready .any all listed := by
          rw [mem_ready]
          obtain ⟨r, hr⟩ : ∃ r, recs[i]? = some r := ⟨recs[i], List.getElem?_eq_getElem hi⟩
          have hat := (g.at_ i r hr).2
          rw [Array.getElem?_toList] at hat
          refine ⟨?_, r.o, hat, fun e he hb => ?_⟩
          · rw [Array.getD_eq_getD_getElem?] at hc ⊢
            rw [Array.getElem?_eq_getElem hil] at hc ⊢
            simpa using hc
          · have := ((g.mask i r hr).1 e (by simpa using he) hb).1
            exact ih e.on this (by omega)
        rw [hnil] at this; cases this
  intro fuel
  induction fuel with
  | zero =>
    intro listed a w hinv hcnt
    have hall : ∀ i, i < recs.length → listed.getD i false = true := by
      intro i hi
      have h0 := List.eq_nil_of_length_eq_zero (Nat.le_zero.1 hcnt)
      rw [List.filter_eq_nil_iff] at h0
      have := h0 i (List.mem_range.2 hi)
      simpa using this
    refine ⟨?_, hQ listed a w hinv hall⟩
    rw [List.eq_nil_iff_forall_not_mem]
    intro i hi
    rw [mem_ready] at hi
    obtain ⟨h1, _⟩ := hi
    obtain ⟨h2, h3⟩ := getD_split h1
    rw [hall i (by rw [← hinv.size]; exact h2)] at h3; cases h3
  | succ fuel ih =>
    intro listed a w hinv hcnt
    refine ⟨fun hnil => hQ listed a w hinv (full listed a w hinv hnil), fun i hi => ?_⟩
    refine wpOp_mono (fun a' w' hinv' => ih _ a' w' hinv' ?_) (draw_step g hcall hE hlt hi hinv)
    rw [mem_ready] at hi
    obtain ⟨h2, h3⟩ := getD_split hi.1
    have := filter_lt (p := fun i => !listed.getD i false) (q := fun k => !(listed.setIfInBounds i true).getD k false) (List.range recs.length) (fun x _ hx => by
        rw [getD_set h2] at hx
        split at hx
        · simp at hx
        · exact hx) ⟨i, List.mem_range.2 (by rw [← hinv.size]; exact h2), by rw [h3]; rfl, by rw [getD_set h2, if_pos rfl]; rfl⟩
    omega

theorem wrAll_mem {mark : Nat} : ∀ (l : List Rec) (wr : List Nat) (k : Nat), k ∈ wrAll mark wr l ↔ k ∈ wr ∨ ∃ r ∈ l, k ∈ r.wr ∧ k < mark
  | [], wr, k => by simp [wrAll]
  | r :: l, wr, k => by
    have fold : ∀ (rw' wr : List Nat), k ∈ rw'.foldr (noteW mark) wr ↔ k ∈ wr ∨ (k ∈ rw' ∧ k < mark) := by
      intro rw'
      induction rw' with
      | nil => intro wr; simp
      | cons x l ih =>
        intro wr
        simp only [List.foldr_cons, noteW_mem, ih, List.mem_cons]
        constructor
        · rintro ((h | ⟨h1, h2⟩) | ⟨rfl, h2⟩)
          · exact .inl h
          · exact .inr ⟨.inr h1, h2⟩
          · exact .inr ⟨.inl rfl, h2⟩
        · rintro (h | ⟨rfl | h1, h2⟩)
          · exact .inl (.inl h)
          · exact .inr ⟨rfl, h2⟩
          · exact .inl (.inr ⟨h1, h2⟩)
    rw [wrAll, wrAll_mem l _ k, fold]
    constructor
    · rintro ((h | h) | ⟨q, hq, h⟩)
      · exact .inl h
      · exact .inr ⟨r, List.mem_cons_self, h⟩
      · exact .inr ⟨q, List.mem_cons_of_mem _ hq, h⟩
    · rintro (h | ⟨q, hq, h⟩)
      · exact .inl (.inl h)
      · cases hq with
        | head => exact .inl (.inr h)
        | tail _ hq => exact .inr ⟨q, hq, h⟩

theorem region_draw_ok (hE : EnvOk E P) (hcall : CallsOk P call) (hN : N < big) {ops : Array Oper} {tm : TT} {S : St} {recs : List Rec} {tmF : TT} {nxF : Nat} (h : drawA E P call N ops S.heap 0 [] [] ops.toList [] tm S.next = some (recs, tmF, nxF)) :
    Fx S ⟨layAll S.heap recs, nxF, S.mark, wrAll S.mark S.wr recs⟩ ∧ ∀ (id : Nat) (B lim : Nat) (ρ : Ren) (w : World) (a : Act) (Q : Exit → Act → World → Prop), nxF < lim → HRel P B lim S.heap.get S.next ρ w → TRel N ρ tm.get a.tmps →
      (∀ ρ' a' w', Then P B lim S ⟨layAll S.heap recs, nxF, S.mark, wrAll S.mark S.wr recs⟩ ρ ρ' w w' → TRel N ρ' tmF.get a'.tmps → a'.defers = a.defers → Q .normal a' w') →
      (Code.region id ops true).wp P Q a w := by
  obtain ⟨ms, g⟩ := draw_good (h0 := S.heap) (tm0 := tm) (nx0 := S.next) hN hcall ops.toList 0 [] [] [] tm S.next recs tmF nxF GoodD.start rfl h
  rw [List.nil_append] at g
  have hget : (layAll S.heap recs).get = layR S.heap.get recs := layAll_get _ _ fun r hr k hk => g.idsBig hcall hr hk
  refine ⟨⟨g.nxF.1, rfl, fun k hk => (wrAll_mem _ _ _).2 (.inl hk), fun hm k hk hn => ?_⟩, fun id B lim ρ w a Q hl hr ht hQ => ?_⟩
  · show (layAll S.heap recs).get k = _
    rw [hget, layR_other]
    intro r hrm hid
    obtain ⟨i, hi, _⟩ := g.of_mem hrm
    rcases (did_ids (g.did i r hi) hcall).1 hid with hw | ⟨h1, _⟩
    · exact hn ((wrAll_mem _ _ _).2 (.inr ⟨r, hrm, hw, hk⟩))
    · have := (g.nxs i r hi).1; have hm' : S.mark ≤ S.next := hm; omega
  · refine wp_region_any hE.mixed ?_
    have hnone : recs.filter (DR (Array.replicate ops.size false)) = [] := by
      rw [List.filter_eq_nil_iff]
      intro r _
      unfold DR
      rw [Array.getD_eq_getD_getElem?]
      cases hx : (Array.replicate ops.size false)[r.i]? with
      | none => simp
      | some b => rw [Array.getElem?_replicate] at hx; split at hx <;> simp_all
    have hlen : recs.length = ops.size := by have := g.len; simpa using this
    have al : Alike0 w w.drew := Alike0.drew w
    obtain ⟨q1, q2⟩ := rel_none hr al
    refine draw_any g hcall hE (B := B) (ρ0 := ρ) (w0 := w) (d0 := a.defers) hr.lt (Q := Q) (fun listed a' w' hinv hall => ?_) ops.size _ a w.drew ⟨by simp [hlen], fun i r hi hD => ?_, rfl, ρ, ?_, ?_, fun i r hi _ k h1 h2 => ?_, ?_⟩ ?_
    · obtain ⟨ρ', hO, hS, _, hT⟩ := hinv.rel
      have hfull : recs.filter (DR listed) = recs := by
        rw [List.filter_eq_self]
        intro r hrm
        obtain ⟨i, hi, e⟩ := g.of_mem hrm
        unfold DR
        rw [e]
        exact hall i (List.getElem?_eq_some_iff.1 hi).1
      rw [hfull] at hO hS hT
      refine hQ ρ' a' w' ⟨?_, ?_⟩ (by rw [g.tmF]; exact hT) hinv.defers
      · show HRel P B lim (layAll S.heap recs).get nxF ρ' w'
        rw [hget]
        refine hO.hrel (fun k h1 h2 => ?_) fun k o hk => ?_
        · rcases hS.ext k with h | ⟨_, h, _⟩
          · rw [h]; exact hr.fresh k (Nat.le_trans g.nxF.1 h1) h2
          · omega
        · by_cases hlt : k < nxF
          · exact hlt
          · exfalso
            rw [layR_other] at hk
            · have := hr.lt k o hk; have := g.nxF.1; omega
            · intro r hrm hid
              have hrf := g.nxF.2 r hrm
              obtain ⟨i, hi, _⟩ := g.of_mem hrm
              have := (g.nxs i r hi).2.1
              rcases (did_ids (g.did i r hi) hcall).1 hid with hw | ⟨_, h2⟩
              · have := (did_wr (g.did i r hi) hw).2.1; omega
              · omega
      · show Step S.heap.get (layAll S.heap recs).get S.next nxF ρ ρ' w w'
        rw [hget]; exact hS
    · rw [Array.getD_eq_getD_getElem?] at hD
      cases hx : (Array.replicate ops.size false)[i]? with
      | none => rw [hx] at hD; simp at hD
      | some b => rw [hx] at hD; rw [Array.getElem?_replicate] at hx; split at hx <;> simp_all
    · rw [hnone]; exact q1.orel
    · rw [hnone]; exact q2.wide (Nat.le_refl _) g.nxF.1
    · have := (g.nxs i r hi).1
      have := g.nxF.2 r (List.mem_of_getElem? hi)
      exact hr.fresh k (by omega) (by omega)
    · rw [hnone]; exact ht
    · rw [← hlen]
      exact Nat.le_trans (List.length_filter_le _ _) (by simp)

def XR (ρ : Ren) : X → Exit → Prop
  | .normal, .normal => True
  | .exit i, .exit j => i = j
  | .ret, .ret => True
  | .panic v, .panic c => ∃ v', c = onePanic v' ∧ VR ρ v v'
  | _, _ => False
/-- what stands behind code -/
def Post (P : Program) (N B lim : Nat) (S S' : St) (ρ : Ren) (w : World) (x : X) (tm' : TT) (d : List Deferred) (e : Exit) (a' : Act) (w' : World) : Prop :=
  ∃ ρ', Then P B lim S S' ρ ρ' w w' ∧ XR ρ' x e ∧ a'.defers = d ∧ ((∃ v, x = .panic v) ∨ TRel N ρ' tm'.get a'.tmps)
/-- a loop, met at its body -/
def lwp (P : Program) (c : Code) (Q : Exit → Act → World → Prop) (a : Act) (w : World) : Prop :=
  ∀ (b : Frame) (k : List Item) (cs : List Frame), ∃ e a' w', Q e a' w' ∧ Arrives P (lone (b.at a (.code c :: .inLoop c :: k)) cs w) b k cs e a' w'
def mwp (P : Program) (c : Code) (Q : Exit → Act → World → Prop) (a : Act) (w : World) : Prop :=
  c.wp P Q a w ∧ ∀ c1, c = .loop c1 → lwp P c1 Q a w
theorem lwp_wp {P : Program} {c : Code} {Q : Exit → Act → World → Prop} {a : Act} {w : World} (h : lwp P c Q a w) : mwp P (.loop c) Q a w := by
  refine ⟨fun b k cs => ?_, fun c1 e => by cases e; exact h⟩
  obtain ⟨e, a', w', hq, harr⟩ := h b k cs
  exact ⟨e, a', w', hq, .of_steps (.one step_loop) harr⟩
theorem wp_mwp {P : Program} {c : Code} {Q : Exit → Act → World → Prop} {a : Act} {w : World} (hc : ∀ c1, c ≠ .loop c1) (h : c.wp P Q a w) : mwp P c Q a w :=
  ⟨h, fun c1 e => absurd e (hc c1)⟩
theorem code_ok2 (hE : EnvOk E P) (hcall : CallsOk P call) (hN : N < big) : ∀ (n : Nat) (c : Code) (tm : TT) (S : St) (x : X) (tm' : TT) (S' : St), codeA E P call N n c tm S = some (x, tm', S') →
    Fx S S' ∧ ∀ (B lim : Nat) (ρ : Ren) (w : World) (a : Act), S'.next < lim → HRel P B lim S.heap.get S.next ρ w → TRel N ρ tm.get a.tmps → mwp P c (Post P N B lim S S' ρ w x tm' a.defers) a w := by
  intro n
  induction n with
  | zero => intro c tm S x tm' S' h; simp [codeA] at h
  | succ n ih2 =>
    have ih : ∀ (c : Code) (tm : TT) (S : St) (x : X) (tm' : TT) (S' : St), codeA E P call N n c tm S = some (x, tm', S') →
        Fx S S' ∧ ∀ (B lim : Nat) (ρ : Ren) (w : World) (a : Act), S'.next < lim → HRel P B lim S.heap.get S.next ρ w → TRel N ρ tm.get a.tmps → c.wp P (Post P N B lim S S' ρ w x tm' a.defers) a w :=
      fun c tm S x tm' S' h => ⟨(ih2 c tm S x tm' S' h).1, fun B lim ρ w a h1 h2 h3 => ((ih2 c tm S x tm' S' h).2 B lim ρ w a h1 h2 h3).1⟩
    have lift : ∀ {c : Code} {S S' : St} {tm tm' : TT} {x : X}, (∀ c1, c ≠ .loop c1) → (Fx S S' ∧ ∀ (B lim : Nat) (ρ : Ren) (w : World) (a : Act), S'.next < lim → HRel P B lim S.heap.get S.next ρ w → TRel N ρ tm.get a.tmps → c.wp P (Post P N B lim S S' ρ w x tm' a.defers) a w) →
        (Fx S S' ∧ ∀ (B lim : Nat) (ρ : Ren) (w : World) (a : Act), S'.next < lim → HRel P B lim S.heap.get S.next ρ w → TRel N ρ tm.get a.tmps → mwp P c (Post P N B lim S S' ρ w x tm' a.defers) a w) :=
      fun hc h => ⟨h.1, fun B lim ρ w a h1 h2 h3 => wp_mwp hc (h.2 B lim ρ w a h1 h2 h3)⟩
    intro c tm S x tm' S' h
    cases c with
    | skip =>
      refine lift (fun c1 e => by cases e) ?_
      simp [codeA] at h
      obtain ⟨rfl, rfl, rfl⟩ := h
      exact ⟨Fx.refl _, fun B lim ρ w a hl hr ht => wp_skip ⟨ρ, ⟨hr, Step.refl _ _ _ _⟩, trivial, rfl, .inr ht⟩⟩
    | region id ops draw =>
      refine lift (fun c1 e => by cases e) ?_
      cases draw with
      | false =>
        simp only [codeA, Option.bind_eq_some_iff] at h
        obtain ⟨⟨p, tm1, S1⟩, hs, h⟩ := h
        obtain ⟨s1, s2⟩ := seq_ok hE hcall hN ops.toList tm S p tm1 S1 hs
        cases p with
        | none =>
          simp only [Option.some.injEq, Prod.mk.injEq] at h
          obtain ⟨rfl, rfl, rfl⟩ := h
          exact ⟨s1, fun B lim ρ w a hl hr ht => wp_region_list (s2 B lim ρ w a _ hl hr ht (fun _ ρ' a' w' h1 h2 h3 => ⟨ρ', h1, trivial, h3, .inr h2⟩) fun x e => by cases e)⟩
        | some v =>
          simp only [Option.some.injEq, Prod.mk.injEq] at h
          obtain ⟨rfl, rfl, rfl⟩ := h
          exact ⟨s1, fun B lim ρ w a hl hr ht => wp_region_list (s2 B lim ρ w a _ hl hr ht (fun e => by cases e) fun x e ρ' a' w' v' h1 h2 h3 => by cases e; exact ⟨ρ', h1, ⟨v', rfl, h2⟩, h3, .inl ⟨_, rfl⟩⟩)⟩
      | true =>
        simp only [codeA, Option.bind_eq_some_iff, Option.some.injEq, Prod.mk.injEq] at h
        obtain ⟨⟨recs, tm1, nx1⟩, hs, rfl, rfl, rfl⟩ := h
        obtain ⟨s1, s2⟩ := region_draw_ok hE hcall hN hs
        exact ⟨s1, fun B lim ρ w a hl hr ht => s2 id B lim ρ w a _ hl hr ht fun ρ' a' w' h1 h2 h3 => ⟨ρ', h1, trivial, h3, .inr h2⟩⟩
    | seq c1 c2 =>
      refine lift (fun c1 e => by cases e) ?_
      simp only [codeA, Option.bind_eq_some_iff] at h
      obtain ⟨⟨x1, tm1, S1⟩, h1, h⟩ := h
      obtain ⟨i1, i2⟩ := ih c1 tm S x1 tm1 S1 h1
      cases x1 with
      | normal =>
        obtain ⟨j1, j2⟩ := ih c2 tm1 S1 x tm' S' h
        refine ⟨i1.trans j1, fun B lim ρ w a hl hr ht => wp_seq (wp_mono (i2 B lim ρ w a (Nat.lt_of_le_of_lt j1.next hl) hr ht) ?_)⟩
        rintro e a1 w1 ⟨ρ1, t1, t2, t3, t4⟩
        cases e with
        | normal =>
          have ht1 := t4.resolve_left (by rintro ⟨v, hv⟩; cases hv)
          refine wp_mono (j2 B lim ρ1 w1 a1 hl t1.1 ht1) ?_
          rintro e a2 w2 ⟨ρ2, u1, u2, u3, u4⟩
          exact ⟨ρ2, t1.trans u1, u2, u3.trans t3, u4⟩
        | _ => exact t2.elim
      | _ =>
        simp only [Option.some.injEq, Prod.mk.injEq] at h
        obtain ⟨rfl, rfl, rfl⟩ := h
        refine ⟨i1, fun B lim ρ w a hl hr ht => wp_seq (wp_mono (i2 B lim ρ w a hl hr ht) ?_)⟩
        rintro e a1 w1 hp
        cases e with
        | normal => obtain ⟨ρ1, t1, t2, t3, t4⟩ := hp; exact t2.elim
        | _ => exact hp
    | cond q c1 c2 =>
      refine lift (fun c1 e => by cases e) ?_
      simp only [codeA, Option.bind_eq_some_iff] at h
      obtain ⟨v, hv, h⟩ := h
      cases v with
      | bool t =>
        obtain ⟨i1, i2⟩ := ih (if t then c1 else c2) tm S x tm' S' h
        exact ⟨i1, fun B lim ρ w a hl hr ht => wp_cond (ev_ok ht hv).bool (i2 B lim ρ w a hl hr ht)⟩
      | _ => cases h
    | block id c1 =>
      refine lift (fun c1 e => by cases e) ?_
      simp only [codeA, Option.bind_eq_some_iff] at h
      obtain ⟨⟨x1, tm1, S1⟩, h1, h⟩ := h
      obtain ⟨i1, i2⟩ := ih c1 tm S x1 tm1 S1 h1
      cases x1 with
      | exit j =>
        simp only at h
        split at h
        · rename_i hj
          simp only [Option.some.injEq, Prod.mk.injEq] at h
          obtain ⟨rfl, rfl, rfl⟩ := h
          refine ⟨i1, fun B lim ρ w a hl hr ht => wp_block (wp_mono (i2 B lim ρ w a hl hr ht) ?_)⟩
          rintro e a1 w1 ⟨ρ1, t1, t2, t3, t4⟩
          cases e with
          | exit k =>
            have hk : j = k := t2
            subst hk
            simp only [Exit.inBlock, hj, if_true]
            exact ⟨ρ1, t1, trivial, t3, t4.imp_left (by rintro ⟨v, hv⟩; cases hv)⟩
          | _ => exact t2.elim
        · rename_i hj
          simp only [Option.some.injEq, Prod.mk.injEq] at h
          obtain ⟨rfl, rfl, rfl⟩ := h
          refine ⟨i1, fun B lim ρ w a hl hr ht => wp_block (wp_mono (i2 B lim ρ w a hl hr ht) ?_)⟩
          rintro e a1 w1 ⟨ρ1, t1, t2, t3, t4⟩
          cases e with
          | exit k =>
            have hk : j = k := t2
            subst hk
            simp only [Exit.inBlock, hj, if_false]
            exact ⟨ρ1, t1, rfl, t3, t4⟩
          | _ => exact t2.elim
      | _ =>
        simp only [Option.some.injEq, Prod.mk.injEq] at h
        obtain ⟨rfl, rfl, rfl⟩ := h
        refine ⟨i1, fun B lim ρ w a hl hr ht => wp_block (wp_mono (i2 B lim ρ w a hl hr ht) ?_)⟩
        rintro e a1 w1 hp
        cases e with
        | exit k => obtain ⟨ρ1, t1, t2, t3, t4⟩ := hp; exact t2.elim
        | _ => exact hp
    | loop c1 =>
      simp only [codeA, Option.bind_eq_some_iff] at h
      obtain ⟨⟨x1, tm1, S1⟩, h1, h⟩ := h
      obtain ⟨i1, i2⟩ := ih c1 tm S x1 tm1 S1 h1
      cases x1 with
      | normal =>
        obtain ⟨j1, j2⟩ := ih2 (.loop c1) tm1 S1 x tm' S' h
        refine ⟨i1.trans j1, fun B lim ρ w a hl hr ht => lwp_wp ?_⟩
        have hw := i2 B lim ρ w a (Nat.lt_of_le_of_lt j1.next hl) hr ht
        intro b k cs
        obtain ⟨e, a1, w1, ⟨ρ1, t1, t2, t3, t4⟩, harr⟩ := hw b (.inLoop c1 :: k) cs
        cases e with
        | normal =>
          have ht1 := t4.resolve_left (by rintro ⟨v, hv⟩; cases hv)
          obtain ⟨e2, a2, w2, ⟨ρ2, u1, u2, u3, u4⟩, harr2⟩ := (j2 B lim ρ1 w1 a1 hl t1.1 ht1).2 c1 rfl b k cs
          exact ⟨e2, a2, w2, ⟨ρ2, t1.trans u1, u2, u3.trans t3, u4⟩, .of_steps (Steps.trans harr (.one step_inLoop)) harr2⟩
        | _ => exact t2.elim
      | _ =>
        simp only [Option.some.injEq, Prod.mk.injEq] at h
        obtain ⟨rfl, rfl, rfl⟩ := h
        refine ⟨i1, fun B lim ρ w a hl hr ht => lwp_wp ?_⟩
        intro b k cs
        obtain ⟨e, a1, w1, hp, harr⟩ := i2 B lim ρ w a hl hr ht b (.inLoop c1 :: k) cs
        refine ⟨e, a1, w1, hp, .pass (x := .inLoop c1) rfl (fun _ _ => .inl ?_) harr⟩
        obtain ⟨ρ1, t1, t2, t3, t4⟩ := hp
        rintro rfl
        exact t2.elim
    | exit id =>
      refine lift (fun c1 e => by cases e) ?_
      simp [codeA] at h
      obtain ⟨rfl, rfl, rfl⟩ := h
      exact ⟨Fx.refl _, fun B lim ρ w a hl hr ht => wp_exit ⟨ρ, ⟨hr, Step.refl _ _ _ _⟩, rfl, rfl, .inr ht⟩⟩
    | ret =>
      refine lift (fun c1 e => by cases e) ?_
      simp [codeA] at h
      obtain ⟨rfl, rfl, rfl⟩ := h
      exact ⟨Fx.refl _, fun B lim ρ w a hl hr ht => wp_ret ⟨ρ, ⟨hr, Step.refl _ _ _ _⟩, trivial, rfl, .inr ht⟩⟩
    | _ => simp [codeA] at h
theorem code_ok (hE : EnvOk E P) (hcall : CallsOk P call) (hN : N < big) (n : Nat) (c : Code) (tm : TT) (S : St) (x : X) (tm' : TT) (S' : St) (h : codeA E P call N n c tm S = some (x, tm', S')) :
    Fx S S' ∧ ∀ (B lim : Nat) (ρ : Ren) (w : World) (a : Act), S'.next < lim → HRel P B lim S.heap.get S.next ρ w → TRel N ρ tm.get a.tmps → c.wp P (Post P N B lim S S' ρ w x tm' a.defers) a w :=
  ⟨(code_ok2 hE hcall hN n c tm S x tm' S' h).1, fun B lim ρ w a h1 h2 h3 => ((code_ok2 hE hcall hN n c tm S x tm' S' h).2 B lim ρ w a h1 h2 h3).1⟩
end
end Go.Sx
