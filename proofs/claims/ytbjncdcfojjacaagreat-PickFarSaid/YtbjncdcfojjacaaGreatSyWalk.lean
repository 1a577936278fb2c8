/-
  What is proved: the second layer: rules to walk code over a plain heap, sound for the machine. Conditions: none.
-/
import Derived.Test.YtbjncdcfojjacaaGreatSyBase
set_option linter.unusedVariables false
set_option linter.unusedSimpArgs false
set_option linter.unusedSectionVars false
namespace Go.Sy
open Go Go.RowKit Go.Sx

/-- a function, called on a heap -/
def CallR (P : Program) (f : FuncId) (args : List Value) (hp : Hp) (nx : Nat) (e : AEnd) (hp' : Hp) (nx' : Nat) : Prop :=
  nx ≤ nx' ∧ ∀ B lim ρ w args', nx' < lim → HRel P B lim hp nx ρ w → All2 (VR ρ) args args' →
    Calls P f ⟨args'⟩ w fun en w' => ∃ ρ', (HRel P B lim hp' nx' ρ' w' ∧ Step hp hp' nx nx' ρ ρ' w w') ∧ EndR ρ' e en
def CallE (P : Program) (f : FuncId) (args : List Value) (hp : Hp) (nx : Nat) (Q : AEnd → Hp → Nat → Prop) : Prop :=
  ∃ e hp' nx', CallR P f args hp nx e hp' nx' ∧ Q e hp' nx'
def PostR (P : Program) (N B lim : Nat) (hp : Hp) (nx : Nat) (ρ : Ren) (w : World) (x : X) (tm' : T) (hp' : Hp) (nx' : Nat) (d : List Deferred) (en : Exit) (a' : Act) (w' : World) : Prop :=
  ∃ ρ', (HRel P B lim hp' nx' ρ' w' ∧ Step hp hp' nx nx' ρ ρ' w w') ∧ XR ρ' x en ∧ a'.defers = d ∧ ((∃ v, x = .panic v) ∨ TRel N ρ' tm' a'.tmps)
/-- code, from temporaries and a heap -/
def CodeR (P : Program) (N : Nat) (c : Code) (tm : T) (hp : Hp) (nx : Nat) (x : X) (tm' : T) (hp' : Hp) (nx' : Nat) : Prop :=
  nx ≤ nx' ∧ ∀ B lim ρ w a, nx' < lim → HRel P B lim hp nx ρ w → TRel N ρ tm a.tmps → mwp P c (PostR P N B lim hp nx ρ w x tm' hp' nx' a.defers) a w
structure CodeE (P : Program) (N : Nat) (c : Code) (tm : T) (hp : Hp) (nx : Nat) (Q : X → T → Hp → Nat → Prop) : Prop where
  h : ∃ x tm' hp' nx', CodeR P N c tm hp nx x tm' hp' nx' ∧ Q x tm' hp' nx'
def upd (tm : T) (d : Option Tmp) (v : Value) : T :=
  match d with
  | none => tm
  | some d => fun t => match Nat.beq t d with
    | true => some v
    | false => tm t
def dstOk (N : Nat) (d : Option Tmp) : Bool :=
  match d with
  | none => true
  | some d => Nat.blt d N
/-- an operation that ends with a value -/
structure StepO (E : Env) (P : Program) (o : Oper) (tm : T) (hp : Hp) (nx : Nat) (v : Value) (hp' : Hp) (nx' : Nat) : Prop where
  h : ∃ n e, opA E P tm hp nx o = some (n, e) ∧ (n = .value v ∨ (n = .skip ∧ v = undef)) ∧ hp' = e.hp hp nx ∧ nx' = e.nx nx
def StepR (E : Env) (P : Program) (o : Oper) (tm : T) (hp : Hp) (nx : Nat) (v : Value) (hp' : Hp) (nx' : Nat) : Prop :=
  StepO E P o tm hp nx v hp' nx' ∨
  (∃ f args, opA E P tm hp nx o = some (.enter f args, .none) ∧ CallR P f args hp nx (.ret v) hp' nx')
def SeqR (P : Program) (N : Nat) (all : Array Oper) (ops : List Oper) (tm : T) (hp : Hp) (nx : Nat) (p : Option Value) (tm' : T) (hp' : Hp) (nx' : Nat) : Prop :=
  nx ≤ nx' ∧ ∀ B lim ρ w a (Q : Exit → Act → World → Prop), nx' < lim → HRel P B lim hp nx ρ w → TRel N ρ tm a.tmps →
    (p = none → ∀ ρ' a' w', HRel P B lim hp' nx' ρ' w' ∧ Step hp hp' nx nx' ρ ρ' w w' → TRel N ρ' tm' a'.tmps → a'.defers = a.defers → Q .normal a' w') →
    (∀ x, p = some x → ∀ ρ' a' w' v', HRel P B lim hp' nx' ρ' w' ∧ Step hp hp' nx nx' ρ ρ' w w' → VR ρ' x v' → a'.defers = a.defers → Q (.panic (onePanic v')) a' w') →
    wpList P all Q ops a w
structure SeqE (P : Program) (N : Nat) (all : Array Oper) (ops : List Oper) (tm : T) (hp : Hp) (nx : Nat) (Q : Option Value → T → Hp → Nat → Prop) : Prop where
  h : ∃ p tm' hp' nx', SeqR P N all ops tm hp nx p tm' hp' nx' ∧ Q p tm' hp' nx'

theorem eff_nx_ge' (e : Eff) (nx : Nat) : nx ≤ e.nx nx := by cases e <;> simp [Eff.nx]
theorem upd_eq (tm : T) (d : Option Tmp) (v : Value) : upd tm d v = fun t => if d = some t then some v else tm t := by
  cases d with
  | none => funext t; simp [upd]
  | some d =>
    funext t
    unfold upd
    by_cases e : t = d
    · subst e; simp
    · have : Nat.beq t d = false := by
        cases hb : Nat.beq t d with
        | false => rfl
        | true => exact absurd (Nat.eq_of_beq_eq_true hb) e
      simp only [this]
      rw [if_neg (fun h => e (by cases h; rfl))]
theorem dst_ok {N : Nat} {d : Option Tmp} (h : dstOk N d = true) : ∀ k, d = some k → Nat.blt k N = true := by
  rintro k rfl; exact h
theorem trel_upd {N : Nat} {ρ : Ren} {f : T} {a : Act} {dst : Option Tmp} {v v' : Value} (ht : TRel N ρ f a.tmps) (hd : dstOk N dst = true) (hv : VR ρ v v') : TRel N ρ (upd f dst v) (a.put dst v').tmps := by
  rw [upd_eq]; exact trel_put_fn ht (dst_ok hd) hv

section
variable {E : Env} {P : Program} {N : Nat} {all : Array Oper} {tm : T} {hp : Hp} {nx : Nat} {Q : Option Value → T → Hp → Nat → Prop}
theorem SeqE.nil (h : Q none tm hp nx) : SeqE P N all [] tm hp nx Q :=
  ⟨⟨none, tm, hp, nx, ⟨Nat.le_refl _, fun B lim ρ w a R _ hr ht hn _ => hn rfl ρ a w ⟨hr, Step.refl _ _ _ _⟩ ht rfl⟩, h⟩⟩
theorem put_defers (a : Act) (d : Option Tmp) (v : Value) : (a.put d v).defers = a.defers := by cases d <;> rfl
/-- what stands ahead of the rest -/
theorem SeqE.step_of {o : Oper} {rest : List Oper} {v : Value} {hp1 : Hp} {nx1 : Nat} (hd : dstOk N o.dst = true) (hge : nx ≤ nx1)
    (hs : ∀ B lim ρ w (a : Act) (K : Act → World → Prop) (R : Exit → Act → World → Prop), nx1 < lim → HRel P B lim hp nx ρ w → TRel N ρ tm a.tmps →
      (∀ ρ1 w1 v', HRel P B lim hp1 nx1 ρ1 w1 ∧ Step hp hp1 nx nx1 ρ ρ1 w w1 → VR ρ1 v v' → K (a.put o.dst v') w1) →
      (if Region.wanted o (yielded all a.tmps) then o.wp P a w K R else K (a.put o.dst undef) w))
    (k : SeqE P N all rest (upd tm o.dst v) hp1 nx1 Q) : SeqE P N all (o :: rest) tm hp nx Q := by
  obtain ⟨p, tm', hp', nx', ⟨h1, h2⟩, hq⟩ := k.h
  refine ⟨⟨p, tm', hp', nx', ⟨Nat.le_trans hge h1, fun B lim ρ w a R hl hr ht hn hp => ?_⟩, hq⟩⟩
  have := hs B lim ρ w a (fun a' w' => wpList P all R rest a' w') R (Nat.lt_of_le_of_lt h1 hl) hr ht ?_
  · simp only [wpList]
    split
    · rename_i hw; rw [if_pos hw] at this; exact .inl this
    · rename_i hw; rw [if_neg hw] at this; exact this
  · intro ρ1 w1 v' hth hv
    exact h2 B lim ρ1 w1 (a.put o.dst v') R hl hth.1 (trel_upd (ht.mono hth.2.le) hd hv)
      (fun e ρ' a' w' x y z => hn e ρ' a' w' ⟨x.1, hth.2.trans x.2⟩ y (z.trans (put_defers _ _ _)))
      (fun x e ρ' a' w' v' p1 p2 p3 => hp x e ρ' a' w' v' ⟨p1.1, hth.2.trans p1.2⟩ p2 (p3.trans (put_defers _ _ _)))
theorem StepR.go (hE : EnvOk E P) {o : Oper} {v : Value} {hp1 : Hp} {nx1 : Nat} (h : StepR E P o tm hp nx v hp1 nx1) {B lim : Nat} {ρ : Ren} {w : World} {a : Act} {K : Act → World → Prop} {R : Exit → Act → World → Prop}
    (hl : nx1 < lim) (hr : HRel P B lim hp nx ρ w) (ht : TRel N ρ tm a.tmps)
    (hk : ∀ ρ1 w1 v', HRel P B lim hp1 nx1 ρ1 w1 ∧ Step hp hp1 nx nx1 ρ ρ1 w w1 → VR ρ1 v v' → K (a.put o.dst v') w1) : o.wp P a w K R := by
  rcases h with ⟨n, e, hop, hn, rfl, rfl⟩ | ⟨f, args, hop, hge, hc⟩
  · have hop' := opA_ok hE hr (Nat.lt_of_le_of_lt (eff_nx_ge' e nx) hl) ht hop
    rcases hn with rfl | ⟨rfl, rfl⟩
    · obtain ⟨ρ1, w1, r1, r2, v', r3, r4⟩ := hop'
      unfold Oper.wp
      rw [r3]
      exact hk ρ1 w1 v' ⟨r1, r2⟩ r4
    · obtain ⟨ρ1, w1, r1, r2, r3⟩ := hop'
      have r3 : (execOp a.eval o).run P w = .ok .skip w1 := r3
      unfold Oper.wp
      rw [r3]
      exact hk ρ1 w1 undef ⟨r1, r2⟩ (vr_undef ρ1)
  · obtain ⟨ρ1, w1, r1, r2, args', r3, r4⟩ := opA_ok hE hr (Nat.lt_of_le_of_lt hge hl) ht hop
    unfold Oper.wp
    rw [r3]
    refine (hc B lim ρ1 w1 args'.toList hl r1 r4).mono ?_
    rintro en w2 ⟨ρ2, h12, hen⟩
    cases en with
    | returned v' => exact hk ρ2 w2 v' ⟨h12.1, r2.trans h12.2⟩ hen
    | panicked c => exact hen.elim
    | outgrown => exact hen.elim
theorem StepR.ge {o : Oper} {v : Value} {hp1 : Hp} {nx1 : Nat} (h : StepR E P o tm hp nx v hp1 nx1) : nx ≤ nx1 := by
  rcases h with ⟨n, e, _, _, _, rfl⟩ | ⟨_, _, _, h, _⟩
  · exact eff_nx_ge' e nx
  · exact h
theorem SeqE.stepR (hE : EnvOk E P) {o : Oper} {rest : List Oper} {v : Value} {hp1 : Hp} {nx1 : Nat} (h : StepR E P o tm hp nx v hp1 nx1) (hw : wantedA tm all o = some true) (hd : dstOk N o.dst = true)
    (k : SeqE P N all rest (upd tm o.dst v) hp1 nx1 Q) : SeqE P N all (o :: rest) tm hp nx Q := by
  refine SeqE.step_of hd h.ge (fun B lim ρ w a K R hl hr ht hk => ?_) k
  rw [if_pos (wanted_ok ht hw)]
  exact h.go hE hl hr ht hk
theorem SeqE.step (hE : EnvOk E P) {o : Oper} {rest : List Oper} {v : Value} {hp1 : Hp} {nx1 : Nat} (h : StepO E P o tm hp nx v hp1 nx1) (hw : wantedA tm all o = some true) (hd : dstOk N o.dst = true)
    (k : SeqE P N all rest (upd tm o.dst v) hp1 nx1 Q) : SeqE P N all (o :: rest) tm hp nx Q := SeqE.stepR hE (.inl h) hw hd k
theorem SeqE.call (hE : EnvOk E P) {o : Oper} {rest : List Oper} {v : Value} {hp1 : Hp} {nx1 : Nat} {f : FuncId} {args : List Value} (hop : opA E P tm hp nx o = some (.enter f args, .none)) (hc : CallR P f args hp nx (.ret v) hp1 nx1) (hw : wantedA tm all o = some true) (hd : dstOk N o.dst = true)
    (k : SeqE P N all rest (upd tm o.dst v) hp1 nx1 Q) : SeqE P N all (o :: rest) tm hp nx Q := SeqE.stepR hE (.inr ⟨f, args, hop, hc⟩) hw hd k
theorem SeqE.leave {o : Oper} {rest : List Oper} (hw : wantedA tm all o = some false) (hd : dstOk N o.dst = true)
    (k : SeqE P N all rest (upd tm o.dst undef) hp nx Q) : SeqE P N all (o :: rest) tm hp nx Q := by
  refine SeqE.step_of hd (Nat.le_refl _) (fun B lim ρ w a K R hl hr ht hk => ?_) k
  rw [if_neg (by rw [wanted_ok ht hw]; simp)]
  exact hk ρ w undef ⟨hr, Step.refl _ _ _ _⟩ (vr_undef ρ)
end

section
variable {E : Env} {P : Program} {N : Nat} {tm : T} {hp : Hp} {nx : Nat} {Q : X → T → Hp → Nat → Prop}
theorem codeR_of {c : Code} {x : X} {tm' : T} {hp' : Hp} {nx' : Nat} (hc : ∀ c1, c ≠ .loop c1) (hge : nx ≤ nx')
    (h : ∀ B lim ρ w a, nx' < lim → HRel P B lim hp nx ρ w → TRel N ρ tm a.tmps → c.wp P (PostR P N B lim hp nx ρ w x tm' hp' nx' a.defers) a w) : CodeR P N c tm hp nx x tm' hp' nx' :=
  ⟨hge, fun B lim ρ w a h1 h2 h3 => wp_mwp hc (h B lim ρ w a h1 h2 h3)⟩
theorem CodeE.mono {c : Code} {Q' : X → T → Hp → Nat → Prop} (h : CodeE P N c tm hp nx Q) (hq : ∀ x t h n, Q x t h n → Q' x t h n) : CodeE P N c tm hp nx Q' := by
  obtain ⟨x, tm', hp', nx', h1, h2⟩ := h.h
  exact ⟨⟨x, tm', hp', nx', h1, hq _ _ _ _ h2⟩⟩
theorem CodeE.skip (h : Q .normal tm hp nx) : CodeE P N .skip tm hp nx Q :=
  ⟨⟨.normal, _, _, _, codeR_of (fun c1 e => by cases e) (Nat.le_refl _) fun B lim ρ w a _ hr ht => wp_skip ⟨ρ, ⟨hr, Step.refl _ _ _ _⟩, trivial, rfl, .inr ht⟩, h⟩⟩
theorem CodeE.ret (h : Q .ret tm hp nx) : CodeE P N .ret tm hp nx Q :=
  ⟨⟨.ret, _, _, _, codeR_of (fun c1 e => by cases e) (Nat.le_refl _) fun B lim ρ w a _ hr ht => wp_ret ⟨ρ, ⟨hr, Step.refl _ _ _ _⟩, trivial, rfl, .inr ht⟩, h⟩⟩
theorem CodeE.exit {id : Nat} (h : Q (.exit id) tm hp nx) : CodeE P N (.exit id) tm hp nx Q :=
  ⟨⟨.exit id, _, _, _, codeR_of (fun c1 e => by cases e) (Nat.le_refl _) fun B lim ρ w a _ hr ht => wp_exit ⟨ρ, ⟨hr, Step.refl _ _ _ _⟩, rfl, rfl, .inr ht⟩, h⟩⟩
theorem CodeE.region {id : Nat} {ops : Array Oper} (h : SeqE P N ops ops.toList tm hp nx fun p tm' hp' nx' => Q (match p with | none => .normal | some v => .panic v) tm' hp' nx') : CodeE P N (.region id ops false) tm hp nx Q := by
  obtain ⟨p, tm', hp', nx', ⟨h1, h2⟩, hq⟩ := h.h
  refine ⟨⟨_, _, _, _, codeR_of (fun c1 e => by cases e) h1 fun B lim ρ w a hl hr ht => wp_region_list (h2 B lim ρ w a _ hl hr ht (fun e ρ' a' w' x y z => ?_) (fun x e ρ' a' w' v' p1 p2 p3 => ?_)), hq⟩⟩
  · subst e; exact ⟨ρ', x, trivial, z, .inr y⟩
  · subst e; exact ⟨ρ', p1, ⟨v', rfl, p2⟩, p3, .inl ⟨_, rfl⟩⟩
theorem CodeE.seq {c1 c2 : Code} (h : CodeE P N c1 tm hp nx fun x tm' hp' nx' => match x with
    | .normal => CodeE P N c2 tm' hp' nx' Q
    | x => Q x tm' hp' nx') : CodeE P N (.seq c1 c2) tm hp nx Q := by
  obtain ⟨x1, tm1, hp1, nx1, ⟨i1, i2⟩, h⟩ := h.h
  cases x1 with
  | normal =>
    obtain ⟨x, tm', hp', nx', ⟨j1, j2⟩, hq⟩ := h.h
    refine ⟨⟨x, tm', hp', nx', codeR_of (fun c1 e => by cases e) (Nat.le_trans i1 j1) fun B lim ρ w a hl hr ht => wp_seq (wp_mono (i2 B lim ρ w a (Nat.lt_of_le_of_lt j1 hl) hr ht).1 ?_), hq⟩⟩
    rintro e a1 w1 ⟨ρ1, t1, t2, t3, t4⟩
    cases e with
    | normal =>
      have ht1 := t4.resolve_left (by rintro ⟨v, hv⟩; cases hv)
      refine wp_mono (j2 B lim ρ1 w1 a1 hl t1.1 ht1).1 ?_
      rintro e a2 w2 ⟨ρ2, u1, u2, u3, u4⟩
      exact ⟨ρ2, ⟨u1.1, t1.2.trans u1.2⟩, u2, u3.trans t3, u4⟩
    | _ => exact t2.elim
  | _ =>
    refine ⟨⟨_, _, _, _, codeR_of (fun c1 e => by cases e) i1 fun B lim ρ w a hl hr ht => wp_seq (wp_mono (i2 B lim ρ w a hl hr ht).1 ?_), h⟩⟩
    rintro e a1 w1 hp
    cases e with
    | normal => obtain ⟨ρ1, t1, t2, t3, t4⟩ := hp; exact t2.elim
    | _ => exact hp
theorem CodeE.cond {q : Operand} {c1 c2 : Code} {b : Bool} (hv : ev tm q = some (.bool b)) (h1 : b = true → CodeE P N c1 tm hp nx Q) (h2 : b = false → CodeE P N c2 tm hp nx Q) : CodeE P N (.cond q c1 c2) tm hp nx Q := by
  have h : CodeE P N (if b then c1 else c2) tm hp nx Q := by cases b with
    | true => exact h1 rfl
    | false => exact h2 rfl
  obtain ⟨x, tm', hp', nx', ⟨i1, i2⟩, hq⟩ := h.h
  exact ⟨⟨x, tm', hp', nx', codeR_of (fun c1 e => by cases e) i1 fun B lim ρ w a hl hr ht => wp_cond (ev_ok ht hv).bool (i2 B lim ρ w a hl hr ht).1, hq⟩⟩
theorem CodeE.block {id : Nat} {c1 : Code} (h : CodeE P N c1 tm hp nx fun x tm' hp' nx' => match x with
    | .exit j => Q (if j = id then .normal else .exit j) tm' hp' nx'
    | x => Q x tm' hp' nx') : CodeE P N (.block id c1) tm hp nx Q := by
  obtain ⟨x1, tm1, hp1, nx1, ⟨i1, i2⟩, h⟩ := h.h
  cases x1 with
  | exit j =>
    refine ⟨⟨_, _, _, _, codeR_of (fun c1 e => by cases e) i1 fun B lim ρ w a hl hr ht => wp_block (wp_mono (i2 B lim ρ w a hl hr ht).1 ?_), h⟩⟩
    rintro e a1 w1 ⟨ρ1, t1, t2, t3, t4⟩
    cases e with
    | exit k =>
      have hk : j = k := t2
      subst hk
      by_cases hj : j = id
      · subst hj
        simp only [Exit.inBlock, if_true]
        exact ⟨ρ1, t1, trivial, t3, t4.imp_left (by rintro ⟨v, hv⟩; cases hv)⟩
      · simp only [Exit.inBlock, hj, if_false]
        exact ⟨ρ1, t1, rfl, t3, t4.imp_left (by rintro ⟨v, hv⟩; cases hv)⟩
    | _ => exact t2.elim
  | _ =>
    refine ⟨⟨_, _, _, _, codeR_of (fun c1 e => by cases e) i1 fun B lim ρ w a hl hr ht => wp_block (wp_mono (i2 B lim ρ w a hl hr ht).1 ?_), h⟩⟩
    rintro e a1 w1 hp
    cases e with
    | exit k => obtain ⟨ρ1, t1, t2, t3, t4⟩ := hp; exact t2.elim
    | _ => exact hp
/-- a loop: what holds at its head, and what goes down -/
theorem CodeE.loop {c : Code} (Inv : Nat → T → Hp → Nat → Prop) (hbody : ∀ m tm hp nx, Inv m tm hp nx → CodeE P N c tm hp nx fun x tm' hp' nx' => match x with
    | .normal => ∃ m', m' < m ∧ Inv m' tm' hp' nx'
    | x => Q x tm' hp' nx') : ∀ m tm hp nx, Inv m tm hp nx → CodeE P N (.loop c) tm hp nx Q := by
  intro m
  induction m using Nat.strongRecOn with
  | _ m ih =>
    intro tm hp nx hinv
    obtain ⟨x1, tm1, hp1, nx1, ⟨i1, i2⟩, h⟩ := (hbody m tm hp nx hinv).h
    cases x1 with
    | normal =>
      obtain ⟨m', hm, hi⟩ := h
      obtain ⟨x, tm', hp', nx', ⟨j1, j2⟩, hq⟩ := (ih m' hm tm1 hp1 nx1 hi).h
      refine ⟨⟨x, tm', hp', nx', ⟨Nat.le_trans i1 j1, fun B lim ρ w a hl hr ht => lwp_wp ?_⟩, hq⟩⟩
      have hw := (i2 B lim ρ w a (Nat.lt_of_le_of_lt j1 hl) hr ht).1
      intro b k cs
      obtain ⟨e, a1, w1, ⟨ρ1, t1, t2, t3, t4⟩, harr⟩ := hw b (.inLoop c :: k) cs
      cases e with
      | normal =>
        have ht1 := t4.resolve_left (by rintro ⟨v, hv⟩; cases hv)
        obtain ⟨e2, a2, w2, ⟨ρ2, u1, u2, u3, u4⟩, harr2⟩ := (j2 B lim ρ1 w1 a1 hl t1.1 ht1).2 c rfl b k cs
        exact ⟨e2, a2, w2, ⟨ρ2, ⟨u1.1, t1.2.trans u1.2⟩, u2, u3.trans t3, u4⟩, .of_steps (Steps.trans harr (.one step_inLoop)) harr2⟩
      | _ => exact t2.elim
    | _ =>
      refine ⟨⟨_, _, _, _, ⟨i1, fun B lim ρ w a hl hr ht => lwp_wp ?_⟩, h⟩⟩
      intro b k cs
      obtain ⟨e, a1, w1, hp, harr⟩ := (i2 B lim ρ w a hl hr ht).1 b (.inLoop c :: k) cs
      refine ⟨e, a1, w1, hp, .pass (x := .inLoop c) rfl (fun _ _ => .inl ?_) harr⟩
      obtain ⟨ρ1, t1, t2, t3, t4⟩ := hp
      rintro rfl
      exact t2.elim

/-- a loop's round, once -/
theorem CodeE.round {c : Code} (h : CodeE P N c tm hp nx fun x tm' hp' nx' => match x with
    | .normal => CodeE P N (.loop c) tm' hp' nx' Q
    | x => Q x tm' hp' nx') : CodeE P N (.loop c) tm hp nx Q := by
  obtain ⟨x1, tm1, hp1, nx1, ⟨i1, i2⟩, h⟩ := h.h
  cases x1 with
  | normal =>
    obtain ⟨x, tm', hp', nx', ⟨j1, j2⟩, hq⟩ := h.h
    refine ⟨⟨x, tm', hp', nx', ⟨Nat.le_trans i1 j1, fun B lim ρ w a hl hr ht => lwp_wp ?_⟩, hq⟩⟩
    have hw := (i2 B lim ρ w a (Nat.lt_of_le_of_lt j1 hl) hr ht).1
    intro b k cs
    obtain ⟨e, a1, w1, ⟨ρ1, t1, t2, t3, t4⟩, harr⟩ := hw b (.inLoop c :: k) cs
    cases e with
    | normal =>
      have ht1 := t4.resolve_left (by rintro ⟨v, hv⟩; cases hv)
      obtain ⟨e2, a2, w2, ⟨ρ2, u1, u2, u3, u4⟩, harr2⟩ := (j2 B lim ρ1 w1 a1 hl t1.1 ht1).2 c rfl b k cs
      exact ⟨e2, a2, w2, ⟨ρ2, ⟨u1.1, t1.2.trans u1.2⟩, u2, u3.trans t3, u4⟩, .of_steps (Steps.trans harr (.one step_inLoop)) harr2⟩
    | _ => exact t2.elim
  | _ =>
    refine ⟨⟨_, _, _, _, ⟨i1, fun B lim ρ w a hl hr ht => lwp_wp ?_⟩, h⟩⟩
    intro b k cs
    obtain ⟨e, a1, w1, hp, harr⟩ := (i2 B lim ρ w a hl hr ht).1 b (.inLoop c :: k) cs
    refine ⟨e, a1, w1, hp, .pass (x := .inLoop c) rfl (fun _ _ => .inl ?_) harr⟩
    obtain ⟨ρ1, t1, t2, t3, t4⟩ := hp
    rintro rfl
    exact t2.elim

/-! ### a function -/
def argsF : Nat → List Value → T
  | _, [] => fun _ => none
  | i, x :: xs => fun t => match Nat.beq t i with
    | true => some x
    | false => argsF (i + 1) xs t
theorem argsF_get : ∀ (l : List Value) (i k : Nat), argsF i l k = if i ≤ k ∧ k < i + l.length then l[k - i]? else none
  | [], i, k => by simp [argsF]
  | x :: xs, i, k => by
    unfold argsF
    cases hb : Nat.beq k i with
    | true =>
      have := Nat.eq_of_beq_eq_true hb
      subst this
      simp
    | false =>
      have hne : k ≠ i := by rintro rfl; simp at hb
      simp only [argsF_get xs (i + 1) k, List.length_cons]
      by_cases h1 : i + 1 ≤ k ∧ k < i + 1 + xs.length
      · rw [if_pos h1, if_pos (by omega)]
        have : k - i = (k - (i + 1)) + 1 := by omega
        rw [this, List.getElem?_cons_succ]
      · rw [if_neg h1, if_neg (by omega)]
theorem CallE.of_code (hE : EnvOk E P) {f : FuncId} {fn : Func} {c : Code} {args : List Value} {R : AEnd → Hp → Nat → Prop} (hf : P.funcs[f]? = some fn) (hc : fn.body = some c) (hlen : Nat.ble args.length fn.ntmps = true)
    (h : CodeE P fn.ntmps c (argsF 0 args) hp nx fun x tm' hp' nx' => match x with
      | .normal => ∃ vs, resultsA E tm' hp' fn.results.toList = some vs ∧ R (.ret (tupled vs)) hp' nx'
      | .ret => ∃ vs, resultsA E tm' hp' fn.results.toList = some vs ∧ R (.ret (tupled vs)) hp' nx'
      | .panic v => R (.panic v) hp' nx'
      | .exit _ => False) : CallE P f args hp nx R := by
  have hlen := Nat.le_of_ble_eq_true hlen
  obtain ⟨x, tm', hp', nx', ⟨i1, i2⟩, h⟩ := h.h
  have enter : ∀ (B lim : Nat) (ρ : Ren) (w : World) (args' : List Value), nx' < lim → HRel P B lim hp nx ρ w → All2 (VR ρ) args args' → ∀ R', (∀ en a' w', PostR P fn.ntmps B lim hp nx ρ w x tm' hp' nx' [] en a' w' → bodyPost P fn R' en a' w') → Calls P f ⟨args'⟩ w R' := by
    intro B lim ρ w args' hl hr hargs R' hR
    refine calls_of_wp hf hc (wp_mono (i2 B lim ρ w _ hl hr ⟨?_, ?_⟩).1 hR)
    · simp
      omega
    · intro t v hv
      rw [argsF_get args 0 t] at hv
      simp only [Nat.zero_le, Nat.zero_add, true_and, Nat.sub_zero] at hv
      split at hv
      · obtain ⟨y, h1, h2⟩ := hargs.get t v hv
        refine ⟨y, ?_, h2⟩
        rw [Array.getD_eq_getD_getElem?, Array.getElem?_append_left (by simpa using (List.getElem?_eq_some_iff.1 h1).1)]
        simp [h1]
      · cases hv
  have fin : ∀ (vs : List Value), resultsA E tm' hp' fn.results.toList = some vs → (x = .normal ∨ x = .ret) → CallR P f args hp nx (.ret (tupled vs)) hp' nx' := by
    intro vs hvs hx
    refine ⟨i1, fun B lim ρ w args' hl hr hargs => enter B lim ρ w args' hl hr hargs _ ?_⟩
    rintro en a' w' ⟨ρ', t1, t2, t3, t4⟩
    have ht' : TRel fn.ntmps ρ' tm' a'.tmps := t4.resolve_left (by rintro ⟨v, hv⟩; rcases hx with rfl | rfl <;> cases hv)
    obtain ⟨v', r1, r2⟩ := results_ok hE t1.1 ht' hvs
    rcases hx with rfl | rfl
    · cases en with
      | normal => exact ⟨t3, v', r1, ρ', t1, r2⟩
      | _ => exact t2.elim
    · cases en with
      | ret => exact ⟨t3, v', r1, ρ', t1, r2⟩
      | _ => exact t2.elim
  cases x with
  | normal => obtain ⟨vs, hvs, hq⟩ := h; exact ⟨_, _, _, fin vs hvs (.inl rfl), hq⟩
  | ret => obtain ⟨vs, hvs, hq⟩ := h; exact ⟨_, _, _, fin vs hvs (.inr rfl), hq⟩
  | panic y =>
    refine ⟨_, _, _, ⟨i1, fun B lim ρ w args' hl hr hargs => enter B lim ρ w args' hl hr hargs _ ?_⟩, h⟩
    rintro en a' w' ⟨ρ', t1, t2, t3, t4⟩
    cases en with
    | panic ch => exact ⟨t3, ρ', t1, t2⟩
    | _ => exact t2.elim
  | exit i => exact h.elim
end
end Go.Sy
namespace Go.Sy
open Go Go.RowKit Go.Sx

def fldOf (E : Env) (t : TypeId) (f : Nat) : Option (Nat × Nat) := match E.und t with
  | some (.struct fs) => (fs[f]?).bind fun f => (E.size f.type).bind fun n => some (f.offset, n)
  | _ => none
/-- what a slice's elements are: their type, their cells -/
def slcOf (E : Env) (t : TypeId) : Option (TypeId × Nat) := match E.und t with
  | some (.slice e) => (E.size e).bind fun n => some (e, n)
  | _ => none
theorem slcOf_some {E : Env} {t e n : Nat} (h : slcOf E t = some (e, n)) : E.und t = some (.slice e) ∧ E.size e = some n := by
  unfold slcOf at h
  split at h
  · rename_i e' he
    cases hs : E.size e' with
    | none => simp [hs] at h
    | some m => simp [hs] at h; obtain ⟨rfl, rfl⟩ := h; exact ⟨he, hs⟩
  · cases h
theorem fldOf_some {E : Env} {t f off n : Nat} (h : fldOf E t f = some (off, n)) : ∃ fs fd, E.und t = some (.struct fs) ∧ fs[f]? = some fd ∧ E.size fd.type = some n ∧ fd.offset = off := by
  unfold fldOf at h
  split at h
  · rename_i fs he
    simp only [Option.bind_eq_some_iff, Option.some.injEq, Prod.mk.injEq] at h
    obtain ⟨fd, h1, m, h2, rfl, rfl⟩ := h
    exact ⟨fs, fd, he, h1, h2, rfl⟩
  · cases h

theorem takeN_drop {l : List Value} : ∀ (n off : Nat) (r : List Value), r.length = n → (∀ i, i < n → l[off + i]? = r[i]?) → takeN n (dropN off l) = some r
  | 0, off, r, h, _ => by
    cases r with
    | nil => rfl
    | cons _ _ => simp at h
  | n + 1, off, [], h, _ => by simp at h
  | n + 1, off, x :: r, h, g => by
    have h0 := g 0 (by omega)
    simp only [Nat.add_zero, List.getElem?_cons_zero] at h0
    have hlt : off < l.length := (List.getElem?_eq_some_iff.1 h0).1
    have hx : l[off] = x := (List.getElem?_eq_some_iff.1 h0).2
    rw [dropN_eq, List.drop_eq_getElem_cons hlt, hx, ← dropN_eq]
    unfold takeN
    rw [takeN_drop n (off + 1) r (by simpa using h) fun i hi => by
      have := g (i + 1) (by omega)
      simpa [Nat.add_assoc, Nat.add_comm 1] using this]
    rfl
theorem hread_cells {hp : Hp} {p : Addr} {c : List Value} {e : TypeId} {own : Bool} {n : Nat} {r : List Value} (h : hp p.block = some (.cells c e own)) (hl : r.length = n) (hr : ∀ i, i < n → c[p.off + i]? = r[i]?) : hread hp p n = some r := by
  unfold hread
  rw [h]
  exact takeN_drop n p.off r hl hr
theorem hread_one {hp : Hp} {p : Addr} {c : List Value} {e : TypeId} {own : Bool} {v : Value} (h : hp p.block = some (.cells c e own)) (hr : c[p.off]? = some v) : hread hp p 1 = some [v] :=
  hread_cells h rfl fun i hi => by
    have : i = 0 := by omega
    subst this
    simpa using hr
theorem setAt_ok : ∀ (i : Nat) (vs l : List Value), i + vs.length ≤ l.length → setAt i vs l = some (l.take i ++ vs ++ l.drop (i + vs.length))
  | 0, [], l, _ => by simp [setAt]
  | 0, v :: vs, [], h => by simp at h
  | 0, v :: vs, x :: l, h => by
    have := setAt_ok 0 vs l (by simp at h ⊢; omega)
    simp [setAt, this]
  | i + 1, vs, [], h => by simp at h
  | i + 1, vs, x :: l, h => by
    have := setAt_ok i vs l (by simp at h ⊢; omega)
    simp [setAt, this, Nat.add_right_comm]
theorem set_eq_splice (l : List Value) (i : Nat) (v : Value) (h : i < l.length) : l.take i ++ [v] ++ l.drop (i + [v].length) = l.set i v := by
  rw [List.set_eq_take_append_cons_drop, if_pos h]
  simp
theorem hwrite_one {hp : Hp} {p : Addr} {c : List Value} {e : TypeId} {v : Value} (h : hp p.block = some (.cells c e true)) (hr : p.off < c.length) (h1 : v.oneCell' = true) : hwrite hp p [v] = some (.cells (c.set p.off v) e true) := by
  unfold hwrite
  rw [h]
  simp only [ones, h1, Bool.and_self, if_true]
  rw [setAt_ok p.off [v] c (by simp only [List.length_cons, List.length_nil]; omega), set_eq_splice _ _ _ hr]
  rfl
theorem hwrite_cells {hp : Hp} {p : Addr} {c vs : List Value} {e : TypeId} (h : hp p.block = some (.cells c e true)) (hr : p.off + vs.length ≤ c.length) (h1 : ones vs = true) : hwrite hp p vs = some (.cells (c.take p.off ++ vs ++ c.drop (p.off + vs.length)) e true) := by
  unfold hwrite
  rw [h]
  simp only [h1, if_true]
  rw [setAt_ok p.off vs c hr]
  rfl

/-! ### temporaries that are named one by one -/
def lit : List (Nat × Value) → T
  | [] => fun _ => none
  | (t, v) :: l => fun k => match Nat.beq k t with
    | true => some v
    | false => lit l k
def ExtL : List (Nat × Value) → T → Prop
  | [], _ => True
  | (t, v) :: l, tm => tm t = some v ∧ ExtL l tm
theorem ExtL.le : ∀ {l : List (Nat × Value)} {tm : T}, ExtL l tm → ∀ t v, lit l t = some v → tm t = some v
  | [], _, _, t, v, h => by simp [lit] at h
  | (u, x) :: l, tm, h, t, v, ht => by
    unfold lit at ht
    cases hb : Nat.beq t u with
    | true =>
      have := Nat.eq_of_beq_eq_true hb
      subst this
      simp only [hb] at ht
      rw [← ht]; exact h.1
    | false =>
      simp only [hb] at ht
      exact ExtL.le h.2 t v ht
theorem CodeE.less {P : Program} {N : Nat} {c : Code} {tm : T} {hp : Hp} {nx : Nat} {Q : X → T → Hp → Nat → Prop} {l : List (Nat × Value)} (hl : ExtL l tm) (h : CodeE P N c (lit l) hp nx Q) : CodeE P N c tm hp nx Q := by
  obtain ⟨x, tm', hp', nx', ⟨h1, h2⟩, hq⟩ := h.h
  exact ⟨⟨x, tm', hp', nx', ⟨h1, fun B lim ρ w a a1 a2 a3 => h2 B lim ρ w a a1 a2 ⟨a3.1, fun t v e => a3.2 t v (hl.le t v e)⟩⟩, hq⟩⟩
theorem ri {k : IntKind} {a b : Int} (h : a = b) : some (Value.int k a) = some (Value.int k b) := by rw [h]
theorem rb {a b : Bool} (h : a = b) : some (Value.bool a) = some (Value.bool b) := by rw [h]
theorem wrap_id {x : Int} (h1 : -9223372036854775808 ≤ x) (h2 : x ≤ 9223372036854775807) : IntKind.i64.wrap x = x := by
  rw [IntKind.wrap_i64]; omega

section
variable {E : Env} {P : Program} {tm : T} {hp : Hp} {nx : Nat} {d : Option Tmp} {ty : TypeId} {pos : String} {after : Array Edge} {g : Option (Nat × Bool)}
theorem StepO.value {o : Oper} {v : Value} {e : Eff} (h : opA E P tm hp nx o = some (.value v, e)) : StepO E P o tm hp nx v (e.hp hp nx) (e.nx nx) := ⟨⟨_, e, h, .inl rfl, rfl, rfl⟩⟩
theorem StepO.val {o : Oper} {v : Value} (h : opA E P tm hp nx o = some (.value v, .none)) : StepO E P o tm hp nx v hp nx := ⟨⟨_, .none, h, .inl rfl, rfl, rfl⟩⟩
theorem StepO.move {x : Operand} {v : Value} (h : ev tm x = some v) : StepO E P ⟨d, .move x, ty, pos, after, g⟩ tm hp nx v hp nx := .val (by simp [opA, h, Sx.val])
theorem StepO.assign {x : Operand} {v : Value} (h : ev tm x = some v) : StepO E P ⟨d, .assign x, ty, pos, after, g⟩ tm hp nx v hp nx := .val (by simp [opA, h, Sx.val])
theorem StepO.pickT {c x y : Operand} {v : Value} (hc : ev tm c = some (.bool true)) (h : ev tm x = some v) : StepO E P ⟨d, .pick c x y, ty, pos, after, g⟩ tm hp nx v hp nx := .val (by simp [opA, hc, h, Sx.val])
theorem StepO.pickF {c x y : Operand} {v : Value} (hc : ev tm c = some (.bool false)) (h : ev tm y = some v) : StepO E P ⟨d, .pick c x y, ty, pos, after, g⟩ tm hp nx v hp nx := .val (by simp [opA, hc, h, Sx.val])
theorem StepO.alloc {e : TypeId} {z : Value} {l : List Value} (hz : E.zero e = some z) (hl : z.cells.toList = l) : StepO E P ⟨d, .alloc e, ty, pos, after, g⟩ tm hp nx (.pointer (some ⟨nx, 0, none⟩)) (over hp nx (some (.cells l e true))) (nx + 1) := by
  subst hl
  exact .value (e := .new _) (by simp only [opA, hz, Option.bind_some, ptrTo])
theorem StepO.box {e : TypeId} {x : Operand} {v : Value} {l : List Value} (h : ev tm x = some v) (hl : v.cells.toList = l) : StepO E P ⟨d, .box e x, ty, pos, after, g⟩ tm hp nx (.pointer (some ⟨nx, 0, none⟩)) (over hp nx (some (.cells l e true))) (nx + 1) := by
  subst hl
  exact .value (e := .new _) (by simp only [opA, h, Option.bind_some, ptrTo])
theorem StepO.nilCheck {x : Operand} {a : Addr} (h : ev tm x = some (.pointer (some a))) : StepO E P ⟨d, .nilCheck x, ty, pos, after, g⟩ tm hp nx (.pointer (some a)) hp nx := .val (by simp [opA, h])
theorem StepO.nilCheckF {x : Operand} {f : FuncId} {fi ca : Array Value} (h : ev tm x = some (.func (.func f) fi ca)) : StepO E P ⟨d, .nilCheck x, ty, pos, after, g⟩ tm hp nx (.func (.func f) fi ca) hp nx := .val (by simp [opA, h])
theorem StepO.fieldAddr {t : TypeId} {x : Operand} {f off n : Nat} {a : Addr} (h : ev tm x = some (.pointer (some a))) (hf : fldOf E t f = some (off, n + 1)) :
    StepO E P ⟨d, .fieldAddr t x f, ty, pos, after, g⟩ tm hp nx (.pointer (some ⟨a.block, a.off + off, none⟩)) hp nx := by
  obtain ⟨fs, fd, h1, h2, h3, rfl⟩ := fldOf_some hf
  exact .val (by simp [opA, h, h1, h2, h3])
theorem StepO.load1 {t : TypeId} {x : Operand} {p : Addr} {c : List Value} {e : TypeId} {own : Bool} {v : Value} (h : ev tm x = some (.pointer (some p))) (ht : E.agg t = some false) (hc : hp p.block = some (.cells c e own)) (hv : c[p.off]? = some v) :
    StepO E P ⟨d, .load t x, ty, pos, after, g⟩ tm hp nx v hp nx := .val (by simp [opA, h, ht, hread_one hc hv, Sx.val])
theorem StepO.loadA {t : TypeId} {x : Operand} {p : Addr} {n : Nat} {r : List Value} (h : ev tm x = some (.pointer (some p))) (ht : E.agg t = some true) (hs : E.size t = some n) (hr : hread hp p n = some r) :
    StepO E P ⟨d, .load t x, ty, pos, after, g⟩ tm hp nx (.agg ⟨r⟩) hp nx := .val (by simp [opA, h, ht, hs, hr])
theorem StepO.store1 {t : TypeId} {x y : Operand} {p : Addr} {c : List Value} {e : TypeId} {v : Value} (h : ev tm x = some (.pointer (some p))) (hy : ev tm y = some v) (hs : E.size t = some 1) (hvc : v.cells = #[v]) (h1 : v.oneCell' = true) (hc : hp p.block = some (.cells c e true)) (hl : p.off < c.length) :
    StepO E P ⟨d, .store t x y, ty, pos, after, g⟩ tm hp nx undef (over hp p.block (some (.cells (c.set p.off v) e true))) nx :=
  ⟨⟨_, .upd p.block _, (by simp only [opA, h, hy, Option.bind_some, hs, hvc, hwrite_one hc hl h1, List.size_toArray, List.length_cons, List.length_nil, Nat.zero_add, if_true]), .inr ⟨rfl, rfl⟩, rfl, rfl⟩⟩
theorem StepO.storeA {t : TypeId} {x y : Operand} {p : Addr} {o : AObj} {l : List Value} (h : ev tm x = some (.pointer (some p))) (hy : ev tm y = some (.agg ⟨l⟩)) (hs : E.size t = some l.length) (hw : hwrite hp p l = some o) :
    StepO E P ⟨d, .store t x y, ty, pos, after, g⟩ tm hp nx undef (over hp p.block (some o)) nx :=
  ⟨⟨_, .upd p.block _, (by simp only [opA, h, hy, Option.bind_some, hs, Value.cells, List.size_toArray, if_true, hw]), .inr ⟨rfl, rfl⟩, rfl, rfl⟩⟩
theorem StepO.indexAddr {t : TypeId} {x i : Operand} {a : Addr} {n C : Nat} {k : IntKind} {iv : Int} {e sz : Nat} (h : ev tm x = some (.slice (some a) n C)) (hi : ev tm i = some (.int k iv)) (ht : slcOf E t = some (e, sz)) (hb : 0 ≤ iv ∧ iv < n) :
    StepO E P ⟨d, .indexAddr t x i, ty, pos, after, g⟩ tm hp nx (.pointer (some ⟨a.block, a.off + iv.toNat * sz, none⟩)) hp nx := by
  obtain ⟨h1, h2⟩ := slcOf_some ht
  exact .val (by simp [opA, h, hi, h1, h2, hb])
theorem StepO.binOp {op : BinOp} {t ty2 : TypeId} {x y : Operand} {vx vy v : Value} (hx : ev tm x = some vx) (hy : ev tm y = some vy) (hv : aBin E P op t (isConst x) (isConst y) vx vy = some v) :
    StepO E P ⟨d, .binOp op t x y ty2, ty, pos, after, g⟩ tm hp nx v hp nx := .val (by simp [opA, hx, hy, hv, Sx.val])
theorem StepO.unOp {op : UnOp} {t : TypeId} {x : Operand} {vx v : Value} (hx : ev tm x = some vx) (hv : aUn op vx = some v) :
    StepO E P ⟨d, .unOp op t x, ty, pos, after, g⟩ tm hp nx v hp nx := .val (by simp [opA, hx, hv, Sx.val])
theorem StepO.lenSlice {t : TypeId} {x : Operand} {a : Option Addr} {n C : Nat} {e sz : Nat} (h : ev tm x = some (.slice a n C)) (ht : slcOf E t = some (e, sz)) :
    StepO E P ⟨d, .call ⟨.builtin .len, #[x], #[t]⟩, ty, pos, after, g⟩ tm hp nx (.int .i64 n) hp nx := by
  obtain ⟨h1, h2⟩ := slcOf_some ht
  exact .val (by simp [opA, evs, h, aBuiltin, h1])
theorem StepO.extract {x : Operand} {i : Nat} {vs : Array Value} {v : Value} (h : ev tm x = some (.tuple vs)) (hv : vs[i]? = some v) :
    StepO E P ⟨d, .extract x i, ty, pos, after, g⟩ tm hp nx v hp nx := .val (by simp [opA, h, hv, Sx.val])
theorem StepO.field {t : TypeId} {x : Operand} {f : Nat} {cs : Array Value} {fs : Array Field} {fd : Field} {v : Value} (h : ev tm x = some (.agg cs)) (ht : E.und t = some (.struct fs)) (hf : fs[f]? = some fd) (hv : partOf E fd.type cs.toList fd.offset = some v) :
    StepO E P ⟨d, .field t x f, ty, pos, after, g⟩ tm hp nx v hp nx := .val (by simp [opA, h, ht, hf, hv, Sx.val])
theorem opA_call {f : FuncId} {fn : Func} {c : Code} {ar : Array Operand} {ts : Array TypeId} {args : List Value} (ha : evs tm ar.toList = some args) (hf : E.fn.get f = some fn) (hb : fn.body = some c) :
    opA E P tm hp nx ⟨d, .call ⟨.value (.func f), ar, ts⟩, ty, pos, after, g⟩ = some (.enter f args, .none) := by simp [opA, ha, ev, callTo, hf, hb]
theorem opA_callv {f : FuncId} {fn : Func} {c : Code} {x : Operand} {fi ca : List Value} {ar : Array Operand} {ts : Array TypeId} {args : List Value} (ha : evs tm ar.toList = some args) (hx : ev tm x = some (.func (.func f) ⟨fi⟩ ⟨ca⟩)) (hf : E.fn.get f = some fn) (hb : fn.body = some c) :
    opA E P tm hp nx ⟨d, .call ⟨.value x, ar, ts⟩, ty, pos, after, g⟩ = some (.enter f (fi ++ args ++ ca), .none) := by simp [opA, ha, hx, callTo, hf, hb]
end
end Go.Sy
namespace Go.Sy
open Go Go.RowKit Go.Sx

theorem ev_congr {tm tm' : T} {x : Operand} {v : Value} (h : ∀ t, x = .tmp t → tm' t = tm t) (e : ev tm x = some v) : ev tm' x = some v := by
  cases x with
  | tmp t => have := h t rfl; simp only [ev] at e ⊢; rw [this]; exact e
  | const c => exact e
  | global g => exact e
  | func f => exact e
def Look (tm tm' : T) (l : List Operand) : Prop := ∀ x ∈ l, ∀ v, ev tm x = some v → ev tm' x = some v
theorem evs_congr {tm tm' : T} : ∀ {l : List Operand} {vs : List Value}, Look tm tm' l → evs tm l = some vs → evs tm' l = some vs
  | [], _, _, e => e
  | x :: l, vs, h, e => by
    simp only [evs, Option.bind_eq_some_iff, Option.some.injEq] at e ⊢
    obtain ⟨v, h1, r, h2, rfl⟩ := e
    exact ⟨v, h x List.mem_cons_self v h1, r, evs_congr (fun y hy => h y (List.mem_cons_of_mem _ hy)) h2, rfl⟩
theorem evO_congr {tm tm' : T} {o : Option Operand} {v : Option Value} (h : Look tm tm' o.toList) (e : evO tm o = some v) : evO tm' o = some v := by
  cases o with
  | none => exact e
  | some x =>
    simp only [evO, Option.bind_eq_some_iff, Option.some.injEq] at e ⊢
    obtain ⟨u, h1, rfl⟩ := e
    exact ⟨u, h x (by simp) u h1, rfl⟩
theorem evParts_congr {tm tm' : T} : ∀ {l : List (Nat × Operand)} {vs : List (Nat × Value)}, Look tm tm' (l.map (·.2)) → evParts tm l = some vs → evParts tm' l = some vs
  | [], _, _, e => e
  | (i, x) :: l, vs, h, e => by
    simp only [evParts, Option.bind_eq_some_iff, Option.some.injEq] at e ⊢
    obtain ⟨v, h1, r, h2, rfl⟩ := e
    exact ⟨v, h x (by simp) v h1, r, evParts_congr (fun y hy => h y (by simp at hy ⊢; exact .inr hy)) h2, rfl⟩
theorem Look.sub {tm tm' : T} {l m : List Operand} (h : Look tm tm' l) (hs : ∀ x ∈ m, x ∈ l) : Look tm tm' m := fun x hx => h x (hs x hx)
theorem looked_look {all : Array Oper} {o : Oper} {tm : T} : Look tm (looked all o tm) o.op.operands.toList := by
  intro x hx v e
  refine ev_congr (fun t ht => ?_) e
  subst ht
  have hm : t ∈ o.looksAt all := by
    unfold Oper.looksAt
    rw [List.mem_append]
    left
    rw [List.mem_filterMap]
    exact ⟨.tmp t, hx, rfl⟩
  have : (o.looksAt all).contains t = true := by simpa using hm
  show (match (o.looksAt all).contains t with | true => tm t | false => none) = tm t
  rw [this]

/-- what is pointed to is told -/
def Sees (tm : T) (l : List Operand) (foot : List Nat) : Prop := ∀ x ∈ l, ∀ v, ev tm x = some v → ∀ k ∈ topsOf v, foot.contains k = true
theorem topsAll_sees {tm : T} : ∀ (l : List Operand), Sees tm l (topsAll tm l)
  | [], x, hx, _, _, _, _ => by cases hx
  | y :: l, x, hx, v, e, k, hk => by
    unfold topsAll
    cases hx with
    | head => rw [e]; simp [hk]
    | tail _ hx =>
      have := topsAll_sees l x hx v e k hk
      cases ev tm y with
      | none => exact this
      | some u => simp at this ⊢; exact .inr this
theorem hread_foot {hp : Hp} {foot : List Nat} {a : Addr} {n : Nat} {r : List Value} (h : foot.contains a.block = true) (e : hread hp a n = some r) : hread (fun k => match foot.contains k with | true => hp k | false => none) a n = some r := by
  unfold hread at e ⊢
  simp only [h]; exact e
theorem hwrite_foot {hp : Hp} {foot : List Nat} {a : Addr} {vs : List Value} {r : AObj} (h : foot.contains a.block = true) (e : hwrite hp a vs = some r) : hwrite (fun k => match foot.contains k with | true => hp k | false => none) a vs = some r := by
  unfold hwrite at e ⊢
  simp only [h]; exact e
theorem mapOf_foot {hp : Hp} {foot : List Nat} {m : Value} {r : List MapEntry} (h : ∀ k ∈ topsOf m, foot.contains k = true) (e : mapOf hp m = some r) : mapOf (fun k => match foot.contains k with | true => hp k | false => none) m = some r := by
  unfold mapOf at e ⊢
  split at e
  · exact e
  · rename_i k
    have := h k (by simp [topsOf])
    simp only [this]; exact e
  · cases e

section
variable {E : Env} {P : Program} {all : Array Oper} {o : Oper} {tm : T} {hp : Hp} {nx : Nat} {n : ANext} {e : Eff}
theorem aAppend_foot {foot : List Nat} {st : TypeId} {s x : Value} {r : Value × Eff} (h1 : ∀ k ∈ topsOf s, foot.contains k = true) (h2 : ∀ k ∈ topsOf x, foot.contains k = true) (h : aAppend E hp nx st s x = some r) :
    aAppend E (fun k => match foot.contains k with | true => hp k | false => none) nx st s x = some r := by
  unfold aAppend at h ⊢
  split at h
  · rename_i e0 base n0 C src m c0 hu
    simp only [Option.bind_eq_some_iff] at h ⊢
    obtain ⟨i, hi, h⟩ := h
    refine ⟨i, hi, ?_⟩
    split at h
    · rename_i hm; simp only [hm, if_true]; exact h
    · rename_i hm
      simp only [hm, if_false]
      split at h
      · cases h
      · rename_i hz
        simp only [hz, if_false]
        cases src with
        | none => exact h
        | some sa =>
          simp only [Option.bind_eq_some_iff] at h ⊢
          obtain ⟨news, hn, h⟩ := h
          refine ⟨news, hread_foot (h2 sa.block (by simp [topsOf])) hn, ?_⟩
          split at h
          · rename_i ho
            simp only [ho, if_true]
            cases base with
            | none => exact h
            | some a =>
              have := h1 a.block (by simp [topsOf])
              simp only [this]
              exact h
          · cases h
  · cases h
theorem aBuiltin_foot {foot : List Nat} {b : Builtin} {ts : Array TypeId} {args : List Value} {r : Value × Eff} (hb : b = .append ∨ b = .copy ∨ b = .delete ∨ b = .len → ∀ x ∈ args, ∀ k ∈ topsOf x, foot.contains k = true) (h : aBuiltin E hp nx b ts args = some r) :
    aBuiltin E (fun k => match foot.contains k with | true => hp k | false => none) nx b ts args = some r := by
  unfold aBuiltin at h ⊢
  split at h
  · rename_i x
    simp only [Option.bind_eq_some_iff] at h ⊢
    obtain ⟨t, ht, h⟩ := h
    refine ⟨t, ht, ?_⟩
    cases hu : E.und t with
    | none => simp only [hu] at h; cases h
    | some d =>
      cases d with
      | map kt et =>
        simp only [hu, Option.bind_eq_some_iff] at h ⊢
        obtain ⟨es, he, h⟩ := h
        exact ⟨es, mapOf_foot (hb (by simp) x (by simp)) he, h⟩
      | _ => simp only [hu] at h ⊢; first | exact h | (cases x <;> exact h)
  · rename_i s x
    split at h
    · rename_i t t'
      split at h
      · rename_i htt
        simp only [htt, if_true]
        subst htt
        exact aAppend_foot (hb (by simp) s (by simp)) (hb (by simp) x (by simp)) h
      · cases h
    · cases h
  · exact h
  · exact h
  · rename_i d n0 c0 s m c1
    simp only [Option.bind_eq_some_iff] at h ⊢
    obtain ⟨t, ht, h⟩ := h
    refine ⟨t, ht, ?_⟩
    split at h
    · simp only [Option.bind_eq_some_iff] at h ⊢
      obtain ⟨sz, hs, h⟩ := h
      refine ⟨sz, hs, ?_⟩
      split at h
      · rename_i hk; simp only [hk, if_true]; exact h
      · rename_i hk
        simp only [hk, if_false]
        split at h
        · rename_i da sa
          simp only [Option.bind_eq_some_iff] at h ⊢
          obtain ⟨c, hc, o, ho, h⟩ := h
          exact ⟨c, hread_foot (hb (by simp) (.slice (some sa) m c1) (by simp) sa.block (by simp [topsOf])) hc, o, hwrite_foot (hb (by simp) (.slice (some da) n0 c0) (by simp) da.block (by simp [topsOf])) ho, h⟩
        · cases h
    · cases h
  · rename_i r0 k
    have := hb (by simp) (.map (some r0)) (by simp) r0 (by simp [topsOf])
    simp only [this]
    exact h
  · cases h
theorem aStore_foot {foot : List Nat} {t : TypeId} {m k x : Value} {r : Eff} (hb : ∀ j ∈ topsOf m, foot.contains j = true) (h : aStoreMap E hp t m k x = some r) : aStoreMap E (fun k => match foot.contains k with | true => hp k | false => none) t m k x = some r := by
  unfold aStoreMap at h ⊢
  split at h
  · rename_i r0 kt et hu
    have := hb r0 (by simp [topsOf])
    simp only [this]
    exact h
  · cases h
/-- a function's call alone does not look there -/
theorem callTo_foot {hp' : Hp} {f f' : FuncId} {args args' : List Value} (h : callTo E hp nx f args = some (.enter f' args', .none)) : callTo E hp' nx f args = some (.enter f' args', .none) := by
  unfold callTo at h ⊢
  cases hf : E.fn.get f with
  | none => simp [hf] at h
  | some g =>
    simp only [hf] at h ⊢
    cases hb : g.body with
    | some c => simp only [hb] at h ⊢; exact h
    | none =>
      simp only [hb] at h
      split at h
      · unfold aClone at h
        split at h
        · split at h <;> simp at h
        · cases h
      · cases h
theorem bind_to {α β : Type} {x y : Option α} {f : α → Option β} {r : β} (hx : ∀ v, x = some v → y = some v) (h : x.bind f = some r) : y.bind f = some r := by
  simp only [Option.bind_eq_some_iff] at h ⊢
  obtain ⟨v, h1, h2⟩ := h
  exact ⟨v, hx v h1, h2⟩
theorem bind_to2 {α β : Type} {x y : Option α} {f g : α → Option β} {r : β} (hx : ∀ v, x = some v → y = some v) (hf : ∀ v, x = some v → f v = some r → g v = some r) (h : x.bind f = some r) : y.bind g = some r := by
  simp only [Option.bind_eq_some_iff] at h ⊢
  obtain ⟨v, h1, h2⟩ := h
  exact ⟨v, hx v h1, hf v h1 h2⟩
theorem val_to {x y : Option Value} {r : ANext × Eff} (hx : ∀ v, x = some v → y = some v) (h : Sx.val x = some r) : Sx.val y = some r := bind_to hx h
/-- what an operation told at the whole, it tells at what it looks at -/
theorem opA_local {tm' : T} {foot : List Nat} (hl : Look tm tm' o.op.operands.toList) (hs : Sees tm (touches o) foot) (hn : ∀ c, o.op = .call c → (∀ b, c.callee ≠ .builtin b) → ∃ f args, n = .enter f args ∧ e = .none) (h : opA E P tm hp nx o = some (n, e)) :
    opA E P tm' (fun k => match foot.contains k with | true => hp k | false => none) nx o = some (n, e) := by
  unfold opA at h ⊢
  cases ho : o.op <;> simp only [ho] at h ⊢ <;> simp only [ho, Op.operands] at hl
  case move x => exact val_to (hl x (by simp)) h
  case assign x => exact val_to (hl x (by simp)) h
  case pick c a b =>
    refine bind_to2 (hl c (by simp)) (fun v _ h => ?_) h
    cases v with
    | bool t =>
      cases t with
      | true => exact val_to (hl a (by simp)) h
      | false => exact val_to (hl b (by simp)) h
    | _ => cases h
  case alloc x => exact h
  case box t x => exact bind_to (hl x (by simp)) h
  case build t ps =>
    refine bind_to (fun v hv => evParts_congr (hl.sub (fun x hx => ?_)) hv) h
    simpa using hx
  case buildSlice t m ps =>
    refine bind_to (fun v hv => evParts_congr (hl.sub (fun x hx => ?_)) hv) h
    simpa using hx
  case load t x =>
    refine bind_to2 (hl x (by simp)) (fun v hv h => ?_) h
    match v, hv, h with
    | .pointer (some p), hv, h =>
      have hf : foot.contains p.block = true := hs x (by simp [touches, ho]) _ hv p.block (by simp [topsOf])
      refine bind_to2 (fun _ h => h) (fun g _ h => ?_) h
      cases g with
      | true => exact bind_to2 (fun _ h => h) (fun m _ h => bind_to (fun r hr => hread_foot hf hr) h) h
      | false => exact bind_to (fun r hr => hread_foot hf hr) h
  case store t x y =>
    refine bind_to2 (hl x (by simp)) (fun v hv h => ?_) h
    match v, hv, h with
    | .pointer (some p), hv, h =>
      have hf : foot.contains p.block = true := hs x (by simp [touches, ho]) _ hv p.block (by simp [topsOf])
      refine bind_to2 (hl y (by simp)) (fun u _ h => bind_to2 (fun _ h => h) (fun m _ h => ?_) h) h
      split at h
      · rename_i hm; simp only [hm, if_true]; exact bind_to (fun r hr => hwrite_foot hf hr) h
      · cases h
  case nilCheck x => exact bind_to (hl x (by simp)) h
  case binOp op t x y t2 => exact bind_to2 (hl x (by simp)) (fun v _ h => bind_to (hl y (by simp)) h) h
  case unOp op t x => exact bind_to (hl x (by simp)) h
  case convert s d x => exact bind_to (hl x (by simp)) h
  case makeInterface t x => exact bind_to (hl x (by simp)) h
  case makeFunc f fi ca =>
    cases f <;> simp only [] at h ⊢ <;> try exact h
    exact bind_to2 (fun v hv => evs_congr (hl.sub (fun x hx => by simp; exact .inl (by simpa using hx))) hv) (fun v _ h => bind_to (fun v hv => evs_congr (hl.sub (fun x hx => by simp; exact .inr (by simpa using hx))) hv) h) h
  case makeMap t r =>
    cases r with
    | none => exact h
    | some x => exact bind_to (hl x (by simp)) h
  case makeSlice t a b => exact bind_to2 (hl a (by simp)) (fun v _ h => bind_to (hl b (by simp)) h) h
  case slice t x lo hi mx =>
    refine bind_to2 (hl x (by simp)) (fun v _ h => ?_) h
    refine bind_to2 (fun v hv => evO_congr (hl.sub (fun y hy => by simp; simp at hy; simp [hy])) hv) (fun v _ h => ?_) h
    refine bind_to2 (fun v hv => evO_congr (hl.sub (fun y hy => by simp; simp at hy; simp [hy])) hv) (fun v _ h => ?_) h
    exact bind_to (fun v hv => evO_congr (hl.sub (fun y hy => by simp; simp at hy; simp [hy])) hv) h
  case fieldAddr t x f => exact bind_to (hl x (by simp)) h
  case field t x f => exact bind_to (hl x (by simp)) h
  case indexAddr t x i => exact bind_to2 (hl x (by simp)) (fun v _ h => bind_to (hl i (by simp)) h) h
  case index t x i => exact bind_to2 (hl x (by simp)) (fun v _ h => bind_to (hl i (by simp)) h) h
  case lookup t m k ok =>
    refine bind_to2 (hl m (by simp)) (fun v hv h => bind_to2 (hl k (by simp)) (fun u _ h => ?_) h) h
    have hf : ∀ j ∈ topsOf v, foot.contains j = true := hs m (by simp [touches, ho]) _ hv
    split at h
    · refine bind_to2 (fun _ h => h) (fun d _ h => ?_) h
      split at h
      · rename_i hk; simp only [hk, if_true]; exact bind_to (fun r hr => mapOf_foot hf hr) h
      · cases h
    · cases h
  case insert t m k x =>
    refine bind_to2 (hl m (by simp)) (fun v hv h => bind_to2 (hl k (by simp)) (fun u _ h => bind_to2 (hl x (by simp)) (fun z _ h => bind_to (fun r hr => aStore_foot (hs m (by simp [touches, ho]) _ hv) hr) h) h) h) h
  case mapUpdate t m k x =>
    refine bind_to2 (hl m (by simp)) (fun v hv h => bind_to2 (hl k (by simp)) (fun u _ h => bind_to2 (hl x (by simp)) (fun z _ h => bind_to (fun r hr => aStore_foot (hs m (by simp [touches, ho]) _ hv) hr) h) h) h) h
  case typeAssert x t1 t2 ok => exact bind_to (hl x (by simp)) h
  case extract x i => exact bind_to (hl x (by simp)) h
  case call c =>
    obtain ⟨callee, args, ts⟩ := c
    simp only [Call.operands] at hl
    have harg : ∀ vs, evs tm args.toList = some vs → evs tm' args.toList = some vs := fun vs hv => evs_congr (hl.sub (fun x hx => by simp; exact .inr (by simpa using hx))) hv
    have evsIn : ∀ (l : List Operand) (vs : List Value), evs tm l = some vs → ∀ v ∈ vs, ∃ x ∈ l, ev tm x = some v := by
      intro l
      induction l with
      | nil => intro vs h v hv; simp [evs] at h; subst h; cases hv
      | cons x l ih =>
        intro vs h v hv
        simp only [evs, Option.bind_eq_some_iff, Option.some.injEq] at h
        obtain ⟨u, h1, r, h2, rfl⟩ := h
        cases hv with
        | head => exact ⟨x, List.mem_cons_self, h1⟩
        | tail _ hv => obtain ⟨y, h3, h4⟩ := ih r h2 v hv; exact ⟨y, List.mem_cons_of_mem _ h3, h4⟩
    refine bind_to2 harg (fun vs hvs h => ?_) h
    cases callee with
    | builtin b =>
      refine bind_to (fun r hr => aBuiltin_foot (fun hb x hx k hk => ?_) hr) h
      obtain ⟨y, h1, h2⟩ := evsIn _ _ hvs x hx
      refine hs y ?_ x h2 k hk
      rcases hb with rfl | rfl | rfl | rfl <;> simpa [touches, ho] using h1
    | value f =>
      obtain ⟨f', args', rfl, rfl⟩ := hn _ ho (fun b => by simp)
      refine bind_to2 (hl f (by simp)) (fun v _ h => ?_) h
      match v, h with
      | .func (.func g) ⟨fi⟩ ⟨ca⟩, h => exact callTo_foot h
    | invoke r name =>
      obtain ⟨f', args', rfl, rfl⟩ := hn _ ho (fun b => by simp)
      refine bind_to2 (hl r (by simp)) (fun v _ h => ?_) h
      match v, h with
      | .iface t w, h => exact bind_to2 (fun _ h => h) (fun v _ h => callTo_foot h) h
  case panic x => exact bind_to (hl x (by simp)) h
  all_goals cases h
end
end Go.Sy
namespace Go.Sy
open Go Go.RowKit Go.Sx

def newK0 (o : Oper) : Bool :=
  match o.op with
  | .alloc _ => true
  | .box _ _ => true
  | .buildSlice _ _ _ => true
  | .makeMap _ _ => true
  | .makeSlice _ _ _ => true
  | _ => false
def fnK (o : Oper) : Bool :=
  match o.op with
  | .call c => match c.callee with
    | .builtin _ => false
    | _ => true
  | _ => false
def wrK0 (o : Oper) : Bool :=
  match o.op with
  | .store _ _ _ => true
  | .insert _ _ _ _ => true
  | .mapUpdate _ _ _ _ => true
  | .call c => match c.callee with
    | .builtin .append => true
    | .builtin .copy => true
    | .builtin .delete => true
    | .builtin _ => false
    | _ => true
  | _ => false
/-- a call of a function that leaves all as it was -/
def pureK (pl : List Nat) (o : Oper) : Bool :=
  match o.op with
  | .call c => match c.callee with
    | .value (.func f) => pl.contains f
    | _ => false
  | _ => false
def newK (pl : List Nat) (o : Oper) : Bool := newK0 o || pureK pl o
def wrK (pl : List Nat) (o : Oper) : Bool := wrK0 o && !pureK pl o
def touchK (o : Oper) : Bool := wrK0 o || !(touches o).isEmpty
theorem wrK_wr0 {pl : List Nat} {o : Oper} (h : wrK0 o = false) : wrK pl o = false := by simp [wrK, h]
theorem touch_of_wr {pl : List Nat} {o : Oper} (h : touchK o = false) : wrK pl o = false := by
  unfold touchK at h
  simp only [Bool.or_eq_false_iff] at h
  exact wrK_wr0 h.1
theorem pure_fn {pl : List Nat} {o : Oper} (h : fnK o = false) : pureK pl o = false := by
  unfold fnK at h
  unfold pureK
  cases ho : o.op <;> simp only [ho] at h ⊢
  rename_i c
  cases hc : c.callee <;> simp only [hc] at h ⊢ <;> cases h
/-- a row's length: no look at memory -/
def lenK (sl : List Nat) (o : Oper) : Bool :=
  match o.op with
  | .call c => match c.callee, c.argTypes with
    | .builtin .len, ⟨[t]⟩ => sl.contains t
    | _, _ => false
  | _ => false
def clash (sl pl : List Nat) (mask : Nat) (o : Oper) : Nat → List Oper → Bool
  | _, [] => true
  | k, x :: l => (mask.testBit k || !((newK pl x && (touchK o && !lenK sl o)) || (wrK pl x && touchK o) || (touchK x && wrK pl o))) && clash sl pl mask o (k + 1) l
/-- what writes is waited for, by all that looks -/
def chkD (sl pl : List Nat) (N : Nat) (all : Array Oper) : Nat → List Oper → List Nat → List Oper → Bool
  | _, _, _, [] => true
  | i, before, ms, o :: rest => match maskOf ms o.after.toList 0 with
    | none => false
    | some mask => apartD all mask o 0 before && dstOk N o.dst && clash sl pl mask o 0 before && chkD sl pl N all (i + 1) (before ++ [o]) (ms ++ [mask]) rest

theorem clash_ok {sl pl : List Nat} {mask : Nat} {o : Oper} : ∀ (l : List Oper) (k : Nat), clash sl pl mask o k l = true → ∀ j x, l[j]? = some x → mask.testBit (k + j) = true ∨ ((newK pl x && (touchK o && !lenK sl o)) = false ∧ (wrK pl x && touchK o) = false ∧ (touchK x && wrK pl o) = false)
  | [], _, _, j, x, h => by simp at h
  | a :: l, k, h, 0, x, hx => by
    simp only [clash, Bool.and_eq_true, Bool.or_eq_true, Bool.not_eq_true', Bool.or_eq_false_iff] at h
    simp at hx; subst hx
    rcases h.1 with h | ⟨⟨h1, h2⟩, h3⟩
    · exact .inl h
    · exact .inr ⟨h1, h2, h3⟩
  | a :: l, k, h, j + 1, x, hx => by
    simp only [clash, Bool.and_eq_true] at h
    have := clash_ok l (k + 1) h.2 j x (by simpa using hx)
    rwa [Nat.add_assoc, Nat.add_comm 1] at this

section
variable {E : Env} {P : Program} {o : Oper} {tm : T} {hp : Hp} {nx : Nat} {n : ANext} {e : Eff}
theorem len_any {sl : List Nat} (hsl : ∀ t ∈ sl, (slcOf E t).isSome = true) (hk : lenK sl o = true) {tm' : T} {hp' : Hp} (hl : Look tm tm' o.op.operands.toList) (h : opA E P tm hp nx o = some (n, e)) : opA E P tm' hp' nx o = some (n, e) := by
  unfold lenK at hk
  cases ho : o.op <;> simp only [ho] at hk <;> try (cases hk; done)
  rename_i c
  obtain ⟨cal, ar, ts⟩ := c
  dsimp only at hk
  split at hk
  · rename_i t
    have ht : t ∈ sl := by simpa using hk
    obtain ⟨r, hr⟩ := Option.isSome_iff_exists.1 (hsl t ht)
    obtain ⟨hu, _⟩ := slcOf_some (e := r.1) (n := r.2) hr
    unfold opA at h ⊢
    simp only [ho] at h ⊢
    simp only [ho, Op.operands, Call.operands] at hl
    refine bind_to2 (fun vs hv => evs_congr (hl.sub (fun x hx => by simpa using hx)) hv) (fun vs hvs h => ?_) h
    refine bind_to (fun r hb => ?_) h
    match vs, hb with
    | [x], hb =>
      simp only [aBuiltin, List.getElem?_toArray, List.getElem?_cons_zero, Option.bind_some, hu] at hb ⊢
      cases x <;> exact hb
    | [], hb => simp [aBuiltin] at hb
    | _ :: _ :: _, hb => simp [aBuiltin] at hb
  · cases hk
theorem opA_eff (h : opA E P tm hp nx o = some (n, e)) (hf : fnK o = false) : (newK0 o = false → wrK0 o = false → e = .none) ∧ (wrK0 o = false → effWr e = []) ∧ ∀ k ∈ effWr e, (hp k).isSome = true := by
  have fin0 : e = .none → (newK0 o = false → wrK0 o = false → e = .none) ∧ (wrK0 o = false → effWr e = []) ∧ ∀ k ∈ effWr e, (hp k).isSome = true := by
    rintro rfl; exact ⟨fun _ _ => rfl, fun _ => rfl, fun k hk => by cases hk⟩
  have finN : ∀ ob, newK0 o = true → e = .new ob → (newK0 o = false → wrK0 o = false → e = .none) ∧ (wrK0 o = false → effWr e = []) ∧ ∀ k ∈ effWr e, (hp k).isSome = true := by
    rintro ob hn rfl; exact ⟨fun h _ => (by rw [hn] at h; cases h), fun _ => rfl, fun k hk => by cases hk⟩
  have hv : ∀ {x : Option Value}, Sx.val x = some (n, e) → e = .none := by
    intro x h
    simp only [Sx.val, Option.bind_eq_some_iff, Option.some.injEq, Prod.mk.injEq] at h
    obtain ⟨_, _, _, rfl⟩ := h; rfl
  have wrs : ∀ {a : Addr} {vs : List Value} {ob : AObj}, hwrite hp a vs = some ob → (hp a.block).isSome = true := by
    intro a vs ob h
    unfold hwrite at h
    split at h
    · rename_i hq; rw [hq]; rfl
    · cases h
  have finW : wrK0 o = true → (∀ k ∈ effWr e, (hp k).isSome = true) → (newK0 o = false → wrK0 o = false → e = .none) ∧ (wrK0 o = false → effWr e = []) ∧ ∀ k ∈ effWr e, (hp k).isSome = true :=
    fun hw hk => ⟨fun _ h => (by rw [hw] at h; cases h), fun h => (by rw [hw] at h; cases h), hk⟩
  unfold opA at h
  cases ho : o.op <;> simp only [ho] at h
  case move x => exact fin0 (hv h)
  case assign x => exact fin0 (hv h)
  case pick c a b =>
    simp only [Option.bind_eq_some_iff] at h
    obtain ⟨v, _, h⟩ := h
    cases v with
    | bool t => exact fin0 (hv h)
    | _ => cases h
  case alloc t =>
    simp only [Option.bind_eq_some_iff, Option.some.injEq, Prod.mk.injEq] at h
    obtain ⟨_, _, _, rfl⟩ := h
    exact finN _ (by simp [newK0, ho]) rfl
  case box t x =>
    simp only [Option.bind_eq_some_iff, Option.some.injEq, Prod.mk.injEq] at h
    obtain ⟨_, _, _, rfl⟩ := h
    exact finN _ (by simp [newK0, ho]) rfl
  case build t ps =>
    refine fin0 ?_
    simp only [Option.bind_eq_some_iff] at h
    obtain ⟨_, _, _, _, h⟩ := h
    split at h
    · simp only [Option.bind_eq_some_iff, Option.some.injEq, Prod.mk.injEq] at h; obtain ⟨_, _, _, rfl⟩ := h; rfl
    · simp only [Option.bind_eq_some_iff, Option.some.injEq, Prod.mk.injEq] at h; obtain ⟨_, _, _, _, _, rfl⟩ := h; rfl
    · cases h
  case buildSlice t m ps =>
    simp only [Option.bind_eq_some_iff] at h
    obtain ⟨_, _, h⟩ := h
    split at h
    · simp only [Option.bind_eq_some_iff] at h
      obtain ⟨_, _, _, _, h⟩ := h
      split at h
      · simp only [Option.bind_eq_some_iff, Option.some.injEq, Prod.mk.injEq] at h
        obtain ⟨_, _, _, rfl⟩ := h
        exact finN _ (by simp [newK0, ho]) rfl
      · cases h
    · cases h
  case load t x =>
    refine fin0 ?_
    simp only [Option.bind_eq_some_iff] at h
    obtain ⟨v, _, h⟩ := h
    match v, h with
    | .pointer (some p), h =>
      simp only [Option.bind_eq_some_iff] at h
      obtain ⟨g, _, h⟩ := h
      cases g with
      | true => simp only [Option.bind_eq_some_iff, Option.some.injEq, Prod.mk.injEq] at h; obtain ⟨_, _, _, _, _, rfl⟩ := h; rfl
      | false => simp only [Option.bind_eq_some_iff] at h; obtain ⟨_, _, h⟩ := h; exact hv h
  case store t x y =>
    simp only [Option.bind_eq_some_iff] at h
    obtain ⟨v, _, h⟩ := h
    match v, h with
    | .pointer (some p), h =>
      simp only [Option.bind_eq_some_iff] at h
      obtain ⟨_, _, _, _, h⟩ := h
      split at h
      · simp only [Option.bind_eq_some_iff, Option.some.injEq, Prod.mk.injEq] at h
        obtain ⟨ob, hob, _, rfl⟩ := h
        exact finW (by simp [wrK0, ho]) fun k hk => by simp [effWr] at hk; subst hk; exact wrs hob
      · cases h
  case nilCheck x =>
    refine fin0 ?_
    simp only [Option.bind_eq_some_iff] at h
    obtain ⟨v, _, h⟩ := h
    match v, h with
    | .pointer (some a), h => simp at h; exact h.2.symm
    | .iface t w, h => simp at h; exact h.2.symm
    | .func (.func f) fi ca, h => simp at h; exact h.2.symm
  case binOp op t x y t2 => simp only [Option.bind_eq_some_iff] at h; obtain ⟨_, _, _, _, h⟩ := h; exact fin0 (hv h)
  case unOp op t x => simp only [Option.bind_eq_some_iff] at h; obtain ⟨_, _, h⟩ := h; exact fin0 (hv h)
  case convert s d x =>
    refine fin0 ?_
    simp only [Option.bind_eq_some_iff] at h
    obtain ⟨v, _, h⟩ := h
    split at h
    · simp only [Option.bind_eq_some_iff, Option.some.injEq, Prod.mk.injEq] at h; obtain ⟨_, _, _, rfl⟩ := h; rfl
    · split at h
      · simp at h; exact h.2.symm
      · cases h
  case makeInterface t x =>
    refine fin0 ?_
    simp only [Option.bind_eq_some_iff] at h
    obtain ⟨v, _, h⟩ := h
    split at h
    · cases h
    · simp at h; exact h.2.symm
    · cases h
  case makeFunc f fi ca =>
    refine fin0 ?_
    cases f <;> simp only [] at h
    case func f => simp only [Option.bind_eq_some_iff, Option.some.injEq, Prod.mk.injEq] at h; obtain ⟨_, _, _, _, _, rfl⟩ := h; rfl
    all_goals cases h
  case makeMap t r =>
    cases r with
    | none => simp only [Option.some.injEq, Prod.mk.injEq] at h; exact finN _ (by simp [newK0, ho]) h.2.symm
    | some x =>
      simp only [Option.bind_eq_some_iff] at h
      obtain ⟨v, _, h⟩ := h
      match v, h with
      | .int k i, h =>
        simp only at h
        split at h
        · simp only [Option.some.injEq, Prod.mk.injEq] at h; exact finN _ (by simp [newK0, ho]) h.2.symm
        · cases h
  case makeSlice t a b =>
    simp only [Option.bind_eq_some_iff] at h
    obtain ⟨_, _, _, _, h⟩ := h
    split at h
    · simp only [Option.bind_eq_some_iff] at h
      obtain ⟨_, _, _, _, h⟩ := h
      split at h
      · simp only [Option.some.injEq, Prod.mk.injEq] at h; exact finN _ (by simp [newK0, ho]) h.2.symm
      · cases h
    · cases h
  case slice t x lo hi mx => simp only [Option.bind_eq_some_iff] at h; obtain ⟨_, _, _, _, _, _, _, _, h⟩ := h; exact fin0 (hv h)
  case fieldAddr t x f =>
    refine fin0 ?_
    simp only [Option.bind_eq_some_iff] at h
    obtain ⟨v, _, h⟩ := h
    match v, h with
    | .pointer (some p), h =>
      simp only at h
      split at h
      · simp only [Option.bind_eq_some_iff] at h
        obtain ⟨_, _, _, _, h⟩ := h
        split at h
        · cases h
        · simp at h; exact h.2.symm
      · cases h
  case field t x f =>
    refine fin0 ?_
    simp only [Option.bind_eq_some_iff] at h
    obtain ⟨v, _, h⟩ := h
    match v, h with
    | .agg cs, h =>
      simp only at h
      split at h
      · simp only [Option.bind_eq_some_iff] at h; obtain ⟨_, _, h⟩ := h; exact hv h
      · cases h
  case indexAddr t x i =>
    refine fin0 ?_
    simp only [Option.bind_eq_some_iff] at h
    obtain ⟨_, _, _, _, h⟩ := h
    split at h
    · simp only [Option.bind_eq_some_iff] at h
      obtain ⟨_, _, h⟩ := h
      split at h
      · simp at h; exact h.2.symm
      · cases h
    · simp only [Option.bind_eq_some_iff] at h
      obtain ⟨_, _, h⟩ := h
      split at h
      · simp at h; exact h.2.symm
      · cases h
    · cases h
  case index t x i =>
    refine fin0 ?_
    simp only [Option.bind_eq_some_iff] at h
    obtain ⟨_, _, _, _, h⟩ := h
    split at h
    · simp only [Option.bind_eq_some_iff] at h
      obtain ⟨_, _, h⟩ := h
      split at h
      · exact hv h
      · cases h
    · split at h
      · simp only [Option.bind_eq_some_iff, Option.some.injEq, Prod.mk.injEq] at h; obtain ⟨_, _, _, rfl⟩ := h; rfl
      · cases h
    · cases h
  case lookup t m k ok =>
    refine fin0 ?_
    simp only [Option.bind_eq_some_iff] at h
    obtain ⟨_, _, _, _, h⟩ := h
    split at h
    · simp only [Option.bind_eq_some_iff] at h
      obtain ⟨_, _, h⟩ := h
      split at h
      · simp only [Option.bind_eq_some_iff] at h
        obtain ⟨_, _, f, _, h⟩ := h
        cases f with
        | none => simp only [Option.bind_eq_some_iff, Option.some.injEq, Prod.mk.injEq] at h; obtain ⟨_, _, _, rfl⟩ := h; rfl
        | some p => simp only [Option.some.injEq, Prod.mk.injEq] at h; exact h.2.symm
      · cases h
    · cases h
  case insert t m k x =>
    simp only [Option.bind_eq_some_iff, Option.some.injEq, Prod.mk.injEq] at h
    obtain ⟨v, _, _, _, _, _, f, hf, _, rfl⟩ := h
    refine finW (by simp [wrK0, ho]) fun k hk => ?_
    unfold aStoreMap at hf
    split at hf
    · rename_i r kt et hu
      simp only [Option.bind_eq_some_iff] at hf
      obtain ⟨_, _, hf⟩ := hf
      split at hf
      · rename_i hq
        split at hf
        · simp only [Option.bind_eq_some_iff] at hf
          obtain ⟨g, _, hf⟩ := hf
          cases g <;> simp at hf <;> subst hf <;> simp [effWr] at hk <;> subst hk <;> rw [hq] <;> rfl
        · cases hf
      · cases hf
    · cases hf
  case mapUpdate t m k x =>
    simp only [Option.bind_eq_some_iff, Option.some.injEq, Prod.mk.injEq] at h
    obtain ⟨v, _, _, _, _, _, f, hf, _, rfl⟩ := h
    refine finW (by simp [wrK0, ho]) fun k hk => ?_
    unfold aStoreMap at hf
    split at hf
    · rename_i r kt et hu
      simp only [Option.bind_eq_some_iff] at hf
      obtain ⟨_, _, hf⟩ := hf
      split at hf
      · rename_i hq
        split at hf
        · simp only [Option.bind_eq_some_iff] at hf
          obtain ⟨g, _, hf⟩ := hf
          cases g <;> simp at hf <;> subst hf <;> simp [effWr] at hk <;> subst hk <;> rw [hq] <;> rfl
        · cases hf
      · cases hf
    · cases hf
  case typeAssert x t1 t2 ok => simp only [Option.bind_eq_some_iff] at h; obtain ⟨_, _, h⟩ := h; exact fin0 (hv h)
  case extract x i =>
    refine fin0 ?_
    simp only [Option.bind_eq_some_iff] at h
    obtain ⟨v, _, h⟩ := h
    match v, h with
    | .tuple vs, h => exact hv h
  case call c =>
    obtain ⟨callee, args, ts⟩ := c
    cases callee with
    | value f => simp [fnK, ho] at hf
    | invoke r nm => simp [fnK, ho] at hf
    | builtin b =>
      simp only [Option.bind_eq_some_iff, Option.some.injEq, Prod.mk.injEq] at h
      obtain ⟨vs, _, ⟨v, f⟩, hb, _, rfl⟩ := h
      unfold aBuiltin at hb
      split at hb
      · refine fin0 ?_
        simp only [Option.bind_eq_some_iff] at hb
        obtain ⟨_, _, hb⟩ := hb
        split at hb
        · simp at hb; exact hb.2.symm
        · simp at hb; exact hb.2.symm
        · simp only [Option.bind_eq_some_iff, Option.some.injEq, Prod.mk.injEq] at hb; obtain ⟨_, _, _, rfl⟩ := hb; rfl
        · simp at hb; exact hb.2.symm
        · cases hb
      · refine finW (by simp [wrK0, ho]) fun k hk => ?_
        split at hb
        · split at hb
          · unfold aAppend at hb
            split at hb
            · simp only [Option.bind_eq_some_iff] at hb
              obtain ⟨_, _, hb⟩ := hb
              split at hb
              · simp at hb; rw [← hb.2] at hk; cases hk
              · split at hb
                · cases hb
                · split at hb
                  · cases hb
                  · simp only [Option.bind_eq_some_iff] at hb
                    obtain ⟨_, _, hb⟩ := hb
                    split at hb
                    · split at hb
                      · split at hb
                        · simp at hb; rw [← hb.2] at hk; cases hk
                        · cases hb
                      · split at hb
                        · rename_i hq
                          split at hb
                          · split at hb
                            · split at hb
                              · simp only [Option.bind_eq_some_iff, Option.some.injEq, Prod.mk.injEq] at hb
                                obtain ⟨_, _, _, rfl⟩ := hb
                                simp [effWr] at hk; subst hk; rw [hq]; rfl
                              · simp only [Option.bind_eq_some_iff, Option.some.injEq, Prod.mk.injEq] at hb
                                obtain ⟨_, _, _, rfl⟩ := hb
                                cases hk
                            · split at hb
                              · split at hb
                                · simp only [Option.bind_eq_some_iff, Option.some.injEq, Prod.mk.injEq] at hb
                                  obtain ⟨_, _, _, rfl⟩ := hb
                                  simp [effWr] at hk; subst hk; rw [hq]; rfl
                                · split at hb
                                  · simp only [Option.some.injEq, Prod.mk.injEq] at hb
                                    obtain ⟨_, rfl⟩ := hb
                                    simp [effWr] at hk; subst hk; rw [hq]; rfl
                                  · cases hb
                              · cases hb
                          · cases hb
                        · cases hb
                    · cases hb
            · cases hb
          · cases hb
        · cases hb
      · simp only [Option.bind_eq_some_iff, Option.some.injEq, Prod.mk.injEq] at hb; obtain ⟨_, _, _, rfl⟩ := hb; exact fin0 rfl
      · simp only [Option.bind_eq_some_iff, Option.some.injEq, Prod.mk.injEq] at hb; obtain ⟨_, _, _, rfl⟩ := hb; exact fin0 rfl
      · refine finW (by simp [wrK0, ho]) fun k hk => ?_
        simp only [Option.bind_eq_some_iff] at hb
        obtain ⟨_, _, hb⟩ := hb
        split at hb
        · simp only [Option.bind_eq_some_iff] at hb
          obtain ⟨_, _, hb⟩ := hb
          split at hb
          · simp at hb; rw [← hb.2] at hk; cases hk
          · split at hb
            · simp only [Option.bind_eq_some_iff, Option.some.injEq, Prod.mk.injEq] at hb
              obtain ⟨_, _, ob, hob, _, rfl⟩ := hb
              simp [effWr] at hk; subst hk; exact wrs hob
            · cases hb
        · cases hb
      · refine finW (by simp [wrK0, ho]) fun k hk => ?_
        simp only [Option.bind_eq_some_iff] at hb
        obtain ⟨_, _, hb⟩ := hb
        split at hb
        · simp only [Option.bind_eq_some_iff] at hb
          obtain ⟨_, _, hb⟩ := hb
          split at hb
          · rename_i hq
            split at hb
            · simp only [Option.bind_eq_some_iff] at hb
              obtain ⟨g, _, hb⟩ := hb
              cases g <;> simp at hb <;> obtain ⟨_, rfl⟩ := hb <;> simp [effWr] at hk <;> subst hk <;> rw [hq] <;> rfl
            · cases hb
          · cases hb
        · cases hb
      · cases hb
  case panic x =>
    refine fin0 ?_
    simp only [Option.bind_eq_some_iff] at h
    obtain ⟨v, _, h⟩ := h
    match v, h with
    | .iface a b, h => simp at h; exact h.2.symm
  all_goals cases h
end
end Go.Sy
namespace Go.Sy
open Go Go.RowKit Go.Sx

/-- an operation of a drawn region that ends with a value -/
def StepD (pl : List Nat) (E : Env) (P : Program) (o : Oper) (tm : T) (hp : Hp) (nx : Nat) (v : Value) (hp' : Hp) (nx' : Nat) : Prop :=
  (fnK o = false ∧ ∃ n e, opA E P tm hp nx o = some (n, e) ∧ (n = .value v ∨ (n = .skip ∧ v = undef)) ∧ hp' = e.hp hp nx ∧ nx' = e.nx nx) ∨
  (fnK o = true ∧ ∃ (f : FuncId) (args : List Value) (wr : List Nat), opA E P tm hp nx o = some (.enter f args, .none) ∧ CallR P f args hp nx (.ret v) hp' nx' ∧ (∀ k, k ∉ wr → (k < nx ∨ nx' ≤ k) → hp' k = hp k) ∧ (∀ k ∈ wr, k < nx ∧ (hp k).isSome = true) ∧ (pureK pl o = true → wr = []))
/-- the operations of a drawn region, in the text's order -/
def SeqD0 (pl : List Nat) (E : Env) (P : Program) (all : Array Oper) (Q : T → Hp → Nat → Prop) : List Oper → T → Hp → Nat → Prop
  | [], tm, hp, nx => Q tm hp nx
  | o :: rest, tm, hp, nx =>
    (wantedA tm all o = some false ∧ SeqD0 pl E P all Q rest (upd tm o.dst undef) hp (nx + 1)) ∨
    (wantedA tm all o = some true ∧ ∃ v hp' nx', StepD pl E P o tm hp nx v hp' nx' ∧ SeqD0 pl E P all Q rest (upd tm o.dst v) hp' (nx' + 1))

theorem wanted_looked {all : Array Oper} {o : Oper} {tm : T} {b : Bool} (h : wantedA tm all o = some b) : wantedA (looked all o tm) all o = some b := by
  unfold wantedA at h ⊢
  cases hg : o.guard with
  | none => simp only [hg] at h ⊢; exact h
  | some g =>
    obtain ⟨j, want⟩ := g
    simp only [hg] at h ⊢
    cases hd : (all[j]?).bind (·.dst) with
    | none => simp only [hd] at h ⊢; exact h
    | some d =>
      simp only [hd] at h ⊢
      have hm : (o.looksAt all).contains d = true := by
        have : d ∈ o.looksAt all := by
          unfold Oper.looksAt
          rw [List.mem_append]
          right
          simp [hg, hd]
        simpa using this
      have : looked all o tm d = tm d := by
        show (match (o.looksAt all).contains d with | true => tm d | false => none) = tm d
        rw [hm]
      rw [this]; exact h
theorem within_def (foot : List Nat) (h : FH) : within foot h = fun k => match foot.contains k with | true => h k | false => none := by
  funext k; rfl
theorem tset_upd {N : Nat} {tm : FT} {d : Option Tmp} {v : Value} (h : dstOk N d = true) : tset N tm d v = some (upd tm d v) := by
  cases d with
  | none => rfl
  | some d =>
    unfold dstOk at h
    simp only at h
    unfold tset
    simp only [h]
    rfl

structure Entry where
  f : FuncId
  args : List Value
  S : St
  v : Value
  S' : St
open Classical in
noncomputable def tab (R : List Entry) : CallF := fun f args S =>
  if h : ∃ e ∈ R, e.f = f ∧ e.args = args ∧ e.S = S then some (.ret (Classical.choose h).v, (Classical.choose h).S') else none
theorem tab_ok {P : Program} {R : List Entry} (h : ∀ e ∈ R, CallOk P e.f e.args e.S (.ret e.v) e.S') : CallsOk P (tab R) := by
  intro f args S e S' hc
  unfold tab at hc
  split at hc
  · rename_i hx
    simp only [Option.some.injEq, Prod.mk.injEq] at hc
    obtain ⟨rfl, rfl⟩ := hc
    obtain ⟨h1, h2, h3, h4⟩ := Classical.choose_spec hx
    have := h _ h1
    rw [h2, h3, h4] at this
    exact this
  · cases hc
theorem tab_at {R : List Entry} (hR : R.Pairwise fun a b => a.S.next < b.S.next) {e : Entry} (he : e ∈ R) : tab R e.f e.args e.S = some (.ret e.v, e.S') := by
  have hx : ∃ x ∈ R, x.f = e.f ∧ x.args = e.args ∧ x.S = e.S := ⟨e, he, rfl, rfl, rfl⟩
  unfold tab
  rw [dif_pos hx]
  obtain ⟨h1, h2, h3, h4⟩ := Classical.choose_spec hx
  have uniq : ∀ (l : List Entry), l.Pairwise (fun a b => a.S.next < b.S.next) → ∀ a ∈ l, ∀ b ∈ l, a.S.next = b.S.next → a = b := by
    intro l hl
    induction hl with
    | nil => intro a ha; cases ha
    | @cons x l hx _ ih =>
      intro a ha b hb hab
      cases ha with
      | head =>
        cases hb with
        | head => rfl
        | tail _ hb => have := hx b hb; omega
      | tail _ ha =>
        cases hb with
        | head => have := hx a ha; omega
        | tail _ hb => exact ih a ha b hb hab
  have := uniq R hR _ h1 e he (by rw [h4])
  rw [this]

/-- what those told so far -/
structure Qt (pl : List Nat) (before : List Oper) (recs : List Rec) : Prop where
  len : recs.length = before.length
  at_ : ∀ (j : Nat) (r : Rec) (x : Oper), recs[j]? = some r → before[j]? = some x → r.i = j ∧ (newK pl x = false → wrK pl x = false → r.delta = []) ∧ (wrK pl x = false → r.wr = []) ∧ (touchK x = false → r.rd = some [])
section
variable {pl : List Nat} {E : Env} {P : Program} {call : CallF} {N : Nat} {all : Array Oper} {h0 : Hp}
theorem Qt.snoc {before : List Oper} {recs : List Rec} (q : Qt pl before recs) {o : Oper} {r : Rec} (hi : r.i = before.length) (h1 : newK pl o = false → wrK pl o = false → r.delta = []) (h2 : wrK pl o = false → r.wr = []) (h3 : touchK o = false → r.rd = some []) : Qt pl (before ++ [o]) (recs ++ [r]) := by
  refine ⟨by simp [q.len], fun j r' x hr hx => ?_⟩
  by_cases hj : j < recs.length
  · rw [List.getElem?_append_left hj] at hr
    rw [List.getElem?_append_left (by rw [← q.len]; exact hj)] at hx
    exact q.at_ j r' x hr hx
  · rw [List.getElem?_append_right (by omega)] at hr
    rw [List.getElem?_append_right (by rw [← q.len]; omega)] at hx
    have h0 : j - recs.length = 0 := by
      have := (List.getElem?_eq_some_iff.1 hr).1
      simp at this; omega
    have h0' : j - before.length = 0 := by rw [← q.len]; exact h0
    rw [h0] at hr; rw [h0'] at hx
    simp at hr hx
    subst hr; subst hx
    exact ⟨by have := q.len; omega, h1, h2, h3⟩
theorem calmD_id {i mask : Nat} {rd : Option (List Nat)} {wr : List Nat} {delta : List (Nat × Option AObj)} : ∀ {l : List Rec}, (∀ r ∈ l, mask.testBit r.i = true ∨ (meets r.wr rd = false ∧ meets wr r.rd = false)) → calmD E P all i mask rd wr delta l = some l
  | [], _ => rfl
  | r :: l, h => by
    have ih := calmD_id (i := i) (delta := delta) fun x hx => h x (List.mem_cons_of_mem _ hx)
    simp only [calmD, ih, Option.bind_some]
    cases hm : mask.testBit r.i with
    | true => rfl
    | false =>
      rcases h r List.mem_cons_self with h | ⟨h1, h2⟩
      · rw [hm] at h; cases h
      · simp only [h1, h2]
theorem meets_nil_rd (wr : List Nat) : meets wr (some []) = false := by simp [meets]
theorem meets_nil_wr (rd : Option (List Nat)) : meets [] rd = false := by cases rd <;> simp [meets]
theorem Qt.calm {sl : List Nat} {before : List Oper} {recs : List Rec} (q : Qt pl before recs) {o : Oper} {mask : Nat} (hc : clash sl pl mask o 0 before = true) {rd : Option (List Nat)} {wr : List Nat} (h2 : wrK pl o = false → wr = []) (h3 : touchK o = false → rd = some []) :
    ∀ r ∈ recs, mask.testBit r.i = true ∨ (meets r.wr rd = false ∧ meets wr r.rd = false) := by
  intro r hr
  obtain ⟨j, hj⟩ := List.getElem?_of_mem hr
  have hjl : j < before.length := by rw [← q.len]; exact (List.getElem?_eq_some_iff.1 hj).1
  have hx : before[j]? = some before[j] := List.getElem?_eq_getElem hjl
  obtain ⟨q1, q2, q3, q4⟩ := q.at_ j r _ hj hx
  rcases clash_ok before 0 hc j _ hx with h | ⟨g0, g1, g2⟩
  · left; rw [q1]; simpa using h
  · right
    constructor
    · cases ht : touchK o with
      | false => rw [h3 ht]; exact meets_nil_rd _
      | true =>
        rw [ht] at g1
        simp only [Bool.and_true] at g1
        rw [q3 g1]; exact meets_nil_wr _
    · cases hw : wrK pl o with
      | false => rw [h2 hw]; exact meets_nil_wr _
      | true =>
        rw [hw] at g2
        simp only [Bool.and_true] at g2
        rw [q4 g2]; exact meets_nil_rd _
theorem Qt.view {sl : List Nat} {before : List Oper} {recs : List Rec} (q : Qt pl before recs) {o : Oper} {mask : Nat} (hc : clash sl pl mask o 0 before = true) (ht : touchK o = true) (hlk : lenK sl o = false) : viewD h0 mask recs = layR h0 recs := by
  have h1 : (viewD h0 mask recs).get = layR h0 (recs.filter fun r => mask.testBit r.i) := viewD_get mask recs h0 fun _ _ k _ => Nat.lt_succ_self k
  funext k
  show (viewD h0 mask recs).get k = layR h0 recs k
  rw [h1]
  refine (layR_filter (fun r => mask.testBit r.i) recs h0 k fun r hr hm => ?_).symm
  obtain ⟨j, hj⟩ := List.getElem?_of_mem hr
  have hjl : j < before.length := by rw [← q.len]; exact (List.getElem?_eq_some_iff.1 hj).1
  have hx : before[j]? = some before[j] := List.getElem?_eq_getElem hjl
  obtain ⟨q1, q2, q3, q4⟩ := q.at_ j r _ hj hx
  rcases clash_ok before 0 hc j _ hx with h | ⟨g0, g1, g2⟩
  · rw [q1] at hm; simp at h; rw [hm] at h; cases h
  · rw [ht] at g1 g0
    rw [hlk] at g0
    simp only [Bool.and_true, Bool.not_false] at g1 g0
    rw [q2 g0 g1]
    simp [idsOf]

theorem draw_tells {sl : List Nat} (hsl : ∀ t ∈ sl, (slcOf E t).isSome = true) {Q : T → Hp → Nat → Prop} : ∀ (rest : List Oper) (i : Nat) (before : List Oper) (ms : List Nat) (recs : List Rec) (tm : T) (hp : Hp) (nx : Nat),
    chkD sl pl N all i before ms rest = true → i = before.length → Qt pl before recs → hp = layR h0 recs → (∀ k o, hp k = some o → k < nx) → SeqD0 pl E P all Q rest tm hp nx →
    ∃ R : List Entry, (∀ e ∈ R, nx ≤ e.S.next ∧ CallOk P e.f e.args e.S (.ret e.v) e.S') ∧ R.Pairwise (fun a b => a.S.next < b.S.next) ∧
      ∀ call : CallF, (∀ e ∈ R, call e.f e.args e.S = some (.ret e.v, e.S')) → ∃ recsF tmF nxF, drawA E P call N all h0 i before ms rest recs tm nx = some (recsF, tmF, nxF) ∧ Q tmF (layR h0 recsF) nxF := by
  intro rest
  induction rest with
  | nil =>
    intro i before ms recs tm hp nx _ _ _ he _ h
    subst he
    exact ⟨[], fun e he => (by cases he), List.Pairwise.nil, fun call _ => ⟨recs, tm, nx, rfl, h⟩⟩
  | cons o rest ih =>
    intro i before ms recs tm hp nx hchk hi q he hwf h
    unfold chkD at hchk
    split at hchk
    · cases hchk
    rename_i mask hmask
    simp only [Bool.and_eq_true] at hchk
    obtain ⟨⟨⟨hap, hd⟩, hcl⟩, hchk⟩ := hchk
    have hblt : Nat.blt nx (nx + 1) = true := Nat.ble_eq_true_of_le (Nat.le_refl _)
    rcases h with ⟨hw, h⟩ | ⟨hw, v, hp', nx', hs, h⟩
    · obtain ⟨R, r1, r2, r3⟩ := ih (i + 1) (before ++ [o]) (ms ++ [mask]) (recs ++ [⟨i, mask, some [], [], [], undef, o, tm, .nil, nx, nx, none⟩]) (upd tm o.dst undef) hp (nx + 1) hchk (by simp [hi])
        (q.snoc hi (fun _ _ => rfl) (fun _ => rfl) (fun _ => rfl)) (by rw [layR_append]; exact he) (fun k ob hk => Nat.lt_succ_of_lt (hwf k ob hk)) h
      refine ⟨R, fun e he => ⟨by have := (r1 e he).1; omega, (r1 e he).2⟩, r2, fun call hcall => ?_⟩
      obtain ⟨recsF, tmF, nxF, hF, hQ⟩ := r3 call hcall
      refine ⟨recsF, tmF, nxF, ?_, hQ⟩
      unfold drawA
      simp only [hmask, hap, hblt, Bool.and_self, Option.bind_some, wanted_looked hw, tset_upd hd]
      exact hF
    · rcases hs with ⟨hfn, n, e, hop, hn, rfl, rfl⟩ | ⟨hfn, f, args, wr, hop, hcr, hkeep, hwr, hpw⟩
      · obtain ⟨e1', e2', e3⟩ := opA_eff hop hfn
        have hpf := pure_fn (pl := pl) hfn
        have e1 : newK pl o = false → wrK pl o = false → e = .none := by unfold newK wrK; rw [hpf]; simpa using e1'
        have e2 : wrK pl o = false → effWr e = [] := by unfold wrK; rw [hpf]; simpa using e2'
        have hloc : opA E P (looked all o tm) (within (topsAll (looked all o tm) (touches o)) (viewD h0 mask recs)) nx o = some (n, e) := by
          have hl := opA_local (tm' := looked all o tm) (foot := topsAll (looked all o tm) (touches o)) looked_look (fun x hx u hu k hk => topsAll_sees (touches o) x hx u (looked_look x ?_ u hu) k hk) (fun c hc hb => ?_) hop
          · rw [within_def]
            cases ht : touchK o with
            | true =>
              cases hlk : lenK sl o with
              | false => rw [q.view hcl ht hlk, ← he]; exact hl
              | true => exact len_any hsl hlk looked_look hop
            | false =>
              have hnil : touches o = [] := by
                unfold touchK at ht
                simp only [Bool.or_eq_false_iff, Bool.not_eq_false', List.isEmpty_iff] at ht
                exact ht.2
              have : topsAll (looked all o tm) (touches o) = [] := by rw [hnil]; rfl
              rw [this] at hl ⊢
              have hl' : opA E P (looked all o tm) (within [] hp) nx o = some (n, e) := hl
              have e0 : within [] (viewD h0 mask recs) = within [] hp := by funext k; simp [within]
              rw [← within_def, e0]
              exact hl'
          · unfold touches at hx
            cases ho : o.op <;> simp only [ho] at hx <;> try (cases hx; done)
            case load t a => simp only [Op.operands]; simp at hx; simp [hx]
            case store t a b => simp only [Op.operands]; simp at hx; simp [hx]
            case lookup t a b c => simp only [Op.operands]; simp at hx; simp [hx]
            case insert t a b c => simp only [Op.operands]; simp at hx; simp [hx]
            case mapUpdate t a b c => simp only [Op.operands]; simp at hx; simp [hx]
            case call c =>
              simp only [Op.operands, Call.operands]
              have : x ∈ c.args.toList := by
                split at hx <;> first | exact hx | cases hx
              rw [Array.toList_append]
              exact List.mem_append_right _ this
          · obtain ⟨cal, ar, ts⟩ := c
            cases cal with
            | builtin b => exact absurd rfl (hb b)
            | _ => simp [fnK, hc] at hfn
        have hwrok : wrOk (viewD h0 mask recs) nx (some (topsAll (looked all o tm) (touches o))) (effWr e) = true := by
          unfold wrOk
          rw [List.all_eq_true]
          intro k hk
          have h2 := (opA_eff hloc hfn).2.2 k hk
          have hk1 : (topsAll (looked all o tm) (touches o)).contains k = true ∧ ((viewD h0 mask recs).get k).isSome = true := by
            rw [within_def] at h2
            dsimp only at h2
            cases hc : (topsAll (looked all o tm) (touches o)).contains k with
            | true => rw [hc] at h2; exact ⟨rfl, h2⟩
            | false => rw [hc] at h2; cases h2
          have h3 := e3 k hk
          obtain ⟨ob, hob⟩ := Option.isSome_iff_exists.1 h3
          have hlt := hwf k ob hob
          simp only [show Nat.blt k nx = true from Nat.ble_eq_true_of_le hlt, hk1.1, hk1.2, Bool.and_self]
        have hcalm := calmD_id (E := E) (P := P) (all := all) (i := i) (delta := effD e nx) (q.calm hcl (rd := some (topsAll (looked all o tm) (touches o))) (wr := effWr e) e2 (fun ht => by
          have hnil : touches o = [] := by
            unfold touchK at ht
            simp only [Bool.or_eq_false_iff, Bool.not_eq_false', List.isEmpty_iff] at ht
            exact ht.2
          rw [hnil]; rfl))
        have hlay : e.hp hp nx = layR h0 (recs ++ [⟨i, mask, some (topsAll (looked all o tm) (touches o)), effWr e, effD e nx, v, o, tm, viewD h0 mask recs, nx, e.nx nx, none⟩]) := by
          rw [layR_append, ← he]
          simp only [layR]
          rw [effD_lay]
        have hwf' : ∀ k ob, e.hp hp nx k = some ob → k < e.nx nx + 1 := by
          intro k ob hk
          have hge := eff_nx_ge' e nx
          have old : ∀ j ob, hp j = some ob → j < e.nx nx + 1 := fun j ob hj => by have := hwf j ob hj; omega
          cases e with
          | none => exact old k ob hk
          | new ob' =>
            simp only [Eff.hp, over] at hk
            split at hk
            · subst_vars; simp [Eff.nx]; omega
            · exact old k ob hk
          | upd j ob' =>
            simp only [Eff.hp, over] at hk
            split at hk
            · subst_vars
              obtain ⟨ob2, hob⟩ := Option.isSome_iff_exists.1 (e3 j (by simp [effWr]))
              exact old j ob2 hob
            · exact old k ob hk
          | move j ob' =>
            simp only [Eff.hp, over] at hk
            split at hk
            · subst_vars; simp [Eff.nx]; omega
            · split at hk
              · cases hk
              · exact old k ob hk
        obtain ⟨R, r1, r2, r3⟩ := ih (i + 1) (before ++ [o]) (ms ++ [mask]) (recs ++ [⟨i, mask, some (topsAll (looked all o tm) (touches o)), effWr e, effD e nx, v, o, tm, viewD h0 mask recs, nx, e.nx nx, none⟩]) (upd tm o.dst v) (e.hp hp nx) (e.nx nx + 1) hchk (by simp [hi])
          (q.snoc hi (fun a b => by rw [e1 a b]; rfl) e2 (fun ht => by
            have hnil : touches o = [] := by
              unfold touchK at ht
              simp only [Bool.or_eq_false_iff, Bool.not_eq_false', List.isEmpty_iff] at ht
              exact ht.2
            show some (topsAll _ (touches o)) = _
            rw [hnil]; rfl)) hlay hwf' h
        · refine ⟨R, fun e' he' => ⟨by have := (r1 e' he').1; have := eff_nx_ge' e nx; omega, (r1 e' he').2⟩, r2, fun call hcall => ?_⟩
          obtain ⟨recsF, tmF, nxF, hF, hQ⟩ := r3 call hcall
          refine ⟨recsF, tmF, nxF, ?_, hQ⟩
          unfold drawA
          simp only [hmask, hap, hblt, Bool.and_self, Option.bind_some, wanted_looked hw, hloc]
          rcases hn with rfl | ⟨rfl, rfl⟩ <;> simp only [hwrok, hcalm, Option.bind_some, tset_upd hd] <;> first | done | exact hF
      · have ht : touchK o = true := by
          unfold touchK wrK0
          unfold fnK at hfn
          cases ho : o.op <;> simp only [ho] at hfn <;> try (cases hfn; done)
          rename_i c
          simp only
          cases hc : c.callee <;> simp only [hc] at hfn ⊢ <;> first | (cases hfn; done) | simp
        have hlk : lenK sl o = false := by
          unfold lenK
          unfold fnK at hfn
          cases ho : o.op <;> simp only [ho] at hfn <;> try (cases hfn; done)
          rename_i c
          simp only
          cases hc : c.callee <;> simp only [hc] at hfn ⊢ <;> first | (cases hfn; done) | rfl
        have hwk : wrK0 o = true := by
          unfold wrK0
          unfold fnK at hfn
          cases ho : o.op <;> simp only [ho] at hfn <;> try (cases hfn; done)
          rename_i c
          simp only
          cases hc : c.callee <;> simp only [hc] at hfn ⊢ <;> first | (cases hfn; done) | rfl
        have hloc : opA E P (looked all o tm) (within (topsAll (looked all o tm) (touches o)) (viewD h0 mask recs)) nx o = some (.enter f args, .none) := by
          have hl := opA_local (tm' := looked all o tm) (foot := topsAll (looked all o tm) (touches o)) looked_look (fun x hx u hu k hk => topsAll_sees (touches o) x hx u (looked_look x ?_ u hu) k hk) (fun c hc hb => ⟨f, args, rfl, rfl⟩) hop
          · rw [within_def, q.view hcl ht hlk, ← he]; exact hl
          · unfold touches at hx
            unfold fnK at hfn
            cases ho : o.op <;> simp only [ho] at hfn <;> try (cases hfn; done)
            rename_i c
            simp only [ho] at hx
            simp only [Op.operands, Call.operands]
            have : x ∈ c.args.toList := by
              split at hx <;> first | exact hx | cases hx
            rw [Array.toList_append]
            exact List.mem_append_right _ this
        have hview : viewD h0 mask recs = hp := by rw [q.view hcl ht hlk, ← he]
        have hcok : CallOk P f args ⟨(hp : FH), nx, nx, []⟩ (.ret v) ⟨(hp' : FH), nx', nx, wr⟩ :=
          ⟨⟨hcr.1, rfl, fun k hk => (by cases hk), fun _ k hk hn => hkeep k hn (.inl hk)⟩, fun B lim ρ w args' hl hr ha => hcr.2 B lim ρ w args' hl hr ha⟩
        have hwrok : wrOk (viewD h0 mask recs) nx none wr = true := by
          unfold wrOk
          rw [List.all_eq_true]
          intro k hk
          obtain ⟨h1, h2⟩ := hwr k hk
          rw [hview]
          simp only [show Nat.blt k nx = true from Nat.ble_eq_true_of_le h1, show (FH.get hp k).isSome = true from h2, Bool.and_self]
        have hwn : wrK pl o = false → wr = [] := by
          unfold wrK; rw [hwk]; simp only [Bool.true_and, Bool.not_eq_false']; exact hpw
        have hnn : newK pl o = false → wrK pl o = true := by
          unfold newK wrK; rw [hwk]; simp only [Bool.or_eq_false_iff, Bool.true_and, Bool.not_eq_true']; exact fun h => h.2
        have hcalm := calmD_id (E := E) (P := P) (all := all) (i := i) (delta := (wr.map fun k => (k, FH.get hp' k)) ++ newsD hp' nx (nx' - nx)) (q.calm hcl (rd := none) (wr := wr) hwn (fun h => by rw [ht] at h; cases h))
        have hlay : hp' = layR h0 (recs ++ [⟨i, mask, none, wr, (wr.map fun k => (k, FH.get hp' k)) ++ newsD hp' nx (nx' - nx), v, o, tm, viewD h0 mask recs, nx, nx', none⟩]) := by
          rw [layR_append, ← he]
          simp only [layR]
          rw [layF_append]
          funext k
          have hge := hcr.1
          by_cases hk : nx ≤ k ∧ k < nx'
          · rw [newsD_val hp' _ (nx' - nx) nx k hk.1 (by omega)]; rfl
          · rw [layF_other _ _ _ (by rw [newsD_ids]; omega)]
            by_cases hkw : k ∈ wr
            · rw [mapD_val hp' wr hp k hkw]; rfl
            · rw [layF_other _ _ _ (by rw [mapD_ids]; exact hkw)]
              exact hkeep k hkw (by omega)
        have hwf' : ∀ k ob, hp' k = some ob → k < nx' + 1 := by
          intro k ob hk
          by_cases hkw : k ∈ wr
          · have := (hwr k hkw).1; have := hcr.1; omega
          · by_cases hk1 : nx ≤ k ∧ k < nx'
            · omega
            · rw [hkeep k hkw (by omega)] at hk
              have := hwf k ob hk; have := hcr.1; omega
        obtain ⟨R, r1, r2, r3⟩ := ih (i + 1) (before ++ [o]) (ms ++ [mask]) (recs ++ [⟨i, mask, none, wr, (wr.map fun k => (k, FH.get hp' k)) ++ newsD hp' nx (nx' - nx), v, o, tm, viewD h0 mask recs, nx, nx', none⟩]) (upd tm o.dst v) hp' (nx' + 1) hchk (by simp [hi])
          (q.snoc hi (fun a b => by rw [hnn a] at b; cases b) hwn (fun b => by rw [ht] at b; cases b)) hlay hwf' h
        · refine ⟨⟨f, args, ⟨(hp : FH), nx, nx, []⟩, v, ⟨(hp' : FH), nx', nx, wr⟩⟩ :: R, fun e' he' => ?_, List.Pairwise.cons (fun e' he' => ?_) r2, fun call hcall => ?_⟩
          · cases he' with
            | head => exact ⟨Nat.le_refl _, hcok⟩
            | tail _ he' => exact ⟨by have := (r1 e' he').1; have := hcr.1; omega, (r1 e' he').2⟩
          · have := (r1 e' he').1; have := hcr.1; show nx < e'.S.next; omega
          · obtain ⟨recsF, tmF, nxF, hF, hQ⟩ := r3 call fun e' he' => hcall e' (List.mem_cons_of_mem _ he')
            refine ⟨recsF, tmF, nxF, ?_, hQ⟩
            have hc := hcall _ List.mem_cons_self
            dsimp only at hc
            have hb2 : Nat.blt nx' (nx' + 1) = true := Nat.ble_eq_true_of_le (Nat.le_refl _)
            unfold drawA
            simp only [hmask, hap, hblt, Bool.and_self, Option.bind_some, wanted_looked hw, hloc]
            rw [hview] at hwrok ⊢
            simp only [hc, Option.bind_some, hwrok, hb2, Bool.and_self, hcalm, tset_upd hd]
            rw [hview] at hF
            first | done | exact hF
end

theorem StepD.ge {pl : List Nat} {E : Env} {P : Program} {o : Oper} {tm : T} {hp : Hp} {nx : Nat} {v : Value} {hp' : Hp} {nx' : Nat} (h : StepD pl E P o tm hp nx v hp' nx') : nx ≤ nx' := by
  rcases h with ⟨_, n, e, _, _, _, rfl⟩ | ⟨_, f, args, wr, _, h, _⟩
  · exact eff_nx_ge' e nx
  · exact h.1
theorem SeqD.ends {pl : List Nat} {E : Env} {P : Program} {all : Array Oper} {Q : T → Hp → Nat → Prop} : ∀ (rest : List Oper) (tm : T) (hp : Hp) (nx : Nat), SeqD0 pl E P all Q rest tm hp nx → ∃ tm' hp' nx', nx ≤ nx' ∧ Q tm' hp' nx'
  | [], tm, hp, nx, h => ⟨tm, hp, nx, Nat.le_refl _, h⟩
  | o :: rest, tm, hp, nx, h => by
    rcases h with ⟨_, h⟩ | ⟨_, v, hp1, nx1, hs, h⟩
    · obtain ⟨a, b, c, h1, h2⟩ := SeqD.ends rest _ _ _ h
      exact ⟨a, b, c, by omega, h2⟩
    · obtain ⟨a, b, c, h1, h2⟩ := SeqD.ends rest _ _ _ h
      have := hs.ge
      exact ⟨a, b, c, by omega, h2⟩
structure SeqD (pl : List Nat) (E : Env) (P : Program) (all : Array Oper) (Q : T → Hp → Nat → Prop) (ops : List Oper) (tm : T) (hp : Hp) (nx : Nat) : Prop where
  h : SeqD0 pl E P all Q ops tm hp nx
theorem CodeE.draw (sl pl : List Nat) {E : Env} {P : Program} (hsl : ∀ t ∈ sl, (slcOf E t).isSome = true) (hE : EnvOk E P) {N : Nat} {tm : T} {hp : Hp} {nx : Nat} {Q : X → T → Hp → Nat → Prop} {id : Nat} {ops : Array Oper} (hc : chkD sl pl N ops 0 [] [] ops.toList = true) (h : SeqD pl E P ops (fun tm' hp' nx' => Q .normal tm' hp' nx') ops.toList tm hp nx) :
    CodeE P N (.region id ops true) tm hp nx Q := by
  by_cases hwf : ∀ k o, hp k = some o → k < nx
  case neg =>
    obtain ⟨tm', hp', nx', hge, hq⟩ := SeqD.ends _ _ _ _ h.h
    refine ⟨⟨.normal, tm', hp', nx', ⟨hge, fun B lim ρ w a _ hr _ => absurd hr.lt hwf⟩, hq⟩⟩
  obtain ⟨R, r1, r2, r3⟩ := draw_tells hsl (h0 := hp) ops.toList 0 [] [] [] tm hp nx hc rfl ⟨rfl, fun j r x h => by simp at h⟩ rfl hwf h.h
  obtain ⟨recsF, tmF, nxF, hF, hQ⟩ := r3 (tab R) fun e he => tab_at r2 he
  have hcall := tab_ok (P := P) fun e he => (r1 e he).2
  obtain ⟨g1, g2⟩ := region_draw_ok hE hcall (Nat.lt_succ_self N) (S := ⟨(hp : FH), nx, nx, []⟩) hF
  have hge : nx ≤ nxF := g1.next
  have hlay : (layAll (hp : FH) recsF).get = layR hp recsF := layAll_get _ _ fun _ _ k _ => Nat.lt_succ_self k
  refine ⟨⟨.normal, tmF, layR hp recsF, nxF, codeR_of (fun c1 e => by cases e) hge fun B lim ρ w a hl hr ht => ?_, hQ⟩⟩
  refine g2 id B lim ρ w a _ hl hr ht fun ρ' a' w' t1 t2 t3 => ?_
  obtain ⟨t11, t12⟩ := t1
  refine ⟨ρ', ⟨?_, ?_⟩, trivial, t3, .inr t2⟩
  · rw [← hlay]; exact t11
  · rw [← hlay]; exact t12

section
variable {pl : List Nat} {E : Env} {P : Program} {all : Array Oper} {tm : T} {hp : Hp} {nx : Nat} {Q : T → Hp → Nat → Prop}
theorem SeqD.step {o : Oper} {rest : List Oper} {v : Value} {hp1 : Hp} {nx1 : Nat} (h : StepO E P o tm hp nx v hp1 nx1) (hw : wantedA tm all o = some true) (hf : fnK o = false)
    (k : SeqD pl E P all Q rest (upd tm o.dst v) hp1 (nx1 + 1)) : SeqD pl E P all Q (o :: rest) tm hp nx := by
  obtain ⟨n, e, h1, h2, h3, h4⟩ := h.h
  exact ⟨.inr ⟨hw, v, hp1, nx1, .inl ⟨hf, n, e, h1, h2, h3, h4⟩, k.h⟩⟩
theorem SeqD.call {o : Oper} {rest : List Oper} {v : Value} {hp1 : Hp} {nx1 : Nat} {f : FuncId} {args : List Value} (hop : opA E P tm hp nx o = some (.enter f args, .none)) (hc : CallR P f args hp nx (.ret v) hp1 nx1) (wr : List Nat)
    (h1 : ∀ k, k ∉ wr → (k < nx ∨ nx1 ≤ k) → hp1 k = hp k) (h2 : ∀ k ∈ wr, k < nx ∧ (hp k).isSome = true) (h3 : pureK pl o = true → wr = []) (hw : wantedA tm all o = some true) (hf : fnK o = true)
    (k : SeqD pl E P all Q rest (upd tm o.dst v) hp1 (nx1 + 1)) : SeqD pl E P all Q (o :: rest) tm hp nx :=
  ⟨.inr ⟨hw, v, hp1, nx1, .inr ⟨hf, f, args, wr, hop, hc, h1, h2, h3⟩, k.h⟩⟩
theorem SeqD.leave {o : Oper} {rest : List Oper} (hw : wantedA tm all o = some false) (k : SeqD pl E P all Q rest (upd tm o.dst undef) hp (nx + 1)) : SeqD pl E P all Q (o :: rest) tm hp nx := ⟨.inl ⟨hw, k.h⟩⟩
theorem SeqD.nil (h : Q tm hp nx) : SeqD pl E P all Q [] tm hp nx := ⟨h⟩
end
end Go.Sy
namespace Go.Sy
open Go Go.RowKit Go.Sx

/-! ### tables -/
section
variable {α : Type}
def look1 (t : Nat) : List (Nat × α) → Option α
  | [] => none
  | (u, x) :: l => match Nat.beq t u with
    | true => some x
    | false => look1 t l
end
structure Tab where
  fld : List (Nat × List (Nat × Nat))
  slc : List (Nat × (Nat × Nat))
  agg : List (Nat × Bool)
  size : List (Nat × Nat)
section
variable {α : Type}
def at? : List α → Nat → Option α
  | [], _ => none
  | x :: l, n => match n with
    | 0 => some x
    | k + 1 => at? l k
end
def fldsOk (E : Env) (t : Nat) : Nat → List (Nat × Nat) → Bool
  | _, [] => true
  | i, x :: l => (match fldOf E t i with
    | some y => Nat.beq x.1 y.1 && Nat.beq x.2 y.2
    | none => false) && fldsOk E t (i + 1) l
def allL {α : Type} (p : α → Bool) : List α → Bool
  | [] => true
  | x :: l => p x && allL p l
def Tab.ok (E : Env) (T : Tab) : Bool :=
  allL (fun x => fldsOk E x.1 0 x.2) T.fld &&
  allL (fun x => match slcOf E x.1 with
    | some y => Nat.beq x.2.1 y.1 && Nat.beq x.2.2 y.2
    | none => false) T.slc &&
  allL (fun x => match E.agg x.1 with
    | some y => x.2 == y
    | none => false) T.agg &&
  allL (fun x => match E.size x.1 with
    | some y => Nat.beq x.2 y
    | none => false) T.size
theorem look1_mem {α : Type} {t : Nat} {x : α} : ∀ {l : List (Nat × α)}, look1 t l = some x → (t, x) ∈ l
  | [], h => by simp [look1] at h
  | (u, y) :: l, h => by
    unfold look1 at h
    cases hb : Nat.beq t u with
    | true =>
      simp only [hb, Option.some.injEq] at h
      have := Nat.eq_of_beq_eq_true hb
      subst this; subst h
      exact List.mem_cons_self
    | false => simp only [hb] at h; exact List.mem_cons_of_mem _ (look1_mem h)
theorem allL_mem {α : Type} {p : α → Bool} : ∀ {l : List α}, allL p l = true → ∀ x ∈ l, p x = true
  | y :: l, h, x, hx => by
    simp only [allL, Bool.and_eq_true] at h
    cases hx with
    | head => exact h.1
    | tail _ hx => exact allL_mem h.2 x hx
theorem fldsOk_at {E : Env} {t : Nat} : ∀ {l : List (Nat × Nat)} {i : Nat}, fldsOk E t i l = true → ∀ k x, at? l k = some x → fldOf E t (i + k) = some x
  | [], i, _, k, x, hx => by simp [at?] at hx
  | y :: l, i, h, k, x, hx => by
    simp only [fldsOk, Bool.and_eq_true] at h
    cases k with
    | zero =>
      simp only [at?, Option.some.injEq] at hx
      subst hx
      have h1 := h.1
      split at h1
      · rename_i z hz
        simp only [Bool.and_eq_true] at h1
        rw [Nat.add_zero, hz]
        obtain ⟨a, b⟩ := y
        obtain ⟨c, d⟩ := z
        have e1 := Nat.eq_of_beq_eq_true h1.1
        have e2 := Nat.eq_of_beq_eq_true h1.2
        dsimp only at e1 e2
        rw [e1, e2]
      · cases h1
    | succ k =>
      have := fldsOk_at h.2 k x hx
      rwa [Nat.add_assoc, Nat.add_comm 1] at this
section
variable {E : Env} {T : Tab} (h : T.ok E = true)
include h
theorem Tab.fldAt {t f : Nat} {l : List (Nat × Nat)} {r : Nat × Nat} (h1 : look1 t T.fld = some l) (h2 : at? l f = some r) : fldOf E t f = some r := by
  simp only [Tab.ok, Bool.and_eq_true] at h
  have := fldsOk_at (allL_mem h.1.1.1 _ (look1_mem h1)) f r h2
  rwa [Nat.zero_add] at this
theorem Tab.slcAt {t : Nat} {r : Nat × Nat} (h1 : look1 t T.slc = some r) : slcOf E t = some r := by
  simp only [Tab.ok, Bool.and_eq_true] at h
  have := allL_mem h.1.1.2 _ (look1_mem h1)
  dsimp only at this
  split at this
  · rename_i y hy
    simp only [Bool.and_eq_true] at this
    rw [hy]
    obtain ⟨a, b⟩ := r
    obtain ⟨c, d⟩ := y
    have e1 := Nat.eq_of_beq_eq_true this.1
    have e2 := Nat.eq_of_beq_eq_true this.2
    dsimp only at e1 e2
    rw [e1, e2]
  · cases this
theorem Tab.aggAt {t : Nat} {r : Bool} (h1 : look1 t T.agg = some r) : E.agg t = some r := by
  simp only [Tab.ok, Bool.and_eq_true] at h
  have := allL_mem h.1.2 _ (look1_mem h1)
  dsimp only at this
  split at this
  · rename_i y hy; rw [hy]; simp at this; rw [this]
  · cases this
theorem Tab.sizeAt {t : Nat} {r : Nat} (h1 : look1 t T.size = some r) : E.size t = some r := by
  simp only [Tab.ok, Bool.and_eq_true] at h
  have := allL_mem h.2 _ (look1_mem h1)
  dsimp only at this
  split at this
  · rename_i y hy; rw [hy, Nat.eq_of_beq_eq_true this]
  · cases this
end

def slsOf (T : Tab) : List Nat := T.slc.map (·.1)
theorem Tab.slOk {E : Env} {T : Tab} (h : T.ok E = true) : ∀ t ∈ slsOf T, (slcOf E t).isSome = true := by
  intro t ht
  unfold slsOf at ht
  rw [List.mem_map] at ht
  obtain ⟨x, hx, rfl⟩ := ht
  simp only [Tab.ok, Bool.and_eq_true] at h
  have := allL_mem h.1.1.2 _ hx
  split at this
  · rename_i y hy; rw [hy]; rfl
  · cases this

/-! ### comparisons and sums -/
section
variable {E : Env} {P : Program} {t : TypeId} {cx cy : Bool} {k : IntKind} {a b : Int}
theorem lssT (h : a < b) : aBin E P .lss t cx cy (.int k a) (.int k b) = some (.bool true) := by simp [aBin, aBin0, isSym, intBin, h]
theorem lssF (h : b ≤ a) : aBin E P .lss t cx cy (.int k a) (.int k b) = some (.bool false) := by simp [aBin, aBin0, isSym, intBin, h]
theorem leqT (h : a ≤ b) : aBin E P .leq t cx cy (.int k a) (.int k b) = some (.bool true) := by simp [aBin, aBin0, isSym, intBin, h]
theorem leqF (h : b < a) : aBin E P .leq t cx cy (.int k a) (.int k b) = some (.bool false) := by simp [aBin, aBin0, isSym, intBin, h]
theorem gtrT (h : b < a) : aBin E P .gtr t cx cy (.int k a) (.int k b) = some (.bool true) := by simp [aBin, aBin0, isSym, intBin, h]
theorem gtrF (h : a ≤ b) : aBin E P .gtr t cx cy (.int k a) (.int k b) = some (.bool false) := by simp [aBin, aBin0, isSym, intBin, h]
theorem geqT (h : b ≤ a) : aBin E P .geq t cx cy (.int k a) (.int k b) = some (.bool true) := by simp [aBin, aBin0, isSym, intBin, h]
theorem geqF (h : a < b) : aBin E P .geq t cx cy (.int k a) (.int k b) = some (.bool false) := by simp [aBin, aBin0, isSym, intBin, h]
theorem eqlT (h : a = b) : aBin E P .eql t cx cy (.int k a) (.int k b) = some (.bool true) := by simp [aBin, aBin0, isSym, intBin, h]
theorem eqlF (h : a ≠ b) : aBin E P .eql t cx cy (.int k a) (.int k b) = some (.bool false) := by simp [aBin, aBin0, isSym, intBin, h]
theorem neqT (h : a ≠ b) : aBin E P .neq t cx cy (.int k a) (.int k b) = some (.bool true) := by simp [aBin, aBin0, isSym, intBin, h]
theorem neqF (h : a = b) : aBin E P .neq t cx cy (.int k a) (.int k b) = some (.bool false) := by simp [aBin, aBin0, isSym, intBin, h]
theorem addI (h : -9223372036854775808 ≤ a + b ∧ a + b ≤ 9223372036854775807) : aBin E P .add t cx cy (.int .i64 a) (.int .i64 b) = some (.int .i64 (a + b)) := by simp [aBin, aBin0, isSym, intBin, wrap_id h.1 h.2]
theorem subI (h : -9223372036854775808 ≤ a - b ∧ a - b ≤ 9223372036854775807) : aBin E P .sub t cx cy (.int .i64 a) (.int .i64 b) = some (.int .i64 (a - b)) := by simp [aBin, aBin0, isSym, intBin, wrap_id h.1 h.2]
end

/-! ### rows that the call made -/
theorem over_over (hp : Hp) (k : Nat) (a b : Option AObj) : over (over hp k a) k b = over hp k b := by
  funext i; unfold over; split <;> rfl
theorem over_self {hp : Hp} {k : Nat} {a : Option AObj} (h : hp k = a) : hp = over hp k a := by
  funext i; unfold over; split
  · rename_i e; rw [e, h]
  · rfl
theorem at_int (i : Nat) : 0 + (i : Int).toNat * 1 = i := by omega
/-- what an element is: its bytes, the cells of its zero -/
def elOf (E : Env) (e : TypeId) : Option (Nat × List Value) := (E.ty.get e).bind fun i => (E.zero e).bind fun z => some (i.bytes, z.cells.toList)
theorem elOf_some {E : Env} {e bt : Nat} {zl : List Value} (h : elOf E e = some (bt, zl)) : ∃ i z, E.ty.get e = some i ∧ E.zero e = some z ∧ i.bytes = bt ∧ z.cells.toList = zl := by
  simp only [elOf, Option.bind_eq_some_iff, Option.some.injEq, Prod.mk.injEq] at h
  obtain ⟨i, h1, z, h2, h3, h4⟩ := h
  exact ⟨i, z, h1, h2, h3, h4⟩
section
variable {E : Env} {P : Program} {tm : T} {hp : Hp} {nx : Nat} {d : Option Tmp} {ty : TypeId} {pos : String} {after : Array Edge} {g : Option (Nat × Bool)}
theorem StepO.makeSlice {t e sz bt : Nat} {x y : Operand} {k1 k2 : IntKind} {l c : Nat} {zl : List Value} (hx : ev tm x = some (.int k1 l)) (hy : ev tm y = some (.int k2 c)) (ht : slcOf E t = some (e, sz)) (he : elOf E e = some (bt, zl))
    (hlc : l ≤ c) (hc : c ≤ 1000000) (hb : bt ≤ 1000000) :
    StepO E P ⟨d, .makeSlice t x y, ty, pos, after, g⟩ tm hp nx (.slice (some ⟨nx, 0, none⟩) l (2 * c + 1)) (over hp nx (some (.cells (reps zl c) e true))) (nx + 1) := by
  obtain ⟨h1, h2⟩ := slcOf_some ht
  obtain ⟨i, z, hi, hz, rfl, rfl⟩ := elOf_some he
  have hcond : (0 : Int) ≤ l ∧ (l : Int) ≤ c ∧ (c : Int) ≤ 1000000 ∧ i.bytes ≤ 1000000 := ⟨by omega, by omega, by omega, hb⟩
  exact .value (e := .new _) (by simp only [opA, hx, hy, Option.bind_some, h1, hi, hz, hcond, and_self, if_true, Int.toNat_natCast])
theorem aAppend_nil {t e sz bt : Nat} {zl : List Value} {sa : Addr} {m c : Nat} {news : List Value} (ht : slcOf E t = some (e, sz)) (he : elOf E e = some (bt, zl)) (hm : m ≠ 0) (hs : 0 < sz) (hb : 0 < bt) (hl : m * bt ≤ 1000000000000)
    (hr : hread hp sa (m * sz) = some news) (ho : ones news = true) : aAppend E hp nx t (.slice none 0 0) (.slice (some sa) m c) = some (.slice (some ⟨nx, 0, none⟩) m 0, .new (.cells news e true)) := by
  obtain ⟨h1, h2⟩ := slcOf_some ht
  obtain ⟨i, z, hi, hz, rfl, rfl⟩ := elOf_some he
  have hsz : i.size = sz := by unfold Env.size at h2; rw [hi] at h2; simpa using h2
  have hno : ¬ (i.size = 0 ∨ (0 + m) * i.bytes > 1000000000000 ∨ (E.zero e).isNone = true ∨ i.bytes = 0) := by
    rw [hz, Nat.zero_add]; simp; omega
  unfold aAppend
  simp only [h1, hi, Option.bind_some, hm, if_false, hno, hsz, hr, ho, if_true, and_self]
  rw [if_neg (by rw [← hsz]; exact hno)]
theorem aAppend_own {t e sz bt : Nat} {zl : List Value} {sa : Addr} {b n m c : Nat} {old news : List Value} (ht : slcOf E t = some (e, sz)) (he : elOf E e = some (bt, zl)) (hn : n ≠ 0) (hm : m ≠ 0) (hs : 0 < sz) (hb : 0 < bt) (hl : (n + m) * bt ≤ 1000000000000)
    (hown : hp b = some (.cells old e true)) (hlen : old.length = n * sz) (hr : hread hp sa (m * sz) = some news) (ho : ones news = true) :
    aAppend E hp nx t (.slice (some ⟨b, 0, none⟩) n 0) (.slice (some sa) m c) = some (.slice (some ⟨nx, 0, none⟩) (n + m) 0, .move b (.cells (old ++ news) e true)) := by
  obtain ⟨h1, h2⟩ := slcOf_some ht
  obtain ⟨i, z, hi, hz, rfl, rfl⟩ := elOf_some he
  have hsz : i.size = sz := by unfold Env.size at h2; rw [hi] at h2; simpa using h2
  have hno : ¬ (i.size = 0 ∨ (n + m) * i.bytes > 1000000000000 ∨ (E.zero e).isNone = true ∨ i.bytes = 0) := by
    rw [hz]; simp; omega
  have h3 : ¬ (0 + (n + m) * sz ≤ old.length) := by
    rw [hlen, Nat.zero_add, Nat.add_mul]
    have : 0 < m * sz := Nat.mul_pos (by omega) hs
    omega
  unfold aAppend
  simp only [h1, hi, Option.bind_some, hm, if_false, hsz, hr, ho, if_true, hown, dropN]
  rw [if_neg (by rw [← hsz]; exact hno)]
  simp only [hn, Nat.zero_div, Nat.zero_mul, ne_eq, not_false_eq_true, and_self, if_true, h3, if_false, Nat.zero_add, hlen, Nat.zero_mod, Nat.zero_ne_one]
  rw [if_neg (by rw [hlen, Nat.zero_add] at h3; exact h3)]
theorem aAppend_none {t e sz bt : Nat} {zl : List Value} {src : Option Addr} {base : Option Addr} {n C c : Nat} (ht : slcOf E t = some (e, sz)) (he : elOf E e = some (bt, zl)) :
    aAppend E hp nx t (.slice base n C) (.slice src 0 c) = some (.slice base n C, .none) := by
  obtain ⟨h1, h2⟩ := slcOf_some ht
  obtain ⟨i, z, hi, hz, rfl, rfl⟩ := elOf_some he
  unfold aAppend
  simp [h1, hi]
theorem StepO.make {e bt : Nat} {zl : List Value} (he : elOf E e = some (bt, zl)) : StepO E P ⟨d, .alloc e, ty, pos, after, g⟩ tm hp nx (.pointer (some ⟨nx, 0, none⟩)) (over hp nx (some (.cells zl e true))) (nx + 1) := by
  obtain ⟨i, z, hi, hz, rfl, rfl⟩ := elOf_some he
  exact .alloc hz rfl
theorem StepO.loadC {t : TypeId} {x : Operand} {p : Addr} {n : Nat} {c : List Value} {e : TypeId} {own : Bool} {r : List Value} (h : ev tm x = some (.pointer (some p))) (ht : E.agg t = some true) (hs : E.size t = some n) (hc : hp p.block = some (.cells c e own)) (hr : takeN n (dropN p.off c) = some r) :
    StepO E P ⟨d, .load t x, ty, pos, after, g⟩ tm hp nx (.agg ⟨r⟩) hp nx := .loadA h ht hs (by unfold hread; rw [hc]; exact hr)
theorem StepO.storeAll {t : TypeId} {x y : Operand} {b : Nat} {c : List Value} {e : TypeId} {l : List Value} (h : ev tm x = some (.pointer (some ⟨b, 0, none⟩))) (hy : ev tm y = some (.agg ⟨l⟩)) (hs : E.size t = some l.length) (hc : hp b = some (.cells c e true)) (hl : c.length = l.length) (h1 : ones l = true) :
    StepO E P ⟨d, .store t x y, ty, pos, after, g⟩ tm hp nx undef (over hp b (some (.cells l e true))) nx := by
  have hw : hwrite hp ⟨b, 0, none⟩ l = some (.cells l e true) := by
    rw [hwrite_cells (p := ⟨b, 0, none⟩) hc (by simp [hl]) h1]
    simp [hl]
  exact .storeA h hy hs hw
theorem StepO.buildSlice {t e sz bt m : Nat} {ps : Array (Nat × Operand)} {l : List (Nat × Value)} {zl c : List Value} (hl : evParts tm ps.toList = some l) (ht : slcOf E t = some (e, sz)) (he : elOf E e = some (bt, zl)) (hn : m * sz ≤ 16777216)
    (hf : fillAt (fun i => some (i * sz, sz)) (reps zl m) l = some c) : StepO E P ⟨d, .buildSlice t m ps, ty, pos, after, g⟩ tm hp nx (.slice (some ⟨nx, 0, none⟩) m (2 * m + 1)) (over hp nx (some (.cells c e true))) (nx + 1) := by
  obtain ⟨h1, h2⟩ := slcOf_some ht
  obtain ⟨i, z, hi, hz, rfl, rfl⟩ := elOf_some he
  exact .value (e := .new _) (by simp only [opA, hl, Option.bind_some, h1, h2, hz, hn, if_true, hf])
theorem fillAt_to {p q : Nat → Option (Nat × Nat)} (h : ∀ i r, p i = some r → q i = some r) : ∀ {l : List (Nat × Value)} {c c' : List Value}, fillAt p c l = some c' → fillAt q c l = some c'
  | [], _, _, e => e
  | (i, v) :: r, c, c', e => by
    simp only [fillAt, Option.bind_eq_some_iff] at e ⊢
    obtain ⟨x, h1, e⟩ := e
    refine ⟨x, h i x h1, ?_⟩
    split at e
    · rename_i hs
      simp only [hs, if_true, Option.bind_eq_some_iff] at e ⊢
      obtain ⟨y, h2, e⟩ := e
      exact ⟨y, h2, fillAt_to h e⟩
    · cases e
theorem StepO.build {t bt : Nat} {ps : Array (Nat × Operand)} {l : List (Nat × Value)} {zl c : List Value} {fl : List (Nat × Nat)} (hl : evParts tm ps.toList = some l) (hg : E.agg t = some true) (he : elOf E t = some (bt, zl)) (hfl : ∀ f r, at? fl f = some r → fldOf E t f = some r)
    (hns : ∃ fs, E.und t = some (.struct fs)) (hf : fillAt (at? fl) zl l = some c) : StepO E P ⟨d, .build t ps, ty, pos, after, g⟩ tm hp nx (.agg ⟨c⟩) hp nx := by
  obtain ⟨fs, hu⟩ := hns
  obtain ⟨i, z, hi, hz, rfl, rfl⟩ := elOf_some he
  have := fillAt_to (q := fieldPlaces E fs) (fun f r h => by
    have := hfl f r h
    simp only [fldOf, hu] at this
    exact this) hf
  exact .val (by simp only [opA, hl, Option.bind_some, hz, hu, this])
def isStruct (E : Env) (t : TypeId) : Bool := match E.und t with
  | some (.struct _) => true
  | _ => false
theorem isStruct_some {E : Env} {t : Nat} (h : isStruct E t = true) : ∃ fs, E.und t = some (.struct fs) := by
  unfold isStruct at h
  split at h
  · rename_i fs hu; exact ⟨fs, hu⟩
  · cases h
theorem StepO.buildT {T : Tab} (hT : T.ok E = true) {t bt : Nat} {ps : Array (Nat × Operand)} {l : List (Nat × Value)} {zl c : List Value} {fl : List (Nat × Nat)} (hl : evParts tm ps.toList = some l) (hg : look1 t T.agg = some true) (he : elOf E t = some (bt, zl)) (hfl : look1 t T.fld = some fl)
    (hns : isStruct E t = true) (hf : fillAt (at? fl) zl l = some c) : StepO E P ⟨d, .build t ps, ty, pos, after, g⟩ tm hp nx (.agg ⟨c⟩) hp nx :=
  .build hl (Tab.aggAt hT hg) he (fun _ _ h => Tab.fldAt hT hfl h) (isStruct_some hns) hf
theorem StepO.append {t : TypeId} {x y : Operand} {s u v : Value} {e : Eff} (hx : ev tm x = some s) (hy : ev tm y = some u) (h : aAppend E hp nx t s u = some (v, e)) :
    StepO E P ⟨d, .call ⟨.builtin .append, #[x, y], #[t, t]⟩, ty, pos, after, g⟩ tm hp nx v (e.hp hp nx) (e.nx nx) :=
  .value (by simp [opA, evs, hx, hy, aBuiltin, h])
theorem StepO.slice {t : TypeId} {x : Operand} {lo hi mx : Option Operand} {s v : Value} {l h m : Option Value} (hx : ev tm x = some s) (hl : evO tm lo = some l) (hh : evO tm hi = some h) (hm : evO tm mx = some m) (hv : aSlice E t s l h m = some v) :
    StepO E P ⟨d, .slice t x lo hi mx, ty, pos, after, g⟩ tm hp nx v hp nx := .val (by simp [opA, hx, hl, hh, hm, hv, Sx.val])
end
section
variable {P : Program} {N : Nat} {tm : T} {hp : Hp} {nx : Nat} {Q : X → T → Hp → Nat → Prop}
theorem CodeE.condT {q : Operand} {c1 c2 : Code} (hv : ev tm q = some (.bool true)) (h1 : CodeE P N c1 tm hp nx Q) : CodeE P N (.cond q c1 c2) tm hp nx Q := CodeE.cond hv (fun _ => h1) fun h => by cases h
theorem CodeE.condF {q : Operand} {c1 c2 : Code} (hv : ev tm q = some (.bool false)) (h1 : CodeE P N c2 tm hp nx Q) : CodeE P N (.cond q c1 c2) tm hp nx Q := CodeE.cond hv (fun h => by cases h) fun _ => h1
end
end Go.Sy
namespace Go.Sy
open Go Go.RowKit Go.Sx

/-- what a call made and nobody holds is forgotten -/
theorem CallR.canon {P : Program} {f : FuncId} {args : List Value} {hp hp1 hp2 : Hp} {nx nx1 : Nat} {v : Value} (h : CallR P f args hp nx (.ret v) hp1 nx1) (h1 : ∀ k, k < nx → hp2 k = hp1 k) (h2 : ∀ k, nx ≤ k → hp2 k = hp k) :
    CallR P f args hp nx (.ret v) hp2 nx1 := by
  refine ⟨h.1, fun B lim ρ w args' hl hr ha => (h.2 B lim ρ w args' hl hr ha).mono ?_⟩
  rintro en w' ⟨ρ', ⟨r1, r2⟩, hv⟩
  have hsub : ∀ k o, hp2 k = some o → hp1 k = some o := by
    intro k o hk
    rcases Nat.lt_or_ge k nx with hlt | hge
    · rw [← h1 k hlt]; exact hk
    · rw [h2 k hge] at hk; have := hr.lt k o hk; omega
  refine ⟨ρ', ⟨⟨r1.base, r1.fresh, fun k o hk => r1.lt k o (hsub k o hk), fun k o hk => r1.obj k o (hsub k o hk), fun k o p k' o' p' a1 a2 a3 b1 b2 b3 => r1.inj k o p k' o' p' (hsub k o a1) a2 a3 (hsub k' o' b1) b2 b3⟩, ?_⟩, hv⟩
  exact ⟨r2.next, r2.ext, r2.os, r2.tape, r2.output, r2.size, r2.keep, fun b ⟨k, o, p, a1, a2, a3, a4⟩ => r2.own b ⟨k, o, p, hsub k o a1, a2, a3, a4⟩⟩
/-- with a row that the call made -/
theorem CallR.canonNew {P : Program} {f : FuncId} {args : List Value} {hp hp1 hp2 : Hp} {nx nx1 b : Nat} {v : Value} (h : CallR P f args hp nx (.ret v) hp1 nx1) (h1 : ∀ k, k < nx → hp2 k = hp1 k) (hb : hp2 b = hp1 b) (h2 : ∀ k, nx ≤ k → k ≠ b → hp2 k = hp k) :
    CallR P f args hp nx (.ret v) hp2 nx1 := by
  refine ⟨h.1, fun B lim ρ w args' hl hr ha => (h.2 B lim ρ w args' hl hr ha).mono ?_⟩
  rintro en w' ⟨ρ', ⟨r1, r2⟩, hv⟩
  have hsub : ∀ k o, hp2 k = some o → hp1 k = some o := by
    intro k o hk
    by_cases e : k = b
    · rw [e, ← hb, ← e]; exact hk
    · rcases Nat.lt_or_ge k nx with hlt | hge
      · rw [← h1 k hlt]; exact hk
      · rw [h2 k hge e] at hk; have := hr.lt k o hk; omega
  refine ⟨ρ', ⟨⟨r1.base, r1.fresh, fun k o hk => r1.lt k o (hsub k o hk), fun k o hk => r1.obj k o (hsub k o hk), fun k o p k' o' p' a1 a2 a3 b1 b2 b3 => r1.inj k o p k' o' p' (hsub k o a1) a2 a3 (hsub k' o' b1) b2 b3⟩, ?_⟩, hv⟩
  exact ⟨r2.next, r2.ext, r2.os, r2.tape, r2.output, r2.size, r2.keep, fun b ⟨k, o, p, a1, a2, a3, a4⟩ => r2.own b ⟨k, o, p, hsub k o a1, a2, a3, a4⟩⟩
/-- a function that leaves what it met as it was -/
theorem CallE.still {P : Program} {f : FuncId} {args : List Value} {hp : Hp} {nx : Nat} {v : Value} (h : CallE P f args hp nx fun e h' _ => e = .ret v ∧ ∀ k, k < nx → h' k = hp k) : ∃ nx', CallR P f args hp nx (.ret v) hp nx' := by
  obtain ⟨e, h', nx', h1, rfl, h2⟩ := h
  exact ⟨nx', h1.canon (fun k hk => (h2 k hk).symm) fun _ _ => rfl⟩
theorem CallE.leaves {P : Program} {f : FuncId} {args : List Value} {hp hp2 : Hp} {nx : Nat} {v : Value} (h : CallE P f args hp nx fun e h' _ => e = .ret v ∧ ∀ k, k < nx → h' k = hp2 k) (h2 : ∀ k, nx ≤ k → hp2 k = hp k) : ∃ nx', CallR P f args hp nx (.ret v) hp2 nx' := by
  obtain ⟨e, h', nx', h1, rfl, h3⟩ := h
  exact ⟨nx', h1.canon (fun k hk => (h3 k hk).symm) h2⟩
/-- a function that makes a row -/
theorem CallE.row {P : Program} {f : FuncId} {args : List Value} {hp : Hp} {nx k : Nat} {c : List Value} {e : TypeId} (h : CallE P f args hp nx fun x h' n => ∃ b, x = .ret (.slice (some ⟨b, 0, none⟩) k (2 * k + 1)) ∧ nx ≤ b ∧ b < n ∧ h' b = some (.cells c e true) ∧ ∀ j, j < nx → h' j = hp j) :
    ∃ nx' b, nx ≤ b ∧ b < nx' ∧ CallR P f args hp nx (.ret (.slice (some ⟨b, 0, none⟩) k (2 * k + 1))) (over hp b (some (.cells c e true))) nx' := by
  obtain ⟨x, h', nx', h1, b, rfl, h2, h3, h4, h5⟩ := h
  refine ⟨nx', b, h2, h3, h1.canonNew (b := b) (fun j hj => ?_) ?_ fun j _ hne => over_other _ _ hne⟩
  · rw [over_other _ _ (by omega), h5 j hj]
  · rw [over_same, h4]
theorem over_far {hp : Hp} {b nx : Nat} {o : Option AObj} (h : b < nx) : ∀ k, nx ≤ k → over hp b o k = hp k := fun k hk => over_other _ _ (by omega)

theorem SeqE.callX {E : Env} {P : Program} (hE : EnvOk E P) {N : Nat} {all : Array Oper} {tm : T} {hp : Hp} {nx : Nat} {Q : Option Value → T → Hp → Nat → Prop} {o : Oper} {rest : List Oper} {v : Value} {hp1 : Hp} {f : FuncId} {args : List Value}
    (hop : opA E P tm hp nx o = some (.enter f args, .none)) (hc : ∃ nx1, CallR P f args hp nx (.ret v) hp1 nx1) (hw : wantedA tm all o = some true) (hd : dstOk N o.dst = true)
    (k : ∀ nx1, nx ≤ nx1 → SeqE P N all rest (upd tm o.dst v) hp1 nx1 Q) : SeqE P N all (o :: rest) tm hp nx Q := by
  obtain ⟨nx1, h1⟩ := hc
  exact SeqE.call hE hop h1 hw hd (k nx1 h1.1)
/-- a call, in a drawn region, that leaves all as it was -/
theorem SeqD.callX {pl : List Nat} {E : Env} {P : Program} {all : Array Oper} {tm : T} {hp : Hp} {nx : Nat} {Q : T → Hp → Nat → Prop} {o : Oper} {rest : List Oper} {v : Value} {f : FuncId} {args : List Value}
    (hop : opA E P tm hp nx o = some (.enter f args, .none)) (hc : ∃ nx1, CallR P f args hp nx (.ret v) hp nx1) (hw : wantedA tm all o = some true) (hf : fnK o = true)
    (k : ∀ nx1, nx ≤ nx1 → SeqD pl E P all Q rest (upd tm o.dst v) hp (nx1 + 1)) : SeqD pl E P all Q (o :: rest) tm hp nx := by
  obtain ⟨nx1, h1⟩ := hc
  exact SeqD.call hop h1 [] (fun _ _ _ => rfl) (fun _ hk => by cases hk) (fun _ => rfl) hw hf (k nx1 h1.1)
section
variable {E : Env} {tm : T} {hp : Hp}
theorem res_cell {a : Nat} {t : TypeId} {p : Addr} {n : Nat} {c : List Value} (h : tm a = some (.pointer (some p))) (ht : E.agg t = some true) (hs : E.size t = some n) (hr : hread hp p n = some c) : resultsA E tm hp [.cell a t] = some [.agg ⟨c⟩] := by
  simp [resultsA, h, ht, hs, hr]
theorem hread_all {b : Nat} {c : List Value} {e : TypeId} {own : Bool} {n : Nat} (h : hp b = some (.cells c e own)) (hn : c.length = n) : hread hp ⟨b, 0, none⟩ n = some c :=
  hread_cells (p := ⟨b, 0, none⟩) h hn fun i _ => by simp
end
end Go.Sy
