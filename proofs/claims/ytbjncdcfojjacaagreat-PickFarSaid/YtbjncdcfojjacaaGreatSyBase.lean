/-
  What is proved: the second layer: an evaluator over plain heaps tells the truth of the machine. Conditions: none.
-/
import Derived.Test.YtbjncdcfojjacaaGreatSxZ
import Derived.Tactics
import Derived.Orders
set_option linter.unusedVariables false
set_option linter.unusedSimpArgs false
set_option linter.unusedSectionVars false
namespace Go.Sy
open Go Go.RowKit Go.Sx

/-- a heap, temporaries: plain functions -/
abbrev FH := Nat → Option AObj
def FH.get (h : FH) : Hp := h
def FH.put (_ : Nat) (h : FH) (k : Nat) (o : Option AObj) : FH := fun j => if j = k then o else h j
def FH.nil : FH := fun _ => none
abbrev FT := Nat → Option Value
def FT.get (h : FT) : T := h
def FT.put (_ : Nat) (h : FT) (k : Nat) (o : Option Value) : FT := fun j => match Nat.beq j k with
  | true => o
  | false => h j
theorem FT.get_put (h : FT) (k : Nat) (o : Option Value) (j : Nat) : (FT.put 40 h k o).get j = if j = k then o else h.get j := by
  unfold FT.get FT.put
  by_cases e : j = k
  · subst e; rw [Nat.beq_refl, if_pos rfl]
  · have : Nat.beq j k = false := by
      cases hb : Nat.beq j k with
      | false => rfl
      | true => exact absurd (Nat.eq_of_beq_eq_true hb) e
    rw [this, if_neg e]
structure St where
  heap : FH
  next : Nat
  mark : Nat
  wr : List Nat
def noteW (mark k : Nat) (wr : List Nat) : List Nat :=
  match Nat.blt k mark with
  | true => k :: wr
  | false => wr
def St.eff (S : St) (e : Eff) : Option St :=
  match Nat.blt S.next (S.next + 1) with
  | false => none
  | true => match e with
    | .none => some S
    | .new o => some ⟨S.heap.put 40 S.next (some o), S.next + 1, S.mark, S.wr⟩
    | .upd k o => match Nat.blt k (k + 1) with
      | true => some ⟨S.heap.put 40 k (some o), S.next, S.mark, noteW S.mark k S.wr⟩
      | false => none
    | .move k o => match Nat.blt k (k + 1) with
      | true => some ⟨(S.heap.put 40 k none).put 40 S.next (some o), S.next + 1, S.mark, noteW S.mark k S.wr⟩
      | false => none

abbrev TT := FT
def tset (N : Nat) (tm : TT) (dst : Option Tmp) (v : Value) : Option TT :=
  match dst with
  | none => some tm
  | some d => match Nat.blt d N with
    | true => some (tm.put 40 d (some v))
    | false => none
def wantedA (tm : T) (ops : Array Oper) (o : Oper) : Option Bool :=
  match o.guard with
  | none => some true
  | some (j, want) => match (ops[j]?).bind (·.dst) with
    | some d => match tm d with
      | some (.bool b) => some (b == want)
      | some (.tuple _) => some false
      | _ => none
    | none => some false

abbrev CallF := FuncId → List Value → St → Option (AEnd × St)

def seqA (E : Env) (P : Program) (call : CallF) (N : Nat) (all : Array Oper) : List Oper → TT → St → Option (Option Value × TT × St)
  | [], tm, S => some (none, tm, S)
  | o :: rest, tm, S => (wantedA tm.get all o).bind fun w => match w with
    | true => (opA E P tm.get S.heap.get S.next o).bind fun ne => (S.eff ne.2).bind fun S1 => match ne.1 with
      | .value x => (tset N tm o.dst x).bind fun tm1 => seqA E P call N all rest tm1 S1
      | .skip => (tset N tm o.dst undef).bind fun tm1 => seqA E P call N all rest tm1 S1
      | .enter f args => (call f args S1).bind fun es => match es.1 with
        | .ret x => (tset N tm o.dst x).bind fun tm1 => seqA E P call N all rest tm1 es.2
        | .panic x => some (some x, tm, es.2)
      | .panic x => some (some x, tm, S1)
    | false => (tset N tm o.dst undef).bind fun tm1 => seqA E P call N all rest tm1 S

/-! ### a region whose order is drawn -/
/-- what an operation did: its number, what it must wait for, what it read (none: anything), what it wrote of what was there, what it changed -/
structure Rec where
  i : Nat
  mask : Nat
  rd : Option (List Nat)
  wr : List Nat
  delta : List (Nat × Option AObj)
  v : Value
  o : Oper
  tm : TT
  view : FH
  nx : Nat
  fin : Nat
  /-- of what only reads: who may write what it reads, in either order -/
  alt : Option (Nat × List (Nat × Option AObj))
def maskOf (ms : List Nat) : List Edge → Nat → Option Nat
  | [], m => some m
  | e :: l, m => match Region.binds .any e with
    | true => (ms[e.on]?).bind fun k => maskOf ms l (m ||| (k ||| 2 ^ e.on))
    | false => maskOf ms l m
def layD (h : FH) : List (Nat × Option AObj) → FH
  | [] => h
  | (k, o) :: l => layD (h.put 40 k o) l
/-- the heap as an operation may see it: what those did that it waits for -/
def viewD (h : FH) (mask : Nat) : List Rec → FH
  | [] => h
  | r :: l => match mask.testBit r.i with
    | true => viewD (layD h r.delta) mask l
    | false => viewD h mask l
def meets (wr : List Nat) : Option (List Nat) → Bool
  | none => !wr.isEmpty
  | some rd => wr.any fun k => rd.contains k
def sameInts : List Value → List Value → Bool
  | [], [] => true
  | .int k a :: l, .int k' b :: l' => k == k' && a == b && sameInts l l'
  | _, _ => false
def sameV : Value → Value → Bool
  | .int k a, .int k' b => k == k' && a == b
  | .func (.yield i) fi ca, .func (.yield j) fi' ca' => i == j && sameInts fi.toList fi'.toList && sameInts ca.toList ca'.toList
  | .bool a, .bool b => a == b
  | .pointer a, .pointer b => a == b
  | .map a, .map b => a == b
  | .slice a n c, .slice b m d => a == b && n == m && c == d
  | _, _ => false
def looked (all : Array Oper) (o : Oper) (tm : TT) : T := fun t => match (o.looksAt all).contains t with
  | true => tm.get t
  | false => none
def within (foot : List Nat) (h : FH) : Hp := fun k => match foot.contains k with
  | true => h.get k
  | false => none
/-- what was seen, with the other's writing laid over -/
def behind (foot : List Nat) (view : FH) (delta : List (Nat × Option AObj)) : Hp := fun k => match foot.contains k && (view.get k).isSome with
  | true => (layD view delta).get k
  | false => none
/-- an operation that only read tells the same behind the other's writing -/
def recheck (E : Env) (P : Program) (all : Array Oper) (r : Rec) (delta : List (Nat × Option AObj)) : Bool :=
  match r.rd, r.wr, r.delta, r.alt with
  | some foot, [], [], none => match opA E P (looked all r.o r.tm) (behind foot r.view delta) r.nx r.o with
    | some (.value v, .none) => sameV v r.v
    | _ => false
  | _, _, _, _ => false
/-- nothing that is not waited for disturbs -/
def calmD (E : Env) (P : Program) (all : Array Oper) (i mask : Nat) (rd : Option (List Nat)) (wr : List Nat) (delta : List (Nat × Option AObj)) : List Rec → Option (List Rec)
  | [] => some []
  | r :: l => (calmD E P all i mask rd wr delta l).bind fun l' => match mask.testBit r.i with
    | true => some (r :: l')
    | false => match meets r.wr rd, meets wr r.rd with
      | false, false => some (r :: l')
      | false, true => match recheck E P all r delta with
        | true => some ({ r with alt := some (i, delta) } :: l')
        | false => none
      | _, _ => none
/-- no temporary is shared with one that is not waited for -/
def apartD (ops : Array Oper) (mask : Nat) (o : Oper) : Nat → List Oper → Bool
  | _, [] => true
  | k, x :: l => (mask.testBit k || x.apart ops o) && apartD ops mask o (k + 1) l
def topsOf : Value → List Nat
  | .pointer (some a) => [a.block]
  | .slice (some a) _ _ => [a.block]
  | .map (some r) => [r]
  | .iface _ (.map (some r)) => [r]
  | _ => []
def topsAll (tm : T) : List Operand → List Nat
  | [] => []
  | x :: l => match ev tm x with
    | some v => topsOf v ++ topsAll tm l
    | none => topsAll tm l
def touches (o : Oper) : List Operand :=
  match o.op with
  | .load _ a => [a]
  | .store _ a _ => [a]
  | .lookup _ m _ _ => [m]
  | .insert _ m _ _ => [m]
  | .mapUpdate _ m _ _ => [m]
  | .call c => match c.callee with
    | .builtin .append => c.args.toList
    | .builtin .copy => c.args.toList
    | .builtin .delete => c.args.toList
    | .builtin .len => c.args.toList
    | .builtin _ => []
    | _ => c.args.toList
  | _ => []
def effWr : Eff → List Nat
  | .upd k _ => [k]
  | .move k _ => [k]
  | _ => []
def effD (e : Eff) (nx : Nat) : List (Nat × Option AObj) :=
  match e with
  | .none => []
  | .new o => [(nx, some o)]
  | .upd k o => [(k, some o)]
  | .move k o => [(k, none), (nx, some o)]
def newsD (h : FH) (lo : Nat) : Nat → List (Nat × Option AObj)
  | 0 => []
  | n + 1 => (lo, h.get lo) :: newsD h (lo + 1) n
def wrOk (view : FH) (nx : Nat) (foot : Option (List Nat)) (wr : List Nat) : Bool :=
  wr.all fun k => Nat.blt k nx && (view.get k).isSome && match foot with
    | some l => l.contains k
    | none => true
def drawA (E : Env) (P : Program) (call : CallF) (N : Nat) (all : Array Oper) (h0 : FH) : Nat → List Oper → List Nat → List Oper → List Rec → TT → Nat → Option (List Rec × TT × Nat)
  | _, _, _, [], recs, tm, nx => some (recs, tm, nx)
  | i, before, ms, o :: rest, recs, tm, nx => (maskOf ms o.after.toList 0).bind fun mask =>
    match apartD all mask o 0 before && Nat.blt nx (nx + 1) with
    | false => none
    | true =>
      let next (recs1 : List Rec) (r : Rec) : Option (List Rec × TT × Nat) :=
        (tset N tm o.dst r.v).bind fun tm1 => drawA E P call N all h0 (i + 1) (before ++ [o]) (ms ++ [mask]) rest (recs1 ++ [r]) tm1 (r.fin + 1)
      (wantedA (looked all o tm) all o).bind fun w => match w with
      | false => next recs ⟨i, mask, some [], [], [], undef, o, tm, .nil, nx, nx, none⟩
      | true =>
        let view := viewD h0 mask recs
        let foot := topsAll (looked all o tm) (touches o)
        (opA E P (looked all o tm) (within foot view) nx o).bind fun ne =>
        let done (v : Value) : Option (List Rec × TT × Nat) :=
          match wrOk view nx (some foot) (effWr ne.2) with
          | true => (calmD E P all i mask (some foot) (effWr ne.2) (effD ne.2 nx) recs).bind fun recs1 =>
            next recs1 ⟨i, mask, some foot, effWr ne.2, effD ne.2 nx, v, o, tm, view, nx, ne.2.nx nx, none⟩
          | false => none
        match ne.1 with
        | .value v => done v
        | .skip => done undef
        | .enter f args => match ne.2 with
          | .none => (call f args ⟨view, nx, nx, []⟩).bind fun es => match es.1 with
            | .ret v =>
              let delta := (es.2.wr.map fun k => (k, es.2.heap.get k)) ++ newsD es.2.heap nx (es.2.next - nx)
              match wrOk view nx none es.2.wr && Nat.blt es.2.next (es.2.next + 1) with
              | true => (calmD E P all i mask none es.2.wr delta recs).bind fun recs1 =>
                next recs1 ⟨i, mask, none, es.2.wr, delta, v, o, tm, view, nx, es.2.next, none⟩
              | false => none
            | .panic _ => none
          | _ => none
        | .panic _ => none
def layAll (h : FH) : List Rec → FH
  | [] => h
  | r :: l => layAll (layD h r.delta) l
def wrAll (mark : Nat) (wr : List Nat) : List Rec → List Nat
  | [] => wr
  | r :: l => wrAll mark (r.wr.foldr (noteW mark) wr) l

end Go.Sy
namespace Go.Sy
open Go Go.RowKit Go.Sx

theorem blt_true {a b : Nat} (h : Nat.blt a b = true) : a < b := Nat.le_of_ble_eq_true h
theorem blt_false {a b : Nat} (h : Nat.blt a b = false) : b ≤ a := by
  rcases Nat.lt_or_ge a b with hlt | hge
  · have := Nat.ble_eq_true_of_le (show a + 1 ≤ b from hlt)
    rw [show Nat.blt a b = Nat.ble (a + 1) b from rfl, this] at h
    cases h
  · exact hge
/-- what evaluating leaves as it was -/
structure Fx (S S' : St) : Prop where
  next : S.next ≤ S'.next
  mark : S'.mark = S.mark
  wr : ∀ k, k ∈ S.wr → k ∈ S'.wr
  keep : S.mark ≤ S.next → ∀ k, k < S.mark → k ∉ S'.wr → S'.heap.get k = S.heap.get k
theorem Fx.refl (S : St) : Fx S S := ⟨Nat.le_refl _, rfl, fun _ h => h, fun _ _ _ _ => rfl⟩
theorem Fx.trans {a b c : St} (h : Fx a b) (g : Fx b c) : Fx a c :=
  ⟨Nat.le_trans h.next g.next, g.mark.trans h.mark, fun k hk => g.wr k (h.wr k hk), fun hm k hk hn => by
    rw [g.keep (by rw [h.mark]; exact Nat.le_trans hm h.next) k (by rw [h.mark]; exact hk) hn]
    exact h.keep hm k hk fun hw => hn (g.wr k hw)⟩
theorem noteW_mem {mark k j : Nat} {wr : List Nat} : j ∈ noteW mark k wr ↔ j ∈ wr ∨ (j = k ∧ k < mark) := by
  unfold noteW
  cases h : Nat.blt k mark with
  | true =>
    have : k < mark := blt_true h
    simp only [List.mem_cons]
    constructor
    · rintro (rfl | h)
      · exact .inr ⟨rfl, this⟩
      · exact .inl h
    · rintro (h | ⟨rfl, _⟩)
      · exact .inr h
      · exact .inl rfl
  | false =>
    have := blt_false h
    simp only []
    constructor
    · exact .inl
    · rintro (h | ⟨rfl, h⟩)
      · exact h
      · omega
theorem get_put_fn {h : FH} {k : Nat} {o : Option AObj} (hk : k < k + 1) : (h.put 40 k o).get = over h.get k o := by
  funext j
  rfl
theorem eff_get {S S' : St} {e : Eff} (h : S.eff e = some S') : S'.heap.get = e.hp S.heap.get S.next ∧ S'.next = e.nx S.next ∧ Fx S S' := by
  unfold St.eff at h
  cases hb : Nat.blt S.next (S.next + 1) with
  | false => simp [hb] at h
  | true =>
    have hn : S.next < S.next + 1 := blt_true hb
    simp only [hb] at h
    cases e with
    | none => simp at h; subst h; exact ⟨rfl, rfl, Fx.refl _⟩
    | new o =>
      simp at h; subst h
      refine ⟨get_put_fn hn, rfl, ⟨Nat.le_succ _, rfl, fun _ h => h, fun hm k hk _ => ?_⟩⟩
      show (S.heap.put 40 S.next (some o)).get k = _
      rw [get_put_fn hn, over_other _ _ (by omega)]
    | upd k o =>
      cases hk : Nat.blt k (k + 1) with
      | false => simp [hk] at h
      | true =>
        have hk' : k < k + 1 := blt_true hk
        simp only [hk, Option.some.injEq] at h; subst h
        refine ⟨get_put_fn hk', rfl, ⟨Nat.le_refl _, rfl, fun j h => noteW_mem.2 (.inl h), fun hm j hj hn' => ?_⟩⟩
        show (S.heap.put 40 k (some o)).get j = _
        rw [get_put_fn hk']
        by_cases e : j = k
        · subst e; exact absurd (noteW_mem.2 (.inr ⟨rfl, hj⟩)) hn'
        · rw [over_other _ _ e]
    | move k o =>
      cases hk : Nat.blt k (k + 1) with
      | false => simp [hk] at h
      | true =>
        have hk' : k < k + 1 := blt_true hk
        simp only [hk, Option.some.injEq] at h; subst h
        refine ⟨?_, rfl, ⟨Nat.le_succ _, rfl, fun j h => noteW_mem.2 (.inl h), fun hm j hj hn' => ?_⟩⟩
        · show ((S.heap.put 40 k none).put 40 S.next (some o)).get = _
          rw [get_put_fn hn, get_put_fn hk']; rfl
        · show ((S.heap.put 40 k none).put 40 S.next (some o)).get j = _
          rw [get_put_fn hn, get_put_fn hk', over_other _ _ (by omega)]
          by_cases e : j = k
          · subst e; exact absurd (noteW_mem.2 (.inr ⟨rfl, hj⟩)) hn'
          · rw [over_other _ _ e]

def onePanic (v : Value) : List PanicEntry := [{ v, recovered := false }]
def EndR (ρ : Ren) : AEnd → Ending → Prop
  | .ret v, .returned v' => VR ρ v v'
  | .panic v, .panicked c => ∃ v', c = onePanic v' ∧ VR ρ v v'
  | _, _ => False
/-- the state behind, and how it stands to the one ahead -/
def Then (P : Program) (B lim : Nat) (S S' : St) (ρ ρ' : Ren) (w w' : World) : Prop :=
  HRel P B lim S'.heap.get S'.next ρ' w' ∧ Step S.heap.get S'.heap.get S.next S'.next ρ ρ' w w'
def CallOk (P : Program) (f : FuncId) (args : List Value) (S : St) (e : AEnd) (S' : St) : Prop :=
  Fx S S' ∧ ∀ B lim ρ w args', S'.next < lim → HRel P B lim S.heap.get S.next ρ w → All2 (VR ρ) args args' →
    Calls P f ⟨args'⟩ w fun en w' => ∃ ρ', Then P B lim S S' ρ ρ' w w' ∧ EndR ρ' e en
def CallsOk (P : Program) (call : CallF) : Prop := ∀ f args S e S', call f args S = some (e, S') → CallOk P f args S e S'

theorem Then.trans {P : Program} {B lim : Nat} {a b c : St} {ρ ρ1 ρ2 : Ren} {w w1 w2 : World} (h : Then P B lim a b ρ ρ1 w w1) (g : Then P B lim b c ρ1 ρ2 w1 w2) : Then P B lim a c ρ ρ2 w w2 :=
  ⟨g.1, h.2.trans g.2⟩
theorem trel_put_at {N : Nat} {ρ : Ren} {tm : TT} {tmps : Array Value} {d : Nat} {v v' : Value} (hN : N < N + 1) (ht : TRel N ρ tm.get tmps) (hd : d < N) (hv : VR ρ v v') : TRel N ρ (tm.put 40 d (some v)).get (tmps.setIfInBounds d v') := by
  refine ⟨by rw [Array.size_setIfInBounds]; exact ht.1, fun t u hu => ?_⟩
  rw [FT.get_put] at hu
  have hsz := ht.1
  by_cases e : t = d
  · subst e
    rw [if_pos rfl] at hu; cases hu
    refine ⟨v', ?_, hv⟩
    have hlt : t < tmps.size := by omega
    simp [hlt]
  · rw [if_neg e] at hu
    obtain ⟨x, e1, e2⟩ := ht.2 t u hu
    refine ⟨x, ?_, e2⟩
    rw [← e1]
    simp only [Array.getD_eq_getD_getElem?, Array.getElem?_setIfInBounds_ne (Ne.symm e)]
theorem trel_put {N : Nat} {ρ : Ren} {tm tm1 : TT} {a : Act} {dst : Option Tmp} {v v' : Value} (hN : N < N + 1) (ht : TRel N ρ tm.get a.tmps) (h : tset N tm dst v = some tm1) (hv : VR ρ v v') : TRel N ρ tm1.get (a.put dst v').tmps := by
  unfold tset at h
  cases dst with
  | none => simp at h; subst h; exact ht
  | some d =>
    cases hd : Nat.blt d N with
    | false => simp [hd] at h
    | true =>
      simp only [hd, Option.some.injEq] at h; subst h
      exact trel_put_at hN ht (blt_true hd) hv
theorem wanted_ok {N : Nat} {ρ : Ren} {tm : T} {a : Act} {ops : Array Oper} {o : Oper} {b : Bool} (ht : TRel N ρ tm a.tmps) (h : wantedA tm ops o = some b) : Region.wanted o (yielded ops a.tmps) = b := by
  unfold wantedA at h
  unfold Region.wanted
  cases hg : o.guard with
  | none => simp [hg] at h; subst h; rfl
  | some g =>
    obtain ⟨j, want⟩ := g
    simp only [hg] at h ⊢
    unfold yielded
    cases hd : (ops[j]?).bind (·.dst) with
    | none => simp only [hd] at h; simp at h; simp [h.symm]
    | some d =>
      simp only [hd] at h
      have key : ∀ v, tm d = some v → ∃ v', VR ρ v v' ∧ (v' ≠ undef → a.tmps[d]? = some v') ∧ a.tmps.getD d undef = v' := fun v hv => by
        obtain ⟨v', e1, e2⟩ := ht.2 d v hv
        refine ⟨v', e2, fun hne => ?_, e1⟩
        cases hx : a.tmps[d]? with
        | none => rw [Array.getD_eq_getD_getElem?, hx] at e1; exact absurd e1.symm hne
        | some y => rw [Array.getD_eq_getD_getElem?, hx] at e1; simp at e1; rw [e1]
      cases hv : tm d with
      | none => simp [hv] at h
      | some v =>
        obtain ⟨v', k1, k2, k3⟩ := key v hv
        rw [hv] at h
        cases v <;> simp only [Option.some.injEq, reduceCtorEq] at h
        · rename_i x
          have e := k1.bool
          subst e
          have := k2 (by simp [undef])
          simp only [Option.bind_some, this]
          subst h
          cases x <;> cases want <;> rfl
        · rename_i xs
          obtain ⟨xs⟩ := xs
          obtain ⟨ys, _, e⟩ := k1.tuple
          subst e
          simp only [Option.bind_some]
          subst h
          cases hx : a.tmps[d]? with
          | none => rfl
          | some y => rw [Array.getD_eq_getD_getElem?, hx] at k3; simp at k3; subst k3; rfl
theorem vr_undef (ρ : Ren) : VR ρ undef undef := VR.mkTuple (cs := []) (cs' := []) trivial

section
variable {E : Env} {P : Program} {call : CallF} {N B lim : Nat} {all : Array Oper}
theorem seq_ok (hE : EnvOk E P) (hcall : CallsOk P call) (hN : N < N + 1) : ∀ (ops : List Oper) (tm : TT) (S : St) (p : Option Value) (tm' : TT) (S' : St), seqA E P call N all ops tm S = some (p, tm', S') →
    Fx S S' ∧ ∀ (B lim : Nat) (ρ : Ren) (w : World) (a : Act) (Q : Exit → Act → World → Prop), S'.next < lim → HRel P B lim S.heap.get S.next ρ w → TRel N ρ tm.get a.tmps →
      (p = none → ∀ ρ' a' w', Then P B lim S S' ρ ρ' w w' → TRel N ρ' tm'.get a'.tmps → a'.defers = a.defers → Q .normal a' w') →
      (∀ x, p = some x → ∀ ρ' a' w' v', Then P B lim S S' ρ ρ' w w' → VR ρ' x v' → a'.defers = a.defers → Q (.panic (onePanic v')) a' w') →
      wpList P all Q ops a w := by
  intro ops
  induction ops with
  | nil =>
    intro tm S p tm' S' h
    simp [seqA] at h
    obtain ⟨rfl, rfl, rfl⟩ := h
    exact ⟨Fx.refl _, fun B lim ρ w a Q hl hr ht hn _ => hn rfl ρ a w ⟨hr, Step.refl _ _ _ _⟩ ht rfl⟩
  | cons o rest ih =>
    intro tm S p tm' S' h
    simp only [seqA, Option.bind_eq_some_iff] at h
    obtain ⟨b, hb, h⟩ := h
    cases b with
    | false =>
      simp only [Option.bind_eq_some_iff] at h
      obtain ⟨tm1, h1, h⟩ := h
      obtain ⟨i1, i2⟩ := ih tm1 S p tm' S' h
      refine ⟨i1, fun B lim ρ w a Q hl hr ht hn hp => ?_⟩
      simp only [wpList, wanted_ok ht hb, Bool.false_eq_true, if_false]
      exact i2 B lim ρ w (a.put o.dst undef) Q hl hr (trel_put hN ht h1 (vr_undef ρ)) (fun e ρ' a' w' x y z => hn e ρ' a' w' x y (z.trans (by cases o.dst <;> rfl))) (fun x e ρ' a' w' v' p1 p2 p3 => hp x e ρ' a' w' v' p1 p2 (p3.trans (by cases o.dst <;> rfl)))
    | true =>
      simp only [Option.bind_eq_some_iff] at h
      obtain ⟨⟨n, e⟩, hop, S1, he, h⟩ := h
      obtain ⟨e1, e2, e3⟩ := eff_get he
      have hput : ∀ (a : Act) v, (a.put o.dst v).defers = a.defers := fun a v => by cases o.dst <;> rfl
      cases n with
      | value x =>
        simp only [Option.bind_eq_some_iff] at h
        obtain ⟨tm1, h1, h⟩ := h
        obtain ⟨i1, i2⟩ := ih tm1 S1 p tm' S' h
        refine ⟨e3.trans i1, fun B lim ρ w a Q hl hr ht hn hp => ?_⟩
        simp only [wpList, wanted_ok ht hb, if_true]
        refine .inl ?_
        obtain ⟨ρ1, w1, r1, r2, v', r3, r4⟩ := opA_ok hE hr (Nat.lt_of_le_of_lt (Nat.le_trans e3.next i1.next) hl) ht hop
        have hth : Then P B lim S S1 ρ ρ1 w w1 := ⟨by rw [e1, e2]; exact r1, by rw [e1, e2]; exact r2⟩
        unfold Oper.wp
        rw [r3]
        exact i2 B lim ρ1 w1 (a.put o.dst v') Q hl hth.1 (trel_put hN (ht.mono hth.2.le) h1 r4) (fun e ρ' a' w' x y z => hn e ρ' a' w' (hth.trans x) y (z.trans (hput _ _))) (fun x e ρ' a' w' v' p1 p2 p3 => hp x e ρ' a' w' v' (hth.trans p1) p2 (p3.trans (hput _ _)))
      | skip =>
        simp only [Option.bind_eq_some_iff] at h
        obtain ⟨tm1, h1, h⟩ := h
        obtain ⟨i1, i2⟩ := ih tm1 S1 p tm' S' h
        refine ⟨e3.trans i1, fun B lim ρ w a Q hl hr ht hn hp => ?_⟩
        simp only [wpList, wanted_ok ht hb, if_true]
        refine .inl ?_
        obtain ⟨ρ1, w1, r1, r2, r3⟩ := opA_ok hE hr (Nat.lt_of_le_of_lt (Nat.le_trans e3.next i1.next) hl) ht hop
        have hth : Then P B lim S S1 ρ ρ1 w w1 := ⟨by rw [e1, e2]; exact r1, by rw [e1, e2]; exact r2⟩
        have r3 : (execOp a.eval o).run P w = .ok .skip w1 := r3
        unfold Oper.wp
        rw [r3]
        exact i2 B lim ρ1 w1 (a.put o.dst undef) Q hl hth.1 (trel_put hN (ht.mono hth.2.le) h1 (vr_undef ρ1)) (fun e ρ' a' w' x y z => hn e ρ' a' w' (hth.trans x) y (z.trans (hput _ _))) (fun x e ρ' a' w' v' p1 p2 p3 => hp x e ρ' a' w' v' (hth.trans p1) p2 (p3.trans (hput _ _)))
      | enter f args =>
        simp only [Option.bind_eq_some_iff] at h
        obtain ⟨⟨en, S2⟩, hc, h⟩ := h
        obtain ⟨c1, c2⟩ := hcall f args S1 en S2 hc
        cases en with
        | ret x =>
          simp only [Option.bind_eq_some_iff] at h
          obtain ⟨tm1, h1, h⟩ := h
          obtain ⟨i1, i2⟩ := ih tm1 S2 p tm' S' h
          refine ⟨e3.trans (c1.trans i1), fun B lim ρ w a Q hl hr ht hn hp => ?_⟩
          simp only [wpList, wanted_ok ht hb, if_true]
          refine .inl ?_
          have hl2 : S2.next < lim := Nat.lt_of_le_of_lt i1.next hl
          obtain ⟨ρ1, w1, r1, r2, args', r3, r4⟩ := opA_ok hE hr (Nat.lt_of_le_of_lt (Nat.le_trans e3.next c1.next) hl2) ht hop
          have hth : Then P B lim S S1 ρ ρ1 w w1 := ⟨by rw [e1, e2]; exact r1, by rw [e1, e2]; exact r2⟩
          unfold Oper.wp
          rw [r3]
          refine (c2 B lim ρ1 w1 args'.toList hl2 hth.1 r4).mono ?_
          rintro en w2 ⟨ρ2, h12, hen⟩
          cases en with
          | returned v' =>
            have hth2 := hth.trans h12
            exact i2 B lim ρ2 w2 (a.put o.dst v') Q hl hth2.1 (trel_put hN (ht.mono hth2.2.le) h1 hen) (fun e ρ' a' w' x y z => hn e ρ' a' w' (hth2.trans x) y (z.trans (hput _ _))) (fun x e ρ' a' w' v' p1 p2 p3 => hp x e ρ' a' w' v' (hth2.trans p1) p2 (p3.trans (hput _ _)))
          | panicked c => exact hen.elim
          | outgrown => exact hen.elim
        | panic x =>
          simp only [Option.some.injEq, Prod.mk.injEq] at h
          obtain ⟨rfl, rfl, rfl⟩ := h
          refine ⟨e3.trans c1, fun B lim ρ w a Q hl hr ht hn hp => ?_⟩
          simp only [wpList, wanted_ok ht hb, if_true]
          refine .inl ?_
          obtain ⟨ρ1, w1, r1, r2, args', r3, r4⟩ := opA_ok hE hr (Nat.lt_of_le_of_lt (Nat.le_trans e3.next c1.next) hl) ht hop
          have hth : Then P B lim S S1 ρ ρ1 w w1 := ⟨by rw [e1, e2]; exact r1, by rw [e1, e2]; exact r2⟩
          unfold Oper.wp
          rw [r3]
          refine (c2 B lim ρ1 w1 args'.toList hl hth.1 r4).mono ?_
          rintro en w2 ⟨ρ2, h12, hen⟩
          cases en with
          | returned v' => exact hen.elim
          | panicked c =>
            obtain ⟨v', rfl, hv'⟩ := hen
            exact hp x rfl ρ2 a w2 v' (hth.trans h12) hv' rfl
          | outgrown => exact hen.elim
      | panic x =>
        simp only [Option.some.injEq, Prod.mk.injEq] at h
        obtain ⟨rfl, rfl, rfl⟩ := h
        refine ⟨e3, fun B lim ρ w a Q hl hr ht hn hp => ?_⟩
        simp only [wpList, wanted_ok ht hb, if_true]
        refine .inl ?_
        obtain ⟨ρ1, w1, r1, r2, v', r3, r4⟩ := opA_ok hE hr (Nat.lt_of_le_of_lt e3.next hl) ht hop
        have hth : Then P B lim S S1 ρ ρ1 w w1 := ⟨by rw [e1, e2]; exact r1, by rw [e1, e2]; exact r2⟩
        unfold Oper.wp
        rw [r3]
        exact hp x rfl ρ1 a w1 v' hth r4 rfl
end
end Go.Sy
namespace Go.Sy
open Go Go.RowKit Go.Sx

/-- the objects of a heap, wherever they lie -/
structure ORel (P : Program) (B : Nat) (hp : Hp) (ρ : Ren) (w : World) : Prop where
  base : B ≤ w.heap.size
  obj : ∀ k o, hp k = some o → ObjOk P B ρ w k o
  inj : ∀ k o p k' o' p', hp k = some o → o.own = true → ρ k = some p → hp k' = some o' → o'.own = true → ρ k' = some p' → p.1.block = p'.1.block → k = k'
theorem HRel.orel {P : Program} {B lim nx : Nat} {hp : Hp} {ρ : Ren} {w : World} (h : HRel P B lim hp nx ρ w) : ORel P B hp ρ w := ⟨h.base, h.obj, h.inj⟩
theorem ORel.sub {P : Program} {B : Nat} {G g : Hp} {ρ : Ren} {w : World} (h : ORel P B G ρ w) (hs : ∀ k o, g k = some o → G k = some o) : ORel P B g ρ w :=
  ⟨h.base, fun k o e => h.obj k o (hs k o e), fun k o p k' o' p' a b c d => h.inj k o p k' o' p' (hs _ _ a) b c (hs _ _ d)⟩
theorem ORel.hrel {P : Program} {B lim nx : Nat} {hp : Hp} {ρ : Ren} {w : World} (h : ORel P B hp ρ w) (hf : ∀ k, nx ≤ k → k < lim → ρ k = none) (hl : ∀ k o, hp k = some o → k < nx) : HRel P B lim hp nx ρ w := ⟨h.base, hf, hl, h.obj, h.inj⟩
theorem ObjOk.ren {P : Program} {B : Nat} {ρ : Ren} {w : World} {k : Nat} {o : AObj} (h : ObjOk P B ρ w k o) : ∃ p, ρ k = some p := let ⟨p, h, _⟩ := h; ⟨p, h⟩

theorem merge {P : Program} {B lim : Nat} {G g g' G' : Hp} {nx nx' : Nat} {ρ ρ' : Ren} {w w' : World} (ids : Nat → Prop)
    (hG : ORel P B G ρ w) (hsub : ∀ k o, g k = some o → G k = some o) (hst : Step g g' nx nx' ρ ρ' w w') (hg' : HRel P B lim g' nx' ρ' w')
    (ha : ∀ k, ids k → G' k = g' k) (hb : ∀ k, ¬ ids k → g' k = g k) (hb' : ∀ k, ¬ ids k → G' k = G k) :
    ORel P B G' ρ' w' ∧ Step G G' nx nx' ρ ρ' w w' := by
  have hle := hst.le
  -- what stands outside
  have outer : ∀ k o, ¬ ids k → G k = some o → g k = none → ∀ p, ρ k = some p → o.own = true → ¬ Owned g ρ p.1.block := by
    intro k o hk hGk hgk p hp ho hown
    obtain ⟨j, q, u, h1, h2, h3, h4⟩ := hown
    have := hG.inj j q u k o p (hsub _ _ h1) h2 h3 hGk ho hp h4
    subst this
    rw [hgk] at h1; cases h1
  have ownB : ∀ b, Owned g ρ b → B ≤ b := by
    rintro b ⟨j, q, u, h1, h2, h3, rfl⟩
    exact ((hG.obj j q (hsub _ _ h1)).own_le h2 h3).1
  have keepo : ∀ k o, ¬ ids k → G k = some o → g k = none → ObjOk P B ρ' w' k o := by
    intro k o hk hGk hgk
    refine (hG.obj k o hGk).keep hle fun p hp => ?_
    by_cases ho : o.own = true
    · exact hst.keep _ ((hG.obj k o hGk).own_le ho hp).2 (outer k o hk hGk hgk p hp ho)
    · obtain ⟨q, h1, _, h3⟩ := hG.obj k o hGk
      rw [hp] at h1; cases h1
      cases o with
      | cells c e b => cases b with
        | true => exact absurd rfl ho
        | false =>
          have := hG.base
          exact hst.keep _ (by have := h3.1; omega) fun hown => by have := ownB _ hown; have := h3.1; omega
      | map es c => exact absurd rfl ho
      | iter a b c d => exact absurd rfl ho
  have cases' : ∀ k o, G' k = some o → g' k = some o ∨ (¬ ids k ∧ G k = some o ∧ g k = none) := by
    intro k o h
    by_cases hk : ids k
    · exact .inl ((ha k hk) ▸ h)
    · rw [hb' k hk] at h
      cases hgk : g k with
      | none => exact .inr ⟨hk, h, rfl⟩
      | some o' =>
        have := hsub k o' hgk
        rw [h] at this; cases this
        exact .inl (by rw [hb k hk]; exact hgk)
  have rho : ∀ k o, G k = some o → ∀ p, ρ' k = some p → ρ k = some p := by
    intro k o h p hp
    obtain ⟨q, hq⟩ := (hG.obj k o h).ren
    have := hle k q hq
    rw [hp] at this; cases this; exact hq
  have mixed : ∀ k o p k' o' p', g' k = some o → o.own = true → ρ' k = some p → ¬ ids k' → G k' = some o' → g k' = none → o'.own = true → ρ' k' = some p' → p.1.block ≠ p'.1.block := by
    intro k o p k' o' p' h1 h2 h3 h4 h5 h6 h7 h8 he
    have hp' := rho k' o' h5 p' h8
    have hlt := ((hG.obj k' o' h5).own_le h7 hp').2
    rcases hst.own p.1.block ⟨k, o, p, h1, h2, h3, rfl⟩ with h | h
    · omega
    · rw [he] at h; exact outer k' o' h4 h5 h6 p' hp' h7 h
  refine ⟨⟨Nat.le_trans hG.base hst.size, fun k o h => ?_, fun k o p k' o' p' h1 h2 h3 h4 h5 h6 he => ?_⟩, ⟨hst.next, hst.ext, hst.os, hst.tape, hst.output, hst.size, fun b hb hn => ?_, fun b hb => ?_⟩⟩
  · rcases cases' k o h with h | ⟨h1, h2, h3⟩
    · exact hg'.obj k o h
    · exact keepo k o h1 h2 h3
  · rcases cases' k o h1 with g1 | ⟨a1, a2, a3⟩ <;> rcases cases' k' o' h4 with g2 | ⟨b1, b2, b3⟩
    · exact hg'.inj k o p k' o' p' g1 h2 h3 g2 h5 h6 he
    · exact absurd he (mixed k o p k' o' p' g1 h2 h3 b1 b2 b3 h5 h6)
    · exact absurd he.symm (mixed k' o' p' k o p g2 h5 h6 a1 a2 a3 h2 h3)
    · exact hG.inj k o p k' o' p' a2 h2 (rho k o a2 p h3) b2 h5 (rho k' o' b2 p' h6) he
  · exact hst.keep b hb fun ⟨j, q, u, h1, h2, h3, h4⟩ => hn ⟨j, q, u, hsub _ _ h1, h2, h3, h4⟩
  · obtain ⟨k, o, p, h1, h2, h3, rfl⟩ := hb
    rcases cases' k o h1 with g1 | ⟨a1, a2, a3⟩
    · rcases hst.own p.1.block ⟨k, o, p, g1, h2, h3, rfl⟩ with h | ⟨j, q, u, b1, b2, b3, b4⟩
      · exact .inl h
      · exact .inr ⟨j, q, u, hsub _ _ b1, b2, b3, b4⟩
    · exact .inr ⟨k, o, p, a2, h2, rho k o a2 p h3, rfl⟩

/-! ### what was done, laid over a heap -/
def layF (f : Hp) : List (Nat × Option AObj) → Hp
  | [] => f
  | (k, o) :: l => layF (over f k o) l
def idsOf (l : List (Nat × Option AObj)) (k : Nat) : Prop := k ∈ l.map (·.1)
theorem layF_other : ∀ (l : List (Nat × Option AObj)) (f : Hp) (k : Nat), ¬ idsOf l k → layF f l k = f k
  | [], f, k, _ => rfl
  | (j, o) :: l, f, k, h => by
    simp only [idsOf, List.map_cons, List.mem_cons, not_or] at h
    rw [layF, layF_other l _ k h.2, over_other _ _ h.1]
theorem layF_congr : ∀ (l : List (Nat × Option AObj)) (f g : Hp) (k : Nat), (idsOf l k ∨ f k = g k) → layF f l k = layF g l k
  | [], f, g, k, h => by
    rcases h with h | h
    · simp [idsOf] at h
    · exact h
  | (j, o) :: l, f, g, k, h => by
    refine layF_congr l _ _ k ?_
    by_cases e : k = j
    · subst e; exact .inr (by rw [over_same, over_same])
    · rcases h with h | h
      · simp only [idsOf, List.map_cons, List.mem_cons] at h
        exact .inl (h.resolve_left e)
      · exact .inr (by rw [over_other _ _ e, over_other _ _ e]; exact h)
theorem layF_comm {l m : List (Nat × Option AObj)} (f : Hp) (h : ∀ k, idsOf l k → ¬ idsOf m k) : layF (layF f l) m = layF (layF f m) l := by
  funext k
  by_cases hl : idsOf l k
  · rw [layF_other m _ k (h k hl)]
    exact layF_congr l f (layF f m) k (.inl hl)
  · rw [layF_other l _ k hl]
    exact layF_congr m _ f k (.inr (layF_other l f k hl))
theorem layD_get : ∀ (l : List (Nat × Option AObj)) (h : FH), (∀ k, idsOf l k → k < k + 1) → (layD h l).get = layF h.get l
  | [], h, _ => rfl
  | (k, o) :: l, h, hb => by
    have hk : k < k + 1 := hb k (by simp [idsOf])
    rw [layD, layD_get l _ fun j hj => hb j (by simp only [idsOf, List.map_cons, List.mem_cons]; exact .inr hj), get_put_fn hk]
    rfl
def layR (f : Hp) : List Rec → Hp
  | [] => f
  | r :: l => layR (layF f r.delta) l
theorem layR_append (f : Hp) : ∀ (l m : List Rec), layR f (l ++ m) = layR (layR f l) m
  | [], m => rfl
  | r :: l, m => by simp only [List.cons_append, layR]; exact layR_append _ l m
theorem layR_other : ∀ (l : List Rec) (f : Hp) (k : Nat), (∀ r ∈ l, ¬ idsOf r.delta k) → layR f l k = f k
  | [], f, k, _ => rfl
  | r :: l, f, k, h => by
    rw [layR, layR_other l _ k fun x hx => h x (List.mem_cons_of_mem _ hx), layF_other _ _ _ (h r List.mem_cons_self)]
theorem layR_past (m : List (Nat × Option AObj)) : ∀ (l : List Rec) (f : Hp), (∀ r ∈ l, ∀ k, idsOf m k → ¬ idsOf r.delta k) → layR (layF f m) l = layF (layR f l) m
  | [], f, _ => rfl
  | r :: l, f, h => by
    simp only [layR]
    rw [layF_comm f (h r List.mem_cons_self)]
    exact layR_past m l _ fun x hx => h x (List.mem_cons_of_mem _ hx)
/-- those that leave a number alone may be left out -/
theorem layR_filter (D : Rec → Bool) : ∀ (l : List Rec) (f : Hp) (k : Nat), (∀ r ∈ l, D r = false → ¬ idsOf r.delta k) → layR f l k = layR f (l.filter D) k
  | [], f, k, _ => rfl
  | r :: l, f, k, h => by
    have ih := fun f => layR_filter D l f k fun x hx => h x (List.mem_cons_of_mem _ hx)
    have cong : ∀ (l : List Rec) (f g : Hp), f k = g k → layR f l k = layR g l k := by
      intro l
      induction l with
      | nil => intro f g e; exact e
      | cons x l il => intro f g e; exact il _ _ (layF_congr _ _ _ _ (.inr e))
    cases hD : D r with
    | true => rw [List.filter_cons_of_pos hD]; simp only [layR]; exact ih _
    | false =>
      rw [List.filter_cons_of_neg (by simp [hD])]
      simp only [layR]
      rw [ih]
      exact cong _ _ _ (layF_other _ _ _ (h r List.mem_cons_self hD))
theorem viewD_get (mask : Nat) : ∀ (l : List Rec) (h : FH), (∀ r ∈ l, ∀ k, idsOf r.delta k → k < k + 1) → (viewD h mask l).get = layR h.get (l.filter fun r => mask.testBit r.i)
  | [], h, _ => rfl
  | r :: l, h, hb => by
    have ih := fun h => viewD_get mask l h fun x hx => hb x (List.mem_cons_of_mem _ hx)
    cases hm : mask.testBit r.i with
    | true => rw [List.filter_cons_of_pos (by simpa using hm)]; simp only [viewD, hm, layR]; rw [ih, layD_get _ _ (hb r List.mem_cons_self)]
    | false => rw [List.filter_cons_of_neg (by simp [hm])]; simp only [viewD, hm]; exact ih _
theorem layAll_get : ∀ (l : List Rec) (h : FH), (∀ r ∈ l, ∀ k, idsOf r.delta k → k < k + 1) → (layAll h l).get = layR h.get l
  | [], h, _ => rfl
  | r :: l, h, hb => by
    simp only [layAll, layR]
    rw [layAll_get l _ fun x hx => hb x (List.mem_cons_of_mem _ hx), layD_get _ _ (hb r List.mem_cons_self)]

/-! ### the temporaries -/
def tmR (f : T) : List Rec → T
  | [] => f
  | r :: l => tmR (fun t => if r.o.dst = some t then some r.v else f t) l
theorem tmR_append (f : T) : ∀ (l m : List Rec), tmR f (l ++ m) = tmR (tmR f l) m
  | [], m => rfl
  | r :: l, m => by simp only [List.cons_append, tmR]; exact tmR_append _ l m
theorem tmR_congr : ∀ (l : List Rec) (f g : T) (t : Nat), f t = g t → tmR f l t = tmR g l t
  | [], _, _, _, h => h
  | r :: l, f, g, t, h => tmR_congr l _ _ t (by split <;> first | rfl | exact h)
theorem tmR_other : ∀ (l : List Rec) (f : T) (t : Nat), (∀ r ∈ l, r.o.dst ≠ some t) → tmR f l t = f t
  | [], f, t, _ => rfl
  | r :: l, f, t, h => by
    rw [tmR, tmR_other l _ t fun x hx => h x (List.mem_cons_of_mem _ hx), if_neg (h r List.mem_cons_self)]
theorem tmR_filter (D : Rec → Bool) : ∀ (l : List Rec) (f : T) (t : Nat), (∀ r ∈ l, D r = false → r.o.dst ≠ some t) → tmR f l t = tmR f (l.filter D) t
  | [], f, t, _ => rfl
  | r :: l, f, t, h => by
    have ih := fun f => tmR_filter D l f t fun x hx => h x (List.mem_cons_of_mem _ hx)
    cases hD : D r with
    | true => rw [List.filter_cons_of_pos hD]; simp only [tmR]; exact ih _
    | false =>
      rw [List.filter_cons_of_neg (by simp [hD])]
      simp only [tmR]
      rw [ih]
      exact tmR_congr _ _ _ _ (if_neg (h r List.mem_cons_self hD))
end Go.Sy
namespace Go.Sy
open Go Go.RowKit Go.Sx

def core (r : Rec) : Rec := { r with alt := none }
def CoreEq : List Rec → List Rec → Prop
  | [], [] => True
  | a :: l, b :: m => core a = core b ∧ CoreEq l m
  | _, _ => False
theorem CoreEq.refl : ∀ l, CoreEq l l
  | [] => trivial
  | _ :: l => ⟨rfl, CoreEq.refl l⟩
theorem CoreEq.length : ∀ {l m}, CoreEq l m → m.length = l.length
  | [], [], _ => rfl
  | _ :: _, _ :: _, h => by simp [CoreEq.length h.2]
  | [], _ :: _, h => h.elim
  | _ :: _, [], h => h.elim
theorem core_fields {a b : Rec} (h : core a = core b) : a.i = b.i ∧ a.mask = b.mask ∧ a.rd = b.rd ∧ a.wr = b.wr ∧ a.delta = b.delta ∧ a.v = b.v ∧ a.o = b.o ∧ a.tm = b.tm ∧ a.view = b.view ∧ a.nx = b.nx ∧ a.fin = b.fin := by
  cases a; cases b; simp [core] at h; simp [h]
theorem CoreEq.get : ∀ {l m}, CoreEq l m → ∀ (i : Nat) (r : Rec), m[i]? = some r → ∃ q, l[i]? = some q ∧ core q = core r
  | [], [], _, i, r, h => by simp at h
  | a :: l, b :: m, h, 0, r, hr => by simp at hr; subst hr; exact ⟨a, rfl, h.1⟩
  | _ :: l, _ :: m, h, i + 1, r, hr => by simpa using CoreEq.get h.2 i r (by simpa using hr)
  | [], _ :: _, h, _, _, _ => h.elim
  | _ :: _, [], h, _, _, _ => h.elim
theorem CoreEq.take : ∀ {l m}, CoreEq l m → ∀ i, CoreEq (l.take i) (m.take i)
  | [], [], _, i => by simp [CoreEq]
  | a :: l, b :: m, h, 0 => trivial
  | _ :: l, _ :: m, h, i + 1 => ⟨h.1, CoreEq.take h.2 i⟩
  | [], _ :: _, h, _ => h.elim
  | _ :: _, [], h, _ => h.elim
theorem CoreEq.tm : ∀ {l m}, CoreEq l m → ∀ f, tmR f l = tmR f m
  | [], [], _, f => rfl
  | a :: l, b :: m, h, f => by
    obtain ⟨_, _, _, _, _, hv, ho, _⟩ := core_fields h.1
    simp only [tmR, hv, ho]
    exact CoreEq.tm h.2 _
  | [], _ :: _, h, _ => h.elim
  | _ :: _, [], h, _ => h.elim
theorem CoreEq.view (mask : Nat) : ∀ {l m}, CoreEq l m → ∀ h0, viewD h0 mask l = viewD h0 mask m
  | [], [], _, f => rfl
  | a :: l, b :: m, h, f => by
    obtain ⟨hi, _, _, _, hd, _⟩ := core_fields h.1
    simp only [viewD, hi, hd]
    cases mask.testBit b.i <;> exact CoreEq.view mask h.2 _
  | [], _ :: _, h, _ => h.elim
  | _ :: _, [], h, _ => h.elim
theorem CoreEq.fin : ∀ {l m}, CoreEq l m → ∀ n, (∀ r ∈ l, r.fin < n) → ∀ r ∈ m, r.fin < n
  | [], [], _, _, _, r, hr => by cases hr
  | a :: l, b :: m, h, n, hf, r, hr => by
    cases hr with
    | head => have := hf a List.mem_cons_self; rw [(core_fields h.1).2.2.2.2.2.2.2.2.2.2] at this; exact this
    | tail _ hr => exact CoreEq.fin h.2 n (fun x hx => hf x (List.mem_cons_of_mem _ hx)) r hr
  | [], _ :: _, h, _, _, _, _ => h.elim
  | _ :: _, [], h, _, _, _, _ => h.elim

section
variable (E : Env) (P : Program) (call : CallF) (N : Nat) (all : Array Oper) (h0 : FH) (tm0 : TT) (nx0 : Nat)

def AltOk (r : Rec) (delta : List (Nat × Option AObj)) : Prop :=
  ∃ foot, r.rd = some foot ∧ r.wr = [] ∧ r.delta = [] ∧ opA E P (looked all r.o r.tm) (behind foot r.view delta) r.nx r.o = some (.value r.v, .none)
def PairOk (i : Nat) (r rk : Rec) : Prop := meets rk.wr r.rd = false ∧ (meets r.wr rk.rd = false ∨ (rk.alt = some (i, r.delta) ∧ AltOk E P all rk r.delta))
def DidOk (r : Rec) (pre : List Rec) : Prop :=
  (wantedA (looked all r.o r.tm) all r.o = some false ∧ r.v = undef ∧ r.rd = some [] ∧ r.wr = [] ∧ r.delta = [] ∧ r.fin = r.nx) ∨
  (wantedA (looked all r.o r.tm) all r.o = some true ∧ r.view = viewD h0 r.mask pre ∧ wrOk r.view r.nx r.rd r.wr = true ∧
    ((∃ foot n e, r.rd = some foot ∧ opA E P (looked all r.o r.tm) (within foot r.view) r.nx r.o = some (n, e) ∧ (n = .value r.v ∨ (n = .skip ∧ r.v = undef)) ∧ r.wr = effWr e ∧ r.delta = effD e r.nx ∧ r.fin = e.nx r.nx) ∨
     (∃ foot f args S', r.rd = none ∧ opA E P (looked all r.o r.tm) (within foot r.view) r.nx r.o = some (.enter f args, .none) ∧ call f args ⟨r.view, r.nx, r.nx, []⟩ = some (.ret r.v, S') ∧ r.wr = S'.wr ∧
        r.delta = (S'.wr.map fun k => (k, S'.heap.get k)) ++ newsD S'.heap r.nx (S'.next - r.nx) ∧ r.fin = S'.next ∧ S'.next < S'.next + 1)))
def MaskOk (recs : List Rec) (i : Nat) (r : Rec) : Prop :=
  (∀ e ∈ r.o.after.toList, Region.binds .any e = true → e.on < i ∧ r.mask.testBit e.on = true ∧ ∀ q, recs[e.on]? = some q → ∀ k, q.mask.testBit k = true → r.mask.testBit k = true) ∧
  ∀ k, r.mask.testBit k = true → k < i ∧ ∃ e ∈ r.o.after.toList, Region.binds .any e = true ∧ (k = e.on ∨ ∃ q, recs[e.on]? = some q ∧ q.mask.testBit k = true)
structure GoodD (before : List Oper) (ms : List Nat) (recs : List Rec) (tm : TT) (nx : Nat) : Prop where
  len : recs.length = before.length
  ms : ms = recs.map (·.mask)
  at_ : ∀ (i : Nat) (r : Rec), recs[i]? = some r → r.i = i ∧ before[i]? = some r.o
  mask : ∀ (i : Nat) (r : Rec), recs[i]? = some r → MaskOk recs i r
  apart : ∀ (i : Nat) (r : Rec) (k : Nat) (rk : Rec), recs[i]? = some r → k < i → recs[k]? = some rk → r.mask.testBit k = true ∨ rk.o.apart all r.o = true
  tms : ∀ (i : Nat) (r : Rec), recs[i]? = some r → r.tm.get = tmR tm0.get (recs.take i)
  tmF : tm.get = tmR tm0.get recs
  dst : ∀ (i : Nat) (r : Rec) (d : Tmp), recs[i]? = some r → r.o.dst = some d → Nat.blt d N = true
  nxs : ∀ (i : Nat) (r : Rec), recs[i]? = some r → nx0 ≤ r.nx ∧ r.nx ≤ r.fin ∧ r.nx < r.nx + 1 ∧ ∀ q ∈ recs.take i, q.fin < r.nx
  nxF : nx0 ≤ nx ∧ ∀ r ∈ recs, r.fin < nx
  did : ∀ (i : Nat) (r : Rec), recs[i]? = some r → DidOk E P call all h0 r (recs.take i)
  pair : ∀ (i : Nat) (r : Rec) (k : Nat) (rk : Rec), recs[i]? = some r → k < i → recs[k]? = some rk → r.mask.testBit k = false → PairOk E P all i r rk

variable {E P call N all h0 tm0 nx0}
theorem sameInts_eq : ∀ {a b : List Value}, sameInts a b = true → a = b
  | [], [], _ => rfl
  | .int k x :: l, .int k' y :: l', h => by
    simp [sameInts] at h
    obtain ⟨⟨rfl, rfl⟩, h⟩ := h
    rw [sameInts_eq h]
  | [], _ :: _, h => by simp [sameInts] at h
  | _ :: _, [], h => by simp [sameInts] at h
theorem sameV_eq {a b : Value} (h : sameV a b = true) : a = b := by
  unfold sameV at h
  split at h
  · simp at h; obtain ⟨rfl, rfl⟩ := h; rfl
  · simp at h
    obtain ⟨⟨rfl, h1⟩, h2⟩ := h
    rw [Array.toList_inj.1 (sameInts_eq h1), Array.toList_inj.1 (sameInts_eq h2)]
  · simp at h; subst h; rfl
  · simp at h; subst h; rfl
  · simp at h; subst h; rfl
  · simp at h; obtain ⟨⟨rfl, rfl⟩, rfl⟩ := h; rfl
  · cases h
theorem recheck_ok {r : Rec} {delta : List (Nat × Option AObj)} (h : recheck E P all r delta = true) : r.alt = none ∧ AltOk E P all r delta := by
  unfold recheck at h
  split at h
  · rename_i foot h1 h2 h3 h4
    split at h
    · rename_i v hv
      have := sameV_eq h
      subst this
      exact ⟨h4, foot, h1, h2, h3, hv⟩
    · cases h
  · cases h
theorem calmD_ok {i mask : Nat} {rd : Option (List Nat)} {wr : List Nat} {delta : List (Nat × Option AObj)} : ∀ {l l' : List Rec}, calmD E P all i mask rd wr delta l = some l' → CoreEq l l' ∧
    ∀ (k : Nat) (q r : Rec), l[k]? = some q → l'[k]? = some r → (r = q ∧ (mask.testBit q.i = true ∨ (meets q.wr rd = false ∧ meets wr q.rd = false))) ∨
      (r = { q with alt := some (i, delta) } ∧ q.alt = none ∧ meets q.wr rd = false ∧ AltOk E P all q delta)
  | [], l', h => by simp [calmD] at h; subst h; exact ⟨trivial, fun k q r h => by simp at h⟩
  | a :: l, l', h => by
    simp only [calmD, Option.bind_eq_some_iff] at h
    obtain ⟨m, hm, h⟩ := h
    obtain ⟨i1, i2⟩ := calmD_ok hm
    cases ht : mask.testBit a.i with
    | true =>
      simp only [ht, Option.some.injEq] at h; subst h
      refine ⟨⟨rfl, i1⟩, fun k q r h1 h2 => ?_⟩
      cases k with
      | zero => simp at h1 h2; subst h1; subst h2; exact .inl ⟨rfl, .inl ht⟩
      | succ k => exact i2 k q r (by simpa using h1) (by simpa using h2)
    | false =>
      simp only [ht] at h
      cases h1 : meets a.wr rd with
      | true => cases h2 : meets wr a.rd <;> simp [h1, h2] at h
      | false =>
        cases h2 : meets wr a.rd with
        | false =>
          simp only [h1, h2, Option.some.injEq] at h; subst h
          refine ⟨⟨rfl, i1⟩, fun k q r g1 g2 => ?_⟩
          cases k with
          | zero => simp at g1 g2; subst g1; subst g2; exact .inl ⟨rfl, .inr ⟨h1, h2⟩⟩
          | succ k => exact i2 k q r (by simpa using g1) (by simpa using g2)
        | true =>
          cases h3 : recheck E P all a delta with
          | false => simp [h1, h2, h3] at h
          | true =>
            simp only [h1, h2, h3, Option.some.injEq] at h; subst h
            refine ⟨⟨rfl, i1⟩, fun k q r g1 g2 => ?_⟩
            cases k with
            | zero =>
              simp at g1 g2; subst g1; subst g2
              obtain ⟨b1, b2⟩ := recheck_ok h3
              exact .inr ⟨rfl, b1, h1, b2⟩
            | succ k => exact i2 k q r (by simpa using g1) (by simpa using g2)
theorem maskOf_ok {ms : List Nat} : ∀ (l : List Edge) (m0 m : Nat), maskOf ms l m0 = some m →
    (∀ k, m0.testBit k = true → m.testBit k = true) ∧ (∀ e ∈ l, Region.binds .any e = true → e.on < ms.length ∧ m.testBit e.on = true ∧ ∀ q, ms[e.on]? = some q → ∀ k, q.testBit k = true → m.testBit k = true) ∧
    ∀ k, m.testBit k = true → m0.testBit k = true ∨ ∃ e ∈ l, Region.binds .any e = true ∧ (k = e.on ∨ ∃ q, ms[e.on]? = some q ∧ q.testBit k = true)
  | [], m0, m, h => by simp [maskOf] at h; subst h; exact ⟨fun k h => h, fun e he _ => (by cases he), fun k h => Or.inl h⟩
  | e :: l, m0, m, h => by
    unfold maskOf at h
    cases hb : Region.binds .any e with
    | false =>
      simp only [hb] at h
      obtain ⟨h1, h2, h3⟩ := maskOf_ok l m0 m h
      refine ⟨h1, fun x hx hxb => ?_, fun k hk => ?_⟩
      · cases hx with
        | head => rw [hb] at hxb; cases hxb
        | tail _ hx => exact h2 x hx hxb
      · rcases h3 k hk with h | ⟨x, hx, h⟩
        · exact .inl h
        · exact .inr ⟨x, List.mem_cons_of_mem _ hx, h⟩
    | true =>
      simp only [hb, Option.bind_eq_some_iff] at h
      obtain ⟨q, hq, h⟩ := h
      obtain ⟨h1, h2, h3⟩ := maskOf_ok l _ m h
      have hlt : e.on < ms.length := (List.getElem?_eq_some_iff.1 hq).1
      have hbit : m.testBit e.on = true := h1 _ (by simp [Nat.testBit_or, Nat.testBit_two_pow_self])
      refine ⟨fun k hk => h1 k (by simp [Nat.testBit_or, hk]), fun x hx hxb => ?_, fun k hk => ?_⟩
      · cases hx with
        | head => exact ⟨hlt, hbit, fun q' hq' k hk => by rw [hq] at hq'; cases hq'; exact h1 k (by simp [Nat.testBit_or, hk])⟩
        | tail _ hx => exact h2 x hx hxb
      · rcases h3 k hk with h | ⟨x, hx, h⟩
        · simp only [Nat.testBit_or, Bool.or_eq_true] at h
          rcases h with h | h | h
          · exact .inl h
          · exact .inr ⟨e, List.mem_cons_self, hb, .inr ⟨q, hq, h⟩⟩
          · rw [Nat.testBit_two_pow] at h
            have h' : e.on = k := by simpa using h
            exact .inr ⟨e, List.mem_cons_self, hb, .inl h'.symm⟩
        · exact .inr ⟨x, List.mem_cons_of_mem _ hx, h⟩
theorem apartD_ok {ops : Array Oper} {mask : Nat} {o : Oper} : ∀ (l : List Oper) (k : Nat), apartD ops mask o k l = true → ∀ j x, l[j]? = some x → mask.testBit (k + j) = true ∨ x.apart ops o = true
  | [], _, _, j, x, h => by simp at h
  | a :: l, k, h, 0, x, hx => by
    simp only [apartD, Bool.and_eq_true, Bool.or_eq_true] at h
    simp at hx; subst hx; exact h.1
  | a :: l, k, h, j + 1, x, hx => by
    simp only [apartD, Bool.and_eq_true, Bool.or_eq_true] at h
    have := apartD_ok l (k + 1) h.2 j x (by simpa using hx)
    rwa [show k + 1 + j = k + (j + 1) by omega] at this
theorem tset_get {tm tm1 : TT} {dst : Option Tmp} {v : Value} (hN : N < N + 1) (h : tset N tm dst v = some tm1) : (tm1.get = fun t => if dst = some t then some v else tm.get t) ∧ ∀ d, dst = some d → Nat.blt d N = true := by
  unfold tset at h
  cases dst with
  | none => simp at h; subst h; exact ⟨by funext t; simp, fun d h => by cases h⟩
  | some d =>
    cases hd : Nat.blt d N with
    | false => simp [hd] at h
    | true =>
      simp only [hd, Option.some.injEq] at h; subst h
      have := blt_true hd
      refine ⟨?_, fun d' e => by have e : some d = some d' := e; cases e; exact hd⟩
      funext t
      rw [FT.get_put]
      by_cases e : t = d
      · subst e; simp
      · have e' : ¬ (some d = some t) := fun h => e (by cases h; rfl)
        rw [if_neg e, if_neg e']

/-- one operation more -/
theorem GoodD.snoc (hN : N < N + 1) {before : List Oper} {ms : List Nat} {recs recs1 : List Rec} {tm tm1 : TT} {nx mask : Nat} {o : Oper} {r : Rec} (g : GoodD E P call N all h0 tm0 nx0 before ms recs tm nx)
    (hmask : maskOf ms o.after.toList 0 = some mask) (hap : apartD all mask o 0 before = true) (hnx : nx < nx + 1) (ht : tset N tm o.dst r.v = some tm1)
    (hi : r.i = before.length) (hm : r.mask = mask) (ho : r.o = o) (htm : r.tm = tm) (hrn : r.nx = nx) (hfin : r.nx ≤ r.fin)
    (hc : CoreEq recs recs1) (hdid : DidOk E P call all h0 r recs)
    (hpair : ∀ (k : Nat) (q r' : Rec), recs[k]? = some q → recs1[k]? = some r' → (r' = q ∧ (mask.testBit q.i = true ∨ (meets q.wr r.rd = false ∧ meets r.wr q.rd = false))) ∨
      (r' = { q with alt := some (before.length, r.delta) } ∧ q.alt = none ∧ meets q.wr r.rd = false ∧ AltOk E P all q r.delta)) :
    GoodD E P call N all h0 tm0 nx0 (before ++ [o]) (ms ++ [mask]) (recs1 ++ [r]) tm1 (r.fin + 1) := by
  subst hm ho htm hrn
  have hlen : recs1.length = before.length := by rw [hc.length, g.len]
  have old : ∀ (i : Nat) (x : Rec), (recs1 ++ [r])[i]? = some x → (∃ q : Rec, recs[i]? = some q ∧ core q = core x ∧ recs1[i]? = some x ∧ i < before.length) ∨ (i = before.length ∧ x = r) := by
    intro i x h
    by_cases hlt : i < recs1.length
    · rw [List.getElem?_append_left hlt] at h
      obtain ⟨q, h1, h2⟩ := hc.get i x h
      exact .inl ⟨q, h1, h2, h, by omega⟩
    · rw [List.getElem?_append_right (by omega)] at h
      cases hz : i - recs1.length with
      | zero => rw [hz] at h; simp at h; exact .inr ⟨by omega, h.symm⟩
      | succ m => rw [hz] at h; simp at h
  have htake : ∀ i, i ≤ before.length → (recs1 ++ [r]).take i = recs1.take i := fun i hi => List.take_append_of_le_length (by omega)
  obtain ⟨t1, t2⟩ := tset_get hN ht
  obtain ⟨m1, m2, m3⟩ := maskOf_ok _ _ _ hmask
  have hmget : ∀ (j : Nat) (q : Nat), ms[j]? = some q → ∃ x, recs[j]? = some x ∧ x.mask = q := by
    intro j q h
    rw [g.ms, List.getElem?_map] at h
    cases hx : recs[j]? with
    | none => simp [hx] at h
    | some x => simp [hx] at h; exact ⟨x, rfl, h⟩
  have up : ∀ (j : Nat) (x : Rec), recs[j]? = some x → ∃ y : Rec, (recs1 ++ [r])[j]? = some y ∧ core x = core y := by
    intro j x h
    have hlt : j < recs1.length := by rw [hlen, ← g.len]; exact (List.getElem?_eq_some_iff.1 h).1
    obtain ⟨y, hy⟩ : ∃ y, recs1[j]? = some y := ⟨recs1[j], List.getElem?_eq_getElem hlt⟩
    obtain ⟨q, h1, h2⟩ := hc.get j y hy
    rw [h] at h1; cases h1
    exact ⟨y, by rw [List.getElem?_append_left hlt]; exact hy, h2⟩
  refine ⟨by simp [hlen], ?_, ?_, ?_, ?_, ?_, ?_, ?_, ?_, ?_, ?_, ?_⟩
  · rw [List.map_append, g.ms]
    congr 1
    apply List.ext_getElem?
    intro j
    rw [List.getElem?_map, List.getElem?_map]
    cases hj : recs1[j]? with
    | none => rw [List.getElem?_eq_none_iff] at hj; rw [List.getElem?_eq_none_iff.2 (by rw [g.len]; omega)]
    | some y => obtain ⟨q, h1, h2⟩ := hc.get j y hj; rw [h1]; simp [(core_fields h2).2.1]
  · intro i x h
    rcases old i x h with ⟨q, h1, h2, _, h4⟩ | ⟨rfl, rfl⟩
    · obtain ⟨a1, a2⟩ := g.at_ i q h1
      have cf := core_fields h2
      exact ⟨cf.1 ▸ a1, by rw [List.getElem?_append_left h4, a2, cf.2.2.2.2.2.2.1]⟩
    · exact ⟨hi, by simp⟩
  · intro i x h
    rcases old i x h with ⟨q, h1, h2, _, h4⟩ | ⟨rfl, rfl⟩
    · obtain ⟨a1, a2⟩ := g.mask i q h1
      have cf := core_fields h2
      refine ⟨fun e he hb => ?_, fun k hk => ?_⟩
      · rw [← cf.2.2.2.2.2.2.1] at he; rw [← cf.2.1]
        obtain ⟨b1, b2, b3⟩ := a1 e he hb
        refine ⟨b1, b2, fun y hy k hk => ?_⟩
        rcases old _ y hy with ⟨q', c1, c2, _, _⟩ | ⟨hl, rfl⟩
        · exact b3 q' c1 k ((core_fields c2).2.1 ▸ hk)
        · omega
      · rw [← cf.2.1] at hk
        obtain ⟨b1, e, b2, b3, b4⟩ := a2 k hk
        rw [cf.2.2.2.2.2.2.1] at b2
        refine ⟨b1, e, b2, b3, b4.imp_right fun ⟨q', c1, c2⟩ => ?_⟩
        obtain ⟨y, d1, d2⟩ := up _ _ c1
        exact ⟨y, d1, (core_fields d2).2.1 ▸ c2⟩
    · refine ⟨fun e he hb => ?_, fun k hk => ?_⟩
      · have := m2 e he hb
        refine ⟨by rw [g.ms, List.length_map, g.len] at this; exact this.1, this.2.1, fun y hy k hk => ?_⟩
        rcases old _ y hy with ⟨q', c1, c2, _, _⟩ | ⟨hl, rfl⟩
        · refine this.2.2 q'.mask (by rw [g.ms, List.getElem?_map, c1]; rfl) k ?_
          rw [(core_fields c2).2.1]; exact hk
        · rw [g.ms, List.length_map, g.len] at this; omega
      · rcases m3 k hk with h | ⟨e, h1, h2, h3⟩
        · simp at h
        · have he := (m2 e h1 h2).1
          rw [g.ms, List.length_map, g.len] at he
          refine ⟨?_, e, h1, h2, ?_⟩
          · rcases h3 with rfl | ⟨q, hq, hk'⟩
            · exact he
            · obtain ⟨x', hx, rfl⟩ := hmget _ _ hq
              have := ((g.mask _ _ hx).2 k hk').1
              omega
          · rcases h3 with rfl | ⟨q, hq, hk'⟩
            · exact .inl rfl
            · obtain ⟨x', hx, rfl⟩ := hmget _ _ hq
              obtain ⟨y, d1, d2⟩ := up _ _ hx
              exact .inr ⟨y, d1, (core_fields d2).2.1 ▸ hk'⟩
  · intro i x k y h hk hy
    rcases old i x h with ⟨q, h1, h2, _, h4⟩ | ⟨rfl, rfl⟩
    · rcases old k y hy with ⟨q', g1, g2, _, g4⟩ | ⟨rfl, _⟩
      · have c1 := core_fields h2
        have c2 := core_fields g2
        have := g.apart i q k q' h1 hk g1
        rwa [c1.2.1, c1.2.2.2.2.2.2.1, c2.2.2.2.2.2.2.1] at this
      · omega
    · rcases old k y hy with ⟨q', g1, g2, _, g4⟩ | ⟨rfl, _⟩
      · have c2 := core_fields g2
        have := apartD_ok before 0 hap k q'.o (g.at_ k q' g1).2
        rw [Nat.zero_add, c2.2.2.2.2.2.2.1] at this
        exact this
      · omega
  · intro i x h
    rcases old i x h with ⟨q, h1, h2, _, h4⟩ | ⟨rfl, rfl⟩
    · rw [htake i (by omega), ← (core_fields h2).2.2.2.2.2.2.2.1, g.tms i q h1, (hc.take i).tm]
    · rw [htake _ (Nat.le_refl _), List.take_of_length_le (by omega), g.tmF, hc.tm]
  · rw [tmR_append, t1]
    funext t
    simp only [tmR, ← hc.tm, ← g.tmF]
  · intro i x d h hd
    rcases old i x h with ⟨q, h1, h2, _, h4⟩ | ⟨rfl, rfl⟩
    · exact g.dst i q d h1 (by rw [(core_fields h2).2.2.2.2.2.2.1]; exact hd)
    · exact t2 d hd
  · intro i x h
    rcases old i x h with ⟨q, h1, h2, _, h4⟩ | ⟨rfl, rfl⟩
    · obtain ⟨a1, a2, a3, a4⟩ := g.nxs i q h1
      have c := core_fields h2
      rw [htake i (by omega), ← c.2.2.2.2.2.2.2.2.2.1, ← c.2.2.2.2.2.2.2.2.2.2]
      exact ⟨a1, a2, a3, (hc.take i).fin _ a4⟩
    · rw [htake _ (Nat.le_refl _), List.take_of_length_le (by omega)]
      exact ⟨g.nxF.1, hfin, hnx, hc.fin _ g.nxF.2⟩
  · refine ⟨by have := g.nxF.1; omega, fun x hx => ?_⟩
    rcases List.mem_append.1 hx with hx | hx
    · have := hc.fin _ g.nxF.2 x hx; omega
    · simp at hx; subst hx; omega
  · intro i x h
    rcases old i x h with ⟨q, h1, h2, _, h4⟩ | ⟨rfl, rfl⟩
    · have c := core_fields h2
      have := g.did i q h1
      rw [htake i (by omega)]
      unfold DidOk at this ⊢
      rw [c.2.1, c.2.2.1, c.2.2.2.1, c.2.2.2.2.1, c.2.2.2.2.2.1, c.2.2.2.2.2.2.1, c.2.2.2.2.2.2.2.1, c.2.2.2.2.2.2.2.2.1, c.2.2.2.2.2.2.2.2.2.1, c.2.2.2.2.2.2.2.2.2.2, (hc.take i).view] at this
      exact this
    · rw [htake _ (Nat.le_refl _), List.take_of_length_le (by omega)]
      unfold DidOk at hdid ⊢
      rw [hc.view] at hdid
      exact hdid
  · intro i x k y h hk hy hbit
    have kold : ∀ (x : Rec), k < before.length → ∃ q', recs[k]? = some q' ∧ core q' = core y ∧ recs1[k]? = some y := fun _ hk => by
      rcases old k y hy with ⟨q', g1, g2, g3, g4⟩ | ⟨rfl, _⟩
      · exact ⟨q', g1, g2, g3⟩
      · omega
    rcases old i x h with ⟨q, h1, h2, _, h4⟩ | ⟨rfl, rfl⟩
    · obtain ⟨q', g1, g2, g3⟩ := kold x (by omega)
      have c1 := core_fields h2
      have c2 := core_fields g2
      obtain ⟨p1, p2⟩ := g.pair i q k q' h1 hk g1 (by rw [c1.2.1]; exact hbit)
      rw [c2.2.2.2.1, c1.2.2.1] at p1
      rw [c1.2.2.2.1, c2.2.2.1] at p2
      refine ⟨p1, p2.imp_right fun ⟨a1, a2⟩ => ?_⟩
      rcases hpair k q' y g1 g3 with ⟨rfl, _⟩ | ⟨_, e, _⟩
      · rw [c1.2.2.2.2.1] at a1 a2; exact ⟨a1, a2⟩
      · rw [e] at a1; cases a1
    · obtain ⟨q', g1, g2, g3⟩ := kold x (by omega)
      have hqi := (g.at_ k q' g1).1
      rcases hpair k q' y g1 g3 with ⟨rfl, h | ⟨h, h'⟩⟩ | ⟨rfl, e, h, h'⟩
      · rw [hqi, hbit] at h; cases h
      · exact ⟨h, .inl h'⟩
      · exact ⟨h, .inr ⟨rfl, h'⟩⟩
end
end Go.Sy
namespace Go.Sy
open Go Go.RowKit Go.Sx

section
variable {E : Env} {P : Program} {call : CallF} {N : Nat} {all : Array Oper} {h0 : FH} {tm0 : TT} {nx0 : Nat}
theorem eff_nx_ge (e : Eff) (nx : Nat) : nx ≤ e.nx nx := by cases e <;> simp [Eff.nx]
theorem draw_good (hN : N < N + 1) (hcall : CallsOk P call) : ∀ (rest : List Oper) (i : Nat) (before : List Oper) (ms : List Nat) (recs : List Rec) (tm : TT) (nx : Nat) (recsF : List Rec) (tmF : TT) (nxF : Nat),
    GoodD E P call N all h0 tm0 nx0 before ms recs tm nx → i = before.length → drawA E P call N all h0 i before ms rest recs tm nx = some (recsF, tmF, nxF) →
    ∃ ms', GoodD E P call N all h0 tm0 nx0 (before ++ rest) ms' recsF tmF nxF := by
  intro rest
  induction rest with
  | nil =>
    intro i before ms recs tm nx recsF tmF nxF g _ h
    simp [drawA] at h
    obtain ⟨rfl, rfl, rfl⟩ := h
    exact ⟨ms, by simpa using g⟩
  | cons o rest ih =>
    intro i before ms recs tm nx recsF tmF nxF g hi h
    subst hi
    simp only [drawA, Option.bind_eq_some_iff] at h
    obtain ⟨mask, hmask, h⟩ := h
    cases hap : (apartD all mask o 0 before && Nat.blt nx (nx + 1)) with
    | false => simp [hap] at h
    | true =>
      simp only [hap, Option.bind_eq_some_iff] at h
      simp only [Bool.and_eq_true] at hap
      obtain ⟨hap, hnxb⟩ := hap
      have hnx := blt_true hnxb
      obtain ⟨b, hb, h⟩ := h
      cases b with
      | false =>
        simp only [Option.bind_eq_some_iff] at h
        obtain ⟨tm1, ht, h⟩ := h
        have g' := g.snoc hN (r := ⟨before.length, mask, some [], [], [], undef, o, tm, .nil, nx, nx, none⟩) hmask hap hnx ht rfl rfl rfl rfl rfl (Nat.le_refl _) (CoreEq.refl recs)
          (.inl ⟨hb, rfl, rfl, rfl, rfl, rfl⟩) (fun k q r' h1 h2 => by
            rw [h1] at h2; cases h2
            refine .inl ⟨rfl, .inr ⟨?_, ?_⟩⟩
            · simp only [meets]; simp
            · cases hq : q.rd with
              | none => simp [meets]
              | some l => simp [meets])
        have := ih _ _ _ _ _ _ _ _ _ g' (by simp) h
        simpa [List.append_assoc] using this
      | true =>
        simp only [Option.bind_eq_some_iff] at h
        obtain ⟨⟨n, e⟩, hop, h⟩ := h
        have basic : ∀ v, (n = .value v ∨ (n = .skip ∧ v = undef)) →
            (match wrOk (viewD h0 mask recs) nx (some (topsAll (looked all o tm) (touches o))) (effWr e) with
              | true => (calmD E P all before.length mask (some (topsAll (looked all o tm) (touches o))) (effWr e) (effD e nx) recs).bind fun recs1 =>
                (tset N tm o.dst v).bind fun tm1 => drawA E P call N all h0 (before.length + 1) (before ++ [o]) (ms ++ [mask]) rest (recs1 ++ [⟨before.length, mask, some (topsAll (looked all o tm) (touches o)), effWr e, effD e nx, v, o, tm, viewD h0 mask recs, nx, e.nx nx, none⟩]) tm1 (e.nx nx + 1)
              | false => none) = some (recsF, tmF, nxF) → ∃ ms', GoodD E P call N all h0 tm0 nx0 (before ++ o :: rest) ms' recsF tmF nxF := by
          intro v hv h
          cases hw : wrOk (viewD h0 mask recs) nx (some (topsAll (looked all o tm) (touches o))) (effWr e) with
          | false => simp [hw] at h
          | true =>
            simp only [hw, Option.bind_eq_some_iff] at h
            obtain ⟨recs1, hc, tm1, ht, h⟩ := h
            obtain ⟨c1, c2⟩ := calmD_ok hc
            have g' := g.snoc hN (r := ⟨before.length, mask, some (topsAll (looked all o tm) (touches o)), effWr e, effD e nx, v, o, tm, viewD h0 mask recs, nx, e.nx nx, none⟩) hmask hap hnx ht rfl rfl rfl rfl rfl (eff_nx_ge e nx) c1
              (.inr ⟨hb, rfl, hw, .inl ⟨_, n, e, rfl, hop, hv, rfl, rfl, rfl⟩⟩) c2
            have := ih _ _ _ _ _ _ _ _ _ g' (by simp) h
            simpa [List.append_assoc] using this
        cases n with
        | value v => exact basic v (.inl rfl) h
        | skip => exact basic undef (.inr ⟨rfl, rfl⟩) h
        | panic v => cases h
        | enter f args =>
          cases e with
          | none =>
            simp only [Option.bind_eq_some_iff] at h
            obtain ⟨⟨en, S'⟩, hcl, h⟩ := h
            cases en with
            | panic v => cases h
            | ret v =>
              simp only at h
              cases hw : (wrOk (viewD h0 mask recs) nx none S'.wr && Nat.blt S'.next (S'.next + 1)) with
              | false => simp [hw] at h
              | true =>
                simp only [hw, Option.bind_eq_some_iff] at h
                simp only [Bool.and_eq_true] at hw
                obtain ⟨recs1, hc, tm1, ht, h⟩ := h
                obtain ⟨c1, c2⟩ := calmD_ok hc
                have hle := (hcall f args _ _ _ hcl).1.next
                have g' := g.snoc hN (r := ⟨before.length, mask, none, S'.wr, (S'.wr.map fun k => (k, S'.heap.get k)) ++ newsD S'.heap nx (S'.next - nx), v, o, tm, viewD h0 mask recs, nx, S'.next, none⟩) hmask hap hnx ht rfl rfl rfl rfl rfl hle c1
                  (.inr ⟨hb, rfl, hw.1, .inr ⟨_, f, args, S', rfl, hop, hcl, rfl, rfl, rfl, blt_true hw.2⟩⟩) c2
                have := ih _ _ _ _ _ _ _ _ _ g' (by simp) h
                simpa [List.append_assoc] using this
          | _ => cases h
theorem GoodD.start : GoodD E P call N all h0 tm0 nx0 [] [] [] tm0 nx0 :=
  ⟨rfl, rfl, fun i r h => by simp at h, fun i r h => by simp at h, fun i r k rk h => by simp at h, fun i r h => by simp at h, rfl, fun i r d h => by simp at h, fun i r h => by simp at h,
    ⟨Nat.le_refl _, fun r h => by cases h⟩, fun i r h => by simp at h, fun i r k rk h => by simp at h⟩

/-! ### the numbers that an operation changes -/
theorem newsD_ids (h : FH) : ∀ (n lo k : Nat), idsOf (newsD h lo n) k ↔ lo ≤ k ∧ k < lo + n
  | 0, lo, k => by simp [newsD, idsOf]
  | n + 1, lo, k => by
    have := newsD_ids h n (lo + 1) k
    simp only [newsD, idsOf, List.map_cons, List.mem_cons] at this ⊢
    rw [this]; omega
theorem newsD_val (h : FH) (f : Hp) : ∀ (n lo k : Nat), lo ≤ k → k < lo + n → layF f (newsD h lo n) k = h.get k
  | 0, lo, k, h1, h2 => by omega
  | n + 1, lo, k, h1, h2 => by
    simp only [newsD, layF]
    by_cases e : k = lo
    · subst e
      rw [layF_other _ _ _ (by rw [newsD_ids]; omega), over_same]
    · have := newsD_val h (over f lo (h.get lo)) n (lo + 1) k (by omega) (by omega)
      exact this
theorem mapD_val (h : FH) : ∀ (l : List Nat) (f : Hp) (k : Nat), k ∈ l → layF f (l.map fun k => (k, h.get k)) k = h.get k
  | [], f, k, hk => by cases hk
  | j :: l, f, k, hk => by
    simp only [List.map_cons, layF]
    by_cases e : k ∈ l
    · exact mapD_val h l _ k e
    · have : k = j := by cases hk with | head => rfl | tail _ h => exact absurd h e
      subst this
      rw [layF_other _ _ _ (by simpa [idsOf] using e), over_same]
theorem mapD_ids (h : FH) (l : List Nat) (k : Nat) : idsOf (l.map fun k => (k, h.get k)) k ↔ k ∈ l := by simp [idsOf]
theorem ids_append (l m : List (Nat × Option AObj)) (k : Nat) : idsOf (l ++ m) k ↔ idsOf l k ∨ idsOf m k := by simp [idsOf]
theorem layF_append : ∀ (l m : List (Nat × Option AObj)) (f : Hp), layF f (l ++ m) = layF (layF f l) m
  | [], m, f => rfl
  | (k, o) :: l, m, f => by simp only [List.cons_append, layF]; exact layF_append l m _
theorem effD_ids (e : Eff) (nx k : Nat) : idsOf (effD e nx) k ↔ k ∈ effWr e ∨ (nx ≤ k ∧ k < e.nx nx) := by
  cases e <;> simp [effD, effWr, idsOf, Eff.nx] <;> omega
theorem effD_lay (e : Eff) (nx : Nat) (f : Hp) : layF f (effD e nx) = e.hp f nx := by cases e <;> rfl
theorem wrOk_mem {view : FH} {nx : Nat} {foot : Option (List Nat)} {wr : List Nat} (h : wrOk view nx foot wr = true) {k : Nat} (hk : k ∈ wr) : k < nx ∧ (view.get k).isSome = true ∧ ∀ l, foot = some l → l.contains k = true := by
  unfold wrOk at h
  rw [List.all_eq_true] at h
  have := h k hk
  simp only [Bool.and_eq_true] at this
  refine ⟨blt_true this.1.1, this.1.2, fun l e => ?_⟩
  subst e
  exact this.2
theorem meets_false {wr : List Nat} {rd : Option (List Nat)} (h : meets wr rd = false) {k : Nat} (hk : k ∈ wr) : ∃ l, rd = some l ∧ l.contains k = false := by
  cases rd with
  | none => simp [meets] at h; rw [h] at hk; cases hk
  | some l =>
    refine ⟨l, rfl, ?_⟩
    simp only [meets, List.any_eq_false] at h
    simpa using h k hk
/-- what a record changes: what it wrote, and its own new numbers -/
theorem did_ids {r : Rec} {pre : List Rec} (hd : DidOk E P call all h0 r pre) (hcall : CallsOk P call) {k : Nat} : idsOf r.delta k ↔ k ∈ r.wr ∨ (r.nx ≤ k ∧ k < r.fin) := by
  rcases hd with ⟨_, _, _, h4, h5, h6⟩ | ⟨_, _, _, ⟨foot, n, e, _, _, _, h4, h5, h6⟩ | ⟨foot, f, args, S', _, _, hc, h4, h5, h6, _⟩⟩
  · rw [h4, h5, h6]; simp [idsOf]
  · rw [h4, h5, h6]; exact effD_ids e r.nx k
  · have hle := (hcall f args _ _ _ hc).1.next
    have hle : r.nx ≤ S'.next := hle
    rw [h4, h5, h6, ids_append, mapD_ids, newsD_ids]
    have : r.nx + (S'.next - r.nx) = S'.next := by omega
    rw [this]
theorem did_wr {r : Rec} {pre : List Rec} (hd : DidOk E P call all h0 r pre) {k : Nat} (hk : k ∈ r.wr) : r.view = viewD h0 r.mask pre ∧ k < r.nx ∧ (r.view.get k).isSome = true ∧ ∀ l, r.rd = some l → l.contains k = true := by
  rcases hd with ⟨_, _, _, h4, _⟩ | ⟨_, h2, h3, _⟩
  · rw [h4] at hk; cases hk
  · exact ⟨h2, wrOk_mem h3 hk⟩
end
end Go.Sy
namespace Go.Sy
open Go Go.RowKit Go.Sx

theorem Step.within {h0 h1 h2 : Hp} {n0 n1 m1 m2 : Nat} {r0 r1 r2 : Ren} {w0 w1 w2 : World} (a : Step h0 h1 n0 n1 r0 r1 w0 w1) (b : Step h1 h2 m1 m2 r1 r2 w1 w2) (hl : n0 ≤ m1) (hu : m2 ≤ n1) : Step h0 h2 n0 n1 r0 r2 w0 w2 where
  next := a.next
  ext k := by
    rcases a.ext k with h | ⟨h1, h2, h3⟩ <;> rcases b.ext k with g | ⟨g1, g2, g3⟩
    · exact .inl (g.trans h)
    · exact .inr ⟨Nat.le_trans hl g1, Nat.lt_of_lt_of_le g2 hu, h ▸ g3⟩
    · exact .inr ⟨h1, h2, h3⟩
    · exact .inr ⟨h1, h2, h3⟩
  os := b.os.trans a.os
  tape := b.tape.trans a.tape
  output := b.output.trans a.output
  size := Nat.le_trans a.size b.size
  keep k hk hn := by
    rw [b.keep k (Nat.lt_of_lt_of_le hk a.size) fun ho => (a.own k ho).elim (fun h => by omega) hn]
    exact a.keep k hk hn
  own k hk := (b.own k hk).elim (fun h => .inl (Nat.le_trans a.size h)) fun h => a.own k h
theorem trel_put_fn {N : Nat} {ρ : Ren} {f : T} {a : Act} {dst : Option Tmp} {v v' : Value} (ht : TRel N ρ f a.tmps) (hd : ∀ d, dst = some d → Nat.blt d N = true) (hv : VR ρ v v') :
    TRel N ρ (fun t => if dst = some t then some v else f t) (a.put dst v').tmps := by
  cases dst with
  | none => exact ⟨ht.1, fun t u hu => by simp at hu; exact ht.2 t u hu⟩
  | some d =>
    have hlt := blt_true (hd d rfl)
    have hsz := ht.1
    refine ⟨by simp only [Act.put, Array.size_setIfInBounds]; exact hsz, fun t u hu => ?_⟩
    by_cases e : t = d
    · subst e
      simp only [if_true, Option.some.injEq] at hu
      subst hu
      refine ⟨v', ?_, hv⟩
      have hlt' : t < a.tmps.size := Nat.lt_of_lt_of_le hlt hsz
      simp [Act.put, hlt']
    · have e' : ¬ (some d = some t) := fun h => e (by cases h; rfl)
      dsimp only at hu
      rw [if_neg e'] at hu
      obtain ⟨x, e1, e2⟩ := ht.2 t u hu
      refine ⟨x, ?_, e2⟩
      rw [← e1]
      simp only [Act.put, Array.getD_eq_getD_getElem?, Array.getElem?_setIfInBounds_ne (Ne.symm e)]
theorem filter_lt {α : Type} {p q : α → Bool} : ∀ (l : List α), (∀ x ∈ l, q x = true → p x = true) → (∃ x ∈ l, p x = true ∧ q x = false) → (l.filter q).length < (l.filter p).length
  | [], _, h => by obtain ⟨x, h, _⟩ := h; cases h
  | y :: l, h, ⟨x, hx, h1, h2⟩ => by
    have le : ∀ (l : List α), (∀ x ∈ l, q x = true → p x = true) → (l.filter q).length ≤ (l.filter p).length := by
      intro l
      induction l with
      | nil => intro _; exact Nat.le_refl _
      | cons z l ih =>
        intro h
        have := ih fun x hx => h x (List.mem_cons_of_mem _ hx)
        cases hq : q z with
        | true => rw [List.filter_cons_of_pos hq, List.filter_cons_of_pos (h z List.mem_cons_self hq)]; simp; exact this
        | false =>
          rw [List.filter_cons_of_neg (by simp [hq])]
          cases hp : p z with
          | true => rw [List.filter_cons_of_pos hp]; simp; omega
          | false => rw [List.filter_cons_of_neg (by simp [hp])]; exact this
    have hr := fun x hx => h x (List.mem_cons_of_mem _ hx)
    cases hx with
    | head =>
      rw [List.filter_cons_of_pos h1, List.filter_cons_of_neg (by simp [h2])]
      have := le l hr
      simp; omega
    | tail _ hx =>
      have ih := filter_lt l hr ⟨x, hx, h1, h2⟩
      cases hq : q y with
      | true => rw [List.filter_cons_of_pos hq, List.filter_cons_of_pos (h y List.mem_cons_self hq)]; simp; exact ih
      | false =>
        rw [List.filter_cons_of_neg (by simp [hq])]
        cases hp : p y with
        | true => rw [List.filter_cons_of_pos hp]; simp; omega
        | false => rw [List.filter_cons_of_neg (by simp [hp])]; exact ih

section
variable {E : Env} {P : Program} {call : CallF} {N : Nat} {all : Array Oper} {h0 : FH} {tm0 : TT} {nx0 : Nat} {ms : List Nat} {recs : List Rec} {tmF : TT} {nxF : Nat} {before : List Oper}

theorem GoodD.of_mem (g : GoodD E P call N all h0 tm0 nx0 before ms recs tmF nxF) {r : Rec} (h : r ∈ recs) : ∃ i : Nat, recs[i]? = some r ∧ r.i = i := by
  obtain ⟨i, hi⟩ := List.getElem?_of_mem h
  exact ⟨i, hi, (g.at_ i r hi).1⟩
theorem GoodD.apartNx (g : GoodD E P call N all h0 tm0 nx0 before ms recs tmF nxF) {i k : Nat} {r q : Rec} (h : recs[i]? = some r) (hk : recs[k]? = some q) (hlt : k < i) : q.fin < r.nx :=
  (g.nxs i r h).2.2.2 q (List.mem_of_getElem? (i := k) (by rw [List.getElem?_take, if_pos hlt]; exact hk))
theorem GoodD.trans (g : GoodD E P call N all h0 tm0 nx0 before ms recs tmF nxF) {i j k : Nat} {r q : Rec} (h : recs[i]? = some r) (hj : r.mask.testBit j = true) (hq : recs[j]? = some q) (hk : q.mask.testBit k = true) : r.mask.testBit k = true := by
  induction i using Nat.strongRecOn generalizing r j q with
  | _ i ih =>
    obtain ⟨m1, m2⟩ := g.mask i r h
    obtain ⟨_, e, he, hb, h3⟩ := m2 j hj
    obtain ⟨b1, b2, b3⟩ := m1 e he hb
    rcases h3 with rfl | ⟨x, hx, hxj⟩
    · exact b3 q hq k hk
    · exact b3 x hx k (ih e.on b1 hx hxj hq hk)
theorem GoodD.maskPre (g : GoodD E P call N all h0 tm0 nx0 before ms recs tmF nxF) {i : Nat} {r : Rec} (h : recs[i]? = some r) : (recs.take i).filter (fun q => r.mask.testBit q.i) = recs.filter fun q => r.mask.testBit q.i := by
  conv => rhs; rw [← List.take_append_drop i recs, List.filter_append]
  have : (recs.drop i).filter (fun q => r.mask.testBit q.i) = [] := by
    rw [List.filter_eq_nil_iff]
    intro q hq hb
    obtain ⟨j, hj⟩ := List.getElem?_of_mem hq
    rw [List.getElem?_drop] at hj
    have := ((g.mask i r h).2 q.i hb).1
    rw [(g.at_ _ q hj).1] at this
    omega
  rw [this, List.append_nil]
theorem GoodD.idsBig (g : GoodD E P call N all h0 tm0 nx0 before ms recs tmF nxF) (hcall : CallsOk P call) {r : Rec} (h : r ∈ recs) {k : Nat} (hk : idsOf r.delta k) : k < k + 1 := by
  obtain ⟨i, hi, _⟩ := g.of_mem h
  have hd := g.did i r hi
  have hx := g.nxs i r hi
  rcases (did_ids hd hcall).1 hk with h | ⟨h1, h2⟩
  · have := (did_wr hd h).2.1; omega
  · rcases hd with ⟨_, _, _, _, _, h6⟩ | ⟨_, _, _, ⟨foot, n, e, _, _, _, _, _, h6⟩ | ⟨foot, f, args, S', _, _, hc, _, _, h6, h7⟩⟩
    · omega
    · have : r.fin ≤ r.nx + 1 := by rw [h6]; cases e <;> simp [Eff.nx]
      omega
    · omega
theorem GoodD.viewGet (g : GoodD E P call N all h0 tm0 nx0 before ms recs tmF nxF) (hcall : CallsOk P call) {i : Nat} {r : Rec} (_h : recs[i]? = some r) (mask : Nat) : (viewD h0 mask (recs.take i)).get = layR h0.get ((recs.take i).filter fun q => mask.testBit q.i) :=
  viewD_get mask _ h0 fun _ hq _ hk => g.idsBig hcall (List.mem_of_mem_take hq) hk
/-- the new numbers of one that is not waited for are not seen -/
theorem GoodD.unseen (g : GoodD E P call N all h0 tm0 nx0 before ms recs tmF nxF) (hcall : CallsOk P call) (hlt : ∀ k o, h0.get k = some o → k < nx0) {k : Nat} {x : Rec} (hx : recs[k]? = some x) : ∀ (i : Nat) (r : Rec), recs[i]? = some r → r.mask.testBit k = false → ∀ id, x.nx ≤ id → id ≤ x.fin → layR h0.get (recs.filter fun q => r.mask.testBit q.i) id = none := by
  intro i
  induction i using Nat.strongRecOn with
  | _ i ih =>
    intro r hr hbit id h1 h2
    rw [layR_other]
    · cases hh : h0.get id with
      | none => rfl
      | some o => have := hlt id o hh; have := (g.nxs k x hx).1; omega
    · intro y hy hid
      simp only [List.mem_filter] at hy
      obtain ⟨hy, hyb⟩ := hy
      obtain ⟨j, hj, rfl⟩ := g.of_mem hy
      have hji := ((g.mask i r hr).2 y.i hyb).1
      have hjk : y.i ≠ k := fun e => by rw [e] at hyb; rw [hyb] at hbit; cases hbit
      rcases (did_ids (g.did _ y hj) hcall).1 hid with hw | ⟨w1, w2⟩
      · obtain ⟨v1, v2, v3, _⟩ := did_wr (g.did _ y hj) hw
        have hyk : y.mask.testBit k = false := by
          cases hc : y.mask.testBit k with
          | false => rfl
          | true => have := g.trans hr hyb hj hc; rw [this] at hbit; cases hbit
        rw [v1, g.viewGet hcall hj, g.maskPre hj, ih y.i hji y hj hyk id h1 h2] at v3
        cases v3
      · rcases Nat.lt_or_gt_of_ne hjk with hlt' | hgt
        · have := g.apartNx hx hj hlt'; omega
        · have := g.apartNx hj hx hgt; omega
theorem GoodD.disj (g : GoodD E P call N all h0 tm0 nx0 before ms recs tmF nxF) (hcall : CallsOk P call) (hlt : ∀ k o, h0.get k = some o → k < nx0) {i b : Nat} {r q : Rec} (hr : recs[i]? = some r) (hq : recs[b]? = some q) (hib : i < b) (hbit : q.mask.testBit i = false) : ∀ k, idsOf r.delta k → ¬ idsOf q.delta k := by
  intro k h1 h2
  have hap := g.apartNx hq hr hib
  have hrn := (g.nxs i r hr).2.1
  rcases (did_ids (g.did i r hr) hcall).1 h1 with hw | ⟨w1, w2⟩
  · have hk := (did_wr (g.did i r hr) hw).2.1
    rcases (did_ids (g.did b q hq) hcall).1 h2 with hv | ⟨v1, v2⟩
    · obtain ⟨l, e1, e2⟩ := meets_false (g.pair b q i r hq hib hr hbit).1 hw
      have := (did_wr (g.did b q hq) hv).2.2.2 l e1
      rw [e2] at this; cases this
    · omega
  · rcases (did_ids (g.did b q hq) hcall).1 h2 with hv | ⟨v1, v2⟩
    · obtain ⟨v1, _, v3, _⟩ := did_wr (g.did b q hq) hv
      rw [v1, g.viewGet hcall hq, g.maskPre hq, g.unseen hcall hlt hr b q hq hbit k (by omega) (by omega)] at v3
      cases v3
    · omega

def DR (listed : Array Bool) (r : Rec) : Bool := listed.getD r.i false
/-- what stands while a drawn region is under way -/
structure Inv (P : Program) (N B : Nat) (h0 : FH) (tm0 : TT) (nx0 nxF : Nat) (recs : List Rec) (ρ0 : Ren) (w0 : World) (d0 : List Deferred) (listed : Array Bool) (a : Act) (w : World) : Prop where
  size : listed.size = recs.length
  closed : ∀ (i : Nat) (r : Rec), recs[i]? = some r → listed.getD i false = true → ∀ k, r.mask.testBit k = true → listed.getD k false = true
  defers : a.defers = d0
  rel : ∃ ρ, ORel P B (layR h0.get (recs.filter (DR listed))) ρ w ∧ Step h0.get (layR h0.get (recs.filter (DR listed))) nx0 nxF ρ0 ρ w0 w ∧
    (∀ (i : Nat) (r : Rec), recs[i]? = some r → listed.getD i false = false → ∀ k, r.nx ≤ k → k ≤ r.fin → ρ k = none) ∧ TRel N ρ (tmR tm0.get (recs.filter (DR listed))) a.tmps

variable {B : Nat} {ρ0 : Ren} {w0 : World} {d0 : List Deferred} {listed : Array Bool} {a : Act} {w : World}
theorem getD_split {i : Nat} (h : listed.getD i true = false) : i < listed.size ∧ listed.getD i false = false := by
  rw [Array.getD_eq_getD_getElem?] at h ⊢
  cases hx : listed[i]? with
  | none => simp [hx] at h
  | some b => simp [hx] at h ⊢; exact ⟨(Array.getElem?_eq_some_iff.1 hx).1, h⟩
theorem getD_set {i k : Nat} (hi : i < listed.size) : (listed.setIfInBounds i true).getD k false = (if k = i then true else listed.getD k false) := by
  rw [Array.getD_eq_getD_getElem?, Array.getD_eq_getD_getElem?]
  by_cases e : k = i
  · subst e; simp [hi]
  · rw [Array.getElem?_setIfInBounds_ne (Ne.symm e), if_neg e]
/-- those that are done, one more among them -/
theorem GoodD.filter_set (g : GoodD E P call N all h0 tm0 nx0 before ms recs tmF nxF) {i : Nat} {r : Rec} (hr : recs[i]? = some r) (hi : i < listed.size) (hn : listed.getD i false = false) :
    recs.filter (DR listed) = (recs.take i).filter (DR listed) ++ (recs.drop (i + 1)).filter (DR listed) ∧
    recs.filter (DR (listed.setIfInBounds i true)) = (recs.take i).filter (DR listed) ++ r :: (recs.drop (i + 1)).filter (DR listed) := by
  have hsp : recs = recs.take i ++ r :: recs.drop (i + 1) := by
    obtain ⟨hlt, he⟩ := List.getElem?_eq_some_iff.1 hr
    rw [← he, List.getElem_cons_drop, List.take_append_drop]
  have hri := (g.at_ i r hr).1
  have c1 : (recs.take i).filter (DR (listed.setIfInBounds i true)) = (recs.take i).filter (DR listed) := by
    refine List.filter_congr fun q hq => ?_
    obtain ⟨j, hj⟩ := List.getElem?_of_mem hq
    rw [List.getElem?_take] at hj
    split at hj
    · have := (g.at_ j q hj).1
      unfold DR
      rw [getD_set hi, if_neg (by omega)]
    · cases hj
  have c2 : (recs.drop (i + 1)).filter (DR (listed.setIfInBounds i true)) = (recs.drop (i + 1)).filter (DR listed) := by
    refine List.filter_congr fun q hq => ?_
    obtain ⟨j, hj⟩ := List.getElem?_of_mem hq
    rw [List.getElem?_drop] at hj
    have := (g.at_ _ q hj).1
    unfold DR
    rw [getD_set hi, if_neg (by omega)]
  constructor
  · conv => lhs; rw [hsp, List.filter_append]
    rw [List.filter_cons_of_neg (by unfold DR; rw [hri, hn]; simp)]
  · conv => lhs; rw [hsp, List.filter_append]
    rw [List.filter_cons_of_pos (by unfold DR; rw [hri, getD_set hi, if_pos rfl]), c1, c2]
end
end Go.Sy
namespace Go.Sy
open Go Go.RowKit Go.Sx

section
variable {E : Env} {P : Program} {call : CallF} {N : Nat} {all : Array Oper} {h0 : FH} {tm0 : TT} {nx0 : Nat} {ms : List Nat} {recs : List Rec} {tmF : TT} {nxF : Nat}
variable {B : Nat} {ρ0 : Ren} {w0 : World} {d0 : List Deferred} {listed : Array Bool} {a : Act} {w : World}

/-- behind an operation's own step, everything stands again -/
theorem inv_next (g : GoodD E P call N all h0 tm0 nx0 all.toList ms recs tmF nxF) (hcall : CallsOk P call) (hlt : ∀ k o, h0.get k = some o → k < nx0) {i : Nat} {r : Rec} (hr : recs[i]? = some r) (hi : i < listed.size) (hn : listed.getD i false = false)
    (hinv : Inv P N B h0 tm0 nx0 nxF recs ρ0 w0 d0 listed a w) (hmask : ∀ k, r.mask.testBit k = true → listed.getD k false = true)
    {ρ ρ' : Ren} {w' : World} {v' : Value} (hT : TRel N ρ (tmR tm0.get (recs.filter (DR listed))) a.tmps) (hS : Step h0.get (layR h0.get (recs.filter (DR listed))) nx0 nxF ρ0 ρ w0 w)
    (hF : ∀ (i : Nat) (r : Rec), recs[i]? = some r → listed.getD i false = false → ∀ k, r.nx ≤ k → k ≤ r.fin → ρ k = none)
    (hv : VR ρ' r.v v') (hO : ORel P B (layF (layR h0.get (recs.filter (DR listed))) r.delta) ρ' w')
    (hS' : Step (layR h0.get (recs.filter (DR listed))) (layF (layR h0.get (recs.filter (DR listed))) r.delta) r.nx r.fin ρ ρ' w w') :
    Inv P N B h0 tm0 nx0 nxF recs ρ0 w0 d0 (listed.setIfInBounds i true) (a.put r.o.dst v') w' := by
  obtain ⟨f1, f2⟩ := g.filter_set hr hi hn
  have later : ∀ q ∈ (recs.drop (i + 1)).filter (DR listed), ∃ j : Nat, recs[j]? = some q ∧ i < j ∧ q.mask.testBit i = false := by
    intro q hq
    simp only [List.mem_filter] at hq
    obtain ⟨hq, hD⟩ := hq
    obtain ⟨j, hj⟩ := List.getElem?_of_mem hq
    rw [List.getElem?_drop] at hj
    refine ⟨i + 1 + j, hj, by omega, ?_⟩
    have hqi := (g.at_ _ q hj).1
    unfold DR at hD
    rw [hqi] at hD
    cases hc : q.mask.testBit i with
    | false => rfl
    | true => have := hinv.closed _ q hj hD i hc; rw [hn] at this; cases this
  have hlay : layR h0.get (recs.filter (DR (listed.setIfInBounds i true))) = layF (layR h0.get (recs.filter (DR listed))) r.delta := by
    rw [f1, f2, layR_append, layR_append]
    simp only [layR]
    refine layR_past _ _ _ fun q hq k hk => ?_
    obtain ⟨j, hj, hij, hb⟩ := later q hq
    exact g.disj hcall hlt hr hj hij hb k hk
  have htm : tmR tm0.get (recs.filter (DR (listed.setIfInBounds i true))) = fun t => if r.o.dst = some t then some r.v else tmR tm0.get (recs.filter (DR listed)) t := by
    rw [f1, f2, tmR_append, tmR_append]
    simp only [tmR]
    funext t
    by_cases e : r.o.dst = some t
    · rw [if_pos e]
      rw [tmR_other _ _ t]
      · rw [if_pos e]
      · intro q hq hd
        obtain ⟨j, hj, hij, hb⟩ := later q hq
        rcases g.apart j q i r hj hij hr with h | h
        · rw [h] at hb; cases hb
        · exact (Oper.apart_spec h).2.1 t e hd
    · rw [if_neg e]
      exact tmR_congr _ _ _ t (if_neg e)
  have hnx := g.nxs i r hr
  have hfinF : r.fin ≤ nxF := by have := g.nxF.2 r (List.mem_of_getElem? hr); omega
  refine ⟨by rw [Array.size_setIfInBounds]; exact hinv.size, fun j q hj hD k hk => ?_, ?_, ρ', ?_, ?_, ?_, ?_⟩
  · rw [getD_set hi] at hD ⊢
    split
    · rfl
    · by_cases e : j = i
      · subst e; rw [hr] at hj; cases hj; exact hmask k hk
      · rw [if_neg e] at hD; exact hinv.closed j q hj hD k hk
  · rw [← hinv.defers]; cases r.o.dst <;> rfl
  · rw [hlay]; exact hO
  · rw [hlay]; exact hS.within hS' hnx.1 hfinF
  · intro j q hj hD k h1 h2
    rw [getD_set hi] at hD
    split at hD
    · cases hD
    · rename_i e
      have hk := hF j q hj hD k h1 h2
      rcases hS'.ext k with h | ⟨b1, b2, _⟩
      · rw [h]; exact hk
      · exfalso
        rcases Nat.lt_or_gt_of_ne e with hlt' | hgt
        · have := g.apartNx hr hj hlt'; omega
        · have := g.apartNx hj hr hgt; omega
  · rw [htm]
    exact trel_put_fn (hT.mono hS'.le) (fun d hd => g.dst i r d hr hd) hv

/-- what an operation looks at is what it saw when it was evaluated -/
theorem looked_rel (g : GoodD E P call N all h0 tm0 nx0 all.toList ms recs tmF nxF) {i : Nat} {r : Rec} (hr : recs[i]? = some r) (hi : i < listed.size) (hn : listed.getD i false = false) (hclosed : ∀ (i : Nat) (r : Rec), recs[i]? = some r → listed.getD i false = true → ∀ k, r.mask.testBit k = true → listed.getD k false = true)
    (hmask : ∀ k, r.mask.testBit k = true → listed.getD k false = true) {ρ : Ren} (hT : TRel N ρ (tmR tm0.get (recs.filter (DR listed))) a.tmps) : TRel N ρ (looked all r.o r.tm) a.tmps := by
  obtain ⟨f1, f2⟩ := g.filter_set hr hi hn
  refine ⟨hT.1, fun t v hv => hT.2 t v ?_⟩
  unfold looked at hv
  cases hc : (r.o.looksAt all).contains t with
  | false => rw [hc] at hv; cases hv
  | true =>
    rw [hc] at hv
    dsimp only at hv
    have hmem : t ∈ r.o.looksAt all := by simpa using hc
    rw [g.tms i r hr] at hv
    rw [f1, tmR_append, tmR_other, ← tmR_filter]
    · exact hv
    · intro q hq hD hd
      obtain ⟨k, hk⟩ := List.getElem?_of_mem hq
      rw [List.getElem?_take] at hk
      split at hk
      · rename_i hki
        have hqi := (g.at_ k q hk).1
        unfold DR at hD
        rw [hqi] at hD
        rcases g.apart i r k q hr hki hk with h | h
        · have := hmask k h; rw [hD] at this; cases this
        · exact (Oper.apart_spec h).1 t hd hmem
      · cases hk
    · intro q hq hd
      simp only [List.mem_filter] at hq
      obtain ⟨hq, hD⟩ := hq
      obtain ⟨j, hj⟩ := List.getElem?_of_mem hq
      rw [List.getElem?_drop] at hj
      have hqi := (g.at_ _ q hj).1
      unfold DR at hD
      rw [hqi] at hD
      rcases g.apart _ q i r hj (by omega) hr with h | h
      · have := hclosed _ q hj hD i h; rw [hn] at this; cases this
      · exact (Oper.apart_spec h).2.2 t hd hmem

/-- what was seen of a number is what stands there, where nobody else writes it -/
theorem seen_is (g : GoodD E P call N all h0 tm0 nx0 all.toList ms recs tmF nxF) (hcall : CallsOk P call) (hlt : ∀ k o, h0.get k = some o → k < nx0) {i : Nat} {r : Rec} (hr : recs[i]? = some r) (hn : listed.getD i false = false)
    (hclosed : ∀ (i : Nat) (r : Rec), recs[i]? = some r → listed.getD i false = true → ∀ k, r.mask.testBit k = true → listed.getD k false = true)
    (hmask : ∀ k, r.mask.testBit k = true → listed.getD k false = true) (hview : r.view = viewD h0 r.mask (recs.take i)) {id : Nat} {o : AObj}
    (hv : r.view.get id = some o) (hread : ∀ l, r.rd = some l → l.contains id = true) :
    (∀ (b : Nat) (q : Rec), recs[b]? = some q → i < b → listed.getD b false = true → q.mask.testBit i = false → meets q.wr r.rd = false) → layR h0.get (recs.filter (DR listed)) id = some o := by
  intro hcalm
  have hv' : layR h0.get (recs.filter fun q => r.mask.testBit q.i) id = some o := by
    rw [← g.maskPre hr, ← g.viewGet hcall hr, ← hview]; exact hv
  have hsub : recs.filter (fun q => r.mask.testBit q.i) = (recs.filter (DR listed)).filter fun q => r.mask.testBit q.i := by
    rw [List.filter_filter]
    refine List.filter_congr fun q hq => ?_
    cases hb : r.mask.testBit q.i with
    | false => simp
    | true => have := hmask _ hb; unfold DR; rw [this]; rfl
  rw [hsub] at hv'
  rw [layR_filter (fun q => r.mask.testBit q.i), hv']
  intro q hq hb hid
  simp only [List.mem_filter] at hq
  obtain ⟨hq, hD⟩ := hq
  obtain ⟨k, hk, hki⟩ := g.of_mem hq
  unfold DR at hD
  rw [hki] at hD hb
  rcases (did_ids (g.did k q hk) hcall).1 hid with hw | ⟨w1, w2⟩
  · rcases Nat.lt_trichotomy k i with h | h | h
    · obtain ⟨l, e1, e2⟩ := meets_false (g.pair i r k q hr h hk hb).1 hw
      rw [hread l e1] at e2; cases e2
    · rw [h] at hD; rw [hn] at hD; cases hD
    · have hqi : q.mask.testBit i = false := by
        cases hc : q.mask.testBit i with
        | false => rfl
        | true => have := hclosed k q hk hD i hc; rw [hn] at this; cases this
      obtain ⟨l, e1, e2⟩ := meets_false (hcalm k q hk h hD hqi) hw
      rw [hread l e1] at e2; cases e2
  · rcases Nat.lt_trichotomy k i with h | h | h
    · have := g.unseen hcall hlt hk i r hr hb id w1 (by omega)
      rw [hsub, hv'] at this; cases this
    · rw [h] at hD; rw [hn] at hD; cases hD
    · -- a later one's new number is past all that was seen
      have hqi : q.mask.testBit i = false := by
        cases hc : q.mask.testBit i with
        | false => rfl
        | true => have := hclosed k q hk hD i hc; rw [hn] at this; cases this
      have hq' := g.apartNx hk hr h
      have : layR h0.get ((recs.filter (DR listed)).filter fun q => r.mask.testBit q.i) id = none := by
        rw [layR_other]
        · cases hh : h0.get id with
          | none => rfl
          | some o' => have := hlt id o' hh; have := (g.nxs i r hr).1; have := (g.nxs i r hr).2.1; omega
        · intro y hy hyid
          simp only [List.mem_filter] at hy
          obtain ⟨⟨hy, _⟩, hyb⟩ := hy
          obtain ⟨j, hj, rfl⟩ := g.of_mem hy
          have hji := ((g.mask i r hr).2 y.i hyb).1
          have hyf := g.apartNx hr hj hji
          have hrn := (g.nxs i r hr).2.1
          have hyn := (g.nxs _ y hj).2.1
          rcases (did_ids (g.did _ y hj) hcall).1 hyid with hw | ⟨_, _⟩
          · have := (did_wr (g.did _ y hj) hw).2.1; omega
          · omega
      rw [hv'] at this; cases this
end
end Go.Sy
namespace Go.Sy
open Go Go.RowKit Go.Sx

theorem Step.wide {hp hp' : Hp} {n0 n m m0 : Nat} {ρ ρ' : Ren} {w w' : World} (h : Step hp hp' n m ρ ρ' w w') (h1 : n0 ≤ n) (h2 : m ≤ m0) : Step hp hp' n0 m0 ρ ρ' w w' :=
  ⟨by have := h.next; omega, fun k => (h.ext k).imp_right fun ⟨a, b, c⟩ => ⟨by omega, by omega, c⟩, h.os, h.tape, h.output, h.size, h.keep, h.own⟩

section
variable {E : Env} {P : Program} {call : CallF} {N : Nat} {all : Array Oper} {h0 : FH} {tm0 : TT} {nx0 : Nat} {ms : List Nat} {recs : List Rec} {tmF : TT} {nxF : Nat}
variable {B : Nat} {ρ0 : Ren} {w0 : World} {d0 : List Deferred} {listed : Array Bool} {a : Act} {w : World}

/-- what was seen, with the other's writing laid over, is what stands there behind it -/
theorem seen_alt (g : GoodD E P call N all h0 tm0 nx0 all.toList ms recs tmF nxF) (hcall : CallsOk P call) (hlt : ∀ k o, h0.get k = some o → k < nx0) {i : Nat} {r : Rec} (hr : recs[i]? = some r) (hn : listed.getD i false = false)
    (hclosed : ∀ (i : Nat) (r : Rec), recs[i]? = some r → listed.getD i false = true → ∀ k, r.mask.testBit k = true → listed.getD k false = true)
    (hmask : ∀ k, r.mask.testBit k = true → listed.getD k false = true) (hview : r.view = viewD h0 r.mask (recs.take i)) {b0 : Nat} {q0 : Rec} (hb0 : recs[b0]? = some q0) (hib : i < b0) (hD0 : listed.getD b0 false = true) {id : Nat} {o : AObj}
    (hv : layF r.view.get q0.delta id = some o) (hsome : (r.view.get id).isSome = true) (hread : ∀ l, r.rd = some l → l.contains id = true)
    (hcalm : ∀ (b : Nat) (q : Rec), recs[b]? = some q → i < b → b ≠ b0 → listed.getD b false = true → q.mask.testBit i = false → meets q.wr r.rd = false) : layR h0.get (recs.filter (DR listed)) id = some o := by
  have hv' : layR h0.get ((recs.filter fun q => r.mask.testBit q.i) ++ [q0]) id = some o := by
    rw [layR_append]
    simp only [layR]
    rw [← g.maskPre hr, ← g.viewGet hcall hr, ← hview]; exact hv
  have hsplit : (recs.filter (DR listed)).filter (fun q => r.mask.testBit q.i || q.i == b0) = (recs.filter fun q => r.mask.testBit q.i) ++ [q0] := by
    rw [List.filter_filter]
    have hsp : recs = recs.take b0 ++ q0 :: recs.drop (b0 + 1) := by
      obtain ⟨hlt, he⟩ := List.getElem?_eq_some_iff.1 hb0
      rw [← he, List.getElem_cons_drop, List.take_append_drop]
    have hq0 := (g.at_ b0 q0 hb0).1
    have hbit0 : r.mask.testBit b0 = false := by
      cases hc : r.mask.testBit b0 with
      | false => rfl
      | true => have := ((g.mask i r hr).2 b0 hc).1; omega
    have c1 : (recs.take b0).filter (fun q => (r.mask.testBit q.i || q.i == b0) && DR listed q) = (recs.take b0).filter fun q => r.mask.testBit q.i := by
      refine List.filter_congr fun q hq => ?_
      obtain ⟨j, hj⟩ := List.getElem?_of_mem hq
      rw [List.getElem?_take] at hj
      split at hj
      · have hqi := (g.at_ j q hj).1
        have : (q.i == b0) = false := by simp; omega
        rw [this, Bool.or_false]
        cases hc : r.mask.testBit q.i with
        | false => rfl
        | true => unfold DR; rw [hmask _ hc]; rfl
      · cases hj
    have c2 : ∀ q ∈ recs.drop (b0 + 1), q.i ≠ b0 ∧ r.mask.testBit q.i = false := by
      intro q hq
      obtain ⟨j, hj⟩ := List.getElem?_of_mem hq
      rw [List.getElem?_drop] at hj
      have hqi := (g.at_ _ q hj).1
      refine ⟨by omega, ?_⟩
      cases hc : r.mask.testBit q.i with
      | false => rfl
      | true => have := ((g.mask i r hr).2 _ hc).1; omega
    have c3 : (recs.drop (b0 + 1)).filter (fun q => (r.mask.testBit q.i || q.i == b0) && DR listed q) = [] := by
      rw [List.filter_eq_nil_iff]
      intro q hq
      obtain ⟨d1, d2⟩ := c2 q hq
      simp [d1, d2]
    have c4 : (recs.drop (b0 + 1)).filter (fun q => r.mask.testBit q.i) = [] := by
      rw [List.filter_eq_nil_iff]
      intro q hq
      simp [(c2 q hq).2]
    conv => lhs; rw [hsp, List.filter_append]
    conv => rhs; rw [hsp, List.filter_append]
    rw [List.filter_cons_of_pos (by unfold DR; rw [hq0, hD0]; simp), List.filter_cons_of_neg (by rw [hq0, hbit0]; simp), c1, c3, c4]
    simp
  rw [layR_filter (fun q => r.mask.testBit q.i || q.i == b0), hsplit, hv']
  intro q hq hb hid
  simp only [List.mem_filter] at hq
  obtain ⟨hq, hD⟩ := hq
  obtain ⟨k, hk, hki⟩ := g.of_mem hq
  unfold DR at hD
  rw [hki] at hD
  simp only [Bool.or_eq_false_iff] at hb
  rw [hki] at hb
  have hkb0 : k ≠ b0 := by simpa using hb.2
  have hqi : ∀ (h : i < k), q.mask.testBit i = false := fun h => by
    cases hc : q.mask.testBit i with
    | false => rfl
    | true => have := hclosed k q hk hD i hc; rw [hn] at this; cases this
  obtain ⟨o', ho'⟩ := Option.isSome_iff_exists.1 hsome
  rw [hview, g.viewGet hcall hr, g.maskPre hr] at ho'
  rcases (did_ids (g.did k q hk) hcall).1 hid with hw | ⟨w1, w2⟩
  · rcases Nat.lt_trichotomy k i with h | h | h
    · obtain ⟨l, e1, e2⟩ := meets_false (g.pair i r k q hr h hk hb.1).1 hw
      rw [hread l e1] at e2; cases e2
    · rw [h] at hD; rw [hn] at hD; cases hD
    · obtain ⟨l, e1, e2⟩ := meets_false (hcalm k q hk h hkb0 hD (hqi h)) hw
      rw [hread l e1] at e2; cases e2
  · rcases Nat.lt_trichotomy k i with h | h | h
    · have := g.unseen hcall hlt hk i r hr hb.1 id w1 (by omega)
      rw [ho'] at this; cases this
    · rw [h] at hD; rw [hn] at hD; cases hD
    · have hq' := g.apartNx hk hr h
      have : layR h0.get (recs.filter fun q => r.mask.testBit q.i) id = none := by
        rw [layR_other]
        · cases hh : h0.get id with
          | none => rfl
          | some o' => have := hlt id o' hh; have := (g.nxs i r hr).1; have := (g.nxs i r hr).2.1; omega
        · intro y hy hyid
          simp only [List.mem_filter] at hy
          obtain ⟨hy, hyb⟩ := hy
          obtain ⟨j, hj, rfl⟩ := g.of_mem hy
          have hji := ((g.mask i r hr).2 y.i hyb).1
          have hyf := g.apartNx hr hj hji
          have hrn := (g.nxs i r hr).2.1
          have hyn := (g.nxs _ y hj).2.1
          rcases (did_ids (g.did _ y hj) hcall).1 hyid with hw | ⟨_, _⟩
          · have := (did_wr (g.did _ y hj) hw).2.1; omega
          · omega
      rw [ho'] at this; cases this

/-- one operation more, whichever may come next -/
theorem draw_step (g : GoodD E P call N all h0 tm0 nx0 all.toList ms recs tmF nxF) (hcall : CallsOk P call) (hE : EnvOk E P) (hlt : ∀ k o, h0.get k = some o → k < nx0) {Q : Exit → Act → World → Prop} {i : Nat} (hrd : i ∈ Region.ready .any all listed) (hinv : Inv P N B h0 tm0 nx0 nxF recs ρ0 w0 d0 listed a w) :
    wpOp P all Q i (Inv P N B h0 tm0 nx0 nxF recs ρ0 w0 d0 (listed.setIfInBounds i true)) a w := by
  rw [mem_ready] at hrd
  obtain ⟨h1, o, ho, hedges⟩ := hrd
  obtain ⟨hi, hn⟩ := getD_split h1
  obtain ⟨r, hr⟩ : ∃ r, recs[i]? = some r := ⟨recs[i]'(hinv.size ▸ hi), List.getElem?_eq_getElem _⟩
  have hro : o = r.o := by
    have := (g.at_ i r hr).2
    rw [Array.getElem?_toList, ho] at this
    exact Option.some.inj this
  subst hro
  obtain ⟨m1, m2⟩ := g.mask i r hr
  have hmask : ∀ k, r.mask.testBit k = true → listed.getD k false = true := by
    intro k hk
    obtain ⟨_, e, he, hb, h⟩ := m2 k hk
    have hel := hedges e (by simpa using he) hb
    rcases h with rfl | ⟨q, hq, hk'⟩
    · exact hel
    · exact hinv.closed _ q hq hel k hk'
  obtain ⟨ρ, hO, hS, hF, hT⟩ := hinv.rel
  have hlook := looked_rel g hr hi hn hinv.closed hmask hT
  have fin := fun {ρ' w' v'} (hv : VR ρ' r.v v') (hO' : ORel P B (layF (layR h0.get (recs.filter (DR listed))) r.delta) ρ' w') hS' =>
    inv_next (d0 := d0) (ρ0 := ρ0) (w0 := w0) g hcall hlt hr hi hn hinv hmask hT hS hF hv hO' hS'
  have hnx := g.nxs i r hr
  have hfresh : ∀ k, r.nx ≤ k → k < r.fin + 1 → ρ k = none := fun k a b => hF i r hr hn k a (by omega)
  unfold wpOp
  simp only [ho]
  have hd := g.did i r hr
  rcases hd with ⟨d1, d2, d3, d4, d5, d6⟩ | ⟨d1, d2, d3, hd⟩
  · rw [wanted_ok hlook d1]
    simp only [Bool.false_eq_true, if_false]
    have := @fin ρ w undef (by rw [d2]; exact vr_undef ρ) (by rw [d5]; exact hO) (by rw [d5, d6]; exact Step.refl _ _ _ _)
    exact this
  · rw [wanted_ok hlook d1]
    simp only [if_true]
    refine .inl ?_
    -- ids that are seen lie below
    have hseenlt : ∀ k ob, r.view.get k = some ob → k < r.nx := by
      intro k ob hk
      rw [d2, g.viewGet hcall hr, g.maskPre hr] at hk
      by_cases hlt' : k < r.nx
      · exact hlt'
      · exfalso
        rw [layR_other] at hk
        · have := hlt k ob hk; omega
        · intro y hy hyid
          simp only [List.mem_filter] at hy
          obtain ⟨hy, hyb⟩ := hy
          obtain ⟨j, hj, rfl⟩ := g.of_mem hy
          have hyf := g.apartNx hr hj ((g.mask i r hr).2 y.i hyb).1
          have hyn := (g.nxs _ y hj).2.1
          rcases (did_ids (g.did _ y hj) hcall).1 hyid with hw | ⟨_, _⟩
          · have := (did_wr (g.did _ y hj) hw).2.1; omega
          · omega
    rcases hd with ⟨foot, n, e, c1, c2, c3, c4, c5, c6⟩ | ⟨foot, f, args, S', c1, c2, c3, c4, c5, c6, c7⟩
    · -- an operation of the model's own
      have run : ∀ (gp : Hp) (n : ANext) (e : Eff), (∀ k ob, gp k = some ob → layR h0.get (recs.filter (DR listed)) k = some ob) → (∀ k ob, gp k = some ob → k < r.nx) → opA E P (looked all r.o r.tm) gp r.nx r.o = some (n, e) →
          (n = .value r.v ∨ (n = .skip ∧ r.v = undef)) → r.delta = effD e r.nx → e.nx r.nx ≤ r.fin → r.o.wp P a w (Inv P N B h0 tm0 nx0 nxF recs ρ0 w0 d0 (listed.setIfInBounds i true)) Q := by
        intro gp n e hsub hgl hop hnv hdel hfin
        have hH : HRel P B (r.fin + 1) gp r.nx ρ w := (hO.sub hsub).hrel hfresh hgl
        obtain ⟨ρ', w', r1, r2, r3⟩ := opA_ok hE hH (by omega) hlook hop
        obtain ⟨k1, k2⟩ := merge (G := layR h0.get (recs.filter (DR listed))) (G' := layF (layR h0.get (recs.filter (DR listed))) r.delta) (idsOf r.delta) hO hsub r2 r1
          (fun k hk => by rw [hdel] at hk ⊢; rw [effD_lay, ← effD_lay e r.nx gp, ← effD_lay e r.nx _]; exact layF_congr _ _ _ _ (.inl hk))
          (fun k hk => by rw [hdel] at hk; rw [← effD_lay]; exact layF_other _ _ _ hk)
          (fun k hk => layF_other _ _ _ hk)
        have k2' := k2.wide (Nat.le_refl _) hfin
        unfold Oper.wp
        rcases hnv with rfl | ⟨rfl, hu⟩
        · obtain ⟨v', q1, q2⟩ := r3
          rw [q1]
          exact fin q2 k1 k2'
        · have r3 : (execOp a.eval r.o).run P w = .ok .skip w' := r3
          rw [r3]
          exact fin (v' := undef) (by rw [hu]; exact vr_undef ρ') k1 k2'
      -- does one that may write what it reads stand behind it already?
      by_cases halt : ∃ b0 q0, recs[b0]? = some q0 ∧ i < b0 ∧ listed.getD b0 false = true ∧ q0.mask.testBit i = false ∧ meets q0.wr r.rd = true
      · obtain ⟨b0, q0, hq0, hib, hD0, hm0, hmeet⟩ := halt
        obtain ⟨_, hp2⟩ := g.pair b0 q0 i r hq0 hib hr hm0
        rcases hp2 with h | ⟨ha1, foot', ha2, ha3, ha4, ha5⟩
        · rw [h] at hmeet; cases hmeet
        · rw [c1] at ha2; cases ha2
          refine run _ _ _ (fun k ob hk => ?_) (fun k ob hk => ?_) ha5 (.inl rfl) ha4 hnx.2.1
          · unfold behind at hk
            cases hf : foot.contains k && (r.view.get k).isSome with
            | false => rw [hf] at hk; cases hk
            | true =>
              rw [hf] at hk
              simp only [Bool.and_eq_true] at hf
              dsimp only at hk
              rw [layD_get _ _ fun j hj => g.idsBig hcall (List.mem_of_getElem? hq0) hj] at hk
              refine seen_alt g hcall hlt hr hn hinv.closed hmask d2 hq0 hib hD0 hk hf.2 (fun l e => by rw [c1] at e; cases e; exact hf.1) fun b q hb hib' hne hDb hbi => ?_
              obtain ⟨_, hp⟩ := g.pair b q i r hb hib' hr hbi
              rcases hp with hp | ⟨hp, _⟩
              · exact hp
              · rw [ha1] at hp; simp only [Option.some.injEq, Prod.mk.injEq] at hp; exact absurd hp.1.symm hne
          · unfold behind at hk
            cases hf : foot.contains k && (r.view.get k).isSome with
            | false => rw [hf] at hk; cases hk
            | true =>
              simp only [Bool.and_eq_true] at hf
              obtain ⟨ob', h'⟩ := Option.isSome_iff_exists.1 hf.2
              exact hseenlt k ob' h'
      · refine run _ _ _ (fun k ob hk => ?_) (fun k ob hk => ?_) c2 c3 c5 (Nat.le_of_eq c6.symm)
        · unfold within at hk
          cases hf : foot.contains k with
          | false => rw [hf] at hk; cases hk
          | true =>
            rw [hf] at hk
            refine seen_is g hcall hlt hr hn hinv.closed hmask d2 hk (fun l e => by rw [c1] at e; cases e; exact hf) fun b q hb hib' hDb hbi => ?_
            cases hm : meets q.wr r.rd with
            | false => rfl
            | true => exact absurd ⟨b, q, hb, hib', hDb, hbi, hm⟩ halt
        · unfold within at hk
          cases hf : foot.contains k with
          | false => rw [hf] at hk; cases hk
          | true => rw [hf] at hk; exact hseenlt k ob hk
    · -- a call
      have hsub : ∀ k ob, r.view.get k = some ob → layR h0.get (recs.filter (DR listed)) k = some ob := by
        intro k ob hk
        refine seen_is g hcall hlt hr hn hinv.closed hmask d2 hk (fun l e => by rw [c1] at e; cases e) fun b q hb hib' hDb hbi => ?_
        obtain ⟨_, hp⟩ := g.pair b q i r hb hib' hr hbi
        rcases hp with hp | ⟨_, foot', ha2, _⟩
        · exact hp
        · rw [c1] at ha2; cases ha2
      have hwithin : ∀ k ob, within foot r.view k = some ob → r.view.get k = some ob := by
        intro k ob hk
        unfold within at hk
        cases hf : foot.contains k with
        | false => rw [hf] at hk; cases hk
        | true => rw [hf] at hk; exact hk
      have hH : HRel P B (r.fin + 1) (within foot r.view) r.nx ρ w := (hO.sub fun k ob hk => hsub k ob (hwithin k ob hk)).hrel hfresh fun k ob hk => hseenlt k ob (hwithin k ob hk)
      have hHv : HRel P B (r.fin + 1) r.view.get r.nx ρ w := (hO.sub hsub).hrel hfresh hseenlt
      obtain ⟨ρ1, w1, r1, r2, args', r3, r4⟩ := opA_ok hE hH (by omega) hlook c2
      obtain ⟨cf, cc⟩ := hcall f args _ _ _ c3
      -- the operation itself did nothing
      have hsame1 : ORel P B (layR h0.get (recs.filter (DR listed))) ρ1 w1 ∧ Step (layR h0.get (recs.filter (DR listed))) (layR h0.get (recs.filter (DR listed))) r.nx r.nx ρ ρ1 w w1 :=
        merge (fun _ => False) hO (fun k ob hk => hsub k ob (hwithin k ob hk)) r2 r1 (fun _ h => h.elim) (fun _ _ => rfl) (fun _ _ => rfl)
      have hfresh1 : ∀ k, r.nx ≤ k → k < r.fin + 1 → ρ1 k = none := fun k a b => by
        rcases r2.ext k with h | ⟨_, h, _⟩
        · rw [h]; exact hfresh k a b
        · exact absurd h (Nat.not_lt.2 a)
      have hHv1 : HRel P B (r.fin + 1) r.view.get r.nx ρ1 w1 := (hsame1.1.sub hsub).hrel hfresh1 hseenlt
      have hcallr := cc B (r.fin + 1) ρ1 w1 args'.toList (by rw [c6]; exact Nat.lt_succ_self _) hHv1 r4
      unfold Oper.wp
      rw [r3]
      refine hcallr.mono ?_
      rintro en w2 ⟨ρ2, ⟨hH2, hS2⟩, hen⟩
      cases en with
      | panicked c => exact hen.elim
      | outgrown => exact hen.elim
      | returned v' =>
        have hle : r.nx ≤ S'.next := cf.next
        have hids : ∀ k, idsOf r.delta k ↔ k ∈ S'.wr ∨ (r.nx ≤ k ∧ k < S'.next) := fun k => by rw [did_ids (g.did i r hr) hcall, c4, c6]
        obtain ⟨k1, k2⟩ := merge (G := layR h0.get (recs.filter (DR listed))) (G' := layF (layR h0.get (recs.filter (DR listed))) r.delta) (idsOf r.delta) hsame1.1 hsub hS2 hH2
          (fun k hk => by
            rw [c5, layF_append]
            by_cases hnew : r.nx ≤ k ∧ k < S'.next
            · exact newsD_val _ _ _ _ _ hnew.1 (by omega)
            · rw [layF_other _ _ _ (by rw [newsD_ids]; omega)]
              exact mapD_val _ _ _ _ (((hids k).1 hk).resolve_right hnew))
          (fun k hk => by
            rw [hids] at hk
            simp only [not_or, not_and, Nat.not_lt] at hk
            by_cases hkn : k < r.nx
            · exact cf.keep (Nat.le_refl _) k hkn hk.1
            · have h1 : S'.heap.get k = none := by
                cases hx : S'.heap.get k with
                | none => rfl
                | some ob => have := hH2.lt k ob hx; have := hk.2 (by omega); omega
              have h2 : r.view.get k = none := by
                cases hx : r.view.get k with
                | none => rfl
                | some ob => have := hseenlt k ob hx; omega
              show S'.heap.get k = r.view.get k
              rw [h1, h2])
          (fun k hk => layF_other _ _ _ hk)
        have hSS := (hsame1.2.trans k2)
        exact fin hen k1 (by rw [c6]; exact hSS)
end
end Go.Sy
namespace Go.Sy
open Go Go.RowKit Go.Sx

section
variable {E : Env} {P : Program} {call : CallF} {N : Nat}
theorem draw_any {all : Array Oper} {h0 : FH} {tm0 : TT} {nx0 : Nat} {ms : List Nat} {recs : List Rec} {tmF : TT} {nxF : Nat} (g : GoodD E P call N all h0 tm0 nx0 all.toList ms recs tmF nxF) (hcall : CallsOk P call) (hE : EnvOk E P)
    {B : Nat} {ρ0 : Ren} {w0 : World} {d0 : List Deferred} (hlt : ∀ k o, h0.get k = some o → k < nx0) {Q : Exit → Act → World → Prop}
    (hQ : ∀ listed a w, Inv P N B h0 tm0 nx0 nxF recs ρ0 w0 d0 listed a w → (∀ i, i < recs.length → listed.getD i false = true) → Q .normal a w) :
    ∀ (fuel : Nat) (listed : Array Bool) (a : Act) (w : World), Inv P N B h0 tm0 nx0 nxF recs ρ0 w0 d0 listed a w → ((List.range recs.length).filter fun i => !listed.getD i false).length ≤ fuel → wpAny P .any all Q fuel listed a w := by
  have hlen : recs.length = all.size := by have := g.len; simpa using this
  have full : ∀ (listed : Array Bool) a w, Inv P N B h0 tm0 nx0 nxF recs ρ0 w0 d0 listed a w → Region.ready .any all listed = [] → ∀ i, i < recs.length → listed.getD i false = true := by
    intro listed a w hinv hnil i
    induction i using Nat.strongRecOn with
    | _ i ih =>
      intro hi
      cases hc : listed.getD i false with
      | true => rfl
      | false =>
        exfalso
        have hil : i < listed.size := by rw [hinv.size]; exact hi
        have : i ∈ Region.ready .any all listed := by
          rw [mem_ready]
          obtain ⟨r, hr⟩ : ∃ r, recs[i]? = some r := ⟨recs[i], List.getElem?_eq_getElem hi⟩
          have hat := (g.at_ i r hr).2
          rw [Array.getElem?_toList] at hat
          refine ⟨?_, r.o, hat, fun e he hb => ?_⟩
          · rw [Array.getD_eq_getD_getElem?] at hc ⊢
            rw [Array.getElem?_eq_getElem hil] at hc ⊢
            simpa using hc
          · have := ((g.mask i r hr).1 e (by simpa using he) hb).1
            exact ih e.on this (by omega)
        rw [hnil] at this; cases this
  intro fuel
  induction fuel with
  | zero =>
    intro listed a w hinv hcnt
    have hall : ∀ i, i < recs.length → listed.getD i false = true := by
      intro i hi
      have h0 := List.eq_nil_of_length_eq_zero (Nat.le_zero.1 hcnt)
      rw [List.filter_eq_nil_iff] at h0
      have := h0 i (List.mem_range.2 hi)
      simpa using this
    refine ⟨?_, hQ listed a w hinv hall⟩
    rw [List.eq_nil_iff_forall_not_mem]
    intro i hi
    rw [mem_ready] at hi
    obtain ⟨h1, _⟩ := hi
    obtain ⟨h2, h3⟩ := getD_split h1
    rw [hall i (by rw [← hinv.size]; exact h2)] at h3; cases h3
  | succ fuel ih =>
    intro listed a w hinv hcnt
    refine ⟨fun hnil => hQ listed a w hinv (full listed a w hinv hnil), fun i hi => ?_⟩
    refine wpOp_mono (fun a' w' hinv' => ih _ a' w' hinv' ?_) (draw_step g hcall hE hlt hi hinv)
    rw [mem_ready] at hi
    obtain ⟨h2, h3⟩ := getD_split hi.1
    have := filter_lt (p := fun i => !listed.getD i false) (q := fun k => !(listed.setIfInBounds i true).getD k false) (List.range recs.length) (fun x _ hx => by
        rw [getD_set h2] at hx
        split at hx
        · simp at hx
        · exact hx) ⟨i, List.mem_range.2 (by rw [← hinv.size]; exact h2), by rw [h3]; rfl, by rw [getD_set h2, if_pos rfl]; rfl⟩
    omega

theorem wrAll_mem {mark : Nat} : ∀ (l : List Rec) (wr : List Nat) (k : Nat), k ∈ wrAll mark wr l ↔ k ∈ wr ∨ ∃ r ∈ l, k ∈ r.wr ∧ k < mark
  | [], wr, k => by simp [wrAll]
  | r :: l, wr, k => by
    have fold : ∀ (rw' wr : List Nat), k ∈ rw'.foldr (noteW mark) wr ↔ k ∈ wr ∨ (k ∈ rw' ∧ k < mark) := by
      intro rw'
      induction rw' with
      | nil => intro wr; simp
      | cons x l ih =>
        intro wr
        simp only [List.foldr_cons, noteW_mem, ih, List.mem_cons]
        constructor
        · rintro ((h | ⟨h1, h2⟩) | ⟨rfl, h2⟩)
          · exact .inl h
          · exact .inr ⟨.inr h1, h2⟩
          · exact .inr ⟨.inl rfl, h2⟩
        · rintro (h | ⟨rfl | h1, h2⟩)
          · exact .inl (.inl h)
          · exact .inr ⟨rfl, h2⟩
          · exact .inl (.inr ⟨h1, h2⟩)
    rw [wrAll, wrAll_mem l _ k, fold]
    constructor
    · rintro ((h | h) | ⟨q, hq, h⟩)
      · exact .inl h
      · exact .inr ⟨r, List.mem_cons_self, h⟩
      · exact .inr ⟨q, List.mem_cons_of_mem _ hq, h⟩
    · rintro (h | ⟨q, hq, h⟩)
      · exact .inl (.inl h)
      · cases hq with
        | head => exact .inl (.inr h)
        | tail _ hq => exact .inr ⟨q, hq, h⟩

theorem region_draw_ok (hE : EnvOk E P) (hcall : CallsOk P call) (hN : N < N + 1) {ops : Array Oper} {tm : TT} {S : St} {recs : List Rec} {tmF : TT} {nxF : Nat} (h : drawA E P call N ops S.heap 0 [] [] ops.toList [] tm S.next = some (recs, tmF, nxF)) :
    Fx S ⟨layAll S.heap recs, nxF, S.mark, wrAll S.mark S.wr recs⟩ ∧ ∀ (id : Nat) (B lim : Nat) (ρ : Ren) (w : World) (a : Act) (Q : Exit → Act → World → Prop), nxF < lim → HRel P B lim S.heap.get S.next ρ w → TRel N ρ tm.get a.tmps →
      (∀ ρ' a' w', Then P B lim S ⟨layAll S.heap recs, nxF, S.mark, wrAll S.mark S.wr recs⟩ ρ ρ' w w' → TRel N ρ' tmF.get a'.tmps → a'.defers = a.defers → Q .normal a' w') →
      (Code.region id ops true).wp P Q a w := by
  obtain ⟨ms, g⟩ := draw_good (h0 := S.heap) (tm0 := tm) (nx0 := S.next) hN hcall ops.toList 0 [] [] [] tm S.next recs tmF nxF GoodD.start rfl h
  rw [List.nil_append] at g
  have hget : (layAll S.heap recs).get = layR S.heap.get recs := layAll_get _ _ fun r hr k hk => g.idsBig hcall hr hk
  refine ⟨⟨g.nxF.1, rfl, fun k hk => (wrAll_mem _ _ _).2 (.inl hk), fun hm k hk hn => ?_⟩, fun id B lim ρ w a Q hl hr ht hQ => ?_⟩
  · show (layAll S.heap recs).get k = _
    rw [hget, layR_other]
    intro r hrm hid
    obtain ⟨i, hi, _⟩ := g.of_mem hrm
    rcases (did_ids (g.did i r hi) hcall).1 hid with hw | ⟨h1, _⟩
    · exact hn ((wrAll_mem _ _ _).2 (.inr ⟨r, hrm, hw, hk⟩))
    · have := (g.nxs i r hi).1; have hm' : S.mark ≤ S.next := hm; omega
  · refine wp_region_any hE.mixed ?_
    have hnone : recs.filter (DR (Array.replicate ops.size false)) = [] := by
      rw [List.filter_eq_nil_iff]
      intro r _
      unfold DR
      rw [Array.getD_eq_getD_getElem?]
      cases hx : (Array.replicate ops.size false)[r.i]? with
      | none => simp
      | some b => rw [Array.getElem?_replicate] at hx; split at hx <;> simp_all
    have hlen : recs.length = ops.size := by have := g.len; simpa using this
    have al : Alike0 w w.drew := Alike0.drew w
    obtain ⟨q1, q2⟩ := rel_none hr al
    refine draw_any g hcall hE (B := B) (ρ0 := ρ) (w0 := w) (d0 := a.defers) hr.lt (Q := Q) (fun listed a' w' hinv hall => ?_) ops.size _ a w.drew ⟨by simp [hlen], fun i r hi hD => ?_, rfl, ρ, ?_, ?_, fun i r hi _ k h1 h2 => ?_, ?_⟩ ?_
    · obtain ⟨ρ', hO, hS, _, hT⟩ := hinv.rel
      have hfull : recs.filter (DR listed) = recs := by
        rw [List.filter_eq_self]
        intro r hrm
        obtain ⟨i, hi, e⟩ := g.of_mem hrm
        unfold DR
        rw [e]
        exact hall i (List.getElem?_eq_some_iff.1 hi).1
      rw [hfull] at hO hS hT
      refine hQ ρ' a' w' ⟨?_, ?_⟩ (by rw [g.tmF]; exact hT) hinv.defers
      · show HRel P B lim (layAll S.heap recs).get nxF ρ' w'
        rw [hget]
        refine hO.hrel (fun k h1 h2 => ?_) fun k o hk => ?_
        · rcases hS.ext k with h | ⟨_, h, _⟩
          · rw [h]; exact hr.fresh k (Nat.le_trans g.nxF.1 h1) h2
          · omega
        · by_cases hlt : k < nxF
          · exact hlt
          · exfalso
            rw [layR_other] at hk
            · have := hr.lt k o hk; have := g.nxF.1; omega
            · intro r hrm hid
              have hrf := g.nxF.2 r hrm
              obtain ⟨i, hi, _⟩ := g.of_mem hrm
              have := (g.nxs i r hi).2.1
              rcases (did_ids (g.did i r hi) hcall).1 hid with hw | ⟨_, h2⟩
              · have := (did_wr (g.did i r hi) hw).2.1; omega
              · omega
      · show Step S.heap.get (layAll S.heap recs).get S.next nxF ρ ρ' w w'
        rw [hget]; exact hS
    · rw [Array.getD_eq_getD_getElem?] at hD
      cases hx : (Array.replicate ops.size false)[i]? with
      | none => rw [hx] at hD; simp at hD
      | some b => rw [hx] at hD; rw [Array.getElem?_replicate] at hx; split at hx <;> simp_all
    · rw [hnone]; exact (HRel.orel q1)
    · rw [hnone]; exact q2.wide (Nat.le_refl _) g.nxF.1
    · have := (g.nxs i r hi).1
      have := g.nxF.2 r (List.mem_of_getElem? hi)
      exact hr.fresh k (by omega) (by omega)
    · rw [hnone]; exact ht
    · rw [← hlen]
      exact Nat.le_trans (List.length_filter_le _ _) (by simp)

end
end Go.Sy
