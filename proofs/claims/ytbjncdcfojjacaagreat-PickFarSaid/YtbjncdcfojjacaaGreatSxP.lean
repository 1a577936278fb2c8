/- The evaluator: control. Regions in the text's order; regions whose order is drawn, evaluated so that no order can tell; code; calls. -/
import Derived.Test.YtbjncdcfojjacaaGreatSxO
namespace Go.Sx
open Go Go.RowKit

structure St where
  heap : Tr AObj
  next : Nat
  mark : Nat
  wr : List Nat
def noteW (mark k : Nat) (wr : List Nat) : List Nat :=
  match Nat.blt k mark with
  | true => k :: wr
  | false => wr
def big : Nat := 549755813888
def St.eff (S : St) (e : Eff) : Option St :=
  match Nat.blt S.next big with
  | false => none
  | true => match e with
    | .none => some S
    | .new o => some ⟨S.heap.put 40 S.next (some o), S.next + 1, S.mark, S.wr⟩
    | .upd k o => match Nat.blt k big with
      | true => some ⟨S.heap.put 40 k (some o), S.next, S.mark, noteW S.mark k S.wr⟩
      | false => none
    | .move k o => match Nat.blt k big with
      | true => some ⟨(S.heap.put 40 k none).put 40 S.next (some o), S.next + 1, S.mark, noteW S.mark k S.wr⟩
      | false => none

abbrev TT := Tr Value
def tset (N : Nat) (tm : TT) (dst : Option Tmp) (v : Value) : Option TT :=
  match dst with
  | none => some tm
  | some d => match Nat.blt d N with
    | true => some (tm.put 40 d (some v))
    | false => none
def wantedA (tm : T) (ops : Array Oper) (o : Oper) : Option Bool :=
  match o.guard with
  | none => some true
  | some (j, want) => match (ops[j]?).bind (·.dst) with
    | some d => match tm d with
      | some (.bool b) => some (b == want)
      | some (.tuple _) => some false
      | _ => none
    | none => some false

inductive AEnd where
  | ret (v : Value)
  | panic (v : Value)
abbrev CallF := FuncId → List Value → St → Option (AEnd × St)

def seqA (E : Env) (P : Program) (call : CallF) (N : Nat) (all : Array Oper) : List Oper → TT → St → Option (Option Value × TT × St)
  | [], tm, S => some (none, tm, S)
  | o :: rest, tm, S => (wantedA tm.get all o).bind fun w => match w with
    | true => (opA E P tm.get S.heap.get S.next o).bind fun ne => (S.eff ne.2).bind fun S1 => match ne.1 with
      | .value x => (tset N tm o.dst x).bind fun tm1 => seqA E P call N all rest tm1 S1
      | .skip => (tset N tm o.dst undef).bind fun tm1 => seqA E P call N all rest tm1 S1
      | .enter f args => (call f args S1).bind fun es => match es.1 with
        | .ret x => (tset N tm o.dst x).bind fun tm1 => seqA E P call N all rest tm1 es.2
        | .panic x => some (some x, tm, es.2)
      | .panic x => some (some x, tm, S1)
    | false => (tset N tm o.dst undef).bind fun tm1 => seqA E P call N all rest tm1 S

/-! ### a region whose order is drawn -/
/-- what an operation did: its number, what it must wait for, what it read (none: anything), what it wrote of what was there, what it changed -/
structure Rec where
  i : Nat
  mask : Nat
  rd : Option (List Nat)
  wr : List Nat
  delta : List (Nat × Option AObj)
  v : Value
  o : Oper
  tm : TT
  view : Tr AObj
  nx : Nat
  fin : Nat
  /-- of what only reads: who may write what it reads, in either order -/
  alt : Option (Nat × List (Nat × Option AObj))
def maskOf (ms : List Nat) : List Edge → Nat → Option Nat
  | [], m => some m
  | e :: l, m => match Region.binds .any e with
    | true => (ms[e.on]?).bind fun k => maskOf ms l (m ||| (k ||| 2 ^ e.on))
    | false => maskOf ms l m
def layD (h : Tr AObj) : List (Nat × Option AObj) → Tr AObj
  | [] => h
  | (k, o) :: l => layD (h.put 40 k o) l
/-- the heap as an operation may see it: what those did that it waits for -/
def viewD (h : Tr AObj) (mask : Nat) : List Rec → Tr AObj
  | [] => h
  | r :: l => match mask.testBit r.i with
    | true => viewD (layD h r.delta) mask l
    | false => viewD h mask l
def meets (wr : List Nat) : Option (List Nat) → Bool
  | none => !wr.isEmpty
  | some rd => wr.any fun k => rd.contains k
def sameInts : List Value → List Value → Bool
  | [], [] => true
  | .int k a :: l, .int k' b :: l' => k == k' && a == b && sameInts l l'
  | _, _ => false
def sameV : Value → Value → Bool
  | .int k a, .int k' b => k == k' && a == b
  | .func (.yield i) fi ca, .func (.yield j) fi' ca' => i == j && sameInts fi.toList fi'.toList && sameInts ca.toList ca'.toList
  | .bool a, .bool b => a == b
  | .pointer a, .pointer b => a == b
  | .map a, .map b => a == b
  | .slice a n c, .slice b m d => a == b && n == m && c == d
  | _, _ => false
def looked (all : Array Oper) (o : Oper) (tm : TT) : T := fun t => match (o.looksAt all).contains t with
  | true => tm.get t
  | false => none
def within (foot : List Nat) (h : Tr AObj) : Hp := fun k => match foot.contains k with
  | true => h.get k
  | false => none
/-- what was seen, with the other's writing laid over -/
def behind (foot : List Nat) (view : Tr AObj) (delta : List (Nat × Option AObj)) : Hp := fun k => match foot.contains k && (view.get k).isSome with
  | true => (layD view delta).get k
  | false => none
/-- an operation that only read tells the same behind the other's writing -/
def recheck (E : Env) (P : Program) (all : Array Oper) (r : Rec) (delta : List (Nat × Option AObj)) : Bool :=
  match r.rd, r.wr, r.delta, r.alt with
  | some foot, [], [], none => match opA E P (looked all r.o r.tm) (behind foot r.view delta) r.nx r.o with
    | some (.value v, .none) => sameV v r.v
    | _ => false
  | _, _, _, _ => false
/-- nothing that is not waited for disturbs -/
def calmD (E : Env) (P : Program) (all : Array Oper) (i mask : Nat) (rd : Option (List Nat)) (wr : List Nat) (delta : List (Nat × Option AObj)) : List Rec → Option (List Rec)
  | [] => some []
  | r :: l => (calmD E P all i mask rd wr delta l).bind fun l' => match mask.testBit r.i with
    | true => some (r :: l')
    | false => match meets r.wr rd, meets wr r.rd with
      | false, false => some (r :: l')
      | false, true => match recheck E P all r delta with
        | true => some ({ r with alt := some (i, delta) } :: l')
        | false => none
      | _, _ => none
/-- no temporary is shared with one that is not waited for -/
def apartD (ops : Array Oper) (mask : Nat) (o : Oper) : Nat → List Oper → Bool
  | _, [] => true
  | k, x :: l => (mask.testBit k || x.apart ops o) && apartD ops mask o (k + 1) l
def topsOf : Value → List Nat
  | .pointer (some a) => [a.block]
  | .slice (some a) _ _ => [a.block]
  | .map (some r) => [r]
  | .iface _ (.map (some r)) => [r]
  | _ => []
def topsAll (tm : T) : List Operand → List Nat
  | [] => []
  | x :: l => match ev tm x with
    | some v => topsOf v ++ topsAll tm l
    | none => topsAll tm l
def touches (o : Oper) : List Operand :=
  match o.op with
  | .load _ a => [a]
  | .store _ a _ => [a]
  | .lookup _ m _ _ => [m]
  | .insert _ m _ _ => [m]
  | .mapUpdate _ m _ _ => [m]
  | .call c => match c.callee with
    | .builtin .append => c.args.toList
    | .builtin .copy => c.args.toList
    | .builtin .delete => c.args.toList
    | .builtin .len => c.args.toList
    | .builtin _ => []
    | _ => c.args.toList
  | _ => []
def effWr : Eff → List Nat
  | .upd k _ => [k]
  | .move k _ => [k]
  | _ => []
def effD (e : Eff) (nx : Nat) : List (Nat × Option AObj) :=
  match e with
  | .none => []
  | .new o => [(nx, some o)]
  | .upd k o => [(k, some o)]
  | .move k o => [(k, none), (nx, some o)]
def newsD (h : Tr AObj) (lo : Nat) : Nat → List (Nat × Option AObj)
  | 0 => []
  | n + 1 => (lo, h.get lo) :: newsD h (lo + 1) n
def wrOk (view : Tr AObj) (nx : Nat) (foot : Option (List Nat)) (wr : List Nat) : Bool :=
  wr.all fun k => Nat.blt k nx && (view.get k).isSome && match foot with
    | some l => l.contains k
    | none => true
def drawA (E : Env) (P : Program) (call : CallF) (N : Nat) (all : Array Oper) (h0 : Tr AObj) : Nat → List Oper → List Nat → List Oper → List Rec → TT → Nat → Option (List Rec × TT × Nat)
  | _, _, _, [], recs, tm, nx => some (recs, tm, nx)
  | i, before, ms, o :: rest, recs, tm, nx => (maskOf ms o.after.toList 0).bind fun mask =>
    match apartD all mask o 0 before && Nat.blt nx big with
    | false => none
    | true =>
      let next (recs1 : List Rec) (r : Rec) : Option (List Rec × TT × Nat) :=
        (tset N tm o.dst r.v).bind fun tm1 => drawA E P call N all h0 (i + 1) (before ++ [o]) (ms ++ [mask]) rest (recs1 ++ [r]) tm1 (r.fin + 1)
      (wantedA (looked all o tm) all o).bind fun w => match w with
      | false => next recs ⟨i, mask, some [], [], [], undef, o, tm, .nil, nx, nx, none⟩
      | true =>
        let view := viewD h0 mask recs
        let foot := topsAll (looked all o tm) (touches o)
        (opA E P (looked all o tm) (within foot view) nx o).bind fun ne =>
        let done (v : Value) : Option (List Rec × TT × Nat) :=
          match wrOk view nx (some foot) (effWr ne.2) with
          | true => (calmD E P all i mask (some foot) (effWr ne.2) (effD ne.2 nx) recs).bind fun recs1 =>
            next recs1 ⟨i, mask, some foot, effWr ne.2, effD ne.2 nx, v, o, tm, view, nx, ne.2.nx nx, none⟩
          | false => none
        match ne.1 with
        | .value v => done v
        | .skip => done undef
        | .enter f args => match ne.2 with
          | .none => (call f args ⟨view, nx, nx, []⟩).bind fun es => match es.1 with
            | .ret v =>
              let delta := (es.2.wr.map fun k => (k, es.2.heap.get k)) ++ newsD es.2.heap nx (es.2.next - nx)
              match wrOk view nx none es.2.wr && Nat.blt es.2.next big with
              | true => (calmD E P all i mask none es.2.wr delta recs).bind fun recs1 =>
                next recs1 ⟨i, mask, none, es.2.wr, delta, v, o, tm, view, nx, es.2.next, none⟩
              | false => none
            | .panic _ => none
          | _ => none
        | .panic _ => none
def layAll (h : Tr AObj) : List Rec → Tr AObj
  | [] => h
  | r :: l => layAll (layD h r.delta) l
def wrAll (mark : Nat) (wr : List Nat) : List Rec → List Nat
  | [] => wr
  | r :: l => wrAll mark (r.wr.foldr (noteW mark) wr) l

inductive X where
  | normal
  | exit (id : Nat)
  | ret
  | panic (v : Value)

def codeA (E : Env) (P : Program) (call : CallF) (N : Nat) : Nat → Code → TT → St → Option (X × TT × St)
  | 0, _, _, _ => none
  | n + 1, c, tm, S =>
    match c with
    | .skip => some (.normal, tm, S)
    | .region _ ops false => (seqA E P call N ops ops.toList tm S).bind fun r => match r.1 with
      | none => some (.normal, r.2)
      | some x => some (.panic x, r.2)
    | .region _ ops true => (drawA E P call N ops S.heap 0 [] [] ops.toList [] tm S.next).bind fun r =>
      some (.normal, r.2.1, ⟨layAll S.heap r.1, r.2.2, S.mark, wrAll S.mark S.wr r.1⟩)
    | .seq a b => (codeA E P call N n a tm S).bind fun r => match r.1 with
      | .normal => codeA E P call N n b r.2.1 r.2.2
      | x => some (x, r.2)
    | .cond c a b => (ev tm.get c).bind fun
      | .bool t => codeA E P call N n (if t then a else b) tm S
      | _ => none
    | .block id b => (codeA E P call N n b tm S).bind fun r => match r.1 with
      | .exit j => if j = id then some (.normal, r.2) else some (.exit j, r.2)
      | x => some (x, r.2)
    | .loop b => (codeA E P call N n b tm S).bind fun r => match r.1 with
      | .normal => codeA E P call N n (.loop b) r.2.1 r.2.2
      | x => some (x, r.2)
    | .exit id => some (.exit id, tm, S)
    | .ret => some (.ret, tm, S)
    | _ => none

def argsT : Nat → List Value → TT → TT
  | _, [], t => t
  | i, x :: xs, t => argsT (i + 1) xs (t.put 40 i (some x))
def resultsA (E : Env) (tm : T) (hp : Hp) : List ResultVar → Option (List Value)
  | [] => some []
  | .tmp t :: r => (tm t).bind fun v => (resultsA E tm hp r).bind fun l => some (v :: l)
  | .cell a t :: r => (tm a).bind fun
    | .pointer (some p) => (E.agg t).bind fun g => match g with
      | true => (E.size t).bind fun n => (hread hp p n).bind fun c => (resultsA E tm hp r).bind fun l => some (.agg ⟨c⟩ :: l)
      | false => (hread hp p 1).bind fun c => c.head?.bind fun x => (resultsA E tm hp r).bind fun l => some (x :: l)
    | _ => none
def tupled : List Value → Value
  | [x] => x
  | l => .tuple ⟨l⟩
abbrev Hook := FuncId → Option (List Value → St → Option (AEnd × St))
def callA (E : Env) (P : Program) (hook : Hook) : Nat → CallF
  | 0, _, _, _ => none
  | n + 1, f, args, S => match hook f with
    | some g => g args S
    | none => (E.fn.get f).bind fun fn => match fn.body with
      | none => none
      | some c => match Nat.blt fn.ntmps big && Nat.ble args.length fn.ntmps with
        | false => none
        | true => (codeA E P (callA E P hook n) fn.ntmps 100000 c (argsT 0 args .nil) S).bind fun r => match r.1 with
          | .normal => (resultsA E r.2.1.get r.2.2.heap.get fn.results.toList).bind fun vs => some (.ret (tupled vs), r.2.2)
          | .ret => (resultsA E r.2.1.get r.2.2.heap.get fn.results.toList).bind fun vs => some (.ret (tupled vs), r.2.2)
          | .panic x => some (.panic x, r.2.2)
          | .exit _ => none
def isTrue : Option (AEnd × St) → Bool
  | some (.ret (.bool true), _) => true
  | _ => false
end Go.Sx
