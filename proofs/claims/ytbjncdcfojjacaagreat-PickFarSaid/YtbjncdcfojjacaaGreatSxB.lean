/- The evaluator: operations, as effects on the private heap. -/
import Derived.Test.YtbjncdcfojjacaaGreatSxBit
namespace Go.Sx
open Go Go.RowKit

structure Env where
  ty : Tr TypeInfo
  fn : Tr Func
  clone : Option FuncId

def Env.of (P : Program) (c : Option FuncId) : Env := ⟨Tr.ofList P.types.toList, Tr.ofList P.funcs.toList, c⟩
def plainName (s : String) : Bool := !(s == "runtime.NumGoroutine")
def plainNames : List Func → Bool
  | [] => true
  | f :: l => plainName f.name && plainNames l

def flat : Value → Bool
  | .bool _ => true
  | .int _ _ => true
  | .string _ => true
  | .pointer none => true
  | .slice none n c => n == 0 && c == 0
  | .map none => true
  | .nilFunc => true
  | .nilIface => true
  | _ => false
def flatL : List Value → Bool
  | [] => true
  | v :: vs => flat v && flatL vs
def flatZ (z : Value) : Bool :=
  match z with
  | .agg cs => flatL cs.toList
  | v => flat v
def isAggV : Value → Bool
  | .agg _ => true
  | _ => false
def zeroOk (i : TypeInfo) : Bool :=
  match i.zero with
  | some z => match isAggV z || flat z with
    | true => flatZ z && Nat.beq z.cells.size i.size
    | false => true
  | none => true
def fieldsIn (n : Nat) : List Field → Bool
  | [] => true
  | f :: l => Nat.blt f.type n && fieldsIn n l
def fieldsOk (n : Nat) (i : TypeInfo) : Bool :=
  match i.desc with
  | .struct fs => fieldsIn n fs.toList
  | _ => true
def zerosOk (n : Nat) : List TypeInfo → Bool
  | [] => true
  | i :: l => zeroOk i && fieldsOk n i && zerosOk n l

section
variable (E : Env)
def Env.und (t : TypeId) : Option TypeDesc :=
  match E.ty.get t with
  | some i => match i.desc with
    | .named _ u => (E.ty.get u).map (·.desc)
    | d => some d
  | none => none
def Env.size (t : TypeId) : Option Nat := (E.ty.get t).map (·.size)
def Env.zero (t : TypeId) : Option Value := (E.ty.get t).bind fun i => i.zero.bind fun z => match isAggV z || flat z with
  | true => some z
  | false => none
def Env.agg (t : TypeId) : Option Bool :=
  match E.und t with
  | some (.struct _) => some true
  | some (.array _ _) => some true
  | some _ => some false
  | none => none
end

inductive Eff where
  | none
  | new (o : AObj)
  | upd (k : Nat) (o : AObj)
  | move (k : Nat) (o : AObj)

/-- what the temporaries hold, as far as it is known -/
abbrev T := Nat → Option Value
def ev (tm : T) : Operand → Option Value
  | .tmp t => tm t
  | .const v => if flat v then some v else none
  | .global _ => none
  | .func f => some (.func (.func f) #[] #[])
def evs (tm : T) : List Operand → Option (List Value)
  | [] => some []
  | x :: xs => (ev tm x).bind fun v => (evs tm xs).bind fun vs => some (v :: vs)
def evO (tm : T) : Option Operand → Option (Option Value)
  | none => some none
  | some x => (ev tm x).bind fun v => some (some v)
def evParts (tm : T) : List (Nat × Operand) → Option (List (Nat × Value))
  | [] => some []
  | (i, x) :: r => (ev tm x).bind fun v => (evParts tm r).bind fun l => some ((i, v) :: l)

/-- cells from an address on -/
def hread (hp : Hp) (a : Addr) (n : Nat) : Option (List Value) :=
  match hp a.block with
  | some (.cells c _ _) => takeN n (dropN a.off c)
  | _ => none
def ones : List Value → Bool
  | [] => true
  | v :: vs => v.oneCell' && ones vs
/-- the block with cells laid over -/
def hwrite (hp : Hp) (a : Addr) (vs : List Value) : Option AObj :=
  match hp a.block with
  | some (.cells c e true) => if ones vs then (setAt a.off vs c).bind fun c' => some (.cells c' e true) else none
  | _ => none

def intBin (op : BinOp) (k : IntKind) (a b : Int) : Option Value :=
  match op with
  | .add => some (.int k (k.wrap (a + b)))
  | .sub => some (.int k (k.wrap (a - b)))
  | .mul => some (.int k (k.wrap (a * b)))
  | .quo => if b = 0 then none else some (.int k (k.wrap (a.tdiv b)))
  | .rem => if b = 0 then none else some (.int k (a.tmod b))
  | .and => some (.int k (k.wrap (BitVec.ofInt k.bits a &&& BitVec.ofInt k.bits b).toNat))
  | .or => some (.int k (k.wrap (BitVec.ofInt k.bits a ||| BitVec.ofInt k.bits b).toNat))
  | .xor => some (.int k (k.wrap (BitVec.ofInt k.bits a ^^^ BitVec.ofInt k.bits b).toNat))
  | .andNot => some (.int k (k.wrap (BitVec.ofInt k.bits a &&& ~~~(BitVec.ofInt k.bits b)).toNat))
  | .eql => some (.bool (a == b))
  | .neq => some (.bool (a != b))
  | .lss => some (.bool (decide (a < b)))
  | .leq => some (.bool (decide (a ≤ b)))
  | .gtr => some (.bool (decide (a > b)))
  | .geq => some (.bool (decide (a ≥ b)))
  | _ => none
def shiftBin (op : BinOp) (k : IntKind) (a b : Int) : Option Value :=
  if b < 0 then none else
  match op with
  | .shl => some (.int k (k.wrap (a * 2 ^ (min b.toNat k.bits))))
  | .shr => some (.int k (a.fdiv (2 ^ (min b.toNat k.bits))))
  | _ => none
/-- what lies at a place of an aggregate's cells -/
def partOf (E : Env) (t : TypeId) (cs : List Value) (off : Nat) : Option Value :=
  (E.agg t).bind fun g => match g with
  | true => (E.size t).bind fun n => (takeN n (dropN off cs)).bind fun l => some (.agg ⟨l⟩)
  | false => cs[off]?
def isSym : Value → Bool
  | .func (.yield _) _ _ => true
  | _ => false
def eqSym (x y : Value) : Option Bool :=
  match Lin.of x, Lin.of y with
  | some (k, a), some (k', b) => if k = k' then eqL a b else none
  | _, _ => none
/-- '==' of two values of one type -/
def eqAt (E : Env) (P : Program) : Nat → TypeId → Value → Value → Option Bool
  | 0, _, _, _ => none
  | d + 1, t, x, y =>
    match isSym x || isSym y with
    | true => match E.und t with
      | some (.int _) => eqSym x y
      | _ => none
    | false =>
    match E.und t, x, y with
    | some .bool, .bool a, .bool b => some (a == b)
    | some (.int _), .int k a, .int k' b => if k = k' then some (a == b) else none
    | some .string, .string a, .string b => some (a == b)
    | some (.pointer _), .pointer none, .pointer b => some b.isNone
    | some (.pointer _), .pointer (some _), .pointer none => some false
    | some (.interface _), .nilIface, .iface _ _ => some false
    | some (.interface _), .iface _ _, .nilIface => some false
    | some (.interface _), .iface tx vx, .iface ty vy =>
      if tx = ty then (match E.ty.get tx with | some i => if i.comparable then eqAt E P d tx vx vy else none | none => none) else some false
    | some (.struct fs), .agg xs, .agg ys => if P.stoodInHeld t then none else
      fs.toList.foldr (fun f r => if f.name == "_" then r else
        (partOf E f.type xs.toList f.offset).bind fun a => (partOf E f.type ys.toList f.offset).bind fun b =>
        (eqAt E P d f.type a b).bind fun q => if q then r else some false) (some true)
    | some (.slice _), .slice none _ _, .slice b _ _ => some b.isNone
    | some (.slice _), .slice (some _) _ _, .slice none _ _ => some false
    | some (.map _ _), .map none, .map b => some b.isNone
    | some (.map _ _), .map (some _), .map none => some false
    | some (.func _ _ _), .nilFunc, .nilFunc => some true
    | some (.func _ _ _), .nilFunc, .func _ _ _ => some false
    | some (.func _ _ _), .func _ _ _, .nilFunc => some false
    | _, _, _ => none
def isConst : Operand → Bool
  | .const _ => true
  | _ => false
def aBin0 (E : Env) (P : Program) (op : BinOp) (t : TypeId) (cx cy : Bool) (x y : Value) : Option Value :=
  match x, y with
  | .int k a, .int k' b =>
    match op with
    | .shl => shiftBin .shl k a b
    | .shr => shiftBin .shr k a b
    | op => if k = k' then intBin op k a b else none
  | .string a, .string b => match op with
    | .eql => some (.bool (a.toList == b.toList))
    | .neq => some (.bool (!(a.toList == b.toList)))
    | _ => none
  | .nilIface, .nilIface => if cx || cy then match E.und t, op with
    | some (.interface _), .eql => some (.bool true)
    | some (.interface _), .neq => some (.bool false)
    | _, _ => none else none
  | .agg xs, .agg ys => if P.eqGuardType P.depth t then none else match op with
    | .eql => (eqAt E P 100 t (.agg xs) (.agg ys)).bind fun b => some (.bool b)
    | .neq => (eqAt E P 100 t (.agg xs) (.agg ys)).bind fun b => some (.bool (!b))
    | _ => none
  | x, y => match op with
    | .eql => (eqAt E P 100 t x y).bind fun b => some (.bool b)
    | .neq => (eqAt E P 100 t x y).bind fun b => some (.bool (!b))
    | _ => none
def aBin (E : Env) (P : Program) (op : BinOp) (t : TypeId) (cx cy : Bool) (x y : Value) : Option Value :=
  match isSym x || isSym y with
  | true => match Lin.of x, Lin.of y with
    | some (k, a), some (k', b) => symBin op k a k' b
    | _, _ => none
  | false => aBin0 E P op t cx cy x y
def aUn (op : UnOp) (x : Value) : Option Value :=
  match op, x with
  | .neg, .int k n => intBin .sub k 0 n
  | .xor, .int k n => intBin .xor k (if k.signed then -1 else k.max) n
  | .not, .bool b => some (.bool !b)
  | _, _ => none

def fillAt (places : Nat → Option (Nat × Nat)) (cells : List Value) : List (Nat × Value) → Option (List Value)
  | [] => some cells
  | (i, v) :: rest => (places i).bind fun p =>
    if v.cells.size = p.2 then (setAt p.1 v.cells.toList cells).bind fun c => fillAt places c rest else none
def reps (z : List Value) : Nat → List Value
  | 0 => []
  | n + 1 => z ++ reps z n
def fieldPlaces (E : Env) (fs : Array Field) (i : Nat) : Option (Nat × Nat) :=
  (fs[i]?).bind fun f => (E.size f.type).bind fun n => some (f.offset, n)

inductive ANext where
  | value (v : Value)
  | skip
  | enter (f : FuncId) (args : List Value)
  | panic (v : Value)

/-- append: the first is a slice, the second a slice's cells -/
def aAppend (E : Env) (hp : Hp) (nx : Nat) (st : TypeId) (s x : Value) : Option (Value × Eff) :=
  match E.und st, s, x with
  | some (.slice e), .slice base n C, .slice src m _ =>
    (E.ty.get e).bind fun i => let sz := i.size
    if m = 0 then some (.slice base n C, .none) else
    if sz = 0 ∨ (n + m) * i.bytes > 1000000000000 ∨ (E.zero e).isNone ∨ i.bytes = 0 then none else
    match src with
    | none => none
    | some sa => (hread hp sa (m * sz)).bind fun news => if ones news then
      match base with
      | none => if n = 0 ∧ C = 0 then some (.slice (some ⟨nx, 0, none⟩) m 0, .new (.cells news e true)) else none
      | some a =>
        match hp a.block with
        | some (.cells c e' true) => if e' = e then
          if C % 2 = 1 then
            if n + m ≤ C / 2 then (setAt (a.off + n * sz) news c).bind fun c' => some (.slice (some a) (n + m) C, .upd a.block (.cells c' e' true))
            else (takeN (n * sz) (dropN a.off c)).bind fun old => some (.slice (some ⟨nx, 0, none⟩) (n + m) 0, .new (.cells (old ++ news) e true))
          else
            if a.off = (C / 2) * sz ∧ n ≠ 0 then
              if a.off + (n + m) * sz ≤ c.length then (setAt (a.off + n * sz) news c).bind fun c' => some (.slice (some a) (n + m) C, .upd a.block (.cells c' e' true))
              else if a.off + n * sz = c.length then some (.slice (some ⟨nx, 0, none⟩) (n + m) 0, .move a.block (.cells (dropN a.off c ++ news) e true))
              else none
            else none
          else none
        | _ => none
      else none
  | _, _, _ => none

def num (d : Nat) : Option Value → Option Nat
  | none => some d
  | some (.int _ i) => if 0 ≤ i then some i.toNat else none
  | _ => none
def aSlice (E : Env) (t : TypeId) (x : Value) (lo hi mx : Option Value) : Option Value :=
  match E.und t, x with
  | some (.slice e), .slice a n C =>
    (E.size e).bind fun sz => (num 0 lo).bind fun l => (num n hi).bind fun h =>
    match a with
    | none => if l = 0 ∧ h = 0 ∧ mx.isNone ∧ n = 0 ∧ C = 0 then some (.slice none 0 0) else none
    | some a =>
      match mx with
      | some m => (num 0 (some m)).bind fun m =>
        if l ≤ h ∧ h ≤ m ∧ m ≤ (if C % 2 = 1 then C / 2 else n) ∧ hi.isSome then
          some (.slice (some (if m = l then a else ⟨a.block, a.off + l * sz, none⟩)) (h - l) (2 * (m - l) + 1)) else none
      | none =>
        if C % 2 = 1 then
          if l ≤ h ∧ h ≤ C / 2 then some (.slice (some (if C / 2 = l then a else ⟨a.block, a.off + l * sz, none⟩)) (h - l) (2 * (C / 2 - l) + 1)) else none
        else if l ≤ h ∧ h ≤ n ∧ l < n then some (.slice (some ⟨a.block, a.off + l * sz, none⟩) (h - l) (2 * (C / 2 + l))) else none
  | some (.array n e), .pointer (some a) =>
    (E.size e).bind fun sz => (num 0 lo).bind fun l => (num n hi).bind fun h =>
    if l ≤ h ∧ h ≤ n ∧ mx.isNone then some (.slice (some (if n = l then a else ⟨a.block, a.off + l * sz, none⟩)) (h - l) (2 * (n - l) + 1)) else none
  | some .string, .string s => (num 0 lo).bind fun l => (num s.size hi).bind fun h =>
    if l ≤ h ∧ h ≤ s.size ∧ mx.isNone then some (.string (s.extract l h)) else none
  | _, _ => none

def keyFlat : TypeDesc → Value → Bool
  | .int _, .int _ _ => true
  | .string, .string _ => true
  | _, _ => false
def findKey (d : TypeDesc) (k : Value) : List MapEntry → Nat → Option (Option (Nat × Value))
  | [], _ => some none
  | e :: es, i => match Instr.sameNow d k e.key with
    | some true => some (some (i, e.val))
    | some false => findKey d k es (i + 1)
    | none => none
def mapOf (hp : Hp) : Value → Option (List MapEntry)
  | .map none => some []
  | .map (some r) => match hp r with
    | some (.map es _) => some es
    | _ => none
  | _ => none

def aMethod (E : Env) (t : TypeId) (v : Value) (name : String) : Option (FuncId × Value) :=
  (E.ty.get t).bind fun i => (i.methods.find? (fun m => m.name == name)).bind fun m =>
  if m.path.isEmpty then
    match m.func with
    | some (f, ptr) => match E.und t, ptr with
      | some (.pointer _), true => some (f, v)
      | some (.pointer _), false => none
      | some _, false => some (f, v)
      | _, _ => none
    | none => none
  else none

def minI (xs : List Value) : Option Value :=
  match xs with
  | [.int k a, .int k' b] => if k = k' then some (.int k (if b < a then b else a)) else none
  | _ => none
def maxI (xs : List Value) : Option Value :=
  match xs with
  | [.int k a, .int k' b] => if k = k' then some (.int k (if a < b then b else a)) else none
  | _ => none

def aBuiltin (E : Env) (hp : Hp) (nx : Nat) (b : Builtin) (ts : Array TypeId) (args : List Value) : Option (Value × Eff) :=
  match b, args with
  | .len, [x] => (ts[0]?).bind fun t => match E.und t, x with
    | some (.slice _), .slice _ n _ => some (.int .i64 n, .none)
    | some .string, .string s => some (.int .i64 s.size, .none)
    | some (.map _ _), r => (mapOf hp r).bind fun es => some (.int .i64 es.length, .none)
    | some (.array n _), _ => some (.int .i64 n, .none)
    | _, _ => none
  | .append, [s, x] => match ts with
    | ⟨[t, t']⟩ => if t = t' then aAppend E hp nx t s x else none
    | _ => none
  | .min, xs => (minI xs).bind fun v => some (v, .none)
  | .max, xs => (maxI xs).bind fun v => some (v, .none)
  | .copy, [.slice d n _, .slice s m _] => (ts[0]?).bind fun t => match E.und t with
    | some (.slice e) => (E.size e).bind fun sz =>
      let k := Nat.min m n
      if k = 0 then some (.int .i64 0, .none) else
      match d, s with
      | some da, some sa => (hread hp sa (k * sz)).bind fun c => (hwrite hp da c).bind fun o => some (.int .i64 k, .upd da.block o)
      | _, _ => none
    | _ => none
  | .delete, [.map (some r), k] => (ts[0]?).bind fun t => match E.und t with
    | some (.map kt _) => (E.und kt).bind fun d => match hp r with
      | some (.map es c) => if keyFlat d k then (findKey d k es 0).bind fun
        | some (i, _) => some (.tuple #[], .upd r (.map (es.eraseIdx i) c))
        | none => some (.tuple #[], .upd r (.map es c))
        else none
      | _ => none
    | _ => none
  | _, _ => none

def aStoreMap (E : Env) (hp : Hp) (t : TypeId) (m k x : Value) : Option Eff :=
  match m, E.und t with
  | .map (some r), some (.map kt _) => (E.und kt).bind fun d => match hp r with
    | some (.map es c) => if keyFlat d k then (findKey d k es 0).bind fun
      | some (i, _) => some (.upd r (.map (es.modify i fun e => { e with key := k, val := x }) c))
      | none => some (.upd r (.map (es ++ [⟨k, x, c⟩]) (c + 1)))
      else none
    | _ => none
  | _, _ => none

def aAssert (E : Env) (x : Value) (t : TypeId) (ok : Bool) : Option Value :=
  match E.und t, x with
  | some (.interface want), .iface u w => (E.ty.get u).bind fun i =>
    match Instr.missingMethod want i.methods with
    | none => some (if ok then .tuple #[.iface u w, .bool true] else .iface u w)
    | some _ => if ok then (E.zero t).bind fun z => some (.tuple #[z, .bool false]) else none
  | some _, .nilIface => if ok then (E.zero t).bind fun z => some (.tuple #[z, .bool false]) else none
  | some _, .iface u w => if u = t then some (if ok then .tuple #[w, .bool true] else w) else if ok then (E.zero t).bind fun z => some (.tuple #[z, .bool false]) else none
  | _, _ => none

def convSym (E : Env) (s d : TypeId) (x : Value) : Option Value :=
  match E.und s, E.und d with
  | some _, some (.int k) => (Lin.of x).bind fun p => (wrapL k p.2).bind fun r => some (r.to k)
  | _, _ => none
def ptrTo (nx : Nat) : Value := .pointer (some ⟨nx, 0, none⟩)
def val (x : Option Value) : Option (ANext × Eff) := x.bind fun x => some (.value x, .none)

/-- maps.clone, which has no body of its own -/
def aClone (hp : Hp) (nx : Nat) (args : List Value) : Option (ANext × Eff) :=
  match args with
  | [.iface t (.map (some r))] => match hp r with
    | some (.map es c) => some (.value (.iface t (.map (some nx))), .new (.map es c))
    | _ => none
  | _ => none
def callTo (E : Env) (hp : Hp) (nx : Nat) (f : FuncId) (args : List Value) : Option (ANext × Eff) :=
  match E.fn.get f with
  | some g => match g.body with
    | some _ => some (.enter f args, .none)
    | none => if E.clone = some f then aClone hp nx args else none
  | none => none

def opA (E : Env) (P : Program) (tm : T) (hp : Hp) (nx : Nat) (o : Oper) : Option (ANext × Eff) :=
  match o.op with
  | .move x => val (ev tm x)
  | .assign x => val (ev tm x)
  | .pick c a b => (ev tm c).bind fun
    | .bool t => val (if t then ev tm a else ev tm b)
    | _ => none
  | .alloc e => (E.zero e).bind fun z => some (.value (ptrTo nx), .new (.cells z.cells.toList e true))
  | .box e x => (ev tm x).bind fun x => some (.value (ptrTo nx), .new (.cells x.cells.toList e true))
  | .build t ps => (evParts tm ps.toList).bind fun l => (E.zero t).bind fun z => match E.und t with
    | some (.struct fs) => (fillAt (fieldPlaces E fs) z.cells.toList l).bind fun c => some (.value (.agg ⟨c⟩), .none)
    | some (.array _ e) => (E.size e).bind fun n => (fillAt (fun i => some (i * n, n)) z.cells.toList l).bind fun c => some (.value (.agg ⟨c⟩), .none)
    | _ => none
  | .buildSlice t n ps => (evParts tm ps.toList).bind fun l => match E.und t with
    | some (.slice e) => (E.size e).bind fun sz => (E.zero e).bind fun z => if n * sz ≤ 16777216 then
      (fillAt (fun i => some (i * sz, sz)) (reps z.cells.toList n) l).bind fun c =>
      some (.value (.slice (some ⟨nx, 0, none⟩) n (2 * n + 1)), .new (.cells c e true)) else none
    | _ => none
  | .load t a => (ev tm a).bind fun
    | .pointer (some a) => (E.agg t).bind fun g => match g with
      | true => (E.size t).bind fun n => (hread hp a n).bind fun l => some (.value (.agg ⟨l⟩), .none)
      | false => (hread hp a 1).bind fun l => val l.head?
    | _ => none
  | .store t a x => (ev tm a).bind fun
    | .pointer (some a) => (ev tm x).bind fun x => (E.size t).bind fun n => if x.cells.size = n then
        (hwrite hp a x.cells.toList).bind fun o => some (.skip, .upd a.block o) else none
    | _ => none
  | .nilCheck x => (ev tm x).bind fun
    | .pointer (some a) => some (.value (.pointer (some a)), .none)
    | .iface t w => some (.value (.iface t w), .none)
    | .func (.func f) fi ca => some (.value (.func (.func f) fi ca), .none)
    | _ => none
  | .binOp op t x y _ => (ev tm x).bind fun vx => (ev tm y).bind fun vy => val (aBin E P op t (isConst x) (isConst y) vx vy)
  | .unOp op _ x => (ev tm x).bind fun x => val (aUn op x)
  | .convert s d x => (ev tm x).bind fun x => match isSym x with
    | true => (convSym E s d x).bind fun v => some (.value v, .none)
    | false => match E.und s, E.und d, x with
    | some _, some (.int k), .int _ n => some (.value (.int k (k.wrap n)), .none)
    | _, _, _ => none
  | .makeInterface t x => (ev tm x).bind fun x => match E.und t with
    | some (.interface _) => none
    | some _ => some (.value (.iface t x), .none)
    | none => none
  | .makeFunc f fi ca => match f with
    | .func f => (evs tm fi.toList).bind fun fi => (evs tm ca.toList).bind fun ca => some (.value (.func (.func f) ⟨fi⟩ ⟨ca⟩), .none)
    | _ => none
  | .makeMap t r => match r with
    | none => some (.value (.map (some nx)), .new (.map [] 0))
    | some r => (ev tm r).bind fun
      | .int _ _ => match E.und t with
        | some (.map _ _) => some (.value (.map (some nx)), .new (.map [] 0))
        | _ => none
      | _ => none
  | .makeSlice t l c => (ev tm l).bind fun l => (ev tm c).bind fun c => match E.und t, l, c with
    | some (.slice e), .int _ l, .int _ c => (E.ty.get e).bind fun i => (E.zero e).bind fun z =>
      if 0 ≤ l ∧ l ≤ c ∧ c ≤ 1000000 ∧ i.bytes ≤ 1000000 then
        some (.value (.slice (some ⟨nx, 0, none⟩) l.toNat (2 * c.toNat + 1)), .new (.cells (reps z.cells.toList c.toNat) e true)) else none
    | _, _, _ => none
  | .slice t x lo hi mx => (ev tm x).bind fun x => (evO tm lo).bind fun lo => (evO tm hi).bind fun hi => (evO tm mx).bind fun mx => val (aSlice E t x lo hi mx)
  | .fieldAddr t x f => (ev tm x).bind fun
    | .pointer (some a) => match E.und t with
      | some (.struct fs) => (fs[f]?).bind fun f => (E.size f.type).bind fun n => if n = 0 then none else some (.value (.pointer (some ⟨a.block, a.off + f.offset, none⟩)), .none)
      | _ => none
    | _ => none
  | .field t x f => (ev tm x).bind fun
    | .agg cs => match E.und t with
      | some (.struct fs) => (fs[f]?).bind fun f => val (partOf E f.type cs.toList f.offset)
      | _ => none
    | _ => none
  | .indexAddr t x i => (ev tm x).bind fun x => (ev tm i).bind fun i => match E.und t, x, i with
    | some (.slice e), .slice (some a) n _, .int _ i => (E.size e).bind fun sz =>
      if 0 ≤ i ∧ i < n then some (.value (.pointer (some ⟨a.block, a.off + i.toNat * sz, none⟩)), .none) else none
    | some (.array n e), .pointer (some a), .int _ i => (E.size e).bind fun sz =>
      if 0 ≤ i ∧ i < n then some (.value (.pointer (some ⟨a.block, a.off + i.toNat * sz, none⟩)), .none) else none
    | _, _, _ => none
  | .index t x i => (ev tm x).bind fun x => (ev tm i).bind fun i => match E.und t, x, i with
    | some (.array n e), .agg cs, .int _ i => (E.size e).bind fun sz =>
      if 0 ≤ i ∧ i < n then val (partOf E e cs.toList (i.toNat * sz)) else none
    | some .string, .string s, .int _ i => if 0 ≤ i then (s[i.toNat]?).bind fun b => some (.value (.int .u8 b.toNat), .none) else none
    | _, _, _ => none
  | .lookup t m k ok => (ev tm m).bind fun m => (ev tm k).bind fun k => match E.und t with
    | some (.map kt e) => (E.und kt).bind fun d => if keyFlat d k then (mapOf hp m).bind fun es => (findKey d k es 0).bind fun
      | some (_, x) => some (.value (if ok then .tuple #[x, .bool true] else x), .none)
      | none => (E.zero e).bind fun z => some (.value (if ok then .tuple #[z, .bool false] else z), .none)
      else none
    | _ => none
  | .insert t m k x => (ev tm m).bind fun m => (ev tm k).bind fun k => (ev tm x).bind fun x => (aStoreMap E hp t m k x).bind fun e => some (.skip, e)
  | .mapUpdate t m k x => (ev tm m).bind fun m => (ev tm k).bind fun k => (ev tm x).bind fun x => (aStoreMap E hp t m k x).bind fun e => some (.skip, e)
  | .typeAssert x _ t ok => (ev tm x).bind fun x => val (aAssert E x t ok)
  | .extract t i => (ev tm t).bind fun
    | .tuple vs => val (vs[i]?)
    | _ => none
  | .call c => (evs tm c.args.toList).bind fun args => match c.callee with
    | .builtin b => (aBuiltin E hp nx b c.argTypes args).bind fun xe => some (.value xe.1, xe.2)
    | .value f => (ev tm f).bind fun
      | .func (.func f) ⟨fi⟩ ⟨ca⟩ => callTo E hp nx f (fi ++ args ++ ca)
      | _ => none
    | .invoke r name => (ev tm r).bind fun
      | .iface t w => (aMethod E t w name).bind fun fw => callTo E hp nx fw.1 (fw.2 :: args)
      | _ => none
  | .panic x => (ev tm x).bind fun x => match x with
    | .iface _ _ => some (.panic x, .none)
    | _ => none
  | _ => none
end Go.Sx
