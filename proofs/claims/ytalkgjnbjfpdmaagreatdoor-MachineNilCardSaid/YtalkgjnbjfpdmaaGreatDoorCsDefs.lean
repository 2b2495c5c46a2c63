/- A deterministic evaluator over the model's code: definitions only. -/
import Derived.Orders
set_option linter.unusedVariables false
set_option linter.unusedSimpArgs false
set_option linter.unusedSectionVars false
set_option linter.deprecated false

namespace Go.CS

inductive Tr (α : Type) where
  | e : Tr α
  | n (v : Option α) (l r : Tr α) : Tr α

namespace Tr
variable {α : Type}
def get : Tr α → Nat → Option α
  | .e, _ => none
  | .n v l r, k => match k with
    | 0 => v
    | k + 1 => bif Nat.beq (k % 2) 0 then l.get (k / 2) else r.get (k / 2)

def setF (v : Option α) : Nat → Nat → Tr α → Tr α
  | 0, _, t => t
  | f + 1, k, t =>
    match t with
    | .e => match k with
      | 0 => .n v .e .e
      | k + 1 => bif Nat.beq (k % 2) 0 then .n none (setF v f (k / 2) .e) .e else .n none .e (setF v f (k / 2) .e)
    | .n u l r => match k with
      | 0 => .n v l r
      | k + 1 => bif Nat.beq (k % 2) 0 then .n u (setF v f (k / 2) l) r else .n u l (setF v f (k / 2) r)
def set (t : Tr α) (k : Nat) (v : Option α) : Tr α := setF v (k + 1) k t

def ofListFrom : Nat → List α → Tr α → Tr α
  | _, [], t => t
  | i, v :: l, t => ofListFrom (i + 1) l (t.set i (some v))
def ofList (l : List α) : Tr α := ofListFrom 0 l .e
end Tr

/-- The cap of a slice whose row may have more room than is known. -/
def OPEN : Nat := 4611686018427387904

inductive CObj where
  /-- st: 0 plain, 1 a mark behind its end, 2 may not be written -/
  | row (cells : Tr Value) (size : Nat) (elem : TypeId) (opn : Bool) (st : Nat)
  | map (es : Array MapEntry) (clock : Nat)
  | siter (s : ByteArray) (pos : Nat)
  | miter (m : Option Nat) (since : Nat) (seen : List Nat) (last : Nat)

structure CT where
  u : TypeDesc
  size : Nat
  bytes : Nat
  zero : Option Value

/-- one step of a drawn region: the operation, those that are looked at once more behind it, new blocks that it does not see -/
structure PE where
  i : Nat
  re : List Nat
  hide : List Nat

/-- a drawn region's order -/
abbrev Plan := List PE

structure CF where
  code : Code
  ntmps : Nat
  results : List ResultVar
  plans : Tr Plan

structure H where
  objs : Tr CObj
  nx : Nat

structure St where
  t : Tr Value
  h : H
  ds : List Deferred

inductive Ex where
  | normal
  | exit (id : Nat)
  | goto (l : Nat)
  | ret

structure Env where
  P : Program
  T : Tr CT
  F : Tr CF
  glob : Nat → Bool

def allB {α : Type} (p : α → Bool) : List α → Bool
  | [] => true
  | a :: l => bif p a then allB p l else false

/-- a value that names no memory -/
def closed : Nat → Value → Bool
  | 0, _ => false
  | n + 1, v => match v with
    | .bool _ | .int _ _ | .string _ | .pointer none | .map none | .nilFunc | .nilIface | .float _ _ => true
    | .slice none l c => Nat.beq l 0 && Nat.beq c 0
    | .agg cs => allB (closed n) cs.toList
    | .tuple cs => allB (closed n) cs.toList
    | .iface _ v => closed n v
    | .func (.func _) first captured => allB (closed n) first.toList && allB (closed n) captured.toList
    | _ => false

def ev (E : Env) (t : Tr Value) : Operand → Option Value
  | .tmp i => match t.get i with
    | some v => some v
    | none => some undef
  | .const v => bif closed 4 v then some v else none
  | .func f => some (.func (.func f) #[] #[])
  | .global g => bif E.glob g then some (.pointer (some ⟨g, 0, none⟩)) else none

def evs (E : Env) (t : Tr Value) : List Operand → Option (List Value)
  | [] => some []
  | x :: l => match ev E t x with
    | none => none
    | some v => match evs E t l with
      | none => none
      | some vs => some (v :: vs)

def readCells (c : Tr Value) : (off n : Nat) → Option (List Value)
  | _, 0 => some []
  | off, n + 1 => match c.get off with
    | none => none
    | some v => match readCells c (off + 1) n with
      | none => none
      | some vs => some (v :: vs)

def writeCells (c : Tr Value) : (off : Nat) → List Value → Tr Value
  | _, [] => c
  | off, v :: l => writeCells (c.set off (some v)) (off + 1) l

def oneCell : Value → Bool
  | .agg _ | .tuple _ => false
  | _ => true

def isAggD : TypeDesc → Bool
  | .struct _ | .array _ _ => true
  | _ => false

def loadCells (h : H) (a : Addr) (n : Nat) : Option (List Value) :=
  match a.spot, h.objs.get a.block with
  | none, some (.row c size _ _ _) => bif Nat.ble (a.off + n) size then readCells c a.off n else none
  | _, _ => none

def storeCells (h : H) (a : Addr) (vs : List Value) : Option H :=
  match a.spot, h.objs.get a.block with
  | none, some (.row c size elem opn st) =>
    bif Nat.ble (a.off + vs.length) size && Nat.ble st 1 && allB oneCell vs then
      some ⟨h.objs.set a.block (some (.row (writeCells c a.off vs) size elem opn st)), h.nx⟩
    else none
  | _, _ => none

def loadVar (E : Env) (h : H) (t : TypeId) (a : Addr) : Option Value :=
  match E.T.get t with
  | none => none
  | some ct =>
    bif isAggD ct.u then
      match loadCells h a ct.size with
      | none => none
      | some l => some (.agg l.toArray)
    else match loadCells h a 1 with
      | some [v] => some v
      | _ => none

def storeVar (E : Env) (h : H) (t : TypeId) (a : Addr) (v : Value) : Option H :=
  match E.T.get t with
  | none => none
  | some ct => bif Nat.beq v.cells.size ct.size then storeCells h a v.cells.toList else none

def intCmp (op : BinOp) (x y : Int) : Option Bool :=
  match op with
  | .eql => some (x == y)
  | .neq => some (!(x == y))
  | .lss => some (x < y)
  | .leq => some (x ≤ y)
  | .gtr => some (y < x)
  | .geq => some (y ≤ x)
  | _ => none

def bytesEq : List UInt8 → List UInt8 → Bool
  | [], [] => true
  | a :: x, b :: y => bif Nat.beq a.toNat b.toNat then bytesEq x y else false
  | _, _ => false
def bytesLt : List UInt8 → List UInt8 → Bool
  | _, [] => false
  | [], _ :: _ => true
  | a :: x, b :: y => bif Nat.blt a.toNat b.toNat then true else bif Nat.beq a.toNat b.toNat then bytesLt x y else false

def strOp (op : BinOp) (x y : ByteArray) : Option Value :=
  let a := x.data.toList
  let b := y.data.toList
  match op with
  | .add => bif Nat.ble (a.length + b.length) 9223372036854775807 then some (.string ⟨⟨a ++ b⟩⟩) else none
  | .eql => some (.bool (bytesEq a b))
  | .neq => some (.bool (!(bytesEq a b)))
  | .lss => some (.bool (bytesLt a b))
  | .leq => some (.bool (bytesLt a b || bytesEq a b))
  | .gtr => some (.bool (!(bytesLt a b || bytesEq a b)))
  | .geq => some (.bool (!(bytesLt a b)))
  | _ => none

/-- run what touches no memory -/
def pureRun {α : Type} (P : Program) : Sem α → Option α
  | .pure a => some a
  | .program k => pureRun P (k P)
  | _ => none

def sameKind (a b : IntKind) : Bool := decide (a = b)

def eqNil : Value → Value → Option Bool
  | .pointer none, .pointer b => some b.isNone
  | .pointer (some _), .pointer none => some false
  | .slice none _ _, .slice b _ _ => some b.isNone
  | .slice (some _) _ _, .slice none _ _ => some false
  | .map none, .map b => some b.isNone
  | .map (some _), .map none => some false
  | .nilFunc, .nilFunc => some true
  | .nilFunc, .func _ _ _ => some false
  | .func _ _ _, .nilFunc => some false
  | .bool a, .bool b => some (a == b)
  | _, _ => none

def eqKindD : TypeDesc → Value → Value → Bool
  | .pointer _, .pointer _, .pointer _ => true
  | .slice _, .slice _ _ _, .slice _ _ _ => true
  | .map _ _, .map _, .map _ => true
  | .func _ _ _, .nilFunc, .nilFunc => true
  | .func _ _ _, .func _ _ _, .nilFunc => true
  | .func _ _ _, .nilFunc, .func _ _ _ => true
  | .bool, .bool _, .bool _ => true
  | _, _, _ => false

/-- two addresses of plain rows -/
def samePlain (h : H) (a b : Addr) : Option Bool :=
  match a.spot, b.spot, h.objs.get a.block, h.objs.get b.block with
  | none, none, some (.row _ _ _ _ 0), some (.row _ _ _ _ 0) => some (Nat.beq a.block b.block && Nat.beq a.off b.off)
  | _, _, _, _ => none

def binop (E : Env) (h : H) (op : BinOp) (t : TypeId) (ox oy : Operand) (x y : Value) : Option Value :=
  match x, y with
  | .int k a, .int k' b =>
    match op with
    | .add => bif sameKind k k' then some (.int k (k.wrap (a + b))) else none
    | .sub => bif sameKind k k' then some (.int k (k.wrap (a - b))) else none
    | .mul => bif sameKind k k' then some (.int k (k.wrap (a * b))) else none
    | .quo => bif sameKind k k' && !(b == 0) then some (.int k (k.wrap (a.tdiv b))) else none
    | .rem => bif sameKind k k' && !(b == 0) then some (.int k (a.tmod b)) else none
    | .shl | .shr | .and | .or | .xor | .andNot => match pureRun E.P (Go.binOp op t x y) with
      | some (.int k n) => some (.int k n)
      | _ => none
    | _ => bif sameKind k k' then (match intCmp op a b with | some r => some (.bool r) | none => none) else none
  | .string a, .string b => strOp op a b
  | .pointer (some a), .pointer (some b) =>
    match op, E.T.get t with
    | .eql, some ct => (match ct.u with
      | .pointer e => (match E.T.get e with
        | some ce => bif Nat.beq ce.size 0 then none else (match samePlain h a b with | some r => some (.bool r) | none => none)
        | none => none)
      | _ => none)
    | .neq, some ct => (match ct.u with
      | .pointer e => (match E.T.get e with
        | some ce => bif Nat.beq ce.size 0 then none else (match samePlain h a b with | some r => some (.bool (!r)) | none => none)
        | none => none)
      | _ => none)
    | _, _ => none
  | .agg _, .agg _ =>
    bif closed 4 x && closed 4 y then
      match pureRun E.P (do eqGuard op t ox oy x y; Go.binOp op t x y) with
      | some (.bool b) => some (.bool b)
      | _ => none
    else none
  | x, y =>
    match op, E.T.get t with
    | .eql, some ct => bif eqKindD ct.u x y then (match eqNil x y with | some r => some (.bool r) | none => none) else none
    | .neq, some ct => bif eqKindD ct.u x y then (match eqNil x y with | some r => some (.bool (!r)) | none => none) else none
    | _, _ => none

def toNat? : Value → Option Nat
  | .int _ (.ofNat n) => some n
  | _ => none

def bytesVals : List UInt8 → List Value
  | [] => []
  | b :: l => .int .u8 (.ofNat b.toNat) :: bytesVals l

def valsBytes : List Value → Option (List UInt8)
  | [] => some []
  | .int .u8 n :: l => match valsBytes l with
    | some bs => some (UInt8.ofNat n.toNat :: bs)
    | none => none
  | _ => none

def partV (E : Env) (t : TypeId) (cs : List Value) (off : Nat) : Option Value :=
  match E.T.get t with
  | none => none
  | some ct => bif isAggD ct.u then some (.agg ((cs.drop off).take ct.size).toArray) else cs[off]?

def repeatL {α : Type} (l : List α) : Nat → List α
  | 0 => []
  | n + 1 => l ++ repeatL l n

def natOpt (dflt y : Nat) : Option Value → Option Nat
  | none => some dflt
  | some v => match toNat? v with
    | some n => bif Nat.ble n y then some n else none
    | none => none

/-- bounds of x[lo:hi:mx]; room: how much there is at the least; the last: none where mx is not given -/
def bnds (len room : Nat) (lo hi mx : Option Value) : Option (Nat × Nat × Option Nat) :=
  match mx, hi with
  | some _, none => none
  | some _, some _ => (match natOpt 0 room mx with
    | some m => (match natOpt 0 m hi with
      | some h => (match natOpt 0 h lo with
        | some l => some (l, h, some m)
        | none => none)
      | none => none)
    | none => none)
  | none, _ => (match natOpt len room hi with
    | some h => bif Nat.ble h room then
        (match natOpt 0 h lo with
        | some l => some (l, h, none)
        | none => none) else none
    | none => none)

def optEv (E : Env) (s : Tr Value) : Option Operand → Option (Option Value)
  | none => some none
  | some x => match ev E s x with
    | some v => some (some v)
    | none => none

def addA (a : Addr) (n : Nat) : Addr := ⟨a.block, a.off + n, none⟩

def cutAddr (a : Addr) (m l es : Nat) : Addr := bif Nat.beq m l then a else addA a (l * es)

/-- a part of a slice whose capacity is known -/
def mkPart (a : Addr) (l hh m es : Nat) : Option Value :=
  bif Nat.blt (m - l) OPEN then some (.slice (some (cutAddr a m l es)) (hh - l) (m - l)) else none

def sliceOp (E : Env) (h : H) (t : TypeId) (x : Value) (lo hi mx : Option Value) : Option Value :=
  match E.T.get t with
  | none => none
  | some ct =>
  match ct.u, x with
  | .string, .string s => match mx with
    | some _ => none
    | none => match bnds s.data.toList.length s.data.toList.length lo hi none with
      | some (l, h, _) => some (.string ⟨⟨(s.data.toList.drop l).take (h - l)⟩⟩)
      | none => none
  | .slice e, .slice (some a) len cap =>
    match E.T.get e with
    | some ce =>
      bif Nat.beq cap OPEN then
        match h.objs.get a.block with
        | some (.row _ size elem opn _) =>
          bif Nat.beq ce.size 0 || !(Nat.beq elem e) || !opn then none else
          (match bnds len ((size - a.off) / ce.size) lo hi mx with
          | some (l, hh, some m) => mkPart a l hh m ce.size
          | some (l, hh, none) => some (.slice (some (addA a (l * ce.size))) (hh - l) OPEN)
          | none => none)
        | _ => none
      else
        (match bnds len cap lo hi mx with
        | some (l, hh, m) => mkPart a l hh (m.getD cap) ce.size
        | none => none)
    | none => none
  | .slice e, .slice none len cap =>
    match E.T.get e, bnds len cap lo hi mx with
    | some _, some (l, hh, m) => some (.slice none (hh - l) (m.getD cap - l))
    | _, _ => none
  | .array n e, .pointer (some a) =>
    match E.T.get e, a.spot with
    | some ce, none =>
      (match bnds n n lo hi mx with
      | some (l, hh, m) => mkPart a l hh (m.getD n) ce.size
      | none => none)
    | _, _ => none
  | _, _ => none

/-- the cells that an append adds, and how many elements -/
def appended (h : H) (es : Nat) : Value → Option (Nat × List Value)
  | .string s => bif Nat.beq es 1 then some (s.data.toList.length, bytesVals s.data.toList) else none
  | .slice none _ _ => some (0, [])
  | .slice (some a) n _ => match loadCells h a (n * es) with
    | some l => some (n, l)
    | none => none
  | _ => none

def MAXAPP : Nat := 1048576

/-- the new row behind an append that may have grown -/
def grownRow (ce : CT) (e : TypeId) (cells : List Value) (stt : Nat) : Option CObj :=
  match ce.zero with
  | some z => bif Nat.beq z.cells.toList.length ce.size && allB oneCell z.cells.toList && allB oneCell cells then some (.row (Tr.ofList cells) cells.length e true stt) else none
  | none => none

/-- what an append does with an open slice at the row's end, or with one that is full -/
def growTo (h : H) (objs : Tr CObj) (ce : CT) (e : TypeId) (cells : List Value) (need stt : Nat) : Option (Value × H) :=
  match grownRow ce e cells stt with
  | some r => some (.slice (some ⟨h.nx, 0, none⟩) need OPEN, ⟨objs.set h.nx (some r), h.nx + 1⟩)
  | none => none

def appendTo (h : H) (ce : CT) (e : TypeId) (base : Option Addr) (len cap n : Nat) (new : List Value) : Option (Value × H) :=
  match base with
  | none =>
    bif Nat.beq (len + n) 0 then some (.slice none 0 0, h) else growTo h h.objs ce e new (len + n) 0
  | some a =>
    match h.objs.get a.block with
    | some (.row _ size elem opn stt) =>
      bif Nat.beq cap OPEN then
        bif !(Nat.beq elem e) || !opn then none else
        bif Nat.ble (a.off + (len + n) * ce.size) size then
          (match storeCells h (addA a (len * ce.size)) new with
          | some h' => some (.slice (some a) (len + n) OPEN, h')
          | none => none)
        else bif Nat.ble stt 1 && Nat.blt 0 (len + n) then
          (match loadCells h a (len * ce.size) with
          | none => none
          | some old => growTo h (h.objs.set a.block none) ce e (old ++ new) (len + n) stt)
        else none
      else
        bif Nat.ble (len + n) cap then
          (match storeCells h (addA a (len * ce.size)) new with
          | some h' => some (.slice (some a) (len + n) cap, h')
          | none => none)
        else
          (match loadCells h a (len * ce.size) with
          | none => none
          | some old => growTo h h.objs ce e (old ++ new) (len + n) 0)
    | _ => none

def appOk (ce cx : CT) : Bool :=
  !(Nat.beq ce.size 0) && Nat.ble ce.bytes MAXAPP && (match cx.u with | .int _ => false | _ => true) && ce.zero.isSome

def appendOp (E : Env) (h : H) (argTypes : List TypeId) (args : List Value) : Option (Value × H) :=
  match argTypes, args with
  | [st, xt], [.slice base len cap, x] =>
    match E.T.get st, E.T.get xt with
    | some cs, some cx =>
    (match cs.u with
    | .slice e =>
      match E.T.get e with
      | some ce =>
        match appOk ce cx, appended h ce.size x with
        | true, some (n, new) => bif Nat.blt MAXAPP (len + n) then none else appendTo h ce e base len cap n new
        | _, _ => none
      | none => none
    | _ => none)
    | _, _ => none
  | _, _ => none

def lenC : Value → Option Nat
  | .slice _ n _ => some n
  | .string s => some s.data.toList.length
  | _ => none

def srcCells (h : H) (es n : Nat) : Value → Option (List Value)
  | .slice (some a) _ _ => loadCells h a (n * es)
  | .slice none _ _ => some []
  | .string s => some (bytesVals (s.data.toList.take n))
  | _ => none

def copyTo (h : H) (a : Option Addr) (n : Nat) (cells : List Value) : Option (Value × H) :=
  bif Nat.beq n 0 then some (.int .i64 (.ofNat n), h) else
  match a with
  | some a => (match storeCells h a cells with
    | some h' => some (.int .i64 (.ofNat n), h')
    | none => none)
  | none => none

def copyOp (E : Env) (h : H) (argTypes : List TypeId) (args : List Value) : Option (Value × H) :=
  match argTypes, args with
  | dt :: _, [.slice base dLen _, src] =>
    match E.T.get dt with
    | some cd => (match cd.u with
      | .slice e => (match E.T.get e, lenC src with
        | some ce, some m => (match srcCells h ce.size (Nat.min m dLen) src with
          | some cells => copyTo h base (Nat.min m dLen) cells
          | none => none)
        | _, _ => none)
      | _ => none)
    | none => none
  | _, _ => none

def lenOp (E : Env) (h : H) (t : TypeId) (x : Value) : Option Value :=
  match E.T.get t with
  | none => none
  | some ct => match ct.u, x with
    | .string, .string s => some (.int .i64 (.ofNat s.data.toList.length))
    | .array n _, _ => some (.int .i64 (.ofNat n))
    | .slice _, .slice _ n _ => some (.int .i64 (.ofNat n))
    | .map _ _, .map none => some (.int .i64 0)
    | .map _ _, .map (some r) => match h.objs.get r with
      | some (.map es _) => some (.int .i64 (.ofNat es.toList.length))
      | _ => none
    | .pointer a, _ => match E.T.get a with
      | some ca => (match ca.u with | .array n _ => some (.int .i64 (.ofNat n)) | _ => none)
      | none => none
    | _, _ => none

def keysClosed : List MapEntry → Bool
  | [] => true
  | e :: l => bif closed 4 e.key then keysClosed l else false

def findKey (E : Env) (kt : TypeId) (k : Value) (es : Array MapEntry) (empty : Bool) : Option (Option (Nat × Value)) :=
  bif closed 4 k && keysClosed es.toList then
    match pureRun E.P (do Instr.checkKey empty 10000 kt k; Instr.findKey kt k es.toList) with
    | some r => some (match r with | some (i, _) => (match es.toList[i]? with | some e => some (i, e.val) | none => none) | none => none)
    | none => none
  else none

def lookupOp (E : Env) (h : H) (t : TypeId) (m k : Value) (commaOk : Bool) : Option Value :=
  match E.T.get t with
  | some ct => (match ct.u with
    | .map kt et => (match E.T.get et with
      | some ce =>
        (match (match m with
          | .map none => some #[]
          | .map (some r) => (match h.objs.get r with | some (.map es _) => some es | _ => none)
          | _ => none : Option (Array MapEntry)) with
        | some es => (match findKey E kt k es es.toList.isEmpty with
          | some (some (_, v)) => some (bif commaOk then .tuple #[v, .bool true] else v)
          | some none => (match ce.zero with
            | some z => some (bif commaOk then .tuple #[z, .bool false] else z)
            | none => none)
          | none => none)
        | none => none)
      | none => none)
    | _ => none)
  | none => none

def setEntry (es : Array MapEntry) (i : Nat) (k v : Value) : Array MapEntry :=
  ⟨es.toList.modify i (fun e => { e with key := k, val := v })⟩

def updateOp (E : Env) (h : H) (t : TypeId) (m k v : Value) : Option H :=
  match E.T.get t, m with
  | some ct, .map (some r) => (match ct.u, h.objs.get r with
    | .map kt _, some (.map es clock) => (match findKey E kt k es false with
      | some (some (i, _)) => (match es.toList[i]? with
        | some e => bif Instr.sameBits 10000 e.key k then some ⟨h.objs.set r (some (.map (setEntry es i k v) clock)), h.nx⟩ else none
        | none => none)
      | some none => some ⟨h.objs.set r (some (.map ⟨es.toList ++ [{ key := k, val := v, born := clock }]⟩ (clock + 1))), h.nx⟩
      | none => none)
    | _, _ => none)
  | _, _ => none

def deleteOp (E : Env) (h : H) (t : TypeId) (m k : Value) : Option H :=
  match E.T.get t, m with
  | some ct, .map (some r) => (match ct.u, h.objs.get r with
    | .map kt _, some (.map es clock) => (match findKey E kt k es es.toList.isEmpty with
      | some (some (i, _)) => some ⟨h.objs.set r (some (.map ⟨es.toList.eraseIdx i⟩ clock)), h.nx⟩
      | some none => some ⟨h.objs.set r (some (.map es clock)), h.nx⟩
      | none => none)
    | _, _ => none)
  | _, _ => none

def convOp (E : Env) (h : H) (src dst : TypeId) (x : Value) : Option Value :=
  match E.T.get src, E.T.get dst with
  | some cs, some cd => match cs.u, cd.u, x with
    | .pointer t, .unsafePointer, .pointer (some a) => (match a.spot, h.objs.get a.block, E.T.get t with
      | none, some (.row _ size _ _ _), some ct => bif Nat.blt a.off size && !(Nat.beq ct.size 0) then some x else none
      | _, _, _ => none)
    | .unsafePointer, .pointer u, .pointer (some ⟨b, 0, none⟩) => (match h.objs.get b, E.T.get u with
      | some (.row _ size e false _), some ct => bif Nat.beq e u && Nat.beq ct.size size && !(Nat.beq ct.size 0) then some x else none
      | _, _ => none)
    | .int _, .int k, .int _ n => some (.int k (k.wrap n))
    | .string, .string, .string s => some (.string s)
    | .int _, .string, .int _ n => some (.string (Utf8.encode n))
    | .slice e, .string, .slice none _ _ => (match E.T.get e with
      | some ce => (match ce.u with | .int .u8 => some (.string ⟨⟨[]⟩⟩) | _ => none)
      | none => none)
    | .slice e, .string, .slice (some a) len _ => (match E.T.get e, loadCells h a len with
      | some ce, some l => (match ce.u, valsBytes l with
        | .int .u8, some bs => some (.string ⟨⟨bs⟩⟩)
        | _, _ => none)
      | _, _ => none)
    | _, _, _ => none
  | _, _ => none

def resolveCall (E : Env) (s : Tr Value) (c : Call) : Option (FuncId × Array Value) :=
  match c.callee with
  | .value f => match ev E s f, evs E s c.args.toList with
    | some (.func (.func g) first captured), some args => some (g, ⟨first.toList ++ args ++ captured.toList⟩)
    | _, _ => none
  | _ => none

def quietBuiltin (E : Env) (h : H) (b : Builtin) (argTypes : List TypeId) (type : TypeId) (args : List Value) : Option Value :=
  match b with
  | .len => match argTypes, args with
    | t :: _, x :: _ => lenOp E h t x
    | _, _ => none
  | .cap => match argTypes, args with
    | t :: _, [.slice _ _ c] => (match E.T.get t with
      | some ct => (match ct.u with
        | .slice _ => bif Nat.beq c OPEN then none else some (.int .i64 (.ofNat c))
        | _ => none)
      | none => none)
    | _, _ => none
  | .min => bif allB (closed 1) args then (match pureRun E.P (Builtin.min_ ⟨argTypes⟩ type ⟨args⟩) with | some v => bif closed 1 v then some v else none | none => none) else none
  | .max => bif allB (closed 1) args then (match pureRun E.P (Builtin.max_ ⟨argTypes⟩ type ⟨args⟩) with | some v => bif closed 1 v then some v else none | none => none) else none
  | _ => none

def freezeOp (E : Env) (h : H) (argTypes : List TypeId) (args : List Value) : Option (Value × H) :=
  match argTypes, args with
  | pt :: _, [.pointer (some a), .int _ (.ofNat n)] => bif Nat.beq n 0 then some (.string ⟨⟨[]⟩⟩, h) else
    (match E.T.get pt, a.spot, h.objs.get a.block with
    | some cp, none, some (.row c size e opn _) => (match cp.u, E.T.get e, loadCells h a n with
      | .pointer e', some ce, some l => bif Nat.beq e e' && Nat.beq ce.size 1 && Nat.ble n MAXAPP then
        (match valsBytes l with
        | some bs => some (.string ⟨⟨bs⟩⟩, ⟨h.objs.set a.block (some (.row c size e opn 2)), h.nx⟩)
        | none => none) else none
      | _, _, _ => none)
    | _, _, _ => none)
  | _ :: _, [.pointer none, .int _ (.ofNat n)] => bif Nat.beq n 0 then some (.string ⟨⟨[]⟩⟩, h) else none
  | _, _ => none

def writeBuiltin (E : Env) (h : H) (b : Builtin) (argTypes : List TypeId) (args : List Value) : Option (Value × H) :=
  match b with
  | .append => appendOp E h argTypes args
  | .copy => copyOp E h argTypes args
  | .delete => match argTypes, args with
    | t :: _, [m, k] => (match deleteOp E h t m k with | some h' => some (.tuple #[], h') | none => none)
    | _, _ => none
  | .unsafeSliceData => match args with
    | [.slice (some a) len cap] => bif Nat.beq len 0 || Nat.beq cap 0 then none else some (.pointer (some a), h)
    | [.slice none _ _] => some (.pointer none, h)
    | _ => none
  | .unsafeString => freezeOp E h argTypes args
  | _ => none

def pairs (E : Env) (s : Tr Value) : List (Nat × Operand) → Option (List (Nat × Value))
  | [] => some []
  | (i, x) :: l => match ev E s x with
    | none => none
    | some v => match pairs E s l with
      | none => none
      | some vs => some ((i, v) :: vs)

def places (E : Env) : List Field → Option (List (Nat × Nat))
  | [] => some []
  | f :: l => match E.T.get f.type with
    | none => none
    | some ct => match places E l with
      | none => none
      | some ps => some ((f.offset, ct.size) :: ps)

def putAt : List Value → Nat → List Value → List Value
  | cs, _, [] => cs
  | [], _, _ => []
  | _ :: cs, 0, v :: vs => v :: putAt cs 0 vs
  | c :: cs, n + 1, vs => c :: putAt cs n vs

def fill (place : Nat → Option (Nat × Nat)) (cells : List Value) : List (Nat × Value) → Option (List Value)
  | [] => some cells
  | (i, v) :: rest =>
    match place i with
    | none => none
    | some (off, size) =>
      bif Nat.beq v.cells.toList.length size && Nat.ble (off + size) cells.length then fill place (putAt cells off v.cells.toList) rest else none

/-- what an operation does -/
inductive Kind where
  | quiet | alloc | write | call | dfr

def kindOf (E : Env) (o : Oper) : Kind :=
  match o.op with
  | .move _ | .assign _ | .pick _ _ _ | .build _ _ | .load _ _ | .nilCheck _ | .binOp _ _ _ _ _ | .unOp _ _ _ | .makeInterface _ _
  | .makeFunc _ _ _ | .slice _ _ _ _ _ | .fieldAddr _ _ _ | .field _ _ _ | .indexAddr _ _ _ | .index _ _ _ | .lookup _ _ _ _ | .extract _ _ => .quiet
  | .convert src dst _ => match E.T.get src, E.T.get dst with
    | some cs, some cd => (match cs.u, cd.u with
      | .string, .slice _ => .alloc
      | _, _ => .quiet)
    | _, _ => .quiet
  | .alloc _ | .box _ _ | .buildSlice _ _ _ | .makeSlice _ _ _ | .makeMap _ _ => .alloc
  | .call c => match c.callee with
    | .builtin b => (match b with
      | .len | .cap | .min | .max => .quiet
      | _ => .write)
    | _ => .call
  | .defer _ => .dfr
  | _ => .write

/-- does a quiet operation not look into memory at all? -/
def hfree (E : Env) (o : Oper) : Bool :=
  match o.op with
  | .move _ | .assign _ | .pick _ _ _ | .build _ _ | .nilCheck _ | .unOp _ _ _ | .makeInterface _ _
  | .makeFunc _ _ _ | .fieldAddr _ _ _ | .field _ _ _ | .indexAddr _ _ _ | .index _ _ _ | .extract _ _ => true
  | .binOp _ t _ _ _ => match E.T.get t with
    | some ct => (match ct.u with | .pointer _ => false | _ => true)
    | none => true
  | _ => false

/-- operations that leave memory alone -/
def qop (E : Env) (s : Tr Value) (h : H) (o : Oper) : Option Value :=
  match o.op with
  | .move x | .assign x => ev E s x
  | .pick c a b => match ev E s c with
    | some (.bool true) => ev E s a
    | some (.bool false) => ev E s b
    | _ => none
  | .build t parts => match E.T.get t, pairs E s parts.toList with
    | some ct, some ps => (match ct.zero with
      | some z => (match ct.u with
        | .struct fields => (match places E fields.toList with
          | some pl => (match fill (pl[·]?) z.cells.toList ps with | some l => some (.agg ⟨l⟩) | none => none)
          | none => none)
        | .array _ e => (match E.T.get e with
          | some ce => (match fill (fun i => some (i * ce.size, ce.size)) z.cells.toList ps with | some l => some (.agg ⟨l⟩) | none => none)
          | none => none)
        | _ => none)
      | none => none)
    | _, _ => none
  | .load t a => match ev E s a with
    | some (.pointer (some a)) => loadVar E h t a
    | _ => none
  | .nilCheck x => match ev E s x with
    | some (.pointer (some a)) => some (.pointer (some a))
    | some (.func (.func f) a b) => some (.func (.func f) a b)
    | _ => none
  | .binOp op t x y _ => match ev E s x, ev E s y with
    | some a, some b => binop E h op t x y a b
    | _, _ => none
  | .unOp op _ x => match op, ev E s x with
    | .not, some (.bool b) => some (.bool (!b))
    | .neg, some (.int k n) => some (.int k (k.wrap (0 - n)))
    | .xor, some (.int k n) => (match pureRun E.P (Op.unary .xor (.int k n)) with
      | some (.int k n) => some (.int k n)
      | _ => none)
    | _, _ => none
  | .convert src dst x => match ev E s x with
    | some v => convOp E h src dst v
    | none => none
  | .makeInterface t x => match ev E s x, E.T.get t with
    | some v, some ct => (match ct.u with | .interface _ => none | _ => some (.iface t v))
    | _, _ => none
  | .makeFunc fn first captured => match evs E s first.toList, evs E s captured.toList, fn with
    | some fs, some cs, .func f => some (.func (.func f) ⟨fs⟩ ⟨cs⟩)
    | _, _, _ => none
  | .slice t x lo hi mx => match ev E s x, optEv E s lo, optEv E s hi, optEv E s mx with
    | some v, some lo, some hi, some mx => sliceOp E h t v lo hi mx
    | _, _, _, _ => none
  | .fieldAddr t x f => match ev E s x, E.T.get t with
    | some (.pointer (some a)), some ct => (match ct.u, a.spot with
      | .struct fs, none => (match fs.toList[f]? with
        | some fd => (match E.T.get fd.type with
          | some cf => bif Nat.beq cf.size 0 then none else some (.pointer (some (addA a fd.offset)))
          | none => none)
        | none => none)
      | _, _ => none)
    | _, _ => none
  | .field t x f => match ev E s x, E.T.get t with
    | some (.agg cs), some ct => (match ct.u with
      | .struct fs => (match fs.toList[f]? with
        | some fd => partV E fd.type cs.toList fd.offset
        | none => none)
      | _ => none)
    | _, _ => none
  | .indexAddr t x i => match ev E s x, ev E s i, E.T.get t with
    | some v, some (.int _ (.ofNat i)), some ct => (match ct.u, v with
      | .slice e, .slice (some a) len _ => (match E.T.get e, a.spot with
        | some ce, none => bif Nat.blt i len then some (.pointer (some (addA a (i * ce.size)))) else none
        | _, _ => none)
      | .array len e, .pointer (some a) => (match E.T.get e, a.spot with
        | some ce, none => bif Nat.blt i len then some (.pointer (some (addA a (i * ce.size)))) else none
        | _, _ => none)
      | _, _ => none)
    | _, _, _ => none
  | .index t x i => match ev E s x, ev E s i, E.T.get t with
    | some v, some (.int _ (.ofNat i)), some ct => (match ct.u, v with
      | .string, .string s => (match s.data.toList[i]? with
        | some b => some (.int .u8 (.ofNat b.toNat))
        | none => none)
      | .array len e, .agg cs => (match E.T.get e with
        | some ce => bif Nat.blt i len then partV E e cs.toList (i * ce.size) else none
        | none => none)
      | _, _ => none)
    | _, _, _ => none
  | .lookup t m k c => match ev E s m, ev E s k with
    | some m, some k => lookupOp E h t m k c
    | _, _ => none
  | .extract x i => match ev E s x with
    | some (.tuple vs) => vs.toList[i]?
    | _ => none
  | .call c => match c.callee, evs E s c.args.toList with
    | .builtin b, some args => quietBuiltin E h b c.argTypes.toList o.type args
    | _, _ => none
  | _ => none

/-- what a slice, a pointer or a map to a new block is -/
inductive Handle where
  | ptr
  | slice (len cap : Nat)
  | map
def Handle.val : Handle → Nat → Value
  | .ptr, b => .pointer (some ⟨b, 0, none⟩)
  | .slice n c, b => .slice (some ⟨b, 0, none⟩) n c
  | .map, b => .map (some b)

def rowOf (elem : TypeId) (cells : List Value) (opn : Bool) (st : Nat) : Option CObj :=
  bif allB oneCell cells then some (.row (Tr.ofList cells) cells.length elem opn st) else none

/-- operations that make one block and look at no other -/
def aop (E : Env) (s : Tr Value) (o : Oper) : Option (CObj × Handle) :=
  match o.op with
  | .alloc t => match E.T.get t with
    | some ct => (match ct.zero with
      | some z => (match rowOf t z.cells.toList false 0 with
        | some r => some (r, .ptr)
        | none => none)
      | none => none)
    | none => none
  | .box t x => match ev E s x with
    | some v => (match rowOf t v.cells.toList false 0 with
      | some r => some (r, .ptr)
      | none => none)
    | none => none
  | .buildSlice t len parts => match E.T.get t, pairs E s parts.toList with
    | some ct, some ps => (match ct.u with
      | .slice e => (match E.T.get e with
        | some ce => bif Nat.blt 16777216 (len * ce.size) then none else bif Nat.beq len 0 then
            (match ps with
            | [] => (match rowOf e [] false 0 with
              | some r => some (r, .slice 0 0)
              | none => none)
            | _ => none)
          else (match ce.zero with
          | some z => bif Nat.beq z.cells.toList.length ce.size && !(Nat.beq ce.size 0) then (match fill (fun i => some (i * ce.size, ce.size)) (repeatL z.cells.toList len) ps with
            | some l => (match rowOf e l false 0 with
              | some r => some (r, .slice len len)
              | none => none)
            | none => none) else none
          | none => none)
        | none => none)
      | _ => none)
    | _, _ => none
  | .makeSlice t l c => match ev E s l, ev E s c, E.T.get t with
    | some (.int _ (.ofNat l)), some (.int _ (.ofNat c)), some ct => (match ct.u with
      | .slice e => (match E.T.get e with
        | some ce => (match ce.zero with
          | some z => bif Nat.ble l c && Nat.ble c MAXAPP && Nat.ble ce.bytes MAXAPP && Nat.beq z.cells.toList.length ce.size && Nat.ble 1 ce.size then
              (match rowOf e (repeatL z.cells.toList c) false 0 with
              | some r => some (r, .slice l c)
              | none => none)
            else none
          | none => none)
        | none => none)
      | _ => none)
    | _, _, _ => none
  | .makeMap t r => match (match r with
      | none => some (Value.int .i64 0)
      | some x => ev E s x), E.T.get t with
    | some (.int _ _), some ct => (match ct.u with
      | .map _ _ => some (.map #[] 0, .map)
      | _ => none)
    | _, _ => none
  | .convert src dst x => match ev E s x, E.T.get src, E.T.get dst with
    | some (.string str), some cs, some cd => (match cs.u, cd.u with
      | .string, .slice e => (match E.T.get e with
        | some ce => (match ce.u with
          | .int .u8 => bif Nat.beq ce.size 1 then (match rowOf e (bytesVals str.data.toList) true 1 with
            | some r => some (r, .slice str.data.toList.length OPEN)
            | none => none) else none
          | _ => none)
        | none => none)
      | _, _ => none)
    | _, _, _ => none
  | _ => none

def nextOp (h : H) (r : Nat) (isS : Bool) : Option (Value × H) :=
  match isS, h.objs.get r with
  | true, some (.siter s pos) => bif Nat.blt pos s.data.toList.length then
      (match Utf8.decode s pos with
      | (c, w) => some (.tuple #[.bool true, .int .i64 (.ofNat pos), .int .i32 c], ⟨h.objs.set r (some (.siter s (pos + w))), h.nx⟩))
    else some (.tuple #[.bool false], h)
  | false, some (.miter none _ _ _) => some (.tuple #[.bool false], h)
  | false, some (.miter (some m) since seen last) => (match h.objs.get m with
    | some (.map es clock) =>
      bif !(seen.isEmpty) && !(es.toList.isEmpty) && allB (fun e => Nat.ble last e.born) es.toList then none else
      (match es.toList.filter (fun e => !(seen.contains e.born)) with
      | [] => some (.tuple #[.bool false], h)
      | [e] => bif Nat.blt e.born since then some (.tuple #[.bool true, e.key, e.val], ⟨h.objs.set r (some (.miter (some m) since (seen ++ [e.born]) clock)), h.nx⟩) else none
      | _ => none)
    | _ => none)
  | _, _ => none

def rangeOp (E : Env) (h : H) (t : TypeId) (v : Value) : Option (Value × H) :=
  match E.T.get t with
  | some ct => (match ct.u, v with
    | .string, .string s => some (.pointer (some ⟨h.nx, 0, none⟩), ⟨h.objs.set h.nx (some (.siter s 0)), h.nx + 1⟩)
    | .map _ _, .map none => some (.pointer (some ⟨h.nx, 0, none⟩), ⟨h.objs.set h.nx (some (.miter none 0 [] 0)), h.nx + 1⟩)
    | .map _ _, .map (some r) => (match h.objs.get r with
      | some (.map _ clock) => some (.pointer (some ⟨h.nx, 0, none⟩), ⟨h.objs.set h.nx (some (.miter (some r) clock [] clock)), h.nx + 1⟩)
      | _ => none)
    | _, _ => none)
  | none => none

/-- operations that write -/
def wop (E : Env) (s : Tr Value) (h : H) (o : Oper) : Option (Value × H) :=
  match o.op with
  | .store t a x => match ev E s a, ev E s x with
    | some (.pointer (some a)), some v => (match storeVar E h t a v with | some h' => some (undef, h') | none => none)
    | _, _ => none
  | .mapUpdate t m k v | .insert t m k v => match ev E s m, ev E s k, ev E s v with
    | some m, some k, some v => (match updateOp E h t m k v with
      | some h' => some (undef, h')
      | none => none)
    | _, _, _ => none
  | .range t x => match ev E s x with
    | some v => rangeOp E h t v
    | none => none
  | .next it isS => match ev E s it with
    | some (.pointer (some ⟨r, 0, none⟩)) => nextOp h r isS
    | _ => none
  | .call c => match c.callee, evs E s c.args.toList with
    | .builtin b, some args => writeBuiltin E h b c.argTypes.toList args
    | _, _ => none
  | _ => none

def dop (E : Env) (s : Tr Value) (o : Oper) : Option Deferred :=
  match o.op with
  | .defer c => match c.callee with
    | .value f => (match ev E s f, evs E s c.args.toList with
      | some (.func (.func g) first captured), some args => some { target := .fn (.func g) captured, args := ⟨first.toList ++ args⟩ }
      | _, _ => none)
    | _ => none
  | _ => none

def callOf (E : Env) (s : Tr Value) (o : Oper) : Option (FuncId × Array Value) :=
  match o.op with
  | .call c => resolveCall E s c
  | _ => none

def put (t : Tr Value) (n : Nat) (d : Option Tmp) (v : Value) : Tr Value :=
  match d with
  | some d => bif Nat.blt d n then t.set d (some v) else t
  | none => t

abbrev Caller := FuncId → Array Value → H → Option (Value × H)

def wantedC (t : Tr Value) (dsts : Nat → Option Tmp) : Option (Nat × Bool) → Option Bool
  | none => some true
  | some (j, want) => match dsts j with
    | none => some false
    | some d => match t.get d with
      | some (.bool b) => some (b == want)
      | _ => some false

/-- one operation that is wanted; id: where a new block goes, nx': the next number behind it; hq: what a quiet one sees of memory -/
def opRun (E : Env) (C : Caller) (id nx' : Nat) (o : Oper) (t : Tr Value) (hq h : H) (ds : List Deferred) : Option (Value × H × List Deferred) :=
  match kindOf E o with
  | .quiet => (match qop E t hq o with
    | some v => some (v, h, ds)
    | none => none)
  | .alloc => (match aop E t o with
    | some (ob, hd) => some (hd.val id, ⟨h.objs.set id (some ob), nx'⟩, ds)
    | none => none)
  | .write => (match wop E t h o with
    | some (v, h') => some (v, h', ds)
    | none => none)
  | .call => (match callOf E t o with
    | some (f, args) => (match C f args h with
      | some (v, h') => some (v, h', ds)
      | none => none)
    | none => none)
  | .dfr => (match dop E t o with
    | some d => some (undef, h, d :: ds)
    | none => none)

def stepAt (E : Env) (C : Caller) (nt : Nat) (dsts : Nat → Option Tmp) (id nx' : Nat) (o : Oper) (s : St) : Option St :=
  match wantedC s.t dsts o.guard with
  | some true => (match opRun E C id nx' o s.t s.h s.h s.ds with
    | some (v, h', ds') => some ⟨put s.t nt o.dst v, h', ds'⟩
    | none => none)
  | some false => some ⟨put s.t nt o.dst undef, s.h, s.ds⟩
  | none => none

def runOps (E : Env) (C : Caller) (nt : Nat) (dsts : Nat → Option Tmp) : List Oper → St → Option St
  | [], s => some s
  | o :: l, s => match stepAt E C nt dsts s.h.nx (s.h.nx + 1) o s with
    | some s' => runOps E C nt dsts l s'
    | none => none

/-- equal values -/
def eqv : Nat → Value → Value → Bool
  | 0, _, _ => false
  | n + 1, a, b => match a, b with
    | .bool a, .bool b => a == b
    | .int k a, .int k' b => sameKind k k' && a == b
    | .string a, .string b => bytesEq a.data.toList b.data.toList
    | .pointer none, .pointer none => true
    | .pointer (some a), .pointer (some b) => decide (a = b)
    | .slice none l c, .slice none l' c' => Nat.beq l l' && Nat.beq c c'
    | .slice (some a) l c, .slice (some b) l' c' => decide (a = b) && Nat.beq l l' && Nat.beq c c'
    | .map none, .map none => true
    | .map (some a), .map (some b) => Nat.beq a b
    | .nilFunc, .nilFunc => true
    | .nilIface, .nilIface => true
    | .func (.func f) a b, .func (.func g) c d => Nat.beq f g && eqvL n a.toList c.toList && eqvL n b.toList d.toList
    | .agg a, .agg b => eqvL n a.toList b.toList
    | .tuple a, .tuple b => eqvL n a.toList b.toList
    | _, _ => false
where
  eqvL (n : Nat) : List Value → List Value → Bool
    | [], [] => true
    | a :: x, b :: y => bif eqv n a b then eqvL n x y else false
    | _, _ => false

/-- quiet operations looked at once more: do they still give what they gave? -/
def recheck (E : Env) (dsts : Nat → Option Tmp) (ops : List Oper) (t : Tr Value) (h : H) : List Nat → Bool
  | [] => true
  | i :: l => match ops[i]? with
    | some o => (match wantedC t dsts o.guard with
      | some true => (match qop E t h o with
        | some v => (match o.dst with
          | none => recheck E dsts ops t h l
          | some d => (match t.get d with
            | some v' => bif eqv 5 v v' then recheck E dsts ops t h l else false
            | none => false))
        | none => false)
      | some false => recheck E dsts ops t h l
      | none => false)
    | none => false

def hideL (nx0 : Nat) : List Nat → Tr CObj → Tr CObj
  | [], t => t
  | j :: l, t => (hideL nx0 l t).set (nx0 + j) none

/-- what a quiet operation of a drawn region sees of memory -/
def seen (E : Env) (o : Oper) (nx0 : Nat) (hide : List Nat) (h : H) : H :=
  bif hfree E o then ⟨.e, h.nx⟩ else ⟨hideL nx0 hide h.objs, h.nx⟩

def stepP (E : Env) (C : Caller) (nt : Nat) (dsts : Nat → Option Tmp) (nx0 : Nat) (e : PE) (o : Oper) (s : St) : Option St :=
  match wantedC s.t dsts o.guard with
  | some true => (match opRun E C (nx0 + e.i) s.h.nx o s.t (seen E o nx0 e.hide s.h) s.h s.ds with
    | some (v, h', ds') => some ⟨put s.t nt o.dst v, h', ds'⟩
    | none => none)
  | some false => some ⟨put s.t nt o.dst undef, s.h, s.ds⟩
  | none => none

def runPlan (E : Env) (C : Caller) (nt : Nat) (dsts : Nat → Option Tmp) (ops : List Oper) (nx0 : Nat) : Plan → St → Option St
  | [], s => some s
  | e :: l, s => match ops[e.i]? with
    | none => none
    | some o => match stepP E C nt dsts nx0 e o s with
      | some s' => bif recheck E dsts ops s'.t s'.h e.re then runPlan E C nt dsts ops nx0 l s' else none
      | none => none

/-- the operations that must lie before, as bits -/
def befMask (done : Tr Nat) : List Edge → Option Nat
  | [] => some 0
  | e :: l => bif Region.binds .any e then
      (match done.get e.on, befMask done l with
      | some m, some m' => some (m ||| (m' ||| 2 ^ e.on))
      | _, _ => none)
    else befMask done l

def tmpOf : Operand → Option Nat
  | .tmp t => some t
  | _ => none

/-- the slots that an operation looks at -/
def looksL (ops : List Oper) (o : Oper) : List Nat :=
  o.op.operands.toList.filterMap tmpOf ++ (match o.guard with
    | some (j, _) => (match ops[j]? with
      | some g => g.dst.toList
      | none => [])
    | none => [])

/-- the operation that writes a slot -/
def wrOf : List Oper → Nat → Tr Nat → Tr Nat
  | [], _, t => t
  | o :: l, i, t => wrOf l (i + 1) (match o.dst with
    | some d => t.set d (some i)
    | none => t)

def allDone (done : Tr Nat) : Nat → Bool
  | 0 => true
  | n + 1 => match done.get n with
    | some _ => allDone done n
    | none => false

/-- 0 looks into no memory, 1 looks into memory, 2 changes, 3 makes a block -/
def kindN (E : Env) (o : Oper) : Nat :=
  match kindOf E o with
  | .quiet => bif hfree E o then 0 else 1
  | .alloc => 3
  | _ => 2

def elemN (l : List Nat) (j : Nat) : Bool :=
  match l with
  | [] => false
  | x :: l => bif Nat.beq x j then true else elemN l j

def slotOk (nt : Nat) (wr : Tr Nat) (i : Nat) : Option Tmp → Bool
  | none => true
  | some d => Nat.blt d nt && (match wr.get d with
    | some j => Nat.beq j i
    | none => false)

def isN {α : Type} : Option α → Bool
  | none => true
  | some _ => false

/-- whoever writes a slot that is looked at comes before, or has not come yet -/
def looksOk (wr : Tr Nat) (done : Tr Nat) (m : Nat) (d : Nat) : Bool :=
  match wr.get d with
  | some x => m.testBit x || isN (done.get x)
  | none => true

/-- (x, i): x will write a slot that i looked at -/
def pendOf (wr : Tr Nat) (m i : Nat) : List Nat → List (Nat × Nat) → List (Nat × Nat)
  | [], pd => pd
  | d :: l, pd => match wr.get d with
    | some x => bif m.testBit x then pendOf wr m i l pd else (x, i) :: pendOf wr m i l pd
    | none => pendOf wr m i l pd

def pdOk (done : Tr Nat) (m : Nat) (e : PE) (q : Nat × Nat) : Bool :=
  (!(Nat.beq q.1 e.i) || m.testBit q.2) && (!(elemN e.re q.2) || (isN (done.get q.1) && !(Nat.beq q.1 e.i)))

def kindOk (k m : Nat) (e : PE) (cs as rs : List Nat) : Bool :=
  match k with
  | 1 => allB (fun j => m.testBit j) cs && allB (fun j => m.testBit j || elemN e.hide j) as
  | 2 => allB (fun j => m.testBit j) cs && allB (fun j => m.testBit j) as && allB (fun j => m.testBit j || elemN e.re j) rs
  | _ => true

def consIf (b : Bool) (i : Nat) (l : List Nat) : List Nat := bif b then i :: l else l

/-- cs: operations so far that change memory, as: that make blocks, rs: that look into memory -/
def planGo (E : Env) (nt : Nat) (wr : Tr Nat) (ops : List Oper) : Plan → Tr Nat → List Nat → List Nat → List Nat → List (Nat × Nat) → Bool
  | [], done, _, _, _, _ => allDone done ops.length
  | e :: l, done, cs, as, rs, pd => match ops[e.i]?, done.get e.i with
    | some o, none => (match befMask done o.after.toList with
      | some m => bif allB (looksOk wr done m) (looksL ops o) && slotOk nt wr e.i o.dst && kindOk (kindN E o) m e cs as rs && allB (pdOk done m e) pd then
          planGo E nt wr ops l (done.set e.i (some m)) (consIf (Nat.beq (kindN E o) 2) e.i cs) (consIf (Nat.beq (kindN E o) 3) e.i as) (consIf (Nat.beq (kindN E o) 1) e.i rs) (pendOf wr m e.i (looksL ops o) pd)
        else false
      | none => false)
    | _, _ => false

def planOk (E : Env) (nt : Nat) (ops : List Oper) (p : Plan) : Bool := planGo E nt (wrOf ops 0 .e) ops p .e [] [] [] []

/-- every region of a code that draws its order has a plan that serves -/
def codeOk (E : Env) (nt : Nat) (plans : Tr Plan) : Code → Bool
  | .region id ops draw => match draw with
    | true => (match plans.get id with
      | some p => planOk E nt ops.toList p
      | none => true)
    | false => true
  | .seq a b => codeOk E nt plans a && codeOk E nt plans b
  | .cond _ a b => codeOk E nt plans a && codeOk E nt plans b
  | .block _ b => codeOk E nt plans b
  | .loop b => codeOk E nt plans b
  | .scope b => codeOk E nt plans b
  | _ => true

def reserve (s : St) (n : Nat) : St := ⟨s.t, ⟨s.h.objs, s.h.nx + n⟩, s.ds⟩

def dstOf (ops : Array Oper) (i : Nat) : Option Tmp :=
  match ops.toList[i]? with
  | some o => o.dst
  | none => none

/-- sc: the scope's body around c, if c stands right in one -/
def runCode (E : Env) (C : Caller) (cf : CF) : Nat → Option Code → Code → St → Option (Ex × St)
  | 0, _, _, _ => none
  | n + 1, some b, c, s => match runCode E C cf n none c s with
    | some (.goto l, s') => (match findLabel b l with
      | some rest => runCode E C cf n (some b) rest s'
      | none => some (.goto l, s'))
    | r => r
  | n + 1, none, c, s => match c with
    | .skip => some (.normal, s)
    | .label _ => some (.normal, s)
    | .seq a b => match runCode E C cf n none a s with
      | some (.normal, s') => runCode E C cf n none b s'
      | r => r
    | .cond x a b => match ev E s.t x with
      | some (.bool true) => runCode E C cf n none a s
      | some (.bool false) => runCode E C cf n none b s
      | _ => none
    | .region id ops draw => match draw with
      | true => (match cf.plans.get id with
        | some p => (match runPlan E C cf.ntmps (dstOf ops) ops.toList s.h.nx p (reserve s ops.toList.length) with
          | some s' => some (.normal, s')
          | none => none)
        | none => none)
      | false => (match runOps E C cf.ntmps (dstOf ops) ops.toList s with
        | some s' => some (.normal, s')
        | none => none)
    | .block id b => match runCode E C cf n none b s with
      | some (.exit i, s') => bif Nat.beq i id then some (.normal, s') else some (.exit i, s')
      | r => r
    | .loop b => match runCode E C cf n none b s with
      | some (.normal, s') => runCode E C cf n none (.loop b) s'
      | r => r
    | .exit id => some (.exit id, s)
    | .goto l => some (.goto l, s)
    | .ret => some (.ret, s)
    | .scope b => runCode E C cf n (some b) b s
    | _ => none

def initT : Nat → List Value → Tr Value → Tr Value
  | _, [], t => t
  | i, v :: l, t => initT (i + 1) l (t.set i (some v))

def resultsC (E : Env) (t : Tr Value) (h : H) : List ResultVar → Option (List Value)
  | [] => some []
  | .tmp i :: l => match resultsC E t h l with
    | some vs => some ((match t.get i with | some v => v | none => undef) :: vs)
    | none => none
  | .cell a ty :: l => match t.get a with
    | some (.pointer (some a)) => (match loadVar E h ty a, resultsC E t h l with
      | some v, some vs => some (v :: vs)
      | _, _ => none)
    | _ => none

/-- a body's run -/
def bodyC (E : Env) (C : Caller) (n : Nat) (cf : CF) (args : List Value) (h : H) : Option St :=
  bif Nat.blt cf.ntmps args.length then none else match runCode E C cf n none cf.code ⟨initT 0 args .e, h, []⟩ with
  | some (.normal, s) => some s
  | some (.ret, s) => some s
  | _ => none

def packV : List Value → Value
  | [v] => v
  | vs => .tuple ⟨vs⟩

/-- a deferred function, that defers nothing itself -/
def dcall (E : Env) (C : Caller) (n : Nat) (f : FuncId) (args : Array Value) (h : H) : Option H :=
  match E.F.get f with
  | none => none
  | some cf => match bodyC E C n cf args.toList h with
    | some s => (match s.ds, resultsC E s.t s.h cf.results with
      | [], some _ => some s.h
      | _, _ => none)
    | none => none

def runDefers (E : Env) (C : Caller) (n : Nat) : List Deferred → H → Option H
  | [], h => some h
  | d :: l, h => match d.target with
    | .fn (.func f) captured => (match dcall E C n f ⟨d.args.toList ++ captured.toList⟩ h with
      | some h' => runDefers E C n l h'
      | none => none)
    | _ => none

def findByte (k : Nat) : List UInt8 → Nat → Int
  | [], _ => -1
  | b :: l, i => bif Nat.beq b.toNat k then .ofNat i else findByte k l (i + 1)

def countByte (k : Nat) : List UInt8 → Nat → Nat
  | [], n => n
  | b :: l, n => bif Nat.beq b.toNat k then countByte k l (n + 1) else countByte k l n

def externC (E : Env) (f : FuncId) (args : List Value) (h : H) : Option (Value × H) :=
  match E.P.funcs[f]? with
  | none => none
  | some fn => bif fn.name == "internal/bytealg.IndexByteString" then (match args with
      | [.string s, .int .u8 c] => some (.int .i64 (findByte (c.toNat % 256) s.data.toList 0), h)
      | _ => none)
    else bif fn.name == "internal/bytealg.CountString" then (match args with
      | [.string s, .int .u8 c] => some (.int .i64 (.ofNat (countByte (c.toNat % 256) s.data.toList 0)), h)
      | _ => none)
    else bif fn.name == "internal/abi.NoEscape" then (match args with
      | [v] => some (v, h)
      | _ => none)
    else bif fn.name == "internal/bytealg.MakeNoZero" then (match args, fn.resultTypes.toList with
      | [.int .i64 (.ofNat n)], [t] => (match E.T.get t with
        | some ct => (match ct.u with
          | .slice e => (match E.T.get e with
            | some ce => bif Nat.ble n MAXAPP && Nat.beq ce.size 1 then some (.slice (some ⟨h.nx, 0, none⟩) n OPEN, ⟨h.objs.set h.nx (some (.row .e n e true 0)), h.nx + 1⟩) else none
            | none => none)
          | _ => none)
        | none => none)
      | _, _ => none)
    else none

def ccall (E : Env) : Nat → Caller
  | 0, _, _, _ => none
  | n + 1, f, args, h => match E.F.get f with
    | none => externC E f args.toList h
    | some cf => match bodyC E (ccall E n) n cf args.toList h with
      | some s => (match runDefers E (ccall E n) n s.ds s.h with
        | some h' => (match resultsC E s.t h' cf.results with
          | some vs => some (packV vs, h')
          | none => none)
        | none => none)
      | none => none

def mkT (i u : TypeInfo) : CT := ⟨u.desc, i.size, i.bytes, i.zero⟩
def mkF (f : Func) (pl : Tr Plan) : CF := ⟨match f.body with | some c => c | none => .skip, f.ntmps, f.results.toList, pl⟩
def isTrueRes : Option (Value × H) → Bool
  | some (.bool b, _) => b
  | _ => false

end Go.CS

