/- The abstract operations: resolved code, and what each operation does to the abstract state. -/
import Derived.Test.YtcjnpmaljfkpgaaDoorAbs6
namespace Abs
open Go

inductive EOpd where
  | t (n : Nat)
  | c (v : EV)
  | g (n : Nat)
  deriving Inhabited

/-- Kinds of types that have a nil. -/
inductive NK where
  | sl | pt | mp | fn | ifc
  deriving DecidableEq, Inhabited

inductive EOp where
  | mov (x : EOpd)
  | pick (c a b : EOpd)
  | box (x : EOpd)
  | build (zs : List EV) (parts : List (Nat × Nat × EOpd))
  | bsl (sz : Nat) (z : EV) (len : Nat) (parts : List (Nat × EOpd)) (own : Bool)
  | load (ag : Bool) (n : Nat) (x : EOpd)
  | store (n : Nat) (x v : EOpd)
  | nilchk (x : EOpd)
  | bin (op : BinOp) (x y : EOpd)
  | cmpBool (neg : Bool) (x y : EOpd)
  | cmpAgg (neg : Bool) (ks : List SK) (x y : EOpd)
  | cmpNil (neg : Bool) (k : NK) (x y : EOpd)
  | un (op : UnOp) (x : EOpd)
  | cvtInt (k : IntKind) (x : EOpd)
  | iface (t : TypeId) (x : EOpd)
  | func (f : Fn) (first cap : List EOpd)
  | faddr (off : Nat) (x : EOpd)
  | field (ag : Bool) (off n : Nat) (x : EOpd)
  | iaddrA (len sz : Nat) (x i : EOpd)
  | iaddrS (sz : Nat) (x i : EOpd)
  | idxA (len : Nat) (ag : Bool) (sz : Nat) (x i : EOpd)
  | idxStr (x i : EOpd)
  | extract (x : EOpd) (i : Nat)
  | slStr (x : EOpd) (lo hi : Option EOpd)
  | slSl (sz : Nat) (x : EOpd) (lo hi : Option EOpd)
  | len (str : Bool) (x : EOpd)
  | mkmap
  | lookup (ag : Bool) (ks : List SK) (z : EV) (ok : Bool) (x k : EOpd)
  | mapset (ag : Bool) (ks : List SK) (x k v : EOpd)
  | append (sz bytes : Nat) (x y : EOpd)
  | copy (x y : EOpd)
  | call (f : EOpd) (args : List EOpd)
  | panic (x : EOpd)
  deriving Inhabited

structure EOper where
  dst : Option Nat
  op : EOp
  guard : Option (Nat × Bool) := none
  deriving Inhabited

/-- The value of a constant. -/
def evScalar : Value → Option EV
  | .bool b => some (.bool b)
  | .int k n => some (.int k n)
  | .string s => some (.str s.data.toList)
  | .pointer none => some .nilptr
  | .slice none 0 0 => some .nilsl
  | .nilFunc => some .nilfn
  | .nilIface => some .nilif
  | .map none => some .nilmap
  | _ => none

def evConst : Value → Option EV
  | .agg cs => (cs.toList.mapM evScalar).map .agg
  | .tuple cs => if cs.size = 0 then some (.tup []) else none
  | v => evScalar v

def resOpd : Operand → Option EOpd
  | .tmp t => some (.t t)
  | .const v => (evConst v).map .c
  | .global g => some (.g g)
  | .func f => some (.c (.func (.func f) [] []))

def tyOf (P : Program) (t : TypeId) : Option (Bool × Nat) :=
  match P.underlying t, P.info? t with
  | some (.struct _), some i => some (true, i.size)
  | some (.array _ _), some i => some (true, i.size)
  | some _, some i => if i.size = 1 then some (false, 1) else none
  | _, _ => none

def zeroOf (P : Program) (t : TypeId) : Option EV := ((P.info? t).bind (·.zero)).bind evConst

def nkOf (P : Program) (t : TypeId) : Option NK :=
  match P.underlying t with
  | some (.slice _) => some .sl
  | some (.pointer _) => some .pt
  | some (.map _ _) => some .mp
  | some (.func _ _ _) => some .fn
  | some (.interface _) => some .ifc
  | _ => none

def resOpt (x : Option Operand) : Option (Option EOpd) :=
  match x with
  | none => some none
  | some o => (resOpd o).map some

def resAgg (P : Program) (t : TypeId) (op : BinOp) (x y : EOpd) : Option EOp :=
  match flatK P 16 t with
  | some ks => if P.eqGuardType P.depth t then none else some (.cmpAgg (op == .neq) ks x y)
  | none => none

def resEq (P : Program) (t : TypeId) (op : BinOp) (x y : EOpd) : Option EOp :=
  match P.underlying t with
  | some .bool => some (.cmpBool (op == .neq) x y)
  | some (.int _) => some (.bin op x y)
  | some .string => some (.bin op x y)
  | some (.struct _) => resAgg P t op x y
  | some (.array _ _) => resAgg P t op x y
  | _ => (nkOf P t).map fun k => .cmpNil (op == .neq) k x y

/-- A map's keys, and the type of its values. -/
def keyOfMap (P : Program) (t : TypeId) : Option ((Bool × List SK) × TypeId) :=
  match P.underlying t with
  | some (.map kt e) =>
    match P.underlying kt, flatK P 16 kt with
    | some d, some ks => some ((aggD d, ks), e)
    | _, _ => none
  | _ => none

def resOp (P : Program) (own : Bool) : Op → Option EOp
  | .move x | .assign x => do pure (.mov (← resOpd x))
  | .pick c a b => do pure (.pick (← resOpd c) (← resOpd a) (← resOpd b))
  | .alloc t => do
    let z ← zeroOf P t
    if z.cells.all EV.one then pure (.box (.c z)) else none
  | .box _ x => do pure (.box (← resOpd x))
  | .build t parts =>
    match zeroOf P t, P.underlying t with
    | some (.agg zs), some (.struct fs) => do
      let _ ← fs.toList.mapM fun f => (P.info? f.type).map fun i => (f.offset, i.size)
      let ps ← parts.toList.mapM fun p => do
        let f ← fs[p.1]?
        let j ← P.info? f.type
        let x ← resOpd p.2
        some (f.offset, j.size, x)
      some (.build zs ps)
    | some (.agg zs), some (.array _ e) => do
      let j ← P.info? e
      let ps ← parts.toList.mapM fun p => do
        let x ← resOpd p.2
        some (p.1 * j.size, j.size, x)
      some (.build zs ps)
    | _, _ => none
  | .buildSlice t len parts =>
    match P.underlying t with
    | some (.slice e) => do
      let (_, sz) ← tyOf P e
      let z ← zeroOf P e
      let ps ← parts.toList.mapM fun p => do
        let x ← resOpd p.2
        if p.1 < len then some (p.1, x) else none
      if z.cells.length = sz && z.cells.all EV.one && len * sz ≤ 2 ^ 24 then some (.bsl sz z len ps own) else none
    | _ => none
  | .load t x => do
    let (ag, n) ← tyOf P t
    pure (.load ag n (← resOpd x))
  | .store t x v => do
    let j ← P.info? t
    pure (.store j.size (← resOpd x) (← resOpd v))
  | .nilCheck x => do pure (.nilchk (← resOpd x))
  | .binOp op t x y _ => do
    let x ← resOpd x
    let y ← resOpd y
    match op with
    | .eql => resEq P t .eql x y
    | .neq => resEq P t .neq x y
    | _ => some (.bin op x y)
  | .unOp op _ x => do pure (.un op (← resOpd x))
  | .convert src dst x => do
    let x ← resOpd x
    match P.underlying src, P.underlying dst with
    | some (.int _), some (.int k) => pure (.cvtInt k x)
    | _, _ => none
  | .makeInterface t x => do
    match P.underlying t with
    | some (.interface _) => none
    | some _ => pure (.iface t (← resOpd x))
    | none => none
  | .makeFunc f first cap => do pure (.func f (← first.toList.mapM resOpd) (← cap.toList.mapM resOpd))
  | .fieldAddr t x f => do
    let some (.struct fs) := P.underlying t | none
    let fd ← fs[f]?
    let j ← P.info? fd.type
    if j.size = 0 then none else pure (.faddr fd.offset (← resOpd x))
  | .field t x f => do
    let some (.struct fs) := P.underlying t | none
    let fd ← fs[f]?
    let (ag, n) ← tyOf P fd.type
    pure (.field ag fd.offset n (← resOpd x))
  | .indexAddr t x i => do
    let x ← resOpd x
    let i ← resOpd i
    match P.underlying t with
    | some (.array len e) => do
      let j ← P.info? e
      pure (.iaddrA len j.size x i)
    | some (.slice e) => do
      let j ← P.info? e
      pure (.iaddrS j.size x i)
    | _ => none
  | .index t x i => do
    let x ← resOpd x
    let i ← resOpd i
    match P.underlying t with
    | some (.array len e) => do
      let (ag, n) ← tyOf P e
      pure (.idxA len ag n x i)
    | some .string => pure (.idxStr x i)
    | _ => none
  | .extract x i => do pure (.extract (← resOpd x) i)
  | .slice t x lo hi none => do
    let x ← resOpd x
    let lo ← resOpt lo
    let hi ← resOpt hi
    match P.underlying t with
    | some .string => pure (.slStr x lo hi)
    | some (.slice e) => do
      let j ← P.info? e
      pure (.slSl j.size x lo hi)
    | _ => none
  | .call { callee := .value f, args, .. } => do pure (.call (← resOpd f) (← args.toList.mapM resOpd))
  | .call { callee := .builtin .len, args, argTypes } =>
    match argTypes[0]?, args[0]? with
    | some t, some x =>
      match P.underlying t with
      | some .string => do some (.len true (← resOpd x))
      | some (.slice _) => do some (.len false (← resOpd x))
      | _ => none
    | _, _ => none
  | .call { callee := .builtin .append, args, argTypes } =>
    match argTypes.toList, args.toList with
    | [t, u], [x, y] =>
      match P.underlying t, P.underlying u with
      | some (.slice e), some (.slice _) => do
        let j ← P.info? e
        let z ← zeroOf P e
        if z.cells.length = j.size && z.cells.all EV.one then some (.append j.size j.bytes (← resOpd x) (← resOpd y)) else none
      | some (.slice e), some .string => do
        let j ← P.info? e
        let z ← zeroOf P e
        if z.cells.length = j.size && z.cells.all EV.one then some (.append j.size j.bytes (← resOpd x) (← resOpd y)) else none
      | _, _ => none
    | _, _ => none
  | .panic x => do pure (.panic (← resOpd x))
  | .makeMap _ none => some .mkmap
  | .lookup t x k ok => do
    let x ← resOpd x
    let k ← resOpd k
    let p ← keyOfMap P t
    let z ← zeroOf P p.2
    pure (.lookup p.1.1 p.1.2 z ok x k)
  | .mapUpdate t m k x => do
    let m ← resOpd m
    let k ← resOpd k
    let x ← resOpd x
    let p ← keyOfMap P t
    pure (.mapset p.1.1 p.1.2 m k x)
  | .insert t m k x => do
    let m ← resOpd m
    let k ← resOpd k
    let x ← resOpd x
    let p ← keyOfMap P t
    pure (.mapset p.1.1 p.1.2 m k x)
  | _ => none

def resGuard (n : Nat) (ops : Array Oper) : Option (Nat × Bool) → Option (Option (Nat × Bool))
  | none => some none
  | some (j, b) =>
    match (ops[j]?).bind (·.dst) with
    | some d => if d < n then some (some (d, b)) else none
    | none => none

def okDst (n : Nat) : Option Nat → Bool
  | none => true
  | some d => d < n

def resOper (P : Program) (n : Nat) (own : List Nat) (ops : Array Oper) (o : Oper) : Option EOper :=
  match resOp P (match o.dst with | some d => own.contains d | none => false) o.op, resGuard n ops o.guard with
  | some op, some g => if okDst n o.dst then some { dst := o.dst, op, guard := g } else none
  | _, _ => none

end Abs
