/- What the abstract operations do. -/
import Derived.Test.YtcjnpmaljfkpgaaDoorAbs2
namespace Abs
open Go

abbrev Slots := Nat → EV

def ev (γ : Nat → EV) (s : Slots) : EOpd → EV
  | .t n => s n
  | .c v => v
  | .g n => γ n

/-- The cells of an element, put together again. -/
def pack (ag : Bool) (cs : List EV) : EV := if ag then .agg cs else cs.headD .undef

def withCells (e : EV) (cs : List EV) : EV :=
  match e with
  | .agg _ => .agg cs
  | _ => cs.headD .undef

def bitsOp (op : BinOp) (k : IntKind) (x y : Int) : Int :=
  match op with
  | .and => k.wrap ((BitVec.ofInt k.bits x &&& BitVec.ofInt k.bits y).toNat : Int)
  | .or => k.wrap ((BitVec.ofInt k.bits x ||| BitVec.ofInt k.bits y).toNat : Int)
  | .xor => k.wrap ((BitVec.ofInt k.bits x ^^^ BitVec.ofInt k.bits y).toNat : Int)
  | _ => k.wrap ((BitVec.ofInt k.bits x &&& ~~~ BitVec.ofInt k.bits y).toNat : Int)

def evBin (op : BinOp) (x y : EV) : Option EV :=
  match x, y with
  | .int k a, .int k' b =>
    match op with
    | .shl => if 0 ≤ b then some (.int k (k.wrap (a * 2 ^ (min b.toNat k.bits)))) else none
    | .shr => if 0 ≤ b then some (.int k (a.fdiv (2 ^ (min b.toNat k.bits)))) else none
    | _ =>
      if k = k' then
        match op with
        | .add => some (.int k (k.wrap (a + b)))
        | .sub => some (.int k (k.wrap (a - b)))
        | .mul => some (.int k (k.wrap (a * b)))
        | .quo => if b = 0 then none else some (.int k (k.wrap (a.tdiv b)))
        | .rem => if b = 0 then none else some (.int k (a.tmod b))
        | .eql => some (.bool (a == b))
        | .neq => some (.bool (a != b))
        | .lss => some (.bool (decide (a < b)))
        | .leq => some (.bool (decide (a ≤ b)))
        | .gtr => some (.bool (decide (a > b)))
        | .geq => some (.bool (decide (a ≥ b)))
        | op => some (.int k (bitsOp op k a b))
      else none
  | .str a, .str b =>
    match op with
    | .eql => some (.bool (a == b))
    | .neq => some (.bool (!(a == b)))
    | .add => if a.length + b.length ≤ 9223372036854775807 then some (.str (a ++ b)) else none
    | .lss => some (.bool (Go.Op.bytesLess a b))
    | .leq => some (.bool (Go.Op.bytesLess a b || a == b))
    | .gtr => some (.bool (!(Go.Op.bytesLess a b || a == b)))
    | .geq => some (.bool (!Go.Op.bytesLess a b))
    | _ => none
  | _, _ => none

def evUn (op : UnOp) (x : EV) : Option EV :=
  match op, x with
  | .neg, .int k n => some (.int k (k.wrap (0 - n)))
  | .not, .bool b => some (.bool (!b))
  | .xor, .int k n => some (.int k (bitsOp .xor k (if k.signed then -1 else k.max) n))
  | _, _ => none

def evNil : NK → EV → EV → Option Bool
  | .sl, .nilsl, .nilsl => some true
  | .sl, .nilsl, .imm _ _ => some false
  | .sl, .nilsl, .own _ _ _ _ => some false
  | .sl, .imm _ _, .nilsl => some false
  | .sl, .own _ _ _ _, .nilsl => some false
  | .pt, .nilptr, .nilptr => some true
  | .pt, .nilptr, .ptr _ _ _ _ => some false
  | .pt, .ptr _ _ _ _, .nilptr => some false
  | .mp, .nilmap, .nilmap => some true
  | .mp, .nilmap, .map _ => some false
  | .mp, .map _, .nilmap => some false
  | .fn, .nilfn, .nilfn => some true
  | .fn, .nilfn, .func _ _ _ => some false
  | .fn, .func _ _ _, .nilfn => some false
  | .ifc, .nilif, .iface _ _ => some false
  | .ifc, .iface _ _, .nilif => some false
  | _, _, _ => none

def evLoad (ag : Bool) (n : Nat) (x : EV) (H : Heap) : Option EV :=
  match x with
  | .ptr b sz i j =>
    match H[b]? with
    | some (some (.row sz' es)) =>
      if sz = sz' then
        match es[i]? with
        | some e => if j + n ≤ sz then some (pack ag ((e.cells.drop j).take n)) else none
        | none => none
      else none
    | _ => none
  | .iptr cells j => if j + n ≤ cells.length then some (pack ag ((cells.drop j).take n)) else none
  | _ => none

def evStore (n : Nat) (x v : EV) (H : Heap) : Option Heap :=
  match x with
  | .ptr b sz i j =>
    match H[b]? with
    | some (some (.row sz' es)) =>
      if sz = sz' then
        match es[i]? with
        | some e =>
          if v.cells.length = n && v.cells.all EV.one && j + n ≤ sz && 0 < n then
            some (H.set b (some (.row sz (es.set i (withCells e (e.cells.take j ++ v.cells ++ e.cells.drop (j + n)))))))
          else none
        | none => none
      else none
    | _ => none
  | _ => none

def fillCells : List EV → List (Nat × Nat × EV) → Option (List EV)
  | cs, [] => some cs
  | cs, (off, size, v) :: rest =>
    if v.cells.length = size ∧ off + size ≤ cs.length then fillCells (cs.take off ++ v.cells ++ cs.drop (off + size)) rest else none

/-- A bound of a slice expression. -/
def evBound (dflt most : Nat) : Option EV → Option Nat
  | none => some dflt
  | some (.int _ n) => if 0 ≤ n ∧ n ≤ (most : Int) then some n.toNat else none
  | _ => none

/-- The bounds of a slice expression. -/
def evBounds (len cap : Nat) (lo hi : Option EV) : Option (Nat × Nat) :=
  match evBound len cap hi with
  | some h =>
    match evBound 0 h lo with
    | some l => some (l, h)
    | none => none
  | none => none

/-- A cut of a slice. -/
def evCut (sz : Nat) (x : EV) (lo hi : Option EV) : Option EV :=
  match x with
  | .nilsl =>
    match evBounds 0 0 lo hi with
    | some _ => some .nilsl
    | none => none
  | .own b bs off len =>
    if sz = bs then
      match evBounds len len lo hi with
      | some p => some (.own b bs (off + p.1) (p.2 - p.1))
      | none => none
    else none
  | .imm bs es =>
    if sz = bs then
      match evBounds es.length es.length lo hi with
      | some p => some (.imm bs ((es.drop p.1).take (p.2 - p.1)))
      | none => none
    else none
  | _ => none

def evLen : Bool → EV → Option Nat
  | true, .str s => some s.length
  | false, .nilsl => some 0
  | false, .imm _ es => some es.length
  | false, .own _ _ _ len => some len
  | _, _ => none

/-- A slice's elements. -/
def elems (H : Heap) : EV → Option (List EV)
  | .nilsl => some []
  | .imm _ es => some es
  | .own b sz off len =>
    match H[b]? with
    | some (some (.row sz' es)) => if sz = sz' ∧ off + len ≤ es.length then some ((es.drop off).take len) else none
    | _ => none
  | .str s => some (s.map fun b => .int .u8 b.toNat)
  | _ => none

/-- An address, so many cells on. -/
def evAdd (off : Nat) : EV → Option EV
  | .ptr b sz i j => some (.ptr b sz i (j + off))
  | .iptr c j => some (.iptr c (j + off))
  | _ => none

/-- The address of an element. -/
def evElem (sz : Nat) (k : Int) : EV → Option EV
  | .own b bs off len => if sz = bs ∧ 0 ≤ k ∧ k < len then some (.ptr b bs (off + k.toNat) 0) else none
  | .imm bs es =>
    if sz = bs ∧ 0 ≤ k then
      match es[k.toNat]? with
      | some e => some (.iptr e.cells 0)
      | none => none
    else none
  | _ => none

/-- The value at a key. -/
def lookE (k : EV) : List (EV × EV) → Option EV
  | [] => none
  | e :: es => if eqL k.cells e.1.cells then some e.2 else lookE k es

/-- A map with a value at a key. -/
def putE (k v : EV) : List (EV × EV) → List (EV × EV)
  | [] => [(k, v)]
  | e :: es => if eqL k.cells e.1.cells then (k, v) :: es else e :: putE k v es

def fitsAll (ag : Bool) (ks : List SK) (es : List (EV × EV)) : Bool := es.all fun e => keyFit ag ks e.1

/-- Looking up. -/
def evLookup (ag : Bool) (ks : List SK) (z : EV) (ok : Bool) (x k : EV) (H : Heap) : Option EV :=
  match x with
  | .nilmap => if keyFit ag ks k then some (if ok then .tup [z, .bool false] else z) else none
  | .map b =>
    match H[b]? with
    | some (some (.map es)) =>
      if keyFit ag ks k && fitsAll ag ks es then
        match lookE k es with
        | some v => some (if ok then .tup [v, .bool true] else v)
        | none => some (if ok then .tup [z, .bool false] else z)
      else none
    | _ => none
  | _ => none

def evMapset (ag : Bool) (ks : List SK) (x k v : EV) (H : Heap) : Option Heap :=
  match x with
  | .map b =>
    match H[b]? with
    | some (some (.map es)) => if keyFit ag ks k && fitsAll ag ks es then some (H.set b (some (.map (putE k v es)))) else none
    | _ => none
  | _ => none

/-- What append gives: the row moves to a new block. -/
def evAppend (sz bytes : Nat) (x y : EV) (H : Heap) : Option (EV × Heap) :=
  match elems H y with
  | some es =>
    if 0 < sz ∧ (es.all fun e => e.cells.length == sz && e.cells.all EV.one) = true then
      match x with
      | .nilsl =>
        if es.length = 0 then some (.nilsl, H)
        else if es.length ≤ 9223372036854775807 ∧ es.length * bytes ≤ 140737488355328 then some (.own H.length sz 0 es.length, H ++ [some (.row sz es)]) else none
      | .own b bs off len =>
        match H[b]? with
        | some (some (.row bs' old)) =>
          if sz = bs ∧ bs = bs' ∧ off = 0 ∧ len ≤ old.length ∧ len + es.length ≤ 9223372036854775807 ∧ (len + es.length) * bytes ≤ 140737488355328 then
            some (.own H.length sz 0 (len + es.length), H.set b none ++ [some (.row sz (old.take len ++ es))])
          else none
        | _ => none
      | _ => none
    else none
  | none => none

/-- What an operation without a call gives: its value, and the heap. -/
def evOp (ρ : EOpd → EV) (H : Heap) : EOp → Option (EV × Heap)
  | .mov x => some (ρ x, H)
  | .pick c a b =>
    match ρ c with
    | .bool t => some (if t then ρ a else ρ b, H)
    | _ => none
  | .box x => if (ρ x).cells.all EV.one then some (.ptr H.length (ρ x).cells.length 0 0, H ++ [some (.row (ρ x).cells.length [ρ x])]) else none
  | .build zs parts =>
    if parts.all (fun p => (ρ p.2.2).cells.all EV.one) then
      match fillCells zs (parts.map fun p => (p.1, p.2.1, ρ p.2.2)) with
      | some cs => some (.agg cs, H)
      | none => none
    else none
  | .bsl sz z len parts own =>
    if parts.all (fun p => (ρ p.2).cells.length == sz && (ρ p.2).cells.all EV.one) then
      if own then some (.own H.length sz 0 len, H ++ [some (.row sz ((parts.map fun p => (p.1, ρ p.2)).foldl (fun es p => es.set p.1 p.2) (List.replicate len z)))])
      else some (.imm sz ((parts.map fun p => (p.1, ρ p.2)).foldl (fun es p => es.set p.1 p.2) (List.replicate len z)), H)
    else none
  | .load ag n x => (evLoad ag n (ρ x) H).map (·, H)
  | .store n x v => (evStore n (ρ x) (ρ v) H).map (.undef, ·)
  | .nilchk x =>
    match ρ x with
    | .ptr b sz i j => some (.ptr b sz i j, H)
    | .iptr c j => some (.iptr c j, H)
    | .func (.func f) a b => some (.func (.func f) a b, H)
    | .iface t v => some (.iface t v, H)
    | _ => none
  | .bin op x y => (evBin op (ρ x) (ρ y)).map (·, H)
  | .cmpBool neg x y =>
    match ρ x, ρ y with
    | .bool a, .bool b => some (.bool (if neg then !(a == b) else a == b), H)
    | _, _ => none
  | .cmpAgg neg ks x y =>
    match ρ x, ρ y with
    | .agg a, .agg b => if fits ks a && fits ks b then some (.bool (if neg then !eqL a b else eqL a b), H) else none
    | _, _ => none
  | .cmpNil neg k x y => (evNil k (ρ x) (ρ y)).map fun r => (.bool (if neg then !r else r), H)
  | .un op x => (evUn op (ρ x)).map (·, H)
  | .cvtInt k x =>
    match ρ x with
    | .int _ n => some (.int k (k.wrap n), H)
    | _ => none
  | .iface t x => some (.iface t (ρ x), H)
  | .func f a b => some (.func f (a.map ρ) (b.map ρ), H)
  | .faddr off x => (evAdd off (ρ x)).map (·, H)
  | .field ag off n x =>
    match ρ x with
    | .agg cs => if off + n ≤ cs.length then some (pack ag ((cs.drop off).take n), H) else none
    | _ => none
  | .iaddrA len sz x i =>
    match ρ i with
    | .int _ k => if 0 ≤ k ∧ k < len then (evAdd (k.toNat * sz) (ρ x)).map (·, H) else none
    | _ => none
  | .iaddrS sz x i =>
    match ρ i with
    | .int _ k => (evElem sz k (ρ x)).map (·, H)
    | _ => none
  | .idxA len ag sz x i =>
    match ρ i, ρ x with
    | .int _ k, .agg cs => if 0 ≤ k ∧ k < len ∧ len * sz ≤ cs.length then some (pack ag ((cs.drop (k.toNat * sz)).take sz), H) else none
    | _, _ => none
  | .idxStr x i =>
    match ρ i, ρ x with
    | .int _ k, .str s => if 0 ≤ k then (s[k.toNat]?).map fun b => (.int .u8 b.toNat, H) else none
    | _, _ => none
  | .extract x i =>
    match ρ x with
    | .tup vs => (vs[i]?).map (·, H)
    | _ => none
  | .slStr x lo hi =>
    match ρ x with
    | .str s => (evBounds s.length s.length (lo.map ρ) (hi.map ρ)).map fun p => (.str ((s.drop p.1).take (p.2 - p.1)), H)
    | _ => none
  | .slSl sz x lo hi => (evCut sz (ρ x) (lo.map ρ) (hi.map ρ)).map (·, H)
  | .mkmap => some (.map H.length, H ++ [some (.map [])])
  | .lookup ag ks z ok x k => (evLookup ag ks z ok (ρ x) (ρ k) H).map (·, H)
  | .mapset ag ks x k v => (evMapset ag ks (ρ x) (ρ k) (ρ v) H).map (.undef, ·)
  | .append sz bytes x y => evAppend sz bytes (ρ x) (ρ y) H
  | .len str x => (evLen str (ρ x)).map fun (n : Nat) => (EV.int .i64 (n : Int), H)
  | _ => none

end Abs
