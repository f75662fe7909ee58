/- A part. -/
import Derived.Test.YtdcjkdgjlljodaaAbs6
import Derived.Lib.Bytealg
set_option linter.all false
namespace Abs
open Go
abbrev aa2 := Nat → EV
def ev (γ : Nat → EV) (s : aa2) : EOpd → EV
 | .t n => s n
 | .c v => v
 | .g n => γ n
def pack (ag : Bool) (cs : List EV) : EV := if ag then .agg cs else cs.headD .undef
def bf9 (e : EV) (cs : List EV) : EV :=
 match e with
 | .agg _ => .agg cs
 | _ => cs.headD .undef
def cb8 (op : BinOp) (k : IntKind) (x y : Int) : Int :=
 match op with
 | .and => k.wrap ((BitVec.ofInt k.bits x &&& BitVec.ofInt k.bits y).toNat : Int)
 | .or => k.wrap ((BitVec.ofInt k.bits x ||| BitVec.ofInt k.bits y).toNat : Int)
 | .xor => k.wrap ((BitVec.ofInt k.bits x ^^^ BitVec.ofInt k.bits y).toNat : Int)
 | _ => k.wrap ((BitVec.ofInt k.bits x &&& ~~~ BitVec.ofInt k.bits y).toNat : Int)
def ef9 (op : BinOp) (x y : EV) : Option EV :=
 match x, y with
 | .int k a, .int k' b =>
  match op with
  | .shl => if 0 ≤ b then some (.int k (k.wrap (a * 2 ^ (min b.toNat k.bits)))) else none
  | .shr => if 0 ≤ b then some (.int k (a.fdiv (2 ^ (min b.toNat k.bits)))) else none
  | _ =>
   if k = k' then
    match op with
    | .add => some (.int k (k.wrap (a + b)))
    | .sub => some (.int k (k.wrap (a - b)))
    | .mul => some (.int k (k.wrap (a * b)))
    | .quo => if b = 0 then none else some (.int k (k.wrap (a.tdiv b)))
    | .rem => if b = 0 then none else some (.int k (a.tmod b))
    | .eql => some (.bool (a == b))
    | .neq => some (.bool (a != b))
    | .lss => some (.bool (decide (a < b)))
    | .leq => some (.bool (decide (a ≤ b)))
    | .gtr => some (.bool (decide (a > b)))
    | .geq => some (.bool (decide (a ≥ b)))
    | op => some (.int k (cb8 op k a b))
   else none
 | .str a, .str b =>
  match op with
  | .eql => some (.bool (a == b))
  | .neq => some (.bool (!(a == b)))
  | .add => if a.length + b.length ≤ 9223372036854775807 then some (.str (a ++ b)) else none
  | .lss => some (.bool (Go.Op.bytesLess a b))
  | .leq => some (.bool (Go.Op.bytesLess a b || a == b))
  | .gtr => some (.bool (!(Go.Op.bytesLess a b || a == b)))
  | .geq => some (.bool (!Go.Op.bytesLess a b))
  | _ => none
 | _, _ => none
def evUn (op : UnOp) (x : EV) : Option EV :=
 match op, x with
 | .neg, .int k n => some (.int k (k.wrap (0 - n)))
 | .not, .bool b => some (.bool (!b))
 | .xor, .int k n => some (.int k (cb8 .xor k (if k.signed then -1 else k.max) n))
 | _, _ => none
def cp0 : NK → EV → EV → Option Bool
 | .sl, .nilsl, .nilsl => some true
 | .sl, .nilsl, .imm _ _ => some false
 | .sl, .nilsl, .zsl => some false
 | .sl, .zsl, .nilsl => some false
 | .sl, .nilsl, .own _ _ _ _ => some false
 | .sl, .imm _ _, .nilsl => some false
 | .sl, .own _ _ _ _, .nilsl => some false
 | .pt, .nilptr, .nilptr => some true
 | .pt, .nilptr, .ptr _ _ _ _ => some false
 | .pt, .ptr _ _ _ _, .nilptr => some false
 | .mp, .nilmap, .nilmap => some true
 | .mp, .nilmap, .map _ => some false
 | .mp, .map _, .nilmap => some false
 | .fn, .nilfn, .nilfn => some true
 | .fn, .nilfn, .func _ _ _ => some false
 | .fn, .func _ _ _, .nilfn => some false
 | .ifc, .nilif, .iface _ _ => some false
 | .ifc, .iface _ _, .nilif => some false
 | _, _, _ => none
def EOpd.isC : EOpd → Bool
 | .c .nilif => true
 | _ => false
def bn6 (c : Bool) (k : NK) (x y : EV) : Option Bool :=
 match k, x, y with
 | .ifc, .nilif, .nilif => if c then some true else none
 | k, x, y => cp0 k x y
def az6 (ag : Bool) (n : Nat) (x : EV) (H : Heap) : Option EV :=
 match x with
 | .ptr b sz i j =>
  match H[b]? with
  | some (some (.row sz' es)) =>
   if sz = sz' then
    match es[i]? with
    | some e => if j + n ≤ sz then some (pack ag ((e.cells.drop j).take n)) else none
    | none => none
   else none
  | _ => none
 | .iptr cells j => if j + n ≤ cells.length then some (pack ag ((cells.drop j).take n)) else none
 | _ => none
def bt5 (n : Nat) (x v : EV) (H : Heap) : Option Heap :=
 match x with
 | .ptr b sz i j =>
  match H[b]? with
  | some (some (.row sz' es)) =>
   if sz = sz' then
    match es[i]? with
    | some e =>
     if v.cells.length = n && v.cells.all EV.one && j + n ≤ sz && 0 < n then
      some (H.set b (some (.row sz (es.set i (bf9 e (e.cells.take j ++ v.cells ++ e.cells.drop (j + n)))))))
     else none
    | none => none
   else none
  | _ => none
 | _ => none
def bh6 : List EV → List (Nat × Nat × EV) → Option (List EV)
 | cs, [] => some cs
 | cs, (off, size, v) :: rest =>
  if v.cells.length = size ∧ off + size ≤ cs.length then bh6 (cs.take off ++ v.cells ++ cs.drop (off + size)) rest else none
def bc9 (dflt most : Nat) : Option EV → Option Nat
 | none => some dflt
 | some (.int _ n) => if 0 ≤ n ∧ n ≤ (most : Int) then some n.toNat else none
 | _ => none
def al7 (len cap : Nat) (lo hi : Option EV) : Option (Nat × Nat) :=
 match bc9 len cap hi with
 | some h =>
  match bc9 0 h lo with
  | some l => some (l, h)
  | none => none
 | none => none
def bv6 (sz : Nat) (x : EV) (lo hi : Option EV) : Option EV :=
 match x with
 | .nilsl =>
  match al7 0 0 lo hi with
  | some _ => some .nilsl
  | none => none
 | .zsl =>
  match al7 0 0 lo hi with
  | some _ => some .zsl
  | none => none
 | .own b bs off len =>
  if sz = bs then
   match al7 len len lo hi with
   | some p => some (.own b bs (off + p.1) (p.2 - p.1))
   | none => none
  else none
 | .imm bs es =>
  if sz = bs then
   match al7 es.length es.length lo hi with
   | some p => some (.imm bs ((es.drop p.1).take (p.2 - p.1)))
   | none => none
  else none
 | _ => none
def dv2 (sz : Nat) (x : EV) (lo : Option EV) (hi mx : EV) : Option EV :=
 match hi, mx with
 | .int _ h, .int _ m =>
  if h = m then
   match x with
   | .nilsl => bv6 sz .nilsl lo (some hi)
   | .zsl => bv6 sz .zsl lo (some hi)
   | .own b bs off len =>
    match al7 len len lo (some hi) with
    | some p => if p.1 = p.2 then some .zsl else bv6 sz (.own b bs off len) lo (some hi)
    | none => none
   | .imm bs es =>
    match al7 es.length es.length lo (some hi) with
    | some p => if p.1 = p.2 then some .zsl else bv6 sz (.imm bs es) lo (some hi)
    | none => none
   | _ => none
  else none
 | _, _ => none
def dv6 : EV → Option Nat
 | .nilsl => some 0
 | .zsl => some 0
 | _ => none
def bo5 : Bool → EV → Option Nat
 | true, .str s => some s.length
 | false, .nilsl => some 0
 | false, .zsl => some 0
 | false, .imm _ es => some es.length
 | false, .own _ _ _ len => some len
 | _, _ => none
def bh7 (H : Heap) : EV → Option (List EV)
 | .nilsl => some []
 | .zsl => some []
 | .imm _ es => some es
 | .own b sz off len =>
  match H[b]? with
  | some (some (.row sz' es)) => if sz = sz' ∧ off + len ≤ es.length then some ((es.drop off).take len) else none
  | _ => none
 | .str s => some (s.map fun b => .int .u8 b.toNat)
 | _ => none
def cw4 (off : Nat) : EV → Option EV
 | .ptr b sz i j => some (.ptr b sz i (j + off))
 | .iptr c j => some (.iptr c (j + off))
 | _ => none
def bc8 (sz : Nat) (k : Int) : EV → Option EV
 | .own b bs off len => if sz = bs ∧ 0 ≤ k ∧ k < len then some (.ptr b bs (off + k.toNat) 0) else none
 | .imm bs es =>
  if sz = bs ∧ 0 ≤ k then
   match es[k.toNat]? with
   | some e => some (.iptr e.cells 0)
   | none => none
  else none
 | _ => none
def bq9 (k : EV) : List (EV × EV) → Option EV
 | [] => none
 | e :: es => if eqL k.cells e.1.cells then some e.2 else bq9 k es
def putE (k v : EV) : List (EV × EV) → List (EV × EV)
 | [] => [(k, v)]
 | e :: es => if eqL k.cells e.1.cells then (k, v) :: es else e :: putE k v es
def bo3 (ag : Bool) (ks : List SK) (es : List (EV × EV)) : Bool := es.all fun e => az4 ag ks e.1
def ci8 (ag : Bool) (ks : List SK) (z : EV) (ok : Bool) (x k : EV) (H : Heap) : Option EV :=
 match x with
 | .nilmap => if az4 ag ks k then some (if ok then .tup [z, .bool false] else z) else none
 | .map b =>
  match H[b]? with
  | some (some (.map es)) =>
   if az4 ag ks k && bo3 ag ks es then
    match bq9 k es with
    | some v => some (if ok then .tup [v, .bool true] else v)
    | none => some (if ok then .tup [z, .bool false] else z)
   else none
  | _ => none
 | _ => none
def ci7 (ag : Bool) (ks : List SK) (x k v : EV) (H : Heap) : Option Heap :=
 match x with
 | .map b =>
  match H[b]? with
  | some (some (.map es)) => if az4 ag ks k && bo3 ag ks es then some (H.set b (some (.map (putE k v es)))) else none
  | _ => none
 | _ => none
def ab7 (sz bytes : Nat) (x y : EV) (H : Heap) : Option (EV × Heap) :=
 match bh7 H y with
 | some es =>
  if 0 < sz ∧ (es.all fun e => e.cells.length == sz && e.cells.all EV.one) = true then
   match x with
   | .nilsl =>
    if es.length = 0 then some (.nilsl, H)
    else if es.length ≤ 9223372036854775807 ∧ es.length * bytes ≤ 140737488355328 then some (.own H.length sz 0 es.length, H ++ [some (.row sz es)]) else none
   | .zsl =>
    if es.length = 0 then some (.zsl, H)
    else if es.length ≤ 9223372036854775807 ∧ es.length * bytes ≤ 140737488355328 then some (.own H.length sz 0 es.length, H ++ [some (.row sz es)]) else none
   | .own b bs off len =>
    match H[b]? with
    | some (some (.row bs' old)) =>
     if sz = bs ∧ bs = bs' ∧ off = 0 ∧ len ≤ old.length ∧ len + es.length ≤ 9223372036854775807 ∧ (len + es.length) * bytes ≤ 140737488355328 then
      some (.own H.length sz 0 (len + es.length), H.set b none ++ [some (.row sz (old.take len ++ es))])
     else none
    | _ => none
   | _ => none
  else none
 | none => none
def cp1 (sz bytes : Nat) (z x k : EV) (H : Heap) : Option (EV × Heap) :=
 match x, k with
 | .nilsl, .int _ n =>
  if 0 ≤ n ∧ n ≤ 9223372036854775807 ∧ n * bytes ≤ 140737488355328 then
   if n = 0 then some (.nilsl, H) else some (.own H.length sz 0 n.toNat, H ++ [some (.row sz (List.replicate n.toNat z))])
  else none
 | _, _ => none
def du4 (x : EV) (H : Heap) : Option (EV × Heap) :=
 match x with
 | .ptr b 0 0 0 =>
  match H[b]? with
  | some (some (.it s p)) =>
   if p < s.length then some (.tup [.bool true, .int .i64 (p : Int), .int .i32 ((Utf8.decode ⟨s.toArray⟩ p).1 : Nat)], H.set b (some (.it s (p + (Utf8.decode ⟨s.toArray⟩ p).2))))
   else some (.tup [.bool false], H)
  | _ => none
 | _ => none
def cw3 (n : Nat) (x : EV) (lo hi : Option EV) (H : Heap) : Option (EV × Heap) :=
 match x with
 | .ptr b _ 0 0 =>
  match H[b]? with
  | some (some (.row sz' es)) =>
   match es with
   | [.agg cs] =>
    if sz' = n ∧ cs.length = n ∧ (cs.all EV.one) = true then
     match al7 n n lo hi with
     | some p => some (.own b 1 p.1 (p.2 - p.1), H.set b (some (.row 1 cs)))
     | none => none
    else none
   | es =>
    if sz' = 1 ∧ es.length = n then
     match al7 n n lo hi with
     | some p => some (.own b 1 p.1 (p.2 - p.1), H)
     | none => none
    else none
  | _ => none
 | _ => none
def eg7 : EV → Option UInt8
 | .int .u8 n => some (UInt8.ofNat n.toNat)
 | _ => none
def bj9 : List EV → Option (List UInt8)
 | [] => some []
 | x :: xs =>
  match eg7 x, bj9 xs with
  | some b, some bs => some (b :: bs)
  | _, _ => none
def bt4 (x : EV) (H : Heap) : Option EV :=
 match x with
 | .nilsl => some (.str [])
 | .zsl => some (.str [])
 | .own b 1 off len =>
  match bh7 H (.own b 1 off len) with
  | some es => (bj9 es).map .str
  | none => none
 | .imm 1 es => (bj9 es).map .str
 | _ => none
def evMM (mx : Bool) (x y : EV) : Option EV :=
 match x, y with
 | .int k a, .int k' b => if k = k' then some (.int k (if mx then (if b > a then b else a) else (if b < a then b else a))) else none
 | _, _ => none
def du5 (sz bytes : Nat) (z l c : EV) (H : Heap) : Option (EV × Heap) :=
 match l, c with
 | .int _ n, .int _ m =>
  if 0 ≤ n ∧ n ≤ m ∧ (bytes : Int) * m ≤ 281474976710656 ∧ m ≤ 9223372036854775807 then
   some (.own H.length sz 0 n.toNat, H ++ [some (.row sz (List.replicate n.toNat z))])
  else none
 | _, _ => none
def dv3 (sz : Nat) (x y : EV) (H : Heap) : Option (EV × Heap) :=
 match bh7 H y with
 | some es =>
  if 0 < sz ∧ (es.all fun e => e.cells.length == sz && e.cells.all EV.one) = true then
   match x with
   | .nilsl => if es.length = 0 then some (.int .i64 0, H) else none
   | .zsl => if es.length = 0 then some (.int .i64 0, H) else none
   | .own b bs off len =>
    match H[b]? with
    | some (some (.row bs' old)) =>
     if sz = bs ∧ bs = bs' ∧ off + len ≤ old.length ∧ es.length ≤ len then
      some (.int .i64 (es.length : Int), H.set b (some (.row bs (old.take off ++ es ++ old.drop (off + es.length)))))
     else none
    | _ => none
   | _ => none
  else none
 | none => none
def bo6 (sz : Nat) (z x : EV) (H : Heap) : Option Heap :=
 match x with
 | .nilsl => some H
 | .zsl => some H
 | .imm _ es => if es.length = 0 then some H else none
 | .own b bs off len =>
  if len = 0 then some H else
  match H[b]? with
  | some (some (.row bs' old)) =>
   if sz = bs ∧ bs = bs' ∧ off + len ≤ old.length then some (H.set b (some (.row bs (old.take off ++ List.replicate len z ++ old.drop (off + len))))) else none
  | _ => none
 | _ => none
def co9 (t : TypeId) (ok : Bool) (z x : EV) : Option EV :=
 match x with
 | .nilif => if ok then some (.tup [z, .bool false]) else none
 | .iface t' v => if t' = t then some (if ok then .tup [v, .bool true] else v) else if ok then some (.tup [z, .bool false]) else none
 | _ => none
def dv1 (x c : EV) : Option EV :=
 match x, c with
 | .str s, .int .u8 n => some (.int .i64 (Go.Lib.indexByte s n.toNat.toUInt8))
 | _, _ => none
def dt8 (x : EV) : Option EV :=
 match x with
 | .int _ n => if 0 ≤ n ∧ n < 128 then some (.str [UInt8.ofNat n.toNat]) else none
 | _ => none
def evOp (ρ : EOpd → EV) (H : Heap) : EOp → Option (EV × Heap)
 | .mov x => some (ρ x, H)
 | .pick c a b =>
  match ρ c with
  | .bool t => some (if t then ρ a else ρ b, H)
  | _ => none
 | .box x => if (ρ x).cells.all EV.one then some (.ptr H.length (ρ x).cells.length 0 0, H ++ [some (.row (ρ x).cells.length [ρ x])]) else none
 | .build zs parts =>
  if parts.all (fun p => (ρ p.2.2).cells.all EV.one) then
   match bh6 zs (parts.map fun p => (p.1, p.2.1, ρ p.2.2)) with
   | some cs => some (.agg cs, H)
   | none => none
  else none
 | .bsl sz z len parts own =>
  if parts.all (fun p => (ρ p.2).cells.length == sz && (ρ p.2).cells.all EV.one) then
   if own then some (.own H.length sz 0 len, H ++ [some (.row sz ((parts.map fun p => (p.1, ρ p.2)).foldl (fun es p => es.set p.1 p.2) (List.replicate len z)))])
   else some (if len = 0 then .zsl else .imm sz ((parts.map fun p => (p.1, ρ p.2)).foldl (fun es p => es.set p.1 p.2) (List.replicate len z)), H)
  else none
 | .load ag n x => (az6 ag n (ρ x) H).map (·, H)
 | .store n x v => (bt5 n (ρ x) (ρ v) H).map (.undef, ·)
 | .nilchk x =>
  match ρ x with
  | .ptr b sz i j => some (.ptr b sz i j, H)
  | .iptr c j => some (.iptr c j, H)
  | .func (.func f) a b => some (.func (.func f) a b, H)
  | .iface t v => some (.iface t v, H)
  | _ => none
 | .bin op x y => (ef9 op (ρ x) (ρ y)).map (·, H)
 | .cmpBool neg x y =>
  match ρ x, ρ y with
  | .bool a, .bool b => some (.bool (if neg then !(a == b) else a == b), H)
  | _, _ => none
 | .cmpAgg neg ks x y =>
  match ρ x, ρ y with
  | .agg a, .agg b => if fits ks a && fits ks b then some (.bool (if neg then !eqL a b else eqL a b), H) else none
  | _, _ => none
 | .cmpNil neg k x y => (bn6 (x.isC || y.isC) k (ρ x) (ρ y)).map fun r => (.bool (if neg then !r else r), H)
 | .un op x => (evUn op (ρ x)).map (·, H)
 | .cvtInt k x =>
  match ρ x with
  | .int _ n => some (.int k (k.wrap n), H)
  | _ => none
 | .iface t x => some (.iface t (ρ x), H)
 | .func f a b => some (.func f (a.map ρ) (b.map ρ), H)
 | .faddr off x => (cw4 off (ρ x)).map (·, H)
 | .field ag off n x =>
  match ρ x with
  | .agg cs => if off + n ≤ cs.length then some (pack ag ((cs.drop off).take n), H) else none
  | _ => none
 | .iaddrA len sz x i =>
  match ρ i with
  | .int _ k => if 0 ≤ k ∧ k < len then (cw4 (k.toNat * sz) (ρ x)).map (·, H) else none
  | _ => none
 | .iaddrS sz x i =>
  match ρ i with
  | .int _ k => (bc8 sz k (ρ x)).map (·, H)
  | _ => none
 | .idxA len ag sz x i =>
  match ρ i, ρ x with
  | .int _ k, .agg cs => if 0 ≤ k ∧ k < len ∧ len * sz ≤ cs.length then some (pack ag ((cs.drop (k.toNat * sz)).take sz), H) else none
  | _, _ => none
 | .idxStr x i =>
  match ρ i, ρ x with
  | .int _ k, .str s => if 0 ≤ k then (s[k.toNat]?).map fun b => (.int .u8 b.toNat, H) else none
  | _, _ => none
 | .extract x i =>
  match ρ x with
  | .tup vs => (vs[i]?).map (·, H)
  | _ => none
 | .slStr x lo hi =>
  match ρ x with
  | .str s => (al7 s.length s.length (lo.map ρ) (hi.map ρ)).map fun p => (.str ((s.drop p.1).take (p.2 - p.1)), H)
  | _ => none
 | .slSl sz x lo hi => (bv6 sz (ρ x) (lo.map ρ) (hi.map ρ)).map (·, H)
 | .slSl3 sz x lo hi mx => (dv2 sz (ρ x) (lo.map ρ) (ρ hi) (ρ mx)).map (·, H)
 | .cap x => (dv6 (ρ x)).map fun (n : Nat) => (EV.int .i64 (n : Int), H)
 | .clear sz z x => (bo6 sz z (ρ x) H).map (.undef, ·)
 | .mkmap => some (.map H.length, H ++ [some (.map [])])
 | .lookup ag ks z ok x k => (ci8 ag ks z ok (ρ x) (ρ k) H).map (·, H)
 | .mapset ag ks x k v => (ci7 ag ks (ρ x) (ρ k) (ρ v) H).map (.undef, ·)
 | .append sz bytes x y => ab7 sz bytes (ρ x) (ρ y) H
 | .appz sz bytes z x k => cp1 sz bytes z (ρ x) (ρ k) H
 | .rng x =>
  match ρ x with
  | .str s => some (.ptr H.length 0 0 0, H ++ [some (.it s 0)])
  | _ => none
 | .next x => du4 (ρ x) H
 | .slArr n x lo hi => cw3 n (ρ x) (lo.map ρ) (hi.map ρ) H
 | .toStr x => (bt4 (ρ x) H).map (·, H)
 | .mm mx x y => (evMM mx (ρ x) (ρ y)).map (·, H)
 | .mkSl sz bytes z l c => du5 sz bytes z (ρ l) (ρ c) H
 | .copy sz x y => dv3 sz (ρ x) (ρ y) H
 | .tassert t ok z x => (co9 t ok z (ρ x)).map (·, H)
 | .runeStr x => (dt8 (ρ x)).map (·, H)
 | .idxB x c => (dv1 (ρ x) (ρ c)).map (·, H)
 | .len str x => (bo5 str (ρ x)).map fun (n : Nat) => (EV.int .i64 (n : Int), H)
 | _ => none
def mark (D : Nat) : Deferred := { target := .collected D, args := #[] }
structure NB where
 n : Nat
 base : List Deferred
 strict : Bool := false
def NB.lets (nb : NB) (D : Nat) : Prop := nb.n ≤ D ∧ nb.strict = false
instance : Coe Nat NB := ⟨fun n => ⟨n, [], false⟩⟩
instance (n : Nat) : OfNat NB n := ⟨⟨n, [], false⟩⟩
def Marks (nb : NB) (φ : Nat → Nat) (I : Nat → Prop) (H : Heap) (w : World) (ds : List Deferred) : Prop :=
 nb.n ≤ w.heap.size ∧ ∃ Ds : List Nat, ds = Ds.map mark ++ nb.base ∧ Ds.Nodup ∧ ∀ D ∈ Ds, nb.lets D ∧ w.heap[D]? = some (.deferred (some [])) ∧ ¬ Own φ H D ∧ ¬ I D
theorem Marks.none {nb : NB} {φ : Nat → Nat} {I : Nat → Prop} {H : Heap} {w : World} (h : nb.n ≤ w.heap.size) : Marks nb φ I H w nb.base := ⟨h, [], rfl, List.nodup_nil, by simp⟩
theorem Marks.evo {nb : NB} {φ φ' : Nat → Nat} {I I' : Nat → Prop} {H H' : Heap} {w w' : World} {ds : List Deferred} (h : Marks nb φ I H w ds) (he : Evo φ I H w φ' I' H' w') : Marks nb φ' I' H' w' ds := by
 obtain ⟨hnb, Ds, rfl, hnd, hD⟩ := h
 refine ⟨Nat.le_trans hnb he.size, Ds, rfl, hnd, fun D hm => ?_⟩
 obtain ⟨h1, h2, h3, h4⟩ := hD D hm
 have hlt : D < w.heap.size := (Array.getElem?_eq_some_iff.1 h2).1
 refine ⟨h1, (he.keep D hlt h3).trans h2, fun ho => ?_, fun hi => ?_⟩
 ·rcases he.own D ho with h | h
  ·exact h3 h
  ·omega
 ·rcases he.immf D hi with h | h | h
  ·exact h4 h
  ·exact h3 h
  ·omega
structure Rel (γ : Nat → EV) (n : Nat) (nb : NB) (φ : Nat → Nat) (I : Nat → Prop) (s : aa2) (H : Heap) (a : Act) (w : World) : Prop where
 sz : a.tmps.size = n
 slots : ∀ t, RV φ H.length I w (s t) (a.tmps.getD t Go.undef)
 heap : RH γ φ I H w
 defers : Marks nb φ I H w a.defers
theorem ca4 {φ : Nat → Nat} {N : Nat} {I : Nat → Prop} {w : World} {v : Value} {x : EV} (h : bw8 v = some x) : RV φ N I w x v := by
 unfold bw8 at h
 split at h <;> simp only [Option.some.injEq, reduceCtorEq] at h <;> subst h
 ·exact .bool _
 ·exact .int _ _
 ·rename_i s
  have : RV φ N I w (.str s.data.toList) (.string ⟨s.data.toList.toArray⟩) := .str _
  simpa using this
 ·exact .nilptr
 ·exact .nilsl
 ·exact .nilfn
 ·exact .nilif
 ·exact .nilmap
theorem ao1 {α β : Type} {f : α → Option β} : ∀ {l : List α} {m : List β}, l.mapM f = some m → m.length = l.length ∧ ∀ (i : Nat) (x : α) (y : β), l[i]? = some x → m[i]? = some y → f x = some y
 | [], m, h => by
  simp at h; subst h; simp
 | x :: l, m, h => by
  simp only [List.mapM_cons, Option.pure_def, Option.bind_eq_bind, Option.bind_eq_some_iff, Option.some.injEq] at h
  obtain ⟨y, hy, m', hm, rfl⟩ := h
  obtain ⟨h1, h2⟩ := ao1 hm
  refine ⟨by simp [h1], fun i => ?_⟩
  cases i with
  | zero => intro a b ha hb; simp at ha hb; subst ha hb; exact hy
  | succ i => intro a b ha hb; exact h2 i a b (by simpa using ha) (by simpa using hb)
theorem an6 {φ : Nat → Nat} {N : Nat} {I : Nat → Prop} {w : World} {v : Value} {x : EV} (h : ca5 v = some x) : RV φ N I w x v := by
 unfold ca5 at h
 split at h
 ·rename_i cs
  simp only [Option.map_eq_some_iff] at h
  obtain ⟨m, hm, rfl⟩ := h
  obtain ⟨h1, h2⟩ := ao1 hm
  refine .agg m cs (by simpa using h1) fun k x v hx hv => ca4 (h2 k v x (by simpa using hv) hx)
 ·rename_i cs
  split at h
  ·rename_i h0
   simp at h; subst h
   exact .tup [] cs (by simp [h0]) (by simp)
  ·simp at h
 ·exact ca4 h
theorem ab5 {γ : Nat → EV} {n : Nat} {nb : NB} {φ : Nat → Nat} {I : Nat → Prop} {s : aa2} {H : Heap} {a : Act} {w : World} (hR : Rel γ n nb φ I s H a w)
  {x : Operand} {e : EOpd} (h : aa8 x = some e) : RV φ H.length I w (ev γ s e) (a.eval x) := by
 cases x with
 | tmp t => simp only [aa8, Option.some.injEq] at h; subst h; exact hR.slots t
 | const v =>
  simp only [aa8, Option.map_eq_some_iff] at h
  obtain ⟨y, hy, rfl⟩ := h
  exact an6 hy
 | global g =>
  simp only [aa8, Option.some.injEq] at h; subst h
  exact (hR.heap.glob g).mono (Nat.zero_le _) (fun _ hi => absurd hi (Nat.not_lt_zero _)) (fun _ h => h) (fun _ _ => rfl) (fun _ hb => absurd hb (Nat.not_lt_zero _))
 | func f =>
  simp only [aa8, Option.some.injEq] at h; subst h
  exact .func _ [] [] #[] #[] rfl rfl (by simp) (by simp)
theorem RV.cells {φ : Nat → Nat} {N : Nat} {I : Nat → Prop} {w : World} {x : EV} {v : Value} (h : RV φ N I w x v) (hu : x.cells.all EV.one = true) :
  v.cells.size = x.cells.length ∧ (∀ (k : Nat) (y : EV) (u : Value), x.cells[k]? = some y → v.cells[k]? = some u → RV φ N I w y u) := by
 have one : ∀ {x : EV} {v : Value}, RV φ N I w x v → x.cells = [x] → v.cells = #[v] →
   v.cells.size = x.cells.length ∧ (∀ (k : Nat) (y : EV) (u : Value), x.cells[k]? = some y → v.cells[k]? = some u → RV φ N I w y u) := by
  intro x v h e1 e2
  rw [e1, e2]
  refine ⟨rfl, fun k y u hy hu => ?_⟩
  cases k with
  | zero => simp at hy hu; subst hy hu; exact h
  | succ k => simp at hy
 cases h with
 | agg cs vs hl h => exact ⟨hl.symm, h⟩
 | undef v => simp [EV.cells, EV.one] at hu
 | tup cs vs hl h => simp [EV.cells, EV.one] at hu
 | bool b => exact one (.bool b) rfl rfl
 | int k n => exact one (.int k n) rfl rfl
 | str s => exact one (.str s) rfl rfl
 | nilptr => exact one .nilptr rfl rfl
 | ptr b sz i j hb => exact one (.ptr b sz i j hb) rfl rfl
 | iptr cells j B o c T fr hB hb hs' hh => exact one (.iptr cells j B o c T fr hB hb hs' hh) rfl rfl
 | nilsl => exact one .nilsl rfl rfl
 | zsl a => exact one (.zsl a) rfl rfl
 | imm sz es B o cap c T fr hB hb hs' hc hz hh => exact one (.imm sz es B o cap c T fr hB hb hs' hc hz hh) rfl rfl
 | imm0 sz a => exact one (.imm0 sz a) rfl rfl
 | own0 b sz off a hb => exact one (.own0 b sz off a hb) rfl rfl
 | own b sz off len cap n T hb hsh hn hc => exact one (.own b sz off len cap n T hb hsh hn hc) rfl rfl
 | nilfn => exact one .nilfn rfl rfl
 | func f first cap vf vc h1 h2 h3 h4 => exact one (.func f first cap vf vc h1 h2 h3 h4) rfl rfl
 | nilif => exact one .nilif rfl rfl
 | iface t x v hx => exact one (.iface t x v hx) rfl rfl
 | nilmap => exact one .nilmap rfl rfl
 | map b hb => exact one (.map b hb) rfl rfl
theorem RV.one {φ : Nat → Nat} {N : Nat} {I : Nat → Prop} {w : World} {x : EV} {v : Value} (h : RV φ N I w x v) (hu : x.one = true) : v.oneCell' = true ∧ v.cells = #[v] ∧ x.cells = [x] := by
 cases h <;> first | exact ⟨rfl, rfl, rfl⟩ | simp [EV.one] at hu
theorem at3 (B o n : Nat) : (⟨B, o, none⟩ : Addr).add n = ⟨B, o + n, none⟩ := by
 unfold Addr.add
 split
 ·subst_vars; rfl
 ·rfl
theorem by0 (P : Program) {w : World} {B o n : Nat} {c : Array Value} {T : TypeId} {fr : Nat × Nat} (hB : w.heap[B]? = some (.cells c T fr)) (hs : o + n ≤ c.size) :
  (loadCells ⟨B, o, none⟩ n).run P w = .ok ((c.toList.drop o).take n).toArray w := by
 have h := run_loadCells_list (P := P) w ⟨B, o, none⟩ ((c.toList.drop o).take n) (fun j v hv => by
  rw [at3, cell_of_row w B _ c T fr hB]
  have hj := aa3 hv
  simp only [List.length_take, List.length_drop, Array.length_toList] at hj
  rw [List.getElem?_take_of_lt (by omega), List.getElem?_drop] at hv
  simpa using hv)
 simpa [List.length_take, Nat.min_eq_left (show n ≤ c.size - o by omega)] using h
theorem bw2 {P : Program} {t : TypeId} {ag : Bool} {n : Nat} (h : tyOf P t = some (ag, n)) (w : World) :
  (isAgg t).run P w = .ok ag w ∧ (Go.sizeOf t).run P w = .ok n w ∧ (ag = false → n = 1) := by
 unfold tyOf at h
 split at h
 ·rename_i i hu hi
  simp only [Option.some.injEq, Prod.mk.injEq] at h
  obtain ⟨rfl, rfl⟩ := h
  exact ⟨by simp [isAgg, run_underlying hu], by simp [Go.sizeOf, typeInfo, hi], by simp⟩
 ·rename_i i hu hi
  simp only [Option.some.injEq, Prod.mk.injEq] at h
  obtain ⟨rfl, rfl⟩ := h
  exact ⟨by simp [isAgg, run_underlying hu], by simp [Go.sizeOf, typeInfo, hi], by simp⟩
 ·rename_i d i h1 h2 hu hi
  split at h
  ·rename_i h3
   simp only [Option.some.injEq, Prod.mk.injEq] at h
   obtain ⟨rfl, rfl⟩ := h
   refine ⟨?_, by simp [Go.sizeOf, typeInfo, hi, h3], by simp⟩
   simp only [isAgg, Sem.run_bind, run_underlying hu, Result.andThen_ok]
   cases d <;> first | rfl | exact absurd rfl (h1 _) | exact absurd rfl (h2 _ _)
  ·simp at h
 ·simp at h
theorem dq8 {P : Program} {φ : Nat → Nat} {N : Nat} {I : Nat → Prop} {w : World} {t : TypeId} {ag : Bool} {n B o : Nat} (hty : tyOf P t = some (ag, n))
  {c : Array Value} {T : TypeId} {fr : Nat × Nat} (hB : w.heap[B]? = some (.cells c T fr)) {cs : List EV} (hl : cs.length = n) (hs : o + n ≤ c.size)
  (h : ∀ (k : Nat) (x : EV) (v : Value), cs[k]? = some x → c[o + k]? = some v → RV φ N I w x v) :
  ∃ val, (Instr.loadAt t (.pointer (some ⟨B, o, none⟩))).run P w = .ok val w ∧ RV φ N I w (pack ag cs) val := by
 obtain ⟨h1, h2, h3⟩ := bw2 hty w
 cases ag with
 | true =>
  refine ⟨.agg ((c.toList.drop o).take n).toArray, by simp [Instr.loadAt, Instr.sureAddr, loadVar, h1, h2, by0 P hB hs], ?_⟩
  refine .agg cs _ (by simp [hl]; omega) fun k x v hx hv => h k x v hx ?_
  have hk := aa3 hx
  simp only [List.getElem?_toArray] at hv
  rw [List.getElem?_take_of_lt (by omega), List.getElem?_drop] at hv
  simpa using hv
 | false =>
  obtain rfl := h3 rfl
  have hc : w.cell? ⟨B, o, none⟩ = some c[o] := by simp [World.cell?, hB, show o < c.size by omega]
  refine ⟨c[o], by simp [Instr.loadAt, Instr.sureAddr, loadVar, h1, hc], ?_⟩
  match cs, hl with
  | [x], _ => exact h 0 x _ rfl (by simp)
theorem cf1 {P : Program} {γ : Nat → EV} {φ : Nat → Nat} {I : Nat → Prop} {H : Heap} {w : World} (hr : RH γ φ I H w) {t : TypeId} {ag : Bool} {n : Nat} (hty : tyOf P t = some (ag, n))
  {x v : EV} {vx : Value} (hx : RV φ H.length I w x vx) (hev : az6 ag n x H = some v) :
  ∃ val, (Instr.loadAt t vx).run P w = .ok val w ∧ RV φ H.length I w v val := by
 unfold az6 at hev
 split at hev
 ·rename_i b sz i j
  cases hx with
  | ptr _ _ _ _ hb =>
  split at hev
  ·rename_i sz' es hH
   split at hev
   ·rename_i hsz
    subst hsz
    split at hev
    ·rename_i e he
     split at hev
     ·rename_i hle
      simp only [Option.some.injEq] at hev
      subst hev
      obtain ⟨c, T, hB, hc1, hc2, hc3⟩ := hr.blk b _ hH
      have hes := aa3 he
      have hz := hc2 e (List.mem_of_getElem? he)
      have hmul : i * sz + sz ≤ c.size := by
       have : (i + 1) * sz ≤ es.length * sz := Nat.mul_le_mul_right _ hes
       rw [Nat.add_mul] at this; omega
      refine dq8 hty hB (by simp [hz]; omega) (by omega) fun k x v hx hv => ?_
      have hk := aa3 hx
      simp only [List.length_take, List.length_drop] at hk
      rw [List.getElem?_take_of_lt (by omega), List.getElem?_drop] at hx
      exact hc3 i (j + k) e x v he hx (by rw [← Nat.add_assoc]; exact hv)
     ·simp at hev
    ·simp at hev
   ·simp at hev
  ·simp at hev
 ·rename_i cells j
  cases hx with
  | iptr _ _ B o c T fr hI hB hs h =>
  split at hev
  ·rename_i hle
   simp only [Option.some.injEq] at hev
   subst hev
   refine dq8 hty hB (by simp; omega) (by omega) fun k x v hx hv => ?_
   have hk := aa3 hx
   simp only [List.length_take, List.length_drop] at hk
   rw [List.getElem?_take_of_lt (by omega), List.getElem?_drop] at hx
   exact h (j + k) x v hx (by rw [← Nat.add_assoc]; exact hv)
  ·simp at hev
 ·simp at hev
theorem ak4 {α : Type} (l vs : List α) (o : Nat) (h : o + vs.length ≤ l.length) (m : Nat) :
  (l.take o ++ vs ++ l.drop (o + vs.length))[m]? = if m < o then l[m]? else if m < o + vs.length then vs[m - o]? else l[m]? := by
 have h1 : (l.take o).length = o := by simp; omega
 by_cases a : m < o
 ·rw [if_pos a, List.append_assoc, List.getElem?_append_left (by omega), List.getElem?_take_of_lt a]
 ·rw [if_neg a]
  by_cases b : m < o + vs.length
  ·rw [if_pos b, List.append_assoc, List.getElem?_append_right (by omega), h1, List.getElem?_append_left (by omega)]
  ·rw [if_neg b, List.getElem?_append_right (by simp; omega), List.getElem?_drop]
   congr 1
   simp
   omega
theorem ap3 {α : Type} (l vs : List α) (o : Nat) (h : o + vs.length ≤ l.length) : (l.take o ++ vs ++ l.drop (o + vs.length)).length = l.length := by
 simp; omega
theorem bz0 {x : EV} (h : x.one = true) : x.cells = [x] := by
 cases x <;> first | rfl | simp [EV.one] at h
theorem bx2 {e : EV} {cs : List EV} (hl : e.cells.length = cs.length) (h : ∀ x ∈ cs, x.one = true ∨ (e.cells ≠ [e])) : (bf9 e cs).cells = cs := by
 unfold bf9
 split
 ·rfl
 ·rename_i hne
  have he : e.cells = [e] := by
   cases e <;> first | rfl | exact absurd rfl (hne _)
  rw [he] at hl
  match cs, hl with
  | [x], _ =>
   rcases h x (by simp) with h1 | h1
   ·simpa using bz0 h1
   ·exact absurd he h1
theorem am7 {i j sz m : Nat} (hj : j < sz) (h : i < m) : i * sz + j < m * sz := by
 have : (i + 1) * sz ≤ m * sz := Nat.mul_le_mul_right _ h
 rw [Nat.add_mul] at this; omega
theorem ek9 {φ : Nat → Nat} {N : Nat} {I : Nat → Prop} {w w' : World} {B sz i j n : Nat} {es : List EV} {e v : EV} {c : Array Value} {T : TypeId} {vs : List Value}
  (hc1 : es.length * sz ≤ c.size) (hc2 : ∀ e ∈ es, e.cells.length = sz)
  (hc3 : ∀ (i j : Nat) (e x : EV) (v : Value), es[i]? = some e → e.cells[j]? = some x → c[i * sz + j]? = some v → RV φ N I w x v)
  (he : es[i]? = some e) (hn : v.cells.length = n) (hn0 : 0 < n) (hone : v.cells.all EV.one = true) (hle : j + n ≤ sz) (hl : vs.length = n)
  (hv : ∀ (k : Nat) (y : EV) (u : Value), v.cells[k]? = some y → vs[k]? = some u → RV φ N I w y u)
  (hm : ∀ (y : EV) (u : Value), RV φ N I w y u → RV φ N I w' y u)
  (hB : w'.heap[B]? = some (.cells (c.toList.take (i * sz + j) ++ vs ++ c.toList.drop (i * sz + j + vs.length)).toArray T (0, 0))) :
  RB φ N I w' B (.row sz (es.set i (bf9 e (e.cells.take j ++ v.cells ++ e.cells.drop (j + n))))) := by
 have hes := aa3 he
 have hz := hc2 e (List.mem_of_getElem? he)
 have hmul : i * sz + sz ≤ c.size := by
  have : (i + 1) * sz ≤ es.length * sz := Nat.mul_le_mul_right _ hes
  rw [Nat.add_mul] at this; omega
 have hfit : i * sz + j + vs.length ≤ c.toList.length := by rw [hl]; simp; omega
 have hnl : (e.cells.take j ++ v.cells ++ e.cells.drop (j + n)).length = sz := by
  rw [← hn]; rw [ap3 _ _ _ (by omega)]; exact hz
 have hwc : (bf9 e (e.cells.take j ++ v.cells ++ e.cells.drop (j + n))).cells = e.cells.take j ++ v.cells ++ e.cells.drop (j + n) := by
  refine bx2 (by rw [hnl, hz]) fun y hy => ?_
  by_cases hc : e.cells = [e]
  ·rw [hc] at hz
   simp at hz
   left
   obtain ⟨h1, h2⟩ : n = 1 ∧ j = 0 := by omega
   subst h1 h2
   simp [hc] at hy
   exact List.all_eq_true.1 hone y hy
  ·exact .inr hc
 refine ⟨_, T, hB, ?_, ?_, ?_⟩
 ·rw [List.length_set]
  simp only [List.size_toArray]
  rw [ap3 c.toList vs (i * sz + j) hfit]
  simpa using hc1
 ·intro y hy
  rcases List.mem_or_eq_of_mem_set hy with h | rfl
  ·exact hc2 y h
  ·rw [hwc, hnl]
 ·intro i' j' e' y u he' hy hu
  simp only [List.getElem?_toArray] at hu
  rw [ak4 _ _ _ hfit, hl] at hu
  refine hm _ _ ?_
  by_cases hii : i = i'
  ·subst hii
   rw [List.getElem?_set_self hes] at he'
   simp only [Option.some.injEq] at he'
   subst he'
   rw [hwc, ← hn, ak4 _ _ _ (by omega)] at hy
   by_cases a1 : j' < j
   ·rw [if_pos a1] at hy
    rw [if_pos (by omega)] at hu
    exact hc3 i j' e y u he hy (by simpa using hu)
   ·rw [if_neg a1] at hy
    rw [if_neg (by omega)] at hu
    by_cases a2 : j' < j + v.cells.length
    ·rw [if_pos a2] at hy
     rw [if_pos (by omega)] at hu
     exact hv (j' - j) y u hy (by rw [show i * sz + j' - (i * sz + j) = j' - j by omega] at hu; exact hu)
    ·rw [if_neg a2] at hy
     rw [if_neg (by omega)] at hu
     exact hc3 i j' e y u he hy (by simpa using hu)
  ·rw [List.getElem?_set_ne hii] at he'
   have hz' := hc2 e' (List.mem_of_getElem? he')
   have hj' := aa3 hy
   have hout : ¬ (i * sz + j ≤ i' * sz + j' ∧ i' * sz + j' < i * sz + j + n) := by
    rintro ⟨g1, g2⟩
    rcases Nat.lt_or_gt_of_ne hii with g | g
    ·have : (i + 1) * sz ≤ i' * sz := Nat.mul_le_mul_right _ g
     rw [Nat.add_mul] at this; omega
    ·have : (i' + 1) * sz ≤ i * sz := Nat.mul_le_mul_right _ g
     rw [Nat.add_mul] at this; omega
   refine hc3 i' j' e' y u he' hy ?_
   by_cases a1 : i' * sz + j' < i * sz + j
   ·rw [if_pos a1] at hu; simpa using hu
   ·rw [if_neg a1, if_neg (by omega)] at hu; simpa using hu
theorem em7 {φ : Nat → Nat} {N : Nat} {I : Nat → Prop} {w : World} {cs : List EV} {vs : List Value} (hl : vs.length = cs.length) (hone : cs.all EV.one = true)
  (h : ∀ (k : Nat) (y : EV) (u : Value), cs[k]? = some y → vs[k]? = some u → RV φ N I w y u) : ∀ u ∈ vs, u.oneCell' = true := by
 intro u hu
 obtain ⟨k, hk, rfl⟩ := List.mem_iff_getElem.1 hu
 have hk' : k < cs.length := by omega
 exact (RV.one (h k cs[k] _ (by simp [hk']) (by simp [hk])) (List.all_eq_true.1 hone _ (List.getElem_mem hk'))).1
theorem cs5 {P : Program} {γ : Nat → EV} {φ : Nat → Nat} {I : Nat → Prop} {H H' : Heap} {w : World} (hr : RH γ φ I H w) {t : TypeId} {q : TypeInfo} (hty : P.info? t = some q)
  {x v : EV} {vx vv : Value} (hx : RV φ H.length I w x vx) (hv : RV φ H.length I w v vv) (hev : bt5 q.size x v H = some H') :
  ∃ w', (Instr.storeAt t vx vv).run P w = .ok () w' ∧ Evo φ I H w φ I H' w' ∧ RH γ φ I H' w' := by
 unfold bt5 at hev
 split at hev
 ·rename_i b sz i j
  cases hx with
  | ptr _ _ _ _ hb =>
  split at hev
  ·rename_i sz' es hH
   split at hev
   ·rename_i hsz
    subst hsz
    split at hev
    ·rename_i e he
     split at hev
     ·rename_i hcond
      simp only [Bool.and_eq_true, decide_eq_true_eq] at hcond
      obtain ⟨⟨⟨hn, hone⟩, hle⟩, hn0⟩ := hcond
      simp only [Option.some.injEq] at hev
      subst hev
      obtain ⟨c, T, hB, hc1, hc2, hc3⟩ := hr.blk b _ hH
      have hes := aa3 he
      obtain ⟨hvc, hvr⟩ := hv.cells hone
      have hmul : i * sz + sz ≤ c.size := by
       have : (i + 1) * sz ≤ es.length * sz := Nat.mul_le_mul_right _ hes
       rw [Nat.add_mul] at this; omega
      have hlen : vv.cells.toList.length = q.size := by simp [hvc, hn]
      have hfit : i * sz + j + vv.cells.toList.length ≤ c.toList.length := by rw [hlen]; simp; omega
      have hvr' : ∀ (k : Nat) (y : EV) (u : Value), v.cells[k]? = some y → vv.cells.toList[k]? = some u → RV φ H.length I w y u := fun k y u hy hu => hvr k y u hy (by simpa using hu)
      have hones := em7 (by simp [hvc]) hone hvr'
      have hst := run_storeCells_at P (φ b) (i * sz + j) T vv.cells.toList 0 c w hB (by simpa using hfit) hones
      simp only [Nat.add_zero] at hst
      have hcs : (c.toList.take (i * sz + j) ++ vv.cells.toList ++ c.toList.drop (i * sz + j + vv.cells.toList.length)).toArray.size = c.size := by
       simpa using ap3 c.toList vv.cells.toList (i * sz + j) hfit
      generalize hc' : (c.toList.take (i * sz + j) ++ vv.cells.toList ++ c.toList.drop (i * sz + j + vv.cells.toList.length)).toArray = c' at hst hcs
      refine ⟨w.setRow (φ b) c', ?_, ax7 hH hB hcs, bq0 hr hH hB hcs ?_⟩
      ·simp only [Instr.storeAt, Instr.sureAddr, storeVar, Go.sizeOf, typeInfo, Sem.run_bind, Sem.run_pure, run_program, hty, Result.andThen_ok, hvc, hn, ne_eq, not_true_eq_false, if_false]
       exact hst
      ·refine ek9 hc1 hc2 hc3 he hn hn0 hone hle hlen hvr' (fun y u h => ?_) (T := T) (by rw [hc']; exact setRow_heap w (φ b) c c' T (0, 0) hB)
       have := (ax7 (I := I) (y := EB.row sz es) hH hB hcs).rv hr h
       simpa using this
     ·simp at hev
    ·simp at hev
   ·simp at hev
  ·simp at hev
 ·simp at hev
theorem ds3 (op : BinOp) (t : TypeId) (ox oy : Operand) (k k' : IntKind) (a b : Int) : eqGuard op t ox oy (.int k a) (.int k' b) = pure () := by
 cases op <;> rfl
theorem ds1 (op : BinOp) (t : TypeId) (ox oy : Operand) (a b : ByteArray) : eqGuard op t ox oy (.string a) (.string b) = pure () := by
 cases op <;> rfl
theorem dh1 (op : BinOp) (t : TypeId) (ox oy : Operand) (a b : Bool) : eqGuard op t ox oy (.bool a) (.bool b) = pure () := by
 cases op <;> rfl
theorem ay2 (s : List UInt8) : (⟨s.toArray⟩ : ByteArray).size = s.length := by simp [ByteArray.size]
theorem cq9 (a b : List UInt8) : (⟨a.toArray⟩ : ByteArray) ++ ⟨b.toArray⟩ = ⟨(a ++ b).toArray⟩ := by
 apply ByteArray.ext
 simp
theorem cb9 {P : Program} {φ : Nat → Nat} {N : Nat} {I : Nat → Prop} {w : World} {op : BinOp} (t : TypeId) (ox oy : Operand) {x y r : EV} {vx vy : Value}
  (hx : RV φ N I w x vx) (hy : RV φ N I w y vy) (hev : ef9 op x y = some r) :
  ∃ val, (do eqGuard op t ox oy vx vy; binOp op t vx vy : Sem Value).run P w = .ok val w ∧ RV φ N I w r val := by
 unfold ef9 at hev
 split at hev
 ·rename_i k a k' b
  cases hx; cases hy
  simp only [ds3, Sem.run_bind, Sem.run_pure, Result.andThen_ok]
  split at hev
  ·split at hev
   ·rename_i h0
    simp only [Option.some.injEq] at hev; subst hev
    exact ⟨_, by simp only [binOp, Go.Op.shift]; rw [if_neg (by omega)]; rfl, .int _ _⟩
   ·simp at hev
  ·split at hev
   ·rename_i h0
    simp only [Option.some.injEq] at hev; subst hev
    exact ⟨_, by simp only [binOp, Go.Op.shift]; rw [if_neg (by omega)]; rfl, .int _ _⟩
   ·simp at hev
  ·split at hev
   ·rename_i hk
    subst hk
    split at hev
    ·simp only [Option.some.injEq] at hev; subst hev
     exact ⟨_, by simp [binOp, Go.Op.intArith], .int _ _⟩
    ·simp only [Option.some.injEq] at hev; subst hev
     exact ⟨_, by simp [binOp, Go.Op.intArith], .int _ _⟩
    ·simp only [Option.some.injEq] at hev; subst hev
     exact ⟨_, by simp [binOp, Go.Op.intArith], .int _ _⟩
    ·split at hev
     ·simp at hev
     ·rename_i hb
      simp only [Option.some.injEq] at hev; subst hev
      exact ⟨_, by simp [binOp, Go.Op.intDiv, hb], .int _ _⟩
    ·split at hev
     ·simp at hev
     ·rename_i hb
      simp only [Option.some.injEq] at hev; subst hev
      exact ⟨_, by simp [binOp, Go.Op.intDiv, hb], .int _ _⟩
    ·simp only [Option.some.injEq] at hev; subst hev
     exact ⟨_, by simp [binOp, Go.Op.intCmp], .bool _⟩
    ·simp only [Option.some.injEq] at hev; subst hev
     exact ⟨_, by simp [binOp, Go.Op.intCmp], .bool _⟩
    ·simp only [Option.some.injEq] at hev; subst hev
     exact ⟨_, by simp [binOp, Go.Op.intCmp], .bool _⟩
    ·simp only [Option.some.injEq] at hev; subst hev
     exact ⟨_, by simp [binOp, Go.Op.intCmp], .bool _⟩
    ·simp only [Option.some.injEq] at hev; subst hev
     exact ⟨_, by simp [binOp, Go.Op.intCmp], .bool _⟩
    ·simp only [Option.some.injEq] at hev; subst hev
     exact ⟨_, by simp [binOp, Go.Op.intCmp], .bool _⟩
    ·simp only [Option.some.injEq] at hev; subst hev
     refine ⟨_, ?_, .int _ _⟩
     cases op <;> simp_all [binOp, Go.Op.intBits, cb8]
   ·simp at hev
 ·rename_i a b
  cases hx; cases hy
  simp only [ds1, Sem.run_bind, Sem.run_pure, Result.andThen_ok]
  split at hev
  ·simp only [Option.some.injEq] at hev; subst hev
   exact ⟨_, by simp [binOp, Go.Op.stringOp], .bool _⟩
  ·simp only [Option.some.injEq] at hev; subst hev
   exact ⟨_, by simp [binOp, Go.Op.stringOp], .bool _⟩
  ·split at hev
   ·rename_i hl
    simp only [Option.some.injEq] at hev; subst hev
    refine ⟨_, ?_, .str _⟩
    simp only [binOp, Go.Op.stringOp, ay2, cq9]
    rw [if_neg (by simp; omega)]
    rfl
   ·simp at hev
  ·simp only [Option.some.injEq] at hev; subst hev
   exact ⟨_, by simp [binOp, Go.Op.stringOp], .bool _⟩
  ·simp only [Option.some.injEq] at hev; subst hev
   exact ⟨_, by simp [binOp, Go.Op.stringOp], .bool _⟩
  ·simp only [Option.some.injEq] at hev; subst hev
   exact ⟨_, by simp [binOp, Go.Op.stringOp], .bool _⟩
  ·simp only [Option.some.injEq] at hev; subst hev
   exact ⟨_, by simp [binOp, Go.Op.stringOp], .bool _⟩
  ·simp at hev
 ·simp at hev
theorem dz7 {P : Program} {φ : Nat → Nat} {N : Nat} {I : Nat → Prop} {w : World} {op : UnOp} {x r : EV} {vx : Value}
  (hx : RV φ N I w x vx) (hev : evUn op x = some r) : ∃ val, (Go.Op.unary op vx).run P w = .ok val w ∧ RV φ N I w r val := by
 unfold evUn at hev
 split at hev
 ·cases hx
  simp only [Option.some.injEq] at hev; subst hev
  exact ⟨_, by simp [Go.Op.unary, Go.Op.intArith], .int _ _⟩
 ·cases hx
  simp only [Option.some.injEq] at hev; subst hev
  exact ⟨_, by simp [Go.Op.unary], .bool _⟩
 ·cases hx
  simp only [Option.some.injEq] at hev; subst hev
  exact ⟨_, by simp [Go.Op.unary, Go.Op.intBits, cb8], .int _ _⟩
 ·simp at hev
theorem bw1 {P : Program} {t : TypeId} {vs : List Value} (h : ∃ d, P.underlying t = some d ∧ aggD d = true) : valT P t vs = .agg vs.toArray := by
 obtain ⟨d, hu, hd⟩ := h
 unfold valT
 rw [hu]
 cases d <;> first | rfl | (simp [aggD] at hd)
theorem bx9 {φ : Nat → Nat} {N : Nat} {I : Nat → Prop} {w : World} : ∀ {ks : List SK} {cs : List EV} {vs : List Value}, fits ks cs = true → cs.length = vs.length →
  (∀ (k : Nat) (x : EV) (v : Value), cs[k]? = some x → vs[k]? = some v → RV φ N I w x v) → vs = cs.map at4
 | [], [], vs, _, hl, _ => by simpa using hl.symm
 | k :: ks, x :: cs, [], _, hl, _ => by simp at hl
 | k :: ks, x :: cs, v :: vs, hf, hl, h => by
  simp only [fits, Bool.and_eq_true] at hf
  have h0 := h 0 x v rfl rfl
  have := bx9 hf.2 (by simpa using hl) (fun k x v hx hv => h (k + 1) x v (by simpa using hx) (by simpa using hv))
  subst this
  rcases dm1 h0 hf.1 with ⟨b, _, rfl, rfl⟩ | ⟨q, n, _, rfl, rfl⟩ | ⟨s, _, rfl, rfl⟩ <;> rfl
 | [], _ :: _, _, h, _, _ => by simp [fits] at h
 | _ :: _, [], _, h, _, _ => by simp [fits] at h
theorem ds4 {P : Program} {op : BinOp} {t : TypeId} {ox oy : Operand} {xs ys : Array Value} {w : World} (h : P.eqGuardType P.depth t = false) :
  (eqGuard op t ox oy (.agg xs) (.agg ys)).run P w = .ok () w := by
 unfold eqGuard
 cases op <;> simp [h]
theorem cq6 {P : Program} {φ : Nat → Nat} {N : Nat} {I : Nat → Prop} {w : World} {op : BinOp} (hop : op = .eql ∨ op = .neq) {t : TypeId} (ox oy : Operand) {ks : List SK} {a b : List EV} {vx vy : Value}
  (hk : au0 P 16 t = some ks) (hd : ∃ d, P.underlying t = some d ∧ aggD d = true) (hg : P.eqGuardType P.depth t = false)
  (hx : RV φ N I w (.agg a) vx) (hy : RV φ N I w (.agg b) vy) (fa : fits ks a = true) (fb : fits ks b = true) :
  (do eqGuard op t ox oy vx vy; binOp op t vx vy : Sem Value).run P w = .ok (.bool (if op == .neq then !eqL a b else eqL a b)) w := by
 cases hx with
 | agg _ xs hl hxs =>
 cases hy with
 | agg _ ys hl' hys =>
 have e1 := bx9 (vs := xs.toList) fa (by simpa using hl) (fun k x v h1 h2 => hxs k x v h1 (by simpa using h2))
 have e2 := bx9 (vs := ys.toList) fb (by simpa using hl') (fun k x v h1 h2 => hys k x v h1 (by simpa using h2))
 have := eqTy (P := P) 9984 16 t ks hk a b w fa fb
 rw [bw1 hd, bw1 hd, ← e1, ← e2] at this
 simp only [Array.toArray_toList] at this
 simp only [Sem.run_bind, ds4 hg, Result.andThen_ok]
 rcases hop with rfl | rfl
 ·rw [run_eql_struct, this]; rfl
 ·rw [run_neq_struct, this]; rfl
theorem cj4 {P : Program} {w : World} {op : BinOp} (hop : op = .eql ∨ op = .neq) {t : TypeId} (ox oy : Operand) {a b : Bool} (hu : P.underlying t = some .bool) :
  (do eqGuard op t ox oy (.bool a) (.bool b); binOp op t (.bool a) (.bool b) : Sem Value).run P w = .ok (.bool (if op == .neq then !(a == b) else a == b)) w := by
 simp only [dh1, Sem.run_bind, Sem.run_pure, Result.andThen_ok]
 rcases hop with rfl | rfl
 ·simp only [binOp, Sem.run_bind, run_equal_bool w t a b hu]; rfl
 ·simp only [binOp, Sem.run_bind, run_equal_bool w t a b hu]; rfl
section
variable {P : Program} {γ : Nat → EV} {φ : Nat → Nat} {N : Nat} {I : Nat → Prop} {H : Heap} {w : World}
theorem cr1 (hr : RH γ φ I H w) (t : TypeId) {x : EV} {v : Value} (hx : RV φ H.length I w x v) (ho : x.cells.all EV.one = true) :
  ∃ φ' w', (Instr.box t v).run P w = .ok (.pointer (some ⟨w.heap.size, 0, none⟩)) w' ∧ Evo φ I H w φ' I (H ++ [some (.row x.cells.length [x])]) w' ∧
   RH γ φ' I (H ++ [some (.row x.cells.length [x])]) w' ∧ RV φ' (H ++ [some (EB.row x.cells.length [x])]).length I w' (.ptr H.length x.cells.length 0 0) (.pointer (some ⟨w.heap.size, 0, none⟩)) := by
 obtain ⟨h1, h2⟩ := hx.cells ho
 have hev := bl6 φ I H w (.cells v.cells t) (.row x.cells.length [x])
 refine ⟨up φ H.length w.heap.size, w.alloc (.cells v.cells t), by simp [Instr.box, newVar, newRow], hev, bq1 hr ?_, ?_⟩
 ·refine ⟨v.cells, t, aw8 w _, by simp [h1], by simp, fun i j e y u he hy hu => ?_⟩
  cases i with
  | zero =>
   simp only [List.getElem?_cons_zero, Option.some.injEq] at he
   subst he
   have := hev.rv hr (h2 j y u hy (by simpa using hu))
   simpa using this
  | succ i => simp at he
 ·have := RV.ptr (φ := up φ H.length w.heap.size) (I := I) (w := w.alloc (.cells v.cells t)) (N := (H ++ [some (EB.row x.cells.length [x])]).length) H.length x.cells.length 0 0 (by simp)
  rw [bd6] at this
  simpa using this
theorem dn9 {x : EV} {v : Value} {off : Nat} (hx : RV φ N I w x v) {y : EV}
  (hev : cw4 off x = some y) :
  ∃ B o, v = .pointer (some ⟨B, o, none⟩) ∧ RV φ N I w y (.pointer (some ⟨B, o + off, none⟩)) := by
 unfold cw4 at hev
 split at hev <;> simp only [Option.some.injEq, reduceCtorEq] at hev <;> subst hev
 ·rename_i b sz i j
  cases hx with
  | ptr _ _ _ _ hb => exact ⟨_, _, rfl, by rw [Nat.add_assoc]; exact .ptr b sz i (j + off) hb⟩
 ·rename_i cells j
  cases hx with
  | iptr _ _ B o c T fr hI hB hs h => exact ⟨_, _, rfl, by rw [Nat.add_assoc]; exact .iptr cells (j + off) B o c T fr hI hB hs h⟩
theorem cw0 {t : TypeId} {fs : Array Field} {f : Nat} {fd : Field} {i : TypeInfo} (hu : P.underlying t = some (.struct fs)) (hf : fs[f]? = some fd) (hi : P.info? fd.type = some i) (hz : i.size ≠ 0)
  {x y : EV} {v : Value} (hx : RV φ N I w x v)
  (hev : cw4 fd.offset x = some y) :
  ∃ val, (Instr.fieldAt t v f).run P w = .ok val w ∧ RV φ N I w y val := by
 obtain ⟨B, o, rfl, h⟩ := dn9 hx hev
 exact ⟨_, by simp [Instr.fieldAt, run_underlying hu, hf, Instr.sureAddr, fieldPlace, Go.sizeOf, typeInfo, hi, hz, at3], h⟩
theorem cn9 {t e : TypeId} {len : Nat} {i : TypeInfo} (hu : P.underlying t = some (.array len e)) (hi : P.info? e = some i)
  {x y : EV} {v : Value} {k : IntKind} {n : Int} (hx : RV φ N I w x v) (h0 : 0 ≤ n) (h1 : n < len)
  (hev : cw4 (n.toNat * i.size) x = some y) :
  ∃ val, (Instr.indexAt t v (.int k n)).run P w = .ok val w ∧ RV φ N I w y val := by
 obtain ⟨B, o, rfl, h⟩ := dn9 hx hev
 exact ⟨_, by simp [Instr.indexAt, asIntOf, run_underlying hu, Instr.sureAddr, h0, h1, Go.sizeOf, typeInfo, hi, at3], h⟩
theorem cn8 {t e : TypeId} {i : TypeInfo} (hu : P.underlying t = some (.slice e)) (hi : P.info? e = some i)
  {x y : EV} {v : Value} {k : IntKind} {n : Int} (hx : RV φ N I w x v)
  (hev : bc8 i.size n x = some y) :
  ∃ val, (Instr.indexAt t v (.int k n)).run P w = .ok val w ∧ RV φ N I w y val := by
 unfold bc8 at hev
 split at hev
 ·rename_i b bs off len
  split at hev
  ·rename_i hc
   obtain ⟨rfl, h0, h1⟩ := hc
   simp only [Option.some.injEq] at hev; subst hev
   cases hx with
   | own0 _ _ _ a hb => exfalso; omega
   | own _ _ _ _ cap m T hb hs hn hc =>
    refine ⟨.pointer (some ⟨φ b, off * i.size + n.toNat * i.size, none⟩), by simp [Instr.indexAt, asIntOf, run_underlying hu, h0, h1, Go.sizeOf, typeInfo, hi, at3], ?_⟩
    have := RV.ptr (φ := φ) (I := I) (w := w) b i.size (off + n.toNat) 0 hb
    rw [Nat.add_mul] at this
    simpa using this
  ·simp at hev
 ·rename_i bs es
  split at hev
  ·rename_i hc
   obtain ⟨rfl, h0⟩ := hc
   split at hev
   ·rename_i e' he
    simp only [Option.some.injEq] at hev; subst hev
    have hlt := aa3 he
    cases hx with
    | imm0 => simp at hlt
    | imm _ _ B o cap c T fr hI hB hs hc hz h =>
     refine ⟨.pointer (some ⟨B, o + n.toNat * i.size, none⟩), ?_, ?_⟩
     ·have h1 : n < (es.length : Int) := by omega
      simp [Instr.indexAt, asIntOf, run_underlying hu, h0, h1, Go.sizeOf, typeInfo, hi, at3]
     ·have hze := hz e' (List.mem_of_getElem? he)
      have hmul : n.toNat * i.size + i.size ≤ es.length * i.size := by
       have : (n.toNat + 1) * i.size ≤ es.length * i.size := Nat.mul_le_mul_right _ hlt
       rw [Nat.add_mul] at this; omega
      have := RV.iptr (φ := φ) (N := N) e'.cells 0 B (o + n.toNat * i.size) c T fr hI hB (by omega) fun k x v hx hv => h n.toNat k e' x v he hx hv
      simpa using this
   ·simp at hev
  ·simp at hev
 ·simp at hev
theorem ce2 {t : TypeId} {ag : Bool} {n off : Nat} (hty : tyOf P t = some (ag, n)) {cs : List EV} {vs : Array Value} (hl : cs.length = vs.size) (hle : off + n ≤ cs.length)
  (h : ∀ (k : Nat) (x : EV) (v : Value), cs[k]? = some x → vs[k]? = some v → RV φ N I w x v) :
  ∃ val, (part t vs off).run P w = .ok val w ∧ RV φ N I w (pack ag ((cs.drop off).take n)) val := by
 obtain ⟨h1, h2, h3⟩ := bw2 hty w
 cases ag with
 | true =>
  refine ⟨.agg (vs.extract off (off + n)), by simp [part, h1, h2], .agg _ _ (by simp; omega) fun k x v hx hv => ?_⟩
  have hk := aa3 hx
  simp only [List.length_take, List.length_drop] at hk
  rw [List.getElem?_take_of_lt (by omega), List.getElem?_drop] at hx
  refine h (off + k) x v hx ?_
  rw [Array.getElem?_extract] at hv
  split at hv
  ·exact hv
  ·simp at hv
 | false =>
  obtain rfl := h3 rfl
  have hlt : off < vs.size := by omega
  refine ⟨vs[off], by simp [part, h1, hlt], ?_⟩
  have : (cs.drop off).take 1 = [cs[off]'(by omega)] := by rw [List.drop_eq_getElem_cons (by omega)]; rfl
  rw [this]
  exact h off _ _ (List.getElem?_eq_getElem (by omega)) (by simp [hlt])
theorem cv9 {t : TypeId} {fs : Array Field} {f : Nat} {fd : Field} {ag : Bool} {n : Nat} (hu : P.underlying t = some (.struct fs)) (hf : fs[f]? = some fd) (hty : tyOf P fd.type = some (ag, n))
  {cs : List EV} {v : Value} (hx : RV φ N I w (.agg cs) v) (hle : fd.offset + n ≤ cs.length) :
  ∃ val, (Instr.field t v f).run P w = .ok val w ∧ RV φ N I w (pack ag ((cs.drop fd.offset).take n)) val := by
 cases hx with
 | agg _ vs hl h =>
  obtain ⟨val, h1, h2⟩ := ce2 (P := P) hty hl hle h
  exact ⟨val, by simp [Instr.field, run_underlying hu, hf, asAgg, h1], h2⟩
theorem dg8 {t e : TypeId} {len : Nat} {ag : Bool} {n : Nat} (hu : P.underlying t = some (.array len e)) (hty : tyOf P e = some (ag, n))
  {cs : List EV} {v : Value} {k : IntKind} {m : Int} (hx : RV φ N I w (.agg cs) v) (h0 : 0 ≤ m) (h1 : m < len) (hle : len * n ≤ cs.length) :
  ∃ val, (Instr.index t v (.int k m)).run P w = .ok val w ∧ RV φ N I w (pack ag ((cs.drop (m.toNat * n)).take n)) val := by
 cases hx with
 | agg _ vs hl h =>
  have hmul : m.toNat * n + n ≤ len * n := by
   have : (m.toNat + 1) * n ≤ len * n := Nat.mul_le_mul_right _ (by omega)
   rw [Nat.add_mul] at this; omega
  obtain ⟨val, g1, g2⟩ := ce2 (P := P) (off := m.toNat * n) hty hl (by omega) h
  exact ⟨val, by simp [Instr.index, asIntOf, run_underlying hu, h0, h1, (bw2 hty w).2.1, g1], g2⟩
theorem cn7 {t : TypeId} (hu : P.underlying t = some .string) {s : List UInt8} {v : Value} {k : IntKind} {m : Int} (hx : RV φ N I w (.str s) v) (h0 : 0 ≤ m) {b : UInt8} (hb : s[m.toNat]? = some b) :
  (Instr.index t v (.int k m)).run P w = .ok (.int .u8 b.toNat) w := by
 cases hx
 have hlt := aa3 hb
 have e : (⟨s.toArray⟩ : ByteArray)[m.toNat]? = some b := by
  obtain ⟨_, h⟩ := List.getElem?_eq_some_iff.1 hb
  rw [getElem?_pos (⟨s.toArray⟩ : ByteArray) m.toNat (by rw [ay2]; exact hlt)]
  exact congrArg some h
 simp [Instr.index, asIntOf, run_underlying hu, h0, e]
theorem ci6 {vs : List EV} {v : Value} {i : Nat} {x : EV} (hx : RV φ N I w (.tup vs) v) (he : vs[i]? = some x) :
  ∃ val, (Instr.extract v i).run P w = .ok val w ∧ RV φ N I w x val := by
 cases hx with
 | tup _ ws hl h =>
  have hlt := aa3 he
  have hlt' : i < ws.size := by omega
  exact ⟨ws[i], by simp [Instr.extract, hlt'], h i x _ he (by simp [hlt'])⟩
theorem cn3 {ats : Array TypeId} {ty t : TypeId} {vs : Array Value} {str : Bool} (ht : ats[0]? = some t) (hu : (str = true ∧ P.underlying t = some .string) ∨ (str = false ∧ ∃ e, P.underlying t = some (.slice e)))
  {x : EV} {v : Value} {n : Nat} (hv : vs[0]? = some v) (hx : RV φ N I w x v) (hev : bo5 str x = some n) :
  (Builtin.len_ ats ty vs).run P w = .ok (.int .i64 n) w := by
 unfold bo5 at hev
 split at hev <;> simp only [Option.some.injEq, reduceCtorEq] at hev <;> subst hev
 ·have h : P.underlying t = some .string := by simpa using hu
  cases hx
  simp [Builtin.len_, ht, hv, run_underlying h, goInt, ay2]
 all_goals
  have h : ∃ e, P.underlying t = some (.slice e) := by simpa using hu
  obtain ⟨e, h⟩ := h
  cases hx <;> simp [Builtin.len_, ht, hv, run_underlying h, goInt]
end
theorem ci3 (off : Nat) : ∀ (vs : List Value) (k : Nat) (c : Array Value), off + k + vs.length ≤ c.size →
  ((vs.zipIdx k).foldl (fun cs (x : Value × Nat) => cs.setIfInBounds (off + x.2) x.1) c).toList = c.toList.take (off + k) ++ vs ++ c.toList.drop (off + k + vs.length)
 | [], k, c, _ => by simp
 | v :: vs, k, c, h => by
  simp only [List.length_cons] at h
  simp only [List.zipIdx_cons, List.foldl_cons]
  rw [ci3 off vs (k + 1) (c.setIfInBounds (off + k) v) (by simp; omega)]
  simp only [Array.toList_setIfInBounds]
  apply List.ext_getElem?
  intro m
  have l1 : off + (k + 1) + vs.length ≤ (c.toList.set (off + k) v).length := by simp; omega
  have l2 : off + k + (v :: vs).length ≤ c.toList.length := by simp; omega
  rw [ak4 _ _ _ l1, ak4 _ _ _ l2]
  simp only [List.length_cons]
  by_cases a : m < off + k
  ·rw [if_pos a, if_pos (by omega), List.getElem?_set_ne (by omega)]
  ·rw [if_neg a]
   by_cases b : m = off + k
   ·subst b
    rw [if_pos (by omega), if_pos (by omega), List.getElem?_set_self (by simp; omega)]
    simp
   ·rw [if_neg (show ¬ m < off + (k + 1) by omega)]
    by_cases d : m < off + k + (vs.length + 1)
    ·rw [if_pos (by omega), if_pos d]
     rw [show m - (off + k) = (m - (off + (k + 1))) + 1 by omega, List.getElem?_cons_succ]
    ·rw [if_neg (by omega), if_neg d, List.getElem?_set_ne (by omega)]
section
variable {P : Program} {γ : Nat → EV} {φ : Nat → Nat} {N : Nat} {I : Nat → Prop} {H : Heap} {w : World}
def RCs (φ : Nat → Nat) (N : Nat) (I : Nat → Prop) (w : World) (cs : List EV) (vs : List Value) : Prop :=
 cs.length = vs.length ∧ ∀ (k : Nat) (x : EV) (v : Value), cs[k]? = some x → vs[k]? = some v → RV φ N I w x v
theorem RCs.splice {cs xs : List EV} {vs us : List Value} {o : Nat} (h : RCs φ N I w cs vs) (g : RCs φ N I w xs us) (hle : o + xs.length ≤ cs.length) :
  RCs φ N I w (cs.take o ++ xs ++ cs.drop (o + xs.length)) (vs.take o ++ us ++ vs.drop (o + us.length)) := by
 refine ⟨by rw [ap3 _ _ _ hle, ap3 _ _ _ (by rw [← g.1, ← h.1]; exact hle)]; exact h.1, fun k x v hx hv => ?_⟩
 rw [ak4 _ _ _ hle] at hx
 rw [ak4 _ _ _ (by rw [← g.1, ← h.1]; exact hle), ← g.1] at hv
 by_cases a : k < o
 ·rw [if_pos a] at hx hv; exact h.2 k x v hx hv
 ·rw [if_neg a] at hx hv
  by_cases b : k < o + xs.length
  ·rw [if_pos b] at hx hv; exact g.2 _ x v hx hv
  ·rw [if_neg b] at hx hv; exact h.2 k x v hx hv
theorem bh5 {place : Nat → Option (Nat × Nat)} : ∀ (ps : List (Nat × Nat × EV)) (qs : List (Nat × Value)) (cs cs' : List EV) (c : Array Value),
  RCs φ N I w cs c.toList → bh6 cs ps = some cs' → ps.length = qs.length →
  (∀ (i : Nat) (p : Nat × Nat × EV) (q : Nat × Value), ps[i]? = some p → qs[i]? = some q → place q.1 = some (p.1, p.2.1) ∧ RV φ N I w p.2.2 q.2 ∧ p.2.2.cells.all EV.one = true) →
  ∃ c' : Array Value, Instr.fill place c qs = some c' ∧ RCs φ N I w cs' c'.toList
 | [], [], cs, cs', c, h, hf, _, _ => by
  simp only [bh6, Option.some.injEq] at hf; subst hf
  exact ⟨c, rfl, h⟩
 | (off, size, x) :: ps, (i, v) :: qs, cs, cs', c, h, hf, hl, hp => by
  obtain ⟨h1, h2, h3⟩ := hp 0 _ _ rfl rfl
  obtain ⟨g1, g2⟩ := h2.cells h3
  simp only [bh6] at hf
  split at hf
  ·rename_i hc
   obtain ⟨hs, hle⟩ := hc
   have hvs : v.cells.toList.length = size := by simp [g1, hs]
   have hx : RCs φ N I w x.cells v.cells.toList := ⟨by simp [g1], fun k y u hy hu => g2 k y u hy (by simpa using hu)⟩
   have step := RCs.splice (o := off) h hx (by rw [hs]; exact hle)
   rw [hs, hvs] at step
   have hcsz : cs.length = c.size := by simpa using h.1
   have fold := ci3 off v.cells.toList 0 c (by rw [hvs]; omega)
   simp only [Nat.add_zero, hvs] at fold
   have hfold : (v.cells.zipIdx.foldl (fun cs (x : Value × Nat) => cs.setIfInBounds (off + x.2) x.1) c).toList = c.toList.take off ++ v.cells.toList ++ c.toList.drop (off + size) := by
    rw [← fold, ← Array.foldl_toList]
    simp
   obtain ⟨c', e1, e2⟩ := bh5 ps qs _ cs' (v.cells.zipIdx.foldl (fun cs (x : Value × Nat) => cs.setIfInBounds (off + x.2) x.1) c) (by rw [hfold]; exact step) hf (by simpa using hl)
    (fun i p q hp' hq' => hp (i + 1) p q (by simpa using hp') (by simpa using hq'))
   refine ⟨c', ?_, e2⟩
   simp only [Instr.fill, h1]
   rw [if_neg (by simp [g1, hs]; omega)]
   exact e1
  ·simp at hf
 | [], _ :: _, _, _, _, _, _, hl, _ => by simp at hl
 | _ :: _, [], _, _, _, _, _, hl, _ => by simp at hl
theorem al9 {isSlice : Bool} {len cap : Nat} {lo hi : Option EV} {vlo vhi : Option Value} {l h : Nat}
  (h1 : match lo, vlo with | none, none => True | some x, some v => RV φ N I w x v | _, _ => False)
  (h2 : match hi, vhi with | none, none => True | some x, some v => RV φ N I w x v | _, _ => False)
  (hev : al7 len cap lo hi = some (l, h)) (hlc : len ≤ cap) (cap' : Nat) (hcc : cap ≤ cap') :
  (Instr.sliceBounds isSlice len cap' vlo vhi none).run P w = .ok (l, h, cap') w ∧ l ≤ h ∧ h ≤ cap := by
 have bound : ∀ (x : EV) (v : Value) (d y y' n : Nat) (code : BoundsCode), RV φ N I w x v → bc9 d y (some x) = some n → y ≤ y' → (Instr.sliceBound v y' code).run P w = .ok n w ∧ n ≤ y := by
  intro x v d y y' n code hx hn hyy
  unfold bc9 at hn
  split at hn
  ·rename_i e; simp at e
  ·rename_i k m e
   simp only [Option.some.injEq] at e
   subst e
   split at hn
   ·rename_i hc
    simp only [Option.some.injEq] at hn; subst hn
    cases hx
    refine ⟨?_, by omega⟩
    simp only [Instr.sliceBound, asIntOf, Sem.run_bind, Sem.run_pure, Result.andThen_ok]
    rw [if_pos ⟨hc.1, by omega⟩]
    rfl
   ·simp at hn
  ·simp at hn
 unfold al7 at hev
 split at hev
 case h_2 => simp at hev
 rename_i h' hh
 split at hev
 case h_2 => simp at hev
 rename_i l' hl
 simp only [Option.some.injEq, Prod.mk.injEq] at hev
 obtain ⟨rfl, rfl⟩ := hev
 have H2 : (match vhi, (none : Option Value) with
   | some v, some _ => Instr.sliceBound v cap' .slice3B
   | some v, none => Instr.sliceBound v cap' (if isSlice then .sliceAcap else .sliceAlen)
   | none, none => pure len
   | none, some _ => stuck "Slice: max without high" : Sem Nat).run P w = .ok h' w ∧ h' ≤ cap := by
  cases hi with
  | none =>
   cases vhi with
   | none => simp only [bc9, Option.some.injEq] at hh; subst hh; exact ⟨rfl, hlc⟩
   | some v => exact h2.elim
  | some x =>
   cases vhi with
   | none => exact h2.elim
   | some v => exact bound x v len cap cap' h' _ h2 hh hcc
 have H1 : (match vlo with
   | some v => Instr.sliceBound v h' .sliceB
   | none => pure 0 : Sem Nat).run P w = .ok l' w ∧ l' ≤ h' := by
  cases lo with
  | none =>
   cases vlo with
   | none => simp only [bc9, Option.some.injEq] at hl; subst hl; exact ⟨rfl, Nat.zero_le _⟩
   | some v => exact h1.elim
  | some x =>
   cases vlo with
   | none => exact h1.elim
   | some v => exact bound x v 0 h' h' l' _ h1 hl (Nat.le_refl _)
 refine ⟨?_, H1.2, H2.2⟩
 have e2 := H2.1
 have e1 := H1.1
 cases vhi <;> cases vlo <;> simp only [Instr.sliceBounds, Sem.run_bind, Sem.run_pure, Result.andThen_ok, Option.isSome_none, Bool.false_eq_true, if_false] at e1 e2 ⊢ <;>
  first
   | (simp only [e2, e1, Result.andThen_ok]; done)
   | (simp only [Result.ok.injEq, and_true] at e1 e2; subst e1 e2; rfl)
   | (simp only [Result.ok.injEq, and_true] at e1; subst e1; simp only [e2, Result.andThen_ok])
   | (simp only [Result.ok.injEq, and_true] at e2; subst e2; simp only [e1, Result.andThen_ok])
end
theorem evo_imm (φ : Nat → Nat) (I : Nat → Prop) (H : Heap) (w : World) (o : Obj) (hm : melt o = true := by rfl) : Evo φ I H w φ (fun B => I B ∨ B = w.heap.size) H (w.alloc o) where
 size := by simp
 shape B hB := bb5 hB
 keep B hB _ := aw7 w o B hB
 imm B h := .inl h
 phi i _ := rfl
 len := Nat.le_refl _
 own B h := .inl h
 immf B h := by
  rcases h with h | h
  ·exact .inl h
  ·exact .inr (.inr (by omega))
 tape := rfl
 os := rfl
 out := rfl
 froz a _ := bu7 hm a
section
variable {P : Program} {γ : Nat → EV} {φ : Nat → Nat} {N : Nat} {I : Nat → Prop} {H : Heap} {w : World}
theorem RV.evo_imm {x : EV} {v : Value} (hI : ∀ B, I B → B < w.heap.size) (o : Obj) (h : RV φ N I w x v) : RV φ N (fun B => I B ∨ B = w.heap.size) (w.alloc o) x v :=
 h.mono (Nat.le_refl _) (fun _ _ => rfl) (fun _ h => .inl h) (fun B hB => aw7 w o B (hI B hB)) (fun _ _ _ _ hs => (bb5 (au9 hs)).trans hs)
theorem er4 (h : RH γ φ I H w) (o : Obj) : RH γ φ (fun B => I B ∨ B = w.heap.size) H (w.alloc o) where
 glob g := (h.glob g).evo_imm h.imm o
 blk b y hb := (h.blk b y hb).mono (Nat.le_refl _) (fun _ _ => rfl) (fun _ h => .inl h) (fun B hB => aw7 w o B (h.imm B hB))
  (fun _ _ _ _ hs => (bb5 (au9 hs)).trans hs) (aw7 w o _ (h.lt b y hb))
 inj := h.inj
 imm B hB := by
  rcases hB with hB | hB
  ·have := h.imm B hB; simp; omega
  ·simp; omega
 dis b y hb hI := by
  rcases hI with hI | hI
  ·exact h.dis b y hb hI
  ·have := h.lt b y hb; omega
 lt b y hb := by have := h.lt b y hb; simp; omega
def RowC (φ : Nat → Nat) (N : Nat) (I : Nat → Prop) (w : World) (sz : Nat) (es : List EV) (c : List Value) : Prop :=
 es.length * sz = c.length ∧ (∀ e ∈ es, e.cells.length = sz) ∧
  ∀ (i j : Nat) (e x : EV) (v : Value), es[i]? = some e → e.cells[j]? = some x → c[i * sz + j]? = some v → RV φ N I w x v
theorem RowC.put {sz : Nat} {es : List EV} {c vs : List Value} {x : EV} {i : Nat} (h : RowC φ N I w sz es c) (hi : i < es.length) (hx : RCs φ N I w x.cells vs) (hs : x.cells.length = sz) :
  RowC φ N I w sz (es.set i x) (c.take (i * sz) ++ vs ++ c.drop (i * sz + sz)) := by
 obtain ⟨h1, h2, h3⟩ := h
 have hmul : i * sz + sz ≤ es.length * sz := by
  have : (i + 1) * sz ≤ es.length * sz := Nat.mul_le_mul_right _ hi
  rw [Nat.add_mul] at this; omega
 have hvs : vs.length = sz := by rw [← hx.1, hs]
 have hfit : i * sz + vs.length ≤ c.length := by omega
 have hlen := ap3 _ _ _ hfit
 have hget := ak4 _ _ _ hfit
 rw [hvs] at hlen hget
 refine ⟨?_, ?_, ?_⟩
 ·rw [List.length_set, hlen]; exact h1
 ·intro e he
  rcases List.mem_or_eq_of_mem_set he with h | rfl
  ·exact h2 e h
  ·exact hs
 ·intro i' j e y v he hy hv
  rw [hget] at hv
  by_cases hii : i = i'
  ·subst hii
   rw [List.getElem?_set_self hi] at he
   simp only [Option.some.injEq] at he; subst he
   have hj := aa3 hy
   rw [if_neg (by omega), if_pos (by omega)] at hv
   exact hx.2 j y v hy (by rw [show i * sz + j - i * sz = j by omega] at hv; exact hv)
  ·rw [List.getElem?_set_ne hii] at he
   have hj := aa3 hy
   have hz := h2 e (List.mem_of_getElem? he)
   refine h3 i' j e y v he hy ?_
   rcases Nat.lt_or_gt_of_ne hii with g | g
   ·have : (i + 1) * sz ≤ i' * sz := Nat.mul_le_mul_right _ g
    rw [Nat.add_mul] at this
    rw [if_neg (by omega), if_neg (by omega)] at hv; exact hv
   ·have : (i' + 1) * sz ≤ i * sz := Nat.mul_le_mul_right _ g
    rw [Nat.add_mul] at this
    rw [if_pos (by omega)] at hv; exact hv
theorem cl8 {sz : Nat} : ∀ (ps : List (Nat × EV)) (qs : List (Nat × Value)) (es : List EV) (c : Array Value), RowC φ N I w sz es c.toList → ps.length = qs.length →
  (∀ (i : Nat) (p : Nat × EV) (q : Nat × Value), ps[i]? = some p → qs[i]? = some q → p.1 = q.1 ∧ p.1 < es.length ∧ RV φ N I w p.2 q.2 ∧ p.2.cells.all EV.one = true ∧ p.2.cells.length = sz) →
  ∃ c' : Array Value, Instr.fill (fun i => some (i * sz, sz)) c qs = some c' ∧ RowC φ N I w sz (ps.foldl (fun es p => es.set p.1 p.2) es) c'.toList
 | [], [], es, c, h, _, _ => ⟨c, rfl, h⟩
 | (i, x) :: ps, (k, v) :: qs, es, c, h, hl, hp => by
  obtain ⟨h0, h1, h2, h3, h4⟩ := hp 0 _ _ rfl rfl
  simp only at h0 h1 h2 h3 h4
  subst h0
  obtain ⟨g1, g2⟩ := h2.cells h3
  have hx : RCs φ N I w x.cells v.cells.toList := ⟨by simp [g1], fun k y u hy hu => g2 k y u hy (by simpa using hu)⟩
  have step := RowC.put h h1 hx h4
  have hmul : i * sz + sz ≤ es.length * sz := by
   have : (i + 1) * sz ≤ es.length * sz := Nat.mul_le_mul_right _ h1
   rw [Nat.add_mul] at this; omega
  have hcs : es.length * sz = c.size := by simpa using h.1
  have hvs : v.cells.toList.length = sz := by simp [g1, h4]
  have fold := ci3 (i * sz) v.cells.toList 0 c (by rw [hvs]; omega)
  simp only [Nat.add_zero, hvs] at fold
  have hfold : (v.cells.zipIdx.foldl (fun cs (x : Value × Nat) => cs.setIfInBounds (i * sz + x.2) x.1) c).toList = c.toList.take (i * sz) ++ v.cells.toList ++ c.toList.drop (i * sz + sz) := by
   rw [← fold, ← Array.foldl_toList]
   simp
  obtain ⟨c', e1, e2⟩ := cl8 ps qs (es.set i x) (v.cells.zipIdx.foldl (fun cs (x : Value × Nat) => cs.setIfInBounds (i * sz + x.2) x.1) c) (by rw [hfold]; exact step) (by simpa using hl)
   (fun j p q hp' hq' => by simpa using hp (j + 1) p q (by simpa using hp') (by simpa using hq'))
  refine ⟨c', ?_, e2⟩
  simp only [Instr.fill]
  rw [if_neg (by simp [g1, h4]; omega)]
  exact e1
 | [], _ :: _, _, _, _, hl, _ => by simp at hl
 | _ :: _, [], _, _, _, hl, _ => by simp at hl
theorem bp9 {sz len : Nat} {z : EV} {vz : Value} (hz : RV φ N I w z vz) (ho : z.cells.all EV.one = true) (hs : z.cells.length = sz) :
  RowC φ N I w sz (List.replicate len z) ((Array.range (len * sz)).map (vz.cells[· % vz.cells.size]!)).toList := by
 obtain ⟨g1, g2⟩ := hz.cells ho
 refine ⟨by simp, fun e he => by rw [List.eq_of_mem_replicate he]; exact hs, fun i j e x v he hx hv => ?_⟩
 have hi := aa3 he
 simp only [List.length_replicate] at hi
 simp [hi] at he
 subst he
 have hj := aa3 hx
 have hlt : i * sz + j < len * sz := am7 (by omega) hi
 simp only [Array.toList_map, Array.toList_range, List.getElem?_map, List.getElem?_range hlt, Option.map_some, Option.some.injEq] at hv
 have hvs : vz.cells.size = sz := by omega
 rw [hvs, show (i * sz + j) % sz = j by rw [Nat.mul_comm, Nat.mul_add_mod]; exact Nat.mod_eq_of_lt (by omega)] at hv
 have hjj : j < vz.cells.size := by omega
 rw [getElem!_pos vz.cells j hjj] at hv
 exact g2 j x v hx (by rw [← hv]; simp [hjj])
theorem bf0 {t : TypeId} {z : EV} (h : aq3 P t = some z) : ∃ i v, P.info? t = some i ∧ i.zero = some v ∧ ca5 v = some z := by
 unfold aq3 at h
 simp only [Option.bind_eq_some_iff] at h
 obtain ⟨v, ⟨i, hi, hv⟩, hz⟩ := h
 exact ⟨i, v, hi, hv, hz⟩
theorem cr0 {t e : TypeId} {ag : Bool} {sz len : Nat} {z : EV} (hu : P.underlying t = some (.slice e)) (hty : tyOf P e = some (ag, sz)) (hz : aq3 P e = some z)
  (hs : z.cells.length = sz) (ho : z.cells.all EV.one = true) (hle : len * sz ≤ 2 ^ 24) {ps : List (Nat × EV)} {qs : Array (Nat × Value)} (hl : ps.length = qs.size)
  (hp : ∀ (i : Nat) (p : Nat × EV) (q : Nat × Value), ps[i]? = some p → qs[i]? = some q → p.1 = q.1 ∧ p.1 < len ∧ RV φ N I w p.2 q.2 ∧ p.2.cells.all EV.one = true ∧ p.2.cells.length = sz) :
  ∃ c : Array Value, (Instr.buildSlice t len qs).run P w = .ok (.slice (some ⟨w.heap.size, 0, none⟩) len len) (w.alloc (.cells c e)) ∧
   RowC φ N I w sz (ps.foldl (fun es p => es.set p.1 p.2) (List.replicate len z)) c.toList := by
 obtain ⟨i, v, hi, hv, hc⟩ := bf0 hz
 have hsz := (bw2 hty w).2.1
 have hzv : RV φ N I w z v := an6 hc
 have h0 := bp9 (len := len) hzv ho hs
 have fill : ∀ c0 : Array Value, RowC φ N I w sz (List.replicate len z) c0.toList → ∃ c' : Array Value, Instr.fill (fun i => some (i * sz, sz)) c0 qs.toList = some c' ∧
   RowC φ N I w sz (ps.foldl (fun es p => es.set p.1 p.2) (List.replicate len z)) c'.toList := fun c0 h =>
  cl8 ps qs.toList (List.replicate len z) c0 h (by simpa using hl) (fun i p q h1 h2 => by simpa using hp i p q h1 (by simpa using h2))
 by_cases hn : len * sz = 0
 ·obtain ⟨c', e1, e2⟩ := fill ((Array.range 0).map fun _ => (default : Value)) (by
   refine ⟨by simp [hn], h0.2.1, fun i j e' x v he hx hv => by simp at hv⟩)
  refine ⟨c', ?_, e2⟩
  simp only [Instr.buildSlice, Sem.run_bind, run_underlying hu, Result.andThen_ok, hsz]
  rw [if_neg (by omega)]
  simp only [hn, if_true, Sem.run_bind, Sem.run_pure, Result.andThen_ok]
  simp [newRow, e1]
 ·obtain ⟨c', e1, e2⟩ := fill _ h0
  refine ⟨c', ?_, e2⟩
  simp only [Instr.buildSlice, Sem.run_bind, run_underlying hu, Result.andThen_ok, hsz]
  rw [if_neg (by omega)]
  have hzero : (zeroValue e).run P w = .ok v w := by simp [zeroValue, typeInfo, hi, hv]
  simp only [hn, if_false, Sem.run_bind, Sem.run_pure, hzero, Result.andThen_ok]
  simp [newRow, e1]
theorem eo3 (hr : RH γ φ I H w) {t e : TypeId} {ag : Bool} {sz len : Nat} {z : EV} (hu : P.underlying t = some (.slice e)) (hty : tyOf P e = some (ag, sz)) (hz : aq3 P e = some z)
  (hs : z.cells.length = sz) (ho : z.cells.all EV.one = true) (hle : len * sz ≤ 2 ^ 24) {ps : List (Nat × EV)} {qs : Array (Nat × Value)} (hl : ps.length = qs.size)
  (hp : ∀ (i : Nat) (p : Nat × EV) (q : Nat × Value), ps[i]? = some p → qs[i]? = some q → p.1 = q.1 ∧ p.1 < len ∧ RV φ H.length I w p.2 q.2 ∧ p.2.cells.all EV.one = true ∧ p.2.cells.length = sz) :
  ∃ I' val w', (Instr.buildSlice t len qs).run P w = .ok val w' ∧ Evo φ I H w φ I' H w' ∧ RH γ φ I' H w' ∧
   RV φ H.length I' w' (if len = 0 then .zsl else .imm sz (ps.foldl (fun es p => es.set p.1 p.2) (List.replicate len z))) val := by
 obtain ⟨c, h1, h2, h3, h4⟩ := cr0 (w := w) hu hty hz hs ho hle hl hp
 refine ⟨_, _, _, h1, evo_imm φ I H w _, er4 hr _, ?_⟩
 by_cases h0 : len = 0
 ·subst h0; rw [if_pos rfl]; exact .zsl _
 rw [if_neg h0]
 have hlen : (ps.foldl (fun es p => es.set p.1 p.2) (List.replicate len z)).length = len := by
  have : ∀ (ps : List (Nat × EV)) (es : List EV), (ps.foldl (fun es p => es.set p.1 p.2) es).length = es.length := by
   intro ps
   induction ps with
   | nil => intro es; rfl
   | cons p ps ih => intro es; rw [List.foldl_cons, ih, List.length_set]
  rw [this]; simp
 have := RV.imm (φ := φ) (N := H.length) (I := fun B => I B ∨ B = w.heap.size) (w := w.alloc (.cells c e)) sz _ w.heap.size 0 len c e (0, 0) (.inr rfl) (aw8 w _)
  (by rw [h2]; simp) (by rw [hlen]; exact Nat.le_refl _) h3
  (fun i j e' x v he hx hv => (h4 i j e' x v he hx (by simpa using hv)).evo_imm hr.imm _)
 rwa [hlen] at this
theorem eo2 (hr : RH γ φ I H w) {t e : TypeId} {ag : Bool} {sz len : Nat} {z : EV} (hu : P.underlying t = some (.slice e)) (hty : tyOf P e = some (ag, sz)) (hz : aq3 P e = some z)
  (hs : z.cells.length = sz) (ho : z.cells.all EV.one = true) (hle : len * sz ≤ 2 ^ 24) {ps : List (Nat × EV)} {qs : Array (Nat × Value)} (hl : ps.length = qs.size)
  (hp : ∀ (i : Nat) (p : Nat × EV) (q : Nat × Value), ps[i]? = some p → qs[i]? = some q → p.1 = q.1 ∧ p.1 < len ∧ RV φ H.length I w p.2 q.2 ∧ p.2.cells.all EV.one = true ∧ p.2.cells.length = sz) :
  ∃ φ' val w', (Instr.buildSlice t len qs).run P w = .ok val w' ∧ Evo φ I H w φ' I (H ++ [some (.row sz (ps.foldl (fun es p => es.set p.1 p.2) (List.replicate len z)))]) w' ∧
   RH γ φ' I (H ++ [some (.row sz (ps.foldl (fun es p => es.set p.1 p.2) (List.replicate len z)))]) w' ∧
   RV φ' (H.length + 1) I w' (.own H.length sz 0 len) val := by
 obtain ⟨c, h1, h2, h3, h4⟩ := cr0 (w := w) hu hty hz hs ho hle hl hp
 have hev := bl6 φ I H w (.cells c e) (.row sz (ps.foldl (fun es p => es.set p.1 p.2) (List.replicate len z)))
 have hlen : (ps.foldl (fun es p => es.set p.1 p.2) (List.replicate len z)).length = len := by
  have : ∀ (ps : List (Nat × EV)) (es : List EV), (ps.foldl (fun es p => es.set p.1 p.2) es).length = es.length := by
   intro ps
   induction ps with
   | nil => intro es; rfl
   | cons p ps ih => intro es; rw [List.foldl_cons, ih, List.length_set]
  rw [this]; simp
 refine ⟨_, _, _, h1, hev, bq1 hr ⟨c, e, aw8 w _, by rw [h2]; simp, h3, fun i j e' x v he hx hv => ?_⟩, ?_⟩
 ·have := hev.rv hr (h4 i j e' x v he hx (by simpa using hv))
  simpa using this
 ·have hsh : (w.alloc (.cells c e)).shape? (up φ H.length w.heap.size H.length) = some (e, c.size) := by
   rw [bd6]; unfold World.shape?; rw [aw8]
  have hsize : len * sz = c.size := by rw [← hlen, h2]; simp
  have := RV.own (I := I) H.length sz 0 len len c.size e (Nat.lt_succ_self _) hsh (by rw [Nat.zero_add, hsize]; exact Nat.le_refl _) (Nat.le_refl _)
  rw [bd6] at this
  simpa using this
theorem cs6 {t : TypeId} (hu : P.underlying t = some .string) {s : List UInt8} {v : Value} (hx : RV φ N I w (.str s) v) {lo hi : Option EV} {vlo vhi : Option Value} {l h : Nat}
  (h1 : match lo, vlo with | none, none => True | some x, some v => RV φ N I w x v | _, _ => False)
  (h2 : match hi, vhi with | none, none => True | some x, some v => RV φ N I w x v | _, _ => False)
  (hev : al7 s.length s.length lo hi = some (l, h)) :
  ∃ val, (Instr.sliceAt t v vlo vhi none).run P w = .ok val w ∧ RV φ N I w (.str ((s.drop l).take (h - l))) val := by
 cases hx
 obtain ⟨b1, b2, b3⟩ := al9 (P := P) (isSlice := false) h1 h2 hev (Nat.le_refl _) s.length (Nat.le_refl _)
 refine ⟨.string ((⟨s.toArray⟩ : ByteArray).extract l h), ?_, ?_⟩
 ·simp [Instr.sliceAt, run_underlying hu, Instr.slice, ay2, b1]
 ·have : (⟨s.toArray⟩ : ByteArray).extract l h = ⟨((s.drop l).take (h - l)).toArray⟩ := by
   apply ByteArray.ext
   simp [ByteArray.data_extract, List.extract]
  rw [this]
  exact .str _
theorem dw6 {t e : TypeId} {i : TypeInfo} (hu : P.underlying t = some (.slice e)) (hinf : P.info? e = some i) {x y : EV} {v : Value} (hx : RV φ N I w x v) {lo hi : Option EV} {vlo vhi : Option Value}
  (h1 : match lo, vlo with | none, none => True | some x, some v => RV φ N I w x v | _, _ => False)
  (h2 : match hi, vhi with | none, none => True | some x, some v => RV φ N I w x v | _, _ => False)
  (hev : bv6 i.size x lo hi = some y) :
  ∃ val, (Instr.sliceAt t v vlo vhi none).run P w = .ok val w ∧ RV φ N I w y val := by
 have run : ∀ (a : Option Addr) (len cap l h : Nat), (Instr.sliceBounds true len cap vlo vhi none).run P w = .ok (l, h, cap) w →
   (Instr.sliceAt t (.slice a len cap) vlo vhi none).run P w = .ok (.slice (if cap = l then a else a.map (·.add (l * i.size))) (h - l) (cap - l)) w := by
  intro a len cap l h hb
  simp [Instr.sliceAt, run_underlying hu, Instr.slice, hb, Go.sizeOf, typeInfo, hinf]
 unfold bv6 at hev
 split at hev
 ·split at hev
  ·rename_i p hp
   simp only [Option.some.injEq] at hev; subst hev
   cases hx
   obtain ⟨b1, b2, b3⟩ := al9 (P := P) (isSlice := true) h1 h2 (l := p.1) (h := p.2) hp (Nat.le_refl _) 0 (Nat.le_refl _)
   refine ⟨_, run _ _ _ _ _ b1, ?_⟩
   have e1 : p.1 = 0 := by omega
   have e2 : p.2 = 0 := by omega
   rw [e1, e2]
   exact .nilsl
  ·simp at hev
 ·split at hev
  ·rename_i p hp
   simp only [Option.some.injEq] at hev; subst hev
   cases hx with
   | zsl a =>
    obtain ⟨b1, b2, b3⟩ := al9 (P := P) (isSlice := true) h1 h2 (l := p.1) (h := p.2) hp (Nat.le_refl _) 0 (Nat.le_refl _)
    refine ⟨_, run _ _ _ _ _ b1, ?_⟩
    have e1 : p.1 = 0 := by omega
    have e2 : p.2 = 0 := by omega
    rw [e1, e2]
    exact .zsl a
  ·simp at hev
 ·rename_i b bs off len
  split at hev
  ·rename_i hs
   subst hs
   split at hev
   ·rename_i p hp
    simp only [Option.some.injEq] at hev; subst hev
    cases hx with
    | own0 _ _ _ a hb =>
     obtain ⟨b1, b2, b3⟩ := al9 (P := P) (isSlice := true) h1 h2 (l := p.1) (h := p.2) hp (Nat.le_refl _) 0 (Nat.le_refl _)
     refine ⟨_, run _ _ _ _ _ b1, ?_⟩
     have e1 : p.1 = 0 := by omega
     have e2 : p.2 = 0 := by omega
     rw [e1, e2]
     exact .own0 b _ _ a hb
    | own _ _ _ _ cap n T hb hsh hn hc =>
     obtain ⟨b1, b2, b3⟩ := al9 (P := P) (isSlice := true) h1 h2 (l := p.1) (h := p.2) hp (Nat.le_refl _) cap hc
     refine ⟨_, run _ _ _ _ _ b1, ?_⟩
     by_cases hcl : cap = p.1
     ·have e2 : p.2 - p.1 = 0 := by omega
      have e3 : cap - p.1 = 0 := by omega
      rw [if_pos hcl, e2, e3]
      exact .own0 b _ _ _ hb
     ·rw [if_neg hcl]
      simp only [Option.map_some, at3]
      rw [← Nat.add_mul]
      exact .own b i.size (off + p.1) (p.2 - p.1) (cap - p.1) n T hb hsh (by rw [show off + p.1 + (cap - p.1) = off + cap by omega]; exact hn) (by omega)
   ·simp at hev
  ·simp at hev
 ·rename_i bs es
  split at hev
  ·rename_i hs
   subst hs
   split at hev
   ·rename_i p hp
    simp only [Option.some.injEq] at hev; subst hev
    cases hx with
    | imm0 _ a =>
     obtain ⟨b1, b2, b3⟩ := al9 (P := P) (isSlice := true) h1 h2 (l := p.1) (h := p.2) hp (Nat.le_refl _) 0 (Nat.le_refl _)
     refine ⟨_, run _ _ _ _ _ b1, ?_⟩
     have e1 : p.1 = 0 := by simp at b3; omega
     have e2 : p.2 = 0 := by simp at b3; omega
     rw [e1, e2]
     exact .imm0 _ a
    | imm _ _ B o cap c T fr hI hB hs hc hz h =>
     obtain ⟨b1, b2, b3⟩ := al9 (P := P) (isSlice := true) h1 h2 (l := p.1) (h := p.2) hp (Nat.le_refl _) cap hc
     refine ⟨_, run _ _ _ _ _ b1, ?_⟩
     by_cases hcl : cap = p.1
     ·have e2 : p.2 - p.1 = 0 := by omega
      have e3 : cap - p.1 = 0 := by omega
      rw [if_pos hcl, e2, e3, List.take_zero]
      exact .imm0 _ _
     ·rw [if_neg hcl]
      simp only [Option.map_some, at3]
      have hlen : ((es.drop p.1).take (p.2 - p.1)).length = p.2 - p.1 := by simp; omega
      have hmul : p.1 * i.size + (p.2 - p.1) * i.size ≤ es.length * i.size := by
       rw [← Nat.add_mul]; exact Nat.mul_le_mul_right _ (by omega)
      have := RV.imm (φ := φ) (N := N) i.size ((es.drop p.1).take (p.2 - p.1)) B (o + p.1 * i.size) (cap - p.1) c T fr hI hB (by rw [hlen]; omega) (by rw [hlen]; omega)
       (fun e he => hz e (List.mem_of_mem_drop (List.mem_of_mem_take he)))
       (fun k j e x v he hx hv => by
        have hk := aa3 he
        rw [hlen] at hk
        rw [List.getElem?_take_of_lt hk, List.getElem?_drop] at he
        refine h (p.1 + k) j e x v he hx ?_
        rw [show o + (p.1 + k) * i.size + j = o + p.1 * i.size + k * i.size + j by rw [Nat.add_mul]; omega]
        exact hv)
      rwa [hlen] at this
   ·simp at hev
  ·simp at hev
 ·simp at hev
theorem di5 {t e : TypeId} {i : TypeInfo} (hu : P.underlying t = some (.slice e)) (hinf : P.info? e = some i) {x y hi mx : EV} {v vhi vmx : Value} (hx : RV φ N I w x v) {lo : Option EV} {vlo : Option Value}
  (h1 : match lo, vlo with | none, none => True | some x, some v => RV φ N I w x v | _, _ => False) (h2 : RV φ N I w hi vhi) (h3 : RV φ N I w mx vmx)
  (hev : dv2 i.size x lo hi mx = some y) :
  ∃ val, (Instr.sliceAt t v vlo (some vhi) (some vmx)).run P w = .ok val w ∧ RV φ N I w y val := by
 unfold dv2 at hev
 split at hev
 case h_2 => simp at hev
 rename_i k h k' m
 split at hev
 case isFalse => simp at hev
 rename_i hm
 subst hm
 cases h2
 cases h3
 have key : ∀ (len cap l hh : Nat), len ≤ cap → al7 len len lo (some (.int k h)) = some (l, hh) → l ≤ hh ∧ hh ≤ len ∧
   ∀ a, (Instr.sliceAt t (.slice a len cap) vlo (some (.int k h)) (some (.int k' h))).run P w = .ok (.slice (if hh = l then a else a.map (·.add (l * i.size))) (hh - l) (hh - l)) w := by
  intro len cap l hh hlc hb
  have hb0 := hb
  unfold al7 at hb
  split at hb
  case h_2 => simp at hb
  rename_i h' hh'
  split at hb
  case h_2 => simp at hb
  rename_i l' hl'
  simp only [Option.some.injEq, Prod.mk.injEq] at hb
  obtain ⟨rfl, rfl⟩ := hb
  simp only [bc9] at hh'
  split at hh'
  case isFalse => simp at hh'
  rename_i hc
  simp only [Option.some.injEq] at hh'
  subst hh'
  obtain ⟨b1, b2, b3⟩ := al9 (P := P) (w := w) (isSlice := true) (len := h.toNat) (cap := h.toNat) (lo := lo) (hi := none) (vlo := vlo) (vhi := none) (l := l') (h := h.toNat) h1 trivial (by unfold al7; rw [show bc9 h.toNat h.toNat none = some h.toNat from rfl]; simp only; rw [hl']) (Nat.le_refl _) h.toNat (Nat.le_refl _)
  refine ⟨b2, by omega, fun a => ?_⟩
  have s1 : ∀ (kk : IntKind) (y : Nat) (code : BoundsCode), h.toNat ≤ y → (Instr.sliceBound (.int kk h) y code).run P w = .ok h.toNat w := by
   intro kk y code hy
   simp only [Instr.sliceBound, asIntOf, Sem.run_bind, Sem.run_pure, Result.andThen_ok]
   rw [if_pos ⟨hc.1, by omega⟩]
   rfl
  have s2 : ∀ code, (match vlo with
   | some v => Instr.sliceBound v h.toNat code
   | none => pure 0 : Sem Nat).run P w = .ok l' w := by
   intro code
   cases lo with
   | none =>
    cases vlo with
    | none => simp only [bc9, Option.some.injEq] at hl'; subst hl'; rfl
    | some v => exact h1.elim
   | some x =>
    cases vlo with
    | none => exact h1.elim
    | some v =>
     unfold bc9 at hl'
     split at hl'
     ·rename_i e; simp at e
     ·rename_i kk mm e
      simp only [Option.some.injEq] at e
      subst e
      split at hl'
      ·rename_i hc'
       simp only [Option.some.injEq] at hl'; subst hl'
       cases h1
       simp only [Instr.sliceBound, asIntOf, Sem.run_bind, Sem.run_pure, Result.andThen_ok]
       rw [if_pos ⟨hc'.1, by omega⟩]
       rfl
      ·simp at hl'
     ·simp at hl'
  cases vlo with
  | none =>
   have e0 : l' = 0 := by have := s2 .sliceB; simp only [Sem.run_pure, Result.ok.injEq] at this; exact this.1.symm
   subst e0
   simp only [Instr.sliceAt, Instr.slice, Instr.sliceBounds, Sem.run_bind, run_underlying hu, Result.andThen_ok, s1 k' cap _ (by omega), s1 k h.toNat _ (Nat.le_refl _), Option.isSome_some, if_true, Sem.run_pure, Go.sizeOf, typeInfo, run_program, hinf]
  | some v =>
   simp only at s2
   simp only [Instr.sliceAt, Instr.slice, Instr.sliceBounds, Sem.run_bind, run_underlying hu, Result.andThen_ok, s1 k' cap _ (by omega), s1 k h.toNat _ (Nat.le_refl _), Option.isSome_some, if_true, s2, Sem.run_pure, Go.sizeOf, typeInfo, run_program, hinf]
 split at hev
 ·unfold bv6 at hev
  simp only at hev
  split at hev
  case h_2 => simp at hev
  rename_i p hp
  simp only [Option.some.injEq] at hev; subst hev
  cases hx
  obtain ⟨g1, g2, g3⟩ := key 0 0 p.1 p.2 (Nat.le_refl _) hp
  refine ⟨_, g3 _, ?_⟩
  have e1 : p.1 = 0 := by omega
  have e2 : p.2 = 0 := by omega
  rw [e1, e2]
  exact .nilsl
 ·unfold bv6 at hev
  simp only at hev
  split at hev
  case h_2 => simp at hev
  rename_i p hp
  simp only [Option.some.injEq] at hev; subst hev
  cases hx with
  | zsl a =>
   obtain ⟨g1, g2, g3⟩ := key 0 0 p.1 p.2 (Nat.le_refl _) hp
   refine ⟨_, g3 _, ?_⟩
   have e1 : p.1 = 0 := by omega
   have e2 : p.2 = 0 := by omega
   rw [e1, e2]
   exact .zsl a
 ·rename_i b bs off len
  split at hev
  case h_2 => simp at hev
  rename_i p hp
  have key' : ∀ cap, len ≤ cap → _ := fun cap hc => key len cap p.1 p.2 hc hp
  split at hev
  ·rename_i he
   simp only [Option.some.injEq] at hev; subst hev
   cases hx with
   | own0 _ _ _ a hb =>
    refine ⟨_, (key' 0 (Nat.le_refl _)).2.2 _, ?_⟩
    rw [he]; simp only [if_true, Nat.sub_self]; exact .zsl a
   | own _ _ _ _ cap n T hb hsh hn hc =>
    refine ⟨_, (key' cap hc).2.2 _, ?_⟩
    rw [he]; simp only [if_true, Nat.sub_self]; exact .zsl _
  ·rename_i he
   unfold bv6 at hev
   simp only at hev
   split at hev
   case isFalse => simp at hev
   rename_i hs
   subst hs
   rw [hp] at hev
   simp only [Option.some.injEq] at hev; subst hev
   cases hx with
   | own0 _ _ _ a hb =>
    have := (key' 0 (Nat.le_refl _))
    omega
   | own _ _ _ _ cap n T hb hsh hn hc =>
    have hk := key' cap hc
    refine ⟨_, hk.2.2 _, ?_⟩
    rw [if_neg (fun e => he e.symm)]
    simp only [Option.map_some, at3]
    rw [← Nat.add_mul]
    exact .own b i.size (off + p.1) (p.2 - p.1) (p.2 - p.1) n T hb hsh (Nat.le_trans (Nat.mul_le_mul_right _ (by omega)) hn) (Nat.le_refl _)
 ·rename_i bs es
  split at hev
  case h_2 => simp at hev
  rename_i p hp
  have key' : ∀ cap, es.length ≤ cap → _ := fun cap hc => key es.length cap p.1 p.2 hc hp
  split at hev
  ·rename_i he
   simp only [Option.some.injEq] at hev; subst hev
   cases hx with
   | imm0 _ a =>
    refine ⟨_, (key' 0 (Nat.le_refl _)).2.2 _, ?_⟩
    rw [he]; simp only [if_true, Nat.sub_self]; exact .zsl a
   | imm _ _ B o cap c T fr hI hB hs hc hz h =>
    refine ⟨_, (key' cap hc).2.2 _, ?_⟩
    rw [he]; simp only [if_true, Nat.sub_self]; exact .zsl _
  ·rename_i he
   unfold bv6 at hev
   simp only at hev
   split at hev
   case isFalse => simp at hev
   rename_i hs
   subst hs
   rw [hp] at hev
   simp only [Option.some.injEq] at hev; subst hev
   cases hx with
   | imm0 _ a =>
    have := (key' 0 (Nat.le_refl _))
    simp only [List.length_nil] at this
    omega
   | imm _ _ B o cap c T fr hI hB hs hc hz hh =>
    have hk := key' cap hc
    refine ⟨_, hk.2.2 _, ?_⟩
    rw [if_neg (fun e => he e.symm)]
    simp only [Option.map_some, at3]
    have hlen : ((es.drop p.1).take (p.2 - p.1)).length = p.2 - p.1 := by simp; omega
    have hmul : p.1 * i.size + (p.2 - p.1) * i.size ≤ es.length * i.size := by
     rw [← Nat.add_mul]; exact Nat.mul_le_mul_right _ (by omega)
    have := RV.imm (φ := φ) (N := N) i.size ((es.drop p.1).take (p.2 - p.1)) B (o + p.1 * i.size) (p.2 - p.1) c T fr hI hB (by rw [hlen]; omega) (by rw [hlen]; omega)
     (fun e he => hz e (List.mem_of_mem_drop (List.mem_of_mem_take he)))
     (fun k j e x v he hx hv => by
      have hk := aa3 he
      rw [hlen] at hk
      rw [List.getElem?_take_of_lt hk, List.getElem?_drop] at he
      refine hh (p.1 + k) j e x v he hx ?_
      rw [show o + (p.1 + k) * i.size + j = o + p.1 * i.size + k * i.size + j by rw [Nat.add_mul]; omega]
      exact hv)
    rwa [hlen] at this
 ·simp at hev
theorem dh0 {P : Program} {op : BinOp} {t : TypeId} {ox oy : Operand} {a b : Value} {w : World} (h1 : ¬ (a = .nilIface ∧ b = .nilIface)) (h2 : ∀ xs ys, ¬ (a = .agg xs ∧ b = .agg ys)) :
  (eqGuard op t ox oy a b).run P w = .ok () w := by
 cases a <;> cases b <;> first
  | (cases op <;> rfl)
  | exact absurd ⟨rfl, rfl⟩ h1
  | exact absurd ⟨rfl, rfl⟩ (h2 _ _)
theorem cq5 {t : TypeId} (ox oy : Operand) {op : BinOp} (hop : op = .eql ∨ op = .neq) {k : NK} (hk : nkOf P t = some k) {x y : EV} {vx vy : Value} (hx : RV φ N I w x vx) (hy : RV φ N I w y vy)
  {r : Bool} (hev : cp0 k x y = some r) : (do eqGuard op t ox oy vx vy; binOp op t vx vy : Sem Value).run P w = .ok (.bool (if op == .neq then !r else r)) w := by
 have fin : (∀ d, (Go.Op.equalIn (d + 1) t vx vy).run P w = .ok r w) → (eqGuard op t ox oy vx vy).run P w = .ok () w → (binOp .eql t vx vy = do pure (.bool (← Go.Op.equal t vx vy))) →
   (binOp .neq t vx vy = do pure (.bool (!(← Go.Op.equal t vx vy)))) → (do eqGuard op t ox oy vx vy; binOp op t vx vy : Sem Value).run P w = .ok (.bool (if op == .neq then !r else r)) w := by
  intro h0 h2 h3 h4
  have h1 : (Go.Op.equal t vx vy).run P w = .ok r w := h0 9999
  simp only [Sem.run_bind, h2, Result.andThen_ok]
  rcases hop with rfl | rfl
  ·rw [h3]; simp [h1]
  ·rw [h4]; simp [h1]
 unfold nkOf at hk
 unfold cp0 at hev
 split at hev <;> simp only [Option.some.injEq, reduceCtorEq] at hev <;> subst hev <;>
  (split at hk <;> simp only [Option.some.injEq, reduceCtorEq] at hk) <;> rename_i hu <;> cases hx <;> cases hy <;>
  refine fin (fun d => ?_) (dh0 (by simp) (by simp)) rfl rfl <;> simp only [Go.Op.equalIn, Sem.run_bind, run_underlying hu, Result.andThen_ok, Sem.run_pure, Option.isNone_none, Option.isNone_some]
theorem cn4 {o : Operand} {e : EOpd} (h : aa8 o = some e) (hc : e.isC = true) : ∃ v, o = .const v := by
 cases o with
 | const v => exact ⟨v, rfl⟩
 | tmp t => simp only [aa8, Option.some.injEq] at h; subst h; simp [EOpd.isC] at hc
 | global g => simp only [aa8, Option.some.injEq] at h; subst h; simp [EOpd.isC] at hc
 | func f => simp only [aa8, Option.some.injEq] at h; subst h; simp [EOpd.isC] at hc
theorem cj3 {t : TypeId} (ox oy : Operand) {ex ey : EOpd} (hox : aa8 ox = some ex) (hoy : aa8 oy = some ey) {op : BinOp} (hop : op = .eql ∨ op = .neq) {k : NK} (hk : nkOf P t = some k) {x y : EV} {vx vy : Value} (hx : RV φ N I w x vx) (hy : RV φ N I w y vy)
  {r : Bool} (hev : bn6 (ex.isC || ey.isC) k x y = some r) : (do eqGuard op t ox oy vx vy; binOp op t vx vy : Sem Value).run P w = .ok (.bool (if op == .neq then !r else r)) w := by
 unfold bn6 at hev
 split at hev
 ·split at hev
  case isFalse => simp at hev
  rename_i hc
  obtain rfl := Option.some.inj hev
  cases hx
  cases hy
  unfold nkOf at hk
  split at hk <;> simp only [Option.some.injEq, reduceCtorEq] at hk
  rename_i hu
  have h0 : ∀ d, (Go.Op.equalIn (d + 1) t .nilIface .nilIface).run P w = .ok true w := fun d => by
   simp only [Go.Op.equalIn, Sem.run_bind, run_underlying hu, Result.andThen_ok, Sem.run_pure]
  have h1 : (Go.Op.equal t .nilIface .nilIface).run P w = .ok true w := h0 9999
  have h2 : (eqGuard op t ox oy .nilIface .nilIface).run P w = .ok () w := by
   rw [Bool.or_eq_true] at hc
   rcases hc with hc | hc
   ·obtain ⟨v, rfl⟩ := cn4 hox hc
    rcases hop with rfl | rfl <;> rfl
   ·obtain ⟨v, rfl⟩ := cn4 hoy hc
    rcases hop with rfl | rfl <;> cases ox <;> rfl
  simp only [Sem.run_bind, h2, Result.andThen_ok]
  rcases hop with rfl | rfl
  ·show (do pure (.bool (← Go.Op.equal t .nilIface .nilIface)) : Sem Value).run P w = _
   simp [h1]
  ·show (do pure (.bool (!(← Go.Op.equal t .nilIface .nilIface))) : Sem Value).run P w = _
   simp [h1]
 ·exact cq5 ox oy hop hk hx hy hev
end
theorem dw9 {P : Program} (em : Bool) (D : Nat) : ∀ (d : Nat) (t : TypeId) (ks : List SK), au0 P d t = some ks → ∀ (cs : List EV) (w : World), fits ks cs = true →
  (Instr.checkKey em (D + d) t (valT P t (cs.map at4))).run P w = .ok () w
 | 0, t, ks, h => by simp [au0] at h
 | d + 1, t, ks, h => by
  intro cs w hc
  have IH := dw9 (P := P) em D d
  unfold au0 at h
  split at h
  ·rename_i hu
   simp only [Option.some.injEq] at h; subst h
   match cs, hc with
   | [.bool a], _ =>
    simp only [valT, hu, List.map_cons, List.map_nil, at4, List.headD_cons]
    rw [show D + (d + 1) = (D + d) + 1 from rfl, Instr.checkKey]
    simp [run_underlying hu]
  ·rename_i k hu
   simp only [Option.some.injEq] at h; subst h
   have one : ∀ {xs : List EV}, fits [.i k] xs = true → ∃ a, xs = [.int k a] := by
    intro xs h
    cases xs with
    | nil => simp [fits] at h
    | cons x xs =>
     cases xs with
     | nil =>
      cases x <;> simp [fits, fit] at h
      subst h; exact ⟨_, rfl⟩
     | cons y ys => simp [fits] at h
   obtain ⟨a, rfl⟩ := one hc
   simp only [valT, hu, List.map_cons, List.map_nil, at4, List.headD_cons]
   rw [show D + (d + 1) = (D + d) + 1 from rfl, Instr.checkKey]
   simp [run_underlying hu]
  ·rename_i hu
   simp only [Option.some.injEq] at h; subst h
   match cs, hc with
   | [.str a], _ =>
    simp only [valT, hu, List.map_cons, List.map_nil, at4, List.headD_cons]
    rw [show D + (d + 1) = (D + d) + 1 from rfl, Instr.checkKey]
    simp [run_underlying hu]
  ·rename_i n e hu
   split at h
   ·rename_i ls i hls hi
    split at h
    ·rename_i hsz
     simp only [Option.some.injEq] at h
     simp only [valT, hu]
     rw [show D + (d + 1) = (D + d) + 1 from rfl, Instr.checkKey]
     simp only [Sem.run_bind, run_underlying hu, Result.andThen_ok]
     obtain ⟨k, hk, hk1⟩ := bh3 hls
     simp only [Std.Legacy.Range.forIn_eq_forIn_range', Std.Legacy.Range.size, Nat.sub_zero, Nat.add_one_sub_one, Nat.div_one]
     have hcell : P.cellsOf e = ls.length := by simp [Program.cellsOf, hi, hsz]
     have key : ∀ (m j : Nat), fits (List.replicate m ls).flatten (cs.drop (j * ls.length)) = true →
       (forIn (List.range' j m) PUnit.unit fun i _ => (do Instr.checkKey em (D + d) e (← part e (cs.map at4).toArray (i * (← Go.sizeOf e))); Pure.pure (ForInStep.yield PUnit.unit) : Sem (ForInStep PUnit))).run P w = .ok PUnit.unit w := by
      intro m
      induction m with
      | zero => intro j h1; simp
      | succ m ih =>
       intro j h1
       simp only [List.replicate_succ, List.flatten_cons] at h1
       have l1 := at2 h1
       have a1 := am1 h1
       rw [List.drop_drop, show j * ls.length + ls.length = (j + 1) * ls.length by rw [Nat.add_mul]; omega] at a1
       have g := ih (j + 1) a1.2
       simp only [List.length_drop, List.length_append] at l1
       have b1 : j * ls.length + ls.length ≤ cs.length := by
        rcases Nat.eq_zero_or_pos ls.length with h0 | h0
        ·simp [h0]
        ·omega
       simp only [List.range'_succ, List.forIn_cons, Sem.run_bind, run_sizeOf w hi, hcell, Result.andThen_ok]
       rw [bg3 hi hk (cs.map at4) _ w (by rw [List.length_map, hsz]; omega) (by rw [hsz]; exact hk1), Result.andThen_ok, hsz]
       rw [← List.map_drop, ← List.map_take, IH e ls hls _ w a1.1, Result.andThen_ok]
       simp only [Sem.run_pure, Result.andThen_ok]
       simpa only [Sem.run_bind] using g
     have := key n 0 (by rw [h]; simpa using hc)
     simp at this ⊢
     rw [this]
     simp
    ·simp at h
   ·simp at h
  ·rename_i fs hu
   split at h
   ·simp at h
   ·rename_i hst
    simp only [valT, hu]
    rw [show D + (d + 1) = (D + d) + 1 from rfl, Instr.checkKey]
    simp only [Sem.run_bind, run_underlying hu, Result.andThen_ok]
    rw [← Array.forIn_toList]
    generalize fs.toList = l at h
    have none_fold : ∀ (l : List Field), l.foldl (fun acc f =>
      match acc, au0 P d f.type, P.info? f.type with
      | some ks, some ls, some i => if f.offset = ks.length && i.size = ls.length && f.name != "_" then some (ks ++ ls) else none
      | _, _, _ => none) (none : Option (List SK)) = none := by
     intro l
     induction l with
     | nil => rfl
     | cons f l ih => simpa using ih
    have key : ∀ (l : List Field) (pre : List SK), l.foldl (fun acc f =>
      match acc, au0 P d f.type, P.info? f.type with
      | some ks, some ls, some i => if f.offset = ks.length && i.size = ls.length && f.name != "_" then some (ks ++ ls) else none
      | _, _, _ => none) (some pre) = some ks →
      (∀ f ∈ l, f.name ≠ "_" ∧ ∃ a, (part f.type (cs.map at4).toArray f.offset).run P w = .ok a w ∧ (Instr.checkKey em (D + d) f.type a).run P w = .ok () w) ∧ ∃ suf, ks = pre ++ suf := by
     intro l
     induction l with
     | nil =>
      intro pre hp
      simp only [List.foldl_nil, Option.some.injEq] at hp
      subst hp
      exact ⟨by simp, [], by simp⟩
     | cons f l ih =>
      intro pre hp
      rw [List.foldl_cons] at hp
      cases hls : au0 P d f.type with
      | none => simp only [hls, none_fold] at hp; simp at hp
      | some ls =>
       cases hi : P.info? f.type with
       | none => simp only [hls, hi, none_fold] at hp; simp at hp
       | some i =>
        simp only [hls, hi] at hp
        split at hp
        ·rename_i hcond
         simp only [Bool.and_eq_true, decide_eq_true_eq, bne_iff_ne, ne_eq] at hcond
         obtain ⟨⟨hoff, hsz⟩, hnm⟩ := hcond
         obtain ⟨g, suf, hsuf⟩ := ih (pre ++ ls) hp
         refine ⟨?_, ls ++ suf, by rw [hsuf]; simp⟩
         obtain ⟨k, hk, hk1⟩ := bh3 hls
         have l1 := at2 hc
         rw [hsuf] at l1
         simp only [List.length_append] at l1
         have f1 : fits ls ((cs.drop pre.length).take ls.length) = true := by
          have h1 := hc
          rw [hsuf, List.append_assoc] at h1
          exact (am1 (am1 h1).2).1
         intro y hy
         rcases List.mem_cons.1 hy with rfl | hy
         ·refine ⟨hnm, _, bg3 hi hk (cs.map at4) _ w (by rw [List.length_map, hsz]; omega) (by rw [hsz]; exact hk1), ?_⟩
          rw [hsz, hoff, ← List.map_drop, ← List.map_take]
          exact IH y.type ls hls _ w f1
         ·exact g y hy
        ·rw [none_fold] at hp; simp at hp
    have each := (key l [] h).1
    clear key none_fold h
    induction l with
    | nil => simp
    | cons f l ih =>
     obtain ⟨hn, a, p1, p2⟩ := each f (by simp)
     simp only [List.forIn_cons, Sem.run_bind, hn, ne_eq, not_false_eq_true, if_true, Result.andThen_ok, p1, p2, Sem.run_pure]
     exact ih (fun y hy => each y (by simp [hy]))
  ·simp at h
def keyV (P : Program) (t : TypeId) (k : EV) : Value := valT P t (k.cells.map at4)
theorem cl6 {P : Program} {φ : Nat → Nat} {N : Nat} {I : Nat → Prop} {w : World} {t : TypeId} {ag : Bool} {ks : List SK} {k : EV} {v : Value} (hd : ∃ d, P.underlying t = some d ∧ aggD d = ag)
  (hf : az4 ag ks k = true) (h : RV φ N I w k v) : v = keyV P t k := by
 obtain ⟨d, hu, ha⟩ := hd
 have hc := al3 hf
 unfold keyV
 unfold az4 at hf
 split at hf
 ·rename_i cs
  simp only [Bool.and_eq_true] at hf
  obtain ⟨rfl, hf⟩ := hf
  cases h with
  | agg _ vs hl hv =>
  rw [bw1 ⟨d, hu, ha⟩]
  have := bx9 (vs := vs.toList) hf (by simpa using hl) (fun k x v h1 h2 => hv k x v h1 (by simpa using h2))
  simp only [EV.cells]
  rw [← this]
 ·rename_i x hx
  simp only [Bool.and_eq_true, Bool.not_eq_true'] at hf
  obtain ⟨rfl, hf⟩ := hf
  have hxc : k.cells = [k] := bq6 hx
  have := bx9 (vs := [v]) hf rfl (fun j x u h1 h2 => by
   cases j with
   | zero => simp at h1 h2; subst h1 h2; exact h
   | succ j => simp at h1)
  rw [hxc, ← this]
  unfold valT
  rw [hu]
  cases d <;> first | rfl | exact absurd ha (by simp [aggD])
section
variable {P : Program} {φ : Nat → Nat} {N : Nat} {I : Nat → Prop} {w : World} {t : TypeId} {ag : Bool} {ks : List SK} {k : EV}
theorem et2 (hk : au0 P 16 t = some ks) {a b : EV} (ha : az4 ag ks a = true) (hb : az4 ag ks b = true) (w : World) :
  (Go.Op.equal t (keyV P t a) (keyV P t b)).run P w = .ok (eqL a.cells b.cells) w :=
 eqTy (P := P) 9984 16 t ks hk a.cells b.cells w (al3 ha) (al3 hb)
theorem ej4 : ∀ {ks : List SK} {a b : List EV}, fits ks a = true → fits ks b = true → eqL a b = true → a = b
 | [], [], [], _, _, _ => rfl
 | [], _ :: _, _, h, _, _ => by simp [fits] at h
 | [], [], _ :: _, _, h, _ => by simp [fits] at h
 | _ :: _, [], _, h, _, _ => by simp [fits] at h
 | _ :: _, _ :: _, [], _, h, _ => by simp [fits] at h
 | k :: ks, x :: a, y :: b, h1, h2, h3 => by
  simp only [fits, Bool.and_eq_true] at h1 h2
  simp only [eqL, Bool.and_eq_true] at h3
  rw [ej4 h1.2 h2.2 h3.2]
  have e1 := h1.1
  have e2 := h2.1
  have e3 := h3.1
  cases k <;> cases x <;> simp [fit] at e1 <;> cases y <;> simp [fit] at e2 <;> simp [sceq] at e3 <;> subst e3 <;> first | rfl | (rw [← e1, ← e2])
theorem ej6 (hk : au0 P 16 t = some ks) (ha : az4 ag ks k = true) (w : World) : ∀ (l : List MapEntry) (es : List (EV × EV)) (i : Nat), l.length = es.length → bo3 ag ks es = true →
  (∀ (j : Nat) (m : MapEntry) (e : EV × EV), l[j]? = some m → es[j]? = some e → m.key = keyV P t e.1) →
  (bq9 k es = none ∧ (∀ v, putE k v es = es ++ [(k, v)]) ∧ (Instr.findAsking t (keyV P t k) l i).run P w = .ok none w) ∨
  (∃ j m e, l[j]? = some m ∧ es[j]? = some e ∧ eqL k.cells e.1.cells = true ∧ bq9 k es = some e.2 ∧ (∀ v, putE k v es = es.set j (k, v)) ∧ (Instr.findAsking t (keyV P t k) l i).run P w = .ok (some (i + j, m.val)) w)
 | [], [], i, _, _, _ => .inl ⟨rfl, fun _ => rfl, by simp [Instr.findAsking]⟩
 | [], _ :: _, _, h, _, _ => by simp at h
 | _ :: _, [], _, h, _, _ => by simp at h
 | m :: l, e :: es, i, h, hf, hm => by
  simp only [bo3, List.all_cons, Bool.and_eq_true] at hf
  have h0 := hm 0 m e rfl rfl
  have he := et2 hk ha hf.1 w
  rw [← h0] at he
  by_cases hq : eqL k.cells e.1.cells = true
  ·refine .inr ⟨0, m, e, rfl, rfl, hq, by simp [bq9, hq], fun v => by simp [putE, hq], ?_⟩
   rw [hq] at he
   simp [Instr.findAsking, he]
  ·have hq' : eqL k.cells e.1.cells = false := by simpa using hq
   rw [hq'] at he
   have run : (Instr.findAsking t (keyV P t k) (m :: l) i).run P w = (Instr.findAsking t (keyV P t k) l (i + 1)).run P w := by
    simp [Instr.findAsking, he]
   rcases ej6 hk ha w l es (i + 1) (by simpa using h) hf.2 (fun j m e h1 h2 => hm (j + 1) m e (by simpa using h1) (by simpa using h2)) with ⟨g1, g2, g3⟩ | ⟨j, m', e', g1, g2, g3, g4, g5, g6⟩
   ·exact .inl ⟨by simp [bq9, hq', g1], fun v => by simp [putE, hq', g2], by rw [run, g3]⟩
   ·refine .inr ⟨j + 1, m', e', by simpa using g1, by simpa using g2, g3, by simp [bq9, hq', g4], fun v => by simp [putE, hq', g5], ?_⟩
    rw [run, g6, Nat.add_assoc, Nat.add_comm 1 j]
theorem eb1 {d : TypeDesc} (hd : P.underlying t = some d) (hk : au0 P 16 t = some ks) {a b : EV} (ha : az4 ag ks a = true) (hb : az4 ag ks b = true) :
  Instr.sameNow d (keyV P t a) (keyV P t b) = some (eqL a.cells b.cells) ∨ ∀ x y, Instr.sameNow d x y = none := by
 have fa := al3 ha
 have fb := al3 hb
 unfold au0 at hk
 rw [hd] at hk
 unfold keyV valT
 rw [hd]
 cases d <;> simp only [Option.some.injEq, reduceCtorEq] at hk <;> try (exact .inr fun x y => rfl)
 ·subst hk
  generalize a.cells = ca at fa
  generalize b.cells = cb at fb
  match ca, cb, fa, fb with
  | [.bool x], [.bool y], _, _ => exact .inl (by simp [at4, Instr.sameNow, eqL, sceq])
 ·rename_i q
  subst hk
  have one : ∀ {xs : List EV}, fits [.i q] xs = true → ∃ a, xs = [.int q a] := by
   intro xs h
   cases xs with
   | nil => simp [fits] at h
   | cons x xs =>
    cases xs with
    | nil =>
     cases x <;> simp [fits, fit] at h
     subst h; exact ⟨_, rfl⟩
    | cons y ys => simp [fits] at h
  obtain ⟨x, hx⟩ := one fa
  obtain ⟨y, hy⟩ := one fb
  rw [hx, hy]
  exact .inl (by simp [at4, Instr.sameNow, eqL, sceq])
 ·subst hk
  generalize a.cells = ca at fa
  generalize b.cells = cb at fb
  match ca, cb, fa, fb with
  | [.str x], [.str y], _, _ => exact .inl (by simp [at4, Instr.sameNow, eqL, sceq, cd7])
theorem now {d : TypeDesc} (hd : P.underlying t = some d) (hk : au0 P 16 t = some ks) (ha : az4 ag ks k = true) : ∀ (l : List MapEntry) (es : List (EV × EV)) (i : Nat), l.length = es.length → bo3 ag ks es = true →
  (∀ (j : Nat) (m : MapEntry) (e : EV × EV), l[j]? = some m → es[j]? = some e → m.key = keyV P t e.1) →
  Instr.findNow d (keyV P t k) l i = none ∨ (bq9 k es = none ∧ Instr.findNow d (keyV P t k) l i = some none) ∨
  (∃ j m e, l[j]? = some m ∧ es[j]? = some e ∧ eqL k.cells e.1.cells = true ∧ bq9 k es = some e.2 ∧ (∀ v, putE k v es = es.set j (k, v)) ∧ Instr.findNow d (keyV P t k) l i = some (some (i + j, m.val)))
 | [], [], i, _, _, _ => .inr (.inl ⟨rfl, rfl⟩)
 | [], _ :: _, _, h, _, _ => by simp at h
 | _ :: _, [], _, h, _, _ => by simp at h
 | m :: l, e :: es, i, h, hf, hm => by
  simp only [bo3, List.all_cons, Bool.and_eq_true] at hf
  have h0 := hm 0 m e rfl rfl
  rcases eb1 hd hk ha hf.1 with he | he
  ·rw [← h0] at he
   by_cases hq : eqL k.cells e.1.cells = true
   ·refine .inr (.inr ⟨0, m, e, rfl, rfl, hq, by simp [bq9, hq], fun v => by simp [putE, hq], ?_⟩)
    rw [hq] at he
    simp [Instr.findNow, he]
   ·have hq' : eqL k.cells e.1.cells = false := by simpa using hq
    rw [hq'] at he
    have run : Instr.findNow d (keyV P t k) (m :: l) i = Instr.findNow d (keyV P t k) l (i + 1) := by
     simp [Instr.findNow, he]
    rcases now hd hk ha l es (i + 1) (by simpa using h) hf.2 (fun j m e h1 h2 => hm (j + 1) m e (by simpa using h1) (by simpa using h2)) with g | ⟨g1, g3⟩ | ⟨j, m', e', g1, g2, gq, g4, g5, g6⟩
    ·exact .inl (run.trans g)
    ·exact .inr (.inl ⟨by simp [bq9, hq', g1], by rw [run, g3]⟩)
    ·refine .inr (.inr ⟨j + 1, m', e', by simpa using g1, by simpa using g2, gq, by simp [bq9, hq', g4], fun v => by simp [putE, hq', g5], ?_⟩)
     rw [run, g6, Nat.add_assoc, Nat.add_comm 1 j]
  ·left
   simp [Instr.findNow, he]
theorem ci4 {d : TypeDesc} (hd : P.underlying t = some d) (hk : au0 P 16 t = some ks) (ha : az4 ag ks k = true) (w : World) (l : List MapEntry) (es : List (EV × EV)) (hl : l.length = es.length) (hf : bo3 ag ks es = true)
  (hm : ∀ (j : Nat) (m : MapEntry) (e : EV × EV), l[j]? = some m → es[j]? = some e → m.key = keyV P t e.1) :
  (bq9 k es = none ∧ (∀ v, putE k v es = es ++ [(k, v)]) ∧ (Instr.findKey t (keyV P t k) l).run P w = .ok none w) ∨
  (∃ j m e, l[j]? = some m ∧ es[j]? = some e ∧ eqL k.cells e.1.cells = true ∧ bq9 k es = some e.2 ∧ (∀ v, putE k v es = es.set j (k, v)) ∧ (Instr.findKey t (keyV P t k) l).run P w = .ok (some (j, m.val)) w) := by
 have hA := ej6 hk ha w l es 0 hl hf hm
 rcases now hd hk ha l es 0 hl hf hm with g | ⟨g1, g2⟩ | ⟨j, m, e, g1, g2, gq, g4, g5, g6⟩
 ·have run : (Instr.findKey t (keyV P t k) l).run P w = (Instr.findAsking t (keyV P t k) l 0).run P w := by
   simp [Instr.findKey, run_underlying hd, g]
  rcases hA with ⟨a1, a2, a3⟩ | ⟨j, m, e, a1, a2, a3, a4, a5, a6⟩
  ·exact .inl ⟨a1, a2, run.trans a3⟩
  ·exact .inr ⟨j, m, e, a1, a2, a3, a4, a5, by rw [run, a6, Nat.zero_add]⟩
 ·have run : (Instr.findKey t (keyV P t k) l).run P w = .ok none w := by
   simp [Instr.findKey, run_underlying hd, g2]
  rcases hA with ⟨a1, a2, a3⟩ | ⟨j, m, e, a1, a2, a3, a4, a5, a6⟩
  ·exact .inl ⟨a1, a2, run⟩
  ·rw [g1] at a4; simp at a4
 ·have run : (Instr.findKey t (keyV P t k) l).run P w = .ok (some (j, m.val)) w := by
   simp [Instr.findKey, run_underlying hd, g6]
  exact .inr ⟨j, m, e, g1, g2, gq, g4, g5, run⟩
theorem ag9 {w : World} {g B : Nat} {o : Obj} (h : B ≠ g) : ({ w with heap := w.heap.setIfInBounds g o } : World).heap[B]? = w.heap[B]? := by
 simp [Array.getElem?_setIfInBounds, Ne.symm h]
theorem at5 {w : World} {g : Nat} {o : Obj} (h : g < w.heap.size) : ({ w with heap := w.heap.setIfInBounds g o } : World).heap[g]? = some o := by
 simp [h]
theorem bu1 {w : World} {g B : Nat} {ms ms' : Array MapEntry} {c c' : Nat} (hg : w.heap[g]? = some (.map ms c)) :
  ({ w with heap := w.heap.setIfInBounds g (.map ms' c') } : World).shape? B = w.shape? B := by
 have hlt : g < w.heap.size := (Array.getElem?_eq_some_iff.1 hg).1
 by_cases e : B = g
 ·subst e
  have h1 := at5 (w := w) (o := .map ms' c') hlt
  simp only [World.shape?]
  simp only at h1
  rw [h1, hg]
 ·have h1 := ag9 (w := w) (o := .map ms' c') e
  simp only [World.shape?]
  simp only at h1
  rw [h1]
theorem bn2 {φ : Nat → Nat} {I : Nat → Prop} {H : Heap} {w : World} {b : Nat} {x y : EB} {ms ms' : Array MapEntry} {c c' : Nat}
  (hb : H[b]? = some (some x)) (hg : w.heap[φ b]? = some (.map ms c)) : Evo φ I H w φ I (H.set b (some y)) { w with heap := w.heap.setIfInBounds (φ b) (.map ms' c') } where
 size := by simp
 shape B _ := bu1 hg
 keep B _ hn := ag9 fun e => hn ⟨b, x, hb, e.symm⟩
 imm B h := h
 phi i _ := rfl
 len := by simp
 own B h := by
  obtain ⟨k, z, hk, e⟩ := h
  by_cases hkb : b = k
  ·subst hkb; exact .inl ⟨b, x, hb, e⟩
  ·rw [List.getElem?_set_ne hkb] at hk; exact .inl ⟨k, z, hk, e⟩
 immf B h := .inl h
 tape := rfl
 os := rfl
 out := rfl
 froz a _ := by
  unfold World.frozen?
  by_cases e : a.block = φ b
  ·rw [e, at5 (Array.getElem?_eq_some_iff.1 hg).1, hg]
  ·rw [ag9 e]
theorem cm1 {γ : Nat → EV} {φ : Nat → Nat} {I : Nat → Prop} {H : Heap} {w : World} {b : Nat} {x y : EB} {ms ms' : Array MapEntry} {c c' : Nat}
  (h : RH γ φ I H w) (hb : H[b]? = some (some x)) (hg : w.heap[φ b]? = some (.map ms c))
  (hy : RB φ H.length I { w with heap := w.heap.setIfInBounds (φ b) (.map ms' c') } (φ b) y) : RH γ φ I (H.set b (some y)) { w with heap := w.heap.setIfInBounds (φ b) (.map ms' c') } where
 glob g := (h.glob g).mono (Nat.le_refl 0) (fun i hi => absurd hi (Nat.not_lt_zero i)) (fun _ h => h)
  (fun B hB => ag9 (g := φ b) fun e => h.dis b x hb (e ▸ hB)) (fun b hb => absurd hb (Nat.not_lt_zero b))
 blk k z hk := by
  rw [List.length_set]
  by_cases hkb : b = k
  ·subst hkb
   rw [List.getElem?_set_self (aa3 hb)] at hk
   simp only [Option.some.injEq] at hk
   exact hk ▸ hy
  ·rw [List.getElem?_set_ne hkb] at hk
   exact (h.blk k z hk).mono (Nat.le_refl _) (fun _ _ => rfl) (fun _ h => h) (fun B hB => ag9 (g := φ b) fun e => h.dis b x hb (e ▸ hB))
    (fun _ _ _ _ hs' => (bu1 hg).trans hs') (ag9 fun e => hkb (h.inj b k x z hb hk e.symm))
 inj k k' z z' hk hk' e := by
  have f : ∀ {k : Nat} {z : EB}, (H.set b (some y))[k]? = some (some z) → ∃ z', H[k]? = some (some z') := fun {k z} hk => by
   by_cases hkb : b = k
   ·subst hkb; exact ⟨x, hb⟩
   ·rw [List.getElem?_set_ne hkb] at hk; exact ⟨z, hk⟩
  obtain ⟨u, hu⟩ := f hk
  obtain ⟨u', hu'⟩ := f hk'
  exact h.inj k k' u u' hu hu' e
 imm B hB := by have := h.imm B hB; simpa using this
 dis k z hk := by
  by_cases hkb : b = k
  ·subst hkb; exact h.dis b x hb
  ·rw [List.getElem?_set_ne hkb] at hk; exact h.dis k z hk
 lt k z hk := by
  by_cases hkb : b = k
  ·subst hkb; simpa using h.lt b x hb
  ·rw [List.getElem?_set_ne hkb] at hk; simpa using h.lt k z hk
theorem ch9 {z : EV} {v : Value} {b ok : Bool} (h : RV φ N I w z v) : RV φ N I w (if ok then .tup [z, .bool b] else z) (if ok then .tuple #[v, .bool b] else v) := by
 cases ok
 ·exact h
 ·refine .tup _ _ rfl fun k x u hx hu => ?_
  match k, hx, hu with
  | 0, hx, hu => simp at hx hu; subst hx hu; exact h
  | 1, hx, hu => simp at hx hu; subst hx hu; exact .bool b
  | k + 2, hx, hu => simp at hx
theorem bm0 (hk : au0 P 16 t = some ks) (ha : az4 ag ks k = true) (em : Bool) (w : World) : (Instr.checkKey em 10000 t (keyV P t k)).run P w = .ok () w :=
 dw9 (P := P) em 9984 16 t ks hk k.cells w (al3 ha)
theorem cl4 (ha : az4 ag ks k = true) (hd : ∃ d, P.underlying t = some d ∧ aggD d = ag) (hk : au0 P 16 t = some ks) : Instr.sameBits 10000 (keyV P t k) (keyV P t k) = true := by
 have hc := al3 ha
 have one : ∀ (n : Nat) (q : SK) (x : EV), fit q x = true → Instr.sameBits n (at4 x) (at4 x) = true := by
  intro n q x h
  cases q <;> cases x <;> simp [fit] at h <;> simp [at4, Instr.sameBits, cd7]
 have all : ∀ (n : Nat) (ks : List SK) (xs : List EV), fits ks xs = true → ((xs.map at4).zip (xs.map at4)).all (fun (x, y) => Instr.sameBits n x y) = true := by
  intro n ks
  induction ks with
  | nil => intro xs h; cases xs <;> simp [fits] at h ⊢
  | cons q ks ih =>
   intro xs h
   cases xs with
   | nil => simp [fits] at h
   | cons x xs =>
    simp only [fits, Bool.and_eq_true] at h
    simp only [List.map_cons, List.zip_cons_cons, List.all_cons, Bool.and_eq_true]
    exact ⟨one n q x h.1, ih xs h.2⟩
 obtain ⟨d, hu, hag⟩ := hd
 unfold keyV
 by_cases hag' : aggD d = true
 ·rw [bw1 ⟨d, hu, hag'⟩]
  have := all 9999 ks k.cells hc
  show (_ && _) = true
  simpa using this
 ·unfold valT
  rw [hu]
  have hl : ks.length = 1 := by
   obtain ⟨d', hu', h1⟩ := bh3 hk
   rw [hu] at hu'
   simp only [Option.some.injEq] at hu'
   subst hu'
   exact h1 (by simpa using hag')
  have hl2 := at2 hc
  rw [hl] at hl2
  generalize k.cells = cs at hc hl2
  match cs, ks, hc, hl2 with
  | [x], [q], hc, _ =>
   simp only [fits, Bool.and_eq_true] at hc
   have := one 10000 q x hc.1
   cases d <;> first | exact this | exact absurd rfl hag'
theorem cn1 {γ : Nat → EV} {H : Heap} (hr : RH γ φ I H w) {mt e : TypeId} (hm : P.underlying mt = some (.map t e)) (hd : ∃ d, P.underlying t = some d ∧ aggD d = ag) (hk : au0 P 16 t = some ks)
  {z x v : EV} {vz vx vk : Value} {ok : Bool} (hz : (zeroValue e).run P w = .ok vz w) (hzr : RV φ H.length I w z vz) (hx : RV φ H.length I w x vx) (hkr : RV φ H.length I w k vk) (hev : ci8 ag ks z ok x k H = some v) :
  ∃ val, (Instr.lookup mt vx vk ok).run P w = .ok val w ∧ RV φ H.length I w v val := by
 unfold ci8 at hev
 split at hev
 ·cases hx
  split at hev
  ·rename_i hf
   simp only [Option.some.injEq] at hev; subst hev
   have e1 := cl6 hd hf hkr
   subst e1
   obtain ⟨d, hd, _⟩ := hd
   rcases ci4 hd hk hf w [] [] rfl rfl (by simp) with ⟨g1, g2, g3⟩ | ⟨j, m, e, g1, _⟩
   ·refine ⟨if ok then .tuple #[vz, .bool false] else vz, ?_, ch9 hzr⟩
    simp [Instr.lookup, run_underlying hm, bm0 hk hf, g3, hz]
   ·simp at g1
  ·simp at hev
 ·rename_i b
  cases hx
  split at hev
  ·rename_i es hH
   split at hev
   ·rename_i hf
    simp only [Bool.and_eq_true] at hf
    have e1 := cl6 hd hf.1 hkr
    subst e1
    obtain ⟨ms, clock, hB, hsz, hes⟩ := hr.blk b _ hH
    have hkeys : ∀ (j : Nat) (m : MapEntry) (e : EV × EV), ms.toList[j]? = some m → es[j]? = some e → m.key = keyV P t e.1 := fun j m e h1 h2 =>
     cl6 hd (List.all_eq_true.1 hf.2 e (List.mem_of_getElem? h2)) (hes j e m h2 (by simpa using h1)).1
    obtain ⟨d, hd, _⟩ := hd
    rcases ci4 hd hk hf.1 w ms.toList es (by simpa using hsz) hf.2 hkeys with ⟨g1, g2, g3⟩ | ⟨j, m, e, g1, g2, g3, g4, g5, g6⟩
    ·rw [g1] at hev
     simp only [Option.some.injEq] at hev; subst hev
     refine ⟨if ok then .tuple #[vz, .bool false] else vz, ?_, ch9 hzr⟩
     simp [Instr.lookup, run_underlying hm, Go.MapKept.run_getObj_map hB, bm0 hk hf.1, g3, hz]
    ·rw [g4] at hev
     simp only [Option.some.injEq] at hev; subst hev
     refine ⟨if ok then .tuple #[m.val, .bool true] else m.val, ?_, ch9 (hes j e m g2 (by simpa using g1)).2⟩
     simp [Instr.lookup, run_underlying hm, Go.MapKept.run_getObj_map hB, bm0 hk hf.1, g6]
   ·simp at hev
  ·simp at hev
 ·simp at hev
theorem bu5 {γ : Nat → EV} {H H' : Heap} (hr : RH γ φ I H w) {mt e : TypeId} (hm : P.underlying mt = some (.map t e)) (hd : ∃ d, P.underlying t = some d ∧ aggD d = ag) (hk : au0 P 16 t = some ks)
  {x v : EV} {vx vk vv : Value} (hx : RV φ H.length I w x vx) (hkr : RV φ H.length I w k vk) (hv : RV φ H.length I w v vv) (hev : ci7 ag ks x k v H = some H') :
  ∃ w', (Instr.mapUpdate mt vx vk vv).run P w = .ok () w' ∧ Evo φ I H w φ I H' w' ∧ RH γ φ I H' w' := by
 unfold ci7 at hev
 split at hev
 ·rename_i b
  cases hx
  split at hev
  ·rename_i es hH
   split at hev
   ·rename_i hf
    simp only [Bool.and_eq_true] at hf
    simp only [Option.some.injEq] at hev; subst hev
    have e1 := cl6 hd hf.1 hkr
    obtain ⟨ms, clock, hB, hsz, hes⟩ := hr.blk b _ hH
    have hkeys : ∀ (j : Nat) (m : MapEntry) (e : EV × EV), ms.toList[j]? = some m → es[j]? = some e → m.key = keyV P t e.1 := fun j m e h1 h2 =>
     cl6 hd (List.all_eq_true.1 hf.2 e (List.mem_of_getElem? h2)) (hes j e m h2 (by simpa using h1)).1
    have hbits := cl4 (P := P) (t := t) hf.1 hd hk
    obtain ⟨d, hud, hdd⟩ := hd
    have hlt : φ b < w.heap.size := hr.lt b _ hH
    rcases ci4 hud hk hf.1 w ms.toList es (by simpa using hsz) hf.2 hkeys with ⟨g1, g2, g3⟩ | ⟨j, m, e, g1, g2, g3, g4, g5, g6⟩
    ·refine ⟨{ w with heap := w.heap.setIfInBounds (φ b) (.map (ms.push { key := vk, val := vv, born := clock }) (clock + 1)) }, ?_, bn2 hH hB, cm1 hr hH hB ?_⟩
     ·subst e1
      simp [Instr.mapUpdate, run_underlying hm, Go.MapKept.run_getObj_map hB, bm0 hk hf.1, g3, Go.MapKept.run_setObj_map _ hB]
     ·have step : ∀ {x : EV} {u : Value}, RV φ H.length I w x u → RV φ H.length I { w with heap := w.heap.setIfInBounds (φ b) (.map (ms.push { key := vk, val := vv, born := clock }) (clock + 1)) } x u := fun {x u} h => by
       have := (bn2 (I := I) (y := EB.map es) (ms' := ms.push { key := vk, val := vv, born := clock }) (c' := clock + 1) hH hB).rv hr h
       simpa using this
      refine ⟨_, _, at5 hlt, by simp [g2, hsz], fun i e m he hm => ?_⟩
      rw [g2] at he
      by_cases hi : i < es.length
      ·rw [List.getElem?_append_left hi] at he
       rw [Array.getElem?_push, if_neg (by omega)] at hm
       exact ⟨step (hes i e m he hm).1, step (hes i e m he hm).2⟩
      ·have hi2 := aa3 he
       simp at hi2
       obtain rfl : i = es.length := by omega
       simp at he
       rw [Array.getElem?_push, if_pos (by omega)] at hm
       simp at hm
       subst he hm
       exact ⟨step hkr, step hv⟩
    ·refine ⟨{ w with heap := w.heap.setIfInBounds (φ b) (.map (ms.modify j fun e => { e with key := vk, val := vv }) clock) }, ?_, bn2 hH hB, cm1 hr hH hB ?_⟩
     ·have hmk : m.key = keyV P t e.1 := hkeys j m e g1 g2
      subst e1
      have hme : m.key = keyV P t k := by
       have hfe := List.all_eq_true.1 hf.2 e (List.mem_of_getElem? g2)
       rw [hmk, keyV, keyV, ej4 (al3 hf.1) (al3 hfe) g3]
      have g1' : ms[j]? = some m := by simpa using g1
      simp [Instr.mapUpdate, run_underlying hm, Go.MapKept.run_getObj_map hB, bm0 hk hf.1, g6, g1', hme, Instr.keyThatStays, hbits, Go.MapKept.run_setObj_map _ hB]
     ·have step : ∀ {x : EV} {u : Value}, RV φ H.length I w x u → RV φ H.length I { w with heap := w.heap.setIfInBounds (φ b) (.map (ms.modify j fun e => { e with key := vk, val := vv }) clock) } x u := fun {x u} h => by
       have := (bn2 (I := I) (y := EB.map es) (ms' := ms.modify j fun e => { e with key := vk, val := vv }) (c' := clock) hH hB).rv hr h
       simpa using this
      refine ⟨_, _, at5 hlt, by simp [g5, hsz], fun i e' m' he hm => ?_⟩
      rw [g5] at he
      rw [Array.getElem?_modify] at hm
      by_cases hi : j = i
      ·subst hi
       rw [List.getElem?_set_self (aa3 g2)] at he
       simp only [Option.some.injEq] at he
       subst he
       simp only [if_true, Option.map_eq_some_iff] at hm
       obtain ⟨m0, _, rfl⟩ := hm
       exact ⟨step hkr, step hv⟩
      ·rw [List.getElem?_set_ne hi] at he
       rw [if_neg hi] at hm
       exact ⟨step (hes i e' m' he hm).1, step (hes i e' m' he hm).2⟩
   ·simp at hev
  ·simp at hev
 ·simp at hev
theorem ci1 {γ : Nat → EV} {H : Heap} (hr : RH γ φ I H w) (mt : TypeId) :
  ∃ φ' w', (Instr.makeMap mt none).run P w = .ok (.map (some w.heap.size)) w' ∧ Evo φ I H w φ' I (H ++ [some (.map [])]) w' ∧ RH γ φ' I (H ++ [some (.map [])]) w' ∧
   RV φ' (H ++ [some (EB.map [])]).length I w' (.map H.length) (.map (some w.heap.size)) := by
 refine ⟨up φ H.length w.heap.size, w.alloc (.map #[] 0), by simp [Instr.makeMap, run_newObj], bl6 .., bq1 hr ⟨#[], 0, aw8 .., rfl, by simp⟩, ?_⟩
 have := RV.map (φ := up φ H.length w.heap.size) (N := (H ++ [some (EB.map [])]).length) (I := I) (w := w.alloc (.map #[] 0)) H.length (by simp)
 rwa [bd6] at this
end
end Abs
