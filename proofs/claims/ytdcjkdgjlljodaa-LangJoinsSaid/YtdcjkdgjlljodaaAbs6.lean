/- A part. -/
import Derived.Test.YtdcjkdgjlljodaaAbs1
import Derived.ChangeKeysEq
namespace Abs
open Go
def aggD : TypeDesc → Bool
 | .struct _ | .array _ _ => true
 | _ => false
inductive SK where
 | b
 | i (k : IntKind)
 | s
 deriving DecidableEq, Inhabited
def fit : SK → EV → Bool
 | .b, .bool _ => true
 | .i k, .int k' _ => k == k'
 | .s, .str _ => true
 | _, _ => false
def fits : List SK → List EV → Bool
 | [], [] => true
 | k :: ks, x :: xs => fit k x && fits ks xs
 | _, _ => false
def sceq : EV → EV → Bool
 | .bool a, .bool b => a == b
 | .int _ a, .int _ b => a == b
 | .str a, .str b => a == b
 | _, _ => false
def eqL : List EV → List EV → Bool
 | [], [] => true
 | x :: xs, y :: ys => sceq x y && eqL xs ys
 | _, _ => false
def au0 (P : Program) : Nat → TypeId → Option (List SK)
 | 0, _ => none
 | d + 1, t =>
  match P.underlying t with
  | some .bool => some [.b]
  | some (.int k) => some [.i k]
  | some .string => some [.s]
  | some (.array n e) =>
   match au0 P d e, P.info? e with
   | some ks, some i => if i.size = ks.length then some (List.replicate n ks).flatten else none
   | _, _ => none
  | some (.struct fs) =>
   if P.stoodInHeld t then none else
   fs.toList.foldl (fun acc f =>
    match acc, au0 P d f.type, P.info? f.type with
    | some ks, some ls, some i => if f.offset = ks.length && i.size = ls.length && f.name != "_" then some (ks ++ ls) else none
    | _, _, _ => none) (some [])
  | _ => none
theorem at2 : ∀ {ks : List SK} {xs : List EV}, fits ks xs = true → xs.length = ks.length
 | [], [], _ => rfl
 | _ :: _, _ :: _, h => by simp [fits] at h; simp [at2 h.2]
 | [], _ :: _, h => by simp [fits] at h
 | _ :: _, [], h => by simp [fits] at h
theorem am1 : ∀ {ks ls : List SK} {xs : List EV}, fits (ks ++ ls) xs = true → fits ks (xs.take ks.length) = true ∧ fits ls (xs.drop ks.length) = true
 | [], ls, xs, h => by simpa [fits] using h
 | k :: ks, ls, [], h => by simp [fits] at h
 | k :: ks, ls, x :: xs, h => by
  simp only [List.cons_append, fits, Bool.and_eq_true] at h
  have := am1 h.2
  simp [fits, h.1, this.1, this.2]
theorem ca6 : ∀ (n : Nat) (xs ys : List EV), xs.length = ys.length → eqL xs ys = (eqL (xs.take n) (ys.take n) && eqL (xs.drop n) (ys.drop n))
 | 0, xs, ys, _ => by simp [eqL]
 | n + 1, [], [], _ => by simp [eqL]
 | n + 1, x :: xs, y :: ys, h => by
  simp only [eqL, List.take_succ_cons, List.drop_succ_cons]
  rw [ca6 n xs ys (by simpa using h), Bool.and_assoc]
 | n + 1, [], y :: ys, h => by simp at h
 | n + 1, x :: xs, [], h => by simp at h
theorem dm1 {φ : Nat → Nat} {N : Nat} {I : Nat → Prop} {w : World} {k : SK} {x : EV} {v : Value} (h : RV φ N I w x v) (hf : fit k x = true) :
  (∃ b, k = .b ∧ x = .bool b ∧ v = .bool b) ∨ (∃ q n, k = .i q ∧ x = .int q n ∧ v = .int q n) ∨ (∃ s, k = .s ∧ x = .str s ∧ v = .string ⟨s.toArray⟩) := by
 cases k <;> cases x <;> simp [fit] at hf
 ·cases h; exact .inl ⟨_, rfl, rfl, rfl⟩
 ·cases h; subst hf; exact .inr (.inl ⟨_, _, rfl, rfl, rfl⟩)
 ·cases h; exact .inr (.inr ⟨_, rfl, rfl, rfl⟩)
def valT (P : Program) (t : TypeId) (vs : List Value) : Value :=
 match P.underlying t with
 | some (.struct _) | some (.array _ _) => .agg vs.toArray
 | _ => vs.headD Go.undef
def at4 : EV → Value
 | .bool b => .bool b
 | .int k n => .int k n
 | .str s => .string ⟨s.toArray⟩
 | _ => Go.undef
theorem cd7 (a b : List UInt8) : ((⟨a.toArray⟩ : ByteArray) == ⟨b.toArray⟩) = (a == b) := by
 rw [beq_toListBytes, ByteArray.toList_eq, ByteArray.toList_eq]
theorem bg3 {P : Program} {t : TypeId} {i : TypeInfo} {d : TypeDesc} (hi : P.info? t = some i) (hu : P.underlying t = some d) (vs : List Value) (off : Nat) (w : World)
  (hs : off + i.size ≤ vs.length) (h1 : aggD d = false → i.size = 1) :
  (part t vs.toArray off).run P w = .ok (valT P t ((vs.drop off).take i.size)) w := by
 by_cases hd : aggD d = true
 ·cases d <;> first
   | (simp [part, isAgg, run_underlying hu, valT, hu, Go.sizeOf, typeInfo, hi, List.extract]; done)
   | (exact absurd hd Bool.false_ne_true)
 ·have h2 := h1 (by simpa using hd)
  have hlt : off < vs.length := by omega
  have e : ((vs.drop off).take 1).headD Go.undef = vs[off] := by
   rw [List.drop_eq_getElem_cons hlt]; rfl
  have hag : (isAgg t).run P w = .ok false w := by
   simp only [isAgg, Sem.run_bind, run_underlying hu, Result.andThen_ok]
   cases d <;> first | rfl | exact absurd rfl hd
  have hv : valT P t ((vs.drop off).take i.size) = vs[off] := by
   rw [h2, ← e]
   unfold valT
   rw [hu]
   cases d <;> first | rfl | exact absurd rfl hd
  rw [hv]
  simp [part, hag, hlt]
theorem bh3 {P : Program} {d : Nat} {t : TypeId} {ks : List SK} (h : au0 P d t = some ks) : ∃ k, P.underlying t = some k ∧
  (aggD k = false → ks.length = 1) := by
 cases d with
 | zero => simp [au0] at h
 | succ d =>
  unfold au0 at h
  cases hu : P.underlying t with
  | none => simp [hu] at h
  | some k =>
   refine ⟨k, rfl, ?_⟩
   rw [hu] at h
   cases k <;> simp [aggD] at h ⊢ <;> subst h <;> rfl
theorem eqTy {P : Program} (D : Nat) : ∀ (d : Nat) (t : TypeId) (ks : List SK), au0 P d t = some ks → ∀ (cs ds : List EV) (w : World), fits ks cs = true → fits ks ds = true →
  (Op.equalIn (D + d) t (valT P t (cs.map at4)) (valT P t (ds.map at4))).run P w = .ok (eqL cs ds) w
 | 0, t, ks, h => by simp [au0] at h
 | d + 1, t, ks, h => by
  intro cs ds w hc hd
  have IH := eqTy (P := P) D d
  unfold au0 at h
  split at h
  ·rename_i hu
   simp only [Option.some.injEq] at h; subst h
   match cs, ds, hc, hd with
   | [.bool a], [.bool b], _, _ =>
    simp only [valT, hu, List.map_cons, List.map_nil, at4, List.headD_cons]
    rw [show D + (d + 1) = (D + d) + 1 from rfl, run_equalIn_bool w (D + d) t a b hu]
    simp [eqL, sceq]
  ·rename_i k hu
   simp only [Option.some.injEq] at h; subst h
   have one : ∀ {xs : List EV}, fits [.i k] xs = true → ∃ a, xs = [.int k a] := by
    intro xs h
    cases xs with
    | nil => simp [fits] at h
    | cons x xs =>
     cases xs with
     | nil =>
      cases x <;> simp [fits, fit] at h
      subst h; exact ⟨_, rfl⟩
     | cons y ys => simp [fits] at h
   obtain ⟨a, rfl⟩ := one hc
   obtain ⟨b, rfl⟩ := one hd
   simp only [valT, hu, List.map_cons, List.map_nil, at4, List.headD_cons]
   rw [show D + (d + 1) = (D + d) + 1 from rfl, run_equalIn_int w (D + d) t _ _ a b hu]
   simp [eqL, sceq]
  ·rename_i hu
   simp only [Option.some.injEq] at h; subst h
   match cs, ds, hc, hd with
   | [.str a], [.str b], _, _ =>
    simp only [valT, hu, List.map_cons, List.map_nil, at4, List.headD_cons]
    rw [show D + (d + 1) = (D + d) + 1 from rfl, run_equalIn_string w (D + d) t _ _ hu, ByteArray.toList_eq, ByteArray.toList_eq]
    simp [eqL, sceq]
  ·rename_i n e hu
   split at h
   ·rename_i ls i hls hi
    split at h
    ·rename_i hsz
     simp only [Option.some.injEq] at h
     simp only [valT, hu]
     rw [show D + (d + 1) = (D + d) + 1 from rfl, run_equalIn_array w (D + d) _ _ hu hi]
     obtain ⟨k, hk, hk1⟩ := bh3 hls
     have hcell : P.cellsOf e = ls.length := by simp [Program.cellsOf, hi, hsz]
     rw [hcell]
     have key : ∀ (m j : Nat), fits (List.replicate m ls).flatten (cs.drop (j * ls.length)) = true → fits (List.replicate m ls).flatten (ds.drop (j * ls.length)) = true →
       (Op.eqItems (D + d) e ls.length (cs.map at4).toArray (ds.map at4).toArray (List.range' j m)).run P w = .ok (eqL (cs.drop (j * ls.length)) (ds.drop (j * ls.length))) w := by
      intro m
      induction m with
      | zero =>
       intro j h1 h2
       have e1 := at2 h1
       have e2 := at2 h2
       simp only [List.replicate_zero, List.flatten_nil, List.length_nil, List.length_eq_zero_iff] at e1 e2
       simp [Op.eqItems, e1, e2, eqL]
      | succ m ih =>
       intro j h1 h2
       simp only [List.replicate_succ, List.flatten_cons] at h1 h2
       have l1 := at2 h1
       have l2 := at2 h2
       have a1 := am1 h1
       have a2 := am1 h2
       rw [List.drop_drop, show j * ls.length + ls.length = (j + 1) * ls.length by rw [Nat.add_mul]; omega] at a1 a2
       have g := ih (j + 1) a1.2 a2.2
       simp only [List.length_drop, List.length_append] at l1 l2
       have b1 : j * ls.length + ls.length ≤ cs.length := by
        rcases Nat.eq_zero_or_pos ls.length with h0 | h0
        ·simp [h0]
        ·omega
       have b2 : j * ls.length + ls.length ≤ ds.length := by
        rcases Nat.eq_zero_or_pos ls.length with h0 | h0
        ·simp [h0]
        ·omega
       simp only [List.range'_succ, Op.eqItems, Sem.run_bind]
       rw [bg3 hi hk (cs.map at4) _ w (by rw [List.length_map, hsz]; omega) (by rw [hsz]; exact hk1),
        Result.andThen_ok, bg3 hi hk (ds.map at4) _ w (by rw [List.length_map, hsz]; omega) (by rw [hsz]; exact hk1), Result.andThen_ok, hsz]
       rw [← List.map_drop, ← List.map_take, ← List.map_drop, ← List.map_take, IH e ls hls _ _ w a1.1 a2.1, Result.andThen_ok]
       rw [ca6 ls.length (cs.drop (j * ls.length)) (ds.drop (j * ls.length)) (by simp; omega), List.drop_drop, List.drop_drop,
        show j * ls.length + ls.length = (j + 1) * ls.length by rw [Nat.add_mul]; omega]
       cases eqL ((cs.drop (j * ls.length)).take ls.length) ((ds.drop (j * ls.length)).take ls.length) with
       | true => simpa using g
       | false => simp
     have := key n 0 (by rw [h]; simpa using hc) (by rw [h]; simpa using hd)
     rw [List.range_eq_range']
     simpa using this
    ·simp at h
   ·simp at h
  ·rename_i fs hu
   split at h
   ·simp at h
   ·rename_i hst
    have hst' : P.stoodInHeld t = false := by simpa using hst
    simp only [valT, hu]
    have hf : P.fieldsOf t = fs := by simp [Program.fieldsOf, hu]
    rw [show D + (d + 1) = (D + d) + 1 from rfl, run_equalIn_struct w (D + d) t _ _ (by rw [hf]; exact hu) hst', hf]
    generalize fs.toList = l at h
    have none_fold : ∀ (l : List Field), l.foldl (fun acc f =>
      match acc, au0 P d f.type, P.info? f.type with
      | some ks, some ls, some i => if f.offset = ks.length && i.size = ls.length && f.name != "_" then some (ks ++ ls) else none
      | _, _, _ => none) (none : Option (List SK)) = none := by
     intro l
     induction l with
     | nil => rfl
     | cons f l ih => simpa using ih
    have key : ∀ (l : List Field) (pre : List SK), l.foldl (fun acc f =>
      match acc, au0 P d f.type, P.info? f.type with
      | some ks, some ls, some i => if f.offset = ks.length && i.size = ls.length && f.name != "_" then some (ks ++ ls) else none
      | _, _, _ => none) (some pre) = some ks →
      (Op.eqFields (D + d) (cs.map at4).toArray (ds.map at4).toArray l).run P w = .ok (eqL (cs.drop pre.length) (ds.drop pre.length)) w ∧ ∃ suf, ks = pre ++ suf := by
     intro l
     induction l with
     | nil =>
      intro pre hp
      simp only [List.foldl_nil, Option.some.injEq] at hp
      subst hp
      have l1 := at2 hc
      have l2 := at2 hd
      rw [List.drop_eq_nil_of_le (by omega), List.drop_eq_nil_of_le (by omega)]
      exact ⟨by simp [Op.eqFields, eqL], [], by simp⟩
     | cons f l ih =>
      intro pre hp
      rw [List.foldl_cons] at hp
      cases hls : au0 P d f.type with
      | none => simp only [hls, none_fold] at hp; simp at hp
      | some ls =>
       cases hi : P.info? f.type with
       | none => simp only [hls, hi, none_fold] at hp; simp at hp
       | some i =>
        simp only [hls, hi] at hp
        split at hp
        ·rename_i hcond
         simp only [Bool.and_eq_true, decide_eq_true_eq, bne_iff_ne, ne_eq] at hcond
         obtain ⟨⟨hoff, hsz⟩, hnm⟩ := hcond
         obtain ⟨g, suf, hsuf⟩ := ih (pre ++ ls) hp
         refine ⟨?_, ls ++ suf, by rw [hsuf]; simp⟩
         obtain ⟨k, hk, hk1⟩ := bh3 hls
         have l1 := at2 hc
         have l2 := at2 hd
         rw [hsuf] at l1 l2
         simp only [List.length_append] at l1 l2 g
         have f1 : fits ls ((cs.drop pre.length).take ls.length) = true := by
          have h1 := hc
          rw [hsuf, List.append_assoc] at h1
          exact (am1 (am1 h1).2).1
         have f2 : fits ls ((ds.drop pre.length).take ls.length) = true := by
          have h1 := hd
          rw [hsuf, List.append_assoc] at h1
          exact (am1 (am1 h1).2).1
         simp only [Op.eqFields, ne_eq, hnm, not_false_eq_true, if_true, Sem.run_bind]
         rw [bg3 hi hk (cs.map at4) _ w (by rw [List.length_map, hsz]; omega) (by rw [hsz]; exact hk1),
          Result.andThen_ok, bg3 hi hk (ds.map at4) _ w (by rw [List.length_map, hsz]; omega) (by rw [hsz]; exact hk1), Result.andThen_ok, hsz, hoff]
         rw [← List.map_drop, ← List.map_take, ← List.map_drop, ← List.map_take, IH f.type ls hls _ _ w f1 f2, Result.andThen_ok]
         rw [ca6 ls.length (cs.drop pre.length) (ds.drop pre.length) (by simp; omega), List.drop_drop, List.drop_drop]
         cases eqL ((cs.drop pre.length).take ls.length) ((ds.drop pre.length).take ls.length) with
         | true => simpa using g
         | false => simp
        ·rw [none_fold] at hp; simp at hp
    simpa using (key l [] h).1
  ·simp at h
def az4 (ag : Bool) (ks : List SK) (k : EV) : Bool :=
 match k with
 | .agg cs => ag && fits ks cs
 | x => !ag && fits ks [x]
theorem bq6 {k : EV} (h : ∀ cs, k = .agg cs → False) : k.cells = [k] := by
 cases k <;> first | rfl | exact (h _ rfl).elim
theorem al3 {ag : Bool} {ks : List SK} {k : EV} (h : az4 ag ks k = true) : fits ks k.cells = true := by
 unfold az4 at h
 split at h
 ·simp at h; exact h.2
 ·rename_i x hx
  simp at h
  rw [bq6 hx]
  exact h.2
inductive EOpd where
 | t (n : Nat)
 | c (v : EV)
 | g (n : Nat)
 deriving Inhabited
inductive NK where
 | sl | pt | mp | fn | ifc
 deriving DecidableEq, Inhabited
inductive EOp where
 | mov (x : EOpd)
 | pick (c a b : EOpd)
 | box (x : EOpd)
 | build (zs : List EV) (parts : List (Nat × Nat × EOpd))
 | bsl (sz : Nat) (z : EV) (len : Nat) (parts : List (Nat × EOpd)) (own : Bool)
 | load (ag : Bool) (n : Nat) (x : EOpd)
 | store (n : Nat) (x v : EOpd)
 | nilchk (x : EOpd)
 | bin (op : BinOp) (x y : EOpd)
 | cmpBool (neg : Bool) (x y : EOpd)
 | cmpAgg (neg : Bool) (ks : List SK) (x y : EOpd)
 | cmpNil (neg : Bool) (k : NK) (x y : EOpd)
 | un (op : UnOp) (x : EOpd)
 | cvtInt (k : IntKind) (x : EOpd)
 | iface (t : TypeId) (x : EOpd)
 | func (f : Fn) (first cap : List EOpd)
 | faddr (off : Nat) (x : EOpd)
 | field (ag : Bool) (off n : Nat) (x : EOpd)
 | iaddrA (len sz : Nat) (x i : EOpd)
 | iaddrS (sz : Nat) (x i : EOpd)
 | idxA (len : Nat) (ag : Bool) (sz : Nat) (x i : EOpd)
 | idxStr (x i : EOpd)
 | extract (x : EOpd) (i : Nat)
 | slStr (x : EOpd) (lo hi : Option EOpd)
 | slSl (sz : Nat) (x : EOpd) (lo hi : Option EOpd)
 | slSl3 (sz : Nat) (x : EOpd) (lo : Option EOpd) (hi mx : EOpd)
 | cap (x : EOpd)
 | clear (sz : Nat) (z : EV) (x : EOpd)
 | len (str : Bool) (x : EOpd)
 | mkmap
 | lookup (ag : Bool) (ks : List SK) (z : EV) (ok : Bool) (x k : EOpd)
 | mapset (ag : Bool) (ks : List SK) (x k v : EOpd)
 | append (sz bytes : Nat) (x y : EOpd)
 | appz (sz bytes : Nat) (z : EV) (x k : EOpd)
 | copy (sz : Nat) (x y : EOpd)
 | mm (mx : Bool) (x y : EOpd)
 | mkSl (sz bytes : Nat) (z : EV) (l c : EOpd)
 | tassert (t : TypeId) (ok : Bool) (z : EV) (x : EOpd)
 | runeStr (x : EOpd)
 | idxB (x c : EOpd)
 | rng (x : EOpd)
 | next (x : EOpd)
 | slArr (n : Nat) (x : EOpd) (lo hi : Option EOpd)
 | toStr (x : EOpd)
 | call (f : EOpd) (args : List EOpd)
 | panic (x : EOpd)
 deriving Inhabited
structure EOper where
 dst : Option Nat
 op : EOp
 guard : Option (Nat × Bool) := none
 deriving Inhabited
def bw8 : Value → Option EV
 | .bool b => some (.bool b)
 | .int k n => some (.int k n)
 | .string s => some (.str s.data.toList)
 | .pointer none => some .nilptr
 | .slice none 0 0 => some .nilsl
 | .nilFunc => some .nilfn
 | .nilIface => some .nilif
 | .map none => some .nilmap
 | _ => none
def ca5 : Value → Option EV
 | .agg cs => (cs.toList.mapM bw8).map .agg
 | .tuple cs => if cs.size = 0 then some (.tup []) else none
 | v => bw8 v
def aa8 : Operand → Option EOpd
 | .tmp t => some (.t t)
 | .const v => (ca5 v).map .c
 | .global g => some (.g g)
 | .func f => some (.c (.func (.func f) [] []))
def tyOf (P : Program) (t : TypeId) : Option (Bool × Nat) :=
 match P.underlying t, P.info? t with
 | some (.struct _), some i => some (true, i.size)
 | some (.array _ _), some i => some (true, i.size)
 | some _, some i => if i.size = 1 then some (false, 1) else none
 | _, _ => none
def aq3 (P : Program) (t : TypeId) : Option EV := ((P.info? t).bind (·.zero)).bind ca5
def nkOf (P : Program) (t : TypeId) : Option NK :=
 match P.underlying t with
 | some (.slice _) => some .sl
 | some (.pointer _) => some .pt
 | some (.map _ _) => some .mp
 | some (.func _ _ _) => some .fn
 | some (.interface _) => some .ifc
 | _ => none
def cd9 (x : Option Operand) : Option (Option EOpd) :=
 match x with
 | none => some none
 | some o => (aa8 o).map some
def bu4 (P : Program) (t : TypeId) (op : BinOp) (x y : EOpd) : Option EOp :=
 match au0 P 16 t with
 | some ks => if P.eqGuardType P.depth t then none else some (.cmpAgg (op == .neq) ks x y)
 | none => none
def cm3 (P : Program) (t : TypeId) (op : BinOp) (x y : EOpd) : Option EOp :=
 match P.underlying t with
 | some .bool => some (.cmpBool (op == .neq) x y)
 | some (.int _) => some (.bin op x y)
 | some .string => some (.bin op x y)
 | some (.struct _) => bu4 P t op x y
 | some (.array _ _) => bu4 P t op x y
 | _ => (nkOf P t).map fun k => .cmpNil (op == .neq) k x y
def br0 (P : Program) (t : TypeId) : Option ((Bool × List SK) × TypeId) :=
 match P.underlying t with
 | some (.map kt e) =>
  match P.underlying kt, au0 P 16 kt with
  | some d, some ks => some ((aggD d, ks), e)
  | _, _ => none
 | _ => none
def ef6 (P : Program) (f : Operand) : Option Nat :=
 match f with
 | .func g =>
  match P.funcs[g]? with
  | some fn => if fn.body.isNone && fn.name == "internal/bytealg.IndexByteString" && fn.origin == "" then some 0 else none
  | none => none
 | _ => none
def ce0 (k : Nat) (l : List Operand) : Option EOp :=
 match k, l with
 | 0, [x, c] =>
  match aa8 x, aa8 c with
  | some x, some c => some (.idxB x c)
  | _, _ => none
 | _, _ => none
def ac7 (P : Program) (own : Bool) : Op → Option EOp
 | .move x | .assign x => do pure (.mov (← aa8 x))
 | .pick c a b => do pure (.pick (← aa8 c) (← aa8 a) (← aa8 b))
 | .alloc t => do
  let z ← aq3 P t
  if z.cells.all EV.one then pure (.box (.c z)) else none
 | .box _ x => do pure (.box (← aa8 x))
 | .build t parts =>
  match aq3 P t, P.underlying t with
  | some (.agg zs), some (.struct fs) => do
   let _ ← fs.toList.mapM fun f => (P.info? f.type).map fun i => (f.offset, i.size)
   let ps ← parts.toList.mapM fun p => do
    let f ← fs[p.1]?
    let j ← P.info? f.type
    let x ← aa8 p.2
    some (f.offset, j.size, x)
   some (.build zs ps)
  | some (.agg zs), some (.array _ e) => do
   let j ← P.info? e
   let ps ← parts.toList.mapM fun p => do
    let x ← aa8 p.2
    some (p.1 * j.size, j.size, x)
   some (.build zs ps)
  | _, _ => none
 | .buildSlice t len parts =>
  match P.underlying t with
  | some (.slice e) => do
   let (_, sz) ← tyOf P e
   let z ← aq3 P e
   let ps ← parts.toList.mapM fun p => do
    let x ← aa8 p.2
    if p.1 < len then some (p.1, x) else none
   if z.cells.length = sz && z.cells.all EV.one && len * sz ≤ 2 ^ 24 then some (.bsl sz z len ps own) else none
  | _ => none
 | .load t x => do
  let (ag, n) ← tyOf P t
  pure (.load ag n (← aa8 x))
 | .store t x v => do
  let j ← P.info? t
  pure (.store j.size (← aa8 x) (← aa8 v))
 | .nilCheck x => do pure (.nilchk (← aa8 x))
 | .binOp op t x y _ => do
  let x ← aa8 x
  let y ← aa8 y
  match op with
  | .eql => cm3 P t .eql x y
  | .neq => cm3 P t .neq x y
  | _ => some (.bin op x y)
 | .unOp op _ x => do pure (.un op (← aa8 x))
 | .convert src dst x => do
  let x ← aa8 x
  match P.underlying src, P.underlying dst with
  | some (.int _), some (.int k) => pure (.cvtInt k x)
  | some (.int _), some .string => pure (.runeStr x)
  | some (.slice e), some .string => match P.underlying e with
   | some (.int .u8) => pure (.toStr x)
   | _ => none
  | _, _ => none
 | .makeInterface t x => do
  match P.underlying t with
  | some (.interface _) => none
  | some _ => pure (.iface t (← aa8 x))
  | none => none
 | .makeFunc f first cap => do pure (.func f (← first.toList.mapM aa8) (← cap.toList.mapM aa8))
 | .fieldAddr t x f => do
  let some (.struct fs) := P.underlying t | none
  let fd ← fs[f]?
  let j ← P.info? fd.type
  if j.size = 0 then none else pure (.faddr fd.offset (← aa8 x))
 | .field t x f => do
  let some (.struct fs) := P.underlying t | none
  let fd ← fs[f]?
  let (ag, n) ← tyOf P fd.type
  pure (.field ag fd.offset n (← aa8 x))
 | .indexAddr t x i => do
  let x ← aa8 x
  let i ← aa8 i
  match P.underlying t with
  | some (.array len e) => do
   let j ← P.info? e
   pure (.iaddrA len j.size x i)
  | some (.slice e) => do
   let j ← P.info? e
   pure (.iaddrS j.size x i)
  | _ => none
 | .index t x i => do
  let x ← aa8 x
  let i ← aa8 i
  match P.underlying t with
  | some (.array len e) => do
   let (ag, n) ← tyOf P e
   pure (.idxA len ag n x i)
  | some .string => pure (.idxStr x i)
  | _ => none
 | .extract x i => do pure (.extract (← aa8 x) i)
 | .slice t x lo hi none => do
  let x ← aa8 x
  let lo ← cd9 lo
  let hi ← cd9 hi
  match P.underlying t with
  | some .string => pure (.slStr x lo hi)
  | some (.slice e) => do
   let j ← P.info? e
   pure (.slSl j.size x lo hi)
  | some (.array n e) => do
   let j ← P.info? e
   if j.size = 1 then some (.slArr n x lo hi) else none
  | _ => none
 | .slice t x lo (some hi) (some mx) => do
  let x ← aa8 x
  let lo ← cd9 lo
  let hi ← aa8 hi
  let mx ← aa8 mx
  match P.underlying t with
  | some (.slice e) => do
   let j ← P.info? e
   pure (.slSl3 j.size x lo hi mx)
  | _ => none
 | .call { callee := .builtin .cap, args, argTypes } =>
  match argTypes.toList, args.toList with
  | [t], [x] =>
   match P.underlying t with
   | some (.slice _) => do some (.cap (← aa8 x))
   | _ => none
  | _, _ => none
 | .call { callee := .builtin .clear, args, argTypes } =>
  match argTypes.toList, args.toList with
  | [t], [x] =>
   match P.underlying t with
   | some (.slice e) => do
    let j ← P.info? e
    let z ← aq3 P e
    if z.cells.length = j.size && z.cells.all EV.one && 0 < j.size then some (.clear j.size z (← aa8 x)) else none
   | _ => none
  | _, _ => none
 | .call { callee := .value f, args, .. } =>
  match ef6 P f with
  | some k => ce0 k args.toList
  | none => do pure (.call (← aa8 f) (← args.toList.mapM aa8))
 | .call { callee := .builtin .len, args, argTypes } =>
  match argTypes[0]?, args[0]? with
  | some t, some x =>
   match P.underlying t with
   | some .string => do some (.len true (← aa8 x))
   | some (.slice _) => do some (.len false (← aa8 x))
   | _ => none
  | _, _ => none
 | .call { callee := .builtin .append, args, argTypes } =>
  match argTypes.toList, args.toList with
  | [t, u], [x, y] =>
   match P.underlying t, P.underlying u with
   | some (.slice e), some (.slice _) => do
    let j ← P.info? e
    let z ← aq3 P e
    if z.cells.length = j.size && z.cells.all EV.one then some (.append j.size j.bytes (← aa8 x) (← aa8 y)) else none
   | some (.slice e), some .string => do
    let j ← P.info? e
    let z ← aq3 P e
    if z.cells.length = j.size && z.cells.all EV.one then some (.append j.size j.bytes (← aa8 x) (← aa8 y)) else none
   | some (.slice e), some (.int _) => do
    let j ← P.info? e
    let z ← aq3 P e
    if z.cells.length = j.size && z.cells.all EV.one && 0 < j.size then some (.appz j.size j.bytes z (← aa8 x) (← aa8 y)) else none
   | _, _ => none
  | _, _ => none
 | .call { callee := .builtin .max, args, .. } =>
  match args.toList with
  | [x, y] => do pure (.mm true (← aa8 x) (← aa8 y))
  | _ => none
 | .call { callee := .builtin .min, args, .. } =>
  match args.toList with
  | [x, y] => do pure (.mm false (← aa8 x) (← aa8 y))
  | _ => none
 | .call { callee := .builtin .copy, args, argTypes } =>
  match argTypes.toList, args.toList with
  | [t, _], [x, y] =>
   match P.underlying t with
   | some (.slice e) => do
    let j ← P.info? e
    some (.copy j.size (← aa8 x) (← aa8 y))
   | _ => none
  | _, _ => none
 | .makeSlice t l c =>
  match P.underlying t with
  | some (.slice e) => do
   let j ← P.info? e
   let z ← aq3 P e
   if z.cells.length = j.size && z.cells.all EV.one then some (.mkSl j.size j.bytes z (← aa8 l) (← aa8 c)) else none
  | _ => none
 | .typeAssert x _ t ok =>
  match P.underlying t with
  | some (.interface _) => none
  | some _ => do
   let z ← aq3 P t
   some (.tassert t ok z (← aa8 x))
  | none => none
 | .range t x =>
  match P.underlying t with
  | some .string => do pure (.rng (← aa8 x))
  | _ => none
 | .next x true => do pure (.next (← aa8 x))
 | .panic x => do pure (.panic (← aa8 x))
 | .makeMap _ none => some .mkmap
 | .lookup t x k ok => do
  let x ← aa8 x
  let k ← aa8 k
  let p ← br0 P t
  let z ← aq3 P p.2
  pure (.lookup p.1.1 p.1.2 z ok x k)
 | .mapUpdate t m k x => do
  let m ← aa8 m
  let k ← aa8 k
  let x ← aa8 x
  let p ← br0 P t
  pure (.mapset p.1.1 p.1.2 m k x)
 | .insert t m k x => do
  let m ← aa8 m
  let k ← aa8 k
  let x ← aa8 x
  let p ← br0 P t
  pure (.mapset p.1.1 p.1.2 m k x)
 | _ => none
def ch7 (n : Nat) (ops : Array Oper) : Option (Nat × Bool) → Option (Option (Nat × Bool))
 | none => some none
 | some (j, b) =>
  match (ops[j]?).bind (·.dst) with
  | some d => if d < n then some (some (d, b)) else none
  | none => none
def es6 (n : Nat) : Option Nat → Bool
 | none => true
 | some d => d < n
def ai5 (P : Program) (n : Nat) (own : List Nat) (ops : Array Oper) (o : Oper) : Option EOper :=
 match ac7 P (match o.dst with | some d => own.contains d | none => false) o.op, ch7 n ops o.guard with
 | some op, some g => if es6 n o.dst then some { dst := o.dst, op, guard := g } else none
 | _, _ => none
end Abs
namespace Abs.Gn
open Go
@[reducible] def o (d : Nat) (x : EOp) : EOper := ⟨some d, x, none⟩
@[reducible] def mv (d j : Nat) : EOper := ⟨some d, .mov (.t j), none⟩
@[reducible] def ld (d j : Nat) : EOper := ⟨some d, .load false 1 (.t j), none⟩
@[reducible] def fa (d k j : Nat) : EOper := ⟨some d, .faddr k (.t j), none⟩
@[reducible] def kf (p : Nat) : EOpd := .c (.func (.func p) [] [])
end Abs.Gn
