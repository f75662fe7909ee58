/- A part. -/
import Derived.Test.YtdcjkdgjlljodaaAbs14
set_option linter.all false
namespace Abs
open Go
def fnEq (f g : Fn) : Bool := decide (f = g)
mutual
def EV.beq : EV → EV → Bool
 | .undef, .undef => true
 | .bool a, .bool b => a == b
 | .int k a, .int k' b => decide (k = k') && a == b
 | .str a, .str b => a == b
 | .nilptr, .nilptr => true
 | .ptr b sz i j, .ptr b' sz' i' j' => b == b' && sz == sz' && i == i' && j == j'
 | .iptr c j, .iptr c' j' => beqL c c' && j == j'
 | .nilsl, .nilsl => true
 | .zsl, .zsl => true
 | .imm sz es, .imm sz' es' => sz == sz' && beqL es es'
 | .own b sz o l, .own b' sz' o' l' => b == b' && sz == sz' && o == o' && l == l'
 | .nilfn, .nilfn => true
 | .func f a b, .func f' a' b' => fnEq f f' && beqL a a' && beqL b b'
 | .nilif, .nilif => true
 | .iface t v, .iface t' v' => t == t' && EV.beq v v'
 | .nilmap, .nilmap => true
 | .map b, .map b' => b == b'
 | .agg cs, .agg cs' => beqL cs cs'
 | .tup cs, .tup cs' => beqL cs cs'
 | _, _ => false
def beqL : List EV → List EV → Bool
 | [], [] => true
 | x :: xs, y :: ys => EV.beq x y && beqL xs ys
 | _, _ => false
end
theorem en4 {f g : Fn} (h : fnEq f g = true) : f = g := of_decide_eq_true h
mutual
theorem EV.beq_eq : ∀ (a b : EV), EV.beq a b = true → a = b := by
 intro a b h
 cases a <;> cases b <;> simp only [EV.beq, Bool.and_eq_true, beq_iff_eq, decide_eq_true_eq, Bool.false_eq_true] at h <;> try rfl
 case bool.bool => rw [h]
 case int.int => rw [h.1, h.2]
 case str.str => rw [h]
 case ptr.ptr => rw [h.1.1.1, h.1.1.2, h.1.2, h.2]
 case iptr.iptr => rw [bm3 _ _ h.1, h.2]
 case imm.imm => rw [h.1, bm3 _ _ h.2]
 case own.own => rw [h.1.1.1, h.1.1.2, h.1.2, h.2]
 case func.func => rw [en4 h.1.1, bm3 _ _ h.1.2, bm3 _ _ h.2]
 case iface.iface => rw [h.1, EV.beq_eq _ _ h.2]
 case map.map => rw [h]
 case agg.agg => rw [bm3 _ _ h]
 case tup.tup => rw [bm3 _ _ h]
theorem bm3 : ∀ (a b : List EV), beqL a b = true → a = b := by
 intro a b h
 cases a with
 | nil => cases b with
  | nil => rfl
  | cons y ys => simp [beqL] at h
 | cons x xs => cases b with
  | nil => simp [beqL] at h
  | cons y ys =>
   simp only [beqL, Bool.and_eq_true] at h
   rw [EV.beq_eq x y h.1, bm3 xs ys h.2]
end
mutual
theorem EV.beq_refl : ∀ a : EV, EV.beq a a = true
 | .undef | .nilptr | .nilsl | .zsl | .nilfn | .nilif | .nilmap => by simp only [EV.beq]
 | .bool b => by simp only [EV.beq, beq_self_eq_true]
 | .int k n => by simp only [EV.beq, beq_self_eq_true, decide_true, Bool.and_self]
 | .str s => by simp only [EV.beq, beq_self_eq_true]
 | .ptr b sz i j => by simp only [EV.beq, beq_self_eq_true, Bool.and_self]
 | .iptr c j => by simp only [EV.beq, beq_self_eq_true, az9 c, Bool.and_self]
 | .imm sz es => by simp only [EV.beq, beq_self_eq_true, az9 es, Bool.and_self]
 | .own b sz o l => by simp only [EV.beq, beq_self_eq_true, Bool.and_self]
 | .func f a b => by simp only [EV.beq, fnEq, decide_true, az9 a, az9 b, Bool.and_self]
 | .iface t v => by simp only [EV.beq, beq_self_eq_true, EV.beq_refl v, Bool.and_self]
 | .map b => by simp only [EV.beq, beq_self_eq_true]
 | .agg cs => by simp only [EV.beq, az9 cs]
 | .tup cs => by simp only [EV.beq, az9 cs]
theorem az9 : ∀ l : List EV, beqL l l = true
 | [] => by simp only [beqL]
 | x :: xs => by simp only [beqL, EV.beq_refl x, az9 xs, Bool.and_self]
end
def beqM : List (EV × EV) → List (EV × EV) → Bool
 | [], [] => true
 | x :: xs, y :: ys => EV.beq x.1 y.1 && EV.beq x.2 y.2 && beqM xs ys
 | _, _ => false
theorem dx8 : ∀ (a b : List (EV × EV)), beqM a b = true → a = b
 | [], [], _ => rfl
 | x :: xs, y :: ys, h => by
  simp only [beqM, Bool.and_eq_true] at h
  have h1 := EV.beq_eq _ _ h.1.1
  have h2 := EV.beq_eq _ _ h.1.2
  rw [dx8 xs ys h.2]
  cases x; cases y
  simp only at h1 h2
  rw [h1, h2]
 | [], _ :: _, h => by simp [beqM] at h
 | _ :: _, [], h => by simp [beqM] at h
def beqB : Option EB → Option EB → Bool
 | none, none => true
 | some (.row a b), some (.row a' b') => a == a' && beqL b b'
 | some (.map a), some (.map a') => beqM a a'
 | some (.it a b), some (.it a' b') => a == a' && b == b'
 | _, _ => false
theorem eo6 {a b : Option EB} (h : beqB a b = true) : a = b := by
 cases a with
 | none => cases b with
  | none => rfl
  | some y => simp [beqB] at h
 | some x => cases b with
  | none => simp [beqB] at h
  | some y =>
   cases x <;> cases y <;> simp only [beqB, Bool.and_eq_true, beq_iff_eq, Bool.false_eq_true] at h
   ·rw [h.1, bm3 _ _ h.2]
   ·rw [dx8 _ _ h]
   ·rw [h.1, h.2]
def beqH : Heap → Heap → Bool
 | [], [] => true
 | x :: xs, y :: ys => beqB x y && beqH xs ys
 | _, _ => false
theorem cy3 : ∀ {a b : Heap}, beqH a b = true → a = b
 | [], [], _ => rfl
 | x :: xs, y :: ys, h => by
  simp only [beqH, Bool.and_eq_true] at h
  rw [eo6 h.1, cy3 h.2]
 | [], _ :: _, h => by simp [beqH] at h
 | _ :: _, [], h => by simp [beqH] at h
def bs7 (H' H : Heap) : Bool := H'.length == H.length && beqH H' H
theorem ax0 (H : Heap) : bs7 H H = true := by
 have hM : ∀ l : List (EV × EV), beqM l l = true := fun l => by
  induction l with
  | nil => rfl
  | cons x l ih => simp only [beqM, EV.beq_refl, ih, Bool.and_self]
 have hB : ∀ x : Option EB, beqB x x = true := fun x => by
  cases x with
  | none => rfl
  | some y => cases y <;> simp [beqB, az9, hM]
 have hH : ∀ H : Heap, beqH H H = true := fun H => by
  induction H with
  | nil => rfl
  | cons x H ih => simp only [beqH, hB, ih, Bool.and_self]
 unfold bs7
 rw [beq_self_eq_true, Bool.true_and, hH]
theorem bw5 {H' H : Heap} (h : bs7 H' H = true) : H' = H := by
 unfold bs7 at h
 rw [Bool.and_eq_true] at h
 exact cy3 h.2
/-! ### What is handed back -/
def mapO {α β : Type} (f : α → Option β) : List α → Option (List β)
 | [] => some []
 | x :: xs =>
  match f x, mapO f xs with
  | some y, some ys => some (y :: ys)
  | _, _ => none
theorem bm9 {α β : Type} {f : α → Option β} : ∀ {l : List α} {l' : List β}, mapO f l = some l' → l.length = l'.length ∧ ∀ (k : Nat) (x : α) (y : β), l[k]? = some x → l'[k]? = some y → f x = some y
 | [], l', h => by simp only [mapO, Option.some.injEq] at h; subst h; simp
 | x :: xs, l', h => by
  simp only [mapO] at h
  split at h
  ·rename_i y ys h1 h2
   simp only [Option.some.injEq] at h; subst h
   obtain ⟨g1, g2⟩ := bm9 h2
   refine ⟨by simp [g1], fun k a b ha hb => ?_⟩
   cases k with
   | zero => simp only [List.getElem?_cons_zero, Option.some.injEq] at ha hb; subst ha hb; exact h1
   | succ k => exact g2 k a b (by simpa using ha) (by simpa using hb)
  ·simp at h
theorem bq8 {α : Type} {f : α → Option α} : ∀ {l : List α}, (∀ x ∈ l, f x = some x) → mapO f l = some l
 | [], _ => rfl
 | x :: xs, h => by simp only [mapO, h x (by simp), bq8 (l := xs) fun y hy => h y (by simp [hy])]
def fz (L : Nat) (H : Heap) : Nat → EV → Option EV
 | 0, v => if v.ok L then some v else none
 | n + 1, v =>
  if v.ok L then some v else
  match v with
  | .own b sz off len =>
   if L ≤ b then
    match H[b]? with
    | some (some (.row sz' es)) => if sz = sz' ∧ off + len ≤ es.length then (mapO (fz L H n) ((es.drop off).take len)).map (.imm sz) else none
    | _ => none
   else none
  | .agg cs => (mapO (fz L H n) cs).map .agg
  | .tup cs => (mapO (fz L H n) cs).map .tup
  | .iface t x => (fz L H n x).map (.iface t)
  | .ptr b sz i j =>
   if L ≤ b then
    match H[b]? with
    | some (some (.row sz' es)) =>
     if sz = sz' then
      match es[i]? with
      | some e => (mapO (fz L H n) e.cells).map fun cs => .iptr cs j
      | none => none
     else none
    | _ => none
   else none
  | .func f [] cs => (mapO (fz L H n) cs).map (.func f [])
  | _ => none
def FZc (L : Nat) (H : Heap) (v v' : EV) : Prop :=
 FZ L H v v' ∧ v.cells.length = v'.cells.length ∧ ∀ (j : Nat) (x x' : EV), v.cells[j]? = some x → v'.cells[j]? = some x' → FZ L H x x'
theorem FZc.one {L : Nat} {H : Heap} {v v' : EV} (h : FZ L H v v') (h1 : v.cells = [v]) (h2 : v'.cells = [v']) : FZc L H v v' := by
 refine ⟨h, by rw [h1, h2]; rfl, fun j x x' hx hx' => ?_⟩
 rw [h1] at hx
 rw [h2] at hx'
 cases j with
 | zero => simp only [List.getElem?_cons_zero, Option.some.injEq] at hx hx'; subst hx hx'; exact h
 | succ j => simp at hx
theorem FZc.same {L : Nat} {H : Heap} {v : EV} (h : v.ok L = true) : FZc L H v v := by
 refine ⟨.same v h, rfl, fun j x x' hx hx' => ?_⟩
 rw [hx] at hx'
 obtain rfl := Option.some.inj hx'
 exact .same x (bw6 h x (List.mem_of_getElem? hx))
theorem ee6 {L : Nat} {H : Heap} : ∀ (n : Nat) (v v' : EV), fz L H n v = some v' → FZc L H v v' := by
 intro n
 induction n with
 | zero =>
  intro v v' h
  simp only [fz] at h
  split at h
  ·rename_i ho
   obtain rfl := Option.some.inj h
   exact .same ho
  ·simp at h
 | succ n ih =>
  intro v v' h
  unfold fz at h
  split at h
  ·rename_i ho
   obtain rfl := Option.some.inj h
   exact .same ho
  ·split at h
   ·split at h
    case isFalse => simp at h
    rename_i b sz off len _ hb
    split at h
    case h_2 => simp at h
    rename_i sz' es hH
    split at h
    case isFalse => simp at h
    rename_i hc
    obtain ⟨rfl, hlen⟩ := hc
    simp only [Option.map_eq_some_iff] at h
    obtain ⟨l, hl, rfl⟩ := h
    obtain ⟨g1, g2⟩ := bm9 hl
    have key : ∀ (k : Nat) (e e' : EV), es[off + k]? = some e → l[k]? = some e' → FZc L H e e' := fun k e e' h1 h2 => by
     have hk := aa3 h2
     rw [← g1, List.length_take, List.length_drop] at hk
     exact ih _ _ (g2 k e e' (by rw [List.getElem?_take_of_lt (by omega), List.getElem?_drop]; exact h1) h2)
    refine .one (.own b sz off len es l hb hH hlen (by rw [← g1]; simp; omega) (fun k e e' h1 h2 => (key k e e' h1 h2).2.1) fun k j e e' x x' h1 h2 h3 h4 => (key k e e' h1 h2).2.2 j x x' h3 h4) rfl rfl
   ·simp only [Option.map_eq_some_iff] at h
    obtain ⟨l, hl, rfl⟩ := h
    obtain ⟨g1, g2⟩ := bm9 hl
    exact ⟨.agg _ _ g1 fun k x x' h1 h2 => (ih _ _ (g2 k x x' h1 h2)).1, g1, fun j x x' h1 h2 => (ih _ _ (g2 j x x' h1 h2)).1⟩
   ·simp only [Option.map_eq_some_iff] at h
    obtain ⟨l, hl, rfl⟩ := h
    obtain ⟨g1, g2⟩ := bm9 hl
    exact .one (.tup _ _ g1 fun k x x' h1 h2 => (ih _ _ (g2 k x x' h1 h2)).1) rfl rfl
   ·simp only [Option.map_eq_some_iff] at h
    obtain ⟨x', hx, rfl⟩ := h
    exact .one (.iface _ _ _ (ih _ _ hx).1) rfl rfl
   ·split at h
    case isFalse => simp at h
    rename_i b sz i j _ hb
    split at h
    case h_2 => simp at h
    rename_i sz' es hH
    split at h
    case isFalse => simp at h
    rename_i hs
    subst hs
    split at h
    case h_2 => simp at h
    rename_i e he
    simp only [Option.map_eq_some_iff] at h
    obtain ⟨l, hl, rfl⟩ := h
    obtain ⟨g1, g2⟩ := bm9 hl
    exact .one (.ptr b sz i j es e l hb hH he g1 fun k x x' h1 h2 => (ih _ _ (g2 k x x' h1 h2)).1) rfl rfl
   ·simp only [Option.map_eq_some_iff] at h
    obtain ⟨l, hl, rfl⟩ := h
    obtain ⟨g1, g2⟩ := bm9 hl
    exact .one (.func _ _ _ g1 fun k x x' h1 h2 => (ih _ _ (g2 k x x' h1 h2)).1) rfl rfl
   ·simp at h
theorem bf6 {L : Nat} {H : Heap} {n : Nat} {v : EV} (h : v.ok L = true) : fz L H n v = some v := by
 cases n <;> (unfold fz; rw [if_pos h])
theorem co3 {L : Nat} {H : Heap} {n b sz off len : Nat} {es : List EV} (hb : L ≤ b) (hH : H[b]? = some (some (.row sz es))) (hl : off + len ≤ es.length) (ho : okL L es = true) :
  fz L H (n + 1) (.own b sz off len) = some (.imm sz ((es.drop off).take len)) := by
 have h1 : (EV.own b sz off len).ok L = false := by simp [EV.ok]; exact hb
 unfold fz
 rw [if_neg (by rw [h1]; simp)]
 simp only [hH, if_pos hb]
 rw [if_pos ⟨trivial, hl⟩, bq8 fun x hx => bf6 (ah6.1 ho x (List.mem_of_mem_drop (List.mem_of_mem_take hx)))]
 rfl
/-! ### The run -/
structure FnD where
 ec : EC
 rs : List ERes
 nt : Nat
abbrev Res := Option (ER × Heap)
abbrev Xsh := AX × aa2 × Heap
inductive EF where
 | code (ec : EC)
 | pre (a : EC) (f : EF)
 | dfr (l : List EOper) (f : EOpd) (args : List EOpd) (c : EC)
structure FnE where
 ef : EF
 rs : List ERes
 nt : Nat
structure FnDf where
 d0 : Nat
 d1 : Nat
 ec : EC
 nt : Nat
structure Env where
 T : FuncId → Option FnD
 F : FuncId → Option FnE
 D : FuncId → Option FnDf
 γ : Nat → EV
 Ψ : FuncId → List EV → Heap → Option (ER × Heap)
 K : FuncId → Bool
def opF (call : FuncId → List EV → Heap → Res) (ρ : EOpd → EV) (H : Heap) (op : EOp) : Res :=
 match op with
 | .call f args =>
  match ρ f with
  | .func (.func g) first cap => call g (first ++ args.map ρ ++ cap) H
  | _ => none
 | .panic x =>
  match ρ x with
  | .iface t v => some (.pan (.iface t v), H)
  | _ => none
 | op =>
  match evOp ρ H op with
  | some (v, H') => some (.ret v, H')
  | none => none
def bs6 (r : Res) (s : aa2) (K : EV → Heap → Option Xsh) : Option Xsh :=
 match r with
 | some (.ret v, H) => K v H
 | some (.pan v, H) => some (.panic v, s, H)
 | none => none
def bp5 (chg : Bool) (H : Heap) (r : Res) (K : EV → Heap → Option Xsh) : Option Xsh :=
 match r with
 | some (.ret v, H') => if chg || bs7 H' H then K v H' else none
 | _ => none
def bh2 (v : EV) (t : Bool) (a b : Option Xsh) : Option Xsh :=
 match v with
 | .bool t' => if t' = t then a else b
 | .tup [] => b
 | _ => none
def opsF (call : FuncId → List EV → Heap → Res) (γ : Nat → EV) : List EOper → aa2 → Heap → Option Xsh
 | [], s, H => some (.normal, s, H)
 | o :: rest, s, H =>
  match o.guard with
  | none => bs6 (opF call (ev γ s) H o.op) s fun v H' => opsF call γ rest (putA s o.dst v) H'
  | some (d, b) => bh2 (s d) b (bs6 (opF call (ev γ s) H o.op) s fun v H' => opsF call γ rest (putA s o.dst v) H') (opsF call γ rest (putA s o.dst (.tup [])) H)
def drF (call : FuncId → List EV → Heap → Res) (γ : Nat → EV) : List (EOper × Bool) → aa2 → Heap → Option Xsh
 | [], s, H => some (.normal, s, H)
 | (o, chg) :: rest, s, H =>
  match o.guard with
  | none => bp5 chg H (opF call (ev γ s) H o.op) fun v H' => drF call γ rest (putA s o.dst v) H'
  | some (d, b) => bh2 (s d) b (bp5 chg H (opF call (ev γ s) H o.op) fun v H' => drF call γ rest (putA s o.dst v) H') (drF call γ rest (putA s o.dst (.tup [])) H)
def ah9 (s : aa2) (H : Heap) (u : RC) : Bool :=
 match az6 u.ag u.n (s u.x) H with
 | some v => EV.beq v (s u.d)
 | none => false
def br1 : EOp → Bool
 | .call _ _ => true
 | _ => false
def ax1 (H : Heap) (r : Res) (K : EV → Bool) : Bool :=
 match r with
 | some (.ret v, H') => bs7 H' H && K v
 | _ => false
def cv4 (v : EV) (t : Bool) (a b : Bool) : Bool :=
 match v with
 | .bool t' => if t' = t then a else b
 | .tup [] => b
 | _ => false
def aq1 (call : FuncId → List EV → Heap → Res) (γ : Nat → EV) : List GO → List Bool → aa2 → Heap → Bool
 | [], _, _, _ => true
 | g :: r, bs, s, H =>
  if bs.headD true = true then aq1 call γ r bs.tail s H
  else !g.chg &&
   match g.o.guard with
   | none => ax1 H (opF call (ev γ s) H g.o.op) fun v => aq1 call γ r bs.tail (putA s g.o.dst v) H
   | some (d, b) => cv4 (s d) b (ax1 H (opF call (ev γ s) H g.o.op) fun v => aq1 call γ r bs.tail (putA s g.o.dst v) H) (aq1 call γ r bs.tail (putA s g.o.dst (.tup [])) H)
def bb3 (g : GO) (H : Heap) (r : Res) (K : EV → Heap → Option Xsh) (p : EV → Heap → Option Xsh) : Option Xsh :=
 match r with
 | some (.ret v, H') => if g.chg || bs7 H' H then K v H' else none
 | some (.pan v, H') => p v H'
 | none => none
def drG (call : FuncId → List EV → Heap → Res) (γ : Nat → EV) (ds : List Nat) : List GO → aa2 → Heap → Option Xsh
 | [], s, H => some (.normal, s, H)
 | g :: r, s, H =>
  match g.o.guard with
  | none => bb3 g H (opF call (ev γ s) H g.o.op) (fun v H' => if g.us.all (ah9 (putA s g.o.dst v) H') then drG call γ ds r (putA s g.o.dst v) H' else none)
    fun v H' => if g.chg && br1 g.o.op && aq1 call γ r g.beh s H then some (.panic v, forget ds s, H') else none
  | some (d, b) => bh2 (s d) b (bb3 g H (opF call (ev γ s) H g.o.op) (fun v H' => if g.us.all (ah9 (putA s g.o.dst v) H') then drG call γ ds r (putA s g.o.dst v) H' else none) fun _ _ => none)
    (if g.us.all (ah9 (putA s g.o.dst (.tup [])) H) then drG call γ ds r (putA s g.o.dst (.tup [])) H else none)
def bs4 (x : Option Xsh) (K : aa2 → Heap → Option Xsh) : Option Xsh :=
 match x with
 | some (.normal, s, H) => K s H
 | x => x
def bm2 (id : Nat) (x : Option Xsh) : Option Xsh :=
 match x with
 | some (.exit id', s, H) => if id' = id then some (.normal, s, H) else some (.exit id', s, H)
 | x => x
def bv7 (c : EV) (a b : Option Xsh) : Option Xsh :=
 match c with
 | .bool t => if t = true then a else b
 | _ => none
def af0 (call : FuncId → List EV → Heap → Res) (γ : Nat → EV) : Nat → EC → aa2 → Heap → Option Xsh
 | 0, _, _, _ => none
 | n + 1, c, s, H =>
  match c with
  | .skip => some (.normal, s, H)
  | .ops l => opsF call γ l s H
  | .draw l => drF call γ l s H
  | .drawS l us =>
   match dsF γ l s H with
   | some (s', H', fs) => if cj6 fs us then some (.normal, s', H') else none
   | none => none
  | .drawG gs ds => drG call γ ds gs s H
  | .seq a b => bs4 (af0 call γ n a s H) fun s' H' => af0 call γ n b s' H'
  | .cond c a b => bv7 (ev γ s c) (af0 call γ n a s H) (af0 call γ n b s H)
  | .block id c => bm2 id (af0 call γ n c s H)
  | .loop c => bs4 (af0 call γ n c s H) fun s' H' => af0 call γ n (.loop c) s' H'
  | .rangeFunc _ _ _ _ => none
  | .exit id => some (.exit id, s, H)
  | .ret => some (.ret, s, H)
def okB (n : Nat) (H : Heap) : Bool := (H.take n).all fun x => match x with | some y => y.ok n | none => true
def okX (n : Nat) : Option EB → Bool
 | some y => y.ok n
 | none => true
def okC (n : Nat) : Heap → Heap → Bool
 | a :: H, b :: H' => (okX n b || beqB b a) && okC n H H'
 | _, _ => true
def newP (L : Nat) : EV → Bool
 | .ptr b _ _ _ => decide (L ≤ b)
 | _ => false
def finV (H : Heap) (rv : EV) (K : EV → ER) (H' : Heap) : Res :=
 if newP H.length rv then some (K rv, H')
 else
  match fz H.length H' 8 rv with
  | some r => if bs7 (H'.take H.length) H || okB H.length H' || okC H.length H H' then some (K r, H'.take H.length) else some (K rv, H')
  | none => some (K rv, H')
def finF (H : Heap) (rs : List ERes) (x : Option Xsh) : Res :=
 match x with
 | some (.normal, s, H') | some (.ret, s, H') =>
  match ab0 s H' rs with
  | some r => finV H r .ret H'
  | none => none
 | some (.panic v, _, H') => finV H v .pan H'
 | _ => none
def dcF (call : FuncId → List EV → Heap → Res) (γ : Nat → EV) (D : FuncId → Option FnDf) (n : Nat) (g : FuncId) (as : List EV) (H : Heap) (pv : Option EV) : Option Heap :=
 match D g with
 | some d =>
  if as.length ≤ d.nt then
   match finF H [] (af0 call γ n d.ec (upd (upd (am4 as) d.d0 (pv.getD .nilif)) d.d1 (pv.getD .nilif)) H) with
   | some (.ret _, H') => some H'
   | _ => none
  else none
 | none => none
def efF (call : FuncId → List EV → Heap → Res) (γ : Nat → EV) (n : Nat) : EF → aa2 → Heap → Option (Xsh × Option (FuncId × List EV))
 | .code ec, s, H => (af0 call γ n ec s H).map fun x => (x, none)
 | .pre a f, s, H =>
  match af0 call γ n a s H with
  | some (.normal, s1, H1) => efF call γ n f s1 H1
  | some x => some (x, none)
  | none => none
 | .dfr l f args c, s, H =>
  match opsF call γ l s H with
  | some (.normal, s1, H1) =>
   match ev γ s1 f with
   | .func (.func g) first cap => (af0 call γ n c s1 H1).map fun x => (x, some (g, first ++ args.map (ev γ s1) ++ cap))
   | _ => none
  | some x => some (x, none)
  | none => none
def co6 (H : Heap) (rs : List ERes) (s : aa2) (H' : Heap) : Res :=
 match ab0 s H' rs with
 | some r => finV H r .ret H'
 | none => none
def finE (call : FuncId → List EV → Heap → Res) (γ : Nat → EV) (D : FuncId → Option FnDf) (n : Nat) (H : Heap) (rs : List ERes) (x : Option (Xsh × Option (FuncId × List EV))) : Res :=
 match x with
 | some (x, none) => finF H rs (some x)
 | some ((.normal, s, H'), some (g, as)) | some ((.ret, s, H'), some (g, as)) =>
  match dcF call γ D n g as H' none with
  | some H2 => co6 H rs s H2
  | none => none
 | some ((.panic v, s, H'), some (g, as)) =>
  match dcF call γ D n g as H' (some v) with
  | some H2 => co6 H rs s H2
  | none => none
 | _ => none
def finK (rs : List ERes) (x : Option Xsh) : Res :=
 match x with
 | some (.normal, s, H') | some (.ret, s, H') =>
  match ab0 s H' rs with
  | some r => some (.ret r, H')
  | none => none
 | some (.panic v, _, H') => some (.pan v, H')
 | _ => none
def co7 (k : Bool) (H : Heap) (rs : List ERes) (x : Option Xsh) : Res := if k = true then finK rs x else finF H rs x
def runF (E : Env) : Nat → FuncId → List EV → Heap → Res
 | 0, _, _, _ => none
 | n + 1, f, args, H =>
  match E.Ψ f args H with
  | some r => some r
  | none =>
   match E.T f with
   | some d => if args.length ≤ d.nt then co7 (E.K f) H d.rs (af0 (runF E n) E.γ n d.ec (am4 args) H) else none
   | none =>
    match E.F f with
    | some d => if args.length ≤ d.nt then finE (runF E n) E.γ E.D n H d.rs (efF (runF E n) E.γ n d.ef (am4 args) H) else none
    | none => none
/-! ### More steps do no harm -/
theorem bd9 {call call' : FuncId → List EV → Heap → Res} (hc : ∀ g as H r, call g as H = some r → call' g as H = some r) {ρ : EOpd → EV} {H : Heap} {op : EOp} {r : ER × Heap} (h : opF call ρ H op = some r) : opF call' ρ H op = some r := by
 cases op with
 | call f args =>
  simp only [opF] at h ⊢
  split at h
  ·rename_i hf; exact hc _ _ _ _ h
  ·simp at h
 | _ => exact h
theorem cd0 {r r' : Res} {s : aa2} {K K' : EV → Heap → Option Xsh} {x : Xsh} (hr : ∀ q, r = some q → r' = some q) (hk : ∀ v H y, K v H = some y → K' v H = some y) (h : bs6 r s K = some x) : bs6 r' s K' = some x := by
 unfold bs6 at h
 split at h
 ·rw [hr _ rfl]; exact hk _ _ _ h
 ·rw [hr _ rfl]; exact h
 ·simp at h
theorem cd4 {r r' : Res} {chg : Bool} {H : Heap} {K K' : EV → Heap → Option Xsh} {x : Xsh} (hr : ∀ q, r = some q → r' = some q) (hk : ∀ v H y, K v H = some y → K' v H = some y) (h : bp5 chg H r K = some x) : bp5 chg H r' K' = some x := by
 unfold bp5 at h
 split at h
 ·rw [hr _ rfl]
  simp only [bp5]
  split at h
  ·rename_i hs; rw [if_pos hs]; exact hk _ _ _ h
  ·simp at h
 ·simp at h
theorem bt2 {v : EV} {t : Bool} {a a' b b' : Option Xsh} {x : Xsh} (ha : ∀ y, a = some y → a' = some y) (hb : ∀ y, b = some y → b' = some y) (h : bh2 v t a b = some x) : bh2 v t a' b' = some x := by
 unfold bh2 at h
 split at h
 ·simp only [bh2]
  split at h
  ·rename_i e; rw [if_pos e]; exact ha _ h
  ·rename_i e; rw [if_neg e]; exact hb _ h
 ·simp only [bh2]; exact hb _ h
 ·simp at h
theorem bg4 {call call' : FuncId → List EV → Heap → Res} (hc : ∀ g as H r, call g as H = some r → call' g as H = some r) {γ : Nat → EV} : ∀ (l : List EOper) (s : aa2) (H : Heap) (r : Xsh), opsF call γ l s H = some r → opsF call' γ l s H = some r
 | [], s, H, r, h => h
 | o :: rest, s, H, r, h => by
  unfold opsF at h ⊢
  have ih := bg4 hc (γ := γ) rest
  split at h
  ·exact cd0 (fun q hq => bd9 hc hq) (fun v H' y hy => ih _ _ _ hy) h
  ·exact bt2 (fun y hy => cd0 (fun q hq => bd9 hc hq) (fun v H' y hy => ih _ _ _ hy) hy) (fun y hy => ih _ _ _ hy) h
theorem br9 {call call' : FuncId → List EV → Heap → Res} (hc : ∀ g as H r, call g as H = some r → call' g as H = some r) {γ : Nat → EV} : ∀ (l : List (EOper × Bool)) (s : aa2) (H : Heap) (r : Xsh), drF call γ l s H = some r → drF call' γ l s H = some r
 | [], s, H, r, h => h
 | (o, chg) :: rest, s, H, r, h => by
  unfold drF at h ⊢
  have ih := br9 hc (γ := γ) rest
  split at h
  ·exact cd4 (fun q hq => bd9 hc hq) (fun v H' y hy => ih _ _ _ hy) h
  ·exact bt2 (fun y hy => cd4 (fun q hq => bd9 hc hq) (fun v H' y hy => ih _ _ _ hy) hy) (fun y hy => ih _ _ _ hy) h
theorem bb1 {x x' : Option Xsh} {K K' : aa2 → Heap → Option Xsh} {y : Xsh} (hx : ∀ q, x = some q → x' = some q) (hk : ∀ s H q, K s H = some q → K' s H = some q) (h : bs4 x K = some y) : bs4 x' K' = some y := by
 cases x with
 | none => simp [bs4] at h
 | some q =>
  rw [hx _ rfl]
  obtain ⟨e, s, H⟩ := q
  cases e with
  | normal => exact hk _ _ _ h
  | _ => exact h
theorem cb7 {id : Nat} {x x' : Option Xsh} {y : Xsh} (hx : ∀ q, x = some q → x' = some q) (h : bm2 id x = some y) : bm2 id x' = some y := by
 cases x with
 | none => simp [bm2] at h
 | some q => rw [hx _ rfl]; exact h
theorem cg2 {c : EV} {a a' b b' : Option Xsh} {x : Xsh} (ha : ∀ y, a = some y → a' = some y) (hb : ∀ y, b = some y → b' = some y) (h : bv7 c a b = some x) : bv7 c a' b' = some x := by
 unfold bv7 at h
 split at h
 ·simp only [bv7]
  split at h
  ·rename_i e; rw [if_pos e]; exact ha _ h
  ·rename_i e; rw [if_neg e]; exact hb _ h
 ·simp at h
theorem bj3 {call call' : FuncId → List EV → Heap → Res} (hc : ∀ g as H r, call g as H = some r → call' g as H = some r) {γ : Nat → EV} : ∀ (l : List GO) (bs : List Bool) (s : aa2) (H : Heap), aq1 call γ l bs s H = true → aq1 call' γ l bs s H = true
 | [], _, _, _, h => h
 | g :: r, bs, s, H, h => by
  have ih := bj3 hc (γ := γ) r
  have rs : ∀ {K K' : EV → Bool}, (∀ v, K v = true → K' v = true) → ax1 H (opF call (ev γ s) H g.o.op) K = true → ax1 H (opF call' (ev γ s) H g.o.op) K' = true := fun hk h => by
   unfold ax1 at h ⊢
   split at h
   ·rename_i v H' hr
    rw [bd9 hc hr]
    simp only [Bool.and_eq_true] at h ⊢
    exact ⟨h.1, hk _ h.2⟩
   ·simp at h
  unfold aq1 at h ⊢
  split
  ·rename_i hb; rw [if_pos hb] at h; exact ih _ _ _ h
  ·rename_i hb
   rw [if_neg hb] at h
   simp only [Bool.and_eq_true] at h ⊢
   refine ⟨h.1, ?_⟩
   have h := h.2
   cases hg : g.o.guard with
   | none => rw [hg] at h; exact rs (fun v hv => ih _ _ _ hv) h
   | some p =>
    obtain ⟨d, b⟩ := p
    rw [hg] at h
    simp only at h ⊢
    unfold cv4 at h ⊢
    split at h
    ·split at h
     ·rename_i e; simp only [if_pos e]; exact rs (fun v hv => ih _ _ _ hv) h
     ·rename_i e; simp only [if_neg e]; exact ih _ _ _ h
    ·exact ih _ _ _ h
    ·simp at h
theorem br8 {call call' : FuncId → List EV → Heap → Res} (hc : ∀ g as H r, call g as H = some r → call' g as H = some r) {γ : Nat → EV} {ds : List Nat} : ∀ (l : List GO) (s : aa2) (H : Heap) (r : Xsh), drG call γ ds l s H = some r → drG call' γ ds l s H = some r
 | [], s, H, r, h => h
 | g :: l, s, H, r, h => by
  have ih := br8 hc (γ := γ) (ds := ds) l
  have st : ∀ {K K' p p' : EV → Heap → Option Xsh}, (∀ v H y, K v H = some y → K' v H = some y) → (∀ v H y, p v H = some y → p' v H = some y) → ∀ {y}, bb3 g H (opF call (ev γ s) H g.o.op) K p = some y → bb3 g H (opF call' (ev γ s) H g.o.op) K' p' = some y := fun hk hp y h => by
   unfold bb3 at h
   split at h
   ·rename_i v H' hr
    rw [bd9 hc hr]
    simp only [bb3]
    split at h
    ·rename_i e; rw [if_pos e]; exact hk _ _ _ h
    ·simp at h
   ·rename_i v H' hr
    rw [bd9 hc hr]
    exact hp _ _ _ h
   ·simp at h
  have kk : ∀ v H' y, (if g.us.all (ah9 (putA s g.o.dst v) H') then drG call γ ds l (putA s g.o.dst v) H' else none) = some y → (if g.us.all (ah9 (putA s g.o.dst v) H') then drG call' γ ds l (putA s g.o.dst v) H' else none) = some y := fun v H' y h => by
   split at h
   ·rename_i e; rw [if_pos e]; exact ih _ _ _ h
   ·simp at h
  unfold drG at h ⊢
  split at h
  ·refine st kk (fun v H' y h => ?_) h
   split at h
   ·rename_i e
    simp only [Bool.and_eq_true] at e
    rw [if_pos (by simp only [Bool.and_eq_true]; exact ⟨e.1, bj3 hc _ _ _ _ e.2⟩)]
    exact h
   ·simp at h
  ·exact bt2 (fun y hy => st kk (fun v H' y h => by simp at h) hy) (fun y hy => kk _ _ _ hy) h
theorem ap5 {call call' : FuncId → List EV → Heap → Res} (hc : ∀ g as H r, call g as H = some r → call' g as H = some r) {γ : Nat → EV} : ∀ (n m : Nat), n ≤ m → ∀ (c : EC) (s : aa2) (H : Heap) (r : Xsh), af0 call γ n c s H = some r → af0 call' γ m c s H = some r
 | 0, _, _, c, s, H, r, h => by simp [af0] at h
 | n + 1, 0, hm, _, _, _, _, _ => by omega
 | n + 1, m + 1, hm, c, s, H, r, h => by
  have ih := ap5 hc (γ := γ) n m (by omega)
  cases c with
  | skip => exact h
  | ops l => exact bg4 hc _ _ _ _ h
  | draw l => exact br9 hc _ _ _ _ h
  | drawS l us => exact h
  | drawG gs ds => exact br8 hc _ _ _ _ h
  | seq a b => exact bb1 (fun q hq => ih _ _ _ _ hq) (fun s H q hq => ih _ _ _ _ hq) h
  | cond c a b => exact cg2 (fun q hq => ih _ _ _ _ hq) (fun q hq => ih _ _ _ _ hq) h
  | block id c => exact cb7 (fun q hq => ih _ _ _ _ hq) h
  | loop c => exact bb1 (fun q hq => ih _ _ _ _ hq) (fun s H q hq => ih _ _ _ _ hq) h
  | rangeFunc f p d c => simp [af0] at h
  | exit id => exact h
  | ret => exact h
theorem co8 {H : Heap} {rs : List ERes} {x x' : Option Xsh} {r : ER × Heap} (hx : ∀ q, x = some q → x' = some q) (h : finF H rs x = some r) : finF H rs x' = some r := by
 cases x with
 | none => simp [finF] at h
 | some q => rw [hx _ rfl]; exact h
theorem cf6 {k : Bool} {H : Heap} {rs : List ERes} {x x' : Option Xsh} {r : ER × Heap} (hx : ∀ q, x = some q → x' = some q) (h : co7 k H rs x = some r) : co7 k H rs x' = some r := by
 unfold co7 at h ⊢
 split at h
 ·rename_i hk
  rw [if_pos hk]
  cases x with
  | none => simp [finK] at h
  | some q => rw [hx _ rfl]; exact h
 ·rename_i hk
  rw [if_neg hk]
  exact co8 hx h
theorem eg3 {call call' : FuncId → List EV → Heap → Res} (hc : ∀ g as H r, call g as H = some r → call' g as H = some r) {γ : Nat → EV} {D : FuncId → Option FnDf} {n m : Nat} (h : n ≤ m) {g : FuncId} {as : List EV} {H H' : Heap} {pv : Option EV}
  (hd : dcF call γ D n g as H pv = some H') : dcF call' γ D m g as H pv = some H' := by
 unfold dcF at hd ⊢
 split at hd
 ·split at hd
  ·rename_i hl
   rw [if_pos hl]
   split at hd
   ·rename_i hf
    rw [co8 (fun q hq => ap5 hc n m h _ _ _ _ hq) hf]
    exact hd
   ·simp at hd
  ·simp at hd
 ·simp at hd
theorem db4 {call call' : FuncId → List EV → Heap → Res} (hc : ∀ g as H r, call g as H = some r → call' g as H = some r) {γ : Nat → EV} {n m : Nat} (h : n ≤ m) : ∀ (f : EF) (s : aa2) (H : Heap) (r : Xsh × Option (FuncId × List EV)),
  efF call γ n f s H = some r → efF call' γ m f s H = some r
 | .code ec, s, H, r, hr => by
  simp only [efF, Option.map_eq_some_iff] at hr ⊢
  obtain ⟨x, hx, rfl⟩ := hr
  exact ⟨x, ap5 hc n m h _ _ _ _ hx, rfl⟩
 | .pre a f, s, H, r, hr => by
  have ih := db4 hc (γ := γ) h f
  simp only [efF] at hr ⊢
  cases hx : af0 call γ n a s H with
  | none => rw [hx] at hr; simp at hr
  | some x =>
   rw [ap5 hc n m h _ _ _ _ hx]
   rw [hx] at hr
   obtain ⟨x, s1, H1⟩ := x
   cases x with
   | normal => exact ih _ _ _ hr
   | _ => exact hr
 | .dfr l f args c, s, H, r, hr => by
  simp only [efF] at hr ⊢
  cases hx : opsF call γ l s H with
  | none => rw [hx] at hr; simp at hr
  | some x =>
   rw [bg4 hc _ _ _ _ hx]
   rw [hx] at hr
   obtain ⟨x, s1, H1⟩ := x
   cases x with
   | normal =>
    simp only at hr ⊢
    split at hr
    ·simp only [Option.map_eq_some_iff] at hr ⊢
     obtain ⟨x, hx, rfl⟩ := hr
     exact ⟨x, ap5 hc n m h _ _ _ _ hx, rfl⟩
    ·simp at hr
   | _ => exact hr
theorem dt1 {call call' : FuncId → List EV → Heap → Res} (hc : ∀ g as H r, call g as H = some r → call' g as H = some r) {γ : Nat → EV} {D : FuncId → Option FnDf} {n m : Nat} (h : n ≤ m) {H : Heap} {rs : List ERes} {x : Xsh × Option (FuncId × List EV)} {r : ER × Heap}
  (hr : finE call γ D n H rs (some x) = some r) : finE call' γ D m H rs (some x) = some r := by
 obtain ⟨⟨x, s, H'⟩, d⟩ := x
 cases d with
 | none => exact hr
 | some p =>
  obtain ⟨g, as⟩ := p
  have key : ∀ pv, (match dcF call γ D n g as H' pv with | some H2 => co6 H rs s H2 | none => none) = some r → (match dcF call' γ D m g as H' pv with | some H2 => co6 H rs s H2 | none => none) = some r := by
   intro pv hk
   split at hk
   ·rename_i H2 h2
    rw [eg3 hc h h2]
    exact hk
   ·simp at hk
  cases x with
  | normal => exact key _ hr
  | ret => exact key _ hr
  | panic v => exact key _ hr
  | exit id => simp [finE] at hr
theorem bp8 (E : Env) : ∀ (n m : Nat), n ≤ m → ∀ (f : FuncId) (as : List EV) (H : Heap) (r : ER × Heap), runF E n f as H = some r → runF E m f as H = some r
 | 0, _, _, f, as, H, r, h => by simp [runF] at h
 | n + 1, 0, hm, _, _, _, _, _ => by omega
 | n + 1, m + 1, hm, f, as, H, r, h => by
  have ih := bp8 E n m (by omega)
  unfold runF at h ⊢
  split at h
  ·exact h
  ·split at h
   ·rename_i d hd
    split at h
    ·rename_i hl
     simp only [if_pos hl]
     exact cf6 (fun q hq => ap5 (fun g as H r hr => ih g as H r hr) n m (by omega) _ _ _ _ hq) h
    ·simp at h
   ·split at h
    ·rename_i d hd
     split at h
     ·rename_i hl
      simp only [if_pos hl]
      cases hx : efF (runF E n) E.γ n d.ef (am4 as) H with
      | none => rw [hx] at h; simp [finE] at h
      | some x =>
       rw [db4 (fun g as H r hr => ih g as H r hr) (by omega : n ≤ m) _ _ _ _ hx]
       rw [hx] at h
       exact dt1 (fun g as H r hr => ih g as H r hr) (by omega) h
     ·simp at h
    ·simp at h
section
variable (E : Env)
open Classical in
noncomputable def lim {α : Type} (f : Nat → Option α) : Option α := if h : ∃ n r, f n = some r then some h.choose_spec.choose else none
theorem dr0 {α : Type} {f : Nat → Option α} (hm : ∀ n m, n ≤ m → ∀ r, f n = some r → f m = some r) {r : α} : lim f = some r ↔ ∃ n, f n = some r := by
 constructor
 ·intro h
  unfold lim at h
  split at h
  ·rename_i hx
   have := hx.choose_spec.choose_spec
   obtain rfl := Option.some.inj h
   exact ⟨_, this⟩
  ·simp at h
 ·rintro ⟨n, hn⟩
  have hx : ∃ n r, f n = some r := ⟨n, r, hn⟩
  unfold lim
  rw [dif_pos hx]
  have h1 := hx.choose_spec.choose_spec
  have h2 := hm _ (max hx.choose n) (Nat.le_max_left _ _) _ h1
  have h3 := hm _ (max hx.choose n) (Nat.le_max_right _ _) _ hn
  rw [h2] at h3
  exact h3
noncomputable def den (f : FuncId) (as : List EV) (H : Heap) : Res := lim fun n => runF E n f as H
noncomputable def denC (c : EC) (s : aa2) (H : Heap) : Option Xsh := lim fun n => af0 (runF E n) E.γ n c s H
noncomputable def denO (l : List EOper) (s : aa2) (H : Heap) : Option Xsh := opsF (den E) E.γ l s H
noncomputable def denD (l : List (EOper × Bool)) (s : aa2) (H : Heap) : Option Xsh := drF (den E) E.γ l s H
noncomputable def opD (ρ : EOpd → EV) (H : Heap) (op : EOp) : Res := opF (den E) ρ H op
variable {E}
theorem bl8 {f : FuncId} {as : List EV} {H : Heap} {r : ER × Heap} : den E f as H = some r ↔ ∃ n, runF E n f as H = some r :=
 dr0 fun n m h r => bp8 E n m h f as H r
theorem ad8 {c : EC} {s : aa2} {H : Heap} {r : Xsh} : denC E c s H = some r ↔ ∃ n, af0 (runF E n) E.γ n c s H = some r :=
 dr0 fun n m h r => ap5 (fun g as H q => bp8 E n m h g as H q) n m h c s H r
theorem bi7 {ρ : EOpd → EV} {H : Heap} {op : EOp} {r : ER × Heap} (h : opF (den E) ρ H op = some r) : ∃ n, opF (runF E n) ρ H op = some r := by
 cases op with
 | call f args =>
  simp only [opF] at h ⊢
  split at h
  ·exact bl8.1 h
  ·simp at h
 | _ => exact ⟨0, h⟩
theorem bb9 {n m : Nat} (h : n ≤ m) : ∀ g as H r, runF E n g as H = some r → runF E m g as H = some r := fun g as H r => bp8 E n m h g as H r
theorem by9 {n m : Nat} (h : n ≤ m) {ρ : EOpd → EV} {H : Heap} {op : EOp} (q : ER × Heap) (hq : opF (runF E n) ρ H op = some q) : opF (runF E m) ρ H op = some q := bd9 (bb9 h) hq
theorem cd1 {r : Nat → Res} {r' : Res} {s : aa2} {K : Nat → EV → Heap → Option Xsh} {K' : EV → Heap → Option Xsh} {x : Xsh} (hr : ∀ q, r' = some q → ∃ n, r n = some q) (hk : ∀ v H y, K' v H = some y → ∃ n, K n v H = some y)
  (mr : ∀ n m, n ≤ m → ∀ q, r n = some q → r m = some q) (mk : ∀ n m, n ≤ m → ∀ v H y, K n v H = some y → K m v H = some y) (h : bs6 r' s K' = some x) : ∃ n, bs6 (r n) s (K n) = some x := by
 unfold bs6 at h
 split at h
 ·rename_i v H
  obtain ⟨n, hn⟩ := hr _ rfl
  obtain ⟨m, hm⟩ := hk _ _ _ h
  refine ⟨max n m, ?_⟩
  rw [mr n (max n m) (Nat.le_max_left _ _) _ hn]
  exact mk m _ (Nat.le_max_right _ _) _ _ _ hm
 ·obtain ⟨n, hn⟩ := hr _ rfl
  exact ⟨n, by rw [hn]; exact h⟩
 ·simp at h
theorem cd5 {r : Nat → Res} {r' : Res} {chg : Bool} {H : Heap} {K : Nat → EV → Heap → Option Xsh} {K' : EV → Heap → Option Xsh} {x : Xsh} (hr : ∀ q, r' = some q → ∃ n, r n = some q) (hk : ∀ v H y, K' v H = some y → ∃ n, K n v H = some y)
  (mr : ∀ n m, n ≤ m → ∀ q, r n = some q → r m = some q) (mk : ∀ n m, n ≤ m → ∀ v H y, K n v H = some y → K m v H = some y) (h : bp5 chg H r' K' = some x) : ∃ n, bp5 chg H (r n) (K n) = some x := by
 unfold bp5 at h
 split at h
 ·rename_i v H'
  split at h
  ·rename_i hs
   obtain ⟨n, hn⟩ := hr _ rfl
   obtain ⟨m, hm⟩ := hk _ _ _ h
   refine ⟨max n m, ?_⟩
   rw [mr n (max n m) (Nat.le_max_left _ _) _ hn]
   simp only [bp5, if_pos hs]
   exact mk m _ (Nat.le_max_right _ _) _ _ _ hm
  ·simp at h
 ·simp at h
theorem bt3 {v : EV} {t : Bool} {a b : Nat → Option Xsh} {a' b' : Option Xsh} {x : Xsh} (ha : ∀ y, a' = some y → ∃ n, a n = some y) (hb : ∀ y, b' = some y → ∃ n, b n = some y) (h : bh2 v t a' b' = some x) : ∃ n, bh2 v t (a n) (b n) = some x := by
 unfold bh2 at h
 split at h
 ·split at h
  ·rename_i e
   obtain ⟨n, hn⟩ := ha _ h
   exact ⟨n, by simp only [bh2]; rw [if_pos e]; exact hn⟩
  ·rename_i e
   obtain ⟨n, hn⟩ := hb _ h
   exact ⟨n, by simp only [bh2]; rw [if_neg e]; exact hn⟩
 ·obtain ⟨n, hn⟩ := hb _ h
  exact ⟨n, hn⟩
 ·simp at h
theorem cp7 : ∀ (l : List EOper) (s : aa2) (H : Heap) (r : Xsh), opsF (den E) E.γ l s H = some r → ∃ n, opsF (runF E n) E.γ l s H = some r
 | [], s, H, r, h => ⟨0, h⟩
 | o :: rest, s, H, r, h => by
  unfold opsF at h ⊢
  have ih := cp7 rest
  have up : ∀ n m, n ≤ m → ∀ (v : EV) (H : Heap) (y : Xsh), opsF (runF E n) E.γ rest (putA s o.dst v) H = some y → opsF (runF E m) E.γ rest (putA s o.dst v) H = some y := fun n m h v H y hy => bg4 (bb9 h) _ _ _ _ hy
  split at h
  ·exact cd1 (fun q hq => bi7 hq) (fun v H y hy => ih _ _ _ hy) (fun n m hnm q hq => by9 hnm q hq) up h
  ·exact bt3 (fun y hy => cd1 (fun q hq => bi7 hq) (fun v H y hy => ih _ _ _ hy) (fun n m hnm q hq => by9 hnm q hq) up hy) (fun y hy => ih _ _ _ hy) h
theorem cp8 : ∀ (l : List (EOper × Bool)) (s : aa2) (H : Heap) (r : Xsh), drF (den E) E.γ l s H = some r → ∃ n, drF (runF E n) E.γ l s H = some r
 | [], s, H, r, h => ⟨0, h⟩
 | (o, chg) :: rest, s, H, r, h => by
  unfold drF at h ⊢
  have ih := cp8 rest
  have up : ∀ n m, n ≤ m → ∀ (v : EV) (H : Heap) (y : Xsh), drF (runF E n) E.γ rest (putA s o.dst v) H = some y → drF (runF E m) E.γ rest (putA s o.dst v) H = some y := fun n m h v H y hy => br9 (bb9 h) _ _ _ _ hy
  split at h
  ·exact cd5 (fun q hq => bi7 hq) (fun v H y hy => ih _ _ _ hy) (fun n m hnm q hq => by9 hnm q hq) up h
  ·exact bt3 (fun y hy => cd5 (fun q hq => bi7 hq) (fun v H y hy => ih _ _ _ hy) (fun n m hnm q hq => by9 hnm q hq) up hy) (fun y hy => ih _ _ _ hy) h
theorem ch4 {n : Nat} : ∀ g as H r, runF E n g as H = some r → den E g as H = some r := fun _ _ _ _ h => bl8.2 ⟨n, h⟩
theorem bi6 {α : Type} {x y : Option α} (h : ∀ r, x = some r ↔ y = some r) : x = y := by
 cases x with
 | none => cases y with
  | none => rfl
  | some b => exact absurd ((h b).2 rfl) (by simp)
 | some a => exact ((h a).1 rfl).symm
theorem cx6 {n m : Nat} (h : n ≤ m) {c : EC} {s : aa2} {H : Heap} (q : Xsh) (hq : af0 (runF E n) E.γ n c s H = some q) : af0 (runF E m) E.γ m c s H = some q := ap5 (bb9 h) n m h _ _ _ _ hq
variable {s : aa2} {H : Heap}
theorem cp9 : denC E .skip s H = some (.normal, s, H) := ad8.2 ⟨1, rfl⟩
theorem cq1 {id : Nat} : denC E (.exit id) s H = some (.exit id, s, H) := ad8.2 ⟨1, rfl⟩
theorem db8 : denC E .ret s H = some (.ret, s, H) := ad8.2 ⟨1, rfl⟩
theorem eg1 {l : List EOper} : denC E (.ops l) s H = denO E l s H := by
 refine bi6 fun r => ⟨fun h => ?_, fun h => ?_⟩
 ·obtain ⟨n, hn⟩ := ad8.1 h
  cases n with
  | zero => simp [af0] at hn
  | succ n => exact bg4 (ch4 (n := n + 1)) _ _ _ _ hn
 ·obtain ⟨n, hn⟩ := cp7 _ _ _ _ h
  exact ad8.2 ⟨n + 1, bg4 (bb9 (Nat.le_succ n)) _ _ _ _ hn⟩
theorem dw4 {l : List (EOper × Bool)} : denC E (.draw l) s H = denD E l s H := by
 refine bi6 fun r => ⟨fun h => ?_, fun h => ?_⟩
 ·obtain ⟨n, hn⟩ := ad8.1 h
  cases n with
  | zero => simp [af0] at hn
  | succ n => exact br9 (ch4 (n := n + 1)) _ _ _ _ hn
 ·obtain ⟨n, hn⟩ := cp8 _ _ _ _ h
  exact ad8.2 ⟨n + 1, br9 (bb9 (Nat.le_succ n)) _ _ _ _ hn⟩
theorem di3 {l : List EOper} {us : List (Nat × Nat)} : denC E (.drawS l us) s H = (match dsF E.γ l s H with | some (s', H', fs) => if cj6 fs us then some (.normal, s', H') else none | none => none) := by
 refine bi6 fun r => ⟨fun h => ?_, fun h => ?_⟩
 ·obtain ⟨n, hn⟩ := ad8.1 h
  cases n with
  | zero => simp [af0] at hn
  | succ n => exact hn
 ·exact ad8.2 ⟨1, h⟩
theorem cg6 {x : Nat → Option Xsh} {x' : Option Xsh} {K : Nat → aa2 → Heap → Option Xsh} {K' : aa2 → Heap → Option Xsh} {y : Xsh} (hx : ∀ q, x' = some q → ∃ n, x n = some q) (hk : ∀ s H q, K' s H = some q → ∃ n, K n s H = some q)
  (mx : ∀ n m, n ≤ m → ∀ q, x n = some q → x m = some q) (mk : ∀ n m, n ≤ m → ∀ s H q, K n s H = some q → K m s H = some q) (h : bs4 x' K' = some y) : ∃ n, bs4 (x n) (K n) = some y := by
 cases x' with
 | none => simp [bs4] at h
 | some q =>
  obtain ⟨n, hn⟩ := hx _ rfl
  obtain ⟨e, s, H⟩ := q
  by_cases he : e = .normal
  ·subst he
   obtain ⟨m, hm⟩ := hk _ _ _ h
   refine ⟨max n m, ?_⟩
   rw [mx n (max n m) (Nat.le_max_left _ _) _ hn]
   exact mk m _ (Nat.le_max_right _ _) _ _ _ hm
  ·refine ⟨n, ?_⟩
   rw [hn]
   cases e <;> first | exact absurd rfl he | exact h
theorem dx7 {b : EC} : ∀ n m, n ≤ m → ∀ s H q, af0 (runF E n) E.γ n b s H = some q → af0 (runF E m) E.γ m b s H = some q := fun n m h s H q hq => cx6 h q hq
theorem ay1 {n : Nat} {c : EC} (q : Xsh) (h : af0 (runF E (n + 1)) E.γ n c s H = some q) : denC E c s H = some q :=
 ad8.2 ⟨n + 1, ap5 (fun _ _ _ _ h => h) n (n + 1) (Nat.le_succ n) _ _ _ _ h⟩
theorem ay0 {n : Nat} {c : EC} (q : Xsh) (h : af0 (runF E n) E.γ n c s H = some q) : af0 (runF E (n + 1)) E.γ n c s H = some q :=
 ap5 (bb9 (Nat.le_succ n)) n n (Nat.le_refl n) _ _ _ _ h
theorem db7 {a b : EC} : denC E (.seq a b) s H = bs4 (denC E a s H) fun s' H' => denC E b s' H' := by
 refine bi6 fun r => ⟨fun h => ?_, fun h => ?_⟩
 ·obtain ⟨n, hn⟩ := ad8.1 h
  cases n with
  | zero => simp [af0] at hn
  | succ n => exact bb1 (fun q hq => ay1 q hq) (fun s H q hq => ay1 q hq) hn
 ·obtain ⟨n, hn⟩ := cg6 (x := fun n => af0 (runF E n) E.γ n a s H) (K := fun n s' H' => af0 (runF E n) E.γ n b s' H') (fun q hq => ad8.1 hq) (fun s H q hq => ad8.1 hq) (fun n m h q hq => cx6 h q hq) dx7 h
  exact ad8.2 ⟨n + 1, bb1 (fun q hq => ay0 q hq) (fun s H q hq => ay0 q hq) hn⟩
theorem cq0 {c : EC} : denC E (.loop c) s H = bs4 (denC E c s H) fun s' H' => denC E (.loop c) s' H' := by
 refine bi6 fun r => ⟨fun h => ?_, fun h => ?_⟩
 ·obtain ⟨n, hn⟩ := ad8.1 h
  cases n with
  | zero => simp [af0] at hn
  | succ n => exact bb1 (fun q hq => ay1 q hq) (fun s H q hq => ay1 q hq) hn
 ·obtain ⟨n, hn⟩ := cg6 (x := fun n => af0 (runF E n) E.γ n c s H) (K := fun n s' H' => af0 (runF E n) E.γ n (.loop c) s' H') (fun q hq => ad8.1 hq) (fun s H q hq => ad8.1 hq) (fun n m h q hq => cx6 h q hq) dx7 h
  exact ad8.2 ⟨n + 1, bb1 (fun q hq => ay0 q hq) (fun s H q hq => ay0 q hq) hn⟩
theorem cg0 {id : Nat} {c : EC} : denC E (.block id c) s H = bm2 id (denC E c s H) := by
 refine bi6 fun r => ⟨fun h => ?_, fun h => ?_⟩
 ·obtain ⟨n, hn⟩ := ad8.1 h
  cases n with
  | zero => simp [af0] at hn
  | succ n => exact cb7 (fun q hq => ay1 q hq) hn
 ·cases hx : denC E c s H with
  | none => rw [hx] at h; simp [bm2] at h
  | some q =>
   obtain ⟨n, hn⟩ := ad8.1 hx
   rw [hx] at h
   refine ad8.2 ⟨n + 1, ?_⟩
   simp only [af0]
   rw [ay0 q hn]
   exact h
theorem dw5 {c : EOpd} {a b : EC} : denC E (.cond c a b) s H = bv7 (ev E.γ s c) (denC E a s H) (denC E b s H) := by
 refine bi6 fun r => ⟨fun h => ?_, fun h => ?_⟩
 ·obtain ⟨n, hn⟩ := ad8.1 h
  cases n with
  | zero => simp [af0] at hn
  | succ n => exact cg2 (fun q hq => ay1 q hq) (fun q hq => ay1 q hq) hn
 ·unfold bv7 at h
  split at h
  ·rename_i t ht
   split at h
   ·rename_i e
    obtain ⟨n, hn⟩ := ad8.1 h
    refine ad8.2 ⟨n + 1, ?_⟩
    simp only [af0, ht, bv7]
    rw [if_pos e]; exact ay0 _ hn
   ·rename_i e
    obtain ⟨n, hn⟩ := ad8.1 h
    refine ad8.2 ⟨n + 1, ?_⟩
    simp only [af0, ht, bv7]
    rw [if_neg e]; exact ay0 _ hn
  ·simp at h
theorem db6 {f : FuncId} {as : List EV} {d : FnD} (hT : E.T f = some d) (hΨ : E.Ψ f as H = none) (hl : as.length ≤ d.nt) : den E f as H = co7 (E.K f) H d.rs (denC E d.ec (am4 as) H) := by
 refine bi6 fun r => ⟨fun h => ?_, fun h => ?_⟩
 ·obtain ⟨n, hn⟩ := bl8.1 h
  cases n with
  | zero => simp [runF] at hn
  | succ n =>
   simp only [runF, hΨ, hT, if_pos hl] at hn
   exact cf6 (fun q hq => ad8.2 ⟨n, hq⟩) hn
 ·cases hx : denC E d.ec (am4 as) H with
  | none => rw [hx] at h; unfold co7 at h; split at h <;> simp [finF, finK] at h
  | some q =>
   obtain ⟨n, hn⟩ := ad8.1 hx
   rw [hx] at h
   refine bl8.2 ⟨n + 1, ?_⟩
   simp only [runF, hΨ, hT, if_pos hl, hn]
   exact h
theorem dw3 {f : FuncId} {as : List EV} {d : FnD} (hT : E.T f = some d) (hΨ : E.Ψ f as H = none) (hk : E.K f = false) (hl : as.length ≤ d.nt) : den E f as H = finF H d.rs (denC E d.ec (am4 as) H) := by
 rw [db6 hT hΨ hl, hk]; rfl
theorem dw2 {f : FuncId} {as : List EV} {r : ER × Heap} (hΨ : E.Ψ f as H = some r) : den E f as H = some r :=
 bl8.2 ⟨1, by simp only [runF, hΨ]⟩
end
section
variable {P : Program} {γ : Nat → EV} {n : Nat} {nb : NB} {φ φ0 : Nat → Nat} {I I0 : Nat → Prop} {s : aa2} {H H0 : Heap} {a : Act} {w w0 : World}
def ay3 (P : Program) (γ : Nat → EV) (call : FuncId → List EV → Heap → Res) : Prop :=
 ∀ g as H er H', call g as H = some (er, H') → CallsA P γ g as H fun e h => e = er ∧ h = H'
def Qis (r : Xsh) : AX → aa2 → Heap → Prop := fun x s H => r = (x, s, H)
variable {call : FuncId → List EV → Heap → Res}
theorem do4 (hc : ay3 P γ call) {op : EOp} {er : ER} {H' : Heap} {K Qp : EV → Heap → Prop} (h : opF call (ev γ s) H op = some (er, H')) (hk : (∀ v, er = .ret v → K v H') ∧ ∀ v, er = .pan v → Qp v H') : wop P γ Qp (ev γ s) H op K := by
 cases op with
 | call f args =>
  simp only [opF] at h
  simp only [wop]
  split at h
  ·rename_i g first cap hf
   simp only [hf]
   refine ⟨_, hc _ _ _ _ _ h, ?_⟩
   rintro e h1 ⟨rfl, rfl⟩
   cases e with
   | ret v => exact hk.1 v rfl
   | pan v => exact hk.2 v rfl
  ·simp at h
 | panic x =>
  simp only [opF] at h
  simp only [wop]
  split at h
  ·rename_i t v hx
   simp only [hx]
   simp only [Option.some.injEq, Prod.mk.injEq] at h
   obtain ⟨rfl, rfl⟩ := h
   exact hk.2 _ rfl
  ·simp at h
 | _ =>
  simp only [opF] at h
  simp only [wop]
  split at h
  ·rename_i v H1 hev
   simp only [Option.some.injEq, Prod.mk.injEq] at h
   obtain ⟨rfl, rfl⟩ := h
   first | (rw [hev]; exact hk.1 _ rfl) | exact hk.1 _ rfl
  ·simp at h
theorem dc9 {r : Res} {K : EV → Heap → Option Xsh} {x : Xsh} (h : bs6 r s K = some x) : (∃ v H', r = some (.ret v, H') ∧ K v H' = some x) ∨ ∃ v H', r = some (.pan v, H') ∧ x = (.panic v, s, H') := by
 unfold bs6 at h
 split at h
 ·exact .inl ⟨_, _, rfl, h⟩
 ·exact .inr ⟨_, _, rfl, (Option.some.inj h).symm⟩
 ·simp at h
theorem bl1 (hc : ay3 P γ call) : ∀ (l : List EOper) (s : aa2) (H : Heap) (r : Xsh), opsF call γ l s H = some r → wops P γ (Qis r) l s H
 | [], s, H, r, h => by
  simp only [opsF, Option.some.injEq] at h
  exact h.symm
 | o :: rest, s, H, r, h => by
  have ih := bl1 hc rest
  have one : ∀ K : Option Xsh, (bs6 (opF call (ev γ s) H o.op) s fun v H' => opsF call γ rest (putA s o.dst v) H') = some r →
    wop P γ (fun v H' => Qis r (.panic v) s H') (ev γ s) H o.op fun v H' => wops P γ (Qis r) rest (putA s o.dst v) H' := by
   intro _ h1
   rcases dc9 h1 with ⟨v, H', h2, h3⟩ | ⟨v, H', h2, rfl⟩
   ·exact do4 hc h2 ⟨fun u e => (by cases e; exact ih _ _ _ h3), fun u e => (by cases e)⟩
   ·exact do4 hc h2 ⟨fun u e => (by cases e), fun u e => (by cases e; rfl)⟩
  unfold opsF at h
  unfold wops
  cases hg : o.guard with
  | none => rw [hg] at h; exact one none h
  | some p =>
   obtain ⟨d, b⟩ := p
   rw [hg] at h
   simp only at h ⊢
   unfold bh2 at h
   split at h
   ·rename_i t ht
    simp only [ht]
    split at h
    ·rename_i e; rw [if_pos e]; exact one none h
    ·rename_i e; rw [if_neg e]; exact ih _ _ _ h
   ·rename_i ht
    simp only [ht]
    exact ih _ _ _ h
   ·simp at h
theorem bm7 (hc : ay3 P γ call) {op : EOp} {v : EV} {H' : Heap} (h : opF call (ev γ s) H op = some (.ret v, H')) : Acts P γ s H op v H' := by
 cases op with
 | call f args =>
  simp only [opF] at h
  simp only [Acts]
  split at h
  ·rename_i g first cap hf
   simp only [hf]
   exact hc _ _ _ _ _ h
  ·simp at h
 | panic x =>
  simp only [opF] at h
  split at h <;> simp at h
 | _ =>
  simp only [opF] at h
  simp only [Acts]
  split at h
  ·rename_i v H1 hev
   simp only [Option.some.injEq, Prod.mk.injEq, ER.ret.injEq] at h
   obtain ⟨rfl, rfl⟩ := h
   first | exact hev | rfl
  ·simp at h
theorem cd3 {r : Res} {chg : Bool} {K : EV → Heap → Option Xsh} {x : Xsh} (h : bp5 chg H r K = some x) : ∃ v H', r = some (.ret v, H') ∧ (chg = false → H' = H) ∧ K v H' = some x := by
 unfold bp5 at h
 split at h
 ·split at h
  ·rename_i hs
   refine ⟨_, _, rfl, fun e => ?_, h⟩
   rw [e, Bool.false_or] at hs
   exact bw5 hs
  ·simp at h
 ·simp at h
theorem ci9 (hc : ay3 P γ call) : ∀ (l : List (EOper × Bool)) (s : aa2) (H : Heap) (r : Xsh), drF call γ l s H = some r → wdr P γ (Qis r) l s H
 | [], s, H, r, h => by
  simp only [drF, Option.some.injEq] at h
  exact h.symm
 | (o, chg) :: rest, s, H, r, h => by
  have ih := ci9 hc rest
  unfold drF at h
  unfold wdr
  cases hg : o.guard with
  | none =>
   rw [hg] at h
   obtain ⟨v, H', h1, h2, h3⟩ := cd3 h
   refine ⟨v, H', ?_, h2, ih _ _ _ h3⟩
   unfold Runs
   rw [hg]
   exact bm7 hc h1
  | some p =>
   obtain ⟨d, b⟩ := p
   rw [hg] at h
   simp only at h
   unfold bh2 at h
   split at h
   ·rename_i t ht
    split at h
    ·rename_i e
     obtain ⟨v, H', h1, h2, h3⟩ := cd3 h
     refine ⟨v, H', ?_, h2, ih _ _ _ h3⟩
     unfold Runs
     rw [hg]
     exact .inl ⟨t, ht, fun _ => bm7 hc h1, fun hne => absurd e hne⟩
    ·rename_i e
     refine ⟨.tup [], H, ?_, fun _ => rfl, ih _ _ _ h⟩
     unfold Runs
     rw [hg]
     exact .inl ⟨t, ht, fun h => absurd h e, fun _ => ⟨rfl, rfl⟩⟩
   ·rename_i ht
    refine ⟨.tup [], H, ?_, fun _ => rfl, ih _ _ _ h⟩
    unfold Runs
    rw [hg]
    exact .inr ⟨ht, rfl, rfl⟩
   ·simp at h
theorem ec3 (hc : ay3 P γ call) {op : EOp} {v : EV} {H' : Heap} (ho : br1 op = true) (h : opF call (ev γ s) H op = some (.pan v, H')) : Pans P γ s H op v H' := by
 cases op <;> simp only [br1, Bool.false_eq_true] at ho
 simp only [opF] at h
 simp only [Pans]
 split at h
 ·rename_i g first cap hf
  simp only [hf]
  exact hc _ _ _ _ _ h
 ·simp at h
theorem bu3 {r : Res} {K : EV → Bool} (h : ax1 H r K = true) : ∃ v, r = some (.ret v, H) ∧ K v = true := by
 unfold ax1 at h
 split at h
 ·rename_i v H'
  simp only [Bool.and_eq_true] at h
  have := bw5 h.1
  subst this
  exact ⟨v, rfl, h.2⟩
 ·simp at h
theorem bv0 (hc : ay3 P γ call) : ∀ (l : List GO) (bs : List Bool) (s : aa2) (H : Heap), aq1 call γ l bs s H = true → cy4 P γ l bs s H
 | [], _, _, _, _ => trivial
 | g :: l, bs, s, H, h => by
  have ih := bv0 hc l
  unfold aq1 at h
  unfold cy4
  split
  ·rename_i hb; rw [if_pos hb] at h; exact ih _ _ _ h
  ·rename_i hb
   rw [if_neg hb] at h
   simp only [Bool.and_eq_true, Bool.not_eq_true'] at h
   refine ⟨h.1, ?_⟩
   have h := h.2
   cases hg : g.o.guard with
   | none =>
    rw [hg] at h
    obtain ⟨v, h1, h2⟩ := bu3 h
    refine ⟨v, ?_, ih _ _ _ h2⟩
    unfold Runs
    rw [hg]
    exact bm7 hc h1
   | some p =>
    obtain ⟨d, b⟩ := p
    rw [hg] at h
    simp only at h
    unfold cv4 at h
    split at h
    ·rename_i t ht
     split at h
     ·rename_i e
      obtain ⟨v, h1, h2⟩ := bu3 h
      refine ⟨v, ?_, ih _ _ _ h2⟩
      unfold Runs
      rw [hg]
      exact .inl ⟨t, ht, fun _ => bm7 hc h1, fun hne => absurd e hne⟩
     ·rename_i e
      refine ⟨.tup [], ?_, ih _ _ _ h⟩
      unfold Runs
      rw [hg]
      exact .inl ⟨t, ht, fun h => absurd h e, fun _ => ⟨rfl, rfl⟩⟩
    ·rename_i ht
     refine ⟨.tup [], ?_, ih _ _ _ h⟩
     unfold Runs
     rw [hg]
     exact .inr ⟨ht, rfl, rfl⟩
    ·simp at h
theorem cx0 (hc : ay3 P γ call) {ds : List Nat} : ∀ (l : List GO) (s : aa2) (H : Heap) (r : Xsh), drG call γ ds l s H = some r → wdG P γ ds (Qis r) l s H
 | [], s, H, r, h => by
  simp only [drG, Option.some.injEq] at h
  exact h.symm
 | g :: l, s, H, r, h => by
  have ih := cx0 hc (ds := ds) l
  have ag : ∀ {s : aa2} {H : Heap}, g.us.all (ah9 s H) = true → ∀ u ∈ g.us, cr6 γ s H u := fun h u hu => by
   have := List.all_eq_true.1 h u hu
   unfold ah9 at this
   unfold cr6
   split at this
   ·rename_i v hv; rw [hv, EV.beq_eq _ _ this]
   ·simp at this
  have go : ∀ {v : EV} {H' : Heap}, (if g.us.all (ah9 (putA s g.o.dst v) H') then drG call γ ds l (putA s g.o.dst v) H' else none) = some r → (∀ u ∈ g.us, cr6 γ (putA s g.o.dst v) H' u) ∧ wdG P γ ds (Qis r) l (putA s g.o.dst v) H' := fun h => by
   split at h
   ·rename_i e; exact ⟨ag e, ih _ _ _ h⟩
   ·simp at h
  have same : ∀ {H' : Heap}, (g.chg || bs7 H' H) = true → g.chg = false → H' = H := fun h e => by
   rw [e, Bool.false_or] at h
   exact bw5 h
  unfold drG at h
  unfold wdG
  cases hg : g.o.guard with
  | none =>
   rw [hg] at h
   simp only [bb3] at h
   split at h
   ·rename_i v H' hr
    split at h
    ·rename_i e
     obtain ⟨h1, h2⟩ := go h
     refine .inl ⟨v, H', ?_, same e, h1, h2⟩
     unfold Runs
     rw [hg]
     exact bm7 hc hr
    ·simp at h
   ·rename_i v H' hr
    split at h
    ·rename_i e
     simp only [Bool.and_eq_true] at e
     refine .inr ⟨e.1.1, rfl, v, H', ec3 hc e.1.2 hr, bv0 hc _ _ _ _ e.2, ?_⟩
     exact (Option.some.inj h).symm
    ·simp at h
   ·simp at h
  | some p =>
   obtain ⟨d, b⟩ := p
   rw [hg] at h
   simp only at h
   unfold bh2 at h
   split at h
   ·rename_i t ht
    split at h
    ·rename_i e
     simp only [bb3] at h
     split at h
     ·rename_i v H' hr
      split at h
      ·rename_i e2
       obtain ⟨h1, h2⟩ := go h
       refine .inl ⟨v, H', ?_, same e2, h1, h2⟩
       unfold Runs
       rw [hg]
       exact .inl ⟨t, ht, fun _ => bm7 hc hr, fun hne => absurd e hne⟩
      ·simp at h
     ·simp at h
     ·simp at h
    ·rename_i e
     obtain ⟨h1, h2⟩ := go h
     refine .inl ⟨.tup [], H, ?_, fun _ => rfl, h1, h2⟩
     unfold Runs
     rw [hg]
     exact .inl ⟨t, ht, fun h => absurd h e, fun _ => ⟨rfl, rfl⟩⟩
   ·rename_i ht
    obtain ⟨h1, h2⟩ := go h
    refine .inl ⟨.tup [], H, ?_, fun _ => rfl, h1, h2⟩
    unfold Runs
    rw [hg]
    exact .inr ⟨ht, rfl, rfl⟩
   ·simp at h
theorem bi2 {x : Option Xsh} {K : aa2 → Heap → Option Xsh} {r : Xsh} (h : bs4 x K = some r) : (∃ s H, x = some (.normal, s, H) ∧ K s H = some r) ∨ (x = some r ∧ r.1 ≠ .normal) := by
 unfold bs4 at h
 split at h
 ·exact .inl ⟨_, _, rfl, h⟩
 ·rename_i hne
  refine .inr ⟨h, fun e => ?_⟩
  obtain ⟨x, s, H⟩ := r
  simp only at e
  subst e
  exact hne _ _ h
theorem Qis.then {K : aa2 → Heap → Prop} {Q : AX → aa2 → Heap → Prop} {r : Xsh} {x : AX} {s' : aa2} {H' : Heap} (h : Qis r x s' H') (hk : r.1 = .normal → K r.2.1 r.2.2) (hq : r.1 ≠ .normal → Q r.1 r.2.1 r.2.2) : ba5 K Q x s' H' := by
 unfold Qis at h
 subst h
 cases x with
 | normal => exact hk rfl
 | _ => exact hq (by simp)
theorem el6 (hc : ay3 P γ call) {k : Nat} {ec : EC} {r : Xsh} (hs : match ec with | .ops _ | .draw _ | .seq (.draw _) (.ops _) | .seq (.drawG _ _) (.ops _) => True | _ => False) (h : af0 call γ k ec s H = some r) : wpc P γ ec (Qis r) s H := by
 cases k with
 | zero => simp [af0] at h
 | succ k =>
  split at hs
  ·exact bl1 hc _ _ _ _ h
  ·exact ci9 hc _ _ _ _ h
  ·rename_i a b
   simp only [af0] at h
   cases k with
   | zero => simp [af0, bs4] at h
   | succ k =>
    simp only [af0] at h
    rcases bi2 h with ⟨s1, H1, h1, h2⟩ | ⟨h1, hne⟩
    ·exact cg7 (fun x s' H' hx => hx.then (fun _ => bl1 hc _ _ _ _ h2) fun h => absurd rfl h) (ci9 hc _ _ _ _ h1)
    ·exact cg7 (fun x s' H' hx => hx.then (fun h => absurd h hne) fun _ => rfl) (ci9 hc _ _ _ _ h1)
  ·simp only [af0] at h
   cases k with
   | zero => simp [af0, bs4] at h
   | succ k =>
    simp only [af0] at h
    rcases bi2 h with ⟨s1, H1, h1, h2⟩ | ⟨h1, hne⟩
    ·exact cg9 (fun x s' H' hx => hx.then (fun _ => bl1 hc _ _ _ _ h2) fun h => absurd rfl h) (cx0 hc _ _ _ _ h1)
    ·exact cg9 (fun x s' H' hx => hx.then (fun h => absurd h hne) fun _ => rfl) (cx0 hc _ _ _ _ h1)
  ·exact hs.elim
theorem bd4 (hcall : ay3 P γ call) {own : List Nat} : ∀ (c : Code) (ec : EC), resC P n own c = some ec → ∀ (m : Nat), 1 ≤ m → ∀ (nb : NB) (k : Nat) (r : Xsh) (φ : Nat → Nat) (I : Nat → Prop) (s : aa2) (H : Heap) (a : Act) (w : World),
  Rel γ n nb φ I s H a w → af0 call γ k ec s H = some r → c.wpIn (FR none) m P (Post γ n nb φ I H w (Qis r)) a w := by
 intro c
 induction c with
 | skip =>
  intro ec he m hm nb k r φ I s H a w hR h
  simp only [resC, Option.some.injEq] at he; subst he
  cases k with
  | zero => simp [af0] at h
  | succ k =>
  exact wpIn_skip ⟨φ, I, s, H, .normal, .refl .., hR, .normal, (Option.some.inj h).symm⟩
 | region id ops draw =>
  intro ec he m hm nb k r φ I s H a w hR h
  by_cases hds : ∃ l us, ec = .drawS l us
  ·obtain ⟨l, us, rfl⟩ := hds
   cases k with
   | zero => simp [af0] at h
   | succ k =>
   simp only [af0] at h
   split at h
   case h_2 => simp at h
   rename_i s' H' fs hd
   split at h
   case isFalse => simp at h
   rename_i hap
   obtain rfl := Option.some.inj h
   cases draw with
   | false => simp [resC, Option.map_eq_some_iff] at he
   | true =>
   simp only [resC] at he
   split at he
   ·simp at he
   split at he
   ·simp at he
   ·split at he
    ·rename_i p hp
     simp only [Option.some.injEq, EC.drawS.injEq] at he
     obtain ⟨rfl, rfl⟩ := he
     unfold bq2 at hp
     split at hp
     case h_2 => simp at hp
     rename_i l hl
     split at hp
     case isFalse => simp at hp
     rename_i hc
     simp only [Bool.and_eq_true] at hc
     simp only [Option.some.injEq] at hp; subst hp
     exact wpIn_region_any hc.1 (dy1 Post.noOut (ax2 hl) _ _ _ _ (cw7 hl hc.2 hR hd hap rfl))
    ·simp [Option.map_eq_some_iff] at he
  refine ck0 _ ec he none m nb (.inr rfl) _ φ I s H a w hR (el6 hcall ?_ h)
  cases draw with
  | true =>
   simp only [resC] at he
   split at he
   ·simp only [Option.some.injEq] at he; subst he
    trivial
   split at he
   ·simp only [Option.some.injEq] at he; subst he
    trivial
   split at he
   ·simp only [Option.some.injEq] at he
    exact absurd ⟨_, _, he.symm⟩ hds
   ·simp only [Option.map_eq_some_iff] at he
    obtain ⟨z, hz', rfl⟩ := he
    trivial
  | false =>
   simp only [resC, Option.map_eq_some_iff] at he
   obtain ⟨l, hl, rfl⟩ := he
   trivial
 | seq x y ihx ihy =>
  intro ec he m hm nb k r φ I s H a w hR h
  simp only [resC] at he
  split at he
  ·rename_i ex ey hx hy
   simp only [Option.some.injEq] at he; subst he
   cases k with
   | zero => simp [af0] at h
   | succ k =>
   rcases bi2 h with ⟨s1, H1, h1, h2⟩ | ⟨h1, hne⟩
   ·refine wpIn_seq (wpIn_mono (ihx ex hx m hm nb k _ φ I s H a w hR h1) fun e a' w' hp => ?_)
    refine ba8 (next := fun s' H' => s' = s1 ∧ H' = H1) (Q := Qis r) (fun φ' I' s' H' a' w' g1 g2 g3 => ?_) (fun e a' w' _ hp => hp) (hp.mono fun x s' H' hx => hx.then (fun _ => ⟨rfl, rfl⟩) fun h => absurd rfl h)
    obtain ⟨rfl, rfl⟩ := g3
    exact wpIn_mono (ihy ey hy m hm nb k r φ' I' _ _ a' w' g2 h2) fun e a'' w'' hp => hp.trans g1
   ·refine wpIn_seq (wpIn_mono (ihx ex hx m hm nb k _ φ I s H a w hR h1) fun e a' w' hp => ?_)
    exact ba8 (next := fun _ _ => False) (Q := Qis r) (fun φ' I' s' H' a' w' g1 g2 g3 => g3.elim) (fun e a' w' _ hp => hp) (hp.mono fun x s' H' hx => hx.then (fun h => absurd h hne) fun _ => rfl)
  ·simp at he
 | cond c x y ihx ihy =>
  intro ec he m hm nb k r φ I s H a w hR h
  simp only [resC] at he
  split at he
  ·rename_i z ex ey hz hx hy
   simp only [Option.some.injEq] at he; subst he
   have rc := ab5 hR hz
   cases k with
   | zero => simp [af0] at h
   | succ k =>
   simp only [af0] at h
   unfold bv7 at h
   split at h
   case h_2 => simp at h
   rename_i t ht
   rw [ht] at rc
   generalize hva : a.eval c = vc at rc
   cases rc
   refine wpIn_cond hva ?_
   cases t with
   | true => exact ihx ex hx m hm nb k r φ I s H a w hR (by simpa using h)
   | false => exact ihy ey hy m hm nb k r φ I s H a w hR (by simpa using h)
  ·simp at he
 | block id c ih =>
  intro ec he m hm nb k r φ I s H a w hR h
  simp only [resC, Option.map_eq_some_iff] at he
  obtain ⟨x, hx, rfl⟩ := he
  cases k with
  | zero => simp [af0] at h
  | succ k =>
  simp only [af0] at h
  cases hq : af0 call γ k x s H with
  | none => rw [hq] at h; simp [bm2] at h
  | some q =>
  rw [hq] at h
  refine wpIn_block (wpIn_mono (ih x hx m hm nb k q φ I s H a w hR hq) fun e a' w' hp => ?_)
  obtain ⟨φ', I', s', H', y, h1, h2, h3, h4⟩ := hp
  unfold Qis at h4
  subst h4
  cases h3 with
  | normal => exact ⟨φ', I', s', H', _, h1, h2, .normal, (Option.some.inj h).symm⟩
  | exit id' =>
   simp only [Exit.inBlock]
   simp only [bm2] at h
   split
   ·rename_i e; rw [if_pos e] at h; exact ⟨φ', I', s', H', _, h1, h2, .normal, (Option.some.inj h).symm⟩
   ·rename_i e; rw [if_neg e] at h; exact ⟨φ', I', s', H', _, h1, h2, .exit id', (Option.some.inj h).symm⟩
  | ret => exact ⟨φ', I', s', H', _, h1, h2, .ret, (Option.some.inj h).symm⟩
  | panic x v hv => exact ⟨φ', I', s', H', _, h1, h2, .panic x v hv, (Option.some.inj h).symm⟩
 | loop c ih =>
  intro ec he m hm nb k r φ I s H a w hR h
  simp only [resC, Option.map_eq_some_iff] at he
  obtain ⟨x, hx, rfl⟩ := he
  refine bk1 (fun j a' w' => ∃ φ' I' s' H', Evo φ I H w φ' I' H' w' ∧ Rel γ n nb φ' I' s' H' a' w' ∧ af0 call γ j (.loop x) s' H' = some r) k ⟨φ, I, s, H, .refl .., hR, h⟩ ?_
  rintro j a' w' ⟨φ', I', s', H', h1, h2, h3⟩
  cases j with
  | zero => simp [af0] at h3
  | succ j =>
  rcases bi2 h3 with ⟨s1, H1, h4, h5⟩ | ⟨h4, hne⟩
  ·refine wpIn_mono (ih x hx m hm nb j _ φ' I' s' H' a' w' h2 h4) fun e a'' w'' hp => ?_
   refine ba8 (next := fun s' H' => s' = s1 ∧ H' = H1) (Q := Qis r) (fun φ2 I2 s2 H2 a2 w2 g1 g2 g3 => ?_) (fun e a3 w3 _ hp => hp.trans h1) (hp.mono fun x s' H' hx => hx.then (fun _ => ⟨rfl, rfl⟩) fun h => absurd rfl h)
   obtain ⟨rfl, rfl⟩ := g3
   exact ⟨j, by omega, φ2, I2, _, _, h1.trans g1, g2, h5⟩
  ·refine wpIn_mono (ih x hx m hm nb j _ φ' I' s' H' a' w' h2 h4) fun e a'' w'' hp => ?_
   exact ba8 (next := fun _ _ => False) (Q := Qis r) (fun φ2 I2 s2 H2 a2 w2 g1 g2 g3 => g3.elim) (fun e a3 w3 _ hp => hp.trans h1) (hp.mono fun x s' H' hx => hx.then (fun h => absurd h hne) fun _ => rfl)
 | rangeFunc f ps asg c _ ih =>
  intro ec he m hm nb k r φ I s H a w hR h
  simp only [resC] at he
  split at he
  case h_2 => simp at he
  split at he
  case isFalse => simp at he
  simp only [Option.some.injEq] at he; subst he
  cases k <;> simp [af0] at h
 | exit id =>
  intro ec he m hm nb k r φ I s H a w hR h
  simp only [resC, Option.some.injEq] at he; subst he
  cases k with
  | zero => simp [af0] at h
  | succ k => exact wpIn_exit ⟨φ, I, s, H, .exit id, .refl .., hR, .exit id, (Option.some.inj h).symm⟩
 | ret =>
  intro ec he m hm nb k r φ I s H a w hR h
  simp only [resC, Option.some.injEq] at he; subst he
  cases k with
  | zero => simp [af0] at h
  | succ k => exact wpIn_ret ⟨φ, I, s, H, .ret, .refl .., hR, .ret, (Option.some.inj h).symm⟩
 | scope c ih =>
  intro ec he m hm nb k r φ I s H a w hR h
  simp only [resC] at he
  exact cc5 (ih ec he m hm nb k r φ I s H a w hR h) Post.noGoto
 | label l =>
  intro ec he m hm nb k r φ I s H a w hR h
  simp only [resC, Option.some.injEq] at he; subst he
  cases k with
  | zero => simp [af0] at h
  | succ k => exact wpIn_label ⟨φ, I, s, H, .normal, .refl .., hR, .normal, (Option.some.inj h).symm⟩
 | _ => intro ec he; simp [resC] at he
theorem cq8 {f : FuncId} {fn : Func} {c : Code} {rs : List ERes} {args : List EV} {R : ER → Heap → Prop} (hf : P.funcs[f]? = some fn) (hb : fn.body = some c)
  (hn : (fn.name == "runtime.NumGoroutine") = false) (hrs : fn.results.toList.mapM (bj5 P) = some rs) (ha : args.length ≤ fn.ntmps)
  (h : ∀ φ I a w, Rel γ fn.ntmps w.heap.size φ I (am4 args) H a w → c.wpIn (FR none) 3 P (Post γ fn.ntmps w.heap.size φ I H w (dx5 H.length rs R)) a w) : CallsA P γ f args H R := by
 refine ⟨⟨fn, c, hf, hb, hn⟩, fun φ I w vs hr hv => (callsIn_wide (n := 3)).1 (callsIn_of_wp_marks (F := FR none) hf hb trivial ?_)⟩
 have hvs : vs.size = args.length := by simpa using hv.1.symm
 have hR : Rel γ fn.ntmps w.heap.size φ I (am4 args) H { tmps := vs ++ Array.replicate (fn.ntmps - vs.size) Go.undef, defers := [] } w := by
  refine ⟨by simp; omega, fun t => ?_, hr, .none (Nat.le_refl _)⟩
  simp only [am4]
  by_cases ht : t < args.length
  ·have ht2 : t < vs.size := by omega
   have : (vs ++ Array.replicate (fn.ntmps - vs.size) Go.undef).getD t Go.undef = vs[t] := by simp [Array.getElem?_append, ht2]
   rw [this]
   have := hv.2 t args[t] vs[t] (by simp [ht]) (by simp [ht2])
   simpa [ht] using this
  ·have : args[t]? = none := by simp; omega
   rw [this]
   exact .undef _
 refine wpIn_mono (h φ I _ w hR) fun e a' w' hp => ?_
 obtain ⟨φ', I', s', H', x, h1, h2, h3, h4⟩ := hp
 obtain ⟨_, Ds, hds, hnd, hD⟩ := h2.defers
 replace hds : a'.defers = Ds.map mark := by rw [hds]; exact List.append_nil _
 have fin : ((∃ r r', ab0 s' H' rs = some r ∧ FZ H.length H' r r' ∧ (∀ (b : Nat) (x : EB), b < H.length → H'[b]? = some (some x) → x.ok H.length = true) ∧ R (.ret r') (H'.take H.length)) ∨ ∃ r, ab0 s' H' rs = some r ∧ R (.ret r) H') →
   LeavesInM (FR none) 3 P fn a'.tmps (fun e w' => ∃ φ' I' H' er, Evo φ I H w φ' I' H' w' ∧ RH γ φ' I' H' w' ∧ RE φ' H'.length I' w' er e ∧ R er H') a'.defers .returning w' := by
  intro hfin
  rw [hds]
  refine bc5 (by simp) Ds w' hnd (fun D hm => (hD D hm).2.1) fun w'' k1 k2 k3 k4 k5 => ?_
  obtain ⟨m1, m2, m3⟩ := shut h1 h2.heap (fun D hm => ⟨(hD D hm).1.1, (hD D hm).2⟩) k1 k2 k3 k4 k5
  have hR'' : Rel γ fn.ntmps 0 φ' I' s' H' { a' with defers := [] } w'' := ⟨h2.sz, fun t => m3 _ _ _ (h2.slots t), m2, .none (Nat.zero_le _)⟩
  rcases hfin with ⟨r, r', g1, g2, g3, g4⟩ | ⟨r, g1, g4⟩
  ·obtain ⟨val, n1, n2⟩ := aq8 hR'' hrs g1
   refine ⟨val, n1, φ', _, H'.take H.length, .ret r', m1.close, m2.close m1.len g3, ?_, g4⟩
   rw [List.length_take, Nat.min_eq_left h1.len]
   exact .ret r' val (g2.sound m2 n2)
  ·obtain ⟨val, n1, n2⟩ := aq8 hR'' hrs g1
   exact ⟨val, n1, φ', I', H', .ret r, m1, m2, .ret r val n2, g4⟩
 cases h3 with
 | normal => exact fin h4
 | ret => exact fin h4
 | exit id => exact h4.elim
 | panic x v hv =>
  show LeavesInM (FR none) 3 P fn a'.tmps _ a'.defers (.panicking [{ v, recovered := false }]) w'
  rw [hds]
  refine bc5 (by simp) Ds w' hnd (fun D hm => (hD D hm).2.1) fun w'' k1 k2 k3 k4 k5 => ?_
  obtain ⟨m1, m2, m3⟩ := shut h1 h2.heap (fun D hm => ⟨(hD D hm).1.1, (hD D hm).2⟩) k1 k2 k3 k4 k5
  rcases h4 with ⟨v', g2, g3, g4⟩ | g4
  ·refine ⟨φ', _, H'.take H.length, .pan v', m1.close, m2.close m1.len g3, ?_, g4⟩
   rw [List.length_take, Nat.min_eq_left h1.len]
   exact .pan v' v (g2.sound m2 (m3 _ _ _ hv))
  ·exact ⟨φ', I', H', .pan x, m1, m2, .pan x v (m3 _ _ _ hv), g4⟩
theorem dq0 {n : Nat} : ∀ {H H' : Heap}, okC n H H' = true → ∀ (b : Nat) (x : EB), b < H.length → H'[b]? = some (some x) → x.ok n = true ∨ H[b]? = some (some x)
 | [], _, _, b, x, hb, _ => by simp at hb
 | a :: H, [], _, b, x, _, hx => by simp at hx
 | a :: H, c :: H', h, 0, x, _, hx => by
  simp only [okC, okX, Bool.and_eq_true, Bool.or_eq_true] at h
  simp only [List.getElem?_cons_zero, Option.some.injEq] at hx
  subst hx
  rcases h.1 with h | h
  ·exact .inl h
  ·have : [some x] = [a] := cy3 (by simp [beqH, h])
   simp only [List.cons.injEq, and_true] at this
   exact .inr (by rw [← this]; rfl)
 | a :: H, c :: H', h, b + 1, x, hb, hx => by
  simp only [okC, Bool.and_eq_true] at h
  simp only [List.getElem?_cons_succ] at hx ⊢
  exact dq0 h.2 b x (by simpa using hb) hx
theorem bh4 {H H' : Heap} {v : EV} {K : EV → ER} {er : ER} {H1 : Heap} (hok : OkH H) (h : finV H v K H' = some (er, H1)) :
  (∃ v', FZ H.length H' v v' ∧ (∀ (b : Nat) (x : EB), b < H.length → H'[b]? = some (some x) → x.ok H.length = true) ∧ er = K v' ∧ H1 = H'.take H.length) ∨ (er = K v ∧ H1 = H') := by
 have all : (some (K v, H') : Res) = some (er, H1) → er = K v ∧ H1 = H' := fun h => by
  simp only [Option.some.injEq, Prod.mk.injEq] at h
  exact ⟨h.1.symm, h.2.symm⟩
 unfold finV at h
 split at h
 ·exact .inr (all h)
 split at h
 case h_2 => exact .inr (all h)
 rename_i r hr
 split at h
 case isFalse => exact .inr (all h)
 rename_i hc
 simp only [Option.some.injEq, Prod.mk.injEq] at h
 refine .inl ⟨r, (ee6 _ _ _ hr).1, fun b x hb hx => ?_, h.1.symm, h.2.symm⟩
 have hget : (H'.take H.length)[b]? = some (some x) := by rw [List.getElem?_take_of_lt hb]; exact hx
 rw [Bool.or_eq_true, Bool.or_eq_true] at hc
 rcases hc with (hc | hc) | hc
 ·rw [bw5 hc] at hget
  exact hok b x hget
 ·have := List.all_eq_true.1 hc _ (List.mem_of_getElem? hget)
  simpa using this
 ·rcases dq0 hc b x hb hx with h1 | h1
  ·exact h1
  ·exact hok b x h1
end
end Abs
