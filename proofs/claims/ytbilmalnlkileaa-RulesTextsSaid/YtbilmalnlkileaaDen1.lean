/- A run of resolved code over the abstract state, as a function; what it says of the program. -/
import Derived.Test.YtbilmalnlkileaaAbs14
import Derived.RecoverIn
namespace Abs
open Go
set_option linter.all false

def fnEq (f g : Fn) : Bool := decide (f = g)

mutual
def EV.beq : EV → EV → Bool
  | .undef, .undef => true
  | .bool a, .bool b => a == b
  | .int k a, .int k' b => decide (k = k') && a == b
  | .str a, .str b => a == b
  | .nilptr, .nilptr => true
  | .ptr b sz i j, .ptr b' sz' i' j' => b == b' && sz == sz' && i == i' && j == j'
  | .iptr c j, .iptr c' j' => beqL c c' && j == j'
  | .nilsl, .nilsl => true
  | .zsl, .zsl => true
  | .imm sz es, .imm sz' es' => sz == sz' && beqL es es'
  | .own b sz o l, .own b' sz' o' l' => b == b' && sz == sz' && o == o' && l == l'
  | .nilfn, .nilfn => true
  | .func f a b, .func f' a' b' => fnEq f f' && beqL a a' && beqL b b'
  | .nilif, .nilif => true
  | .iface t v, .iface t' v' => t == t' && EV.beq v v'
  | .nilmap, .nilmap => true
  | .map b, .map b' => b == b'
  | .agg cs, .agg cs' => beqL cs cs'
  | .tup cs, .tup cs' => beqL cs cs'
  | _, _ => false
def beqL : List EV → List EV → Bool
  | [], [] => true
  | x :: xs, y :: ys => EV.beq x y && beqL xs ys
  | _, _ => false
end

theorem fnEq_eq {f g : Fn} (h : fnEq f g = true) : f = g := of_decide_eq_true h

mutual
theorem EV.beq_eq : ∀ (a b : EV), EV.beq a b = true → a = b := by
  intro a b h
  cases a <;> cases b <;> simp only [EV.beq, Bool.and_eq_true, beq_iff_eq, decide_eq_true_eq, Bool.false_eq_true] at h <;> try rfl
  case bool.bool => rw [h]
  case int.int => rw [h.1, h.2]
  case str.str => rw [h]
  case ptr.ptr => rw [h.1.1.1, h.1.1.2, h.1.2, h.2]
  case iptr.iptr => rw [beqL_eq _ _ h.1, h.2]
  case imm.imm => rw [h.1, beqL_eq _ _ h.2]
  case own.own => rw [h.1.1.1, h.1.1.2, h.1.2, h.2]
  case func.func => rw [fnEq_eq h.1.1, beqL_eq _ _ h.1.2, beqL_eq _ _ h.2]
  case iface.iface => rw [h.1, EV.beq_eq _ _ h.2]
  case map.map => rw [h]
  case agg.agg => rw [beqL_eq _ _ h]
  case tup.tup => rw [beqL_eq _ _ h]
theorem beqL_eq : ∀ (a b : List EV), beqL a b = true → a = b := by
  intro a b h
  cases a with
  | nil => cases b with
    | nil => rfl
    | cons y ys => simp [beqL] at h
  | cons x xs => cases b with
    | nil => simp [beqL] at h
    | cons y ys =>
      simp only [beqL, Bool.and_eq_true] at h
      rw [EV.beq_eq x y h.1, beqL_eq xs ys h.2]
end

mutual
theorem EV.beq_refl : ∀ a : EV, EV.beq a a = true
  | .undef | .nilptr | .nilsl | .zsl | .nilfn | .nilif | .nilmap => by simp only [EV.beq]
  | .bool b => by simp only [EV.beq, beq_self_eq_true]
  | .int k n => by simp only [EV.beq, beq_self_eq_true, decide_true, Bool.and_self]
  | .str s => by simp only [EV.beq, beq_self_eq_true]
  | .ptr b sz i j => by simp only [EV.beq, beq_self_eq_true, Bool.and_self]
  | .iptr c j => by simp only [EV.beq, beq_self_eq_true, beqL_refl c, Bool.and_self]
  | .imm sz es => by simp only [EV.beq, beq_self_eq_true, beqL_refl es, Bool.and_self]
  | .own b sz o l => by simp only [EV.beq, beq_self_eq_true, Bool.and_self]
  | .func f a b => by simp only [EV.beq, fnEq, decide_true, beqL_refl a, beqL_refl b, Bool.and_self]
  | .iface t v => by simp only [EV.beq, beq_self_eq_true, EV.beq_refl v, Bool.and_self]
  | .map b => by simp only [EV.beq, beq_self_eq_true]
  | .agg cs => by simp only [EV.beq, beqL_refl cs]
  | .tup cs => by simp only [EV.beq, beqL_refl cs]
theorem beqL_refl : ∀ l : List EV, beqL l l = true
  | [] => by simp only [beqL]
  | x :: xs => by simp only [beqL, EV.beq_refl x, beqL_refl xs, Bool.and_self]
end

def beqM : List (EV × EV) → List (EV × EV) → Bool
  | [], [] => true
  | x :: xs, y :: ys => EV.beq x.1 y.1 && EV.beq x.2 y.2 && beqM xs ys
  | _, _ => false
theorem beqM_eq : ∀ (a b : List (EV × EV)), beqM a b = true → a = b
  | [], [], _ => rfl
  | x :: xs, y :: ys, h => by
    simp only [beqM, Bool.and_eq_true] at h
    have h1 := EV.beq_eq _ _ h.1.1
    have h2 := EV.beq_eq _ _ h.1.2
    rw [beqM_eq xs ys h.2]
    cases x; cases y
    simp only at h1 h2
    rw [h1, h2]
  | [], _ :: _, h => by simp [beqM] at h
  | _ :: _, [], h => by simp [beqM] at h

def beqB : Option EB → Option EB → Bool
  | none, none => true
  | some (.row a b), some (.row a' b') => a == a' && beqL b b'
  | some (.map a), some (.map a') => beqM a a'
  | some (.it a b), some (.it a' b') => a == a' && b == b'
  | _, _ => false
theorem beqB_eq {a b : Option EB} (h : beqB a b = true) : a = b := by
  cases a with
  | none => cases b with
    | none => rfl
    | some y => simp [beqB] at h
  | some x => cases b with
    | none => simp [beqB] at h
    | some y =>
      cases x <;> cases y <;> simp only [beqB, Bool.and_eq_true, beq_iff_eq, Bool.false_eq_true] at h
      · rw [h.1, beqL_eq _ _ h.2]
      · rw [beqM_eq _ _ h]
      · rw [h.1, h.2]
def beqH : Heap → Heap → Bool
  | [], [] => true
  | x :: xs, y :: ys => beqB x y && beqH xs ys
  | _, _ => false
theorem beqH_eq : ∀ {a b : Heap}, beqH a b = true → a = b
  | [], [], _ => rfl
  | x :: xs, y :: ys, h => by
    simp only [beqH, Bool.and_eq_true] at h
    rw [beqB_eq h.1, beqH_eq h.2]
  | [], _ :: _, h => by simp [beqH] at h
  | _ :: _, [], h => by simp [beqH] at h

/-- Is the heap as it was? (Said, not reckoned: see sameH_self.) -/
def sameH (H' H : Heap) : Bool := H'.length == H.length && beqH H' H
theorem sameH_self (H : Heap) : sameH H H = true := by
  have hM : ∀ l : List (EV × EV), beqM l l = true := fun l => by
    induction l with
    | nil => rfl
    | cons x l ih => simp only [beqM, EV.beq_refl, ih, Bool.and_self]
  have hB : ∀ x : Option EB, beqB x x = true := fun x => by
    cases x with
    | none => rfl
    | some y => cases y <;> simp [beqB, beqL_refl, hM]
  have hH : ∀ H : Heap, beqH H H = true := fun H => by
    induction H with
    | nil => rfl
    | cons x H ih => simp only [beqH, hB, ih, Bool.and_self]
  unfold sameH
  rw [beq_self_eq_true, Bool.true_and, hH]
theorem sameH_eq {H' H : Heap} (h : sameH H' H = true) : H' = H := by
  unfold sameH at h
  rw [Bool.and_eq_true] at h
  exact beqH_eq h.2

/-! ### What is handed back -/
def mapO {α β : Type} (f : α → Option β) : List α → Option (List β)
  | [] => some []
  | x :: xs =>
    match f x, mapO f xs with
    | some y, some ys => some (y :: ys)
    | _, _ => none

theorem mapO_get {α β : Type} {f : α → Option β} : ∀ {l : List α} {l' : List β}, mapO f l = some l' → l.length = l'.length ∧ ∀ (k : Nat) (x : α) (y : β), l[k]? = some x → l'[k]? = some y → f x = some y
  | [], l', h => by simp only [mapO, Option.some.injEq] at h; subst h; simp
  | x :: xs, l', h => by
    simp only [mapO] at h
    split at h
    · rename_i y ys h1 h2
      simp only [Option.some.injEq] at h; subst h
      obtain ⟨g1, g2⟩ := mapO_get h2
      refine ⟨by simp [g1], fun k a b ha hb => ?_⟩
      cases k with
      | zero => simp only [List.getElem?_cons_zero, Option.some.injEq] at ha hb; subst ha hb; exact h1
      | succ k => exact g2 k a b (by simpa using ha) (by simpa using hb)
    · simp at h

theorem mapO_same {α : Type} {f : α → Option α} : ∀ {l : List α}, (∀ x ∈ l, f x = some x) → mapO f l = some l
  | [], _ => rfl
  | x :: xs, h => by simp only [mapO, h x (by simp), mapO_same (l := xs) fun y hy => h y (by simp [hy])]

def fz (L : Nat) (H : Heap) : Nat → EV → Option EV
  | 0, v => if v.ok L then some v else none
  | n + 1, v =>
    if v.ok L then some v else
    match v with
    | .own b sz off len =>
      if L ≤ b then
        match H[b]? with
        | some (some (.row sz' es)) => if sz = sz' ∧ off + len ≤ es.length then (mapO (fz L H n) ((es.drop off).take len)).map (.imm sz) else none
        | _ => none
      else none
    | .agg cs => (mapO (fz L H n) cs).map .agg
    | .tup cs => (mapO (fz L H n) cs).map .tup
    | .iface t x => (fz L H n x).map (.iface t)
    | .ptr b sz i j =>
      if L ≤ b then
        match H[b]? with
        | some (some (.row sz' es)) =>
          if sz = sz' then
            match es[i]? with
            | some e => (mapO (fz L H n) e.cells).map fun cs => .iptr cs j
            | none => none
          else none
        | _ => none
      else none
    | .func f [] cs => (mapO (fz L H n) cs).map (.func f [])
    | _ => none

/-- Frozen, cell by cell. -/
def FZc (L : Nat) (H : Heap) (v v' : EV) : Prop :=
  FZ L H v v' ∧ v.cells.length = v'.cells.length ∧ ∀ (j : Nat) (x x' : EV), v.cells[j]? = some x → v'.cells[j]? = some x' → FZ L H x x'

theorem FZc.one {L : Nat} {H : Heap} {v v' : EV} (h : FZ L H v v') (h1 : v.cells = [v]) (h2 : v'.cells = [v']) : FZc L H v v' := by
  refine ⟨h, by rw [h1, h2]; rfl, fun j x x' hx hx' => ?_⟩
  rw [h1] at hx
  rw [h2] at hx'
  cases j with
  | zero => simp only [List.getElem?_cons_zero, Option.some.injEq] at hx hx'; subst hx hx'; exact h
  | succ j => simp at hx

theorem FZc.same {L : Nat} {H : Heap} {v : EV} (h : v.ok L = true) : FZc L H v v := by
  refine ⟨.same v h, rfl, fun j x x' hx hx' => ?_⟩
  rw [hx] at hx'
  obtain rfl := Option.some.inj hx'
  exact .same x (ok_cells h x (List.mem_of_getElem? hx))

theorem fz_sound {L : Nat} {H : Heap} : ∀ (n : Nat) (v v' : EV), fz L H n v = some v' → FZc L H v v' := by
  intro n
  induction n with
  | zero =>
    intro v v' h
    simp only [fz] at h
    split at h
    · rename_i ho
      obtain rfl := Option.some.inj h
      exact .same ho
    · simp at h
  | succ n ih =>
    intro v v' h
    unfold fz at h
    split at h
    · rename_i ho
      obtain rfl := Option.some.inj h
      exact .same ho
    · split at h
      · split at h
        case isFalse => simp at h
        rename_i b sz off len _ hb
        split at h
        case h_2 => simp at h
        rename_i sz' es hH
        split at h
        case isFalse => simp at h
        rename_i hc
        obtain ⟨rfl, hlen⟩ := hc
        simp only [Option.map_eq_some_iff] at h
        obtain ⟨l, hl, rfl⟩ := h
        obtain ⟨g1, g2⟩ := mapO_get hl
        have key : ∀ (k : Nat) (e e' : EV), es[off + k]? = some e → l[k]? = some e' → FZc L H e e' := fun k e e' h1 h2 => by
          have hk := get_lt h2
          rw [← g1, List.length_take, List.length_drop] at hk
          exact ih _ _ (g2 k e e' (by rw [List.getElem?_take_of_lt (by omega), List.getElem?_drop]; exact h1) h2)
        refine .one (.own b sz off len es l hb hH hlen (by rw [← g1]; simp; omega) (fun k e e' h1 h2 => (key k e e' h1 h2).2.1) fun k j e e' x x' h1 h2 h3 h4 => (key k e e' h1 h2).2.2 j x x' h3 h4) rfl rfl
      · simp only [Option.map_eq_some_iff] at h
        obtain ⟨l, hl, rfl⟩ := h
        obtain ⟨g1, g2⟩ := mapO_get hl
        exact ⟨.agg _ _ g1 fun k x x' h1 h2 => (ih _ _ (g2 k x x' h1 h2)).1, g1, fun j x x' h1 h2 => (ih _ _ (g2 j x x' h1 h2)).1⟩
      · simp only [Option.map_eq_some_iff] at h
        obtain ⟨l, hl, rfl⟩ := h
        obtain ⟨g1, g2⟩ := mapO_get hl
        exact .one (.tup _ _ g1 fun k x x' h1 h2 => (ih _ _ (g2 k x x' h1 h2)).1) rfl rfl
      · simp only [Option.map_eq_some_iff] at h
        obtain ⟨x', hx, rfl⟩ := h
        exact .one (.iface _ _ _ (ih _ _ hx).1) rfl rfl
      · split at h
        case isFalse => simp at h
        rename_i b sz i j _ hb
        split at h
        case h_2 => simp at h
        rename_i sz' es hH
        split at h
        case isFalse => simp at h
        rename_i hs
        subst hs
        split at h
        case h_2 => simp at h
        rename_i e he
        simp only [Option.map_eq_some_iff] at h
        obtain ⟨l, hl, rfl⟩ := h
        obtain ⟨g1, g2⟩ := mapO_get hl
        exact .one (.ptr b sz i j es e l hb hH he g1 fun k x x' h1 h2 => (ih _ _ (g2 k x x' h1 h2)).1) rfl rfl
      · simp only [Option.map_eq_some_iff] at h
        obtain ⟨l, hl, rfl⟩ := h
        obtain ⟨g1, g2⟩ := mapO_get hl
        exact .one (.func _ _ _ g1 fun k x x' h1 h2 => (ih _ _ (g2 k x x' h1 h2)).1) rfl rfl
      · simp at h

theorem fz_ok {L : Nat} {H : Heap} {n : Nat} {v : EV} (h : v.ok L = true) : fz L H n v = some v := by
  cases n <;> (unfold fz; rw [if_pos h])

theorem fz_own {L : Nat} {H : Heap} {n b sz off len : Nat} {es : List EV} (hb : L ≤ b) (hH : H[b]? = some (some (.row sz es))) (hl : off + len ≤ es.length) (ho : okL L es = true) :
    fz L H (n + 1) (.own b sz off len) = some (.imm sz ((es.drop off).take len)) := by
  have h1 : (EV.own b sz off len).ok L = false := by simp [EV.ok]; exact hb
  unfold fz
  rw [if_neg (by rw [h1]; simp)]
  simp only [hH, if_pos hb]
  rw [if_pos ⟨trivial, hl⟩, mapO_same fun x hx => fz_ok (okL_iff.1 ho x (List.mem_of_mem_drop (List.mem_of_mem_take hx)))]
  rfl

/-! ### The run -/
structure FnD where
  ec : EC
  rs : List ERes
  nt : Nat

abbrev Res := Option (ER × Heap)
abbrev Xsh := AX × Slots × Heap

/-- A body that defers a call behind some code. -/
inductive EF where
  | code (ec : EC)
  | pre (a : EC) (f : EF)
  | dfr (l : List EOper) (f : EOpd) (args : List EOpd) (c : EC)

structure FnE where
  ef : EF
  rs : List ERes
  nt : Nat

/-- A function that is deferred: 'd1 := recover()' through d0, then code. -/
structure FnDf where
  d0 : Nat
  d1 : Nat
  ec : EC
  nt : Nat

/-- A program as it is run: its functions; those that defer; those that are deferred; what package-level variables lead to; what is known of functions. -/
structure Env where
  T : FuncId → Option FnD
  F : FuncId → Option FnE
  D : FuncId → Option FnDf
  γ : Nat → EV
  Ψ : FuncId → List EV → Option EV

def opF (call : FuncId → List EV → Heap → Res) (ρ : EOpd → EV) (H : Heap) (op : EOp) : Res :=
  match op with
  | .call f args =>
    match ρ f with
    | .func (.func g) first cap => call g (first ++ args.map ρ ++ cap) H
    | _ => none
  | .panic x =>
    match ρ x with
    | .iface t v => some (.pan (.iface t v), H)
    | _ => none
  | op =>
    match evOp ρ H op with
    | some (v, H') => some (.ret v, H')
    | none => none

/-- Behind an operation. -/
def stepO (r : Res) (s : Slots) (K : EV → Heap → Option Xsh) : Option Xsh :=
  match r with
  | some (.ret v, H) => K v H
  | some (.pan v, H) => some (.panic v, s, H)
  | none => none

def stepD (chg : Bool) (H : Heap) (r : Res) (K : EV → Heap → Option Xsh) : Option Xsh :=
  match r with
  | some (.ret v, H') => if chg || sameH H' H then K v H' else none
  | _ => none

def gateO (v : EV) (t : Bool) (a b : Option Xsh) : Option Xsh :=
  match v with
  | .bool t' => if t' = t then a else b
  | .tup [] => b
  | _ => none

def opsF (call : FuncId → List EV → Heap → Res) (γ : Nat → EV) : List EOper → Slots → Heap → Option Xsh
  | [], s, H => some (.normal, s, H)
  | o :: rest, s, H =>
    match o.guard with
    | none => stepO (opF call (ev γ s) H o.op) s fun v H' => opsF call γ rest (putA s o.dst v) H'
    | some (d, b) => gateO (s d) b (stepO (opF call (ev γ s) H o.op) s fun v H' => opsF call γ rest (putA s o.dst v) H') (opsF call γ rest (putA s o.dst (.tup [])) H)

def drF (call : FuncId → List EV → Heap → Res) (γ : Nat → EV) : List (EOper × Bool) → Slots → Heap → Option Xsh
  | [], s, H => some (.normal, s, H)
  | (o, chg) :: rest, s, H =>
    match o.guard with
    | none => stepD chg H (opF call (ev γ s) H o.op) fun v H' => drF call γ rest (putA s o.dst v) H'
    | some (d, b) => gateO (s d) b (stepD chg H (opF call (ev γ s) H o.op) fun v H' => drF call γ rest (putA s o.dst v) H') (drF call γ rest (putA s o.dst (.tup [])) H)

def loadAgain (s : Slots) (H : Heap) (u : RC) : Bool :=
  match evLoad u.ag u.n (s u.x) H with
  | some v => EV.beq v (s u.d)
  | none => false

def isCallOp : EOp → Bool
  | .call _ _ => true
  | _ => false

def retSame (H : Heap) (r : Res) (K : EV → Bool) : Bool :=
  match r with
  | some (.ret v, H') => sameH H' H && K v
  | _ => false

def gateB (v : EV) (t : Bool) (a b : Bool) : Bool :=
  match v with
  | .bool t' => if t' = t then a else b
  | .tup [] => b
  | _ => false

def aloneF (call : FuncId → List EV → Heap → Res) (γ : Nat → EV) : List GO → List Bool → Slots → Heap → Bool
  | [], _, _, _ => true
  | g :: r, bs, s, H =>
    if bs.headD true = true then aloneF call γ r bs.tail s H
    else !g.chg &&
      match g.o.guard with
      | none => retSame H (opF call (ev γ s) H g.o.op) fun v => aloneF call γ r bs.tail (putA s g.o.dst v) H
      | some (d, b) => gateB (s d) b (retSame H (opF call (ev γ s) H g.o.op) fun v => aloneF call γ r bs.tail (putA s g.o.dst v) H) (aloneF call γ r bs.tail (putA s g.o.dst (.tup [])) H)

def stepG' (g : GO) (H : Heap) (r : Res) (K : EV → Heap → Option Xsh) (p : EV → Heap → Option Xsh) : Option Xsh :=
  match r with
  | some (.ret v, H') => if g.chg || sameH H' H then K v H' else none
  | some (.pan v, H') => p v H'
  | none => none

def drG (call : FuncId → List EV → Heap → Res) (γ : Nat → EV) (ds : List Nat) : List GO → Slots → Heap → Option Xsh
  | [], s, H => some (.normal, s, H)
  | g :: r, s, H =>
    match g.o.guard with
    | none => stepG' g H (opF call (ev γ s) H g.o.op) (fun v H' => if g.us.all (loadAgain (putA s g.o.dst v) H') then drG call γ ds r (putA s g.o.dst v) H' else none)
        fun v H' => if g.chg && isCallOp g.o.op && aloneF call γ r g.beh s H then some (.panic v, forget ds s, H') else none
    | some (d, b) => gateO (s d) b (stepG' g H (opF call (ev γ s) H g.o.op) (fun v H' => if g.us.all (loadAgain (putA s g.o.dst v) H') then drG call γ ds r (putA s g.o.dst v) H' else none) fun _ _ => none)
        (if g.us.all (loadAgain (putA s g.o.dst (.tup [])) H) then drG call γ ds r (putA s g.o.dst (.tup [])) H else none)

def bindN (x : Option Xsh) (K : Slots → Heap → Option Xsh) : Option Xsh :=
  match x with
  | some (.normal, s, H) => K s H
  | x => x

def blockX (id : Nat) (x : Option Xsh) : Option Xsh :=
  match x with
  | some (.exit id', s, H) => if id' = id then some (.normal, s, H) else some (.exit id', s, H)
  | x => x

def condA (c : EV) (a b : Option Xsh) : Option Xsh :=
  match c with
  | .bool t => if t = true then a else b
  | _ => none

def codeF (call : FuncId → List EV → Heap → Res) (γ : Nat → EV) : Nat → EC → Slots → Heap → Option Xsh
  | 0, _, _, _ => none
  | n + 1, c, s, H =>
    match c with
    | .skip => some (.normal, s, H)
    | .ops l => opsF call γ l s H
    | .draw l => drF call γ l s H
    | .drawS l us =>
      match dsF γ l s H with
      | some (s', H', fs) => if apart fs us then some (.normal, s', H') else none
      | none => none
    | .drawG gs ds => drG call γ ds gs s H
    | .seq a b => bindN (codeF call γ n a s H) fun s' H' => codeF call γ n b s' H'
    | .cond c a b => condA (ev γ s c) (codeF call γ n a s H) (codeF call γ n b s H)
    | .block id c => blockX id (codeF call γ n c s H)
    | .loop c => bindN (codeF call γ n c s H) fun s' H' => codeF call γ n (.loop c) s' H'
    | .rangeFunc _ _ _ _ => none
    | .exit id => some (.exit id, s, H)
    | .ret => some (.ret, s, H)

def okB (n : Nat) (H : Heap) : Bool := (H.take n).all fun x => match x with | some y => y.ok n | none => true

/-- A pointer to a block that is new. -/
def newP (L : Nat) : EV → Bool
  | .ptr b _ _ _ => decide (L ≤ b)
  | _ => false

/-- What is handed back: frozen, and what was made is let go of, if that can be; else all stays as it is. -/
def finV (H : Heap) (rv : EV) (K : EV → ER) (H' : Heap) : Res :=
  if newP H.length rv then some (K rv, H')
  else
    match fz H.length H' 8 rv with
    | some r => if sameH (H'.take H.length) H || okB H.length H' then some (K r, H'.take H.length) else some (K rv, H')
    | none => some (K rv, H')

/-- What a body comes to. -/
def finF (H : Heap) (rs : List ERes) (x : Option Xsh) : Res :=
  match x with
  | some (.normal, s, H') | some (.ret, s, H') =>
    match evResults s H' rs with
    | some r => finV H r .ret H'
    | none => none
  | some (.panic v, _, H') => finV H v .pan H'
  | _ => none

/-- A deferred call, with the value of the panic on its way, if there is one. -/
def dcF (call : FuncId → List EV → Heap → Res) (γ : Nat → EV) (D : FuncId → Option FnDf) (n : Nat) (g : FuncId) (as : List EV) (H : Heap) (pv : Option EV) : Option Heap :=
  match D g with
  | some d =>
    if as.length ≤ d.nt then
      match finF H [] (codeF call γ n d.ec (upd (upd (slots0 as) d.d0 (pv.getD .nilif)) d.d1 (pv.getD .nilif)) H) with
      | some (.ret _, H') => some H'
      | _ => none
    else none
  | none => none

def efF (call : FuncId → List EV → Heap → Res) (γ : Nat → EV) (n : Nat) : EF → Slots → Heap → Option (Xsh × Option (FuncId × List EV))
  | .code ec, s, H => (codeF call γ n ec s H).map fun x => (x, none)
  | .pre a f, s, H =>
    match codeF call γ n a s H with
    | some (.normal, s1, H1) => efF call γ n f s1 H1
    | some x => some (x, none)
    | none => none
  | .dfr l f args c, s, H =>
    match opsF call γ l s H with
    | some (.normal, s1, H1) =>
      match ev γ s1 f with
      | .func (.func g) first cap => (codeF call γ n c s1 H1).map fun x => (x, some (g, first ++ args.map (ev γ s1) ++ cap))
      | _ => none
    | some x => some (x, none)
    | none => none

def finR' (H : Heap) (rs : List ERes) (s : Slots) (H' : Heap) : Res :=
  match evResults s H' rs with
  | some r => finV H r .ret H'
  | none => none

def finE (call : FuncId → List EV → Heap → Res) (γ : Nat → EV) (D : FuncId → Option FnDf) (n : Nat) (H : Heap) (rs : List ERes) (x : Option (Xsh × Option (FuncId × List EV))) : Res :=
  match x with
  | some (x, none) => finF H rs (some x)
  | some ((.normal, s, H'), some (g, as)) | some ((.ret, s, H'), some (g, as)) =>
    match dcF call γ D n g as H' none with
    | some H2 => finR' H rs s H2
    | none => none
  | some ((.panic v, s, H'), some (g, as)) =>
    match dcF call γ D n g as H' (some v) with
    | some H2 => finR' H rs s H2
    | none => none
  | _ => none

def runF (E : Env) : Nat → FuncId → List EV → Heap → Res
  | 0, _, _, _ => none
  | n + 1, f, args, H =>
    match E.Ψ f args with
    | some v => some (.ret v, H)
    | none =>
      match E.T f with
      | some d => if args.length ≤ d.nt then finF H d.rs (codeF (runF E n) E.γ n d.ec (slots0 args) H) else none
      | none =>
        match E.F f with
        | some d => if args.length ≤ d.nt then finE (runF E n) E.γ E.D n H d.rs (efF (runF E n) E.γ n d.ef (slots0 args) H) else none
        | none => none

/-! ### More steps do no harm -/
theorem opF_mono {call call' : FuncId → List EV → Heap → Res} (hc : ∀ g as H r, call g as H = some r → call' g as H = some r) {ρ : EOpd → EV} {H : Heap} {op : EOp} {r : ER × Heap} (h : opF call ρ H op = some r) : opF call' ρ H op = some r := by
  cases op with
  | call f args =>
    simp only [opF] at h ⊢
    split at h
    · rename_i hf; exact hc _ _ _ _ h
    · simp at h
  | _ => exact h

theorem stepO_mono {r r' : Res} {s : Slots} {K K' : EV → Heap → Option Xsh} {x : Xsh} (hr : ∀ q, r = some q → r' = some q) (hk : ∀ v H y, K v H = some y → K' v H = some y) (h : stepO r s K = some x) : stepO r' s K' = some x := by
  unfold stepO at h
  split at h
  · rw [hr _ rfl]; exact hk _ _ _ h
  · rw [hr _ rfl]; exact h
  · simp at h

theorem stepD_mono {r r' : Res} {chg : Bool} {H : Heap} {K K' : EV → Heap → Option Xsh} {x : Xsh} (hr : ∀ q, r = some q → r' = some q) (hk : ∀ v H y, K v H = some y → K' v H = some y) (h : stepD chg H r K = some x) : stepD chg H r' K' = some x := by
  unfold stepD at h
  split at h
  · rw [hr _ rfl]
    simp only [stepD]
    split at h
    · rename_i hs; rw [if_pos hs]; exact hk _ _ _ h
    · simp at h
  · simp at h

theorem gateO_mono {v : EV} {t : Bool} {a a' b b' : Option Xsh} {x : Xsh} (ha : ∀ y, a = some y → a' = some y) (hb : ∀ y, b = some y → b' = some y) (h : gateO v t a b = some x) : gateO v t a' b' = some x := by
  unfold gateO at h
  split at h
  · simp only [gateO]
    split at h
    · rename_i e; rw [if_pos e]; exact ha _ h
    · rename_i e; rw [if_neg e]; exact hb _ h
  · simp only [gateO]; exact hb _ h
  · simp at h

theorem opsF_mono {call call' : FuncId → List EV → Heap → Res} (hc : ∀ g as H r, call g as H = some r → call' g as H = some r) {γ : Nat → EV} : ∀ (l : List EOper) (s : Slots) (H : Heap) (r : Xsh), opsF call γ l s H = some r → opsF call' γ l s H = some r
  | [], s, H, r, h => h
  | o :: rest, s, H, r, h => by
    unfold opsF at h ⊢
    have ih := opsF_mono hc (γ := γ) rest
    split at h
    · exact stepO_mono (fun q hq => opF_mono hc hq) (fun v H' y hy => ih _ _ _ hy) h
    · exact gateO_mono (fun y hy => stepO_mono (fun q hq => opF_mono hc hq) (fun v H' y hy => ih _ _ _ hy) hy) (fun y hy => ih _ _ _ hy) h

theorem drF_mono {call call' : FuncId → List EV → Heap → Res} (hc : ∀ g as H r, call g as H = some r → call' g as H = some r) {γ : Nat → EV} : ∀ (l : List (EOper × Bool)) (s : Slots) (H : Heap) (r : Xsh), drF call γ l s H = some r → drF call' γ l s H = some r
  | [], s, H, r, h => h
  | (o, chg) :: rest, s, H, r, h => by
    unfold drF at h ⊢
    have ih := drF_mono hc (γ := γ) rest
    split at h
    · exact stepD_mono (fun q hq => opF_mono hc hq) (fun v H' y hy => ih _ _ _ hy) h
    · exact gateO_mono (fun y hy => stepD_mono (fun q hq => opF_mono hc hq) (fun v H' y hy => ih _ _ _ hy) hy) (fun y hy => ih _ _ _ hy) h

theorem bindN_mono {x x' : Option Xsh} {K K' : Slots → Heap → Option Xsh} {y : Xsh} (hx : ∀ q, x = some q → x' = some q) (hk : ∀ s H q, K s H = some q → K' s H = some q) (h : bindN x K = some y) : bindN x' K' = some y := by
  cases x with
  | none => simp [bindN] at h
  | some q =>
    rw [hx _ rfl]
    obtain ⟨e, s, H⟩ := q
    cases e with
    | normal => exact hk _ _ _ h
    | _ => exact h

theorem blockX_mono {id : Nat} {x x' : Option Xsh} {y : Xsh} (hx : ∀ q, x = some q → x' = some q) (h : blockX id x = some y) : blockX id x' = some y := by
  cases x with
  | none => simp [blockX] at h
  | some q => rw [hx _ rfl]; exact h

theorem condA_mono {c : EV} {a a' b b' : Option Xsh} {x : Xsh} (ha : ∀ y, a = some y → a' = some y) (hb : ∀ y, b = some y → b' = some y) (h : condA c a b = some x) : condA c a' b' = some x := by
  unfold condA at h
  split at h
  · simp only [condA]
    split at h
    · rename_i e; rw [if_pos e]; exact ha _ h
    · rename_i e; rw [if_neg e]; exact hb _ h
  · simp at h

theorem aloneF_mono {call call' : FuncId → List EV → Heap → Res} (hc : ∀ g as H r, call g as H = some r → call' g as H = some r) {γ : Nat → EV} : ∀ (l : List GO) (bs : List Bool) (s : Slots) (H : Heap), aloneF call γ l bs s H = true → aloneF call' γ l bs s H = true
  | [], _, _, _, h => h
  | g :: r, bs, s, H, h => by
    have ih := aloneF_mono hc (γ := γ) r
    have rs : ∀ {K K' : EV → Bool}, (∀ v, K v = true → K' v = true) → retSame H (opF call (ev γ s) H g.o.op) K = true → retSame H (opF call' (ev γ s) H g.o.op) K' = true := fun hk h => by
      unfold retSame at h ⊢
      split at h
      · rename_i v H' hr
        rw [opF_mono hc hr]
        simp only [Bool.and_eq_true] at h ⊢
        exact ⟨h.1, hk _ h.2⟩
      · simp at h
    unfold aloneF at h ⊢
    split
    · rename_i hb; rw [if_pos hb] at h; exact ih _ _ _ h
    · rename_i hb
      rw [if_neg hb] at h
      simp only [Bool.and_eq_true] at h ⊢
      refine ⟨h.1, ?_⟩
      have h := h.2
      cases hg : g.o.guard with
      | none => rw [hg] at h; exact rs (fun v hv => ih _ _ _ hv) h
      | some p =>
        obtain ⟨d, b⟩ := p
        rw [hg] at h
        simp only at h ⊢
        unfold gateB at h ⊢
        split at h
        · split at h
          · rename_i e; simp only [if_pos e]; exact rs (fun v hv => ih _ _ _ hv) h
          · rename_i e; simp only [if_neg e]; exact ih _ _ _ h
        · exact ih _ _ _ h
        · simp at h

theorem drG_mono {call call' : FuncId → List EV → Heap → Res} (hc : ∀ g as H r, call g as H = some r → call' g as H = some r) {γ : Nat → EV} {ds : List Nat} : ∀ (l : List GO) (s : Slots) (H : Heap) (r : Xsh), drG call γ ds l s H = some r → drG call' γ ds l s H = some r
  | [], s, H, r, h => h
  | g :: l, s, H, r, h => by
    have ih := drG_mono hc (γ := γ) (ds := ds) l
    have st : ∀ {K K' p p' : EV → Heap → Option Xsh}, (∀ v H y, K v H = some y → K' v H = some y) → (∀ v H y, p v H = some y → p' v H = some y) → ∀ {y}, stepG' g H (opF call (ev γ s) H g.o.op) K p = some y → stepG' g H (opF call' (ev γ s) H g.o.op) K' p' = some y := fun hk hp y h => by
      unfold stepG' at h
      split at h
      · rename_i v H' hr
        rw [opF_mono hc hr]
        simp only [stepG']
        split at h
        · rename_i e; rw [if_pos e]; exact hk _ _ _ h
        · simp at h
      · rename_i v H' hr
        rw [opF_mono hc hr]
        exact hp _ _ _ h
      · simp at h
    have kk : ∀ v H' y, (if g.us.all (loadAgain (putA s g.o.dst v) H') then drG call γ ds l (putA s g.o.dst v) H' else none) = some y → (if g.us.all (loadAgain (putA s g.o.dst v) H') then drG call' γ ds l (putA s g.o.dst v) H' else none) = some y := fun v H' y h => by
      split at h
      · rename_i e; rw [if_pos e]; exact ih _ _ _ h
      · simp at h
    unfold drG at h ⊢
    split at h
    · refine st kk (fun v H' y h => ?_) h
      split at h
      · rename_i e
        simp only [Bool.and_eq_true] at e
        rw [if_pos (by simp only [Bool.and_eq_true]; exact ⟨e.1, aloneF_mono hc _ _ _ _ e.2⟩)]
        exact h
      · simp at h
    · exact gateO_mono (fun y hy => st kk (fun v H' y h => by simp at h) hy) (fun y hy => kk _ _ _ hy) h

theorem codeF_mono {call call' : FuncId → List EV → Heap → Res} (hc : ∀ g as H r, call g as H = some r → call' g as H = some r) {γ : Nat → EV} : ∀ (n m : Nat), n ≤ m → ∀ (c : EC) (s : Slots) (H : Heap) (r : Xsh), codeF call γ n c s H = some r → codeF call' γ m c s H = some r
  | 0, _, _, c, s, H, r, h => by simp [codeF] at h
  | n + 1, 0, hm, _, _, _, _, _ => by omega
  | n + 1, m + 1, hm, c, s, H, r, h => by
    have ih := codeF_mono hc (γ := γ) n m (by omega)
    cases c with
    | skip => exact h
    | ops l => exact opsF_mono hc _ _ _ _ h
    | draw l => exact drF_mono hc _ _ _ _ h
    | drawS l us => exact h
    | drawG gs ds => exact drG_mono hc _ _ _ _ h
    | seq a b => exact bindN_mono (fun q hq => ih _ _ _ _ hq) (fun s H q hq => ih _ _ _ _ hq) h
    | cond c a b => exact condA_mono (fun q hq => ih _ _ _ _ hq) (fun q hq => ih _ _ _ _ hq) h
    | block id c => exact blockX_mono (fun q hq => ih _ _ _ _ hq) h
    | loop c => exact bindN_mono (fun q hq => ih _ _ _ _ hq) (fun s H q hq => ih _ _ _ _ hq) h
    | rangeFunc f p d c => simp [codeF] at h
    | exit id => exact h
    | ret => exact h

theorem finF_mono {H : Heap} {rs : List ERes} {x x' : Option Xsh} {r : ER × Heap} (hx : ∀ q, x = some q → x' = some q) (h : finF H rs x = some r) : finF H rs x' = some r := by
  cases x with
  | none => simp [finF] at h
  | some q => rw [hx _ rfl]; exact h

theorem dcF_mono {call call' : FuncId → List EV → Heap → Res} (hc : ∀ g as H r, call g as H = some r → call' g as H = some r) {γ : Nat → EV} {D : FuncId → Option FnDf} {n m : Nat} (h : n ≤ m) {g : FuncId} {as : List EV} {H H' : Heap} {pv : Option EV}
    (hd : dcF call γ D n g as H pv = some H') : dcF call' γ D m g as H pv = some H' := by
  unfold dcF at hd ⊢
  split at hd
  · split at hd
    · rename_i hl
      rw [if_pos hl]
      split at hd
      · rename_i hf
        rw [finF_mono (fun q hq => codeF_mono hc n m h _ _ _ _ hq) hf]
        exact hd
      · simp at hd
    · simp at hd
  · simp at hd

theorem efF_mono {call call' : FuncId → List EV → Heap → Res} (hc : ∀ g as H r, call g as H = some r → call' g as H = some r) {γ : Nat → EV} {n m : Nat} (h : n ≤ m) : ∀ (f : EF) (s : Slots) (H : Heap) (r : Xsh × Option (FuncId × List EV)),
    efF call γ n f s H = some r → efF call' γ m f s H = some r
  | .code ec, s, H, r, hr => by
    simp only [efF, Option.map_eq_some_iff] at hr ⊢
    obtain ⟨x, hx, rfl⟩ := hr
    exact ⟨x, codeF_mono hc n m h _ _ _ _ hx, rfl⟩
  | .pre a f, s, H, r, hr => by
    have ih := efF_mono hc (γ := γ) h f
    simp only [efF] at hr ⊢
    cases hx : codeF call γ n a s H with
    | none => rw [hx] at hr; simp at hr
    | some x =>
      rw [codeF_mono hc n m h _ _ _ _ hx]
      rw [hx] at hr
      obtain ⟨x, s1, H1⟩ := x
      cases x with
      | normal => exact ih _ _ _ hr
      | _ => exact hr
  | .dfr l f args c, s, H, r, hr => by
    simp only [efF] at hr ⊢
    cases hx : opsF call γ l s H with
    | none => rw [hx] at hr; simp at hr
    | some x =>
      rw [opsF_mono hc _ _ _ _ hx]
      rw [hx] at hr
      obtain ⟨x, s1, H1⟩ := x
      cases x with
      | normal =>
        simp only at hr ⊢
        split at hr
        · simp only [Option.map_eq_some_iff] at hr ⊢
          obtain ⟨x, hx, rfl⟩ := hr
          exact ⟨x, codeF_mono hc n m h _ _ _ _ hx, rfl⟩
        · simp at hr
      | _ => exact hr

theorem finE_mono {call call' : FuncId → List EV → Heap → Res} (hc : ∀ g as H r, call g as H = some r → call' g as H = some r) {γ : Nat → EV} {D : FuncId → Option FnDf} {n m : Nat} (h : n ≤ m) {H : Heap} {rs : List ERes} {x : Xsh × Option (FuncId × List EV)} {r : ER × Heap}
    (hr : finE call γ D n H rs (some x) = some r) : finE call' γ D m H rs (some x) = some r := by
  obtain ⟨⟨x, s, H'⟩, d⟩ := x
  cases d with
  | none => exact hr
  | some p =>
    obtain ⟨g, as⟩ := p
    have key : ∀ pv, (match dcF call γ D n g as H' pv with | some H2 => finR' H rs s H2 | none => none) = some r → (match dcF call' γ D m g as H' pv with | some H2 => finR' H rs s H2 | none => none) = some r := by
      intro pv hk
      split at hk
      · rename_i H2 h2
        rw [dcF_mono hc h h2]
        exact hk
      · simp at hk
    cases x with
    | normal => exact key _ hr
    | ret => exact key _ hr
    | panic v => exact key _ hr
    | exit id => simp [finE] at hr
    | goto l => simp [finE] at hr

theorem runF_mono (E : Env) : ∀ (n m : Nat), n ≤ m → ∀ (f : FuncId) (as : List EV) (H : Heap) (r : ER × Heap), runF E n f as H = some r → runF E m f as H = some r
  | 0, _, _, f, as, H, r, h => by simp [runF] at h
  | n + 1, 0, hm, _, _, _, _, _ => by omega
  | n + 1, m + 1, hm, f, as, H, r, h => by
    have ih := runF_mono E n m (by omega)
    unfold runF at h ⊢
    split at h
    · exact h
    · split at h
      · rename_i d hd
        split at h
        · rename_i hl
          simp only [if_pos hl]
          exact finF_mono (fun q hq => codeF_mono (fun g as H r hr => ih g as H r hr) n m (by omega) _ _ _ _ hq) h
        · simp at h
      · split at h
        · rename_i d hd
          split at h
          · rename_i hl
            simp only [if_pos hl]
            cases hx : efF (runF E n) E.γ n d.ef (slots0 as) H with
            | none => rw [hx] at h; simp [finE] at h
            | some x =>
              rw [efF_mono (fun g as H r hr => ih g as H r hr) (by omega : n ≤ m) _ _ _ _ hx]
              rw [hx] at h
              exact finE_mono (fun g as H r hr => ih g as H r hr) (by omega) h
          · simp at h
        · simp at h

end Abs

namespace Abs
open Go
set_option linter.all false

section
variable (E : Env)

open Classical in
noncomputable def lim {α : Type} (f : Nat → Option α) : Option α := if h : ∃ n r, f n = some r then some h.choose_spec.choose else none

theorem lim_iff {α : Type} {f : Nat → Option α} (hm : ∀ n m, n ≤ m → ∀ r, f n = some r → f m = some r) {r : α} : lim f = some r ↔ ∃ n, f n = some r := by
  constructor
  · intro h
    unfold lim at h
    split at h
    · rename_i hx
      have := hx.choose_spec.choose_spec
      obtain rfl := Option.some.inj h
      exact ⟨_, this⟩
    · simp at h
  · rintro ⟨n, hn⟩
    have hx : ∃ n r, f n = some r := ⟨n, r, hn⟩
    unfold lim
    rw [dif_pos hx]
    have h1 := hx.choose_spec.choose_spec
    have h2 := hm _ (max hx.choose n) (Nat.le_max_left _ _) _ h1
    have h3 := hm _ (max hx.choose n) (Nat.le_max_right _ _) _ hn
    rw [h2] at h3
    exact h3

noncomputable def den (f : FuncId) (as : List EV) (H : Heap) : Res := lim fun n => runF E n f as H
noncomputable def denC (c : EC) (s : Slots) (H : Heap) : Option Xsh := lim fun n => codeF (runF E n) E.γ n c s H
noncomputable def denO (l : List EOper) (s : Slots) (H : Heap) : Option Xsh := opsF (den E) E.γ l s H
noncomputable def denD (l : List (EOper × Bool)) (s : Slots) (H : Heap) : Option Xsh := drF (den E) E.γ l s H
noncomputable def opD (ρ : EOpd → EV) (H : Heap) (op : EOp) : Res := opF (den E) ρ H op

variable {E}
theorem den_iff {f : FuncId} {as : List EV} {H : Heap} {r : ER × Heap} : den E f as H = some r ↔ ∃ n, runF E n f as H = some r :=
  lim_iff fun n m h r => runF_mono E n m h f as H r
theorem denC_iff {c : EC} {s : Slots} {H : Heap} {r : Xsh} : denC E c s H = some r ↔ ∃ n, codeF (runF E n) E.γ n c s H = some r :=
  lim_iff fun n m h r => codeF_mono (fun g as H q => runF_mono E n m h g as H q) n m h c s H r

theorem opF_cont {ρ : EOpd → EV} {H : Heap} {op : EOp} {r : ER × Heap} (h : opF (den E) ρ H op = some r) : ∃ n, opF (runF E n) ρ H op = some r := by
  cases op with
  | call f args =>
    simp only [opF] at h ⊢
    split at h
    · exact den_iff.1 h
    · simp at h
  | _ => exact ⟨0, h⟩

theorem runF_up {n m : Nat} (h : n ≤ m) : ∀ g as H r, runF E n g as H = some r → runF E m g as H = some r := fun g as H r => runF_mono E n m h g as H r
theorem opF_up {n m : Nat} (h : n ≤ m) {ρ : EOpd → EV} {H : Heap} {op : EOp} (q : ER × Heap) (hq : opF (runF E n) ρ H op = some q) : opF (runF E m) ρ H op = some q := opF_mono (runF_up h) hq

theorem stepO_cont {r : Nat → Res} {r' : Res} {s : Slots} {K : Nat → EV → Heap → Option Xsh} {K' : EV → Heap → Option Xsh} {x : Xsh} (hr : ∀ q, r' = some q → ∃ n, r n = some q) (hk : ∀ v H y, K' v H = some y → ∃ n, K n v H = some y)
    (mr : ∀ n m, n ≤ m → ∀ q, r n = some q → r m = some q) (mk : ∀ n m, n ≤ m → ∀ v H y, K n v H = some y → K m v H = some y) (h : stepO r' s K' = some x) : ∃ n, stepO (r n) s (K n) = some x := by
  unfold stepO at h
  split at h
  · rename_i v H
    obtain ⟨n, hn⟩ := hr _ rfl
    obtain ⟨m, hm⟩ := hk _ _ _ h
    refine ⟨max n m, ?_⟩
    rw [mr n (max n m) (Nat.le_max_left _ _) _ hn]
    exact mk m _ (Nat.le_max_right _ _) _ _ _ hm
  · obtain ⟨n, hn⟩ := hr _ rfl
    exact ⟨n, by rw [hn]; exact h⟩
  · simp at h

theorem stepD_cont {r : Nat → Res} {r' : Res} {chg : Bool} {H : Heap} {K : Nat → EV → Heap → Option Xsh} {K' : EV → Heap → Option Xsh} {x : Xsh} (hr : ∀ q, r' = some q → ∃ n, r n = some q) (hk : ∀ v H y, K' v H = some y → ∃ n, K n v H = some y)
    (mr : ∀ n m, n ≤ m → ∀ q, r n = some q → r m = some q) (mk : ∀ n m, n ≤ m → ∀ v H y, K n v H = some y → K m v H = some y) (h : stepD chg H r' K' = some x) : ∃ n, stepD chg H (r n) (K n) = some x := by
  unfold stepD at h
  split at h
  · rename_i v H'
    split at h
    · rename_i hs
      obtain ⟨n, hn⟩ := hr _ rfl
      obtain ⟨m, hm⟩ := hk _ _ _ h
      refine ⟨max n m, ?_⟩
      rw [mr n (max n m) (Nat.le_max_left _ _) _ hn]
      simp only [stepD, if_pos hs]
      exact mk m _ (Nat.le_max_right _ _) _ _ _ hm
    · simp at h
  · simp at h

theorem gateO_cont {v : EV} {t : Bool} {a b : Nat → Option Xsh} {a' b' : Option Xsh} {x : Xsh} (ha : ∀ y, a' = some y → ∃ n, a n = some y) (hb : ∀ y, b' = some y → ∃ n, b n = some y) (h : gateO v t a' b' = some x) : ∃ n, gateO v t (a n) (b n) = some x := by
  unfold gateO at h
  split at h
  · split at h
    · rename_i e
      obtain ⟨n, hn⟩ := ha _ h
      exact ⟨n, by simp only [gateO]; rw [if_pos e]; exact hn⟩
    · rename_i e
      obtain ⟨n, hn⟩ := hb _ h
      exact ⟨n, by simp only [gateO]; rw [if_neg e]; exact hn⟩
  · obtain ⟨n, hn⟩ := hb _ h
    exact ⟨n, hn⟩
  · simp at h

theorem denO_cont : ∀ (l : List EOper) (s : Slots) (H : Heap) (r : Xsh), opsF (den E) E.γ l s H = some r → ∃ n, opsF (runF E n) E.γ l s H = some r
  | [], s, H, r, h => ⟨0, h⟩
  | o :: rest, s, H, r, h => by
    unfold opsF at h ⊢
    have ih := denO_cont rest
    have up : ∀ n m, n ≤ m → ∀ (v : EV) (H : Heap) (y : Xsh), opsF (runF E n) E.γ rest (putA s o.dst v) H = some y → opsF (runF E m) E.γ rest (putA s o.dst v) H = some y := fun n m h v H y hy => opsF_mono (runF_up h) _ _ _ _ hy
    split at h
    · exact stepO_cont (fun q hq => opF_cont hq) (fun v H y hy => ih _ _ _ hy) (fun n m hnm q hq => opF_up hnm q hq) up h
    · exact gateO_cont (fun y hy => stepO_cont (fun q hq => opF_cont hq) (fun v H y hy => ih _ _ _ hy) (fun n m hnm q hq => opF_up hnm q hq) up hy) (fun y hy => ih _ _ _ hy) h

theorem denD_cont : ∀ (l : List (EOper × Bool)) (s : Slots) (H : Heap) (r : Xsh), drF (den E) E.γ l s H = some r → ∃ n, drF (runF E n) E.γ l s H = some r
  | [], s, H, r, h => ⟨0, h⟩
  | (o, chg) :: rest, s, H, r, h => by
    unfold drF at h ⊢
    have ih := denD_cont rest
    have up : ∀ n m, n ≤ m → ∀ (v : EV) (H : Heap) (y : Xsh), drF (runF E n) E.γ rest (putA s o.dst v) H = some y → drF (runF E m) E.γ rest (putA s o.dst v) H = some y := fun n m h v H y hy => drF_mono (runF_up h) _ _ _ _ hy
    split at h
    · exact stepD_cont (fun q hq => opF_cont hq) (fun v H y hy => ih _ _ _ hy) (fun n m hnm q hq => opF_up hnm q hq) up h
    · exact gateO_cont (fun y hy => stepD_cont (fun q hq => opF_cont hq) (fun v H y hy => ih _ _ _ hy) (fun n m hnm q hq => opF_up hnm q hq) up hy) (fun y hy => ih _ _ _ hy) h

theorem runF_den {n : Nat} : ∀ g as H r, runF E n g as H = some r → den E g as H = some r := fun _ _ _ _ h => den_iff.2 ⟨n, h⟩

theorem opt_ext {α : Type} {x y : Option α} (h : ∀ r, x = some r ↔ y = some r) : x = y := by
  cases x with
  | none => cases y with
    | none => rfl
    | some b => exact absurd ((h b).2 rfl) (by simp)
  | some a => exact ((h a).1 rfl).symm

theorem code_up {n m : Nat} (h : n ≤ m) {c : EC} {s : Slots} {H : Heap} (q : Xsh) (hq : codeF (runF E n) E.γ n c s H = some q) : codeF (runF E m) E.γ m c s H = some q := codeF_mono (runF_up h) n m h _ _ _ _ hq

variable {s : Slots} {H : Heap}

theorem denC_skip : denC E .skip s H = some (.normal, s, H) := denC_iff.2 ⟨1, rfl⟩
theorem denC_exit {id : Nat} : denC E (.exit id) s H = some (.exit id, s, H) := denC_iff.2 ⟨1, rfl⟩
theorem denC_ret : denC E .ret s H = some (.ret, s, H) := denC_iff.2 ⟨1, rfl⟩

theorem denC_ops {l : List EOper} : denC E (.ops l) s H = denO E l s H := by
  refine opt_ext fun r => ⟨fun h => ?_, fun h => ?_⟩
  · obtain ⟨n, hn⟩ := denC_iff.1 h
    cases n with
    | zero => simp [codeF] at hn
    | succ n => exact opsF_mono (runF_den (n := n + 1)) _ _ _ _ hn
  · obtain ⟨n, hn⟩ := denO_cont _ _ _ _ h
    exact denC_iff.2 ⟨n + 1, opsF_mono (runF_up (Nat.le_succ n)) _ _ _ _ hn⟩

theorem denC_draw {l : List (EOper × Bool)} : denC E (.draw l) s H = denD E l s H := by
  refine opt_ext fun r => ⟨fun h => ?_, fun h => ?_⟩
  · obtain ⟨n, hn⟩ := denC_iff.1 h
    cases n with
    | zero => simp [codeF] at hn
    | succ n => exact drF_mono (runF_den (n := n + 1)) _ _ _ _ hn
  · obtain ⟨n, hn⟩ := denD_cont _ _ _ _ h
    exact denC_iff.2 ⟨n + 1, drF_mono (runF_up (Nat.le_succ n)) _ _ _ _ hn⟩

theorem denC_drawS {l : List EOper} {us : List (Nat × Nat)} : denC E (.drawS l us) s H = (match dsF E.γ l s H with | some (s', H', fs) => if apart fs us then some (.normal, s', H') else none | none => none) := by
  refine opt_ext fun r => ⟨fun h => ?_, fun h => ?_⟩
  · obtain ⟨n, hn⟩ := denC_iff.1 h
    cases n with
    | zero => simp [codeF] at hn
    | succ n => exact hn
  · exact denC_iff.2 ⟨1, h⟩

theorem bindN_cont {x : Nat → Option Xsh} {x' : Option Xsh} {K : Nat → Slots → Heap → Option Xsh} {K' : Slots → Heap → Option Xsh} {y : Xsh} (hx : ∀ q, x' = some q → ∃ n, x n = some q) (hk : ∀ s H q, K' s H = some q → ∃ n, K n s H = some q)
    (mx : ∀ n m, n ≤ m → ∀ q, x n = some q → x m = some q) (mk : ∀ n m, n ≤ m → ∀ s H q, K n s H = some q → K m s H = some q) (h : bindN x' K' = some y) : ∃ n, bindN (x n) (K n) = some y := by
  cases x' with
  | none => simp [bindN] at h
  | some q =>
    obtain ⟨n, hn⟩ := hx _ rfl
    obtain ⟨e, s, H⟩ := q
    by_cases he : e = .normal
    · subst he
      obtain ⟨m, hm⟩ := hk _ _ _ h
      refine ⟨max n m, ?_⟩
      rw [mx n (max n m) (Nat.le_max_left _ _) _ hn]
      exact mk m _ (Nat.le_max_right _ _) _ _ _ hm
    · refine ⟨n, ?_⟩
      rw [hn]
      cases e <;> first | exact absurd rfl he | exact h

theorem bind_up {b : EC} : ∀ n m, n ≤ m → ∀ s H q, codeF (runF E n) E.γ n b s H = some q → codeF (runF E m) E.γ m b s H = some q := fun n m h s H q hq => code_up h q hq

theorem codeF_next {n : Nat} {c : EC} (q : Xsh) (h : codeF (runF E (n + 1)) E.γ n c s H = some q) : denC E c s H = some q :=
  denC_iff.2 ⟨n + 1, codeF_mono (fun _ _ _ _ h => h) n (n + 1) (Nat.le_succ n) _ _ _ _ h⟩
theorem codeF_prev {n : Nat} {c : EC} (q : Xsh) (h : codeF (runF E n) E.γ n c s H = some q) : codeF (runF E (n + 1)) E.γ n c s H = some q :=
  codeF_mono (runF_up (Nat.le_succ n)) n n (Nat.le_refl n) _ _ _ _ h

theorem denC_seq {a b : EC} : denC E (.seq a b) s H = bindN (denC E a s H) fun s' H' => denC E b s' H' := by
  refine opt_ext fun r => ⟨fun h => ?_, fun h => ?_⟩
  · obtain ⟨n, hn⟩ := denC_iff.1 h
    cases n with
    | zero => simp [codeF] at hn
    | succ n => exact bindN_mono (fun q hq => codeF_next q hq) (fun s H q hq => codeF_next q hq) hn
  · obtain ⟨n, hn⟩ := bindN_cont (x := fun n => codeF (runF E n) E.γ n a s H) (K := fun n s' H' => codeF (runF E n) E.γ n b s' H') (fun q hq => denC_iff.1 hq) (fun s H q hq => denC_iff.1 hq) (fun n m h q hq => code_up h q hq) bind_up h
    exact denC_iff.2 ⟨n + 1, bindN_mono (fun q hq => codeF_prev q hq) (fun s H q hq => codeF_prev q hq) hn⟩

theorem denC_loop {c : EC} : denC E (.loop c) s H = bindN (denC E c s H) fun s' H' => denC E (.loop c) s' H' := by
  refine opt_ext fun r => ⟨fun h => ?_, fun h => ?_⟩
  · obtain ⟨n, hn⟩ := denC_iff.1 h
    cases n with
    | zero => simp [codeF] at hn
    | succ n => exact bindN_mono (fun q hq => codeF_next q hq) (fun s H q hq => codeF_next q hq) hn
  · obtain ⟨n, hn⟩ := bindN_cont (x := fun n => codeF (runF E n) E.γ n c s H) (K := fun n s' H' => codeF (runF E n) E.γ n (.loop c) s' H') (fun q hq => denC_iff.1 hq) (fun s H q hq => denC_iff.1 hq) (fun n m h q hq => code_up h q hq) bind_up h
    exact denC_iff.2 ⟨n + 1, bindN_mono (fun q hq => codeF_prev q hq) (fun s H q hq => codeF_prev q hq) hn⟩

theorem denC_block {id : Nat} {c : EC} : denC E (.block id c) s H = blockX id (denC E c s H) := by
  refine opt_ext fun r => ⟨fun h => ?_, fun h => ?_⟩
  · obtain ⟨n, hn⟩ := denC_iff.1 h
    cases n with
    | zero => simp [codeF] at hn
    | succ n => exact blockX_mono (fun q hq => codeF_next q hq) hn
  · cases hx : denC E c s H with
    | none => rw [hx] at h; simp [blockX] at h
    | some q =>
      obtain ⟨n, hn⟩ := denC_iff.1 hx
      rw [hx] at h
      refine denC_iff.2 ⟨n + 1, ?_⟩
      simp only [codeF]
      rw [codeF_prev q hn]
      exact h

theorem denC_cond {c : EOpd} {a b : EC} : denC E (.cond c a b) s H = condA (ev E.γ s c) (denC E a s H) (denC E b s H) := by
  refine opt_ext fun r => ⟨fun h => ?_, fun h => ?_⟩
  · obtain ⟨n, hn⟩ := denC_iff.1 h
    cases n with
    | zero => simp [codeF] at hn
    | succ n => exact condA_mono (fun q hq => codeF_next q hq) (fun q hq => codeF_next q hq) hn
  · unfold condA at h
    split at h
    · rename_i t ht
      split at h
      · rename_i e
        obtain ⟨n, hn⟩ := denC_iff.1 h
        refine denC_iff.2 ⟨n + 1, ?_⟩
        simp only [codeF, ht, condA]
        rw [if_pos e]; exact codeF_prev _ hn
      · rename_i e
        obtain ⟨n, hn⟩ := denC_iff.1 h
        refine denC_iff.2 ⟨n + 1, ?_⟩
        simp only [codeF, ht, condA]
        rw [if_neg e]; exact codeF_prev _ hn
    · simp at h

theorem den_fun {f : FuncId} {as : List EV} {d : FnD} (hT : E.T f = some d) (hΨ : E.Ψ f as = none) (hl : as.length ≤ d.nt) : den E f as H = finF H d.rs (denC E d.ec (slots0 as) H) := by
  refine opt_ext fun r => ⟨fun h => ?_, fun h => ?_⟩
  · obtain ⟨n, hn⟩ := den_iff.1 h
    cases n with
    | zero => simp [runF] at hn
    | succ n =>
      simp only [runF, hΨ, hT, if_pos hl] at hn
      exact finF_mono (fun q hq => denC_iff.2 ⟨n, hq⟩) hn
  · cases hx : denC E d.ec (slots0 as) H with
    | none => rw [hx] at h; simp [finF] at h
    | some q =>
      obtain ⟨n, hn⟩ := denC_iff.1 hx
      rw [hx] at h
      refine den_iff.2 ⟨n + 1, ?_⟩
      simp only [runF, hΨ, hT, if_pos hl, hn]
      exact h

theorem den_known {f : FuncId} {as : List EV} {v : EV} (hΨ : E.Ψ f as = some v) : den E f as H = some (.ret v, H) :=
  den_iff.2 ⟨1, by simp only [runF, hΨ]⟩

end
end Abs

namespace Abs
open Go
set_option linter.all false

section
variable {P : Program} {γ : Nat → EV} {n : Nat} {nb : NB} {φ φ0 : Nat → Nat} {I I0 : Nat → Prop} {s : Slots} {H H0 : Heap} {a : Act} {w w0 : World}

/-- What is known of calls. -/
def CallsOk (P : Program) (γ : Nat → EV) (call : FuncId → List EV → Heap → Res) : Prop :=
  ∀ g as H er H', call g as H = some (er, H') → CallsA P γ g as H fun e h => e = er ∧ h = H'

def Qis (r : Xsh) : AX → Slots → Heap → Prop := fun x s H => r = (x, s, H)

variable {call : FuncId → List EV → Heap → Res}

theorem opF_wop (hc : CallsOk P γ call) {op : EOp} {er : ER} {H' : Heap} {K Qp : EV → Heap → Prop} (h : opF call (ev γ s) H op = some (er, H')) (hk : (∀ v, er = .ret v → K v H') ∧ ∀ v, er = .pan v → Qp v H') : wop P γ Qp (ev γ s) H op K := by
  cases op with
  | call f args =>
    simp only [opF] at h
    simp only [wop]
    split at h
    · rename_i g first cap hf
      simp only [hf]
      refine ⟨_, hc _ _ _ _ _ h, ?_⟩
      rintro e h1 ⟨rfl, rfl⟩
      cases e with
      | ret v => exact hk.1 v rfl
      | pan v => exact hk.2 v rfl
    · simp at h
  | panic x =>
    simp only [opF] at h
    simp only [wop]
    split at h
    · rename_i t v hx
      simp only [hx]
      simp only [Option.some.injEq, Prod.mk.injEq] at h
      obtain ⟨rfl, rfl⟩ := h
      exact hk.2 _ rfl
    · simp at h
  | _ =>
    simp only [opF] at h
    simp only [wop]
    split at h
    · rename_i v H1 hev
      simp only [Option.some.injEq, Prod.mk.injEq] at h
      obtain ⟨rfl, rfl⟩ := h
      first | (rw [hev]; exact hk.1 _ rfl) | exact hk.1 _ rfl
    · simp at h

theorem stepO_some {r : Res} {K : EV → Heap → Option Xsh} {x : Xsh} (h : stepO r s K = some x) : (∃ v H', r = some (.ret v, H') ∧ K v H' = some x) ∨ ∃ v H', r = some (.pan v, H') ∧ x = (.panic v, s, H') := by
  unfold stepO at h
  split at h
  · exact .inl ⟨_, _, rfl, h⟩
  · exact .inr ⟨_, _, rfl, (Option.some.inj h).symm⟩
  · simp at h

theorem opsF_wops (hc : CallsOk P γ call) : ∀ (l : List EOper) (s : Slots) (H : Heap) (r : Xsh), opsF call γ l s H = some r → wops P γ (Qis r) l s H
  | [], s, H, r, h => by
    simp only [opsF, Option.some.injEq] at h
    exact h.symm
  | o :: rest, s, H, r, h => by
    have ih := opsF_wops hc rest
    have one : ∀ K : Option Xsh, (stepO (opF call (ev γ s) H o.op) s fun v H' => opsF call γ rest (putA s o.dst v) H') = some r →
        wop P γ (fun v H' => Qis r (.panic v) s H') (ev γ s) H o.op fun v H' => wops P γ (Qis r) rest (putA s o.dst v) H' := by
      intro _ h1
      rcases stepO_some h1 with ⟨v, H', h2, h3⟩ | ⟨v, H', h2, rfl⟩
      · exact opF_wop hc h2 ⟨fun u e => (by cases e; exact ih _ _ _ h3), fun u e => (by cases e)⟩
      · exact opF_wop hc h2 ⟨fun u e => (by cases e), fun u e => (by cases e; rfl)⟩
    unfold opsF at h
    unfold wops
    cases hg : o.guard with
    | none => rw [hg] at h; exact one none h
    | some p =>
      obtain ⟨d, b⟩ := p
      rw [hg] at h
      simp only at h ⊢
      unfold gateO at h
      split at h
      · rename_i t ht
        simp only [ht]
        split at h
        · rename_i e; rw [if_pos e]; exact one none h
        · rename_i e; rw [if_neg e]; exact ih _ _ _ h
      · rename_i ht
        simp only [ht]
        exact ih _ _ _ h
      · simp at h

theorem opF_acts (hc : CallsOk P γ call) {op : EOp} {v : EV} {H' : Heap} (h : opF call (ev γ s) H op = some (.ret v, H')) : Acts P γ s H op v H' := by
  cases op with
  | call f args =>
    simp only [opF] at h
    simp only [Acts]
    split at h
    · rename_i g first cap hf
      simp only [hf]
      exact hc _ _ _ _ _ h
    · simp at h
  | panic x =>
    simp only [opF] at h
    split at h <;> simp at h
  | _ =>
    simp only [opF] at h
    simp only [Acts]
    split at h
    · rename_i v H1 hev
      simp only [Option.some.injEq, Prod.mk.injEq, ER.ret.injEq] at h
      obtain ⟨rfl, rfl⟩ := h
      first | exact hev | rfl
    · simp at h

theorem stepD_some {r : Res} {chg : Bool} {K : EV → Heap → Option Xsh} {x : Xsh} (h : stepD chg H r K = some x) : ∃ v H', r = some (.ret v, H') ∧ (chg = false → H' = H) ∧ K v H' = some x := by
  unfold stepD at h
  split at h
  · split at h
    · rename_i hs
      refine ⟨_, _, rfl, fun e => ?_, h⟩
      rw [e, Bool.false_or] at hs
      exact sameH_eq hs
    · simp at h
  · simp at h

theorem drF_wdr (hc : CallsOk P γ call) : ∀ (l : List (EOper × Bool)) (s : Slots) (H : Heap) (r : Xsh), drF call γ l s H = some r → wdr P γ (Qis r) l s H
  | [], s, H, r, h => by
    simp only [drF, Option.some.injEq] at h
    exact h.symm
  | (o, chg) :: rest, s, H, r, h => by
    have ih := drF_wdr hc rest
    unfold drF at h
    unfold wdr
    cases hg : o.guard with
    | none =>
      rw [hg] at h
      obtain ⟨v, H', h1, h2, h3⟩ := stepD_some h
      refine ⟨v, H', ?_, h2, ih _ _ _ h3⟩
      unfold Runs
      rw [hg]
      exact opF_acts hc h1
    | some p =>
      obtain ⟨d, b⟩ := p
      rw [hg] at h
      simp only at h
      unfold gateO at h
      split at h
      · rename_i t ht
        split at h
        · rename_i e
          obtain ⟨v, H', h1, h2, h3⟩ := stepD_some h
          refine ⟨v, H', ?_, h2, ih _ _ _ h3⟩
          unfold Runs
          rw [hg]
          exact .inl ⟨t, ht, fun _ => opF_acts hc h1, fun hne => absurd e hne⟩
        · rename_i e
          refine ⟨.tup [], H, ?_, fun _ => rfl, ih _ _ _ h⟩
          unfold Runs
          rw [hg]
          exact .inl ⟨t, ht, fun h => absurd h e, fun _ => ⟨rfl, rfl⟩⟩
      · rename_i ht
        refine ⟨.tup [], H, ?_, fun _ => rfl, ih _ _ _ h⟩
        unfold Runs
        rw [hg]
        exact .inr ⟨ht, rfl, rfl⟩
      · simp at h

theorem opF_pans (hc : CallsOk P γ call) {op : EOp} {v : EV} {H' : Heap} (ho : isCallOp op = true) (h : opF call (ev γ s) H op = some (.pan v, H')) : Pans P γ s H op v H' := by
  cases op <;> simp only [isCallOp, Bool.false_eq_true] at ho
  simp only [opF] at h
  simp only [Pans]
  split at h
  · rename_i g first cap hf
    simp only [hf]
    exact hc _ _ _ _ _ h
  · simp at h

theorem retSame_some {r : Res} {K : EV → Bool} (h : retSame H r K = true) : ∃ v, r = some (.ret v, H) ∧ K v = true := by
  unfold retSame at h
  split at h
  · rename_i v H'
    simp only [Bool.and_eq_true] at h
    have := sameH_eq h.1
    subst this
    exact ⟨v, rfl, h.2⟩
  · simp at h

theorem aloneF_alone (hc : CallsOk P γ call) : ∀ (l : List GO) (bs : List Bool) (s : Slots) (H : Heap), aloneF call γ l bs s H = true → alone P γ l bs s H
  | [], _, _, _, _ => trivial
  | g :: l, bs, s, H, h => by
    have ih := aloneF_alone hc l
    unfold aloneF at h
    unfold alone
    split
    · rename_i hb; rw [if_pos hb] at h; exact ih _ _ _ h
    · rename_i hb
      rw [if_neg hb] at h
      simp only [Bool.and_eq_true, Bool.not_eq_true'] at h
      refine ⟨h.1, ?_⟩
      have h := h.2
      cases hg : g.o.guard with
      | none =>
        rw [hg] at h
        obtain ⟨v, h1, h2⟩ := retSame_some h
        refine ⟨v, ?_, ih _ _ _ h2⟩
        unfold Runs
        rw [hg]
        exact opF_acts hc h1
      | some p =>
        obtain ⟨d, b⟩ := p
        rw [hg] at h
        simp only at h
        unfold gateB at h
        split at h
        · rename_i t ht
          split at h
          · rename_i e
            obtain ⟨v, h1, h2⟩ := retSame_some h
            refine ⟨v, ?_, ih _ _ _ h2⟩
            unfold Runs
            rw [hg]
            exact .inl ⟨t, ht, fun _ => opF_acts hc h1, fun hne => absurd e hne⟩
          · rename_i e
            refine ⟨.tup [], ?_, ih _ _ _ h⟩
            unfold Runs
            rw [hg]
            exact .inl ⟨t, ht, fun h => absurd h e, fun _ => ⟨rfl, rfl⟩⟩
        · rename_i ht
          refine ⟨.tup [], ?_, ih _ _ _ h⟩
          unfold Runs
          rw [hg]
          exact .inr ⟨ht, rfl, rfl⟩
        · simp at h

theorem drG_wdG (hc : CallsOk P γ call) {ds : List Nat} : ∀ (l : List GO) (s : Slots) (H : Heap) (r : Xsh), drG call γ ds l s H = some r → wdG P γ ds (Qis r) l s H
  | [], s, H, r, h => by
    simp only [drG, Option.some.injEq] at h
    exact h.symm
  | g :: l, s, H, r, h => by
    have ih := drG_wdG hc (ds := ds) l
    have ag : ∀ {s : Slots} {H : Heap}, g.us.all (loadAgain s H) = true → ∀ u ∈ g.us, again γ s H u := fun h u hu => by
      have := List.all_eq_true.1 h u hu
      unfold loadAgain at this
      unfold again
      split at this
      · rename_i v hv; rw [hv, EV.beq_eq _ _ this]
      · simp at this
    have go : ∀ {v : EV} {H' : Heap}, (if g.us.all (loadAgain (putA s g.o.dst v) H') then drG call γ ds l (putA s g.o.dst v) H' else none) = some r → (∀ u ∈ g.us, again γ (putA s g.o.dst v) H' u) ∧ wdG P γ ds (Qis r) l (putA s g.o.dst v) H' := fun h => by
      split at h
      · rename_i e; exact ⟨ag e, ih _ _ _ h⟩
      · simp at h
    have same : ∀ {H' : Heap}, (g.chg || sameH H' H) = true → g.chg = false → H' = H := fun h e => by
      rw [e, Bool.false_or] at h
      exact sameH_eq h
    unfold drG at h
    unfold wdG
    cases hg : g.o.guard with
    | none =>
      rw [hg] at h
      simp only [stepG'] at h
      split at h
      · rename_i v H' hr
        split at h
        · rename_i e
          obtain ⟨h1, h2⟩ := go h
          refine .inl ⟨v, H', ?_, same e, h1, h2⟩
          unfold Runs
          rw [hg]
          exact opF_acts hc hr
        · simp at h
      · rename_i v H' hr
        split at h
        · rename_i e
          simp only [Bool.and_eq_true] at e
          refine .inr ⟨e.1.1, rfl, v, H', opF_pans hc e.1.2 hr, aloneF_alone hc _ _ _ _ e.2, ?_⟩
          exact (Option.some.inj h).symm
        · simp at h
      · simp at h
    | some p =>
      obtain ⟨d, b⟩ := p
      rw [hg] at h
      simp only at h
      unfold gateO at h
      split at h
      · rename_i t ht
        split at h
        · rename_i e
          simp only [stepG'] at h
          split at h
          · rename_i v H' hr
            split at h
            · rename_i e2
              obtain ⟨h1, h2⟩ := go h
              refine .inl ⟨v, H', ?_, same e2, h1, h2⟩
              unfold Runs
              rw [hg]
              exact .inl ⟨t, ht, fun _ => opF_acts hc hr, fun hne => absurd e hne⟩
            · simp at h
          · simp at h
          · simp at h
        · rename_i e
          obtain ⟨h1, h2⟩ := go h
          refine .inl ⟨.tup [], H, ?_, fun _ => rfl, h1, h2⟩
          unfold Runs
          rw [hg]
          exact .inl ⟨t, ht, fun h => absurd h e, fun _ => ⟨rfl, rfl⟩⟩
      · rename_i ht
        obtain ⟨h1, h2⟩ := go h
        refine .inl ⟨.tup [], H, ?_, fun _ => rfl, h1, h2⟩
        unfold Runs
        rw [hg]
        exact .inr ⟨ht, rfl, rfl⟩
      · simp at h

theorem bindN_some {x : Option Xsh} {K : Slots → Heap → Option Xsh} {r : Xsh} (h : bindN x K = some r) : (∃ s H, x = some (.normal, s, H) ∧ K s H = some r) ∨ (x = some r ∧ r.1 ≠ .normal) := by
  unfold bindN at h
  split at h
  · exact .inl ⟨_, _, rfl, h⟩
  · rename_i hne
    refine .inr ⟨h, fun e => ?_⟩
    obtain ⟨x, s, H⟩ := r
    simp only at e
    subst e
    exact hne _ _ h

theorem Qis.then {K : Slots → Heap → Prop} {Q : AX → Slots → Heap → Prop} {r : Xsh} {x : AX} {s' : Slots} {H' : Heap} (h : Qis r x s' H') (hk : r.1 = .normal → K r.2.1 r.2.2) (hq : r.1 ≠ .normal → Q r.1 r.2.1 r.2.2) : thenA K Q x s' H' := by
  unfold Qis at h
  subst h
  cases x with
  | normal => exact hk rfl
  | _ => exact hq (by simp)

/-- Regions. -/
theorem reg_wpc (hc : CallsOk P γ call) {k : Nat} {ec : EC} {r : Xsh} (hs : match ec with | .ops _ | .draw _ | .seq (.draw _) (.ops _) | .seq (.drawG _ _) (.ops _) => True | _ => False) (h : codeF call γ k ec s H = some r) : wpc P γ ec (Qis r) s H := by
  cases k with
  | zero => simp [codeF] at h
  | succ k =>
    split at hs
    · exact opsF_wops hc _ _ _ _ h
    · exact drF_wdr hc _ _ _ _ h
    · rename_i a b
      simp only [codeF] at h
      cases k with
      | zero => simp [codeF, bindN] at h
      | succ k =>
        simp only [codeF] at h
        rcases bindN_some h with ⟨s1, H1, h1, h2⟩ | ⟨h1, hne⟩
        · exact wdr_mono (fun x s' H' hx => hx.then (fun _ => opsF_wops hc _ _ _ _ h2) fun h => absurd rfl h) (drF_wdr hc _ _ _ _ h1)
        · exact wdr_mono (fun x s' H' hx => hx.then (fun h => absurd h hne) fun _ => rfl) (drF_wdr hc _ _ _ _ h1)
    · simp only [codeF] at h
      cases k with
      | zero => simp [codeF, bindN] at h
      | succ k =>
        simp only [codeF] at h
        rcases bindN_some h with ⟨s1, H1, h1, h2⟩ | ⟨h1, hne⟩
        · exact wdG_mono (fun x s' H' hx => hx.then (fun _ => opsF_wops hc _ _ _ _ h2) fun h => absurd rfl h) (drG_wdG hc _ _ _ _ h1)
        · exact wdG_mono (fun x s' H' hx => hx.then (fun h => absurd h hne) fun _ => rfl) (drG_wdG hc _ _ _ _ h1)
    · exact hs.elim

theorem codeF_sound (hcall : CallsOk P γ call) {own : List Nat} : ∀ (c : Code) (ec : EC), resC P n own c = some ec → ∀ (m : Nat), 1 ≤ m → ∀ (nb : NB) (k : Nat) (r : Xsh) (φ : Nat → Nat) (I : Nat → Prop) (s : Slots) (H : Heap) (a : Act) (w : World),
    Rel γ n nb φ I s H a w → codeF call γ k ec s H = some r → c.wpIn (FR none) m P (Post γ n nb φ I H w (Qis r)) a w := by
  intro c
  induction c with
  | skip =>
    intro ec he m hm nb k r φ I s H a w hR h
    simp only [resC, Option.some.injEq] at he; subst he
    cases k with
    | zero => simp [codeF] at h
    | succ k =>
    exact wpIn_skip ⟨φ, I, s, H, .normal, .refl .., hR, .normal, (Option.some.inj h).symm⟩
  | region id ops draw =>
    intro ec he m hm nb k r φ I s H a w hR h
    by_cases hds : ∃ l us, ec = .drawS l us
    · obtain ⟨l, us, rfl⟩ := hds
      cases k with
      | zero => simp [codeF] at h
      | succ k =>
      simp only [codeF] at h
      split at h
      case h_2 => simp at h
      rename_i s' H' fs hd
      split at h
      case isFalse => simp at h
      rename_i hap
      obtain rfl := Option.some.inj h
      cases draw with
      | false => simp [resC, Option.map_eq_some_iff] at he
      | true =>
      simp only [resC] at he
      split at he
      · simp at he
      split at he
      · simp at he
      · split at he
        · rename_i p hp
          simp only [Option.some.injEq, EC.drawS.injEq] at he
          obtain ⟨rfl, rfl⟩ := he
          unfold resDrawS at hp
          split at hp
          case h_2 => simp at hp
          rename_i l hl
          split at hp
          case isFalse => simp at hp
          rename_i hc
          simp only [Bool.and_eq_true] at hc
          simp only [Option.some.injEq] at hp; subst hp
          exact wpIn_region_any hc.1 (anyIn Post.noOut (res_noDefer hl) _ _ _ _ (drawS_sound hl hc.2 hR hd hap rfl))
        · simp [Option.map_eq_some_iff] at he
    refine wpc_sound _ ec he none m nb (.inr rfl) _ φ I s H a w hR (reg_wpc hcall ?_ h)
    cases draw with
    | true =>
      simp only [resC] at he
      split at he
      · simp only [Option.some.injEq] at he; subst he
        trivial
      split at he
      · simp only [Option.some.injEq] at he; subst he
        trivial
      split at he
      · simp only [Option.some.injEq] at he
        exact absurd ⟨_, _, he.symm⟩ hds
      · simp only [Option.map_eq_some_iff] at he
        obtain ⟨z, hz', rfl⟩ := he
        trivial
    | false =>
      simp only [resC, Option.map_eq_some_iff] at he
      obtain ⟨l, hl, rfl⟩ := he
      trivial
  | seq x y ihx ihy =>
    intro ec he m hm nb k r φ I s H a w hR h
    simp only [resC] at he
    split at he
    · rename_i ex ey hx hy
      simp only [Option.some.injEq] at he; subst he
      cases k with
      | zero => simp [codeF] at h
      | succ k =>
      rcases bindN_some h with ⟨s1, H1, h1, h2⟩ | ⟨h1, hne⟩
      · refine wpIn_seq (wpIn_mono (ihx ex hx m hm nb k _ φ I s H a w hR h1) fun e a' w' hp => ?_)
        refine thenA_post (next := fun s' H' => s' = s1 ∧ H' = H1) (Q := Qis r) (fun φ' I' s' H' a' w' g1 g2 g3 => ?_) (fun e a' w' _ hp => hp) (hp.mono fun x s' H' hx => hx.then (fun _ => ⟨rfl, rfl⟩) fun h => absurd rfl h)
        obtain ⟨rfl, rfl⟩ := g3
        exact wpIn_mono (ihy ey hy m hm nb k r φ' I' _ _ a' w' g2 h2) fun e a'' w'' hp => hp.trans g1
      · refine wpIn_seq (wpIn_mono (ihx ex hx m hm nb k _ φ I s H a w hR h1) fun e a' w' hp => ?_)
        exact thenA_post (next := fun _ _ => False) (Q := Qis r) (fun φ' I' s' H' a' w' g1 g2 g3 => g3.elim) (fun e a' w' _ hp => hp) (hp.mono fun x s' H' hx => hx.then (fun h => absurd h hne) fun _ => rfl)
    · simp at he
  | cond c x y ihx ihy =>
    intro ec he m hm nb k r φ I s H a w hR h
    simp only [resC] at he
    split at he
    · rename_i z ex ey hz hx hy
      simp only [Option.some.injEq] at he; subst he
      have rc := rv_opd hR hz
      cases k with
      | zero => simp [codeF] at h
      | succ k =>
      simp only [codeF] at h
      unfold condA at h
      split at h
      case h_2 => simp at h
      rename_i t ht
      rw [ht] at rc
      generalize hva : a.eval c = vc at rc
      cases rc
      refine wpIn_cond hva ?_
      cases t with
      | true => exact ihx ex hx m hm nb k r φ I s H a w hR (by simpa using h)
      | false => exact ihy ey hy m hm nb k r φ I s H a w hR (by simpa using h)
    · simp at he
  | block id c ih =>
    intro ec he m hm nb k r φ I s H a w hR h
    simp only [resC, Option.map_eq_some_iff] at he
    obtain ⟨x, hx, rfl⟩ := he
    cases k with
    | zero => simp [codeF] at h
    | succ k =>
    simp only [codeF] at h
    cases hq : codeF call γ k x s H with
    | none => rw [hq] at h; simp [blockX] at h
    | some q =>
    rw [hq] at h
    refine wpIn_block (wpIn_mono (ih x hx m hm nb k q φ I s H a w hR hq) fun e a' w' hp => ?_)
    obtain ⟨φ', I', s', H', y, h1, h2, h3, h4⟩ := hp
    unfold Qis at h4
    subst h4
    cases h3 with
    | normal => exact ⟨φ', I', s', H', _, h1, h2, .normal, (Option.some.inj h).symm⟩
    | exit id' =>
      simp only [Exit.inBlock]
      simp only [blockX] at h
      split
      · rename_i e; rw [if_pos e] at h; exact ⟨φ', I', s', H', _, h1, h2, .normal, (Option.some.inj h).symm⟩
      · rename_i e; rw [if_neg e] at h; exact ⟨φ', I', s', H', _, h1, h2, .exit id', (Option.some.inj h).symm⟩
    | goto l => exact ⟨φ', I', s', H', _, h1, h2, .goto l, (Option.some.inj h).symm⟩
    | ret => exact ⟨φ', I', s', H', _, h1, h2, .ret, (Option.some.inj h).symm⟩
    | panic x v hv => exact ⟨φ', I', s', H', _, h1, h2, .panic x v hv, (Option.some.inj h).symm⟩
  | loop c ih =>
    intro ec he m hm nb k r φ I s H a w hR h
    simp only [resC, Option.map_eq_some_iff] at he
    obtain ⟨x, hx, rfl⟩ := he
    refine wpIn_loop_ghost (fun j a' w' => ∃ φ' I' s' H', Evo φ I H w φ' I' H' w' ∧ Rel γ n nb φ' I' s' H' a' w' ∧ codeF call γ j (.loop x) s' H' = some r) k ⟨φ, I, s, H, .refl .., hR, h⟩ ?_
    rintro j a' w' ⟨φ', I', s', H', h1, h2, h3⟩
    cases j with
    | zero => simp [codeF] at h3
    | succ j =>
    rcases bindN_some h3 with ⟨s1, H1, h4, h5⟩ | ⟨h4, hne⟩
    · refine wpIn_mono (ih x hx m hm nb j _ φ' I' s' H' a' w' h2 h4) fun e a'' w'' hp => ?_
      refine thenA_post (next := fun s' H' => s' = s1 ∧ H' = H1) (Q := Qis r) (fun φ2 I2 s2 H2 a2 w2 g1 g2 g3 => ?_) (fun e a3 w3 _ hp => hp.trans h1) (hp.mono fun x s' H' hx => hx.then (fun _ => ⟨rfl, rfl⟩) fun h => absurd rfl h)
      obtain ⟨rfl, rfl⟩ := g3
      exact ⟨j, by omega, φ2, I2, _, _, h1.trans g1, g2, h5⟩
    · refine wpIn_mono (ih x hx m hm nb j _ φ' I' s' H' a' w' h2 h4) fun e a'' w'' hp => ?_
      exact thenA_post (next := fun _ _ => False) (Q := Qis r) (fun φ2 I2 s2 H2 a2 w2 g1 g2 g3 => g3.elim) (fun e a3 w3 _ hp => hp.trans h1) (hp.mono fun x s' H' hx => hx.then (fun h => absurd h hne) fun _ => rfl)
  | rangeFunc f ps asg c _ ih =>
    intro ec he m hm nb k r φ I s H a w hR h
    simp only [resC] at he
    split at he
    case h_2 => simp at he
    split at he
    case isFalse => simp at he
    simp only [Option.some.injEq] at he; subst he
    cases k <;> simp [codeF] at h
  | exit id =>
    intro ec he m hm nb k r φ I s H a w hR h
    simp only [resC, Option.some.injEq] at he; subst he
    cases k with
    | zero => simp [codeF] at h
    | succ k => exact wpIn_exit ⟨φ, I, s, H, .exit id, .refl .., hR, .exit id, (Option.some.inj h).symm⟩
  | ret =>
    intro ec he m hm nb k r φ I s H a w hR h
    simp only [resC, Option.some.injEq] at he; subst he
    cases k with
    | zero => simp [codeF] at h
    | succ k => exact wpIn_ret ⟨φ, I, s, H, .ret, .refl .., hR, .ret, (Option.some.inj h).symm⟩
  | _ => intro ec he; simp [resC] at he

/-- A contract out of what a body comes to. -/
theorem callsA_of_wp {f : FuncId} {fn : Func} {c : Code} {rs : List ERes} {args : List EV} {R : ER → Heap → Prop} (hf : P.funcs[f]? = some fn) (hb : fn.body = some c)
    (hn : (fn.name == "runtime.NumGoroutine") = false) (hrs : fn.results.toList.mapM (resRes P) = some rs) (ha : args.length ≤ fn.ntmps)
    (h : ∀ φ I a w, Rel γ fn.ntmps w.heap.size φ I (slots0 args) H a w → c.wpIn (FR none) 3 P (Post γ fn.ntmps w.heap.size φ I H w (bodyA H.length rs R)) a w) : CallsA P γ f args H R := by
  refine ⟨⟨fn, c, hf, hb, hn⟩, fun φ I w vs hr hv => (callsIn_wide (n := 3)).1 (callsIn_of_wp_marks (F := FR none) hf hb trivial ?_)⟩
  have hvs : vs.size = args.length := by simpa using hv.1.symm
  have hR : Rel γ fn.ntmps w.heap.size φ I (slots0 args) H { tmps := vs ++ Array.replicate (fn.ntmps - vs.size) Go.undef, defers := [] } w := by
    refine ⟨by simp; omega, fun t => ?_, hr, .none (Nat.le_refl _)⟩
    simp only [slots0]
    by_cases ht : t < args.length
    · have ht2 : t < vs.size := by omega
      have : (vs ++ Array.replicate (fn.ntmps - vs.size) Go.undef).getD t Go.undef = vs[t] := by simp [Array.getElem?_append, ht2]
      rw [this]
      have := hv.2 t args[t] vs[t] (by simp [ht]) (by simp [ht2])
      simpa [ht] using this
    · have : args[t]? = none := by simp; omega
      rw [this]
      exact .undef _
  refine wpIn_mono (h φ I _ w hR) fun e a' w' hp => ?_
  obtain ⟨φ', I', s', H', x, h1, h2, h3, h4⟩ := hp
  obtain ⟨_, Ds, hds, hnd, hD⟩ := h2.defers
  replace hds : a'.defers = Ds.map mark := by rw [hds]; exact List.append_nil _
  have fin : ((∃ r r', evResults s' H' rs = some r ∧ FZ H.length H' r r' ∧ (∀ (b : Nat) (x : EB), b < H.length → H'[b]? = some (some x) → x.ok H.length = true) ∧ R (.ret r') (H'.take H.length)) ∨ ∃ r, evResults s' H' rs = some r ∧ R (.ret r) H') →
      LeavesInM (FR none) 3 P fn a'.tmps (fun e w' => ∃ φ' I' H' er, Evo φ I H w φ' I' H' w' ∧ RH γ φ' I' H' w' ∧ RE φ' H'.length I' w' er e ∧ R er H') a'.defers .returning w' := by
    intro hfin
    rw [hds]
    refine leave_marks (by simp) Ds w' hnd (fun D hm => (hD D hm).2.1) fun w'' k1 k2 k3 k4 k5 => ?_
    obtain ⟨m1, m2, m3⟩ := shut h1 h2.heap (fun D hm => ⟨(hD D hm).1.1, (hD D hm).2⟩) k1 k2 k3 k4 k5
    have hR'' : Rel γ fn.ntmps 0 φ' I' s' H' { a' with defers := [] } w'' := ⟨h2.sz, fun t => m3 _ _ _ (h2.slots t), m2, .none (Nat.zero_le _)⟩
    rcases hfin with ⟨r, r', g1, g2, g3, g4⟩ | ⟨r, g1, g4⟩
    · obtain ⟨val, n1, n2⟩ := results_sound hR'' hrs g1
      refine ⟨val, n1, φ', _, H'.take H.length, .ret r', m1.close, m2.close m1.len g3, ?_, g4⟩
      rw [List.length_take, Nat.min_eq_left h1.len]
      exact .ret r' val (g2.sound m2 n2)
    · obtain ⟨val, n1, n2⟩ := results_sound hR'' hrs g1
      exact ⟨val, n1, φ', I', H', .ret r, m1, m2, .ret r val n2, g4⟩
  cases h3 with
  | normal => exact fin h4
  | ret => exact fin h4
  | exit id => exact h4.elim
  | goto l => exact h4.elim
  | panic x v hv =>
    show LeavesInM (FR none) 3 P fn a'.tmps _ a'.defers (.panicking [{ v, recovered := false }]) w'
    rw [hds]
    refine leave_marks (by simp) Ds w' hnd (fun D hm => (hD D hm).2.1) fun w'' k1 k2 k3 k4 k5 => ?_
    obtain ⟨m1, m2, m3⟩ := shut h1 h2.heap (fun D hm => ⟨(hD D hm).1.1, (hD D hm).2⟩) k1 k2 k3 k4 k5
    rcases h4 with ⟨v', g2, g3, g4⟩ | g4
    · refine ⟨φ', _, H'.take H.length, .pan v', m1.close, m2.close m1.len g3, ?_, g4⟩
      rw [List.length_take, Nat.min_eq_left h1.len]
      exact .pan v' v (g2.sound m2 (m3 _ _ _ hv))
    · exact ⟨φ', I', H', .pan x, m1, m2, .pan x v (m3 _ _ _ hv), g4⟩

theorem finV_some {H H' : Heap} {v : EV} {K : EV → ER} {er : ER} {H1 : Heap} (hok : OkH H) (h : finV H v K H' = some (er, H1)) :
    (∃ v', FZ H.length H' v v' ∧ (∀ (b : Nat) (x : EB), b < H.length → H'[b]? = some (some x) → x.ok H.length = true) ∧ er = K v' ∧ H1 = H'.take H.length) ∨ (er = K v ∧ H1 = H') := by
  have all : (some (K v, H') : Res) = some (er, H1) → er = K v ∧ H1 = H' := fun h => by
    simp only [Option.some.injEq, Prod.mk.injEq] at h
    exact ⟨h.1.symm, h.2.symm⟩
  unfold finV at h
  split at h
  · exact .inr (all h)
  split at h
  case h_2 => exact .inr (all h)
  rename_i r hr
  split at h
  case isFalse => exact .inr (all h)
  rename_i hc
  simp only [Option.some.injEq, Prod.mk.injEq] at h
  refine .inl ⟨r, (fz_sound _ _ _ hr).1, fun b x hb hx => ?_, h.1.symm, h.2.symm⟩
  have hget : (H'.take H.length)[b]? = some (some x) := by rw [List.getElem?_take_of_lt hb]; exact hx
  rw [Bool.or_eq_true] at hc
  rcases hc with hc | hc
  · rw [sameH_eq hc] at hget
    exact hok b x hget
  · have := List.all_eq_true.1 hc _ (List.mem_of_getElem? hget)
    simpa using this

end
end Abs

namespace Abs
open Go
set_option linter.all false

def resDfr (P : Program) (n : Nat) (own : List Nat) : Code → Option (List EOper × EOpd × List EOpd)
  | .region _ ops false =>
    match ops.toList.reverse with
    | o :: rs =>
      match o.op, o.guard, o.dst with
      | .defer { callee := .value f, args, .. }, none, none =>
        match rs.reverse.mapM (resOper P n own ops), resOpd f, args.toList.mapM resOpd with
        | some l, some f, some as => some (l, f, as)
        | _, _, _ => none
      | _, _, _ => none
    | [] => none
  | _ => none

def resF (P : Program) (n : Nat) (own : List Nat) : Code → Option EF
  | .seq a b =>
    match resDfr P n own a with
    | some (l, f, as) => (resC P n own b).map (.dfr l f as)
    | none =>
      match resC P n own a, resF P n own b with
      | some x, some y => some (.pre x y)
      | _, _ => none
  | c => (resC P n own c).map .code

/-- The code of a deferred function. -/
def resD (P : Program) (n : Nat) (own : List Nat) : Code → Option (Nat × Nat × EC)
  | .seq (.region _ ops false) c =>
    match ops.toList with
    | [o0, o1] =>
      match o0.op, o0.dst, o0.guard, o1.op, o1.dst, o1.guard with
      | .call { callee := .builtin .recover, .. }, some d0, none, .assign (.tmp t), some d1, none =>
        if t = d0 ∧ d0 < n ∧ d1 < n then (resC P n own c).map fun x => (d0, d1, x) else none
      | _, _, _, _, _, _ => none
    | _ => none
  | _ => none

def BodyE (P : Program) (f : FuncId) (ef : EF) (rs : List ERes) (nt : Nat) : Prop :=
  ∃ (fn : Func) (c : Code) (own : List Nat), P.funcs[f]? = some fn ∧ fn.body = some c ∧ (fn.name == "runtime.NumGoroutine") = false ∧ resF P nt own c = some ef ∧ fn.results.toList.mapM (resRes P) = some rs ∧ fn.ntmps = nt

def BodyD (P : Program) (f : FuncId) (d0 d1 : Nat) (ec : EC) (nt : Nat) : Prop :=
  ∃ (fn : Func) (c : Code) (own : List Nat), P.funcs[f]? = some fn ∧ fn.body = some c ∧ (fn.name == "runtime.NumGoroutine") = false ∧ resD P nt own c = some (d0, d1, ec) ∧ fn.results.toList.mapM (resRes P) = some [] ∧ fn.ntmps = nt

section
variable {P : Program} {γ : Nat → EV} {n N0 : Nat} {φ φ0 : Nat → Nat} {I I0 : Nat → Prop} {s : Slots} {H H0 : Heap} {a : Act} {w w0 : World}

/-- A list of operations, then another one. -/
theorem wpListIn_conv {r : Option Nat} {m : Nat} {ops : Array Oper} {Q Q' : Exit → Act → World → Prop} {l2 : List Oper} (hq : ∀ e a w, Q e a w → Exit.then (fun a w => wpListIn (FR r) m P ops Q' l2 a w) Q' e a w) :
    ∀ (l1 : List Oper) (a : Act) (w : World), wpListIn (FR r) m P ops Q l1 a w → wpListIn (FR r) m P ops Q' (l1 ++ l2) a w
  | [], a, w, h => hq .normal a w h
  | o :: l, a, w, h => by
    have ih := wpListIn_conv hq l
    simp only [wpListIn, List.cons_append] at h ⊢
    split
    · rename_i hw
      rw [if_pos hw] at h
      refine ⟨h.1, ?_⟩
      have h2 := h.2
      generalize (o.semAt (FR r).round a.eval).run P w = res at h2 ⊢
      have out : LetsOut Q → LetsOut Q' := fun ⟨a, w, h⟩ => ⟨a, w, hq .outgrown a w h⟩
      cases res with
      | ok x w' =>
        cases x <;> simp only [Oper.uponIn] at h2 ⊢ <;> first
          | exact ih _ _ h2
          | exact ⟨h2.1, h2.2.mono fun e w'' he => by cases e <;> first | exact ih _ _ he | exact hq _ _ _ he | exact out he⟩
          | exact ⟨h2.1, h2.2.mono fun v w'' he => ih _ _ he⟩
          | exact h2.elim
      | halt x w' => cases x <;> simp only [Oper.uponIn] at h2 ⊢ <;> first | exact hq _ _ _ h2 | exact h2.elim
    · rename_i hw
      rw [if_neg hw] at h
      exact ⟨h.1, ih _ _ h.2⟩

variable {call : FuncId → List EV → Heap → Res}

/-- A frame with one deferred call. -/
def PostE (P : Program) (γ : Nat → EV) (n N0 : Nat) (φ : Nat → Nat) (I : Nat → Prop) (H : Heap) (w : World) (r : Xsh × Option (FuncId × List EV)) (e : Exit) (a' : Act) (w' : World) : Prop :=
  match r.2 with
  | none => Post γ n ⟨N0, [], true⟩ φ I H w (Qis r.1) e a' w'
  | some (g, as) => ∃ (dv : Deferred) (vs : Array Value), (∃ fv cap, dv.target = .fn fv cap) ∧ (Callable P g → ∀ w, (invoke dv.target dv.args).run P w = .ok (.enter g vs) w) ∧
      ∃ φ' I' s' H' x, Evo φ I H w φ' I' H' w' ∧ Rel γ n ⟨N0, [dv], true⟩ φ' I' s' H' a' w' ∧ XR φ' H'.length I' w' x e ∧ Qis r.1 x s' H' ∧ RCs φ' H'.length I' w' as vs.toList

theorem PostE.trans {r : Xsh × Option (FuncId × List EV)} {e : Exit} {a' : Act} {w' : World} (h : Evo φ0 I0 H0 w0 φ I H w) (g : PostE P γ n N0 φ I H w r e a' w') : PostE P γ n N0 φ0 I0 H0 w0 r e a' w' := by
  unfold PostE at g ⊢
  split at g
  · exact g.trans h
  · obtain ⟨dv, vs, g1, g2, φ', I', s', H', x, g3, g4, g5, g6, g7⟩ := g
    exact ⟨dv, vs, g1, g2, φ', I', s', H', x, h.trans g3, g4, g5, g6, g7⟩

theorem rcs_parts {f : Fn} {first cap args : List EV} {vf vc : Array Value} {va : Array Value} (h : RV φ H.length I w (.func f first cap) (.func f vf vc)) (ha : RCs φ H.length I w args va.toList) :
    RCs φ H.length I w (first ++ args ++ cap) (vf ++ va ++ vc).toList := by
  cases h with
  | func _ _ _ _ _ l1 l2 l3 l4 =>
  have o1 := ha.1
  refine ⟨by simp [l1, l2, o1], fun k x v hx hv => ?_⟩
  simp only [Array.toList_append] at hv
  by_cases k1 : k < first.length
  · rw [List.append_assoc, List.getElem?_append_left k1] at hx
    rw [List.append_assoc, List.getElem?_append_left (by simp; omega)] at hv
    exact l3 k x v hx (by simpa using hv)
  · rw [List.append_assoc, List.getElem?_append_right (by omega)] at hx
    rw [List.append_assoc, List.getElem?_append_right (by simp; omega)] at hv
    have e1 : vf.toList.length = first.length := by simp [l1]
    rw [e1] at hv
    by_cases k2 : k - first.length < args.length
    · rw [List.getElem?_append_left k2] at hx
      rw [List.getElem?_append_left (by omega)] at hv
      exact ha.2 _ x v hx hv
    · rw [List.getElem?_append_right (by omega)] at hx
      rw [List.getElem?_append_right (by omega)] at hv
      rw [← o1] at hv
      exact l4 _ x v hx (by simpa using hv)

theorem efF_sound (hcall : CallsOk P γ call) {own : List Nat} : ∀ (c : Code) (ef : EF), resF P n own c = some ef → ∀ (k : Nat) (r : Xsh × Option (FuncId × List EV)) (φ : Nat → Nat) (I : Nat → Prop) (s : Slots) (H : Heap) (a : Act) (w : World),
    Rel γ n ⟨N0, [], true⟩ φ I s H a w → efF call γ k ef s H = some r → c.wpIn (FR none) 3 P (PostE P γ n N0 φ I H w r) a w := by
  have flat : ∀ (c : Code) (ec : EC), resC P n own c = some ec → ∀ (k : Nat) (r : Xsh × Option (FuncId × List EV)) (φ : Nat → Nat) (I : Nat → Prop) (s : Slots) (H : Heap) (a : Act) (w : World),
      Rel γ n ⟨N0, [], true⟩ φ I s H a w → efF call γ k (.code ec) s H = some r → c.wpIn (FR none) 3 P (PostE P γ n N0 φ I H w r) a w := by
    intro c ec hc k r φ I s H a w hR h
    simp only [efF, Option.map_eq_some_iff] at h
    obtain ⟨x, hx, rfl⟩ := h
    exact codeF_sound hcall c ec hc 3 (by omega) _ k x φ I s H a w hR hx
  intro c
  induction c with
  | seq x y ihx ihy =>
    intro ef he k r φ I s H a w hR h
    simp only [resF] at he
    split at he
    · rename_i l f as hd
      simp only [Option.map_eq_some_iff] at he
      obtain ⟨ec, hec, rfl⟩ := he
      cases x with
      | region id ops dr =>
        cases dr with
        | true => simp [resDfr] at hd
        | false =>
        simp only [resDfr] at hd
        split at hd
        case h_2 => simp at hd
        rename_i o rs hrev
        split at hd
        case h_2 => simp at hd
        rename_i fo ao ats hop hguard hdst
        split at hd
        case h_2 => simp at hd
        rename_i l' f' as' hl hf has
        simp only [Option.some.injEq, Prod.mk.injEq] at hd
        obtain ⟨rfl, rfl, rfl⟩ := hd
        have hops : ops.toList = rs.reverse ++ [o] := by
          have := congrArg List.reverse hrev
          simpa using this
        simp only [efF] at h
        refine wpIn_seq (wpIn_region_list ?_)
        rw [hops]
        cases hx : opsF call γ l' s H with
        | none => rw [hx] at h; simp at h
        | some q =>
        have hw := ops_sound (Q := Qis q) rs.reverse l' hl φ I s H a w (.refl φ I H w) hR (opsF_wops hcall _ _ _ _ hx)
        have hw2 := listIn (r := none) (m := 3) Post.noOut _ (res_noDefer hl) _ _ hw
        refine wpListIn_conv ?_ _ _ _ hw2
        intro e a1 w1 hp
        rw [hx] at h
        obtain ⟨x, s1, H1⟩ := q
        obtain ⟨φ1, I1, s2, H2, x2, g1, g2, g3, g4⟩ := hp
        unfold Qis at g4
        simp only [Prod.mk.injEq] at g4
        obtain ⟨rfl, rfl, rfl⟩ := g4
        have pass : x ≠ .normal → PostE P γ n N0 φ I H w r e a1 w1 := by
          intro hne
          have hr : r = ((x, s1, H1), none) := by
            cases x <;> first | exact absurd rfl hne | exact (Option.some.inj h).symm
          subst hr
          exact ⟨φ1, I1, s1, H1, x, g1, g2, g3, rfl⟩
        cases g3 with
        | normal =>
          simp only at h
          split at h
          case h_2 => simp at h
          rename_i g first cap hfe
          simp only [Option.map_eq_some_iff] at h
          obtain ⟨z, hz, rfl⟩ := h
          have rf := rv_opd g2 hf
          rw [hfe] at rf
          generalize hva : a1.eval fo = vf at rf
          obtain ⟨vff, vfc, rfl⟩ : ∃ vff vfc, vf = .func (.func g) vff vfc := by cases rf; exact ⟨_, _, rfl⟩
          have hao := opds_sound g2 has
          have hargs : RCs φ1 H1.length I1 w1 (as'.map (ev γ s1)) (ao.map a1.eval).toList := ⟨by simpa using hao.1, fun k x v hx hv => hao.2 k x v hx (by simpa using hv)⟩
          show wpListIn (FR none) 3 P ops _ [o] a1 w1
          have hex : (execOp a1.eval o).run P w1 = .ok (.defer { target := .fn (.func g) vfc, args := vff ++ ao.map a1.eval }) w1 := by
            unfold execOp
            rw [hop]
            simp [resolve, hva, Deferred.ofValue]
          have hwant : Region.wanted o (yielded ops a1.tmps) = true := by simp [Region.wanted, hguard]
          simp only [wpListIn, hwant, if_true]
          refine ⟨fun _ _ => trivial, ?_⟩
          have hsem : o.semAt (FR none).round a1.eval = execOp a1.eval o := Oper.semAt_none ..
          rw [hsem, hex, Oper.uponIn_defer, hdst]
          have hR1 : Rel γ n ⟨N0, [{ target := .fn (.func g) vfc, args := vff ++ ao.map a1.eval }], true⟩ φ1 I1 s1 H1 { a1 with defers := { target := .fn (.func g) vfc, args := vff ++ ao.map a1.eval } :: a1.defers } w1 := by
            obtain ⟨k0, Ds, k1, k2, k3⟩ := g2.defers
            have hDs : Ds = [] := by
              cases Ds with
              | nil => rfl
              | cons D Ds => exact absurd (k3 D (by simp)).1.2 (by simp)
            subst hDs
            refine ⟨g2.sz, g2.slots, g2.heap, k0, [], ?_, List.nodup_nil, by simp⟩
            simp [k1]
          have hcs := codeF_sound hcall y ec hec 3 (by omega) _ k z φ1 I1 s1 H1 _ w1 hR1 hz
          refine wpIn_mono hcs fun e2 a2 w2 hp2 => ?_
          obtain ⟨φ2, I2, s3, H3, x3, j1, j2, j3, j4⟩ := hp2
          refine ⟨_, vff ++ ao.map a1.eval ++ vfc, ⟨_, _, rfl⟩, fun hcb w => ?_, φ2, I2, s3, H3, x3, g1.trans j1, j2, j3, j4, ?_⟩
          · simp [invoke, callFunc_run hcb]
          · have h1 := rcs_parts rf hargs
            exact ⟨h1.1, fun k x v hx hv => j1.rv g2.heap (h1.2 k x v hx hv)⟩
        | exit id' => exact pass (by simp)
        | goto l' => exact pass (by simp)
        | ret => exact pass (by simp)
        | panic v vv hv => exact pass (by simp)
      | _ => simp [resDfr] at hd
    · split at he
      case h_2 => simp at he
      rename_i ex ey hx hy
      simp only [Option.some.injEq] at he; subst he
      simp only [efF] at h
      cases hq : codeF call γ k ex s H with
      | none => rw [hq] at h; simp at h
      | some q =>
      rw [hq] at h
      refine wpIn_seq (wpIn_mono (codeF_sound hcall x ex hx 3 (by omega) _ k q φ I s H a w hR hq) fun e a1 w1 hp => ?_)
      obtain ⟨x, s1, H1⟩ := q
      obtain ⟨φ1, I1, s2, H2, x2, g1, g2, g3, g4⟩ := hp
      unfold Qis at g4
      simp only [Prod.mk.injEq] at g4
      obtain ⟨rfl, rfl, rfl⟩ := g4
      have pass : x ≠ .normal → PostE P γ n N0 φ I H w r e a1 w1 := by
        intro hne
        have hr : r = ((x, s1, H1), none) := by
          cases x <;> first | exact absurd rfl hne | exact (Option.some.inj h).symm
        subst hr
        exact ⟨φ1, I1, s1, H1, x, g1, g2, g3, rfl⟩
      cases g3 with
      | normal =>
        show y.wpIn (FR none) 3 P _ a1 w1
        exact wpIn_mono (ihy ey hy k r φ1 I1 s1 H1 a1 w1 g2 h) fun e a2 w2 hp => hp.trans g1
      | exit id' => exact pass (by simp)
      | goto l' => exact pass (by simp)
      | ret => exact pass (by simp)
      | panic v vv hv => exact pass (by simp)
  | _ =>
    intro ef he k r φ I s H a w hR h
    simp only [resF, Option.map_eq_some_iff] at he
    obtain ⟨ec, hec, rfl⟩ := he
    exact flat _ ec hec k r φ I s H a w hR h
end
end Abs

namespace Abs
open Go
set_option linter.all false

section
variable {P : Program} {γ : Nat → EV} {n nb : Nat} {φ φ0 : Nat → Nat} {I I0 : Nat → Prop} {s : Slots} {H H0 : Heap} {a : Act} {w w0 : World}

variable {call : FuncId → List EV → Heap → Res}

def modeOf (pv : Option EV) (v : Value) (rec : Bool) : FrameMode :=
  match pv with
  | none => .returning
  | some _ => .panicking [{ v, recovered := rec }]

theorem settle_mode (pv : Option EV) (v : Value) : settle (modeOf pv v true) = .returning := by
  cases pv <;> rfl

theorem rel_start {nt : Nat} {nb : NB} {as : List EV} {vs : Array Value} (hb : nb.n ≤ w.heap.size) (hbase : nb.base = []) (hl : as.length ≤ nt) (hr : RH γ φ I H w) (hv : RCs φ H.length I w as vs.toList) :
    Rel γ nt nb φ I (slots0 as) H { tmps := vs ++ Array.replicate (nt - vs.size) Go.undef, defers := [] } w := by
  have hvs : vs.size = as.length := by simpa using hv.1.symm
  refine ⟨by simp; omega, fun t => ?_, hr, ?_⟩
  · simp only [slots0]
    by_cases ht : t < as.length
    · have ht2 : t < vs.size := by omega
      have : (vs ++ Array.replicate (nt - vs.size) Go.undef).getD t Go.undef = vs[t] := by simp [Array.getElem?_append, ht2]
      rw [this]
      have := hv.2 t as[t] vs[t] (by simp [ht]) (by simp [ht2])
      simpa [ht] using this
    · have : as[t]? = none := by simp; omega
      rw [this]
      exact .undef _
  · have := Marks.none (φ := φ) (I := I) (H := H) hb
    rwa [hbase] at this

theorem strict_defers {nb : NB} {n : Nat} (hst : nb.strict = true) (h : Rel γ n nb φ I s H a w) : a.defers = nb.base := by
  obtain ⟨_, Ds, hds, _, hD⟩ := h.defers
  cases Ds with
  | nil => simpa using hds
  | cons D Ds => have := (hD D (by simp)).1.2; rw [hst] at this; simp at this

theorem dc_sound (hcall : CallsOk P γ call) {D : FuncId → Option FnDf} (hD : ∀ g d, D g = some d → BodyD P g d.d0 d.d1 d.ec d.nt) {k : Nat} {g : FuncId} {as : List EV} {pv : Option EV} {H3 : Heap} (h : dcF call γ D k g as H pv = some H3) :
    Callable P g ∧ ∀ (φ : Nat → Nat) (I : Nat → Prop) (w : World) (vs : Array Value) (v : Value), RH γ φ I H w → RCs φ H.length I w as vs.toList → (∀ x, pv = some x → RV φ H.length I w x v) →
      CallsDIn (FR none) 2 P g vs (modeOf pv v false) w fun e u' w' => (∃ rv, e = .returned rv) ∧ u' = modeOf pv v true ∧ ∃ φ' I', Evo φ I H w φ' I' H3 w' ∧ RH γ φ' I' H3 w' := by
  unfold dcF at h
  split at h
  case h_2 => simp at h
  rename_i d hd
  split at h
  case isFalse => simp at h
  rename_i hl
  split at h
  case h_2 => simp at h
  rename_i er H4 hf
  obtain rfl := Option.some.inj h
  obtain ⟨fn, c0, own, h1, h2, h3, h4, h5, h6⟩ := hD g d hd
  refine ⟨⟨fn, c0, h1, h2, h3⟩, fun φ I w vs v hr hv hpv => ?_⟩
  unfold resD at h4
  split at h4
  case h_2 => simp at h4
  rename_i id ops c
  split at h4
  case h_2 => simp at h4
  rename_i o0 o1 hops
  split at h4
  case h_2 => simp at h4
  rename_i ao ats d0 t d1 e0 e1 e2 e3 e4 e5
  split at h4
  case isFalse => simp at h4
  rename_i hc
  obtain ⟨rfl, hd0, hd1⟩ := hc
  simp only [Option.map_eq_some_iff, Prod.mk.injEq] at h4
  obtain ⟨ec, hec, rfl, rfl, rfl⟩ := h4
  have hsz : ops.size = 2 := by rw [← Array.length_toList, hops]; rfl
  have g0 : ops[0]? = some o0 := by rw [← Array.getElem?_toList, hops]; rfl
  have g1 : ops[1]? = some o1 := by rw [← Array.getElem?_toList, hops]; rfl
  cases hq : codeF call γ k d.ec (upd (upd (slots0 as) d.d0 (pv.getD .nilif)) d.d1 (pv.getD .nilif)) H with
  | none => rw [hq] at hf; simp [finF] at hf
  | some q =>
  rw [hq] at hf
  refine callsDIn_of_wpSIn h1 h2 trivial fun c₀ cs hu => wpSIn_seq (wpSIn_region ?_)
  rw [h6]
  have hR0 := rel_start (nb := ⟨w.heap.size, [], true⟩) (Nat.le_refl _) rfl hl hr hv
  obtain ⟨rv, hrv⟩ : ∃ rv : Value, rv = (match pv with | none => Value.nilIface | some _ => v) := ⟨_, rfl⟩
  have hrvR : RV φ H.length I w (pv.getD .nilif) rv := by
    cases pv with
    | none => rw [hrv]; exact .nilif
    | some x => rw [hrv]; exact hpv x rfl
  have hR1 := hR0.put (Evo.refl ..) hr (dst := some d.d0) (fun d' hd' => by cases hd'; exact hd0) hrvR
  have hR2 := hR1.put (Evo.refl ..) hr (dst := some d.d1) (fun d' hd' => by cases hd'; exact hd1) hrvR
  obtain ⟨a0, ha0⟩ : ∃ a0 : Act, a0 = { tmps := vs ++ Array.replicate (d.nt - vs.size) Go.undef, defers := [] } := ⟨_, rfl⟩
  rw [← ha0] at hR0 hR1 hR2 ⊢
  have hcs : ∃ cs', cs' = ({ c₀ with mode := modeOf pv v true } : Frame) :: cs ∧ (match recoverD (c₀ :: cs) with | some (u, cs1) => u = rv ∧ cs1 = cs' | none => Value.nilIface = rv ∧ c₀ :: cs = cs') := by
    refine ⟨_, rfl, ?_⟩
    cases pv with
    | none =>
      have hm : c₀.mode = .returning := hu
      simp only [recoverD, hm, hrv, modeOf]
      refine ⟨trivial, ?_⟩
      rw [← hm]
    | some x =>
      have hm : c₀.mode = .panicking [{ v, recovered := false }] := hu
      simp only [recoverD, hm, hrv, modeOf]
      exact ⟨trivial, trivial⟩
  obtain ⟨cs', hcs', hrec⟩ := hcs
  have hval : ∀ y : Act, y.tmps.size = d.nt → (y.put (some d.d0) rv).eval (.tmp d.d0) = rv := fun y hy => by
    simp [Act.put, Act.eval, hy, hd0]
  have hwant : ∀ (o : Oper) (y : Act), o.guard = none → Region.wanted o (yielded ops y.tmps) = true := fun o y ho => by simp [Region.wanted, ho]
  have key : Exit.thenS (c.wpSIn (FR none) 2 P (bodyPostS P fn c₀ cs fun e u' w' => (∃ rv, e = .returned rv) ∧ u' = modeOf pv v true ∧ ∃ φ' I', Evo φ I H w φ' I' H4 w' ∧ RH γ φ' I' H4 w'))
      (bodyPostS P fn c₀ cs fun e u' w' => (∃ rv, e = .returned rv) ∧ u' = modeOf pv v true ∧ ∃ φ' I', Evo φ I H w φ' I' H4 w' ∧ RH γ φ' I' H4 w') .normal ((a0.put (some d.d0) rv).put (some d.d1) rv) cs' w := by
    refine wpSIn_of_wpIn rfl ?_
    refine wpIn_mono (codeF_sound hcall c d.ec hec 2 (by omega) _ k q φ I _ H _ w hR2 hq) fun e a1 w1 hp => ?_
    obtain ⟨φ1, I1, s1, H1, x, j1, j2, j3, j4⟩ := hp
    unfold Qis at j4
    subst j4
    have fin : (match evResults s1 H1 [] with | some r => finV H r .ret H1 | none => none) = some (.ret er, H4) →
        a1.defers = [] ∧ ∃ u', cs' = { c₀ with mode := u' } :: cs ∧ ∃ vv, (results fn a1.tmps).run P w1 = .ok vv w1 ∧ ((∃ rv, Ending.returned vv = .returned rv) ∧ u' = modeOf pv v true ∧ ∃ φ' I', Evo φ I H w φ' I' H4 w1 ∧ RH γ φ' I' H4 w1) := by
      intro hfin
      split at hfin
      case h_2 => simp at hfin
      rename_i r hr'
      obtain ⟨val, n1, n2⟩ := results_sound j2 h5 hr'
      rcases finV_some hr.isOk hfin with ⟨v', k1, k2, k3, k4⟩ | ⟨k3, k4⟩
      · subst k4
        exact ⟨strict_defers rfl j2, modeOf pv v true, hcs', val, n1, ⟨_, rfl⟩, rfl, φ1, _, j1.close, j2.heap.close j1.len k2⟩
      · subst k4
        exact ⟨strict_defers rfl j2, modeOf pv v true, hcs', val, n1, ⟨_, rfl⟩, rfl, φ1, I1, j1, j2.heap⟩
    cases j3 with
    | normal => exact fin hf
    | ret => exact fin hf
    | exit id' => simp [finF] at hf
    | goto l => simp [finF] at hf
    | panic pvv vv hvv =>
      simp only [finF] at hf
      rcases finV_some hr.isOk hf with ⟨v', k1, k2, k3, k4⟩ | ⟨k3, k4⟩ <;> exact absurd k3 (by simp)
  have x0 : (execOp a0.eval o0).run P w = .ok .recover w := by
    unfold execOp
    rw [e0]
    simp [resolve, invoke, builtin]
  have x1 : (execOp (a0.put (some d.d0) rv).eval o1).run P w = .ok (.value rv) w := by
    unfold execOp
    rw [e3]
    simp only [hval a0 hR0.sz]
    rfl
  have hrange : List.range ops.size = [0, 1] := by rw [hsz]; rfl
  rw [hrange]
  simp only [wpOpsSIn, g0, g1, hwant o0 _ e2, hwant o1 _ e5, if_true, x0]
  refine ⟨fun _ _ => trivial, ?_⟩
  split at hrec
  · rename_i u cs1 hre
    obtain ⟨rfl, rfl⟩ := hrec
    simp only [hre, e1, x1, e4]
    exact ⟨fun _ _ => trivial, key⟩
  · rename_i hre
    obtain ⟨hr1, rfl⟩ := hrec
    simp only [hre, e1, hr1, x1, e4]
    exact ⟨fun _ _ => trivial, key⟩

/-- The environment fits the program. -/
structure Env.Sound (P : Program) (E : Env) : Prop where
  T : ∀ f d, E.T f = some d → Body P f d.ec d.rs d.nt
  F : ∀ f d, E.F f = some d → BodyE P f d.ef d.rs d.nt
  D : ∀ f d, E.D f = some d → BodyD P f d.d0 d.d1 d.ec d.nt
  Ψ : ∀ f as v H, E.Ψ f as = some v → CallsA P E.γ f as H fun er H' => er = .ret v ∧ H' = H

/-- How a frame without deferred calls leaves. -/
theorem leave_plain {fn : Func} {rs : List ERes} {er : ER} {H0 H1 : Heap} {φ0 : Nat → Nat} {I0 : Nat → Prop} {w0 : World} {tmps : Array Value} {n : Nat} {nb : NB} {a : Act} (hrs : fn.results.toList.mapM (resRes P) = some rs) (hok : OkH H0) (ha : a.tmps = tmps)
    (he : Evo φ0 I0 H0 w0 φ I H w) (hR : Rel γ n nb φ I s H a w) (h : finR' H0 rs s H = some (er, H1)) :
    ∃ v, (results fn tmps).run P w = .ok v w ∧ ∃ φ' I' H' e, Evo φ0 I0 H0 w0 φ' I' H' w ∧ RH γ φ' I' H' w ∧ RE φ' H'.length I' w e (.returned v) ∧ (e = er ∧ H' = H1) := by
  unfold finR' at h
  split at h
  case h_2 => simp at h
  rename_i r hr
  obtain ⟨val, n1, n2⟩ := results_sound hR hrs hr
  rw [ha] at n1
  rcases finV_some hok h with ⟨v', k1, k2, k3, k4⟩ | ⟨k3, k4⟩
  · subst k3 k4
    refine ⟨val, n1, φ, _, H.take H0.length, .ret v', he.close, hR.heap.close he.len k2, ?_, rfl, rfl⟩
    rw [List.length_take, Nat.min_eq_left he.len]
    exact .ret v' val (k1.sound hR.heap n2)
  · exact ⟨val, n1, φ, I, H, .ret r, he, hR.heap, .ret r val n2, k3.symm, k4.symm⟩

theorem callsA_of_E (hcall : CallsOk P γ call) {D : FuncId → Option FnDf} (hD : ∀ g d, D g = some d → BodyD P g d.d0 d.d1 d.ec d.nt) {f : FuncId} {ef : EF} {rs : List ERes} {nt : Nat} (hb : BodyE P f ef rs nt) {k : Nat} {as : List EV} (hl : as.length ≤ nt) {er : ER} {H1 : Heap}
    (h : finE call γ D k H rs (efF call γ k ef (slots0 as) H) = some (er, H1)) : CallsA P γ f as H fun e h => e = er ∧ h = H1 := by
  obtain ⟨fn, c, own, h1, h2, h3, h4, h5, rfl⟩ := hb
  refine ⟨⟨fn, c, h1, h2, h3⟩, fun φ I w vs hr hv => (callsIn_wide (n := 3)).1 (callsIn_of_wp_marks (F := FR none) h1 h2 trivial ?_)⟩
  have hR := rel_start (nb := ⟨w.heap.size, [], true⟩) (Nat.le_refl _) rfl hl hr hv
  cases hx : efF call γ k ef (slots0 as) H with
  | none => rw [hx] at h; simp [finE] at h
  | some r =>
  rw [hx] at h
  refine wpIn_mono (efF_sound hcall c ef h4 k r φ I _ H _ w hR hx) fun e a' w' hp => ?_
  obtain ⟨⟨x, s', H'⟩, d⟩ := r
  cases d with
  | none =>
    obtain ⟨φ', I', s1, H2, x1, g1, g2, g3, g4⟩ := hp
    unfold Qis at g4
    simp only [Prod.mk.injEq] at g4
    obtain ⟨rfl, rfl, rfl⟩ := g4
    have hds := strict_defers rfl g2
    simp only at hds
    simp only [finE] at h
    have fin : finR' H rs s' H' = some (er, H1) → LeavesInM (FR none) 3 P fn a'.tmps (fun e w' => ∃ φ' I' H' er', Evo φ I H w φ' I' H' w' ∧ RH γ φ' I' H' w' ∧ RE φ' H'.length I' w' er' e ∧ (er' = er ∧ H' = H1)) a'.defers .returning w' := by
      intro hfin
      rw [hds]
      exact leave_plain h5 hr.isOk rfl g1 g2 hfin
    cases g3 with
    | normal => exact fin h
    | ret => exact fin h
    | exit id => simp [finF] at h
    | goto l => simp [finF] at h
    | panic v vv hvv =>
      show LeavesInM (FR none) 3 P fn a'.tmps _ a'.defers (.panicking [{ v := vv, recovered := false }]) w'
      rw [hds]
      simp only [finF] at h
      rcases finV_some hr.isOk h with ⟨v', k1, k2, k3, k4⟩ | ⟨k3, k4⟩
      · subst k3 k4
        refine ⟨φ', _, H'.take H.length, .pan v', g1.close, g2.heap.close g1.len k2, ?_, rfl, rfl⟩
        rw [List.length_take, Nat.min_eq_left g1.len]
        exact .pan v' vv (k1.sound g2.heap hvv)
      · exact ⟨φ', I', H', .pan v, g1, g2.heap, .pan v vv hvv, k3.symm, k4.symm⟩
  | some p =>
    obtain ⟨g, gs⟩ := p
    obtain ⟨dv, gv, ⟨fv, cap, htar⟩, hinv, φ', I', s1, H2, x1, g1, g2, g3, g4, g5⟩ := hp
    unfold Qis at g4
    simp only [Prod.mk.injEq] at g4
    obtain ⟨rfl, rfl, rfl⟩ := g4
    have hds := strict_defers rfl g2
    simp only at hds
    have leave : ∀ (pv : Option EV) (v : Value), (∀ x, pv = some x → RV φ' H'.length I' w' x v) → (match dcF call γ D k g gs H' pv with | some H2 => finR' H rs s' H2 | none => none) = some (er, H1) →
        LeavesInM (FR none) 3 P fn a'.tmps (fun e w' => ∃ φ' I' H' er', Evo φ I H w φ' I' H' w' ∧ RH γ φ' I' H' w' ∧ RE φ' H'.length I' w' er' e ∧ (er' = er ∧ H' = H1)) a'.defers (modeOf pv v false) w' := by
      intro pv v hpv hk
      split at hk
      case h_2 => simp at hk
      rename_i H3 h3'
      obtain ⟨hcb, hdc⟩ := dc_sound hcall hD h3'
      rw [hds]
      refine ⟨by cases pv <;> simp [modeOf], .inr ⟨FR_deep, fv, cap, g, gv, htar, hinv hcb w', fun _ _ => trivial, ?_⟩⟩
      refine (hdc φ' I' w' gv v g2.heap g5 hpv).mono fun e u' w2 hq => ?_
      obtain ⟨⟨rv, rfl⟩, rfl, φ2, I2, q1, q2⟩ := hq
      show LeavesInM (FR none) 3 P fn a'.tmps _ [] (settle (modeOf pv v true)) w2
      rw [settle_mode]
      have hR2 : Rel γ fn.ntmps ⟨0, [], true⟩ φ2 I2 s' H3 { a' with defers := [] } w2 := ⟨g2.sz, fun t => q1.rv g2.heap (g2.slots t), q2, Nat.zero_le _, [], rfl, List.nodup_nil, by simp⟩
      exact leave_plain (a := { a' with defers := [] }) h5 hr.isOk rfl (g1.trans q1) hR2 hk
    cases g3 with
    | normal => exact leave none Go.undef (by simp) h
    | ret => exact leave none Go.undef (by simp) h
    | exit id => simp [finE] at h
    | goto l => simp [finE] at h
    | panic v vv hvv => exact leave (some v) vv (fun x hx => by cases hx; exact hvv) h

theorem runF_sound {E : Env} (hE : E.Sound P) : ∀ n, CallsOk P E.γ (runF E n) := by
  intro n
  induction n with
  | zero => intro g as H er H' h; simp [runF] at h
  | succ n ih =>
    intro f as H er H1 h
    simp only [runF] at h
    split at h
    · rename_i v hv
      simp only [Option.some.injEq, Prod.mk.injEq] at h
      obtain ⟨rfl, rfl⟩ := h
      exact hE.Ψ f as v _ hv
    · split at h
      case h_2 =>
        split at h
        case h_2 => simp at h
        rename_i d hd
        split at h
        case isFalse => simp at h
        rename_i hl
        exact callsA_of_E ih hE.D (hE.F f d hd) hl h
      rename_i d hd
      split at h
      case isFalse => simp at h
      rename_i hl
      obtain ⟨fn, c, own, h1, h2, h3, h4, h5, h6⟩ := hE.T f d hd
      cases hq : codeF (runF E n) E.γ n d.ec (slots0 as) H with
      | none => rw [hq] at h; simp [finF] at h
      | some q =>
      rw [hq] at h
      refine callsA_of_wp h1 h2 h3 h5 (by rw [h6]; exact hl) fun φ I a w hR => ?_
      have hok := hR.heap.isOk
      rw [← h6] at h4
      refine wpIn_mono (codeF_sound ih c d.ec h4 3 (by omega) w.heap.size n q φ I _ H a w hR hq) fun e a' w' hp => hp.mono fun x s' H' hx => ?_
      unfold Qis at hx
      subst hx
      have ret : ∀ (h : (match evResults s' H' d.rs with | some r => finV H r .ret H' | none => none) = some (er, H1)),
          (∃ r r', evResults s' H' d.rs = some r ∧ FZ H.length H' r r' ∧ (∀ (b : Nat) (x : EB), b < H.length → H'[b]? = some (some x) → x.ok H.length = true) ∧ (ER.ret r' = er ∧ H'.take H.length = H1)) ∨ ∃ r, evResults s' H' d.rs = some r ∧ ER.ret r = er ∧ H' = H1 := by
        intro h
        split at h
        case h_2 => simp at h
        rename_i r hr
        rcases finV_some hok h with ⟨v', g1, g2, g3, g4⟩ | ⟨g3, g4⟩
        · exact .inl ⟨r, v', hr, g1, g2, g3.symm, g4.symm⟩
        · exact .inr ⟨r, hr, g3.symm, g4.symm⟩
      cases x with
      | normal => exact ret h
      | ret => exact ret h
      | panic v =>
        rcases finV_some hok h with ⟨v', g1, g2, g3, g4⟩ | ⟨g3, g4⟩
        · exact .inl ⟨v', g1, g2, g3.symm, g4.symm⟩
        · exact .inr ⟨g3.symm, g4.symm⟩
      | exit id => simp [finF] at h
      | goto l => simp [finF] at h

/-- WHAT A RUN SAYS OF THE PROGRAM. -/
theorem den_sound {E : Env} (hE : E.Sound P) {f : FuncId} {as : List EV} {er : ER} {H' : Heap} (h : den E f as H = some (er, H')) : CallsA P E.γ f as H fun e h => e = er ∧ h = H' := by
  obtain ⟨n, hn⟩ := den_iff.1 h
  exact runF_sound hE n _ _ _ _ _ hn

end
end Abs
