/- A run of resolved code over the abstract state, as a function; what it says of the program. -/
import Derived.Test.YtihgbhkpjehhcaaAbs15
namespace Abs
open Go
set_option linter.all false

def fnEq (f g : Fn) : Bool := decide (f = g)

mutual
def EV.beq : EV → EV → Bool
  | .undef, .undef => true
  | .bool a, .bool b => a == b
  | .int k a, .int k' b => decide (k = k') && a == b
  | .str a, .str b => a == b
  | .nilptr, .nilptr => true
  | .ptr b sz i j, .ptr b' sz' i' j' => b == b' && sz == sz' && i == i' && j == j'
  | .iptr c j, .iptr c' j' => beqL c c' && j == j'
  | .nilsl, .nilsl => true
  | .imm sz es, .imm sz' es' => sz == sz' && beqL es es'
  | .own b sz o l, .own b' sz' o' l' => b == b' && sz == sz' && o == o' && l == l'
  | .nilfn, .nilfn => true
  | .func f a b, .func f' a' b' => fnEq f f' && beqL a a' && beqL b b'
  | .nilif, .nilif => true
  | .iface t v, .iface t' v' => t == t' && EV.beq v v'
  | .nilmap, .nilmap => true
  | .map b, .map b' => b == b'
  | .agg cs, .agg cs' => beqL cs cs'
  | .tup cs, .tup cs' => beqL cs cs'
  | _, _ => false
def beqL : List EV → List EV → Bool
  | [], [] => true
  | x :: xs, y :: ys => EV.beq x y && beqL xs ys
  | _, _ => false
end

theorem fnEq_eq {f g : Fn} (h : fnEq f g = true) : f = g := of_decide_eq_true h

mutual
theorem EV.beq_eq : ∀ (a b : EV), EV.beq a b = true → a = b := by
  intro a b h
  cases a <;> cases b <;> simp only [EV.beq, Bool.and_eq_true, beq_iff_eq, decide_eq_true_eq, Bool.false_eq_true] at h <;> try rfl
  case bool.bool => rw [h]
  case int.int => rw [h.1, h.2]
  case str.str => rw [h]
  case ptr.ptr => rw [h.1.1.1, h.1.1.2, h.1.2, h.2]
  case iptr.iptr => rw [beqL_eq _ _ h.1, h.2]
  case imm.imm => rw [h.1, beqL_eq _ _ h.2]
  case own.own => rw [h.1.1.1, h.1.1.2, h.1.2, h.2]
  case func.func => rw [fnEq_eq h.1.1, beqL_eq _ _ h.1.2, beqL_eq _ _ h.2]
  case iface.iface => rw [h.1, EV.beq_eq _ _ h.2]
  case map.map => rw [h]
  case agg.agg => rw [beqL_eq _ _ h]
  case tup.tup => rw [beqL_eq _ _ h]
theorem beqL_eq : ∀ (a b : List EV), beqL a b = true → a = b := by
  intro a b h
  cases a with
  | nil => cases b with
    | nil => rfl
    | cons y ys => simp [beqL] at h
  | cons x xs => cases b with
    | nil => simp [beqL] at h
    | cons y ys =>
      simp only [beqL, Bool.and_eq_true] at h
      rw [EV.beq_eq x y h.1, beqL_eq xs ys h.2]
end

mutual
theorem EV.beq_refl : ∀ a : EV, EV.beq a a = true
  | .undef | .nilptr | .nilsl | .nilfn | .nilif | .nilmap => by simp only [EV.beq]
  | .bool b => by simp only [EV.beq, beq_self_eq_true]
  | .int k n => by simp only [EV.beq, beq_self_eq_true, decide_true, Bool.and_self]
  | .str s => by simp only [EV.beq, beq_self_eq_true]
  | .ptr b sz i j => by simp only [EV.beq, beq_self_eq_true, Bool.and_self]
  | .iptr c j => by simp only [EV.beq, beq_self_eq_true, beqL_refl c, Bool.and_self]
  | .imm sz es => by simp only [EV.beq, beq_self_eq_true, beqL_refl es, Bool.and_self]
  | .own b sz o l => by simp only [EV.beq, beq_self_eq_true, Bool.and_self]
  | .func f a b => by simp only [EV.beq, fnEq, decide_true, beqL_refl a, beqL_refl b, Bool.and_self]
  | .iface t v => by simp only [EV.beq, beq_self_eq_true, EV.beq_refl v, Bool.and_self]
  | .map b => by simp only [EV.beq, beq_self_eq_true]
  | .agg cs => by simp only [EV.beq, beqL_refl cs]
  | .tup cs => by simp only [EV.beq, beqL_refl cs]
theorem beqL_refl : ∀ l : List EV, beqL l l = true
  | [] => by simp only [beqL]
  | x :: xs => by simp only [beqL, EV.beq_refl x, beqL_refl xs, Bool.and_self]
end

def beqM : List (EV × EV) → List (EV × EV) → Bool
  | [], [] => true
  | x :: xs, y :: ys => EV.beq x.1 y.1 && EV.beq x.2 y.2 && beqM xs ys
  | _, _ => false
theorem beqM_eq : ∀ (a b : List (EV × EV)), beqM a b = true → a = b
  | [], [], _ => rfl
  | x :: xs, y :: ys, h => by
    simp only [beqM, Bool.and_eq_true] at h
    have h1 := EV.beq_eq _ _ h.1.1
    have h2 := EV.beq_eq _ _ h.1.2
    rw [beqM_eq xs ys h.2]
    cases x; cases y
    simp only at h1 h2
    rw [h1, h2]
  | [], _ :: _, h => by simp [beqM] at h
  | _ :: _, [], h => by simp [beqM] at h

def beqB : Option EB → Option EB → Bool
  | none, none => true
  | some (.row a b), some (.row a' b') => a == a' && beqL b b'
  | some (.map a), some (.map a') => beqM a a'
  | some (.it a b), some (.it a' b') => a == a' && b == b'
  | _, _ => false
theorem beqB_eq {a b : Option EB} (h : beqB a b = true) : a = b := by
  cases a with
  | none => cases b with
    | none => rfl
    | some y => simp [beqB] at h
  | some x => cases b with
    | none => simp [beqB] at h
    | some y =>
      cases x <;> cases y <;> simp only [beqB, Bool.and_eq_true, beq_iff_eq, Bool.false_eq_true] at h
      · rw [h.1, beqL_eq _ _ h.2]
      · rw [beqM_eq _ _ h]
      · rw [h.1, h.2]
def beqH : Heap → Heap → Bool
  | [], [] => true
  | x :: xs, y :: ys => beqB x y && beqH xs ys
  | _, _ => false
theorem beqH_eq : ∀ {a b : Heap}, beqH a b = true → a = b
  | [], [], _ => rfl
  | x :: xs, y :: ys, h => by
    simp only [beqH, Bool.and_eq_true] at h
    rw [beqB_eq h.1, beqH_eq h.2]
  | [], _ :: _, h => by simp [beqH] at h
  | _ :: _, [], h => by simp [beqH] at h

/-- Is the heap as it was? (Said, not reckoned: see sameH_self.) -/
def sameH (H' H : Heap) : Bool := H'.length == H.length && beqH H' H
theorem sameH_self (H : Heap) : sameH H H = true := by
  have hM : ∀ l : List (EV × EV), beqM l l = true := fun l => by
    induction l with
    | nil => rfl
    | cons x l ih => simp only [beqM, EV.beq_refl, ih, Bool.and_self]
  have hB : ∀ x : Option EB, beqB x x = true := fun x => by
    cases x with
    | none => rfl
    | some y => cases y <;> simp [beqB, beqL_refl, hM]
  have hH : ∀ H : Heap, beqH H H = true := fun H => by
    induction H with
    | nil => rfl
    | cons x H ih => simp only [beqH, hB, ih, Bool.and_self]
  unfold sameH
  rw [beq_self_eq_true, Bool.true_and, hH]
theorem sameH_eq {H' H : Heap} (h : sameH H' H = true) : H' = H := by
  unfold sameH at h
  rw [Bool.and_eq_true] at h
  exact beqH_eq h.2

/-! ### What is handed back -/
def mapO {α β : Type} (f : α → Option β) : List α → Option (List β)
  | [] => some []
  | x :: xs =>
    match f x, mapO f xs with
    | some y, some ys => some (y :: ys)
    | _, _ => none

theorem mapO_get {α β : Type} {f : α → Option β} : ∀ {l : List α} {l' : List β}, mapO f l = some l' → l.length = l'.length ∧ ∀ (k : Nat) (x : α) (y : β), l[k]? = some x → l'[k]? = some y → f x = some y
  | [], l', h => by simp only [mapO, Option.some.injEq] at h; subst h; simp
  | x :: xs, l', h => by
    simp only [mapO] at h
    split at h
    · rename_i y ys h1 h2
      simp only [Option.some.injEq] at h; subst h
      obtain ⟨g1, g2⟩ := mapO_get h2
      refine ⟨by simp [g1], fun k a b ha hb => ?_⟩
      cases k with
      | zero => simp only [List.getElem?_cons_zero, Option.some.injEq] at ha hb; subst ha hb; exact h1
      | succ k => exact g2 k a b (by simpa using ha) (by simpa using hb)
    · simp at h

theorem mapO_same {α : Type} {f : α → Option α} : ∀ {l : List α}, (∀ x ∈ l, f x = some x) → mapO f l = some l
  | [], _ => rfl
  | x :: xs, h => by simp only [mapO, h x (by simp), mapO_same (l := xs) fun y hy => h y (by simp [hy])]

def fz (L : Nat) (H : Heap) : Nat → EV → Option EV
  | 0, v => if v.ok L then some v else none
  | n + 1, v =>
    if v.ok L then some v else
    match v with
    | .own b sz off len =>
      if L ≤ b then
        match H[b]? with
        | some (some (.row sz' es)) => if sz = sz' ∧ off + len ≤ es.length then (mapO (fz L H n) ((es.drop off).take len)).map (.imm sz) else none
        | _ => none
      else none
    | .agg cs => (mapO (fz L H n) cs).map .agg
    | .tup cs => (mapO (fz L H n) cs).map .tup
    | .iface t x => (fz L H n x).map (.iface t)
    | .ptr b sz i j =>
      if L ≤ b then
        match H[b]? with
        | some (some (.row sz' es)) =>
          if sz = sz' then
            match es[i]? with
            | some e => (mapO (fz L H n) e.cells).map fun cs => .iptr cs j
            | none => none
          else none
        | _ => none
      else none
    | .func f [] cs => (mapO (fz L H n) cs).map (.func f [])
    | _ => none

/-- Frozen, cell by cell. -/
def FZc (L : Nat) (H : Heap) (v v' : EV) : Prop :=
  FZ L H v v' ∧ v.cells.length = v'.cells.length ∧ ∀ (j : Nat) (x x' : EV), v.cells[j]? = some x → v'.cells[j]? = some x' → FZ L H x x'

theorem FZc.one {L : Nat} {H : Heap} {v v' : EV} (h : FZ L H v v') (h1 : v.cells = [v]) (h2 : v'.cells = [v']) : FZc L H v v' := by
  refine ⟨h, by rw [h1, h2]; rfl, fun j x x' hx hx' => ?_⟩
  rw [h1] at hx
  rw [h2] at hx'
  cases j with
  | zero => simp only [List.getElem?_cons_zero, Option.some.injEq] at hx hx'; subst hx hx'; exact h
  | succ j => simp at hx

theorem FZc.same {L : Nat} {H : Heap} {v : EV} (h : v.ok L = true) : FZc L H v v := by
  refine ⟨.same v h, rfl, fun j x x' hx hx' => ?_⟩
  rw [hx] at hx'
  obtain rfl := Option.some.inj hx'
  exact .same x (ok_cells h x (List.mem_of_getElem? hx))

theorem fz_sound {L : Nat} {H : Heap} : ∀ (n : Nat) (v v' : EV), fz L H n v = some v' → FZc L H v v' := by
  intro n
  induction n with
  | zero =>
    intro v v' h
    simp only [fz] at h
    split at h
    · rename_i ho
      obtain rfl := Option.some.inj h
      exact .same ho
    · simp at h
  | succ n ih =>
    intro v v' h
    unfold fz at h
    split at h
    · rename_i ho
      obtain rfl := Option.some.inj h
      exact .same ho
    · split at h
      · split at h
        case isFalse => simp at h
        rename_i b sz off len _ hb
        split at h
        case h_2 => simp at h
        rename_i sz' es hH
        split at h
        case isFalse => simp at h
        rename_i hc
        obtain ⟨rfl, hlen⟩ := hc
        simp only [Option.map_eq_some_iff] at h
        obtain ⟨l, hl, rfl⟩ := h
        obtain ⟨g1, g2⟩ := mapO_get hl
        have key : ∀ (k : Nat) (e e' : EV), es[off + k]? = some e → l[k]? = some e' → FZc L H e e' := fun k e e' h1 h2 => by
          have hk := get_lt h2
          rw [← g1, List.length_take, List.length_drop] at hk
          exact ih _ _ (g2 k e e' (by rw [List.getElem?_take_of_lt (by omega), List.getElem?_drop]; exact h1) h2)
        refine .one (.own b sz off len es l hb hH hlen (by rw [← g1]; simp; omega) (fun k e e' h1 h2 => (key k e e' h1 h2).2.1) fun k j e e' x x' h1 h2 h3 h4 => (key k e e' h1 h2).2.2 j x x' h3 h4) rfl rfl
      · simp only [Option.map_eq_some_iff] at h
        obtain ⟨l, hl, rfl⟩ := h
        obtain ⟨g1, g2⟩ := mapO_get hl
        exact ⟨.agg _ _ g1 fun k x x' h1 h2 => (ih _ _ (g2 k x x' h1 h2)).1, g1, fun j x x' h1 h2 => (ih _ _ (g2 j x x' h1 h2)).1⟩
      · simp only [Option.map_eq_some_iff] at h
        obtain ⟨l, hl, rfl⟩ := h
        obtain ⟨g1, g2⟩ := mapO_get hl
        exact .one (.tup _ _ g1 fun k x x' h1 h2 => (ih _ _ (g2 k x x' h1 h2)).1) rfl rfl
      · simp only [Option.map_eq_some_iff] at h
        obtain ⟨x', hx, rfl⟩ := h
        exact .one (.iface _ _ _ (ih _ _ hx).1) rfl rfl
      · split at h
        case isFalse => simp at h
        rename_i b sz i j _ hb
        split at h
        case h_2 => simp at h
        rename_i sz' es hH
        split at h
        case isFalse => simp at h
        rename_i hs
        subst hs
        split at h
        case h_2 => simp at h
        rename_i e he
        simp only [Option.map_eq_some_iff] at h
        obtain ⟨l, hl, rfl⟩ := h
        obtain ⟨g1, g2⟩ := mapO_get hl
        exact .one (.ptr b sz i j es e l hb hH he g1 fun k x x' h1 h2 => (ih _ _ (g2 k x x' h1 h2)).1) rfl rfl
      · simp only [Option.map_eq_some_iff] at h
        obtain ⟨l, hl, rfl⟩ := h
        obtain ⟨g1, g2⟩ := mapO_get hl
        exact .one (.func _ _ _ g1 fun k x x' h1 h2 => (ih _ _ (g2 k x x' h1 h2)).1) rfl rfl
      · simp at h

theorem fz_ok {L : Nat} {H : Heap} {n : Nat} {v : EV} (h : v.ok L = true) : fz L H n v = some v := by
  cases n <;> (unfold fz; rw [if_pos h])

theorem fz_own {L : Nat} {H : Heap} {n b sz off len : Nat} {es : List EV} (hb : L ≤ b) (hH : H[b]? = some (some (.row sz es))) (hl : off + len ≤ es.length) (ho : okL L es = true) :
    fz L H (n + 1) (.own b sz off len) = some (.imm sz ((es.drop off).take len)) := by
  have h1 : (EV.own b sz off len).ok L = false := by simp [EV.ok]; exact hb
  unfold fz
  rw [if_neg (by rw [h1]; simp)]
  simp only [hH, if_pos hb]
  rw [if_pos ⟨trivial, hl⟩, mapO_same fun x hx => fz_ok (okL_iff.1 ho x (List.mem_of_mem_drop (List.mem_of_mem_take hx)))]
  rfl

/-! ### The run -/
structure FnD where
  ec : EC
  rs : List ERes
  nt : Nat

abbrev Res := Option (ER × Heap)
abbrev Xsh := AX × Slots × Heap

/-- A body that defers a call behind some code. -/
inductive EF where
  | code (ec : EC)
  | pre (a : EC) (f : EF)
  | dfr (l : List EOper) (f : EOpd) (args : List EOpd) (c : EC)

structure FnE where
  ef : EF
  rs : List ERes
  nt : Nat

/-- A function that is deferred: 'd1 := recover()' through d0, then code. -/
structure FnDf where
  d0 : Nat
  d1 : Nat
  ec : EC
  nt : Nat

/-- A program as it is run: its functions; those that defer; those that are deferred; what package-level variables lead to; what is known of functions. -/
structure Env where
  T : FuncId → Option FnD
  F : FuncId → Option FnE
  D : FuncId → Option FnDf
  γ : Nat → EV
  Ψ : FuncId → List EV → Option EV

def opF (call : FuncId → List EV → Heap → Res) (ρ : EOpd → EV) (H : Heap) (op : EOp) : Res :=
  match op with
  | .call f args =>
    match ρ f with
    | .func (.func g) first cap => call g (first ++ args.map ρ ++ cap) H
    | _ => none
  | .panic x =>
    match ρ x with
    | .iface t v => some (.pan (.iface t v), H)
    | _ => none
  | op =>
    match evOp ρ H op with
    | some (v, H') => some (.ret v, H')
    | none => none

/-- Behind an operation. -/
def stepO (r : Res) (s : Slots) (K : EV → Heap → Option Xsh) : Option Xsh :=
  match r with
  | some (.ret v, H) => K v H
  | some (.pan v, H) => some (.panic v, s, H)
  | none => none

def stepD (chg : Bool) (H : Heap) (r : Res) (K : EV → Heap → Option Xsh) : Option Xsh :=
  match r with
  | some (.ret v, H') => if chg || sameH H' H then K v H' else none
  | _ => none

def gateO (v : EV) (t : Bool) (a b : Option Xsh) : Option Xsh :=
  match v with
  | .bool t' => if t' = t then a else b
  | .tup [] => b
  | _ => none

def opsF (call : FuncId → List EV → Heap → Res) (γ : Nat → EV) : List EOper → Slots → Heap → Option Xsh
  | [], s, H => some (.normal, s, H)
  | o :: rest, s, H =>
    match o.guard with
    | none => stepO (opF call (ev γ s) H o.op) s fun v H' => opsF call γ rest (putA s o.dst v) H'
    | some (d, b) => gateO (s d) b (stepO (opF call (ev γ s) H o.op) s fun v H' => opsF call γ rest (putA s o.dst v) H') (opsF call γ rest (putA s o.dst (.tup [])) H)

def drF (call : FuncId → List EV → Heap → Res) (γ : Nat → EV) : List (EOper × Bool) → Slots → Heap → Option Xsh
  | [], s, H => some (.normal, s, H)
  | (o, chg) :: rest, s, H =>
    match o.guard with
    | none => stepD chg H (opF call (ev γ s) H o.op) fun v H' => drF call γ rest (putA s o.dst v) H'
    | some (d, b) => gateO (s d) b (stepD chg H (opF call (ev γ s) H o.op) fun v H' => drF call γ rest (putA s o.dst v) H') (drF call γ rest (putA s o.dst (.tup [])) H)

def bindN (x : Option Xsh) (K : Slots → Heap → Option Xsh) : Option Xsh :=
  match x with
  | some (.normal, s, H) => K s H
  | x => x

def blockX (id : Nat) (x : Option Xsh) : Option Xsh :=
  match x with
  | some (.exit id', s, H) => if id' = id then some (.normal, s, H) else some (.exit id', s, H)
  | x => x

def condA (c : EV) (a b : Option Xsh) : Option Xsh :=
  match c with
  | .bool t => if t = true then a else b
  | _ => none

def codeF (call : FuncId → List EV → Heap → Res) (γ : Nat → EV) : Nat → EC → Slots → Heap → Option Xsh
  | 0, _, _, _ => none
  | n + 1, c, s, H =>
    match c with
    | .skip => some (.normal, s, H)
    | .ops l => opsF call γ l s H
    | .draw l => drF call γ l s H
    | .drawS l us =>
      match dsF γ l s H with
      | some (s', H', fs) => if apart fs us then some (.normal, s', H') else none
      | none => none
    | .seq a b => bindN (codeF call γ n a s H) fun s' H' => codeF call γ n b s' H'
    | .cond c a b => condA (ev γ s c) (codeF call γ n a s H) (codeF call γ n b s H)
    | .block id c => blockX id (codeF call γ n c s H)
    | .loop c => bindN (codeF call γ n c s H) fun s' H' => codeF call γ n (.loop c) s' H'
    | .rangeFunc _ _ _ _ => none
    | .exit id => some (.exit id, s, H)
    | .ret => some (.ret, s, H)

def okB (n : Nat) (H : Heap) : Bool := (H.take n).all fun x => match x with | some y => y.ok n | none => true

def finV (H : Heap) (rv : EV) (K : EV → ER) (H' : Heap) : Res :=
  match fz H.length H' 8 rv with
  | some r => if sameH (H'.take H.length) H || okB H.length H' then some (K r, H'.take H.length) else none
  | none => none

/-- What a body comes to. -/
def finF (H : Heap) (rs : List ERes) (x : Option Xsh) : Res :=
  match x with
  | some (.normal, s, H') | some (.ret, s, H') =>
    match evResults s H' rs with
    | some r => finV H r .ret H'
    | none => none
  | some (.panic v, _, H') => finV H v .pan H'
  | _ => none

/-- A deferred call, with the value of the panic on its way, if there is one. -/
def dcF (call : FuncId → List EV → Heap → Res) (γ : Nat → EV) (D : FuncId → Option FnDf) (n : Nat) (g : FuncId) (as : List EV) (H : Heap) (pv : Option EV) : Option Heap :=
  match D g with
  | some d =>
    if as.length ≤ d.nt then
      match finF H [] (codeF call γ n d.ec (upd (upd (slots0 as) d.d0 (pv.getD .nilif)) d.d1 (pv.getD .nilif)) H) with
      | some (.ret _, H') => some H'
      | _ => none
    else none
  | none => none

def efF (call : FuncId → List EV → Heap → Res) (γ : Nat → EV) (n : Nat) : EF → Slots → Heap → Option (Xsh × Option (FuncId × List EV))
  | .code ec, s, H => (codeF call γ n ec s H).map fun x => (x, none)
  | .pre a f, s, H =>
    match codeF call γ n a s H with
    | some (.normal, s1, H1) => efF call γ n f s1 H1
    | some x => some (x, none)
    | none => none
  | .dfr l f args c, s, H =>
    match opsF call γ l s H with
    | some (.normal, s1, H1) =>
      match ev γ s1 f with
      | .func (.func g) first cap => (codeF call γ n c s1 H1).map fun x => (x, some (g, first ++ args.map (ev γ s1) ++ cap))
      | _ => none
    | some x => some (x, none)
    | none => none

def finR' (H : Heap) (rs : List ERes) (s : Slots) (H' : Heap) : Res :=
  match evResults s H' rs with
  | some r => finV H r .ret H'
  | none => none

def finE (call : FuncId → List EV → Heap → Res) (γ : Nat → EV) (D : FuncId → Option FnDf) (n : Nat) (H : Heap) (rs : List ERes) (x : Option (Xsh × Option (FuncId × List EV))) : Res :=
  match x with
  | some (x, none) => finF H rs (some x)
  | some ((.normal, s, H'), some (g, as)) | some ((.ret, s, H'), some (g, as)) =>
    match dcF call γ D n g as H' none with
    | some H2 => finR' H rs s H2
    | none => none
  | some ((.panic v, s, H'), some (g, as)) =>
    match dcF call γ D n g as H' (some v) with
    | some H2 => finR' H rs s H2
    | none => none
  | _ => none

def runF (E : Env) : Nat → FuncId → List EV → Heap → Res
  | 0, _, _, _ => none
  | n + 1, f, args, H =>
    match E.Ψ f args with
    | some v => some (.ret v, H)
    | none =>
      match E.T f with
      | some d => if args.length ≤ d.nt then finF H d.rs (codeF (runF E n) E.γ n d.ec (slots0 args) H) else none
      | none =>
        match E.F f with
        | some d => if args.length ≤ d.nt then finE (runF E n) E.γ E.D n H d.rs (efF (runF E n) E.γ n d.ef (slots0 args) H) else none
        | none => none

/-! ### More steps do no harm -/
theorem opF_mono {call call' : FuncId → List EV → Heap → Res} (hc : ∀ g as H r, call g as H = some r → call' g as H = some r) {ρ : EOpd → EV} {H : Heap} {op : EOp} {r : ER × Heap} (h : opF call ρ H op = some r) : opF call' ρ H op = some r := by
  cases op with
  | call f args =>
    simp only [opF] at h ⊢
    split at h
    · rename_i hf; exact hc _ _ _ _ h
    · simp at h
  | _ => exact h

theorem stepO_mono {r r' : Res} {s : Slots} {K K' : EV → Heap → Option Xsh} {x : Xsh} (hr : ∀ q, r = some q → r' = some q) (hk : ∀ v H y, K v H = some y → K' v H = some y) (h : stepO r s K = some x) : stepO r' s K' = some x := by
  unfold stepO at h
  split at h
  · rw [hr _ rfl]; exact hk _ _ _ h
  · rw [hr _ rfl]; exact h
  · simp at h

theorem stepD_mono {r r' : Res} {chg : Bool} {H : Heap} {K K' : EV → Heap → Option Xsh} {x : Xsh} (hr : ∀ q, r = some q → r' = some q) (hk : ∀ v H y, K v H = some y → K' v H = some y) (h : stepD chg H r K = some x) : stepD chg H r' K' = some x := by
  unfold stepD at h
  split at h
  · rw [hr _ rfl]
    simp only [stepD]
    split at h
    · rename_i hs; rw [if_pos hs]; exact hk _ _ _ h
    · simp at h
  · simp at h

theorem gateO_mono {v : EV} {t : Bool} {a a' b b' : Option Xsh} {x : Xsh} (ha : ∀ y, a = some y → a' = some y) (hb : ∀ y, b = some y → b' = some y) (h : gateO v t a b = some x) : gateO v t a' b' = some x := by
  unfold gateO at h
  split at h
  · simp only [gateO]
    split at h
    · rename_i e; rw [if_pos e]; exact ha _ h
    · rename_i e; rw [if_neg e]; exact hb _ h
  · simp only [gateO]; exact hb _ h
  · simp at h

theorem opsF_mono {call call' : FuncId → List EV → Heap → Res} (hc : ∀ g as H r, call g as H = some r → call' g as H = some r) {γ : Nat → EV} : ∀ (l : List EOper) (s : Slots) (H : Heap) (r : Xsh), opsF call γ l s H = some r → opsF call' γ l s H = some r
  | [], s, H, r, h => h
  | o :: rest, s, H, r, h => by
    unfold opsF at h ⊢
    have ih := opsF_mono hc (γ := γ) rest
    split at h
    · exact stepO_mono (fun q hq => opF_mono hc hq) (fun v H' y hy => ih _ _ _ hy) h
    · exact gateO_mono (fun y hy => stepO_mono (fun q hq => opF_mono hc hq) (fun v H' y hy => ih _ _ _ hy) hy) (fun y hy => ih _ _ _ hy) h

theorem drF_mono {call call' : FuncId → List EV → Heap → Res} (hc : ∀ g as H r, call g as H = some r → call' g as H = some r) {γ : Nat → EV} : ∀ (l : List (EOper × Bool)) (s : Slots) (H : Heap) (r : Xsh), drF call γ l s H = some r → drF call' γ l s H = some r
  | [], s, H, r, h => h
  | (o, chg) :: rest, s, H, r, h => by
    unfold drF at h ⊢
    have ih := drF_mono hc (γ := γ) rest
    split at h
    · exact stepD_mono (fun q hq => opF_mono hc hq) (fun v H' y hy => ih _ _ _ hy) h
    · exact gateO_mono (fun y hy => stepD_mono (fun q hq => opF_mono hc hq) (fun v H' y hy => ih _ _ _ hy) hy) (fun y hy => ih _ _ _ hy) h

theorem bindN_mono {x x' : Option Xsh} {K K' : Slots → Heap → Option Xsh} {y : Xsh} (hx : ∀ q, x = some q → x' = some q) (hk : ∀ s H q, K s H = some q → K' s H = some q) (h : bindN x K = some y) : bindN x' K' = some y := by
  cases x with
  | none => simp [bindN] at h
  | some q =>
    rw [hx _ rfl]
    obtain ⟨e, s, H⟩ := q
    cases e with
    | normal => exact hk _ _ _ h
    | _ => exact h

theorem blockX_mono {id : Nat} {x x' : Option Xsh} {y : Xsh} (hx : ∀ q, x = some q → x' = some q) (h : blockX id x = some y) : blockX id x' = some y := by
  cases x with
  | none => simp [blockX] at h
  | some q => rw [hx _ rfl]; exact h

theorem condA_mono {c : EV} {a a' b b' : Option Xsh} {x : Xsh} (ha : ∀ y, a = some y → a' = some y) (hb : ∀ y, b = some y → b' = some y) (h : condA c a b = some x) : condA c a' b' = some x := by
  unfold condA at h
  split at h
  · simp only [condA]
    split at h
    · rename_i e; rw [if_pos e]; exact ha _ h
    · rename_i e; rw [if_neg e]; exact hb _ h
  · simp at h

theorem codeF_mono {call call' : FuncId → List EV → Heap → Res} (hc : ∀ g as H r, call g as H = some r → call' g as H = some r) {γ : Nat → EV} : ∀ (n m : Nat), n ≤ m → ∀ (c : EC) (s : Slots) (H : Heap) (r : Xsh), codeF call γ n c s H = some r → codeF call' γ m c s H = some r
  | 0, _, _, c, s, H, r, h => by simp [codeF] at h
  | n + 1, 0, hm, _, _, _, _, _ => by omega
  | n + 1, m + 1, hm, c, s, H, r, h => by
    have ih := codeF_mono hc (γ := γ) n m (by omega)
    cases c with
    | skip => exact h
    | ops l => exact opsF_mono hc _ _ _ _ h
    | draw l => exact drF_mono hc _ _ _ _ h
    | drawS l us => exact h
    | seq a b => exact bindN_mono (fun q hq => ih _ _ _ _ hq) (fun s H q hq => ih _ _ _ _ hq) h
    | cond c a b => exact condA_mono (fun q hq => ih _ _ _ _ hq) (fun q hq => ih _ _ _ _ hq) h
    | block id c => exact blockX_mono (fun q hq => ih _ _ _ _ hq) h
    | loop c => exact bindN_mono (fun q hq => ih _ _ _ _ hq) (fun s H q hq => ih _ _ _ _ hq) h
    | rangeFunc f p d c => simp [codeF] at h
    | exit id => exact h
    | ret => exact h

theorem finF_mono {H : Heap} {rs : List ERes} {x x' : Option Xsh} {r : ER × Heap} (hx : ∀ q, x = some q → x' = some q) (h : finF H rs x = some r) : finF H rs x' = some r := by
  cases x with
  | none => simp [finF] at h
  | some q => rw [hx _ rfl]; exact h

theorem dcF_mono {call call' : FuncId → List EV → Heap → Res} (hc : ∀ g as H r, call g as H = some r → call' g as H = some r) {γ : Nat → EV} {D : FuncId → Option FnDf} {n m : Nat} (h : n ≤ m) {g : FuncId} {as : List EV} {H H' : Heap} {pv : Option EV}
    (hd : dcF call γ D n g as H pv = some H') : dcF call' γ D m g as H pv = some H' := by
  unfold dcF at hd ⊢
  split at hd
  · split at hd
    · rename_i hl
      rw [if_pos hl]
      split at hd
      · rename_i hf
        rw [finF_mono (fun q hq => codeF_mono hc n m h _ _ _ _ hq) hf]
        exact hd
      · simp at hd
    · simp at hd
  · simp at hd

theorem efF_mono {call call' : FuncId → List EV → Heap → Res} (hc : ∀ g as H r, call g as H = some r → call' g as H = some r) {γ : Nat → EV} {n m : Nat} (h : n ≤ m) : ∀ (f : EF) (s : Slots) (H : Heap) (r : Xsh × Option (FuncId × List EV)),
    efF call γ n f s H = some r → efF call' γ m f s H = some r
  | .code ec, s, H, r, hr => by
    simp only [efF, Option.map_eq_some_iff] at hr ⊢
    obtain ⟨x, hx, rfl⟩ := hr
    exact ⟨x, codeF_mono hc n m h _ _ _ _ hx, rfl⟩
  | .pre a f, s, H, r, hr => by
    have ih := efF_mono hc (γ := γ) h f
    simp only [efF] at hr ⊢
    cases hx : codeF call γ n a s H with
    | none => rw [hx] at hr; simp at hr
    | some x =>
      rw [codeF_mono hc n m h _ _ _ _ hx]
      rw [hx] at hr
      obtain ⟨x, s1, H1⟩ := x
      cases x with
      | normal => exact ih _ _ _ hr
      | _ => exact hr
  | .dfr l f args c, s, H, r, hr => by
    simp only [efF] at hr ⊢
    cases hx : opsF call γ l s H with
    | none => rw [hx] at hr; simp at hr
    | some x =>
      rw [opsF_mono hc _ _ _ _ hx]
      rw [hx] at hr
      obtain ⟨x, s1, H1⟩ := x
      cases x with
      | normal =>
        simp only at hr ⊢
        split at hr
        · simp only [Option.map_eq_some_iff] at hr ⊢
          obtain ⟨x, hx, rfl⟩ := hr
          exact ⟨x, codeF_mono hc n m h _ _ _ _ hx, rfl⟩
        · simp at hr
      | _ => exact hr

theorem finE_mono {call call' : FuncId → List EV → Heap → Res} (hc : ∀ g as H r, call g as H = some r → call' g as H = some r) {γ : Nat → EV} {D : FuncId → Option FnDf} {n m : Nat} (h : n ≤ m) {H : Heap} {rs : List ERes} {x : Xsh × Option (FuncId × List EV)} {r : ER × Heap}
    (hr : finE call γ D n H rs (some x) = some r) : finE call' γ D m H rs (some x) = some r := by
  obtain ⟨⟨x, s, H'⟩, d⟩ := x
  cases d with
  | none => exact hr
  | some p =>
    obtain ⟨g, as⟩ := p
    have key : ∀ pv, (match dcF call γ D n g as H' pv with | some H2 => finR' H rs s H2 | none => none) = some r → (match dcF call' γ D m g as H' pv with | some H2 => finR' H rs s H2 | none => none) = some r := by
      intro pv hk
      split at hk
      · rename_i H2 h2
        rw [dcF_mono hc h h2]
        exact hk
      · simp at hk
    cases x with
    | normal => exact key _ hr
    | ret => exact key _ hr
    | panic v => exact key _ hr
    | exit id => simp [finE] at hr
    | goto l => simp [finE] at hr

theorem runF_mono (E : Env) : ∀ (n m : Nat), n ≤ m → ∀ (f : FuncId) (as : List EV) (H : Heap) (r : ER × Heap), runF E n f as H = some r → runF E m f as H = some r
  | 0, _, _, f, as, H, r, h => by simp [runF] at h
  | n + 1, 0, hm, _, _, _, _, _ => by omega
  | n + 1, m + 1, hm, f, as, H, r, h => by
    have ih := runF_mono E n m (by omega)
    unfold runF at h ⊢
    split at h
    · exact h
    · split at h
      · rename_i d hd
        split at h
        · rename_i hl
          simp only [if_pos hl]
          exact finF_mono (fun q hq => codeF_mono (fun g as H r hr => ih g as H r hr) n m (by omega) _ _ _ _ hq) h
        · simp at h
      · split at h
        · rename_i d hd
          split at h
          · rename_i hl
            simp only [if_pos hl]
            cases hx : efF (runF E n) E.γ n d.ef (slots0 as) H with
            | none => rw [hx] at h; simp [finE] at h
            | some x =>
              rw [efF_mono (fun g as H r hr => ih g as H r hr) (by omega : n ≤ m) _ _ _ _ hx]
              rw [hx] at h
              exact finE_mono (fun g as H r hr => ih g as H r hr) (by omega) h
          · simp at h
        · simp at h

end Abs
