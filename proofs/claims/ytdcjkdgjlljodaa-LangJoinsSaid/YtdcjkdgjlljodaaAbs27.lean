/- A part. -/
import Derived.Test.YtdcjkdgjlljodaaAbs24
set_option linter.all false
namespace Abs
open Go
def EOp.isStore : EOp → Bool
 | .store _ _ _ => true
 | _ => false
def EOp.isMem : EOp → Bool
 | .store _ _ _ | .load _ _ _ => true
 | _ => false
def usOf (l : List EOper) (pre : List (List Nat)) : List (Nat × Nat) :=
 (List.range l.length).flatMap fun i => (List.range i).filterMap fun j =>
  if (l.getD j default).op.isMem && (l.getD i default).op.isMem && ((l.getD j default).op.isStore || (l.getD i default).op.isStore) && !(pre.getD i []).contains j then some (j, i) else none
def okS (l : List EOper) (deps pre : List (List Nat)) : Bool :=
 l.all (fun o => o.guard.isNone && (o.op.isMem || !o.op.looks)) &&
 (List.range l.length).all fun i =>
  (deps.getD i []).all (· < i) &&
  (pre.getD i []).all (fun j => (deps.getD i []).any fun k => k == j || (pre.getD k []).contains j) &&
  (List.range i).all fun j => !ag8 (l.getD j default) (l.getD i default) || (pre.getD i []).contains j
def fbOf (γ : Nat → EV) (s : aa2) (o : EOper) : Option Nat :=
 match o.op with
 | .load _ _ x | .store _ x _ =>
  match ev γ s x with
  | .ptr b _ _ _ => some b
  | _ => none
 | _ => none
def dsF (γ : Nat → EV) : List EOper → aa2 → Heap → Option (aa2 × Heap × List (Option Nat))
 | [], s, H => some (s, H, [])
 | o :: l, s, H =>
  match evOp (ev γ s) H o.op with
  | some (v, H') =>
   match dsF γ l (putA s o.dst v) H' with
   | some (s', H'', fs) => some (s', H'', fbOf γ s o :: fs)
   | none => none
  | none => none
def cj6 (fs : List (Option Nat)) (us : List (Nat × Nat)) : Bool :=
 us.all fun p =>
  match fs.getD p.1 none, fs.getD p.2 none with
  | some a, some b => a != b
  | _, _ => true
section
variable {P : Program} {γ : Nat → EV} {n : Nat} {nb : NB} {φ φ0 : Nat → Nat} {I I0 : Nat → Prop} {s : aa2} {H H0 : Heap} {a : Act} {w w0 : World}
theorem cp3 : ∀ (l : List EOper) (s : aa2) (H : Heap) {s' : aa2} {H' : Heap} {fs : List (Option Nat)}, dsF γ l s H = some (s', H', fs) →
  ∃ (val : Nat → EV) (hs : Nat → Heap), hs 0 = H ∧ (∀ i (hi : i < l.length), evOp (ev γ (stS val (fun j => decide (j < i)) 0 l s)) (hs i) l[i].op = some (val i, hs (i + 1)) ∧ fs.getD i none = fbOf γ (stS val (fun j => decide (j < i)) 0 l s) l[i]) ∧
   s' = stS val (fun _ => true) 0 l s ∧ H' = hs l.length
 | [], s, H, s', H', fs, h => by
  simp only [dsF, Option.some.injEq, Prod.mk.injEq] at h
  obtain ⟨rfl, rfl, rfl⟩ := h
  exact ⟨fun _ => .undef, fun _ => H, rfl, by simp, rfl, rfl⟩
 | o :: l, s, H, s', H', fs, h => by
  simp only [dsF] at h
  split at h
  case h_2 => simp at h
  rename_i v H1 hev
  split at h
  case h_2 => simp at h
  rename_i s2 H2 fs2 hrest
  simp only [Option.some.injEq, Prod.mk.injEq] at h
  obtain ⟨rfl, rfl, rfl⟩ := h
  obtain ⟨val, hs, g0, g1, g2, g3⟩ := cp3 l _ _ hrest
  have shift : ∀ (S : Nat → Bool) (l : List EOper) (i : Nat) (s : aa2), stS (fun j => match j with | 0 => v | j + 1 => val j) S (i + 1) l s = stS val (fun j => S (j + 1)) i l s := by
   intro S l
   induction l with
   | nil => intro i s; rfl
   | cons o' l ih => intro i s; simp only [stS]; rw [ih]
  have none_ : ∀ (l : List EOper) (i : Nat) (s : aa2), stS (fun j => match j with | 0 => v | j + 1 => val j) (fun j => decide (j < 0)) i l s = s := by
   intro l
   induction l with
   | nil => intro i s; rfl
   | cons o' l ih => intro i s; simp only [stS, Nat.not_lt_zero, decide_false, Bool.false_eq_true, if_false]; exact ih _ _
  refine ⟨fun j => match j with | 0 => v | j + 1 => val j, fun j => match j with | 0 => H | j + 1 => hs j, rfl, fun i hi => ?_, ?_, g3⟩
  ·cases i with
   | zero =>
    rw [none_]
    simp only [List.getElem_cons_zero, g0]
    exact ⟨hev, rfl⟩
   | succ i =>
    have hi' : i < l.length := by simpa using hi
    have := g1 i hi'
    simp only [stS, List.getElem_cons_succ]
    rw [shift]
    simp only [Nat.zero_lt_succ, decide_true, if_true, Nat.succ_lt_succ_iff]
    exact this
  ·rw [g2]
   simp only [stS, if_true]
   rw [shift]
theorem bn8 {ρ : EOpd → EV} {H H' : Heap} {k : Nat} {x v : EOpd} {u : EV} (h : evOp ρ H (.store k x v) = some (u, H')) :
  ∃ b sz i j y, ρ x = .ptr b sz i j ∧ b < H.length ∧ H' = H.set b (some y) ∧ ∀ H2 : Heap, H2[b]? = H[b]? → evOp ρ H2 (.store k x v) = some (u, H2.set b (some y)) := by
 simp only [evOp, Option.map_eq_some_iff, Prod.mk.injEq] at h
 obtain ⟨H1, h1, rfl, rfl⟩ := h
 unfold bt5 at h1
 split at h1
 case h_2 => simp at h1
 rename_i b sz i j hx
 split at h1
 case h_2 => simp at h1
 rename_i sz' es hb
 split at h1
 case isFalse => simp at h1
 rename_i hsz
 split at h1
 case h_2 => simp at h1
 rename_i e he
 split at h1
 case isFalse => simp at h1
 rename_i hc
 obtain rfl := Option.some.inj h1
 refine ⟨b, sz, i, j, _, hx, aa3 hb, rfl, fun H2 h2 => ?_⟩
 simp only [evOp, bt5, hx, h2, hb, if_pos hsz, he]
 rw [if_pos hc]
 rfl
theorem bt0 {ρ : EOpd → EV} {H H' : Heap} {ag : Bool} {k : Nat} {x : EOpd} {u : EV} (h : evOp ρ H (.load ag k x) = some (u, H')) :
  H' = H ∧ ((∃ b sz i j, ρ x = .ptr b sz i j ∧ ∀ H2 : Heap, H2[b]? = H[b]? → evOp ρ H2 (.load ag k x) = some (u, H2)) ∨ ∀ H2 : Heap, evOp ρ H2 (.load ag k x) = some (u, H2)) := by
 simp only [evOp, Option.map_eq_some_iff, Prod.mk.injEq] at h
 obtain ⟨v, h1, rfl, rfl⟩ := h
 refine ⟨rfl, ?_⟩
 cases hx : ρ x with
 | ptr b sz i j =>
  refine .inl ⟨b, sz, i, j, rfl, fun H2 h2 => ?_⟩
  rw [hx] at h1
  simp only [evOp, hx]
  have : az6 ag k (.ptr b sz i j) H2 = az6 ag k (.ptr b sz i j) H := by simp only [az6, h2]
  rw [this, h1]
  rfl
 | iptr cs j =>
  refine .inr fun H2 => ?_
  rw [hx] at h1
  simp only [evOp, hx]
  have : az6 ag k (.iptr cs j) H2 = az6 ag k (.iptr cs j) H := rfl
  rw [this, h1]
  rfl
 | _ => rw [hx] at h1; simp [az6] at h1
theorem eh5 {op : EOp} {v : EV} {H' : Heap} (hev : evOp (ev γ s) H op = some (v, H')) : Acts P γ s H op v H' := by
 unfold Acts
 split
 ·simp [evOp] at hev
 ·exact hev
def cont (hs : Nat → Heap) (st : Nat → Option Nat) (S : Nat → Bool) (b : Nat) : Nat → Option (Option EB)
 | 0 => (hs 0)[b]?
 | k + 1 => if S k = true ∧ st k = some b then (hs (k + 1))[b]? else cont hs st S b k
theorem cb1 {hs : Nat → Heap} {st : Nat → Option Nat} {N b i : Nat} {S : Nat → Bool} (hi : i ≤ N) (hne : ∀ k, k < N → st k ≠ some b → (hs (k + 1))[b]? = (hs k)[b]?) (hS : ∀ k, k < N → st k = some b → S k = decide (k < i)) :
  cont hs st S b N = (hs i)[b]? := by
 have key : ∀ k, k ≤ N → cont hs st S b k = (hs (min k i))[b]? := by
  intro k
  induction k with
  | zero => intro _; simp [cont]
  | succ k ih =>
   intro hk
   have ih' := ih (by omega)
   simp only [cont]
   by_cases hst : st k = some b
   ·have h1 := hS k (by omega) hst
    by_cases hki : k < i
    ·rw [if_pos ⟨by rw [h1]; simp [hki], hst⟩, Nat.min_eq_left (by omega)]
    ·rw [if_neg (by rw [h1]; simp [hki]), ih', Nat.min_eq_right (by omega), Nat.min_eq_right (by omega)]
   ·rw [if_neg (by simp [hst]), ih']
    by_cases hki : k < i
    ·rw [Nat.min_eq_left (by omega), Nat.min_eq_left (by omega), hne k (by omega) hst]
    ·rw [Nat.min_eq_right (by omega), Nat.min_eq_right (by omega)]
 have := key N (Nat.le_refl _)
 rwa [Nat.min_eq_right hi] at this
theorem cb0 {hs : Nat → Heap} {st : Nat → Option Nat} {b i : Nat} {S : Nat → Bool} (hb : st i ≠ some b) : ∀ N, cont hs st (fun j => S j || j == i) b N = cont hs st S b N
 | 0 => rfl
 | N + 1 => by
  simp only [cont, cb0 hb N]
  by_cases hN : N = i
  ·subst hN; rw [if_neg (by simp [hb]), if_neg (by simp [hb])]
  ·have : (N == i) = false := by simp [hN]
   simp only [this, Bool.or_false]
set_option maxHeartbeats 2000000 in
theorem cw7 {Q : AX → aa2 → Heap → Prop} {own : List Nat} {ops : Array Oper} {l : List EOper} {pre : List (List Nat)} (hl : ops.toList.mapM (ai5 P n own ops) = some l) (hok : okS l (ae0 ops) pre = true)
  (hR : Rel γ n nb φ I s H a w) {s' : aa2} {H' : Heap} {fs : List (Option Nat)} (h : dsF γ l s H = some (s', H', fs)) (hap : cj6 fs (usOf l pre) = true) (hQ : Q .normal s' H') :
  wpAny P .any ops (Post γ n nb φ I H w Q) ops.size (Array.replicate ops.size false) a { w with drawn := w.drawn + 1 } := by
 obtain ⟨val, hs, g0, g1, rfl, rfl⟩ := cp3 l s H h
 obtain ⟨ml, mres⟩ := ao1 hl
 have hsz : l.length = ops.size := by simpa using ml
 simp only [okS, Bool.and_eq_true] at hok
 obtain ⟨okA1, okA2⟩ := hok
 have hgetD : ∀ i (hi : i < l.length), l.getD i default = l[i] := fun i hi => by simp [hi]
 have kinds : ∀ i (hi : i < l.length), l[i].guard = none ∧ (l[i].op.isMem = true ∨ l[i].op.looks = false) := by
  intro i hi
  have := List.all_eq_true.1 okA1 l[i] (List.getElem_mem hi)
  simp only [Bool.and_eq_true, Option.isNone_iff_eq_none, Bool.or_eq_true, Bool.not_eq_true'] at this
  exact this
 have ok1 : ∀ i, i < l.length → (∀ k ∈ (ae0 ops).getD i [], k < i) ∧ (∀ j ∈ pre.getD i [], ∃ k ∈ (ae0 ops).getD i [], k = j ∨ j ∈ pre.getD k []) ∧
   ∀ j, j < i → ag8 (l.getD j default) (l.getD i default) = true → j ∈ pre.getD i [] := by
  intro i hi
  have := List.all_eq_true.1 okA2 i (List.mem_range.2 hi)
  simp only [Bool.and_eq_true, List.all_eq_true, decide_eq_true_eq, List.any_eq_true, Bool.or_eq_true, beq_iff_eq, List.contains_iff_mem, List.mem_range, Bool.not_eq_true'] at this
  obtain ⟨⟨a1, a2⟩, a3⟩ := this
  refine ⟨a1, a2, fun j hj hme => ?_⟩
  rcases a3 j hj with h | h
  ·rw [hme] at h; simp at h
  ·exact h
 have preIn : ∀ (S : Nat → Bool), (∀ i, i < l.length → S i = true → ∀ k ∈ (ae0 ops).getD i [], S k = true) → ∀ i, i < l.length → (∀ k ∈ (ae0 ops).getD i [], S k = true) → ∀ j ∈ pre.getD i [], S j = true := by
  intro S hcl' i
  induction i using Nat.strongRecOn with
  | _ i ih =>
   intro hi hd j hj
   obtain ⟨k, hk, hkj⟩ := (ok1 i hi).2.1 j hj
   have hki := (ok1 i hi).1 k hk
   rcases hkj with rfl | hkj
   ·exact hd k hk
   ·exact ih k hki (by omega) (hcl' k (by omega) (hd k hk)) j hkj
 obtain ⟨σ, hσ⟩ : ∃ σ : Nat → aa2, ∀ i, σ i = stS val (fun j => decide (j < i)) 0 l s := ⟨_, fun _ => rfl⟩
 have text : ∀ i (hi : i < l.length), evOp (ev γ (σ i)) (hs i) l[i].op = some (val i, hs (i + 1)) ∧ fs.getD i none = fbOf γ (σ i) l[i] := fun i hi => by rw [hσ]; exact g1 i hi
 -- which blocks are stored to
 obtain ⟨st, hst⟩ : ∃ st : Nat → Option Nat, ∀ i, st i = if h : i < l.length then (if l[i].op.isStore = true then fbOf γ (σ i) l[i] else none) else none := ⟨_, fun _ => rfl⟩
 have hlen : ∀ i, i ≤ l.length → (hs i).length = H.length := by
  intro i
  induction i with
  | zero => intro _; rw [g0]
  | succ i ih =>
   intro hi
   have hi' : i < l.length := by omega
   rw [← ih (by omega)]
   obtain ⟨hev, _⟩ := text i hi'
   rcases (kinds i hi').2 with hk | hk
   ·cases hop : l[i].op with
    | store k x v =>
     rw [hop] at hev
     obtain ⟨b, sz, ii, j, y, _, _, e, _⟩ := bn8 hev
     rw [e, List.length_set]
    | load ag k x =>
     rw [hop] at hev
     rw [(bt0 hev).1]
    | _ => rw [hop] at hk; simp [EOp.isMem] at hk
   ·have he : l[i].op.eff = false := by
     cases he : l[i].op.eff with
     | false => rfl
     | true => rw [bl7 he] at hk; simp at hk
    rw [bn3 he hev]
 have hkeep : ∀ (b i : Nat), i < l.length → st i ≠ some b → (hs (i + 1))[b]? = (hs i)[b]? := by
  intro b i hi hb
  obtain ⟨hev, _⟩ := text i hi
  rcases (kinds i hi).2 with hk | hk
  ·cases hop : l[i].op with
   | store k x v =>
    rw [hop] at hev
    obtain ⟨b', sz, ii, j, y, hx, _, e, _⟩ := bn8 hev
    have : st i = some b' := by rw [hst, dif_pos hi, hop]; simp [EOp.isStore, fbOf, hop, hx]
    rw [e, List.getElem?_set_ne]
    intro e2
    exact hb (by rw [this, e2])
   | load ag k x =>
    rw [hop] at hev
    rw [(bt0 hev).1]
   | _ => rw [hop] at hk; simp [EOp.isMem] at hk
  ·have he : l[i].op.eff = false := by
    cases he : l[i].op.eff with
    | false => rfl
    | true => rw [bl7 he] at hk; simp at hk
   rw [bn3 he hev]
 obtain ⟨eta, heta⟩ : ∃ eta : (Nat → Bool) → Heap, ∀ S, eta S = (List.range H.length).map fun b => (cont hs st S b l.length).getD none := ⟨_, fun _ => rfl⟩
 have contSome : ∀ S b, b < H.length → ∀ N, N ≤ l.length → ∃ x, cont hs st S b N = some x := by
  intro S b hb N
  induction N with
  | zero => intro _; exact ⟨_, by simp only [cont]; rw [g0]; exact List.getElem?_eq_getElem hb⟩
  | succ N ih =>
   intro hN
   simp only [cont]
   split
   ·exact ⟨_, List.getElem?_eq_getElem (by rw [hlen _ hN]; exact hb)⟩
   ·exact ih (by omega)
 have etaGet : ∀ S b, b < H.length → (eta S)[b]? = cont hs st S b l.length := by
  intro S b hb
  obtain ⟨x, hx⟩ := contSome S b hb l.length (Nat.le_refl _)
  rw [heta, List.getElem?_map, List.getElem?_range hb, Option.map_some, hx]
  rfl
 have etaLen : ∀ S, (eta S).length = H.length := fun S => by rw [heta]; simp
 have etaIs : ∀ (S : Nat → Bool) (G : Heap), G.length = H.length → (∀ b, b < H.length → cont hs st S b l.length = G[b]?) → eta S = G := by
  intro S G hG hb
  apply List.ext_getElem?
  intro b
  by_cases hlt : b < H.length
  ·rw [etaGet S b hlt, hb b hlt]
  ·rw [List.getElem?_eq_none (by rw [etaLen]; omega), List.getElem?_eq_none (by omega)]
 have apartOf : ∀ j i (hj : j < i) (hi : i < l.length), l[j].op.isMem = true → l[i].op.isMem = true → (l[j].op.isStore = true ∨ l[i].op.isStore = true) → ∀ b, fbOf γ (σ j) l[j] = some b → fbOf γ (σ i) l[i] = some b → j ∈ pre.getD i [] := by
  intro j i hj hi m1 m2 ms b f1 f2
  by_cases hp : j ∈ pre.getD i []
  ·exact hp
  ·exfalso
   have hmem : (j, i) ∈ usOf l pre := by
    unfold usOf
    refine List.mem_flatMap.2 ⟨i, List.mem_range.2 hi, List.mem_filterMap.2 ⟨j, List.mem_range.2 hj, ?_⟩⟩
    rw [hgetD i hi, hgetD j (by omega), m1, m2]
    have h1 : (l[j].op.isStore || l[i].op.isStore) = true := by simpa using ms
    have h2 : (pre.getD i []).contains j = false := by
     rw [Bool.eq_false_iff]; intro hh; exact hp (List.contains_iff_mem.1 hh)
    simp only [h1, h2, Bool.and_self, Bool.not_false, if_true]
   have := List.all_eq_true.1 hap _ hmem
   simp only [(text j (by omega)).2, (text i hi).2, f1, f2] at this
   simp at this
 -- one operation, whatever stands behind it already
 have one : ∀ (S : Nat → Bool), (∀ i, i < l.length → S i = true → ∀ k ∈ (ae0 ops).getD i [], S k = true) → ∀ i (hi : i < l.length), S i = false → (∀ k ∈ (ae0 ops).getD i [], S k = true) →
   Runs P γ (stS val S 0 l s) (eta S) l[i] (val i) (eta fun j => S j || j == i) ∧
   putA (stS val S 0 l s) l[i].dst (val i) = stS val (fun j => S j || j == i) 0 l s := by
  intro S hSc i hi hSi hSd
  have before : ∀ j, j < i → j ∈ pre.getD i [] → S j = true := fun j hj hp => preIn S hSc i hi hSd j hp
  have behind : ∀ j, i < j → j < l.length → i ∈ pre.getD j [] → S j = false := by
   intro j hj hj' hp
   cases hSj : S j with
   | false => rfl
   | true =>
    have := preIn S hSc j hj' (hSc j hj' hSj) i hp
    rw [hSi] at this; simp at this
  have slots : ∀ t ∈ l[i].reads, σ i t = stS val S 0 l s t := by
   intro t ht
   rw [hσ]
   refine bb4 l 0 s s (fun k o hk hd => ?_) rfl
   rw [Nat.zero_add]
   have hkl := aa3 hk
   have hok : l[k] = o := by simpa [hkl] using hk
   rcases Nat.lt_trichotomy k i with hlt | rfl | hgt
   ·rw [before k hlt ((ok1 i hi).2.2 k hlt (by rw [hgetD k hkl, hgetD i hi]; simp [ag8, hok, hd, ht]))]; simp [hlt]
   ·rw [hSi]; simp
   ·rw [behind k hgt hkl ((ok1 k hkl).2.2 i hgt (by rw [hgetD k hkl, hgetD i hi]; simp [ag8, hok, hd, ht]))]; simp; omega
  have others : ∀ b, l[i].op.isMem = true → fbOf γ (σ i) l[i] = some b → ∀ k, k < l.length → k ≠ i → st k = some b → S k = decide (k < i) := by
   intro b hm hb k hk hne hsk
   rw [hst, dif_pos hk] at hsk
   split at hsk
   case isFalse => simp at hsk
   rename_i hks
   have hkm : l[k].op.isMem = true := by revert hks; cases l[k].op <;> simp [EOp.isStore, EOp.isMem]
   rcases Nat.lt_or_gt_of_ne hne with hlt | hgt
   ·rw [before k hlt (apartOf k i hlt hi hkm hm (.inl hks) b hsk hb)]; simp [hlt]
   ·rw [behind k hgt hk (apartOf i k hgt hk hm hkm (.inr hks) b hb hsk)]; simp; omega
  have hgd := (kinds i hi).1
  obtain ⟨hev, _⟩ := text i hi
  have hopds : ∀ x ∈ l[i].op.opds, ev γ (σ i) x = ev γ (stS val S 0 l s) x := fun x hx => br6 fun t ht => slots t (List.mem_append_left _ (List.mem_filterMap.2 ⟨x, hx, ht⟩))
  refine ⟨?_, ?_⟩
  ·unfold Runs
   rw [hgd]
   have act : ∀ {v : EV} {G : Heap}, evOp (ev γ (σ i)) (eta S) l[i].op = some (v, G) → Acts P γ (stS val S 0 l s) (eta S) l[i].op v G := by
    intro v G h
    rw [bt6 hopds] at h
    exact eh5 h
   have plain : l[i].op.isStore = false → eta (fun j => S j || j == i) = eta S := by
    intro hns
    have hsti : ∀ b, st i ≠ some b := fun b => by rw [hst, dif_pos hi, hns]; simp
    rw [heta, heta]
    apply List.map_congr_left
    intro b _
    rw [cb0 (hsti b)]
   rcases (kinds i hi).2 with hk | hk
   ·cases hop : l[i].op with
    | store k x v =>
     rw [hop] at hev
     obtain ⟨b, sz, ii, j, y, hx, hbl, e, hev2⟩ := bn8 hev
     have hfb : fbOf γ (σ i) l[i] = some b := by simp [fbOf, hop, hx]
     have hsti : st i = some b := by rw [hst, dif_pos hi, hop]; simp [EOp.isStore, hfb]
     have hbH : b < H.length := by rw [hlen i (by omega)] at hbl; exact hbl
     have oth := others b (by rw [hop]; rfl) hfb
     have e1 : cont hs st S b l.length = (hs i)[b]? := cb1 (by omega) (fun k hk hne => hkeep b k hk hne) fun k hk hsk => by
      by_cases hki : k = i
      ·subst hki; rw [hSi]; simp
      ·exact oth k hk hki hsk
     have e2 : cont hs st (fun j => S j || j == i) b l.length = (hs (i + 1))[b]? := cb1 (by omega) (fun k hk hne => hkeep b k hk hne) fun k hk hsk => by
      by_cases hki : k = i
      ·subst hki; simp
      ·have hb2 : (k == i) = false := by simp [hki]
       rw [oth k hk hki hsk, hb2, Bool.or_false, decide_eq_decide]; omega
     have hG : eta (fun j => S j || j == i) = (eta S).set b (some y) := by
      refine etaIs _ _ (by rw [List.length_set, etaLen]) fun b' hb' => ?_
      by_cases hbb : b = b'
      ·subst hbb
       rw [e2, e, List.getElem?_set_self hbl, List.getElem?_set_self (by rw [etaLen]; exact hb')]
      ·rw [cb0 (by rw [hsti]; simpa using hbb), List.getElem?_set_ne hbb, etaGet S b' hb']
     rw [hG, ← hop]
     refine act ?_
     rw [hop]
     exact hev2 (eta S) (by rw [etaGet S b hbH, e1])
    | load ag k x =>
     rw [plain (by rw [hop]; rfl), ← hop]
     rw [hop] at hev
     obtain ⟨e, hsh⟩ := bt0 hev
     refine act ?_
     rw [hop]
     rcases hsh with ⟨b, sz, ii, j, hx, hev2⟩ | hev2
     ·have hfb : fbOf γ (σ i) l[i] = some b := by simp [fbOf, hop, hx]
      have oth := others b (by rw [hop]; rfl) hfb
      have e1 : cont hs st S b l.length = (hs i)[b]? := cb1 (by omega) (fun k hk hne => hkeep b k hk hne) fun k hk hsk => by
       by_cases hki : k = i
       ·subst hki; rw [hSi]; simp
       ·exact oth k hk hki hsk
      refine hev2 (eta S) ?_
      by_cases hbH : b < H.length
      ·rw [etaGet S b hbH, e1]
      ·rw [List.getElem?_eq_none (by rw [etaLen]; omega), List.getElem?_eq_none (by rw [hlen i (by omega)]; omega)]
     ·exact hev2 _
    | _ => rw [hop] at hk; simp [EOp.isMem] at hk
   ·have hns : l[i].op.isStore = false := by
     cases hop : l[i].op <;> rw [hop] at hk <;> simp [EOp.looks, EOp.eff] at hk <;> rfl
    have he : l[i].op.eff = false := by
     cases he : l[i].op.eff with
     | false => rfl
     | true => rw [bl7 he] at hk; simp at hk
    rw [plain hns]
    rw [bn3 he hev] at hev
    exact act (cf8 hk hev)
  ·funext t
   by_cases hd : l[i].dst = some t
   ·rw [hd]
    have := bk4 (val := val) (S := fun j => S j || j == i) (t := t) l 0 i s l[i] (by simp [hi]) hd (by simp) (fun k o' hk hk' hSk hd' => by
     have hkl := aa3 hk'
     have hok : l[k] = o' := by simpa [hkl] using hk'
     simp only [Nat.zero_add, Bool.or_eq_true, beq_iff_eq] at hSk
     rcases hSk with hSk | hSk
     ·rw [behind k hk hkl ((ok1 k hkl).2.2 i hk (by rw [hgetD k hkl, hgetD i hi]; simp [ag8, hok, hd, hd']))] at hSk; simp at hSk
     ·omega)
    rw [this]
    simp [putA, upd]
   ·rw [an8 hd]
    refine bb4 l 0 s s (fun k o hk hd' => ?_) rfl
    rw [Nat.zero_add]
    by_cases hki : k = i
    ·subst hki
     have hok : l[k] = o := by simpa [hi] using hk
     rw [hok] at hd
     exact absurd hd' hd
    ·simp [hki]
 refine cj7 (fun i hi => (ok1 i (by omega)).1)
  (fun S a' w' => ∃ φ' I', Evo φ I H w φ' I' (eta S) w' ∧ Rel γ n nb φ' I' (stS val S 0 l s) (eta S) a' w') ?_ ?_ ?_ ?_
 ·rintro S T hST a' w' ⟨φ', I', h1, h2⟩
  have e1 : stS val S 0 l s = stS val T 0 l s := bk3 fun k hk => by rw [Nat.zero_add]; exact hST k (by omega)
  have e2 : eta S = eta T := by
   rw [heta, heta]
   apply List.map_congr_left
   intro b _
   have : ∀ N, N ≤ l.length → cont hs st S b N = cont hs st T b N := by
    intro N
    induction N with
    | zero => intro _; rfl
    | succ N ih => intro hN; simp only [cont]; rw [hST N (by omega), ih (by omega)]
   rw [this l.length (Nat.le_refl _)]
  rw [← e1, ← e2]
  exact ⟨φ', I', h1, h2⟩
 ·rintro S hSc i hi hSi hSd a' w' ⟨φ', I', h1, h2⟩
  have hi' : i < l.length := by omega
  obtain ⟨o1, o2⟩ := one S (fun i hi => hSc i (by omega)) i hi' hSi hSd
  have hio : ops[i]? = some ops[i] := by simp [hi]
  refine cd8 (Q := Q) hio (mres i ops[i] l[i] (by simp [hi]) (by simp [hi'])) h1 h2 o1 fun φ2 I2 a2 w2 e1 e2 => ?_
  rw [o2] at e2
  exact ⟨φ2, I2, e1, e2⟩
 ·rintro S hS a' w' ⟨φ', I', h1, h2⟩
  have e1 : stS val S 0 l s = stS val (fun _ => true) 0 l s := bk3 fun k hk => by rw [Nat.zero_add]; exact hS k (by omega)
  have e2 : eta S = hs l.length := etaIs S _ (hlen _ (Nat.le_refl _)) fun b hb => cb1 (Nat.le_refl _) (fun k hk hne => hkeep b k hk hne) fun k hk _ => by rw [hS k (by omega)]; simp [hk]
  rw [e1, e2] at h2
  rw [e2] at h1
  exact ⟨φ', I', _, _, .normal, h1, h2, .normal, hQ⟩
 ·have e1 : stS val (fun _ => false) 0 l s = s := ay4 fun k _ => rfl
  have e2 : eta (fun _ => false) = H := etaIs _ _ rfl fun b hb => by
   rw [cb1 (Nat.zero_le _) (fun k hk hne => hkeep b k hk hne) fun k hk _ => by simp, g0]
  rw [e1, e2]
  exact ⟨φ, I, Evo.drew, hR.drew⟩
end
end Abs
