/- Regions whose order is drawn, with new blocks among them: whatever the order, the text's answer. -/
import Derived.Test.YtbilmalnlkileaaAbs22
set_option linter.all false

namespace Abs
open Go

/-- All that stands ahead of each operation. -/
def preOf (deps : List (List Nat)) : List (List Nat) :=
  deps.foldl (fun acc d => acc ++ [(d ++ d.flatMap fun k => acc.getD k []).eraseDups]) []

def EB.ok (n : Nat) : EB → Bool
  | .row _ es => okL n es
  | .map es => es.all fun e => e.1.ok n && e.2.ok n
  | .it _ _ => true

/-- What is let go of: slots, and the blocks behind the first L. -/
def Forgets (L : Nat) (s : Slots) (H : Heap) (s' : Slots) : Prop :=
  (∀ t, s' t = .undef ∨ (s' t = s t ∧ (s t).ok L = true)) ∧ ∀ (b : Nat) (x : EB), b < L → H[b]? = some (some x) → x.ok L = true

def thenA (next : Slots → Heap → Prop) (Q : AX → Slots → Heap → Prop) : AX → Slots → Heap → Prop
  | .normal, s, H => next s H
  | x, s, H => Q x s H

section
variable {P : Program} {γ : Nat → EV} {n : Nat} {nb : NB} {φ φ0 : Nat → Nat} {I I0 : Nat → Prop} {s : Slots} {H H0 : Heap} {a : Act} {w w0 : World}

theorem take_get {L b : Nat} {x : Option EB} (h : (H.take L)[b]? = some x) : b < L ∧ H[b]? = some x := by
  have hb := get_lt h
  simp only [List.length_take] at hb
  rw [List.getElem?_take_of_lt (by omega)] at h
  exact ⟨by omega, h⟩

theorem Evo.take (h : Evo φ0 I0 H0 w0 φ I H w) {L : Nat} (hL : H0.length ≤ L) : Evo φ0 I0 H0 w0 φ I (H.take L) w where
  size := h.size
  shape := h.shape
  keep := h.keep
  imm := h.imm
  phi := h.phi
  len := by have := h.len; simp; omega
  own B hB := by
    obtain ⟨b, x, hb, e⟩ := hB
    exact h.own B ⟨b, x, (take_get hb).2, e⟩
  immf := h.immf
  tape := h.tape
  os := h.os
  out := h.out
  froz := h.froz

theorem RB.trunc {N L B : Nat} {x : EB} (h : RB φ N I w B x) (ho : x.ok L = true) : RB φ L I w B x := by
  cases x with
  | row sz es =>
    obtain ⟨c, T, h1, h2, h3, h4⟩ := h
    refine ⟨c, T, h1, h2, h3, fun i j e x v he hx hv => (h4 i j e x v he hx hv).trunc ?_⟩
    exact ok_cells (okL_iff.1 ho e (List.mem_of_getElem? he)) x (List.mem_of_getElem? hx)
  | map es =>
    obtain ⟨ms, clock, h1, h2, h3⟩ := h
    refine ⟨ms, clock, h1, h2, fun i e m he hm => ?_⟩
    have := List.all_eq_true.1 ho e (List.mem_of_getElem? he)
    simp only [Bool.and_eq_true] at this
    exact ⟨(h3 i e m he hm).1.trunc this.1, (h3 i e m he hm).2.trunc this.2⟩
  | it s p => exact h

theorem RV.grow {N M : Nat} {x : EV} {v : Value} (h : RV φ N I w x v) (hN : N ≤ M) : RV φ M I w x v :=
  h.mono hN (fun _ _ => rfl) (fun _ h => h) (fun _ _ => rfl) (fun _ _ _ _ h => h)

theorem ok_of_cells {m : Nat} {e : EV} (h : ∀ x ∈ e.cells, x.ok m = true) : e.ok m = true := by
  cases e with
  | agg cs => simp only [EV.ok]; exact okL_iff.2 h
  | _ => exact h _ (by simp [EV.cells])

theorem RV.isOk {N : Nat} {x : EV} {v : Value} (h : RV φ N I w x v) : x.ok N = true := by
  induction h with
  | undef v => rfl
  | bool b => rfl
  | int k m => rfl
  | str s => rfl
  | nilptr => rfl
  | ptr b sz i j hb => simpa [EV.ok] using hb
  | iptr cells j B o c T fr hB hb hs' _ ih =>
    simp only [EV.ok]
    refine okL_iff.2 fun x hx => ?_
    obtain ⟨k, hk, rfl⟩ := List.mem_iff_getElem.1 hx
    have hlt : o + k < c.size := by omega
    exact ih k _ c[o + k] (by simp [hk]) (by simp [hlt])
  | nilsl => rfl
  | zsl a => rfl
  | imm sz es B o cap c T fr hB hb hs' hc hz _ ih =>
    simp only [EV.ok]
    refine okL_iff.2 fun e he => ok_of_cells fun x hx => ?_
    obtain ⟨i, hi, rfl⟩ := List.mem_iff_getElem.1 he
    obtain ⟨j, hj, rfl⟩ := List.mem_iff_getElem.1 hx
    have hsz := hz _ he
    have hlt : o + i * sz + j < c.size := by
      have := mul_add_lt (sz := sz) (by omega : j < sz) hi
      omega
    exact ih i j es[i] es[i].cells[j] c[o + i * sz + j] (by simp [hi]) (by simp [hj]) (by simp [hlt])
  | imm0 sz a => rfl
  | own0 b sz off a hb => simpa [EV.ok] using hb
  | own b sz off len cap m T hb hsh hn hc => simpa [EV.ok] using hb
  | nilfn => rfl
  | func f first cap vf vc h1 h2 _ _ ih1 ih2 =>
    simp only [EV.ok, Bool.and_eq_true]
    refine ⟨okL_iff.2 fun x hx => ?_, okL_iff.2 fun x hx => ?_⟩
    · obtain ⟨k, hk, rfl⟩ := List.mem_iff_getElem.1 hx
      have hlt : k < vf.size := by omega
      exact ih1 k _ vf[k] (by simp [hk]) (by simp [hlt])
    · obtain ⟨k, hk, rfl⟩ := List.mem_iff_getElem.1 hx
      have hlt : k < vc.size := by omega
      exact ih2 k _ vc[k] (by simp [hk]) (by simp [hlt])
  | nilif => rfl
  | iface t x v _ ih => simpa [EV.ok] using ih
  | nilmap => rfl
  | map b hb => simpa [EV.ok] using hb
  | agg cs vs hl _ ih =>
    simp only [EV.ok]
    refine okL_iff.2 fun x hx => ?_
    obtain ⟨k, hk, rfl⟩ := List.mem_iff_getElem.1 hx
    have hlt : k < vs.size := by omega
    exact ih k _ vs[k] (by simp [hk]) (by simp [hlt])
  | tup cs vs hl _ ih =>
    simp only [EV.ok]
    refine okL_iff.2 fun x hx => ?_
    obtain ⟨k, hk, rfl⟩ := List.mem_iff_getElem.1 hx
    have hlt : k < vs.size := by omega
    exact ih k _ vs[k] (by simp [hk]) (by simp [hlt])

/-- No block leads beyond the heap. -/
def OkH (H : Heap) : Prop := ∀ (b : Nat) (x : EB), H[b]? = some (some x) → x.ok H.length = true

theorem RH.isOk (h : RH γ φ I H w) : OkH H := by
  intro b x hb
  have := h.blk b x hb
  cases x with
  | row sz es =>
    obtain ⟨c, T, h1, h2, h3, h4⟩ := this
    simp only [EB.ok]
    refine okL_iff.2 fun e he => ok_of_cells fun x hx => ?_
    obtain ⟨i, hi, rfl⟩ := List.mem_iff_getElem.1 he
    obtain ⟨j, hj, rfl⟩ := List.mem_iff_getElem.1 hx
    have hsz := h3 _ he
    have hlt : i * sz + j < c.size := by
      have := mul_add_lt (sz := sz) (by omega : j < sz) hi
      omega
    exact (h4 i j es[i] es[i].cells[j] c[i * sz + j] (by simp [hi]) (by simp [hj]) (by simp [hlt])).isOk
  | map es =>
    obtain ⟨ms, clock, h1, h2, h3⟩ := this
    simp only [EB.ok]
    rw [List.all_eq_true]
    intro e he
    obtain ⟨i, hi, rfl⟩ := List.mem_iff_getElem.1 he
    have hlt : i < ms.size := by omega
    have := h3 i es[i] ms[i] (by simp [hi]) (by simp [hlt])
    rw [this.1.isOk, this.2.isOk]; rfl
  | it s p => rfl

/-- The blocks behind the first L are let go of. -/
theorem RH.take (h : RH γ φ I H w) {L : Nat} (ho : ∀ (b : Nat) (x : EB), b < L → H[b]? = some (some x) → x.ok (min L H.length) = true) : RH γ φ I (H.take L) w where
  glob := h.glob
  blk b x hb := by
    obtain ⟨h1, h2⟩ := take_get hb
    rw [List.length_take]
    exact (h.blk b x h2).trunc (ho b x h1 h2)
  inj b b' x x' hb hb' e := h.inj b b' x x' (take_get hb).2 (take_get hb').2 e
  imm := h.imm
  dis b x hb := h.dis b x (take_get hb).2
  lt b x hb := h.lt b x (take_get hb).2

theorem ok_min {x : EV} {v : Value} {N L : Nat} (h : RV φ N I w x v) (ho : x.ok L = true) : RV φ (min L N) I w x v := by
  by_cases hl : L ≤ N
  · rw [Nat.min_eq_left hl]; exact h.trunc ho
  · rw [Nat.min_eq_right (by omega)]; exact h

theorem RB.min {N L B : Nat} {x : EB} (h : RB φ N I w B x) (ho : x.ok L = true) : RB φ (min L N) I w B x := by
  by_cases hl : L ≤ N
  · rw [Nat.min_eq_left hl]; exact h.trunc ho
  · rw [Nat.min_eq_right (by omega)]; exact h

theorem RH.take' (h : RH γ φ I H w) {L : Nat} (ho : ∀ (b : Nat) (x : EB), b < L → H[b]? = some (some x) → x.ok L = true) : RH γ φ I (H.take L) w where
  glob := h.glob
  blk b x hb := by
    obtain ⟨h1, h2⟩ := take_get hb
    rw [List.length_take]
    exact (h.blk b x h2).min (ho b x h1 h2)
  inj b b' x x' hb hb' e := h.inj b b' x x' (take_get hb).2 (take_get hb').2 e
  imm := h.imm
  dis b x hb := h.dis b x (take_get hb).2
  lt b x hb := h.lt b x (take_get hb).2

theorem Rel.forget (hR : Rel γ n nb φ I s H a w) {L : Nat} {s' : Slots} (hf : Forgets L s H s') : Rel γ n nb φ I s' (H.take L) a w where
  sz := hR.sz
  slots t := by
    rw [List.length_take]
    rcases hf.1 t with h | ⟨h, ho⟩
    · rw [h]; exact .undef _
    · rw [h]; exact ok_min (hR.slots t) ho
  heap := hR.heap.take' hf.2
  defers := by
    obtain ⟨h0, Ds, h1, h2, h3⟩ := hR.defers
    exact ⟨h0, Ds, h1, h2, fun D hD => ⟨(h3 D hD).1, (h3 D hD).2.1, fun ⟨b, x, hb, e⟩ => (h3 D hD).2.2.1 ⟨b, x, (take_get hb).2, e⟩, (h3 D hD).2.2.2⟩⟩

end

/-- A new block that nothing of the state knows yet. -/
def isNew (o : EOper) : Bool :=
  match o.op, o.guard, o.dst with
  | .box (.c z), none, some _ => z.ok 0 && z.cells.all EV.one
  | _, _, _ => false

def blank (o : EOper) : EOper := { dst := o.dst, op := .mov (.c .undef) }

/-- First what changes nothing, then new blocks, in any order; then the rest, one by one. -/
def splitA (l : List EOper) : List EOper × List EOper × List EOper :=
  (l.takeWhile (fun o => !isNew o), (l.dropWhile fun o => !isNew o).takeWhile isNew, (l.dropWhile fun o => !isNew o).dropWhile isNew)

theorem splitA_eq (l : List EOper) : (splitA l).1 ++ ((splitA l).2.1 ++ (splitA l).2.2) = l := by
  simp [splitA, List.takeWhile_append_dropWhile]

def dstsOf (l : List EOper) : List Nat := l.filterMap (·.dst)

/-- No call, no panic. -/
def EOp.plain : EOp → Bool
  | .call _ _ | .panic _ => false
  | _ => true

/-- May an operation ahead of the new blocks come behind one of the rest? -/
def lateP (o p : EOper) : Bool := !o.op.looks && o.guard.isNone && p.op.plain && !meets o p

def isL (k m : Nat) (pr : List (List Nat)) (j : Nat) : Bool := (List.range m).any fun i => !(pr.getD (k + i) []).contains j

def okA (pre al post : List EOper) (deps pr : List (List Nat)) : Bool :=
  al.all isNew && decide (dstsOf al).Nodup && (dstsOf al).all (fun d => !(dstsOf pre).contains d) &&
  drawOk (pre ++ al.map blank) deps pr (List.replicate (pre.length + al.length) false) &&
  post.all (fun o => o.guard.isNone) &&
  ((List.range post.length).all fun i =>
    (deps.getD (pre.length + al.length + i) []).all (· < pre.length + al.length + i) &&
    (pr.getD (pre.length + al.length + i) []).all (fun j => (deps.getD (pre.length + al.length + i) []).any fun k => k == j || (pr.getD k []).contains j) &&
    (List.range (pre.length + al.length + i)).all fun j => (pr.getD (pre.length + al.length + i) []).contains j || (decide (j < pre.length) && lateP (pre.getD j default) (post.getD i default))) &&
  (List.range pre.length).all fun i => (List.range pre.length).all fun j => i == j || !isL (pre.length + al.length) post.length pr i || !isL (pre.length + al.length) post.length pr j || !meets (pre.getD i default) (pre.getD j default)

def resDrawA (P : Program) (n : Nat) (own : List Nat) (ops : Array Oper) : Option (List (EOper × Bool) × List EOper) :=
  match ops.toList.mapM (resOper P n own ops) with
  | some l =>
    if P.follows .mixedOrders && okA (splitA l).1 (splitA l).2.1 (splitA l).2.2 (depsOf ops) (preOf (depsOf ops)) then some ((splitA l).1.map fun o => (o, false), (splitA l).2.1 ++ (splitA l).2.2) else none
  | none => none

theorem isNew_some {o : EOper} (h : isNew o = true) : ∃ d z, o = { dst := some d, op := .box (.c z), guard := none } ∧ z.ok 0 = true ∧ z.cells.all EV.one = true := by
  obtain ⟨dst, op, g⟩ := o
  unfold isNew at h
  simp only at h
  split at h
  · simp only [Bool.and_eq_true] at h; exact ⟨_, _, rfl, h⟩
  · simp at h

theorem order_in {l : List EOper} {deps pre : List (List Nat)} {chg : List Bool} (hok : drawOk l deps pre chg = true) : ∀ i, i < l.length → (∀ k ∈ deps.getD i [], k < i) ∧ (∀ j ∈ pre.getD i [], ∃ k ∈ deps.getD i [], k = j ∨ j ∈ pre.getD k []) ∧
    ∀ j, j < i → meets (l.getD j default) (l.getD i default) = true → j ∈ pre.getD i [] := by
  intro i hi
  have := List.all_eq_true.1 hok i (List.mem_range.2 hi)
  simp only [Bool.and_eq_true, List.all_eq_true, decide_eq_true_eq, List.any_eq_true, Bool.or_eq_true, beq_iff_eq, List.contains_iff_mem, List.mem_range, Bool.not_eq_true', Bool.and_eq_false_iff, Bool.or_eq_false_iff] at this
  obtain ⟨⟨a1, a2⟩, a3⟩ := this
  refine ⟨a1, a2, fun j hj hme => ?_⟩
  rcases (a3 j hj).1.1 with h | h
  · rw [hme] at h; simp at h
  · exact h

theorem pre_in {N : Nat} {deps pre : List (List Nat)} (ok : ∀ i, i < N → (∀ k ∈ deps.getD i [], k < i) ∧ ∀ j ∈ pre.getD i [], ∃ k ∈ deps.getD i [], k = j ∨ j ∈ pre.getD k []) (S : Nat → Bool)
    (hcl : ∀ i, i < N → S i = true → ∀ k ∈ deps.getD i [], S k = true) : ∀ i, i < N → (∀ k ∈ deps.getD i [], S k = true) → ∀ j ∈ pre.getD i [], S j = true := by
  intro i
  induction i using Nat.strongRecOn with
  | _ i ih =>
    intro hi hd j hj
    obtain ⟨k, hk, hkj⟩ := (ok i hi).2 j hj
    have hki := (ok i hi).1 k hk
    rcases hkj with rfl | hkj
    · exact hd k hk
    · exact ih k hki (by omega) (hcl k (by omega) (hd k hk)) j hkj

theorem stS_congr {val : Nat → EV} {S T : Nat → Bool} {l : List EOper} {i : Nat} {s : Slots} (h : ∀ k, k < l.length → S (i + k) = T (i + k)) : stS val S i l s = stS val T i l s := by
  funext t
  exact stS_eq l i s s (fun k o hk _ => h k (get_lt hk)) rfl

section
variable {P : Program} {γ : Nat → EV} {n : Nat} {nb : NB} {φ φ0 φ' : Nat → Nat} {I I0 I' : Nat → Prop} {s : Slots} {H H0 H' : Heap} {a : Act} {w w0 w' : World}

theorem one_const {l : List EOper} {deps pre : List (List Nat)} {chg : List Bool} (hok : drawOk l deps pre chg = true) {val : Nat → EV} (text : ∀ i (hi : i < l.length), Runs P γ (stS val (fun j => decide (j < i)) 0 l s) H l[i] (val i) H)
    (S : Nat → Bool) (hSc : ∀ i, i < l.length → S i = true → ∀ k ∈ deps.getD i [], S k = true) (i : Nat) (hi : i < l.length) (hSi : S i = false)
    (before : ∀ j (hj : j < i), meets (l[j]'(by omega)) l[i] = true → S j = true) :
    Runs P γ (stS val S 0 l s) H l[i] (val i) H ∧ putA (stS val S 0 l s) l[i].dst (val i) = stS val (fun j => S j || j == i) 0 l s := by
  have ok1 := order_in hok
  have preIn := pre_in (fun i hi => ⟨(ok1 i hi).1, (ok1 i hi).2.1⟩) S hSc
  have hgetD : ∀ i (hi : i < l.length), l.getD i default = l[i] := fun i hi => by simp [hi]
  have meets_behind : ∀ j (hj : i < j) (hj' : j < l.length), meets l[i] l[j] = true → S j = false := fun j hj hj' hme => by
    cases hSj : S j with
    | false => rfl
    | true =>
      have := preIn j hj' (hSc j hj' hSj) i ((ok1 j hj').2.2 i hj (by rw [hgetD j hj', hgetD i hi]; exact hme))
      rw [hSi] at this; simp at this
  refine ⟨(text i hi).congr fun t ht => stS_eq l 0 s s (fun k o hk hd => ?_) rfl, ?_⟩
  · rw [Nat.zero_add]
    have hkl := get_lt hk
    have hok : l[k] = o := by simpa [hkl] using hk
    rcases Nat.lt_trichotomy k i with hlt | rfl | hgt
    · rw [before k hlt (by simp [meets, hok, hd, ht])]; simp [hlt]
    · rw [hSi]; simp
    · rw [meets_behind k hgt hkl (by simp [meets, hok, hd, ht])]; simp; omega
  · funext t
    by_cases hd : l[i].dst = some t
    · rw [hd]
      have := stS_at (val := val) (S := fun j => S j || j == i) (t := t) l 0 i s l[i] (by simp [hi]) hd (by simp) (fun k o' hk hk' hSk hd' => by
        have hkl := get_lt hk'
        have hok : l[k] = o' := by simpa [hkl] using hk'
        simp only [Nat.zero_add, Bool.or_eq_true, beq_iff_eq] at hSk
        rcases hSk with hSk | hSk
        · rw [meets_behind k hk hkl (by simp [meets, hok, hd, hd'])] at hSk; simp at hSk
        · omega)
      rw [this]
      simp [putA, upd]
    · rw [putA_ne hd]
      refine stS_eq l 0 s s (fun k o hk hd' => ?_) rfl
      rw [Nat.zero_add]
      by_cases hki : k = i
      · subst hki
        have hok : l[k] = o := by simpa [hi] using hk
        rw [hok] at hd
        exact absurd hd' hd
      · simp [hki]

theorem runs_sound2 {Q : AX → Slots → Heap → Prop} {own : List Nat} {ops : Array Oper} {i : Nat} {o : Oper} {eo : EOper} (hi : ops[i]? = some o) (heo : resOper P n own ops o = some eo)
    (hev : Evo φ0 I0 H0 w0 φ I H w) (hR : Rel γ n nb φ I s H a w) {v : EV} {H' : Heap} (h : Runs P γ s H eo v H') {K : Act → World → Prop}
    (hK : ∀ φ' I' a' w' val, Evo φ I H w φ' I' H' w' → Rel γ n nb φ' I' (putA s eo.dst v) H' a' w' → a' = a.put eo.dst val → K a' w') :
    wpOp P ops (Post γ n nb φ0 I0 H0 w0 Q) i K a w := by
  obtain ⟨⟨b, hres⟩, hdst, hd, hg⟩ := resOper_parts heo
  have run : Acts P γ s H eo.op v H' → o.wp P a w K (Post γ n nb φ0 I0 H0 w0 Q) := by
    intro h
    have h1 := wop_sound2 (Q := Q) hR hres hd (acts_wop h)
    refine op_post (fun e a' w' hp => Post.trans hev hp) (Oper.wp_mono (fun a' w' ⟨φ', I', H1, v1, e1, e2, e3, val, e5, _⟩ => ?_) h1)
    obtain ⟨e3, e4⟩ := e3
    subst e3 e4
    exact hK φ' I' a' w' val e1 (by rw [hdst]; exact e2) (by rw [hdst]; exact e5)
  unfold wpOp
  rw [hi]
  simp only
  unfold Runs at h
  cases ho : o.guard with
  | none =>
    rw [ho] at hg
    rw [hg] at h
    rw [if_pos (by simp [Region.wanted, ho])]
    exact .inl (run h)
  | some p =>
    obtain ⟨j, bb⟩ := p
    rw [ho] at hg
    obtain ⟨d, hj, hdn, hg⟩ := hg
    rw [hg] at h
    rcases h with ⟨t, ht, h1, h2⟩ | ⟨ht, rfl, rfl⟩
    case inr =>
      have hsl := hR.slots d
      rw [ht] at hsl
      rw [if_neg (by simp [Region.wanted, ho, gone_yields hj hdn hR.sz hsl])]
      exact hK φ I _ w _ (.refl ..) (by rw [hdst]; exact hR.put (.refl ..) hR.heap hd rv_gone) (by rw [hdst])
    have hsl := hR.slots d
    rw [ht] at hsl
    generalize hva : a.tmps.getD d Go.undef = vd at hsl
    cases hsl
    have hy : yielded ops a.tmps j = some t := by
      have hlt : d < a.tmps.size := by rw [hR.sz]; exact hdn
      have hv2 : a.tmps[d] = .bool t := by simpa [hlt] using hva
      simp [yielded, hj, hlt, hv2]
    by_cases e : t = bb
    · subst e
      rw [if_pos (by simp [Region.wanted, ho, hy])]
      exact .inl (run (h1 rfl))
    · rw [if_neg (by simp [Region.wanted, ho, hy, e])]
      obtain ⟨rfl, rfl⟩ := h2 e
      exact hK φ I _ w _ (.refl ..) (by rw [hdst]; exact hR.put (.refl ..) hR.heap hd rv_gone) (by rw [hdst])

/-- A block that the state doesn't know yet. -/
structure BF (φ : Nat → Nat) (I : Nat → Prop) (H : Heap) (w0 w : World) (z : EV) (B : Nat) : Prop where
  new : w0.heap.size ≤ B
  imm : ¬ I B
  own : ¬ Own φ H B
  blk : RB φ 0 I w B (.row z.cells.length [z])

theorem BF.lt {z : EV} {B : Nat} (h : BF φ I H w0 w z B) : B < w.heap.size := by
  obtain ⟨c, T, h1, _⟩ := h.blk
  exact (Array.getElem?_eq_some_iff.1 h1).1

theorem BF.evo {z : EV} {B : Nat} (h : BF φ I H w0 w z B) (hr : RH γ φ I H w) (e : Evo φ I H w φ' I' H' w') : BF φ' I' H' w0 w' z B := by
  have hlt := h.lt
  refine ⟨h.new, fun hi => ?_, fun ho => ?_, h.blk.mono (Nat.le_refl _) (fun i hi => absurd hi (Nat.not_lt_zero i)) e.imm (fun B' hB' => e.keep B' (hr.imm B' hB') fun ⟨b, y, hb, e'⟩ => hr.dis b y hb (e' ▸ hB'))
    (fun b hb => absurd hb (Nat.not_lt_zero b)) (e.keep B hlt h.own)⟩
  · rcases e.immf B hi with h1 | h1 | h1
    · exact h.imm h1
    · exact h.own h1
    · omega
  · rcases e.own B ho with h1 | h1
    · exact h.own h1
    · omega

theorem wop_box_inv {Qp : EV → Heap → Prop} {ρ : EOpd → EV} {x : EOpd} {K : EV → Heap → Prop} (h : wop P γ Qp ρ H (.box x) K) :
    (ρ x).cells.all EV.one = true ∧ K (.ptr H.length (ρ x).cells.length 0 0) (H ++ [some (.row (ρ x).cells.length [ρ x])]) := by
  unfold wop at h
  simp only [evOp] at h
  by_cases hc : (ρ x).cells.all EV.one = true
  · rw [if_pos hc] at h; exact ⟨hc, h⟩
  · rw [if_neg hc] at h; exact h.elim

/-- New blocks become known. -/
theorem conv {Q : AX → Slots → Heap → Prop} {post : List EOper} {X : Nat → Prop} : ∀ (al : List EOper), al.all isNew = true → ∀ (φ : Nat → Nat) (H : Heap) (σ s1 : Slots) (β : Nat → Nat), Evo φ0 I0 H0 w0 φ I H w → Rel γ n nb φ I σ H a w →
    (∀ j d z, al[j]? = some { dst := some d, op := .box (.c z), guard := none } → a.tmps.getD d Go.undef = .pointer (some ⟨β j, 0, none⟩) ∧ BF φ I H w0 w z (β j)) →
    (∀ i j, i < al.length → j < al.length → β i = β j → i = j) → (∀ t, t ∉ dstsOf al → ¬X t → σ t = s1 t) → wops P γ Q (al ++ post) s1 H →
    ∃ φ' I' s' s2 H', Evo φ0 I0 H0 w0 φ' I' H' w ∧ Rel γ n nb φ' I' s' H' a w ∧ wops P γ Q post s2 H' ∧ (∀ t, ¬X t → s' t = s2 t) ∧ ∀ t, t ∉ dstsOf al → s' t = σ t ∧ s2 t = s1 t
  | [], _, φ, H, σ, s1, β, he, hR, _, _, hσ, h => by
    exact ⟨φ, I, σ, s1, H, he, hR, h, fun t ht => hσ t (by simp [dstsOf]) ht, fun t _ => ⟨rfl, rfl⟩⟩
  | o :: al, hal, φ, H, σ, s1, β, he, hR, hb, hinj, hσ, h => by
    simp only [List.all_cons, Bool.and_eq_true] at hal
    obtain ⟨d, z, rfl, hz, _⟩ := isNew_some hal.1
    obtain ⟨b1, b2⟩ := hb 0 d z rfl
    have hr := hR.heap
    have h : wops P γ Q (al ++ post) (putA s1 (some d) (.ptr H.length z.cells.length 0 0)) (H ++ [some (.row z.cells.length [z])]) := by
      simp only [List.cons_append, wops] at h
      exact (wop_box_inv h).2
    have mono : ∀ {x : EV} {v : Value}, RV φ H.length I w x v → RV (up φ H.length (β 0)) (H.length + 1) I w x v := fun h =>
      h.mono (Nat.le_succ _) (fun i hi => up_lt hi) (fun _ h => h) (fun _ _ => rfl) (fun _ _ _ _ h => h)
    have old : ∀ (b : Nat) (x : EB), (H ++ [some (EB.row z.cells.length [z])])[b]? = some (some x) → (H[b]? = some (some x) ∧ up φ H.length (β 0) b = φ b) ∨ (b = H.length ∧ x = .row z.cells.length [z] ∧ up φ H.length (β 0) b = β 0) := by
      intro b x hbx
      rcases Nat.lt_trichotomy b H.length with hlt | rfl | hgt
      · rw [List.getElem?_append_left hlt] at hbx
        exact .inl ⟨hbx, up_lt hlt⟩
      · rw [List.getElem?_append_right (Nat.le_refl _)] at hbx
        simp at hbx
        exact .inr ⟨rfl, hbx.symm, up_eq⟩
      · have := get_lt hbx
        simp at this
        omega
    have hown : ∀ B, Own (up φ H.length (β 0)) (H ++ [some (.row z.cells.length [z])]) B → Own φ H B ∨ B = β 0 := by
      rintro B ⟨b, x, hbx, rfl⟩
      rcases old b x hbx with ⟨h1, h2⟩ | ⟨_, _, h2⟩
      · exact .inl ⟨b, x, h1, h2.symm⟩
      · exact .inr h2
    suffices key : ∃ φ' I' s' s2 H', Evo φ0 I0 H0 w0 φ' I' H' w ∧ Rel γ n nb φ' I' s' H' a w ∧ wops P γ Q post s2 H' ∧ (∀ t, ¬X t → s' t = s2 t) ∧ ∀ t, t ∉ dstsOf al → s' t = putA σ (some d) (.ptr H.length z.cells.length 0 0) t ∧ s2 t = putA s1 (some d) (.ptr H.length z.cells.length 0 0) t by
      obtain ⟨φ', I', s', s2, H', g1, g2, g3, g4, g5⟩ := key
      refine ⟨φ', I', s', s2, H', g1, g2, g3, g4, fun t ht => ?_⟩
      have hd : t ≠ d := fun e => ht (by simp [dstsOf, e])
      have := g5 t (fun h => ht (by simp [dstsOf] at h ⊢; exact .inr h))
      simpa [putA, upd, hd] using this
    refine conv al hal.2 (up φ H.length (β 0)) (H ++ [some (.row z.cells.length [z])]) (putA σ (some d) (.ptr H.length z.cells.length 0 0)) _ (fun j => β (j + 1)) ?_ ?_ ?_ ?_ ?_ h
    · exact { size := he.size, shape := he.shape, keep := he.keep, imm := he.imm, phi := fun i hi => (up_lt (Nat.lt_of_lt_of_le hi he.len)).trans (he.phi i hi), len := by have := he.len; simp; omega,
              own := fun B hB => (hown B hB).elim (he.own B) fun e => .inr (e ▸ b2.new), immf := he.immf, tape := he.tape, os := he.os, out := he.out, froz := he.froz }
    · refine ⟨hR.sz, fun t => ?_, ⟨fun g => (hr.glob g).mono (Nat.le_refl 0) (fun i hi => absurd hi (Nat.not_lt_zero i)) (fun _ h => h) (fun _ _ => rfl) (fun b hb => absurd hb (Nat.not_lt_zero b)), fun b x hbx => ?_, fun b b' x x' hbx hbx' e => ?_, hr.imm, fun b x hbx => ?_, fun b x hbx => ?_⟩, ?_⟩
      · rw [List.length_append]
        simp only [putA, upd]
        by_cases ht : t = d
        · subst ht
          rw [if_pos rfl, b1]
          have := RV.ptr (φ := up φ H.length (β 0)) (N := H.length + 1) (I := I) (w := w) H.length z.cells.length 0 0 (by omega)
          simpa [up_eq] using this
        · rw [if_neg ht]
          exact mono (hR.slots t)
      · rw [List.length_append]
        rcases old b x hbx with ⟨h1, h2⟩ | ⟨rfl, rfl, h2⟩
        · rw [h2]
          exact (hr.blk b x h1).mono (Nat.le_succ _) (fun i hi => up_lt hi) (fun _ h => h) (fun _ _ => rfl) (fun _ _ _ _ h => h) rfl
        · rw [h2]
          exact b2.blk.mono (Nat.zero_le _) (fun i hi => absurd hi (Nat.not_lt_zero i)) (fun _ h => h) (fun _ _ => rfl) (fun b hb => absurd hb (Nat.not_lt_zero b)) rfl
      · rcases old b x hbx with ⟨h1, h2⟩ | ⟨rfl, rfl, h2⟩ <;> rcases old b' x' hbx' with ⟨g1, g2⟩ | ⟨rfl, rfl, g2⟩
        · exact hr.inj b b' x x' h1 g1 (by rw [← h2, ← g2]; exact e)
        · exact absurd ⟨b, x, h1, by rw [← h2, e, g2]⟩ b2.own
        · exact absurd ⟨b', x', g1, by rw [← g2, ← e, h2]⟩ b2.own
        · rfl
      · rcases old b x hbx with ⟨h1, h2⟩ | ⟨rfl, rfl, h2⟩
        · rw [h2]; exact hr.dis b x h1
        · rw [h2]; exact b2.imm
      · rcases old b x hbx with ⟨h1, h2⟩ | ⟨rfl, rfl, h2⟩
        · rw [h2]; exact hr.lt b x h1
        · rw [h2]; exact b2.lt
      · obtain ⟨h0, Ds, h1, h2, h3⟩ := hR.defers
        refine ⟨h0, Ds, h1, h2, fun D hD => ⟨(h3 D hD).1, (h3 D hD).2.1, fun ho => ?_, (h3 D hD).2.2.2⟩⟩
        rcases hown D ho with ho | rfl
        · exact (h3 D hD).2.2.1 ho
        · obtain ⟨c, T, g1, _⟩ := b2.blk
          have := (h3 _ hD).2.1
          rw [g1] at this
          simp at this
    · intro j d' z' hj
      obtain ⟨c1, c2⟩ := hb (j + 1) d' z' (by simpa using hj)
      refine ⟨c1, c2.new, c2.imm, fun ho => ?_, c2.blk.mono (Nat.le_refl _) (fun i hi => absurd hi (Nat.not_lt_zero i)) (fun _ h => h) (fun _ _ => rfl) (fun b hb => absurd hb (Nat.not_lt_zero b)) rfl⟩
      rcases hown _ ho with ho | e
      · exact c2.own ho
      · have := hinj (j + 1) 0 (by have := get_lt hj; simp; omega) (by simp) e
        omega
    · intro i j hi hj e
      have := hinj (i + 1) (j + 1) (by simp; omega) (by simp; omega) e
      omega
    · intro t ht hX
      simp only [putA, upd]
      by_cases hd : t = d
      · rw [if_pos hd, if_pos hd]
      · rw [if_neg hd, if_neg hd]
        exact hσ t (by simp [dstsOf] at ht ⊢; exact ⟨hd, ht⟩) hX


theorem put_get {d : Nat} {dst : Option Nat} {val : Value} (h : dst ≠ some d) : (a.put dst val).tmps.getD d Go.undef = a.tmps.getD d Go.undef := by
  cases dst with
  | none => rfl
  | some d' =>
    have : d' ≠ d := fun e => h (by rw [e])
    simp [Act.put, Array.getElem?_setIfInBounds_ne this]

/-- While the new blocks come in any order. -/
def P1 (γ : Nat → EV) (n : Nat) (nb : NB) (φ : Nat → Nat) (I : Nat → Prop) (H : Heap) (w : World) (σ : Slots) (al : List EOper) (k : Nat) (S : Nat → Bool) (a' : Act) (w' : World) : Prop :=
  ∃ (φ' : Nat → Nat) (I' : Nat → Prop) (β : Nat → Nat), Evo φ I H w φ' I' H w' ∧ Rel γ n nb φ' I' σ H a' w' ∧
    (∀ j d z, al[j]? = some { dst := some d, op := .box (.c z), guard := none } → S (k + j) = true → a'.tmps.getD d Go.undef = .pointer (some ⟨β j, 0, none⟩) ∧ BF φ' I' H w w' z (β j)) ∧
    ∀ i j, i < al.length → j < al.length → S (k + i) = true → S (k + j) = true → β i = β j → i = j

theorem dsts_mem {l : List EOper} {j : Nat} {o : EOper} {d : Nat} (h : l[j]? = some o) (hd : o.dst = some d) : d ∈ dstsOf l :=
  List.mem_filterMap.2 ⟨o, List.mem_of_getElem? h, hd⟩

theorem dsts_inj : ∀ {l : List EOper} {i j : Nat} {o o' : EOper} {d : Nat}, (dstsOf l).Nodup → l[i]? = some o → l[j]? = some o' → o.dst = some d → o'.dst = some d → i = j
  | [], _, _, _, _, _, _, h, _, _, _ => by simp at h
  | x :: l, i, j, o, o', d, hnd, hi, hj, ho, ho' => by
    have hx : ∀ {d}, x.dst = some d → d ∉ dstsOf l ∧ (dstsOf l).Nodup := fun {d} hx => by simpa [dstsOf, hx] using hnd
    have hl : (dstsOf l).Nodup := by
      cases hxd : x.dst with
      | none => simpa [dstsOf, hxd] using hnd
      | some d => exact (hx hxd).2
    cases i with
    | zero =>
      simp only [List.getElem?_cons_zero, Option.some.injEq] at hi
      subst hi
      cases j with
      | zero => rfl
      | succ j => exact absurd (dsts_mem (by simpa using hj) ho') (hx ho).1
    | succ i =>
      cases j with
      | zero =>
        simp only [List.getElem?_cons_zero, Option.some.injEq] at hj
        subst hj
        exact absurd (dsts_mem (by simpa using hi) ho) (hx ho').1
      | succ j => exact congrArg (· + 1) (dsts_inj hl (i := i) (j := j) (by simpa using hi) (by simpa using hj) ho ho')

/-- A step ahead of the new blocks. -/
theorem step_pre {Q : AX → Slots → Heap → Prop} {own : List Nat} {ops : Array Oper} {pre al : List EOper} {σ σ' : Slots} {S : Nat → Bool} {i : Nat} {o : Oper} {eo : EOper} {v : EV} (hd : ∀ d ∈ dstsOf al, d ∉ dstsOf pre)
    (hi : ops[i]? = some o) (hpi : pre[i]? = some eo) (heo : resOper P n own ops o = some eo) (h : P1 γ n nb φ I H w σ al pre.length S a w') (hr : Runs P γ σ H eo v H) (hσ : putA σ eo.dst v = σ') :
    wpOp P ops (Post γ n nb φ I H w Q) i (P1 γ n nb φ I H w σ' al pre.length fun j => S j || j == i) a w' := by
  obtain ⟨φ', I', β, h1, h2, h3, h4⟩ := h
  have hS : ∀ j, (S (pre.length + j) || pre.length + j == i) = S (pre.length + j) := fun j => by
    have := get_lt hpi
    have : (pre.length + j == i) = false := by simp; omega
    rw [this, Bool.or_false]
  refine runs_sound2 hi heo h1 h2 hr fun φ2 I2 a2 w2 val e1 e2 e3 => ⟨φ2, I2, β, h1.trans e1, hσ ▸ e2, fun j d z hj hs => ?_, fun i' j hi' hj s1 s2 => ?_⟩
  · replace hs := (hS j).symm.trans hs
    obtain ⟨c1, c2⟩ := h3 j d z hj hs
    refine ⟨?_, c2.evo h2.heap e1⟩
    rw [e3, put_get, c1]
    intro e
    exact hd d (dsts_mem hj rfl) (dsts_mem hpi e)
  · exact h4 i' j hi' hj ((hS i').symm.trans s1) ((hS j).symm.trans s2)

/-- A new block. -/
theorem step_new {Q : AX → Slots → Heap → Prop} {own : List Nat} {ops : Array Oper} {al : List EOper} {k j0 : Nat} {σ σ' : Slots} {S : Nat → Bool} {o : Oper} {d0 : Nat} {z0 : EV} (hal : al.all isNew = true) (hnd : (dstsOf al).Nodup) (hz : z0.ok 0 = true)
    (hone : z0.cells.all EV.one = true)
    (hi : ops[k + j0]? = some o) (hj0 : al[j0]? = some { dst := some d0, op := .box (.c z0), guard := none }) (heo : resOper P n own ops o = some { dst := some d0, op := .box (.c z0), guard := none }) (h : P1 γ n nb φ I H w σ al k S a w')
    (hσ : putA σ (some d0) .undef = σ') :
    wpOp P ops (Post γ n nb φ I H w Q) (k + j0) (P1 γ n nb φ I H w σ' al k fun j => S j || j == k + j0) a w' := by
  obtain ⟨φ', I', β, h1, h2, h3, h4⟩ := h
  obtain ⟨⟨b, hres⟩, hdst, hd, hg⟩ := resOper_parts heo
  have hgn : o.guard = none := by
    cases ho : o.guard with
    | none => rfl
    | some p =>
      obtain ⟨j, bb⟩ := p
      rw [ho] at hg
      obtain ⟨d, _, _, hg⟩ := hg
      simp at hg
  have hod : o.dst = some d0 := by simpa using hdst.symm
  have hd0 : d0 < n := hd d0 hod
  have hwop : wop P γ (fun v H' => Q (.panic v) σ H') (ev γ σ) H (.box (.c z0)) fun v H' => v = .ptr H.length z0.cells.length 0 0 ∧ H' = H ++ [some (.row z0.cells.length [z0])] :=
    wop_of (v := .ptr H.length z0.cells.length 0 0) (H' := H ++ [some (.row z0.cells.length [z0])]) (by simp [evOp, ev, hone]) ⟨rfl, rfl⟩
  have hb0 : (H ++ [some (EB.row z0.cells.length [z0])])[H.length]? = some (some (.row z0.cells.length [z0])) := by simp
  have htk : (H ++ [some (EB.row z0.cells.length [z0])]).take H.length = H := by simp
  have hbH : ∀ (b : Nat) (x : EB), H[b]? = some (some x) → (H ++ [some (EB.row z0.cells.length [z0])])[b]? = some (some x) := fun b x hb => by rw [List.getElem?_append_left (get_lt hb)]; exact hb
  unfold wpOp
  rw [hi]
  simp only
  rw [if_pos (by simp [Region.wanted, hgn])]
  refine .inl (op_post (fun e a' w' hp => Post.trans h1 hp) (Oper.wp_mono (fun a2 w2 hh => ?_) (wop_sound2 (Q := Q) h2 hres hd hwop)))
  obtain ⟨φ2, I2, H1, v, e1, e2, ⟨rfl, rfl⟩, val, e5, e6⟩ := hh
  have hnew : w'.heap.size ≤ φ2 H.length := by
    rcases e1.own _ ⟨_, _, hb0, rfl⟩ with ⟨b, x, hb, e⟩ | h
    · have hlt := get_lt hb
      have := e2.heap.inj b _ x _ (hbH b x hb) hb0 (by rw [e1.phi b hlt]; exact e)
      omega
    · exact h
  have hno : ¬ Own φ2 H (φ2 H.length) := by
    rintro ⟨b, x, hb, e⟩
    have hlt := get_lt hb
    have := e2.heap.inj b _ x _ (hbH b x hb) hb0 e
    omega
  have e1' : Evo φ' I' H w' φ2 I2 H w2 := by
    have := e1.take (L := H.length) (Nat.le_refl _)
    rwa [htk] at this
  have hok := h2.heap.isOk
  have e2' : Rel γ n nb φ2 I2 σ' H a2 w2 := by
    have := e2.forget (L := H.length) (s' := σ') ⟨fun t => ?_, fun b x hb hx => ?_⟩
    · rwa [htk] at this
    · subst hσ
      rw [hod]
      simp only [putA, upd]
      by_cases ht : t = d0
      · rw [if_pos ht]; exact .inl rfl
      · rw [if_neg ht, if_neg ht]; exact .inr ⟨rfl, (h2.slots t).isOk⟩
    · rw [List.getElem?_append_left hb] at hx
      exact hok b x hx
  have hval : val = .pointer (some ⟨φ2 H.length, 0, none⟩) := by
    cases e6
    simp
  subst hval
  have hbf : BF φ2 I2 H w w2 z0 (φ2 H.length) :=
    ⟨Nat.le_trans h1.size hnew, e2.heap.dis _ _ hb0, hno, (e2.heap.blk _ _ hb0).trunc (by simp [EB.ok, okL, hz])⟩
  have hS : ∀ j, j ≠ j0 → (S (k + j) || k + j == k + j0) = S (k + j) := fun j hj => by
    have : (k + j == k + j0) = false := by simp; omega
    rw [this, Bool.or_false]
  obtain ⟨β', hβ0, hβ⟩ : ∃ β' : Nat → Nat, β' j0 = φ2 H.length ∧ ∀ j, j ≠ j0 → β' j = β j := ⟨fun j => if j = j0 then φ2 H.length else β j, by simp, fun j h => if_neg h⟩
  refine ⟨φ2, I2, β', h1.trans e1', e2', fun j d z hj hs => ?_, fun i j hi' hj' s1 s2 e => ?_⟩
  · by_cases hjj : j = j0
    · subst hjj
      rw [hj0] at hj
      simp only [Option.some.injEq, EOper.mk.injEq, EOp.box.injEq, EOpd.c.injEq, and_true] at hj
      obtain ⟨rfl, rfl⟩ := hj
      rw [hβ0]
      refine ⟨?_, hbf⟩
      rw [e5, hod]
      simp [Act.put, h2.sz, hd0]
    · rw [hβ j hjj]
      replace hs := (hS j hjj).symm.trans hs
      obtain ⟨c1, c2⟩ := h3 j d z hj hs
      refine ⟨?_, c2.evo h2.heap e1'⟩
      rw [e5, put_get, c1]
      intro e
      rw [hod] at e
      simp only [Option.some.injEq] at e
      subst e
      exact hjj (dsts_inj hnd hj hj0 rfl rfl)
  · have hlt : ∀ j, j < al.length → j ≠ j0 → (S (k + j) || k + j == k + j0) = true → φ2 H.length ≠ β j := fun j hj hjj hs e => by
      rw [hS j hjj] at hs
      obtain ⟨d, z, ho, _⟩ := isNew_some (List.all_eq_true.1 hal al[j] (List.getElem_mem hj))
      have := (h3 j d z (by rw [← ho]; simp [hj]) hs).2.lt
      omega
    by_cases hi0 : i = j0 <;> by_cases hj0' : j = j0
    · omega
    · rw [hi0, hβ0, hβ j hj0'] at e
      exact absurd e (hlt j hj' hj0' s2)
    · rw [hj0', hβ0, hβ i hi0] at e
      exact absurd e.symm (hlt i hi' hi0 s1)
    · rw [hβ i hi0, hβ j hj0'] at e
      exact h4 i j hi' hj' ((hS i hi0).symm.trans s1) ((hS j hj0').symm.trans s2) e

/-- The text's order. -/
theorem wdr_const {Q : AX → Slots → Heap → Prop} : ∀ (pre : List EOper) (s : Slots), wdr P γ Q (pre.map fun o => (o, false)) s H →
    ∃ val : Nat → EV, (∀ i (hi : i < pre.length), Runs P γ (stS val (fun j => decide (j < i)) 0 pre s) H pre[i] (val i) H) ∧ Q .normal (stS val (fun _ => true) 0 pre s) H := by
  intro pre s h
  obtain ⟨val, hs, g0, g1, g2⟩ := wdr_parts _ _ _ h
  have hm : (pre.map fun o => (o, false)).map (·.1) = pre := by simp [Function.comp_def]
  rw [hm] at g1 g2
  have hc : ∀ i, i ≤ pre.length → hs i = H := by
    intro i
    induction i with
    | zero => intro _; exact g0
    | succ i ih =>
      intro hi
      rw [(g1 i pre[i] false (by simp [show i < pre.length by omega])).2 rfl]
      exact ih (by omega)
  refine ⟨val, fun i hi => ?_, ?_⟩
  · have := (g1 i pre[i] false (by simp [hi])).1
    rwa [hc i (by omega), hc (i + 1) (by omega)] at this
  · rw [← hc pre.length (Nat.le_refl _)]
    simpa using g2

theorem stS_append {val : Nat → EV} {S : Nat → Bool} : ∀ (l l' : List EOper) (i : Nat) (s : Slots), stS val S i (l ++ l') s = stS val S (i + l.length) l' (stS val S i l s)
  | [], _, _, _ => rfl
  | o :: l, l', i, s => by
    simp only [List.cons_append, stS, List.length_cons]
    rw [stS_append l l' (i + 1)]
    congr 1
    omega

theorem stS_none {val : Nat → EV} {S : Nat → Bool} {l : List EOper} {i : Nat} {s : Slots} (h : ∀ k, k < l.length → S (i + k) = false) : stS val S i l s = s := by
  funext t
  exact stS_skip l i s fun k o hk hs => by rw [h k (get_lt hk)] at hs; simp at hs

theorem wop_plain {Qp : EV → Heap → Prop} {ρ : EOpd → EV} {op : EOp} {K : EV → Heap → Prop} (hp : op.plain = true) (h : wop P γ Qp ρ H op K) : ∃ v H', evOp ρ H op = some (v, H') ∧ K v H' := by
  cases op <;> simp only [EOp.plain, Bool.false_eq_true] at hp <;> (unfold wop at h; simp only at h; split at h <;> first | exact ⟨_, _, by assumption, h⟩ | exact h.elim)
theorem acts_plain {op : EOp} {v : EV} {H' : Heap} (hp : op.plain = true) (h : evOp (ev γ s) H op = some (v, H')) : Acts P γ s H op v H' := by
  cases op <;> simp only [EOp.plain, Bool.false_eq_true] at hp <;> exact h
theorem plain_acts {op : EOp} {v : EV} {H' : Heap} (hp : op.plain = true) (h : Acts P γ s H op v H') : evOp (ev γ s) H op = some (v, H') := by
  cases op <;> simp only [EOp.plain, Bool.false_eq_true] at hp <;> exact h

set_option maxHeartbeats 2000000 in
/-- Whatever the order, the text's answer. -/
theorem drawA_sound {Q : AX → Slots → Heap → Prop} {own : List Nat} {ops : Array Oper} {pre al post : List EOper} {pr : List (List Nat)} (hl : ops.toList.mapM (resOper P n own ops) = some (pre ++ (al ++ post)))
    (hok : okA pre al post (depsOf ops) pr = true) (hR : Rel γ n nb φ I s H a w) (h : wdr P γ (thenA (fun s1 H1 => wops P γ Q (al ++ post) s1 H1) Q) (pre.map fun o => (o, false)) s H) :
    wpAny P .any ops (Post γ n nb φ I H w Q) ops.size (Array.replicate ops.size false) a { w with drawn := w.drawn + 1 } := by
  simp only [okA, Bool.and_eq_true, decide_eq_true_eq] at hok
  obtain ⟨⟨⟨⟨⟨⟨k1, k2⟩, k3⟩, k4⟩, k5⟩, k6⟩, k7⟩ := hok
  obtain ⟨val0, r1, r2⟩ := wdr_const pre s h
  obtain ⟨ml, mres⟩ := mapM_get hl
  have hsz : pre.length + (al.length + post.length) = ops.size := by simpa using ml
  obtain ⟨l1, hl1⟩ : ∃ l1, l1 = pre ++ al.map blank := ⟨_, rfl⟩
  have hll : l1.length = pre.length + al.length := by rw [hl1]; simp
  rw [← hl1] at k4
  obtain ⟨val, hv1, hv2⟩ : ∃ val : Nat → EV, (∀ i, i < pre.length → val i = val0 i) ∧ ∀ i, pre.length ≤ i → val i = .undef :=
    ⟨fun i => if i < pre.length then val0 i else .undef, fun i hi => if_pos hi, fun i hi => if_neg (by omega)⟩
  have hvS : ∀ (S : Nat → Bool) (s : Slots), stS val S 0 pre s = stS val0 S 0 pre s := by
    have : ∀ (S : Nat → Bool) (l : List EOper) (i : Nat) (s : Slots), i + l.length ≤ pre.length → stS val S i l s = stS val0 S i l s := by
      intro S l
      induction l with
      | nil => intro i s _; rfl
      | cons o l ih =>
        intro i s hi
        simp only [List.length_cons] at hi
        simp only [stS]
        rw [hv1 i (by omega), ih (i + 1) _ (by omega)]
    exact fun S s => this S pre 0 s (by omega)
  have get1 : ∀ i (hi : i < pre.length), l1[i]? = some pre[i] := fun i hi => by rw [hl1, List.getElem?_append_left hi]; simp [hi]
  have get2 : ∀ j (hj : j < al.length), l1[pre.length + j]? = some (blank al[j]) := fun j hj => by rw [hl1, List.getElem?_append_right (by omega)]; simp [hj]
  have text : ∀ i (hi : i < l1.length), Runs P γ (stS val (fun j => decide (j < i)) 0 l1 s) H l1[i] (val i) H := by
    intro i hi
    by_cases hp : i < pre.length
    · have e1 : l1[i] = pre[i] := by have := get1 i hp; simpa [hi] using this
      have e2 : stS val (fun j => decide (j < i)) 0 l1 s = stS val0 (fun j => decide (j < i)) 0 pre s := by
        rw [hl1, stS_append, hvS, stS_none]
        intro k _
        simp; omega
      rw [e1, e2, hv1 i hp]
      exact r1 i hp
    · have e1 : l1[i] = blank (al[i - pre.length]'(by omega)) := by
        have := get2 (i - pre.length) (by omega)
        rw [show pre.length + (i - pre.length) = i by omega] at this
        simpa [hi] using this
      rw [e1, hv2 i (by omega)]
      simp [Runs, blank, Acts, evOp, ev]
  have okd : ∀ i, i < ops.size → (∀ k ∈ (depsOf ops).getD i [], k < i) ∧ ∀ j ∈ pr.getD i [], ∃ k ∈ (depsOf ops).getD i [], k = j ∨ j ∈ pr.getD k [] := by
    intro i hi
    by_cases hp : i < l1.length
    · have := order_in k4 i hp
      exact ⟨this.1, this.2.1⟩
    · have := List.all_eq_true.1 k6 (i - (pre.length + al.length)) (List.mem_range.2 (by omega))
      rw [show pre.length + al.length + (i - (pre.length + al.length)) = i by omega] at this
      simp only [Bool.and_eq_true, List.all_eq_true, decide_eq_true_eq, List.any_eq_true, Bool.or_eq_true, beq_iff_eq, List.contains_iff_mem, List.mem_range] at this
      exact ⟨this.1.1, this.1.2⟩
  have okp : ∀ i, l1.length ≤ i → i < ops.size → ∀ j, j < i → j ∈ pr.getD i [] ∨ (j < pre.length ∧ j ∉ pr.getD i [] ∧ lateP (pre.getD j default) (post.getD (i - l1.length) default) = true) := by
    intro i hi hi' j hj
    have := List.all_eq_true.1 k6 (i - (pre.length + al.length)) (List.mem_range.2 (by omega))
    rw [show pre.length + al.length + (i - (pre.length + al.length)) = i by omega] at this
    simp only [Bool.and_eq_true, List.all_eq_true, List.contains_iff_mem, List.mem_range, Bool.or_eq_true, decide_eq_true_eq] at this
    rcases this.2 j hj with h | h
    · exact .inl h
    · by_cases hm : j ∈ pr.getD i []
      · exact .inl hm
      · exact .inr ⟨h.1, hm, by rw [hll]; exact h.2⟩
  have isL_of : ∀ i, l1.length ≤ i → i < ops.size → ∀ j, j ∉ pr.getD i [] → isL (pre.length + al.length) post.length pr j = true := by
    intro i hi hi' j hj
    unfold isL
    refine List.any_eq_true.2 ⟨i - l1.length, List.mem_range.2 (by omega), ?_⟩
    rw [show pre.length + al.length + (i - l1.length) = i by omega]
    simpa using hj
  have apartL : ∀ i j, i < pre.length → j < pre.length → i ≠ j → isL (pre.length + al.length) post.length pr i = true → isL (pre.length + al.length) post.length pr j = true → meets (pre.getD i default) (pre.getD j default) = false := by
    intro i j hi hj hne h1 h2
    have := List.all_eq_true.1 (List.all_eq_true.1 k7 i (List.mem_range.2 hi)) j (List.mem_range.2 hj)
    rw [h1, h2] at this
    simpa [hne] using this
  obtain ⟨σ, hσ⟩ : ∃ σ : (Nat → Bool) → Slots, ∀ S, σ S = stS val S 0 l1 s := ⟨_, fun _ => rfl⟩
  have hd : ∀ d ∈ dstsOf al, d ∉ dstsOf pre := fun d hd => by have := List.all_eq_true.1 k3 d hd; simpa using this
  -- all new blocks are known
  have turn : ∀ (S : Nat → Bool) (a' : Act) (w' : World), (∀ i, i < l1.length → S i = false → i < pre.length) → P1 γ n nb φ I H w (σ S) al pre.length S a' w' →
      ∃ φ' I' s' s2 H', Evo φ I H w φ' I' H' w' ∧ Rel γ n nb φ' I' s' H' a' w' ∧ wops P γ Q post s2 H' ∧ (∀ t, s' t = s2 t ∨ ∃ i o, pre[i]? = some o ∧ S i = false ∧ o.dst = some t) ∧
        ∀ t, t ∉ dstsOf al → s' t = σ S t ∧ s2 t = stS val0 (fun _ => true) 0 pre s t := by
    rintro S a' w' hS ⟨φ', I', β, h1, h2, h3, h4⟩
    have hal1 : ∀ j, j < al.length → S (pre.length + j) = true := fun j hj => by
      cases hb : S (pre.length + j) with
      | true => rfl
      | false => have := hS _ (by omega) hb; omega
    obtain ⟨φ2, I2, s', s2, H2, g1, g2, g3, g4, g5⟩ := conv (X := fun t => ∃ i o, pre[i]? = some o ∧ S i = false ∧ o.dst = some t) al k1 φ' H (σ S) (stS val0 (fun _ => true) 0 pre s) β h1 h2 (fun j d z hj => h3 j d z hj (hal1 _ (get_lt hj))) (fun i j hi hj e => h4 i j hi hj (hal1 _ hi) (hal1 _ hj) e) (fun t ht hX => by
      rw [hσ, hl1, stS_append, stS_skip, hvS]
      · exact stS_eq pre 0 s s (fun k o hk hd => by
          rw [Nat.zero_add]
          cases hb : S k with
          | true => rfl
          | false => exact absurd ⟨k, o, hk, hb, hd⟩ hX) rfl
      · intro k o hk _ hd
        obtain ⟨o', ho', rfl⟩ : ∃ o', al[k]? = some o' ∧ blank o' = o := by simpa using hk
        exact ht (dsts_mem ho' (by simpa [blank] using hd))) r2
    refine ⟨φ2, I2, s', s2, H2, g1, g2, g3, fun t => ?_, g5⟩
    by_cases hX : ∃ i o, pre[i]? = some o ∧ S i = false ∧ o.dst = some t
    · exact .inr hX
    · exact .inl (g4 t hX)
  refine any_core (fun i hi => (okd i hi).1)
    (fun S a' w' => ((∀ i, l1.length ≤ i → i < ops.size → S i = false) ∧ P1 γ n nb φ I H w (σ S) al pre.length S a' w') ∨
      ∃ p, l1.length < p ∧ p ≤ ops.size ∧ (∀ i, l1.length ≤ i → i < ops.size → S i = decide (i < p)) ∧ (∀ i, i < l1.length → S i = false → i < pre.length ∧ isL (pre.length + al.length) post.length pr i = true ∧ (pre.getD i default).op.looks = false ∧ (pre.getD i default).guard = none) ∧
        ∃ φ' I' s' s2 H', Evo φ I H w φ' I' H' w' ∧ Rel γ n nb φ' I' s' H' a' w' ∧ wops P γ Q (post.drop (p - l1.length)) s2 H' ∧ (∀ t, s' t = s2 t ∨ ∃ i o, pre[i]? = some o ∧ S i = false ∧ o.dst = some t) ∧
          ∀ i o, pre[i]? = some o → S i = false → Runs P γ s' H' o (val0 i) H' ∧ ∀ d, o.dst = some d → s2 d = val0 i)
    ?_ ?_ ?_ ?_
  · -- what stands outside does not count
    intro S T hST a' w' hS
    rcases hS with ⟨h1, h2⟩ | ⟨p, h1, h2, h3, h5, φ', I', s', s2, H', g1, g2, g3, g4, g5⟩
    · refine .inl ⟨fun i hi hi' => (hST i hi').symm.trans (h1 i hi hi'), ?_⟩
      have e : σ S = σ T := by rw [hσ, hσ]; exact stS_congr fun k hk => by rw [Nat.zero_add]; exact hST k (by omega)
      rw [← e]
      obtain ⟨φ', I', β, g1, g2, g3, g4⟩ := h2
      have eT : ∀ j, j < al.length → T (pre.length + j) = S (pre.length + j) := fun j hj => (hST _ (by omega)).symm
      exact ⟨φ', I', β, g1, g2, fun j d z hj hs => g3 j d z hj ((eT j (get_lt hj)).symm.trans hs), fun i j hi hj s1 s2 e => g4 i j hi hj ((eT i hi).symm.trans s1) ((eT j hj).symm.trans s2) e⟩
    · refine .inr ⟨p, h1, h2, fun i hi hi' => (hST i hi').symm.trans (h3 i hi hi'), fun i hi hs => h5 i hi ((hST i (by omega)).trans hs), φ', I', s', s2, H', g1, g2, g3, fun t => ?_, fun i o ho hs => g5 i o ho ((hST i (by have := get_lt ho; omega)).trans hs)⟩
      rcases g4 t with h | ⟨i, o, ho, hs, hd⟩
      · exact .inl h
      · exact .inr ⟨i, o, ho, (hST i (by have := get_lt ho; omega)).symm.trans hs, hd⟩
  · intro S hSc i hi hSi hSd a' w' hS
    have hprein := pre_in okd S hSc i hi hSd
    have hop : ops[i]? = some ops[i] := by simp [hi]
    have heo : ∀ eo, (pre ++ (al ++ post))[i]? = some eo → resOper P n own ops ops[i] = some eo := fun eo he => mres i ops[i] eo (by simp [hi]) he
    have ok1 := order_in k4
    have gD : ∀ i o, pre[i]? = some o → pre.getD i default = o := fun i o ho => by simp [List.getD, ho]
    by_cases hp : i < l1.length
    · have before : ∀ j (hj : j < i), meets (l1[j]'(by omega)) l1[i] = true → S j = true := by
        intro j hj hme
        exact hprein j ((ok1 i hp).2.2 j hj (by
          rw [show l1.getD j default = l1[j]'(by omega) by simp [show j < l1.length by omega], show l1.getD i default = l1[i] by simp [hp]]
          exact hme))
      rcases hS with hS1 | ⟨p, h1, h2, h3, h5, φ', I', s', s2, H', g1, g2, g3, g4, g5⟩
      · -- before the rest
        obtain ⟨o1, o2⟩ := one_const k4 text S (fun i hi => hSc i (by omega)) i hp hSi before
        rw [← hσ] at o1 o2
        rw [← hσ] at o2
        have hfar : ∀ j, l1.length ≤ j → j < ops.size → (S j || j == i) = false := fun j hj hj' => by
          rw [hS1.1 j hj hj']
          simp; omega
        by_cases hq : i < pre.length
        · have e1 : l1[i] = pre[i] := by have := get1 i hq; simpa [hp] using this
          rw [e1] at o1 o2
          refine wpOp_mono (fun a2 w2 hh => .inl ⟨hfar, hh⟩) (step_pre hd hop (by simp [hq]) (heo _ (by rw [List.getElem?_append_left hq]; simp [hq])) hS1.2 o1 o2)
        · obtain ⟨j0, rfl⟩ : ∃ j0, i = pre.length + j0 := ⟨i - pre.length, by omega⟩
          have hj0 : j0 < al.length := by omega
          obtain ⟨d0, z0, hz0, hz1, hz2⟩ := isNew_some (List.all_eq_true.1 k1 al[j0] (List.getElem_mem hj0))
          have hal0 : al[j0]? = some { dst := some d0, op := .box (.c z0), guard := none } := by rw [← hz0]; simp [hj0]
          have e1 : l1[pre.length + j0] = blank al[j0] := by have := get2 j0 hj0; simpa [hp] using this
          rw [e1, hv2 _ (by omega), hz0] at o2
          refine wpOp_mono (fun a2 w2 hh => .inl ⟨hfar, hh⟩) (step_new k1 k2 hz1 hz2 hop hal0 (heo _ ?_) hS1.2 o2)
          rw [List.getElem?_append_right (by omega), List.getElem?_append_left (by omega)]
          rw [← hal0]
          congr 1
          omega
      · -- a late one
        obtain ⟨hq, hL, hlk, hgn⟩ := h5 i hp hSi
        have hpi : pre[i]? = some pre[i] := by simp [hq]
        rw [gD i _ hpi] at hlk hgn
        obtain ⟨c1, c2⟩ := g5 i pre[i] hpi hSi
        have mt : ∀ j o, pre[j]? = some o → S j = false → j ≠ i → meets pre[i] o = false := fun j o ho hs hne => by
          have := apartL i j hq (get_lt ho) (Ne.symm hne) hL (h5 j (by have := get_lt ho; omega) hs).2.1
          rwa [gD i _ hpi, gD j o ho] at this
        refine runs_sound2 hop (heo _ (by rw [List.getElem?_append_left hq]; exact hpi)) g1 g2 c1 fun φ2 I2 a2 w2 v2 e1 e2 e3 => .inr ⟨p, h1, h2, fun j hj hj' => ?_, fun j hj hs => ?_, φ2, I2, _, s2, H', g1.trans e1, e2, g3, fun t => ?_, fun j o ho hs => ?_⟩
        · show (S j || j == i) = decide (j < p)
          rw [h3 j hj hj', show (j == i) = false by simp; omega, Bool.or_false]
        · exact h5 j hj (by simp only [Bool.or_eq_false_iff] at hs; exact hs.1)
        · by_cases ht : pre[i].dst = some t
          · left
            rw [c2 t ht, ht]
            simp [putA, upd]
          · rw [putA_ne ht]
            rcases g4 t with h | ⟨j, o, ho, hs, hdt⟩
            · exact .inl h
            · refine .inr ⟨j, o, ho, ?_, hdt⟩
              show (S j || j == i) = false
              rw [hs, Bool.false_or]
              simp only [beq_eq_false_iff_ne, ne_eq]
              rintro rfl
              rw [hpi] at ho
              obtain rfl := Option.some.inj ho
              exact ht hdt
        · simp only [Bool.or_eq_false_iff, beq_eq_false_iff_ne, ne_eq] at hs
          obtain ⟨q1, q2⟩ := g5 j o ho hs.1
          have hm := mt j o ho hs.1 hs.2
          refine ⟨q1.congr fun t ht => ?_, q2⟩
          refine (putA_ne fun e => ?_).symm
          simp [meets, e, ht] at hm
    · -- the rest
      have hge : l1.length ≤ i := by omega
      have late : ∀ j, j < i → S j = false → j < pre.length ∧ j ∉ pr.getD i [] ∧ lateP (pre.getD j default) (post.getD (i - l1.length) default) = true := fun j hj hs => by
        rcases okp i hge hi j hj with h | h
        · rw [hprein j h] at hs; simp at hs
        · exact h
      have hlt : ∀ j, l1.length ≤ j → j < i → S j = true := fun j hj hji => by
        cases hb : S j with
        | true => rfl
        | false => have := (late j hji hb).1; omega
      have hS2 : (∀ j, l1.length ≤ j → j < ops.size → S j = decide (j < i)) ∧ ∃ φ' I' s' s2 H', Evo φ I H w φ' I' H' w' ∧ Rel γ n nb φ' I' s' H' a' w' ∧ wops P γ Q (post.drop (i - l1.length)) s2 H' ∧ (∀ t, s' t = s2 t ∨ ∃ i o, pre[i]? = some o ∧ S i = false ∧ o.dst = some t) ∧
          ∀ i o, pre[i]? = some o → S i = false → Runs P γ s' H' o (val0 i) H' ∧ ∀ d, o.dst = some d → s2 d = val0 i := by
        rcases hS with ⟨h1, h2⟩ | ⟨p, h1, h2, h3, h5, h4⟩
        · have hi1 : i = l1.length := by
            rcases Nat.lt_or_ge l1.length i with hlt' | hge'
            · have := hlt _ (Nat.le_refl _) hlt'
              rw [h1 _ (Nat.le_refl _) (by omega)] at this
              simp at this
            · omega
          refine ⟨fun j hj hj' => ?_, ?_⟩
          · rw [h1 j hj hj']; simp; omega
          · obtain ⟨φ', I', s', s2, H', g1, g2, g3, g4, g5⟩ := turn S a' w' (fun j hj hs => (late j (by omega) hs).1) h2
            refine ⟨φ', I', s', s2, H', g1, g2, by rw [hi1, Nat.sub_self, List.drop_zero]; exact g3, g4, fun j o ho hs => ?_⟩
            have hjl := get_lt ho
            have hjl1 : j < l1.length := by omega
            obtain ⟨_, hjn, hjp⟩ := late j (by omega) hs
            have hjL := isL_of i hge hi j hjn
            have eqp : ∀ k o', pre[k]? = some o' → ∀ hk : k < l1.length, l1[k] = o' := fun k o' hk' hk => by
              have h1 := get1 k (get_lt hk')
              have h2 : pre[k]'(get_lt hk') = o' := by simpa [get_lt hk'] using hk'
              rw [h2] at h1
              simpa [hk] using h1
            have e1 : l1[j] = o := eqp j o ho hjl1
            have preIn1 : ∀ k, k < l1.length → S k = true → ∀ j' ∈ pr.getD k [], S j' = true := fun k hk hsk => pre_in okd S hSc k (by omega) (hSc k (by omega) hsk)
            have l1D : ∀ k (hk : k < l1.length), l1.getD k default = l1[k] := fun k hk => by simp [hk]
            have undone : ∀ k, k < l1.length → k ≠ j → S k = false → ∀ o', pre[k]? = some o' → meets (pre.getD k default) o = false ∧ meets o (pre.getD k default) = false := fun k hk hne hsk o' ho' => by
              have hkL := isL_of i hge hi k (late k (by omega) hsk).2.1
              have m1 := apartL k j (get_lt ho') hjl hne hkL hjL
              have m2 := apartL j k hjl (get_lt ho') (Ne.symm hne) hjL hkL
              rw [gD j o ho] at m1 m2
              exact ⟨m1, m2⟩
            obtain ⟨q1, q2⟩ := one_const k4 text S (fun i hi => hSc i (by omega)) j hjl1 hs (fun k hk hme => by
              cases hb : S k with
              | true => rfl
              | false =>
                have hkp := (late k (by omega) hb).1
                have hko : pre[k]? = some pre[k] := by simp [hkp]
                have := (undone k (by omega) (by omega) hb _ hko).1
                rw [gD k _ hko] at this
                have e2 : l1[k]'(by omega) = pre[k] := eqp k _ hko (by omega)
                rw [e2, e1, this] at hme
                simp at hme)
            rw [e1, hv1 j hjl] at q1
            simp only [lateP, Bool.and_eq_true, Bool.not_eq_true', gD j o ho] at hjp
            have noal : ∀ t, (t ∈ o.reads ∨ o.dst = some t) → t ∉ dstsOf al := fun t ht hta => by
              obtain ⟨x, hx, hxd⟩ := List.mem_filterMap.1 hta
              obtain ⟨k, hk, hkx⟩ := List.getElem_of_mem hx
              have e3 : l1[pre.length + k]'(by omega) = blank al[k] := by have := get2 k hk; simpa [show pre.length + k < l1.length by omega] using this
              have hbd : (blank al[k]).dst = some t := by simp only [blank, hkx]; exact hxd
              have hm : meets l1[j] (l1[pre.length + k]'(by omega)) = true := by
                rw [e1, e3]
                rcases ht with ht | ht
                · simp [meets, hbd, ht]
                · simp [meets, hbd, ht]
              have hmem := (ok1 (pre.length + k) (by omega)).2.2 j (by omega) (by rw [l1D j hjl1, l1D _ (by omega)]; exact hm)
              have hdone : S (pre.length + k) = true := by
                cases hb : S (pre.length + k) with
                | true => rfl
                | false => have := (late _ (by omega) hb).1; omega
              have := preIn1 _ (by omega) hdone j hmem
              rw [hs] at this; simp at this
            have rb := (q1.blind (H2 := H') (by simpa using hjp.1.1.1))
            refine ⟨rb.congr fun t ht => ?_, fun d hdo => ?_⟩
            · rw [(g5 t (noal t (.inl ht))).1, hσ]
            · rw [(g5 d (noal d (.inr hdo))).2]
              have := stS_at (val := val0) (S := fun _ => true) (t := d) pre 0 j s o ho hdo rfl (fun k o' hk hk' _ hd' => by
                have hkl := get_lt hk'
                have e4 : l1[k]'(by omega) = o' := eqp k o' hk' (by omega)
                have hm : meets l1[j] (l1[k]'(by omega)) = true := by rw [e1, e4]; simp [meets, hdo, hd']
                have hmem := (ok1 k (by omega)).2.2 j hk (by rw [l1D j hjl1, l1D k (by omega)]; exact hm)
                cases hb : S k with
                | true =>
                  have := preIn1 k (by omega) hb j hmem
                  rw [hs] at this; simp at this
                | false =>
                  have := (undone k (by omega) (by omega) hb o' hk').2
                  rw [gD k o' hk'] at this
                  rw [e1, e4, this] at hm
                  simp at hm)
              rw [Nat.zero_add] at this
              exact this
        · have hpi : p = i := by
            have e1 := h3 i hge hi
            rw [hSi] at e1
            have e2 : ¬ i < p := by simpa using e1.symm
            rcases Nat.lt_or_ge p i with hlt' | hge'
            · have := hlt p (by omega) hlt'
              rw [h3 p (by omega) (by omega)] at this
              simp at this
            · omega
          subst hpi
          exact ⟨h3, h4⟩
      obtain ⟨hSi', φ', I', s', s2, H', g1, g2, g3, g4, g5⟩ := hS2
      have hj : i - l1.length < post.length := by omega
      have hpD : post.getD (i - l1.length) default = post[i - l1.length] := by simp [hj]
      rw [List.drop_eq_getElem_cons hj] at g3
      have hgd := List.all_eq_true.1 k5 post[i - l1.length] (List.getElem_mem hj)
      have heo' := heo post[i - l1.length] (by
        rw [List.getElem?_append_right (by omega), List.getElem?_append_right (by omega)]
        rw [show i - pre.length - al.length = i - l1.length by omega]
        simp [hj])
      obtain ⟨⟨b, hres⟩, hdst, hdn, hg⟩ := resOper_parts heo'
      have hgn : post[i - l1.length].guard = none := by simpa using hgd
      have hgo : ops[i].guard = none := by
        cases ho : ops[i].guard with
        | none => rfl
        | some p =>
          obtain ⟨j, bb⟩ := p
          rw [ho] at hg
          obtain ⟨d, _, _, hg⟩ := hg
          rw [hgn] at hg
          simp at hg
      simp only [wops, hgn] at g3
      -- the late ones are not met
      have apart' : ∀ j o, pre[j]? = some o → S j = false → o.op.looks = false ∧ o.guard = none ∧ post[i - l1.length].op.plain = true ∧ meets o post[i - l1.length] = false ∧ isL (pre.length + al.length) post.length pr j = true := fun j o ho hs => by
        obtain ⟨_, q2, q3⟩ := late j (by have := get_lt ho; omega) hs
        rw [hpD, gD j o ho] at q3
        simp only [lateP, Bool.and_eq_true, Bool.not_eq_true', Option.isNone_iff_eq_none] at q3
        exact ⟨q3.1.1.1, q3.1.1.2, q3.1.2, q3.2, isL_of i hge hi j q2⟩
      have g3' : wop P γ (fun v H' => Q (.panic v) s' H') (ev γ s') H' post[i - l1.length].op fun v H2 => wops P γ Q (post.drop (i - l1.length + 1)) (putA s2 post[i - l1.length].dst v) H2 := by
        by_cases hu : ∃ j o, pre[j]? = some o ∧ S j = false
        · obtain ⟨j, o, ho, hs⟩ := hu
          obtain ⟨v, H2, r1, r2⟩ := wop_plain (apart' j o ho hs).2.2.1 g3
          refine wop_of ?_ r2
          have hp := (apart' j o ho hs).2.2.1
          have : Acts P γ s' H' post[i - l1.length].op v H2 := Acts.congr (s := s2) (fun t ht => by
            rcases g4 t with h | ⟨j', o', ho', hs', hd'⟩
            · exact h.symm
            · have := (apart' j' o' ho' hs').2.2.2.1
              simp [meets, hd', EOper.reads, ht] at this) (acts_plain hp r1)
          exact plain_acts hp this
        · have : s' = s2 := funext fun t => by
            rcases g4 t with h | ⟨j, o, ho, hs, _⟩
            · exact h
            · exact absurd ⟨j, o, ho, hs⟩ hu
          rw [this]
          exact g3
      unfold wpOp
      rw [hop]
      simp only
      rw [if_pos (by simp [Region.wanted, hgo])]
      refine .inl (op_post (fun e a2 w2 hp => Post.trans g1 hp) (Oper.wp_mono (fun a2 w2 hh => ?_) (wop_sound (Q := Q) g2 hres hdn g3')))
      obtain ⟨φ2, I2, H2, v, e1, e2, e3⟩ := hh
      rw [← hdst] at e2
      refine .inr ⟨i + 1, by omega, by omega, fun j hj hj' => ?_, fun j hj hs => ?_, φ2, I2, _, putA s2 post[i - l1.length].dst v, H2, g1.trans e1, e2, ?_, fun t => ?_, fun j o ho hs => ?_⟩
      · rw [hSi' j hj hj']
        by_cases hji : j = i
        · subst hji; simp
        · have : (j == i) = false := by simp [hji]
          rw [this, Bool.or_false, decide_eq_decide]
          omega
      · simp only [Bool.or_eq_false_iff] at hs
        have hjp := (late j (by omega) hs.1).1
        have ho : pre[j]? = some pre[j] := by simp [hjp]
        obtain ⟨q1, q2, _, _, q5⟩ := apart' j _ ho hs.1
        rw [gD j _ ho]
        exact ⟨hjp, q5, q1, q2⟩
      · rw [show i + 1 - l1.length = i - l1.length + 1 by omega]
        exact e3
      · by_cases ht : post[i - l1.length].dst = some t
        · left; rw [ht]; simp [putA, upd]
        · rw [putA_ne ht, putA_ne ht]
          rcases g4 t with h | ⟨j, o, ho, hs, hd'⟩
          · exact .inl h
          · refine .inr ⟨j, o, ho, ?_, hd'⟩
            have := get_lt ho
            show (S j || j == i) = false
            rw [hs, Bool.false_or]
            simp; omega
      · simp only [Bool.or_eq_false_iff] at hs
        obtain ⟨q1, q2⟩ := g5 j o ho hs.1
        obtain ⟨l1', l2', _, hm, _⟩ := apart' j o ho hs.1
        refine ⟨(q1.blind (H2 := H2) l1').congr fun t ht => (putA_ne fun e => ?_).symm, fun d hdo => ?_⟩
        · have hm2 := hm
          simp [meets, e, ht] at hm2
        · rw [putA_ne fun e => ?_]
          · exact q2 d hdo
          · simp [meets, e, hdo] at hm
  · intro S hS a' w' hh
    have : ∃ φ' I' s' H', Evo φ I H w φ' I' H' w' ∧ Rel γ n nb φ' I' s' H' a' w' ∧ Q .normal s' H' := by
      rcases hh with ⟨h1, h2⟩ | ⟨p, h1, h2, h3, h5, φ', I', s', s2, H', g1, g2, g3, g4, g5⟩
      · have hpost : post = [] := by
          rcases Nat.lt_or_ge l1.length ops.size with hlt | hge
          · have := h1 _ (Nat.le_refl _) hlt
            rw [hS _ hlt] at this
            simp at this
          · exact List.eq_nil_of_length_eq_zero (by omega)
        obtain ⟨φ', I', s', s2, H', g1, g2, g3, g4, _⟩ := turn S a' w' (fun i hi hs => by rw [hS i (by omega)] at hs; simp at hs) h2
        have : s' = s2 := funext fun t => by
          rcases g4 t with h | ⟨j, o, ho, hs, _⟩
          · exact h
          · rw [hS j (by have := get_lt ho; omega)] at hs; simp at hs
        subst this
        rw [hpost] at g3
        exact ⟨φ', I', s', H', g1, g2, g3⟩
      · have hp : p = ops.size := by
          rcases Nat.lt_or_ge p ops.size with hlt | hge
          · have := h3 p (by omega) hlt
            rw [hS p hlt] at this
            simp at this
          · omega
        have : s' = s2 := funext fun t => by
          rcases g4 t with h | ⟨j, o, ho, hs, _⟩
          · exact h
          · rw [hS j (by have := get_lt ho; omega)] at hs; simp at hs
        subst this
        rw [hp, show ops.size - l1.length = post.length by omega, List.drop_length] at g3
        exact ⟨φ', I', s', H', g1, g2, g3⟩
    obtain ⟨φ', I', s', H', g1, g2, g3⟩ := this
    exact ⟨φ', I', s', H', .normal, g1, g2, .normal, g3⟩
  · refine .inl ⟨fun _ _ _ => rfl, φ, I, fun _ => 0, Evo.drew, ?_, fun j d z _ hs => by simp at hs, fun i j _ _ hs => by simp at hs⟩
    rw [hσ, stS_none fun _ _ => rfl]
    exact hR.drew

end
end Abs
