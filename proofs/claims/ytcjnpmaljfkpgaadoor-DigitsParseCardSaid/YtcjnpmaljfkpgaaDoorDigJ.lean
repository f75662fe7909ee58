/- formatBase10: what it needs. -/
import Derived.Test.YtcjnpmaljfkpgaaDoorDigI
namespace Abs
open Go
set_option linter.all false
set_option maxRecDepth 20000

theorem wrap_u32 {x : Int} (h1 : 0 ≤ x) (h2 : x < 4294967296) : IntKind.u32.wrap x = x := by
  unfold IntKind.wrap
  simp only [IntKind.bits, IntKind.signed, Bool.false_and, Bool.false_eq_true, if_false, Int.reducePow]
  omega

def u8F (f : Nat → Nat) : Nat → EV := fun j => .int .u8 ((f j : Nat) : Int)
def updN (f : Nat → Nat) (i x : Nat) : Nat → Nat := fun j => if j = i then x else f j

theorem tab_set {n i : Nat} {f : Nat → EV} {v : EV} (h : i < n) : (tab n f).set i v = tab n fun j => if j = i then v else f j := by
  apply List.ext_getElem?
  intro j
  by_cases hj : j < n
  · rw [tab_get hj]
    by_cases e : i = j
    · subst e
      rw [List.getElem?_set_self (by rw [tab_len]; exact h), if_pos rfl]
    · rw [List.getElem?_set_ne e, tab_get hj, if_neg (fun h => e h.symm)]
  · rw [List.getElem?_eq_none (by rw [List.length_set, tab_len]; omega), List.getElem?_eq_none (by rw [tab_len]; omega)]

theorem store_u8 {H : Heap} {f : Nat → Nat} {i x : Nat} (h : i < 24) :
    evStore 1 (.ptr H.length 1 i 0) (.int .u8 ((x : Nat) : Int)) (H ++ [some (.row 1 (tab 24 (u8F f)))]) = some (H ++ [some (.row 1 (tab 24 (u8F (updN f i x))))]) := by
  have hb : (H ++ [some (EB.row 1 (tab 24 (u8F f)))])[H.length]? = some (some (.row 1 (tab 24 (u8F f)))) := by simp
  have e : (tab 24 (u8F f)).set i (.int .u8 ((x : Nat) : Int)) = tab 24 (u8F (updN f i x)) := by
    rw [tab_set h]
    congr 1
    funext j
    unfold u8F updN
    by_cases hj : j = i
    · rw [if_pos hj, if_pos hj]
    · rw [if_neg hj, if_neg hj]
  simp only [evStore, hb, tab_get h]
  simp [EV.cells, EV.one, withCells, u8F]
  exact e

/-- A row of digits that is filled from the right. -/
def fbF (u N r : Nat) (j : Nat) : Nat := if r ≤ j ∧ j < N then (dchar (u / 10 ^ (N - 1 - j) % 10)).toNat else 0

theorem fb_upd {u N r i c : Nat} (hr : i + 1 = r) (hN : r ≤ N) (hc : c = u / 10 ^ (N - r) % 10) : updN (fbF u N r) i (dchar c).toNat = fbF u N i := by
  funext j
  unfold updN fbF
  by_cases hj : j = i
  · rw [if_pos hj, if_pos (by omega), hc, show N - 1 - j = N - r by omega]
  · rw [if_neg hj]
    by_cases h : r ≤ j ∧ j < N
    · rw [if_pos h, if_pos (by omega)]
    · rw [if_neg h, if_neg (by omega)]

theorem div_more {u v N r : Nat} (hv : u / 10 ^ (N - r) = v) (i : Nat) (hi : i ≤ r) (hr : r ≤ N) : u / 10 ^ (N - (r - i)) = v / 10 ^ i := by
  rw [show N - (r - i) = N - r + i by omega, Nat.pow_add, ← Nat.div_div_eq_div_mul, hv]

theorem okL_u8 {n m : Nat} {f : Nat → Nat} : okL n (tab m (u8F f)) = true := okL_tab_int

theorem wdr_store {P : Program} {γ : Nat → EV} {Q : AX → Slots → Heap → Prop} {s : Slots} {H H' : Heap} {xo vo : EOpd} {n : Nat} {c : Bool} {l : List (EOper × Bool)} {X V : EV} (hx : ev γ s xo = X) (hv : ev γ s vo = V)
    (hst : evStore n X V H = some H') (h : wdr P γ Q l s H') (hc : c = false → H' = H) : wdr P γ Q (({ dst := none, op := .store n xo vo }, c) :: l) s H := by
  refine wdr_step (v := .undef) (H' := H') ?_ hc h
  simp only [evOp, hx, hv, hst, Option.map_some]

theorem wops_store {P : Program} {γ : Nat → EV} {Q : AX → Slots → Heap → Prop} {s : Slots} {H H' : Heap} {xo vo : EOpd} {n : Nat} {l : List EOper} {X V : EV} (hx : ev γ s xo = X) (hv : ev γ s vo = V)
    (hst : evStore n X V H = some H') (h : wops P γ Q l s H') : wops P γ Q ({ dst := none, op := .store n xo vo } :: l) s H := by
  refine wops_do (v := .undef) (H' := H') ?_ h
  simp only [evOp, hx, hv, hst, Option.map_some]

theorem dchar_lo' : ∀ v, v < 10 → (dchar v).toNat = 48 + v := by decide +kernel
theorem dchar_lo {v : Nat} (h : v < 10) : (48 : Int) + (v : Int) = (((dchar v).toNat : Nat) : Int) := by rw [dchar_lo' v h]; omega

theorem end_modn {rs : List ERes} {r : EV} {R : ER → Heap → Prop} {n0 : Nat} {s : Slots} {H : Heap} (hl : H.length = n0) (hok : OkH H) (hr : evResults s H rs = some r) (ho : r.ok n0 = true) (h : R (.ret r) H) : bodyA n0 rs R .normal s H := by
  subst hl
  exact ⟨r, r, hr, .same _ ho, fun b x _ hx => hok b x hx, by rwa [List.take_length]⟩

/-- The end of a function that has changed what it was handed. -/
theorem end_mod {rs : List ERes} {r : EV} {R : ER → Heap → Prop} {n0 : Nat} {s : Slots} {H : Heap} (hl : H.length = n0) (hok : OkH H) (hr : evResults s H rs = some r) (ho : r.ok n0 = true) (h : R (.ret r) H) : bodyA n0 rs R .ret s H := by
  subst hl
  exact ⟨r, r, hr, .same _ ho, fun b x _ hx => hok b x hx, by rwa [List.take_length]⟩

end Abs
