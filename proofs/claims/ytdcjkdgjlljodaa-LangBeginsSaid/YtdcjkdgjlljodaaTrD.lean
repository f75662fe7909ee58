/- A part. -/
import Derived.Test.YtdcjkdgjlljodaaLnB
set_option linter.all false
namespace Abs
open Go
set_option maxRecDepth 20000
def ArgB (H : Heap) (y : EV) (a : List Bool) : Prop := SlV 1 y (ch3 a) ∨ ∃ k, y = .own k 1 0 a.length ∧ H[k]? = some (some (.row 1 (ch3 a)))
theorem ArgB.len {H : Heap} {y : EV} {a : List Bool} (h : ArgB H y a) : bp2 false y = some a.length := by
 rcases h with h | ⟨k, rfl, _⟩
 ·rw [h.len, dk5]
 ·rfl
theorem ArgB.mono {H : Heap} {y : EV} {a : List Bool} (h : ArgB H y a) (G : Heap) : ArgB (H ++ G) y a := by
 rcases h with h | ⟨k, e, hk⟩
 ·exact .inl h
 ·exact .inr ⟨k, e, by rw [List.getElem?_append_left (aa2 hk)]; exact hk⟩
theorem ArgB.at {H : Heap} {y : EV} {a : List Bool} (h : ArgB H y a) {i : Nat} {v : Bool} (hv : a[i]? = some v) : ∃ p, be0 1 (i : Int) y = some p ∧ ∀ G, ba5 false 1 p (H ++ G) = some (.bool v) := by
 rcases h with h | ⟨k, rfl, hk⟩
 ·refine ⟨_, h.elem i _ (ch2 hv), fun G => ?_⟩
  simp [ba5, pack, EV.cells]
 ·have hi := aa2 hv
  refine ⟨.ptr k 1 i 0, by simp [be0, hi], fun G => ?_⟩
  have := aa2 hk
  have hb := ch2 hv
  simp [ba5, List.getElem?_append_left this, hk, hb, pack, EV.cells]
theorem ArgB.one {H : Heap} {y : EV} {a : List Bool} (h : ArgB H y a) : y.one = true ∧ y.cells = [y] := by
 rcases h with h | ⟨k, rfl, _⟩
 ·exact ⟨h.one.2, h.one.1⟩
 ·exact ⟨rfl, rfl⟩
theorem bn4 (f : List Bool → List Bool) (m : Nat) (a : List Bool) : ∀ k, powN f (m + k) a = powN f k (powN f m a)
 | 0 => rfl
 | k + 1 => by
  show f (powN f (m + k) a) = f (powN f k (powN f m a))
  rw [bn4 f m a k]
end Abs
