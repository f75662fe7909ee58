/- A part. -/
import Derived.Test.YtdcjkdgjlljodaaLnB
set_option linter.all false
namespace Abs
open Go
set_option maxRecDepth 20000
def ArgB (H : Heap) (y : EV) (a : List Bool) : Prop := SlV 1 y (cg5 a) ∨ ∃ k, y = .own k 1 0 a.length ∧ H[k]? = some (some (.row 1 (cg5 a)))
theorem ArgB.len {H : Heap} {y : EV} {a : List Bool} (h : ArgB H y a) : bo5 false y = some a.length := by
 rcases h with h | ⟨k, rfl, _⟩
 ·rw [h.len, dj4]
 ·rfl
theorem ArgB.mono {H : Heap} {y : EV} {a : List Bool} (h : ArgB H y a) (G : Heap) : ArgB (H ++ G) y a := by
 rcases h with h | ⟨k, e, hk⟩
 ·exact .inl h
 ·exact .inr ⟨k, e, by rw [List.getElem?_append_left (aa3 hk)]; exact hk⟩
theorem ArgB.at {H : Heap} {y : EV} {a : List Bool} (h : ArgB H y a) {i : Nat} {v : Bool} (hv : a[i]? = some v) : ∃ p, bc8 1 (i : Int) y = some p ∧ ∀ G, az6 false 1 p (H ++ G) = some (.bool v) := by
 rcases h with h | ⟨k, rfl, hk⟩
 ·refine ⟨_, h.elem i _ (cg4 hv), fun G => ?_⟩
  simp [az6, pack, EV.cells]
 ·have hi := aa3 hv
  refine ⟨.ptr k 1 i 0, by simp [bc8, hi], fun G => ?_⟩
  have := aa3 hk
  have hb := cg4 hv
  simp [az6, List.getElem?_append_left this, hk, hb, pack, EV.cells]
theorem ArgB.one {H : Heap} {y : EV} {a : List Bool} (h : ArgB H y a) : y.one = true ∧ y.cells = [y] := by
 rcases h with h | ⟨k, rfl, _⟩
 ·exact ⟨h.one.2, h.one.1⟩
 ·exact ⟨rfl, rfl⟩
end Abs
