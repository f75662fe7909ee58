/- Tables of functions. -/
import Derived.Test.YtihgbhkpjehhcaaDen4
namespace Abs
open Go

def look {α : Type} : List (Nat × α) → Nat → Option α
  | [], _ => none
  | (k, x) :: l, n => if n = k then some x else look l n

def AllT {α : Type} (p : Nat → α → Prop) : List (Nat × α) → Prop
  | [] => True
  | (k, x) :: l => p k x ∧ AllT p l

theorem AllT.look {α : Type} {p : Nat → α → Prop} : ∀ {l : List (Nat × α)}, AllT p l → ∀ {n : Nat} {x : α}, Abs.look l n = some x → p n x
  | [], _, n, x, h => by simp [Abs.look] at h
  | (k, y) :: l, h, n, x, hx => by
    unfold Abs.look at hx
    split at hx
    · rename_i e
      obtain rfl := Option.some.inj hx
      rw [e]
      exact h.1
    · exact AllT.look h.2 hx

end Abs
