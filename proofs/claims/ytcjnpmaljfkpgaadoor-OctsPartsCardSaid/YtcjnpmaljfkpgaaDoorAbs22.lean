/- From the plain calculus to the fenced one, in a function or in a round of a loop over a function. -/
import Derived.Test.YtcjnpmaljfkpgaaDoorAbs18
import Derived.RangeFuncFrom
import Derived.RangeFuncLeaves
import Derived.OrdersIn
import Derived.TacticsIn
namespace Abs
open Go

def FR (r : Option Nat) : Fence := { Fence.wide with round := r }

section
variable {P : Program} {m : Nat} {r : Option Nat} {a : Act} {w : World}

theorem FR_none : FR none = Fence.wide := rfl
theorem FR_in (l : Nat) : (FR none).inRound l = FR (some l) := rfl
theorem FR_deep {p : Prop} : (FR r).depth.isSome = true → p := fun h => by simp [FR, Fence.wide] at h

theorem callsIn_FR {f : FuncId} {args : Array Value} {R : Ending → World → Prop} (h : Calls P f args w R) : CallsIn (FR r) m P f args w R := by
  have := (callsIn_wide (n := m)).2 h
  exact this

theorem rowsIn_FR {row : String} {args : Array Value} {R : Value → World → Prop} (h : Rows P row args w R) : RowsIn (FR r) m P row args w R := by
  intro c cs _
  obtain ⟨v, w', h1, h2⟩ := h c cs
  have := stepsIn_wide.2 h2
  exact ⟨v, w', h1, this⟩

theorem opIn {o : Oper} {K : Act → World → Prop} {Q : Exit → Act → World → Prop} (hd : ∀ c, o.op ≠ .defer c) (h : o.wp P a w K Q) : o.wpIn (FR r) m P a w K Q := by
  refine ⟨fun _ _ => trivial, ?_⟩
  rw [Oper.semAt_eq _ _ _ hd]
  unfold Oper.wp at h
  generalize (execOp a.eval o).run P w = res at *
  cases res with
  | ok x w' =>
    cases x <;> simp only [Oper.upon, Oper.uponIn] at h ⊢ <;> first
      | exact h
      | exact ⟨FR_deep, callsIn_FR h⟩
      | exact ⟨FR_deep, rowsIn_FR h⟩
      | exact h.elim
  | halt x w' => cases x <;> simp only [Oper.upon, Oper.uponIn] at h ⊢ <;> first | exact h | exact h.elim

theorem listIn {ops : Array Oper} {Q : Exit → Act → World → Prop} (hq : ¬ LetsOut Q) : ∀ (l : List Oper), (∀ o ∈ l, ∀ c, o.op ≠ .defer c) → ∀ (a : Act) (w : World), wpList P ops Q l a w → wpListIn (FR r) m P ops Q l a w
  | [], _, a, w, h => h
  | o :: l, hd, a, w, h => by
    have ih := listIn (ops := ops) hq l fun o ho => hd o (by simp [ho])
    simp only [wpList] at h
    simp only [wpListIn]
    split
    · rename_i hw
      rw [if_pos hw] at h
      rcases h with h | h
      · exact Oper.wpIn_mono (fun a w => ih a w) (opIn (hd o (by simp)) h)
      · exact absurd h.2 hq
    · rename_i hw
      rw [if_neg hw] at h
      exact ⟨fun _ _ => trivial, ih _ _ h⟩

theorem opAtIn {ops : Array Oper} {Q : Exit → Act → World → Prop} {i : Nat} {K : Act → World → Prop} (hq : ¬ LetsOut Q) (hd : ∀ o ∈ ops.toList, ∀ c, o.op ≠ .defer c) (h : wpOp P ops Q i K a w) : wpOpIn (FR r) m P ops Q i K a w := by
  unfold wpOp at h
  unfold wpOpIn
  cases ho : ops[i]? with
  | none => rw [ho] at h; exact h
  | some o =>
    rw [ho] at h
    simp only at h ⊢
    split
    · rename_i hw
      rw [if_pos hw] at h
      rcases h with h | h
      · exact opIn (hd o (by simpa using Array.mem_of_getElem? ho)) h
      · exact absurd h.2 hq
    · rename_i hw
      rw [if_neg hw] at h
      exact ⟨fun _ _ => trivial, h⟩

theorem anyIn {ops : Array Oper} {md : Region.Mode} {Q : Exit → Act → World → Prop} (hq : ¬ LetsOut Q) (hd : ∀ o ∈ ops.toList, ∀ c, o.op ≠ .defer c) : ∀ (fuel : Nat) (listed : Array Bool) (a : Act) (w : World),
    wpAny P md ops Q fuel listed a w → wpAnyIn (FR r) m P md ops Q fuel listed a w
  | 0, _, _, _, h => h
  | fuel + 1, listed, a, w, h => by
    refine ⟨h.1, fun i hi => ?_⟩
    exact wpOpIn_mono (fun a w => anyIn hq hd fuel _ a w) (opAtIn hq hd (h.2 i hi))

theorem wpIn_loop_ghost {F : Fence} {Q : Exit → Act → World → Prop} {c : Code} (I : Nat → Act → World → Prop) (n₀ : Nat) (h₀ : I n₀ a w)
    (round : ∀ n a w, I n a w → c.wpIn F m P (Exit.then (fun a' w' => ∃ n', n' < n ∧ I n' a' w') Q) a w) : (Code.loop c).wpIn F m P Q a w := by
  refine wpIn_loop (fun a w => ∃ n, I n a w) (fun a w => leastOf (fun n => I n a w)) ⟨n₀, h₀⟩ ?_
  intro a w hI
  refine wpIn_mono (round _ a w (leastOf_spec hI).1) ?_
  intro e a' w' hq
  cases e with
  | normal =>
    obtain ⟨n', hlt, hI'⟩ := hq
    exact show (∃ n, I n a' w') ∧ leastOf (fun n => I n a' w') < leastOf (fun n => I n a w) from ⟨⟨n', hI'⟩, Nat.lt_of_le_of_lt ((leastOf_spec ⟨n', hI'⟩).2 n' hI') hlt⟩
  | _ => exact hq

end

theorem Post.noOut {γ : Nat → EV} {n nb : Nat} {φ : Nat → Nat} {I : Nat → Prop} {H : Heap} {w : World} {Q : AX → Slots → Heap → Prop} : ¬ LetsOut (Post γ n nb φ I H w Q) := by
  rintro ⟨a', w', φ', I', s', H', x, _, _, h, _⟩
  cases h

theorem res_noDefer {P : Program} {n : Nat} {own : List Nat} {ops : Array Oper} {l : List EOper} : ∀ {ls : List Oper}, ls.mapM (resOper P n own ops) = some l → ∀ o ∈ ls, ∀ c, o.op ≠ .defer c := by
  intro ls h o ho c hc
  obtain ⟨h1, h2⟩ := mapM_get h
  obtain ⟨i, hi⟩ := List.mem_iff_getElem?.1 ho
  have hlt := get_lt hi
  have := h2 i o (l[i]'(by omega)) hi (by simp [show i < l.length by omega])
  obtain ⟨⟨b, hb⟩, _⟩ := resOper_parts this
  rw [hc] at hb
  simp [resOp] at hb
end Abs
