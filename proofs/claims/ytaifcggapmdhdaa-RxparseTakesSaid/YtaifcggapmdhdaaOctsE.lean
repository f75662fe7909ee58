/- A part. -/
import Derived.Test.YtaifcggapmdhdaaClassA
set_option linter.all false
namespace Abs
open Go Gn
set_option maxRecDepth 20000
theorem wordsOf_bit (bs : List Nat) (h8 : ∀ b ∈ bs, b < 256) (c : Nat) (hc : c < 256) : inSet (wordsOf bs) c = decide (c ∈ bs) := by
 unfold inSet wordsOf
 have : ∀ (bs : List Nat) (w : Nat), (∀ b ∈ bs, b < 256) → (bs.foldl (fun w b => if c / 64 = b / 64 then w ||| 2 ^ (b % 64) else w) w).testBit (c % 64) = (w.testBit (c % 64) || decide (c ∈ bs)) := by
  intro bs
  induction bs with
  | nil => intro w _; simp
  | cons b bs ih =>
   intro w h
   rw [List.foldl_cons, ih _ fun b hb => h b (by simp [hb])]
   by_cases e : c = b
   ·subst e
    simp
   ·have hb := h b (by simp)
    split
    ·rename_i e2
     have : ¬ b % 64 = c % 64 := by omega
     rw [Nat.testBit_or, Nat.testBit_two_pow]
     simp [this, e]
    ·simp [e]
 rw [this bs 0 h8]
 simp
end Abs
