/- Numbers of Go's kinds. -/
import Derived.Test.YtcjnpmaljfkpgaaDoorAbs15
namespace Abs
open Go

theorem wrap_i64 {x : Int} (h1 : -9223372036854775808 ≤ x) (h2 : x ≤ 9223372036854775807) : IntKind.i64.wrap x = x := by
  unfold IntKind.wrap
  simp only [IntKind.bits, IntKind.signed, Bool.true_and, Nat.reduceSub, Int.reducePow]
  split
  · rename_i h; have := of_decide_eq_true h; omega
  · rename_i h
    have : ¬ (x % 18446744073709551616 ≥ 9223372036854775808) := fun g => h (decide_eq_true g)
    omega

theorem wrap_u64 {x : Int} (h1 : 0 ≤ x) (h2 : x < 18446744073709551616) : IntKind.u64.wrap x = x := by
  unfold IntKind.wrap
  simp only [IntKind.bits, IntKind.signed, Bool.false_and, Bool.false_eq_true, if_false, Int.reducePow]
  omega

theorem wrap_u8 {x : Int} (h1 : 0 ≤ x) (h2 : x < 256) : IntKind.u8.wrap x = x := by
  unfold IntKind.wrap
  simp only [IntKind.bits, IntKind.signed, Bool.false_and, Bool.false_eq_true, if_false, Int.reducePow]
  omega

theorem ofInt_nat {a : Nat} : BitVec.ofInt 64 (a : Int) = BitVec.ofNat 64 a := by
  apply BitVec.eq_of_toInt_eq
  simp

theorem bits_and {a b : Nat} (ha : a < 18446744073709551616) (hb : b < 18446744073709551616) : bitsOp .and .u64 a b = ((a &&& b : Nat) : Int) := by
  have h := Nat.and_lt_two_pow a (n := 64) hb
  have e : (BitVec.ofInt 64 (a : Int) &&& BitVec.ofInt 64 (b : Int)).toNat = a &&& b := by
    rw [ofInt_nat, ofInt_nat, BitVec.toNat_and, BitVec.toNat_ofNat, BitVec.toNat_ofNat, Nat.mod_eq_of_lt ha, Nat.mod_eq_of_lt hb]
  show IntKind.u64.wrap (((BitVec.ofInt 64 (a : Int) &&& BitVec.ofInt 64 (b : Int)).toNat : Nat) : Int) = _
  rw [e, wrap_u64 (by omega) (by omega)]

theorem bits_or {a b : Nat} (ha : a < 18446744073709551616) (hb : b < 18446744073709551616) : bitsOp .or .u64 a b = ((a ||| b : Nat) : Int) := by
  have h := Nat.or_lt_two_pow (n := 64) ha hb
  have e : (BitVec.ofInt 64 (a : Int) ||| BitVec.ofInt 64 (b : Int)).toNat = a ||| b := by
    rw [ofInt_nat, ofInt_nat, BitVec.toNat_or, BitVec.toNat_ofNat, BitVec.toNat_ofNat, Nat.mod_eq_of_lt ha, Nat.mod_eq_of_lt hb]
  show IntKind.u64.wrap (((BitVec.ofInt 64 (a : Int) ||| BitVec.ofInt 64 (b : Int)).toNat : Nat) : Int) = _
  rw [e, wrap_u64 (by omega) (by omega)]

theorem bits_andnot {a b : Nat} (ha : a < 18446744073709551616) (hb : b < 18446744073709551616) : bitsOp .andNot .u64 a b = ((a &&& (18446744073709551615 - b) : Nat) : Int) := by
  have h := Nat.and_lt_two_pow a (n := 64) (show 18446744073709551615 - b < 2 ^ 64 by omega)
  have e : (BitVec.ofInt 64 (a : Int) &&& ~~~ BitVec.ofInt 64 (b : Int)).toNat = a &&& (18446744073709551615 - b) := by
    rw [ofInt_nat, ofInt_nat, BitVec.toNat_and, BitVec.toNat_not, BitVec.toNat_ofNat, BitVec.toNat_ofNat, Nat.mod_eq_of_lt ha, Nat.mod_eq_of_lt hb]
  show IntKind.u64.wrap (((BitVec.ofInt 64 (a : Int) &&& ~~~ BitVec.ofInt 64 (b : Int)).toNat : Nat) : Int) = _
  rw [e, wrap_u64 (by omega) (by omega)]

theorem ite_cast {p : Prop} [Decidable p] {a b : Nat} : (if p then ((a : Nat) : Int) else ((b : Nat) : Int)) = ((if p then a else b : Nat) : Int) := by split <;> rfl

theorem tdiv_lit (b n : Nat) : ((b : Nat) : Int).tdiv (no_index (OfNat.ofNat n)) = ((b / (OfNat.ofNat n) : Nat) : Int) := rfl
theorem tmod_lit (b n : Nat) : ((b : Nat) : Int).tmod (no_index (OfNat.ofNat n)) = ((b % (OfNat.ofNat n) : Nat) : Int) := rfl
theorem add_lit (b n : Nat) : ((b : Nat) : Int) + (no_index (OfNat.ofNat n)) = ((b + (OfNat.ofNat n) : Nat) : Int) := rfl

theorem shl_one {m : Nat} (h : m < 64) : IntKind.u64.wrap (1 * 2 ^ (min m IntKind.u64.bits)) = ((2 ^ m : Nat) : Int) := by
  have h1 : min m IntKind.u64.bits = m := by show min m 64 = m; omega
  have h2 : (2 : Nat) ^ m ≤ 2 ^ 63 := Nat.pow_le_pow_right (by decide) (by omega)
  have h3 : ((2 : Int) ^ m) = ((2 ^ m : Nat) : Int) := by simp
  rw [h1, Int.one_mul, h3]
  generalize 2 ^ m = z at *
  exact wrap_u64 (by omega) (by omega)

end Abs
