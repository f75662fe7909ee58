/- The functions of layer 1 that go along a set's bytes. -/
import Derived.Test.YtcjnpmaljfkpgaaDoorAbsIterW
import Derived.Test.YtcjnpmaljfkpgaaDoorClassE
import Derived.Test.YtcjnpmaljfkpgaaDoorGenB
namespace Abs
open Go
set_option linter.all false
set_option maxRecDepth 20000

/-- The place of a word's first bit. -/
def tzN (w : Nat) : Nat := ((List.range 64).find? fun j => w.testBit j).getD 64

theorem tz_spec {w : Nat} (h : w ≠ 0) (hw : w < 18446744073709551616) : tzN w < 64 ∧ w.testBit (tzN w) = true ∧ ∀ j, j < tzN w → w.testBit j = false := by
  unfold tzN
  cases hf : (List.range 64).find? fun j => w.testBit j with
  | none =>
    exfalso
    apply h
    apply Nat.eq_of_testBit_eq
    intro j
    rw [Nat.zero_testBit]
    by_cases hj : j < 64
    · have := List.find?_eq_none.1 hf j (by simpa using hj)
      simpa using this
    · exact Nat.testBit_lt_two_pow (Nat.lt_of_lt_of_le hw (Nat.pow_le_pow_right (n := 2) (by decide) (show 64 ≤ j by omega)))
  | some t =>
    simp only [Option.getD_some]
    have h1 := List.find?_some hf
    have h2 := List.mem_of_find?_eq_some hf
    simp only [List.mem_range] at h2
    refine ⟨h2, h1, fun j hj => ?_⟩
    have h3 := List.find?_range_eq_some.1 hf
    have := h3.2.2 j hj
    simpa using this

theorem bit_lt {w j : Nat} (hw : w < 18446744073709551616) (h : w.testBit j = true) : j < 64 := by
  rcases Nat.lt_or_ge j 64 with g | g
  · exact g
  · rw [Nat.testBit_lt_two_pow (Nat.lt_of_lt_of_le hw (Nat.pow_le_pow_right (n := 2) (by decide) g))] at h
    simp at h

/-- A word, less one: below its first bit all turns. -/
theorem pred_bit {w t j : Nat} (h : w.testBit t = true) (hl : ∀ i, i < t → w.testBit i = false) : (w - 1).testBit j = if j < t then true else if j = t then false else w.testBit j := by
  have hm : w % 2 ^ t = 0 := by
    apply Nat.eq_of_testBit_eq
    intro i
    rw [Nat.testBit_mod_two_pow, Nat.zero_testBit]
    by_cases hi : i < t
    · simp [hl i hi]
    · simp [hi]
  have hd : (w / 2 ^ t) % 2 = 1 := by
    have := h
    rw [Nat.testBit_eq_decide_div_mod_eq] at this
    simpa using this
  have hpos : 0 < 2 ^ t := Nat.two_pow_pos t
  obtain ⟨q, hq⟩ : ∃ q, w / 2 ^ t = 2 * q + 1 := ⟨w / 2 ^ t / 2, by omega⟩
  have hw : w = 2 ^ t * (2 * q + 1) := by
    have := Nat.div_add_mod w (2 ^ t)
    rw [hm, hq] at this
    omega
  have hp : w - 1 = 2 ^ t * (2 * q) + (2 ^ t - 1) := by
    have e : 2 ^ t * (2 * q + 1) = 2 ^ t * (2 * q) + 2 ^ t := by rw [Nat.mul_add, Nat.mul_one]
    omega
  rw [hp, Nat.testBit_two_pow_mul_add _ (by omega)]
  by_cases hj : j < t
  · rw [if_pos hj, if_pos hj, Nat.testBit_two_pow_sub_one]
    simpa using hj
  · rw [if_neg hj, if_neg hj, hw]
    have e : (2 ^ t * (2 * q + 1)).testBit j = (2 * q + 1).testBit (j - t) := by
      have := Nat.testBit_two_pow_mul_add (i := t) (2 * q + 1) (b := 0) hpos j
      rw [Nat.add_zero, if_neg hj] at this
      exact this
    rw [e]
    by_cases hjt : j = t
    · subst hjt
      simp
    · rw [if_neg hjt]
      obtain ⟨d, hd⟩ : ∃ d, j - t = d + 1 := ⟨j - t - 1, by omega⟩
      rw [hd, Nat.testBit_succ, Nat.testBit_succ]
      congr 1
      omega

theorem and_neg {w : Nat} (h : w ≠ 0) (hw : w < 18446744073709551616) : w &&& (18446744073709551616 - w) = 2 ^ tzN w := by
  obtain ⟨h1, h2, h3⟩ := tz_spec h hw
  apply Nat.eq_of_testBit_eq
  intro j
  rw [Nat.testBit_and, Nat.testBit_two_pow]
  have e : (18446744073709551616 - w) = 2 ^ 64 - ((w - 1) + 1) := by omega
  rw [e, Nat.testBit_two_pow_sub_succ (by omega), pred_bit h2 h3]
  by_cases hj : j < tzN w
  · rw [h3 j hj]
    have : ¬ tzN w = j := by omega
    simp [this]
  · by_cases hjt : j = tzN w
    · subst hjt; simp [h1, h2]
    · rw [if_neg hj, if_neg hjt]
      have : ¬ tzN w = j := by omega
      cases w.testBit j <;> simp [this]

/-- The table of the library's bits. -/
def brL : List Nat := [0, 1, 56, 2, 57, 49, 28, 3, 61, 58, 42, 50, 38, 29, 17, 4, 62, 47, 59, 36, 45, 43, 51, 22, 53, 39, 33, 30, 24, 18, 12, 5, 63, 55, 48, 27, 60, 41, 37, 16, 46, 35, 44, 21, 52, 32, 23, 11, 54, 26, 40, 15, 34, 20, 31, 10, 25, 14, 19, 9, 13, 8, 7, 6]
def brT (i : Nat) : Nat := brL.getD i 0

theorem br_idx : ∀ t, t < 64 → 2 ^ t * 285870213051353865 % 18446744073709551616 / 2 ^ 58 < 64 ∧ brT (2 ^ t * 285870213051353865 % 18446744073709551616 / 2 ^ 58) = t := by decide +kernel

theorem wrap_u64_nat (a : Nat) : IntKind.u64.wrap (a : Int) = ((a % 18446744073709551616 : Nat) : Int) := by
  have h : IntKind.u64.wrap (a : Int) = (a : Int) % 18446744073709551616 := by
    simp [IntKind.wrap, IntKind.signed, IntKind.bits]
  rw [h]
  omega

theorem wrap_neg {w : Nat} (h : w ≠ 0) (hw : w < 18446744073709551616) : IntKind.u64.wrap (0 - (w : Int)) = ((18446744073709551616 - w : Nat) : Int) := by
  have h1 : IntKind.u64.wrap (0 - (w : Int)) = (0 - (w : Int)) % 18446744073709551616 := by
    simp [IntKind.wrap, IntKind.signed, IntKind.bits]
  rw [h1]
  omega

section
variable {P : Program} {γ : Nat → EV}

def TzOk (P : Program) (γ : Nat → EV) (f : FuncId) : Prop :=
  ∀ (w : Nat) (H : Heap), w ≠ 0 → w < 18446744073709551616 → CallsA P γ f [.int .u64 w] H fun er H' => er = .ret (.int .i64 (tzN w)) ∧ H' = H

theorem fdiv_pow (a m : Nat) : ((a : Nat) : Int).fdiv (2 ^ m) = ((a / 2 ^ m : Nat) : Int) := by
  have : ((2 : Int) ^ m) = ((2 ^ m : Nat) : Int) := by simp
  rw [this, Int.fdiv_eq_ediv_of_nonneg _ (Int.natCast_nonneg _), Int.natCast_ediv]

set_option maxHeartbeats 4000000 in
theorem tz_core {f g : FuncId} (hb : Body P f (math_bits_TrailingZeros64 g) math_bits_TrailingZeros64_r 14) (hg : γ g = .iptr (tab 64 fun i => .int .u8 ((brT i : Nat) : Int)) 0) (w t m p q : Nat) (H : Heap) (t1 : t < 64) (b1 : q < 64) (b2 : brT q = t)
    (e0 : (((w : Nat) : Int) == 0) = false) (e1 : IntKind.u64.wrap (0 - (w : Int)) = ((m : Nat) : Int)) (e2 : bitsOp .and .u64 (w : Int) ((m : Nat) : Int) = ((2 ^ t : Nat) : Int))
    (e3 : IntKind.u64.wrap (((2 ^ t : Nat) : Int) * 285870213051353865) = ((p : Nat) : Int)) (e4 : ((p : Nat) : Int).fdiv (2 ^ (min 58 IntKind.u64.bits)) = ((q : Nat) : Int)) (e4' : ((p : Nat) : Int).fdiv (2 ^ (min 58 64)) = ((q : Nat) : Int)) :
    CallsA P γ f [.int .u64 w] H fun er H' => er = .ret (.int .i64 (t : Int)) ∧ H' = H := by
  refine hb.calls (by simp) fun hok => ?_
  unfold math_bits_TrailingZeros64
  repeat' first
    | with_reducible first | refine wpc_seq ?_ | refine wpc_ops ?_ | refine wops_nil ?_ | refine then_normal ?_ | refine wpc_block ?_ | refine block_normal ?_ | refine wpc_skip ?_ | refine wpc_exit ?_ | refine then_exit ?_ | refine block_exit_same ?_ | refine wpc_ret ?_ | refine then_ret ?_ | refine block_ret ?_ | refine wpc_draw ?_ | refine wdr_nil ?_ | refine gate_t ?_ | refine gate_f ?_ | refine gate_tt ?_ | refine gate_ff ?_ | refine gate_tf ?_ | refine gate_ft ?_ | exact keep_same | exact keep_true
    | (with_reducible refine block_exit_other ?_ ?_; decide)
    | ((with_reducible refine keep_rfl ?_); exact rfl)
    | ((with_reducible first | apply wops_guard | apply wdr_guard | apply wpc_test); focus (simp (disch := omega) only [go_sem, ↓reduceIte, simprocAttr, reduceCtorEq, e0, e1, e2, e3, e4, e4', hg, b2]; with_reducible first | exact lit_t | exact lit_f))
    | ((with_reducible first | apply wops_gone | apply wdr_gone); focus (simp (disch := omega) only [go_sem, ↓reduceIte, simprocAttr, reduceCtorEq, e0, e1, e2, e3, e4, e4', hg, b2]; done))
    | ((with_reducible first | apply wops_step | apply wops_do | apply wdr_step); focus (simp (disch := omega) only [go_sem, ↓reduceIte, simprocAttr, reduceCtorEq, e0, e1, e2, e3, e4, e4', hg, b2]; first | with_reducible exact rfl | (rw [if_pos (by first | omega | (constructor <;> omega) | (simp; done) | assumption)]; first | with_reducible exact rfl | (try simp (disch := omega) only [go_sem, ↓reduceIte, simprocAttr, reduceCtorEq, e0, e1, e2, e3, e4, e4', hg, b2]; with_reducible exact rfl))))
  refine end_same hok (r := .int .i64 (t : Int)) ?_ ?_ ⟨rfl, rfl⟩
  · first | (simp (disch := omega) only [go_sem, ↓reduceIte, simprocAttr, reduceCtorEq, evResults, evResL, evRes, math_bits_TrailingZeros64_r, b2]; done) | (simp (disch := omega) only [go_sem, ↓reduceIte, simprocAttr, reduceCtorEq, evResults, evResL, evRes, math_bits_TrailingZeros64_r, b2]; with_reducible exact rfl) | exact rfl
  · first | (simp [EV.ok, okL, okL_tab_int, okL_tab_bool, okL_app, b2]; done)

theorem tz_ok {f g : FuncId} (hb : Body P f (math_bits_TrailingZeros64 g) math_bits_TrailingZeros64_r 14) (hg : γ g = .iptr (tab 64 fun i => .int .u8 ((brT i : Nat) : Int)) 0) : TzOk P γ f := by
  intro w H h0 hw
  obtain ⟨t1, t2, t3⟩ := tz_spec h0 hw
  obtain ⟨b1, b2⟩ := br_idx (tzN w) t1
  refine tz_core hb hg w (tzN w) (18446744073709551616 - w) (2 ^ tzN w * 285870213051353865 % 18446744073709551616) _ H t1 b1 b2 ?_ (wrap_neg h0 hw) ?_ ?_ ?_ ?_
  · rw [beq_eq_false_iff_ne]; omega
  · rw [bits_and hw (by omega), and_neg h0 hw]
  · have h := wrap_u64_nat (2 ^ tzN w * 285870213051353865)
    rw [Int.natCast_mul] at h
    exact h
  · rw [show min 58 IntKind.u64.bits = 58 from rfl, fdiv_pow]
  · rw [show min 58 64 = 58 from rfl, fdiv_pow]

end
end Abs
