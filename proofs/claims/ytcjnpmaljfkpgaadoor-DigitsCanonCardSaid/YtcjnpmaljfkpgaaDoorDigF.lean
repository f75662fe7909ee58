/- How many digits a number has. -/
import Derived.Test.YtcjnpmaljfkpgaaDoorDigE
namespace Abs
open Go
set_option linter.all false
set_option maxRecDepth 20000

theorem s3_char : ∀ d, d < 36 → d < 16 → GenD_s3[d]? = some (dchar d) := by decide +kernel
theorem s3_cut : ∀ d, d < 10 → (GenD_s3.drop d).take 1 = [dchar d] := by decide +kernel
theorem s1_cut : ∀ d, d < 100 → (GenD_s1.drop (d * 2)).take 2 = [dchar (d / 10), dchar (d % 10)] := by decide +kernel
theorem s1_hi : ∀ d, d < 100 → GenD_s1[d * 2]? = some (dchar (d / 10)) := by decide +kernel
theorem s1_lo : ∀ d, d < 100 → GenD_s1[d * 2 + 1]? = some (dchar (d % 10)) := by decide +kernel
def lenT (i : Nat) : Nat := (GenD_s4.getD i 0).toNat
theorem s4_get : ∀ i, i < 256 → GenD_s4[i]?.map UInt8.toNat = some (lenT i) := by decide +kernel
theorem lenT_ok : ∀ i, i < 256 → i < 2 ^ lenT i ∧ (i = 0 ∨ (1 ≤ lenT i ∧ 2 ^ (lenT i - 1) ≤ i)) ∧ lenT i ≤ 8 := by decide +kernel
theorem log_ok : ∀ l, l < 65 → 1 ≤ l → l * 78913 / 262144 < 20 ∧ 2 ^ l ≤ 10 ^ (l * 78913 / 262144 + 1) ∧ (1 ≤ l * 78913 / 262144 → 10 ^ (l * 78913 / 262144 - 1) ≤ 2 ^ (l - 1)) := by decide +kernel

/-- How many bits a number has. -/
def IsLen (x l : Nat) : Prop := x < 2 ^ l ∧ (x = 0 ∨ (1 ≤ l ∧ 2 ^ (l - 1) ≤ x)) ∧ l ≤ 64

theorem isLen_shift {x s : Nat} (h : x / 2 ^ s < 256) (hp : s = 0 ∨ 1 ≤ x / 2 ^ s) (hs : s ≤ 56) : IsLen x (s + lenT (x / 2 ^ s)) := by
  obtain ⟨h1, h2, h3⟩ := lenT_ok _ h
  have hpos : 0 < 2 ^ s := Nat.pow_pos (by omega)
  refine ⟨?_, ?_, by omega⟩
  · rw [Nat.pow_add, Nat.mul_comm]
    exact (Nat.div_lt_iff_lt_mul hpos).1 h1
  · rcases h2 with h2 | ⟨h2, h4⟩
    · rcases hp with rfl | hp
      · left
        simpa using h2
      · omega
    · right
      refine ⟨by omega, ?_⟩
      rw [show s + lenT (x / 2 ^ s) - 1 = (lenT (x / 2 ^ s) - 1) + s by omega, Nat.pow_add]
      exact (Nat.le_div_iff_mul_le hpos).1 h4

theorem nd_of_len {u l : Nat} (hu : 1 ≤ u) (h : IsLen u l) : l * 78913 / 262144 < 20 ∧ IsNd 10 u (if 10 ^ (l * 78913 / 262144) ≤ u then l * 78913 / 262144 + 1 else l * 78913 / 262144) := by
  obtain ⟨h1, h2, h3⟩ := h
  have h4 : 1 ≤ l ∧ 2 ^ (l - 1) ≤ u := by
    rcases h2 with h2 | h2
    · omega
    · exact h2
  obtain ⟨g1, g2, g3⟩ := log_ok l (by omega) h4.1
  refine ⟨g1, ?_⟩
  generalize l * 78913 / 262144 = d at *
  split
  · rename_i hd
    exact ⟨by omega, by omega, .inr (by simpa using hd)⟩
  · rename_i hd
    have hd1 : 1 ≤ d := by
      rcases Nat.eq_zero_or_pos d with h0 | h0
      · subst h0
        simp at hd
        omega
      · exact h0
    exact ⟨hd1, by omega, .inr (Nat.le_trans (g3 hd1) h4.2)⟩

attribute [local irreducible] lowD nd lenT

section
variable {P : Program} {γ : Nat → EV}

def SmallOk (P : Program) (γ : Nat → EV) (f : FuncId) : Prop :=
  ∀ (n : Nat) (H : Heap), n < 100 → CallsA P γ f [.int .i64 n] H fun er H' => er = .ret (.str (lowD 10 (nd 10 n) n)) ∧ H' = H

theorem small_ok {f : FuncId} (hb : Body P f internal_strconv_small internal_strconv_small_r 15) : SmallOk P γ f := by
  intro n H hn
  refine hb.calls (by simp) fun hok => ?_
  unfold internal_strconv_small
  have g3 : (0 : Int) ≤ (n : Int) := by omega
  by_cases h10 : n < 10
  · have hnd : nd 10 n = 1 := nd_eq (by omega) ⟨by omega, by omega, .inl rfl⟩
    have e : lowD 10 (nd 10 n) n = [dchar n] := by
      rw [hnd]
      unfold lowD
      rw [show n / 10 ^ 0 % 10 = n by simp; omega]
      unfold lowD
      rfl
    rw [e]
    have hs : GenD_s3.length = 36 := rfl
    have htd : ((n : Int) + 1).toNat = n + 1 := by omega
    have g1 : (0 : Int) ≤ (n : Int) + 1 := by omega
    have g2 : (n : Int) + 1 ≤ 36 := by omega
    have g2' : (n : Int) + 1 ≤ ((36 : Nat) : Int) := by omega
    have g4 : (n : Int) ≤ ((n + 1 : Nat) : Int) := by omega
    have g5 : (n : Int) ≤ (n : Int) + 1 := by omega
    have hch : (GenD_s3.drop n).take (n + 1 - n) = [dchar n] := by rw [show n + 1 - n = 1 by omega]; exact s3_cut n h10
    repeat' first
      | with_reducible first | refine wpc_seq ?_ | refine wpc_ops ?_ | refine wops_nil ?_ | refine then_normal ?_ | refine wpc_block ?_ | refine block_normal ?_ | refine wpc_skip ?_ | refine wpc_exit ?_ | refine then_exit ?_ | refine block_exit_same ?_ | refine wpc_ret ?_ | refine then_ret ?_ | refine block_ret ?_ | refine wpc_draw ?_ | refine wdr_nil ?_ | refine gate_t ?_ | refine gate_f ?_ | refine gate_tt ?_ | refine gate_ff ?_ | refine gate_tf ?_ | refine gate_ft ?_ | exact keep_same | exact keep_true
      | (with_reducible refine block_exit_other ?_ ?_; decide)
      | ((with_reducible refine keep_rfl ?_); exact rfl)
      | ((with_reducible first | apply wops_guard | apply wdr_guard | apply wpc_test); focus (simp (disch := omega) only [go_sem, ↓reduceIte, simprocAttr, reduceCtorEq, decide_eq_true, decide_eq_false, hs, htd, g1, g2, g2', g3, g4, g5, hch]; with_reducible first | exact lit_t | exact lit_f))
      | ((with_reducible first | apply wops_gone | apply wdr_gone); focus (simp (disch := omega) only [go_sem, ↓reduceIte, simprocAttr, reduceCtorEq, decide_eq_true, decide_eq_false, hs, htd, g1, g2, g2', g3, g4, g5, hch]; done))
      | ((with_reducible first | apply wops_step | apply wops_do | apply wdr_step); focus (simp (disch := omega) only [go_sem, ↓reduceIte, simprocAttr, reduceCtorEq, decide_eq_true, decide_eq_false, hs, htd, g1, g2, g2', g3, g4, g5, hch]; first | with_reducible exact rfl | (rw [if_pos (by first | omega | (constructor <;> omega) | (simp; done) | assumption)]; first | with_reducible exact rfl | (try simp (disch := omega) only [go_sem, ↓reduceIte, simprocAttr, reduceCtorEq, decide_eq_true, decide_eq_false, hs, htd, g1, g2, g2', g3, g4, g5, hch]; with_reducible exact rfl))))
    refine end_same hok (r := .str [dchar n]) ?_ ?_ ⟨rfl, rfl⟩
    · first | (simp (disch := omega) only [go_sem, ↓reduceIte, simprocAttr, reduceCtorEq, evResults, evResL, evRes, internal_strconv_small_r]; done) | (simp (disch := omega) only [go_sem, ↓reduceIte, simprocAttr, reduceCtorEq, evResults, evResL, evRes, internal_strconv_small_r]; with_reducible exact rfl) | exact rfl
    · first | (simp [EV.ok, okL, okL_tab_int, okL_tab_bool, okL_app]; done)
  · have hnd : nd 10 n = 2 := nd_eq (by omega) ⟨by omega, by omega, .inr (by simp; omega)⟩
    have e : lowD 10 (nd 10 n) n = [dchar (n / 10), dchar (n % 10)] := by
      rw [hnd]
      unfold lowD
      rw [show n / 10 ^ 1 % 10 = n / 10 by simp; omega]
      unfold lowD
      rw [show n / 10 ^ 0 % 10 = n % 10 by simp]
      unfold lowD
      rfl
    rw [e]
    have hs : GenD_s1.length = 200 := rfl
    have htd : ((n : Int) * 2 + 2).toNat = n * 2 + 2 := by omega
    have hte : ((n : Int) * 2).toNat = n * 2 := by omega
    have g1 : (0 : Int) ≤ (n : Int) * 2 + 2 := by omega
    have g2 : (n : Int) * 2 + 2 ≤ 200 := by omega
    have g2' : (n : Int) * 2 + 2 ≤ ((200 : Nat) : Int) := by omega
    have g4 : (n : Int) * 2 ≤ ((n * 2 + 2 : Nat) : Int) := by omega
    have g5 : (n : Int) * 2 ≤ (n : Int) * 2 + 2 := by omega
    have g6 : (0 : Int) ≤ (n : Int) * 2 := by omega
    have hch : (GenD_s1.drop (n * 2)).take (n * 2 + 2 - n * 2) = [dchar (n / 10), dchar (n % 10)] := by rw [show n * 2 + 2 - n * 2 = 2 by omega]; exact s1_cut n hn
    repeat' first
      | with_reducible first | refine wpc_seq ?_ | refine wpc_ops ?_ | refine wops_nil ?_ | refine then_normal ?_ | refine wpc_block ?_ | refine block_normal ?_ | refine wpc_skip ?_ | refine wpc_exit ?_ | refine then_exit ?_ | refine block_exit_same ?_ | refine wpc_ret ?_ | refine then_ret ?_ | refine block_ret ?_ | refine wpc_draw ?_ | refine wdr_nil ?_ | refine gate_t ?_ | refine gate_f ?_ | refine gate_tt ?_ | refine gate_ff ?_ | refine gate_tf ?_ | refine gate_ft ?_ | exact keep_same | exact keep_true
      | (with_reducible refine block_exit_other ?_ ?_; decide)
      | ((with_reducible refine keep_rfl ?_); exact rfl)
      | ((with_reducible first | apply wops_guard | apply wdr_guard | apply wpc_test); focus (simp (disch := omega) only [go_sem, ↓reduceIte, simprocAttr, reduceCtorEq, decide_eq_true, decide_eq_false, hs, htd, hte, g1, g2, g2', g3, g4, g5, g6, hch]; with_reducible first | exact lit_t | exact lit_f))
      | ((with_reducible first | apply wops_gone | apply wdr_gone); focus (simp (disch := omega) only [go_sem, ↓reduceIte, simprocAttr, reduceCtorEq, decide_eq_true, decide_eq_false, hs, htd, hte, g1, g2, g2', g3, g4, g5, g6, hch]; done))
      | ((with_reducible first | apply wops_step | apply wops_do | apply wdr_step); focus (simp (disch := omega) only [go_sem, ↓reduceIte, simprocAttr, reduceCtorEq, decide_eq_true, decide_eq_false, hs, htd, hte, g1, g2, g2', g3, g4, g5, g6, hch]; first | with_reducible exact rfl | (rw [if_pos (by first | omega | (constructor <;> omega) | (simp; done) | assumption)]; first | with_reducible exact rfl | (try simp (disch := omega) only [go_sem, ↓reduceIte, simprocAttr, reduceCtorEq, decide_eq_true, decide_eq_false, hs, htd, hte, g1, g2, g2', g3, g4, g5, g6, hch]; with_reducible exact rfl))))
    refine end_same hok (r := .str [dchar (n / 10), dchar (n % 10)]) ?_ ?_ ⟨rfl, rfl⟩
    · first | (simp (disch := omega) only [go_sem, ↓reduceIte, simprocAttr, reduceCtorEq, evResults, evResL, evRes, internal_strconv_small_r]; done) | (simp (disch := omega) only [go_sem, ↓reduceIte, simprocAttr, reduceCtorEq, evResults, evResL, evRes, internal_strconv_small_r]; with_reducible exact rfl) | exact rfl
    · first | (simp [EV.ok, okL, okL_tab_int, okL_tab_bool, okL_app]; done)

def LenOk (P : Program) (γ : Nat → EV) (f : FuncId) : Prop :=
  ∀ (x : Nat) (H : Heap), x < 18446744073709551616 → CallsA P γ f [.int .u64 x] H fun er H' => (∃ l, IsLen x l ∧ er = .ret (.int .i64 (l : Nat))) ∧ H' = H

theorem pow2_ok {f : FuncId} (hb : Body P f internal_strconv_isPowerOfTwo internal_strconv_isPowerOfTwo_r 8) (H : Heap) : CallsA P γ f [.int .i64 16] H fun er H' => er = .ret (.bool true) ∧ H' = H := by
  refine hb.calls (by simp) fun hok => ?_
  unfold internal_strconv_isPowerOfTwo
  have e : bitsOp .and .i64 16 15 = 0 := by decide
  repeat' first
    | with_reducible first | refine wpc_seq ?_ | refine wpc_ops ?_ | refine wops_nil ?_ | refine then_normal ?_ | refine wpc_block ?_ | refine block_normal ?_ | refine wpc_skip ?_ | refine wpc_exit ?_ | refine then_exit ?_ | refine block_exit_same ?_ | refine wpc_ret ?_ | refine then_ret ?_ | refine block_ret ?_ | refine wpc_draw ?_ | refine wdr_nil ?_ | refine gate_t ?_ | refine gate_f ?_ | refine gate_tt ?_ | refine gate_ff ?_ | refine gate_tf ?_ | refine gate_ft ?_ | exact keep_same | exact keep_true
    | (with_reducible refine block_exit_other ?_ ?_; decide)
    | ((with_reducible refine keep_rfl ?_); exact rfl)
    | ((with_reducible first | apply wops_guard | apply wdr_guard | apply wpc_test); focus (simp (disch := omega) only [go_sem, ↓reduceIte, simprocAttr, reduceCtorEq, e]; with_reducible first | exact lit_t | exact lit_f))
    | ((with_reducible first | apply wops_gone | apply wdr_gone); focus (simp (disch := omega) only [go_sem, ↓reduceIte, simprocAttr, reduceCtorEq, e]; done))
    | ((with_reducible first | apply wops_step | apply wops_do | apply wdr_step); focus (simp (disch := omega) only [go_sem, ↓reduceIte, simprocAttr, reduceCtorEq, e]; first | with_reducible exact rfl | (rw [if_pos (by first | omega | (constructor <;> omega) | (simp; done) | assumption)]; first | with_reducible exact rfl | (try simp (disch := omega) only [go_sem, ↓reduceIte, simprocAttr, reduceCtorEq, e]; with_reducible exact rfl))))
  refine end_same hok (r := .bool true) ?_ ?_ ⟨rfl, rfl⟩
  · first | (simp (disch := omega) only [go_sem, ↓reduceIte, simprocAttr, reduceCtorEq, evResults, evResL, evRes, internal_strconv_isPowerOfTwo_r]; done) | (simp (disch := omega) only [go_sem, ↓reduceIte, simprocAttr, reduceCtorEq, evResults, evResL, evRes, internal_strconv_isPowerOfTwo_r]; with_reducible exact rfl) | exact rfl
  · first | (simp [EV.ok, okL, okL_tab_int, okL_tab_bool, okL_app]; done)

theorem log_calls {f : FuncId} (hb : Body P f internal_strconv_log10Pow2 internal_strconv_log10Pow2_r 6) (l : Nat) (hl : l ≤ 64) (H : Heap) : CallsA P γ f [.int .i64 l] H fun er H' => er = .ret (.int .i64 ((l * 78913 / 262144 : Nat) : Int)) ∧ H' = H := by
  refine hb.calls (by simp) fun hok => ?_
  unfold internal_strconv_log10Pow2
  have e : (((l : Int) * 78913).fdiv (2 ^ (min 18 64))) = ((l * 78913 / 262144 : Nat) : Int) := by
    rw [show (2 : Int) ^ (min 18 64) = 262144 by decide, Int.fdiv_eq_ediv_of_nonneg _ (by omega)]
    omega
  repeat' first
    | with_reducible first | refine wpc_seq ?_ | refine wpc_ops ?_ | refine wops_nil ?_ | refine then_normal ?_ | refine wpc_block ?_ | refine block_normal ?_ | refine wpc_skip ?_ | refine wpc_exit ?_ | refine then_exit ?_ | refine block_exit_same ?_ | refine wpc_ret ?_ | refine then_ret ?_ | refine block_ret ?_ | refine wpc_draw ?_ | refine wdr_nil ?_ | refine gate_t ?_ | refine gate_f ?_ | refine gate_tt ?_ | refine gate_ff ?_ | refine gate_tf ?_ | refine gate_ft ?_ | exact keep_same | exact keep_true
    | (with_reducible refine block_exit_other ?_ ?_; decide)
    | ((with_reducible refine keep_rfl ?_); exact rfl)
    | ((with_reducible first | apply wops_guard | apply wdr_guard | apply wpc_test); focus (simp (disch := omega) only [go_sem, ↓reduceIte, simprocAttr, reduceCtorEq, e]; with_reducible first | exact lit_t | exact lit_f))
    | ((with_reducible first | apply wops_gone | apply wdr_gone); focus (simp (disch := omega) only [go_sem, ↓reduceIte, simprocAttr, reduceCtorEq, e]; done))
    | ((with_reducible first | apply wops_step | apply wops_do | apply wdr_step); focus (simp (disch := omega) only [go_sem, ↓reduceIte, simprocAttr, reduceCtorEq, e]; first | with_reducible exact rfl | (rw [if_pos (by first | omega | (constructor <;> omega) | (simp; done) | assumption)]; first | with_reducible exact rfl | (try simp (disch := omega) only [go_sem, ↓reduceIte, simprocAttr, reduceCtorEq, e]; with_reducible exact rfl))))
  refine end_same hok (r := .int .i64 ((l * 78913 / 262144 : Nat) : Int)) ?_ ?_ ⟨rfl, rfl⟩
  · first | (simp (disch := omega) only [go_sem, ↓reduceIte, simprocAttr, reduceCtorEq, evResults, evResL, evRes, internal_strconv_log10Pow2_r]; done) | (simp (disch := omega) only [go_sem, ↓reduceIte, simprocAttr, reduceCtorEq, evResults, evResL, evRes, internal_strconv_log10Pow2_r]; with_reducible exact rfl) | exact rfl
  · first | (simp [EV.ok, okL, okL_tab_int, okL_tab_bool, okL_app]; done)

theorem bool2_ok {f : FuncId} (hb : Body P f internal_strconv_bool2_int internal_strconv_bool2_int_r 4) (t : Bool) (H : Heap) : CallsA P γ f [.bool t] H fun er H' => er = .ret (.int .i64 (if t then 1 else 0)) ∧ H' = H := by
  refine hb.calls (by simp) fun hok => ?_
  unfold internal_strconv_bool2_int
  cases t
  · repeat' first
      | with_reducible first | refine wpc_seq ?_ | refine wpc_ops ?_ | refine wops_nil ?_ | refine then_normal ?_ | refine wpc_block ?_ | refine block_normal ?_ | refine wpc_skip ?_ | refine wpc_exit ?_ | refine then_exit ?_ | refine block_exit_same ?_ | refine wpc_ret ?_ | refine then_ret ?_ | refine block_ret ?_ | refine wpc_draw ?_ | refine wdr_nil ?_ | refine gate_t ?_ | refine gate_f ?_ | refine gate_tt ?_ | refine gate_ff ?_ | refine gate_tf ?_ | refine gate_ft ?_ | exact keep_same | exact keep_true
      | (with_reducible refine block_exit_other ?_ ?_; decide)
      | ((with_reducible refine keep_rfl ?_); exact rfl)
      | ((with_reducible first | apply wops_guard | apply wdr_guard | apply wpc_test); focus (simp (disch := omega) only [go_sem, ↓reduceIte, simprocAttr, reduceCtorEq]; with_reducible first | exact lit_t | exact lit_f))
      | ((with_reducible first | apply wops_gone | apply wdr_gone); focus (simp (disch := omega) only [go_sem, ↓reduceIte, simprocAttr, reduceCtorEq]; done))
      | ((with_reducible first | apply wops_step | apply wops_do | apply wdr_step); focus (simp (disch := omega) only [go_sem, ↓reduceIte, simprocAttr, reduceCtorEq]; first | with_reducible exact rfl | (rw [if_pos (by first | omega | (constructor <;> omega) | (simp; done) | assumption)]; first | with_reducible exact rfl | (try simp (disch := omega) only [go_sem, ↓reduceIte, simprocAttr, reduceCtorEq]; with_reducible exact rfl))))
    refine end_same hok (r := .int .i64 0) ?_ ?_ ⟨rfl, rfl⟩
    · first | (simp (disch := omega) only [go_sem, ↓reduceIte, simprocAttr, reduceCtorEq, evResults, evResL, evRes, internal_strconv_bool2_int_r]; done) | (simp (disch := omega) only [go_sem, ↓reduceIte, simprocAttr, reduceCtorEq, evResults, evResL, evRes, internal_strconv_bool2_int_r]; with_reducible exact rfl) | exact rfl
    · first | (simp [EV.ok, okL, okL_tab_int, okL_tab_bool, okL_app]; done)
  · repeat' first
      | with_reducible first | refine wpc_seq ?_ | refine wpc_ops ?_ | refine wops_nil ?_ | refine then_normal ?_ | refine wpc_block ?_ | refine block_normal ?_ | refine wpc_skip ?_ | refine wpc_exit ?_ | refine then_exit ?_ | refine block_exit_same ?_ | refine wpc_ret ?_ | refine then_ret ?_ | refine block_ret ?_ | refine wpc_draw ?_ | refine wdr_nil ?_ | refine gate_t ?_ | refine gate_f ?_ | refine gate_tt ?_ | refine gate_ff ?_ | refine gate_tf ?_ | refine gate_ft ?_ | exact keep_same | exact keep_true
      | (with_reducible refine block_exit_other ?_ ?_; decide)
      | ((with_reducible refine keep_rfl ?_); exact rfl)
      | ((with_reducible first | apply wops_guard | apply wdr_guard | apply wpc_test); focus (simp (disch := omega) only [go_sem, ↓reduceIte, simprocAttr, reduceCtorEq]; with_reducible first | exact lit_t | exact lit_f))
      | ((with_reducible first | apply wops_gone | apply wdr_gone); focus (simp (disch := omega) only [go_sem, ↓reduceIte, simprocAttr, reduceCtorEq]; done))
      | ((with_reducible first | apply wops_step | apply wops_do | apply wdr_step); focus (simp (disch := omega) only [go_sem, ↓reduceIte, simprocAttr, reduceCtorEq]; first | with_reducible exact rfl | (rw [if_pos (by first | omega | (constructor <;> omega) | (simp; done) | assumption)]; first | with_reducible exact rfl | (try simp (disch := omega) only [go_sem, ↓reduceIte, simprocAttr, reduceCtorEq]; with_reducible exact rfl))))
    refine end_same hok (r := .int .i64 1) ?_ ?_ ⟨rfl, rfl⟩
    · first | (simp (disch := omega) only [go_sem, ↓reduceIte, simprocAttr, reduceCtorEq, evResults, evResL, evRes, internal_strconv_bool2_int_r]; done) | (simp (disch := omega) only [go_sem, ↓reduceIte, simprocAttr, reduceCtorEq, evResults, evResL, evRes, internal_strconv_bool2_int_r]; with_reducible exact rfl) | exact rfl
    · first | (simp [EV.ok, okL, okL_tab_int, okL_tab_bool, okL_app]; done)

end
end Abs
