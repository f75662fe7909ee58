/- The document's digit; numbers of digits. -/
import Derived.Test.YtcjnpmaljfkpgaaDoorDigA
namespace Abs
open Go
set_option linter.all false
set_option maxRecDepth 20000

section
variable {P : Program} {γ : Nat → EV}

set_option maxHeartbeats 16000000 in
theorem refDigit_ok {f : FuncId} (hb : Body P f hackleref03_Digit hackleref03_Digit_r 45) : DigitOk P γ f := by
  intro b base H hb8
  refine hb.calls (by simp) fun hok => ?_
  unfold hackleref03_Digit
  have hc : b < 48 ∨ (48 ≤ b ∧ b ≤ 57) ∨ (58 ≤ b ∧ b ≤ 64) ∨ (65 ≤ b ∧ b ≤ 70) ∨ (71 ≤ b ∧ b ≤ 96) ∨ (97 ≤ b ∧ b ≤ 102) ∨ 103 ≤ b := by omega
  have hbs : base = 10 ∨ base = 16 ∨ (base ≠ 10 ∧ base ≠ 16) := by omega
  rcases hbs with rfl | rfl | ⟨n1, n2⟩
  · rcases hc with h | ⟨h, h'⟩ | ⟨h, h'⟩ | ⟨h, h'⟩ | ⟨h, h'⟩ | ⟨h, h'⟩ | h
    · have e0 : hexV b = 16 := by unfold hexV; rw [if_neg (by omega), if_neg (by omega), if_neg (by omega)]
      have e : digV b 10 = -1 := by unfold digV basedB; rw [e0]; simp (disch := omega) only [decide_eq_false]; simp
      rw [e]
      repeat' first
        | with_reducible first | refine wpc_seq ?_ | refine wpc_ops ?_ | refine wops_nil ?_ | refine then_normal ?_ | refine wpc_block ?_ | refine block_normal ?_ | refine wpc_skip ?_ | refine wpc_exit ?_ | refine then_exit ?_ | refine block_exit_same ?_ | refine wpc_ret ?_ | refine then_ret ?_ | refine block_ret ?_ | refine wpc_draw ?_ | refine wdr_nil ?_ | refine gate_t ?_ | refine gate_f ?_ | refine gate_tt ?_ | refine gate_ff ?_ | refine gate_tf ?_ | refine gate_ft ?_ | exact keep_same | exact keep_true
        | (with_reducible refine block_exit_other ?_ ?_; decide)
        | ((with_reducible refine keep_rfl ?_); exact rfl)
        | ((with_reducible first | apply wops_guard | apply wdr_guard | apply wpc_test); focus (simp (disch := omega) only [go_sem, ↓reduceIte, simprocAttr, reduceCtorEq, decide_eq_true, decide_eq_false]; with_reducible first | exact lit_t | exact lit_f))
        | ((with_reducible first | apply wops_gone | apply wdr_gone); focus (simp (disch := omega) only [go_sem, ↓reduceIte, simprocAttr, reduceCtorEq, decide_eq_true, decide_eq_false]; done))
        | ((with_reducible first | apply wops_step | apply wops_do | apply wdr_step); focus (simp (disch := omega) only [go_sem, ↓reduceIte, simprocAttr, reduceCtorEq, decide_eq_true, decide_eq_false]; first | with_reducible exact rfl | (rw [if_pos (by first | omega | (constructor <;> omega) | (simp; done) | assumption)]; first | with_reducible exact rfl | (try simp (disch := omega) only [go_sem, ↓reduceIte, simprocAttr, reduceCtorEq, decide_eq_true, decide_eq_false]; with_reducible exact rfl))))
      refine end_same hok (r := .int .i64 (-1)) ?_ ?_ ⟨rfl, rfl⟩
      · first | (simp (disch := omega) only [go_sem, ↓reduceIte, simprocAttr, reduceCtorEq, evResults, evResL, evRes, hackleref03_Digit_r]; done) | (simp (disch := omega) only [go_sem, ↓reduceIte, simprocAttr, reduceCtorEq, evResults, evResL, evRes, hackleref03_Digit_r]; with_reducible exact rfl) | exact rfl
      · first | (simp [EV.ok, okL, okL_tab_int, okL_tab_bool, okL_app]; done)
    · have e0 : hexV b = b - 48 := by unfold hexV; rw [if_neg (by omega), if_neg (by omega), if_pos (by omega)]
      have e : digV b 10 = (b : Int) - 48 := by unfold digV basedB; rw [e0]; simp (disch := omega) only [decide_eq_true]; simp; omega
      rw [e]
      repeat' first
        | with_reducible first | refine wpc_seq ?_ | refine wpc_ops ?_ | refine wops_nil ?_ | refine then_normal ?_ | refine wpc_block ?_ | refine block_normal ?_ | refine wpc_skip ?_ | refine wpc_exit ?_ | refine then_exit ?_ | refine block_exit_same ?_ | refine wpc_ret ?_ | refine then_ret ?_ | refine block_ret ?_ | refine wpc_draw ?_ | refine wdr_nil ?_ | refine gate_t ?_ | refine gate_f ?_ | refine gate_tt ?_ | refine gate_ff ?_ | refine gate_tf ?_ | refine gate_ft ?_ | exact keep_same | exact keep_true
        | (with_reducible refine block_exit_other ?_ ?_; decide)
        | ((with_reducible refine keep_rfl ?_); exact rfl)
        | ((with_reducible first | apply wops_guard | apply wdr_guard | apply wpc_test); focus (simp (disch := omega) only [go_sem, ↓reduceIte, simprocAttr, reduceCtorEq, decide_eq_true, decide_eq_false]; with_reducible first | exact lit_t | exact lit_f))
        | ((with_reducible first | apply wops_gone | apply wdr_gone); focus (simp (disch := omega) only [go_sem, ↓reduceIte, simprocAttr, reduceCtorEq, decide_eq_true, decide_eq_false]; done))
        | ((with_reducible first | apply wops_step | apply wops_do | apply wdr_step); focus (simp (disch := omega) only [go_sem, ↓reduceIte, simprocAttr, reduceCtorEq, decide_eq_true, decide_eq_false]; first | with_reducible exact rfl | (rw [if_pos (by first | omega | (constructor <;> omega) | (simp; done) | assumption)]; first | with_reducible exact rfl | (try simp (disch := omega) only [go_sem, ↓reduceIte, simprocAttr, reduceCtorEq, decide_eq_true, decide_eq_false]; with_reducible exact rfl))))
      refine end_same hok (r := .int .i64 ((b : Int) - 48)) ?_ ?_ ⟨rfl, rfl⟩
      · first | (simp (disch := omega) only [go_sem, ↓reduceIte, simprocAttr, reduceCtorEq, evResults, evResL, evRes, hackleref03_Digit_r]; done) | (simp (disch := omega) only [go_sem, ↓reduceIte, simprocAttr, reduceCtorEq, evResults, evResL, evRes, hackleref03_Digit_r]; with_reducible exact rfl) | exact rfl
      · first | (simp [EV.ok, okL, okL_tab_int, okL_tab_bool, okL_app]; done)
    · have e0 : hexV b = 16 := by unfold hexV; rw [if_neg (by omega), if_neg (by omega), if_neg (by omega)]
      have e : digV b 10 = -1 := by unfold digV basedB; rw [e0]; simp (disch := omega) only [decide_eq_false]; simp
      rw [e]
      repeat' first
        | with_reducible first | refine wpc_seq ?_ | refine wpc_ops ?_ | refine wops_nil ?_ | refine then_normal ?_ | refine wpc_block ?_ | refine block_normal ?_ | refine wpc_skip ?_ | refine wpc_exit ?_ | refine then_exit ?_ | refine block_exit_same ?_ | refine wpc_ret ?_ | refine then_ret ?_ | refine block_ret ?_ | refine wpc_draw ?_ | refine wdr_nil ?_ | refine gate_t ?_ | refine gate_f ?_ | refine gate_tt ?_ | refine gate_ff ?_ | refine gate_tf ?_ | refine gate_ft ?_ | exact keep_same | exact keep_true
        | (with_reducible refine block_exit_other ?_ ?_; decide)
        | ((with_reducible refine keep_rfl ?_); exact rfl)
        | ((with_reducible first | apply wops_guard | apply wdr_guard | apply wpc_test); focus (simp (disch := omega) only [go_sem, ↓reduceIte, simprocAttr, reduceCtorEq, decide_eq_true, decide_eq_false]; with_reducible first | exact lit_t | exact lit_f))
        | ((with_reducible first | apply wops_gone | apply wdr_gone); focus (simp (disch := omega) only [go_sem, ↓reduceIte, simprocAttr, reduceCtorEq, decide_eq_true, decide_eq_false]; done))
        | ((with_reducible first | apply wops_step | apply wops_do | apply wdr_step); focus (simp (disch := omega) only [go_sem, ↓reduceIte, simprocAttr, reduceCtorEq, decide_eq_true, decide_eq_false]; first | with_reducible exact rfl | (rw [if_pos (by first | omega | (constructor <;> omega) | (simp; done) | assumption)]; first | with_reducible exact rfl | (try simp (disch := omega) only [go_sem, ↓reduceIte, simprocAttr, reduceCtorEq, decide_eq_true, decide_eq_false]; with_reducible exact rfl))))
      refine end_same hok (r := .int .i64 (-1)) ?_ ?_ ⟨rfl, rfl⟩
      · first | (simp (disch := omega) only [go_sem, ↓reduceIte, simprocAttr, reduceCtorEq, evResults, evResL, evRes, hackleref03_Digit_r]; done) | (simp (disch := omega) only [go_sem, ↓reduceIte, simprocAttr, reduceCtorEq, evResults, evResL, evRes, hackleref03_Digit_r]; with_reducible exact rfl) | exact rfl
      · first | (simp [EV.ok, okL, okL_tab_int, okL_tab_bool, okL_app]; done)
    · have e0 : hexV b = b - 55 := by unfold hexV; rw [if_neg (by omega), if_pos (by omega)]
      have e : digV b 10 = -1 := by unfold digV basedB; rw [e0]; simp (disch := omega) only [decide_eq_false]; simp
      rw [e]
      repeat' first
        | with_reducible first | refine wpc_seq ?_ | refine wpc_ops ?_ | refine wops_nil ?_ | refine then_normal ?_ | refine wpc_block ?_ | refine block_normal ?_ | refine wpc_skip ?_ | refine wpc_exit ?_ | refine then_exit ?_ | refine block_exit_same ?_ | refine wpc_ret ?_ | refine then_ret ?_ | refine block_ret ?_ | refine wpc_draw ?_ | refine wdr_nil ?_ | refine gate_t ?_ | refine gate_f ?_ | refine gate_tt ?_ | refine gate_ff ?_ | refine gate_tf ?_ | refine gate_ft ?_ | exact keep_same | exact keep_true
        | (with_reducible refine block_exit_other ?_ ?_; decide)
        | ((with_reducible refine keep_rfl ?_); exact rfl)
        | ((with_reducible first | apply wops_guard | apply wdr_guard | apply wpc_test); focus (simp (disch := omega) only [go_sem, ↓reduceIte, simprocAttr, reduceCtorEq, decide_eq_true, decide_eq_false]; with_reducible first | exact lit_t | exact lit_f))
        | ((with_reducible first | apply wops_gone | apply wdr_gone); focus (simp (disch := omega) only [go_sem, ↓reduceIte, simprocAttr, reduceCtorEq, decide_eq_true, decide_eq_false]; done))
        | ((with_reducible first | apply wops_step | apply wops_do | apply wdr_step); focus (simp (disch := omega) only [go_sem, ↓reduceIte, simprocAttr, reduceCtorEq, decide_eq_true, decide_eq_false]; first | with_reducible exact rfl | (rw [if_pos (by first | omega | (constructor <;> omega) | (simp; done) | assumption)]; first | with_reducible exact rfl | (try simp (disch := omega) only [go_sem, ↓reduceIte, simprocAttr, reduceCtorEq, decide_eq_true, decide_eq_false]; with_reducible exact rfl))))
      refine end_same hok (r := .int .i64 (-1)) ?_ ?_ ⟨rfl, rfl⟩
      · first | (simp (disch := omega) only [go_sem, ↓reduceIte, simprocAttr, reduceCtorEq, evResults, evResL, evRes, hackleref03_Digit_r]; done) | (simp (disch := omega) only [go_sem, ↓reduceIte, simprocAttr, reduceCtorEq, evResults, evResL, evRes, hackleref03_Digit_r]; with_reducible exact rfl) | exact rfl
      · first | (simp [EV.ok, okL, okL_tab_int, okL_tab_bool, okL_app]; done)
    · have e0 : hexV b = 16 := by unfold hexV; rw [if_neg (by omega), if_neg (by omega), if_neg (by omega)]
      have e : digV b 10 = -1 := by unfold digV basedB; rw [e0]; simp (disch := omega) only [decide_eq_false]; simp
      rw [e]
      repeat' first
        | with_reducible first | refine wpc_seq ?_ | refine wpc_ops ?_ | refine wops_nil ?_ | refine then_normal ?_ | refine wpc_block ?_ | refine block_normal ?_ | refine wpc_skip ?_ | refine wpc_exit ?_ | refine then_exit ?_ | refine block_exit_same ?_ | refine wpc_ret ?_ | refine then_ret ?_ | refine block_ret ?_ | refine wpc_draw ?_ | refine wdr_nil ?_ | refine gate_t ?_ | refine gate_f ?_ | refine gate_tt ?_ | refine gate_ff ?_ | refine gate_tf ?_ | refine gate_ft ?_ | exact keep_same | exact keep_true
        | (with_reducible refine block_exit_other ?_ ?_; decide)
        | ((with_reducible refine keep_rfl ?_); exact rfl)
        | ((with_reducible first | apply wops_guard | apply wdr_guard | apply wpc_test); focus (simp (disch := omega) only [go_sem, ↓reduceIte, simprocAttr, reduceCtorEq, decide_eq_true, decide_eq_false]; with_reducible first | exact lit_t | exact lit_f))
        | ((with_reducible first | apply wops_gone | apply wdr_gone); focus (simp (disch := omega) only [go_sem, ↓reduceIte, simprocAttr, reduceCtorEq, decide_eq_true, decide_eq_false]; done))
        | ((with_reducible first | apply wops_step | apply wops_do | apply wdr_step); focus (simp (disch := omega) only [go_sem, ↓reduceIte, simprocAttr, reduceCtorEq, decide_eq_true, decide_eq_false]; first | with_reducible exact rfl | (rw [if_pos (by first | omega | (constructor <;> omega) | (simp; done) | assumption)]; first | with_reducible exact rfl | (try simp (disch := omega) only [go_sem, ↓reduceIte, simprocAttr, reduceCtorEq, decide_eq_true, decide_eq_false]; with_reducible exact rfl))))
      refine end_same hok (r := .int .i64 (-1)) ?_ ?_ ⟨rfl, rfl⟩
      · first | (simp (disch := omega) only [go_sem, ↓reduceIte, simprocAttr, reduceCtorEq, evResults, evResL, evRes, hackleref03_Digit_r]; done) | (simp (disch := omega) only [go_sem, ↓reduceIte, simprocAttr, reduceCtorEq, evResults, evResL, evRes, hackleref03_Digit_r]; with_reducible exact rfl) | exact rfl
      · first | (simp [EV.ok, okL, okL_tab_int, okL_tab_bool, okL_app]; done)
    · have e0 : hexV b = b - 87 := by unfold hexV; rw [if_pos (by omega)]
      have e : digV b 10 = -1 := by unfold digV basedB; rw [e0]; simp (disch := omega) only [decide_eq_false]; simp
      rw [e]
      repeat' first
        | with_reducible first | refine wpc_seq ?_ | refine wpc_ops ?_ | refine wops_nil ?_ | refine then_normal ?_ | refine wpc_block ?_ | refine block_normal ?_ | refine wpc_skip ?_ | refine wpc_exit ?_ | refine then_exit ?_ | refine block_exit_same ?_ | refine wpc_ret ?_ | refine then_ret ?_ | refine block_ret ?_ | refine wpc_draw ?_ | refine wdr_nil ?_ | refine gate_t ?_ | refine gate_f ?_ | refine gate_tt ?_ | refine gate_ff ?_ | refine gate_tf ?_ | refine gate_ft ?_ | exact keep_same | exact keep_true
        | (with_reducible refine block_exit_other ?_ ?_; decide)
        | ((with_reducible refine keep_rfl ?_); exact rfl)
        | ((with_reducible first | apply wops_guard | apply wdr_guard | apply wpc_test); focus (simp (disch := omega) only [go_sem, ↓reduceIte, simprocAttr, reduceCtorEq, decide_eq_true, decide_eq_false]; with_reducible first | exact lit_t | exact lit_f))
        | ((with_reducible first | apply wops_gone | apply wdr_gone); focus (simp (disch := omega) only [go_sem, ↓reduceIte, simprocAttr, reduceCtorEq, decide_eq_true, decide_eq_false]; done))
        | ((with_reducible first | apply wops_step | apply wops_do | apply wdr_step); focus (simp (disch := omega) only [go_sem, ↓reduceIte, simprocAttr, reduceCtorEq, decide_eq_true, decide_eq_false]; first | with_reducible exact rfl | (rw [if_pos (by first | omega | (constructor <;> omega) | (simp; done) | assumption)]; first | with_reducible exact rfl | (try simp (disch := omega) only [go_sem, ↓reduceIte, simprocAttr, reduceCtorEq, decide_eq_true, decide_eq_false]; with_reducible exact rfl))))
      refine end_same hok (r := .int .i64 (-1)) ?_ ?_ ⟨rfl, rfl⟩
      · first | (simp (disch := omega) only [go_sem, ↓reduceIte, simprocAttr, reduceCtorEq, evResults, evResL, evRes, hackleref03_Digit_r]; done) | (simp (disch := omega) only [go_sem, ↓reduceIte, simprocAttr, reduceCtorEq, evResults, evResL, evRes, hackleref03_Digit_r]; with_reducible exact rfl) | exact rfl
      · first | (simp [EV.ok, okL, okL_tab_int, okL_tab_bool, okL_app]; done)
    · have e0 : hexV b = 16 := by unfold hexV; rw [if_neg (by omega), if_neg (by omega), if_neg (by omega)]
      have e : digV b 10 = -1 := by unfold digV basedB; rw [e0]; simp (disch := omega) only [decide_eq_false]; simp
      rw [e]
      repeat' first
        | with_reducible first | refine wpc_seq ?_ | refine wpc_ops ?_ | refine wops_nil ?_ | refine then_normal ?_ | refine wpc_block ?_ | refine block_normal ?_ | refine wpc_skip ?_ | refine wpc_exit ?_ | refine then_exit ?_ | refine block_exit_same ?_ | refine wpc_ret ?_ | refine then_ret ?_ | refine block_ret ?_ | refine wpc_draw ?_ | refine wdr_nil ?_ | refine gate_t ?_ | refine gate_f ?_ | refine gate_tt ?_ | refine gate_ff ?_ | refine gate_tf ?_ | refine gate_ft ?_ | exact keep_same | exact keep_true
        | (with_reducible refine block_exit_other ?_ ?_; decide)
        | ((with_reducible refine keep_rfl ?_); exact rfl)
        | ((with_reducible first | apply wops_guard | apply wdr_guard | apply wpc_test); focus (simp (disch := omega) only [go_sem, ↓reduceIte, simprocAttr, reduceCtorEq, decide_eq_true, decide_eq_false]; with_reducible first | exact lit_t | exact lit_f))
        | ((with_reducible first | apply wops_gone | apply wdr_gone); focus (simp (disch := omega) only [go_sem, ↓reduceIte, simprocAttr, reduceCtorEq, decide_eq_true, decide_eq_false]; done))
        | ((with_reducible first | apply wops_step | apply wops_do | apply wdr_step); focus (simp (disch := omega) only [go_sem, ↓reduceIte, simprocAttr, reduceCtorEq, decide_eq_true, decide_eq_false]; first | with_reducible exact rfl | (rw [if_pos (by first | omega | (constructor <;> omega) | (simp; done) | assumption)]; first | with_reducible exact rfl | (try simp (disch := omega) only [go_sem, ↓reduceIte, simprocAttr, reduceCtorEq, decide_eq_true, decide_eq_false]; with_reducible exact rfl))))
      refine end_same hok (r := .int .i64 (-1)) ?_ ?_ ⟨rfl, rfl⟩
      · first | (simp (disch := omega) only [go_sem, ↓reduceIte, simprocAttr, reduceCtorEq, evResults, evResL, evRes, hackleref03_Digit_r]; done) | (simp (disch := omega) only [go_sem, ↓reduceIte, simprocAttr, reduceCtorEq, evResults, evResL, evRes, hackleref03_Digit_r]; with_reducible exact rfl) | exact rfl
      · first | (simp [EV.ok, okL, okL_tab_int, okL_tab_bool, okL_app]; done)
  · rcases hc with h | ⟨h, h'⟩ | ⟨h, h'⟩ | ⟨h, h'⟩ | ⟨h, h'⟩ | ⟨h, h'⟩ | h
    · have e0 : hexV b = 16 := by unfold hexV; rw [if_neg (by omega), if_neg (by omega), if_neg (by omega)]
      have e : digV b 16 = -1 := by unfold digV basedB; rw [e0]; simp (disch := omega) only [decide_eq_false]; simp
      rw [e]
      repeat' first
        | with_reducible first | refine wpc_seq ?_ | refine wpc_ops ?_ | refine wops_nil ?_ | refine then_normal ?_ | refine wpc_block ?_ | refine block_normal ?_ | refine wpc_skip ?_ | refine wpc_exit ?_ | refine then_exit ?_ | refine block_exit_same ?_ | refine wpc_ret ?_ | refine then_ret ?_ | refine block_ret ?_ | refine wpc_draw ?_ | refine wdr_nil ?_ | refine gate_t ?_ | refine gate_f ?_ | refine gate_tt ?_ | refine gate_ff ?_ | refine gate_tf ?_ | refine gate_ft ?_ | exact keep_same | exact keep_true
        | (with_reducible refine block_exit_other ?_ ?_; decide)
        | ((with_reducible refine keep_rfl ?_); exact rfl)
        | ((with_reducible first | apply wops_guard | apply wdr_guard | apply wpc_test); focus (simp (disch := omega) only [go_sem, ↓reduceIte, simprocAttr, reduceCtorEq, decide_eq_true, decide_eq_false]; with_reducible first | exact lit_t | exact lit_f))
        | ((with_reducible first | apply wops_gone | apply wdr_gone); focus (simp (disch := omega) only [go_sem, ↓reduceIte, simprocAttr, reduceCtorEq, decide_eq_true, decide_eq_false]; done))
        | ((with_reducible first | apply wops_step | apply wops_do | apply wdr_step); focus (simp (disch := omega) only [go_sem, ↓reduceIte, simprocAttr, reduceCtorEq, decide_eq_true, decide_eq_false]; first | with_reducible exact rfl | (rw [if_pos (by first | omega | (constructor <;> omega) | (simp; done) | assumption)]; first | with_reducible exact rfl | (try simp (disch := omega) only [go_sem, ↓reduceIte, simprocAttr, reduceCtorEq, decide_eq_true, decide_eq_false]; with_reducible exact rfl))))
      refine end_same hok (r := .int .i64 (-1)) ?_ ?_ ⟨rfl, rfl⟩
      · first | (simp (disch := omega) only [go_sem, ↓reduceIte, simprocAttr, reduceCtorEq, evResults, evResL, evRes, hackleref03_Digit_r]; done) | (simp (disch := omega) only [go_sem, ↓reduceIte, simprocAttr, reduceCtorEq, evResults, evResL, evRes, hackleref03_Digit_r]; with_reducible exact rfl) | exact rfl
      · first | (simp [EV.ok, okL, okL_tab_int, okL_tab_bool, okL_app]; done)
    · have e0 : hexV b = b - 48 := by unfold hexV; rw [if_neg (by omega), if_neg (by omega), if_pos (by omega)]
      have e : digV b 16 = (b : Int) - 48 := by unfold digV basedB; rw [e0]; simp (disch := omega) only [decide_eq_true]; simp; omega
      rw [e]
      repeat' first
        | with_reducible first | refine wpc_seq ?_ | refine wpc_ops ?_ | refine wops_nil ?_ | refine then_normal ?_ | refine wpc_block ?_ | refine block_normal ?_ | refine wpc_skip ?_ | refine wpc_exit ?_ | refine then_exit ?_ | refine block_exit_same ?_ | refine wpc_ret ?_ | refine then_ret ?_ | refine block_ret ?_ | refine wpc_draw ?_ | refine wdr_nil ?_ | refine gate_t ?_ | refine gate_f ?_ | refine gate_tt ?_ | refine gate_ff ?_ | refine gate_tf ?_ | refine gate_ft ?_ | exact keep_same | exact keep_true
        | (with_reducible refine block_exit_other ?_ ?_; decide)
        | ((with_reducible refine keep_rfl ?_); exact rfl)
        | ((with_reducible first | apply wops_guard | apply wdr_guard | apply wpc_test); focus (simp (disch := omega) only [go_sem, ↓reduceIte, simprocAttr, reduceCtorEq, decide_eq_true, decide_eq_false]; with_reducible first | exact lit_t | exact lit_f))
        | ((with_reducible first | apply wops_gone | apply wdr_gone); focus (simp (disch := omega) only [go_sem, ↓reduceIte, simprocAttr, reduceCtorEq, decide_eq_true, decide_eq_false]; done))
        | ((with_reducible first | apply wops_step | apply wops_do | apply wdr_step); focus (simp (disch := omega) only [go_sem, ↓reduceIte, simprocAttr, reduceCtorEq, decide_eq_true, decide_eq_false]; first | with_reducible exact rfl | (rw [if_pos (by first | omega | (constructor <;> omega) | (simp; done) | assumption)]; first | with_reducible exact rfl | (try simp (disch := omega) only [go_sem, ↓reduceIte, simprocAttr, reduceCtorEq, decide_eq_true, decide_eq_false]; with_reducible exact rfl))))
      refine end_same hok (r := .int .i64 ((b : Int) - 48)) ?_ ?_ ⟨rfl, rfl⟩
      · first | (simp (disch := omega) only [go_sem, ↓reduceIte, simprocAttr, reduceCtorEq, evResults, evResL, evRes, hackleref03_Digit_r]; done) | (simp (disch := omega) only [go_sem, ↓reduceIte, simprocAttr, reduceCtorEq, evResults, evResL, evRes, hackleref03_Digit_r]; with_reducible exact rfl) | exact rfl
      · first | (simp [EV.ok, okL, okL_tab_int, okL_tab_bool, okL_app]; done)
    · have e0 : hexV b = 16 := by unfold hexV; rw [if_neg (by omega), if_neg (by omega), if_neg (by omega)]
      have e : digV b 16 = -1 := by unfold digV basedB; rw [e0]; simp (disch := omega) only [decide_eq_false]; simp
      rw [e]
      repeat' first
        | with_reducible first | refine wpc_seq ?_ | refine wpc_ops ?_ | refine wops_nil ?_ | refine then_normal ?_ | refine wpc_block ?_ | refine block_normal ?_ | refine wpc_skip ?_ | refine wpc_exit ?_ | refine then_exit ?_ | refine block_exit_same ?_ | refine wpc_ret ?_ | refine then_ret ?_ | refine block_ret ?_ | refine wpc_draw ?_ | refine wdr_nil ?_ | refine gate_t ?_ | refine gate_f ?_ | refine gate_tt ?_ | refine gate_ff ?_ | refine gate_tf ?_ | refine gate_ft ?_ | exact keep_same | exact keep_true
        | (with_reducible refine block_exit_other ?_ ?_; decide)
        | ((with_reducible refine keep_rfl ?_); exact rfl)
        | ((with_reducible first | apply wops_guard | apply wdr_guard | apply wpc_test); focus (simp (disch := omega) only [go_sem, ↓reduceIte, simprocAttr, reduceCtorEq, decide_eq_true, decide_eq_false]; with_reducible first | exact lit_t | exact lit_f))
        | ((with_reducible first | apply wops_gone | apply wdr_gone); focus (simp (disch := omega) only [go_sem, ↓reduceIte, simprocAttr, reduceCtorEq, decide_eq_true, decide_eq_false]; done))
        | ((with_reducible first | apply wops_step | apply wops_do | apply wdr_step); focus (simp (disch := omega) only [go_sem, ↓reduceIte, simprocAttr, reduceCtorEq, decide_eq_true, decide_eq_false]; first | with_reducible exact rfl | (rw [if_pos (by first | omega | (constructor <;> omega) | (simp; done) | assumption)]; first | with_reducible exact rfl | (try simp (disch := omega) only [go_sem, ↓reduceIte, simprocAttr, reduceCtorEq, decide_eq_true, decide_eq_false]; with_reducible exact rfl))))
      refine end_same hok (r := .int .i64 (-1)) ?_ ?_ ⟨rfl, rfl⟩
      · first | (simp (disch := omega) only [go_sem, ↓reduceIte, simprocAttr, reduceCtorEq, evResults, evResL, evRes, hackleref03_Digit_r]; done) | (simp (disch := omega) only [go_sem, ↓reduceIte, simprocAttr, reduceCtorEq, evResults, evResL, evRes, hackleref03_Digit_r]; with_reducible exact rfl) | exact rfl
      · first | (simp [EV.ok, okL, okL_tab_int, okL_tab_bool, okL_app]; done)
    · have e0 : hexV b = b - 55 := by unfold hexV; rw [if_neg (by omega), if_pos (by omega)]
      have e : digV b 16 = (b : Int) - 55 := by unfold digV basedB; rw [e0]; simp (disch := omega) only [decide_eq_true]; simp; omega
      rw [e]
      repeat' first
        | with_reducible first | refine wpc_seq ?_ | refine wpc_ops ?_ | refine wops_nil ?_ | refine then_normal ?_ | refine wpc_block ?_ | refine block_normal ?_ | refine wpc_skip ?_ | refine wpc_exit ?_ | refine then_exit ?_ | refine block_exit_same ?_ | refine wpc_ret ?_ | refine then_ret ?_ | refine block_ret ?_ | refine wpc_draw ?_ | refine wdr_nil ?_ | refine gate_t ?_ | refine gate_f ?_ | refine gate_tt ?_ | refine gate_ff ?_ | refine gate_tf ?_ | refine gate_ft ?_ | exact keep_same | exact keep_true
        | (with_reducible refine block_exit_other ?_ ?_; decide)
        | ((with_reducible refine keep_rfl ?_); exact rfl)
        | ((with_reducible first | apply wops_guard | apply wdr_guard | apply wpc_test); focus (simp (disch := omega) only [go_sem, ↓reduceIte, simprocAttr, reduceCtorEq, decide_eq_true, decide_eq_false]; with_reducible first | exact lit_t | exact lit_f))
        | ((with_reducible first | apply wops_gone | apply wdr_gone); focus (simp (disch := omega) only [go_sem, ↓reduceIte, simprocAttr, reduceCtorEq, decide_eq_true, decide_eq_false]; done))
        | ((with_reducible first | apply wops_step | apply wops_do | apply wdr_step); focus (simp (disch := omega) only [go_sem, ↓reduceIte, simprocAttr, reduceCtorEq, decide_eq_true, decide_eq_false]; first | with_reducible exact rfl | (rw [if_pos (by first | omega | (constructor <;> omega) | (simp; done) | assumption)]; first | with_reducible exact rfl | (try simp (disch := omega) only [go_sem, ↓reduceIte, simprocAttr, reduceCtorEq, decide_eq_true, decide_eq_false]; with_reducible exact rfl))))
      refine end_same hok (r := .int .i64 ((b : Int) - 55)) ?_ ?_ ⟨rfl, rfl⟩
      · first | (simp (disch := omega) only [go_sem, ↓reduceIte, simprocAttr, reduceCtorEq, evResults, evResL, evRes, hackleref03_Digit_r]; done) | (simp (disch := omega) only [go_sem, ↓reduceIte, simprocAttr, reduceCtorEq, evResults, evResL, evRes, hackleref03_Digit_r]; with_reducible exact rfl) | exact rfl
      · first | (simp [EV.ok, okL, okL_tab_int, okL_tab_bool, okL_app]; done)
    · have e0 : hexV b = 16 := by unfold hexV; rw [if_neg (by omega), if_neg (by omega), if_neg (by omega)]
      have e : digV b 16 = -1 := by unfold digV basedB; rw [e0]; simp (disch := omega) only [decide_eq_false]; simp
      rw [e]
      repeat' first
        | with_reducible first | refine wpc_seq ?_ | refine wpc_ops ?_ | refine wops_nil ?_ | refine then_normal ?_ | refine wpc_block ?_ | refine block_normal ?_ | refine wpc_skip ?_ | refine wpc_exit ?_ | refine then_exit ?_ | refine block_exit_same ?_ | refine wpc_ret ?_ | refine then_ret ?_ | refine block_ret ?_ | refine wpc_draw ?_ | refine wdr_nil ?_ | refine gate_t ?_ | refine gate_f ?_ | refine gate_tt ?_ | refine gate_ff ?_ | refine gate_tf ?_ | refine gate_ft ?_ | exact keep_same | exact keep_true
        | (with_reducible refine block_exit_other ?_ ?_; decide)
        | ((with_reducible refine keep_rfl ?_); exact rfl)
        | ((with_reducible first | apply wops_guard | apply wdr_guard | apply wpc_test); focus (simp (disch := omega) only [go_sem, ↓reduceIte, simprocAttr, reduceCtorEq, decide_eq_true, decide_eq_false]; with_reducible first | exact lit_t | exact lit_f))
        | ((with_reducible first | apply wops_gone | apply wdr_gone); focus (simp (disch := omega) only [go_sem, ↓reduceIte, simprocAttr, reduceCtorEq, decide_eq_true, decide_eq_false]; done))
        | ((with_reducible first | apply wops_step | apply wops_do | apply wdr_step); focus (simp (disch := omega) only [go_sem, ↓reduceIte, simprocAttr, reduceCtorEq, decide_eq_true, decide_eq_false]; first | with_reducible exact rfl | (rw [if_pos (by first | omega | (constructor <;> omega) | (simp; done) | assumption)]; first | with_reducible exact rfl | (try simp (disch := omega) only [go_sem, ↓reduceIte, simprocAttr, reduceCtorEq, decide_eq_true, decide_eq_false]; with_reducible exact rfl))))
      refine end_same hok (r := .int .i64 (-1)) ?_ ?_ ⟨rfl, rfl⟩
      · first | (simp (disch := omega) only [go_sem, ↓reduceIte, simprocAttr, reduceCtorEq, evResults, evResL, evRes, hackleref03_Digit_r]; done) | (simp (disch := omega) only [go_sem, ↓reduceIte, simprocAttr, reduceCtorEq, evResults, evResL, evRes, hackleref03_Digit_r]; with_reducible exact rfl) | exact rfl
      · first | (simp [EV.ok, okL, okL_tab_int, okL_tab_bool, okL_app]; done)
    · have e0 : hexV b = b - 87 := by unfold hexV; rw [if_pos (by omega)]
      have e : digV b 16 = (b : Int) - 87 := by unfold digV basedB; rw [e0]; simp (disch := omega) only [decide_eq_true]; simp; omega
      rw [e]
      repeat' first
        | with_reducible first | refine wpc_seq ?_ | refine wpc_ops ?_ | refine wops_nil ?_ | refine then_normal ?_ | refine wpc_block ?_ | refine block_normal ?_ | refine wpc_skip ?_ | refine wpc_exit ?_ | refine then_exit ?_ | refine block_exit_same ?_ | refine wpc_ret ?_ | refine then_ret ?_ | refine block_ret ?_ | refine wpc_draw ?_ | refine wdr_nil ?_ | refine gate_t ?_ | refine gate_f ?_ | refine gate_tt ?_ | refine gate_ff ?_ | refine gate_tf ?_ | refine gate_ft ?_ | exact keep_same | exact keep_true
        | (with_reducible refine block_exit_other ?_ ?_; decide)
        | ((with_reducible refine keep_rfl ?_); exact rfl)
        | ((with_reducible first | apply wops_guard | apply wdr_guard | apply wpc_test); focus (simp (disch := omega) only [go_sem, ↓reduceIte, simprocAttr, reduceCtorEq, decide_eq_true, decide_eq_false]; with_reducible first | exact lit_t | exact lit_f))
        | ((with_reducible first | apply wops_gone | apply wdr_gone); focus (simp (disch := omega) only [go_sem, ↓reduceIte, simprocAttr, reduceCtorEq, decide_eq_true, decide_eq_false]; done))
        | ((with_reducible first | apply wops_step | apply wops_do | apply wdr_step); focus (simp (disch := omega) only [go_sem, ↓reduceIte, simprocAttr, reduceCtorEq, decide_eq_true, decide_eq_false]; first | with_reducible exact rfl | (rw [if_pos (by first | omega | (constructor <;> omega) | (simp; done) | assumption)]; first | with_reducible exact rfl | (try simp (disch := omega) only [go_sem, ↓reduceIte, simprocAttr, reduceCtorEq, decide_eq_true, decide_eq_false]; with_reducible exact rfl))))
      refine end_same hok (r := .int .i64 ((b : Int) - 87)) ?_ ?_ ⟨rfl, rfl⟩
      · first | (simp (disch := omega) only [go_sem, ↓reduceIte, simprocAttr, reduceCtorEq, evResults, evResL, evRes, hackleref03_Digit_r]; done) | (simp (disch := omega) only [go_sem, ↓reduceIte, simprocAttr, reduceCtorEq, evResults, evResL, evRes, hackleref03_Digit_r]; with_reducible exact rfl) | exact rfl
      · first | (simp [EV.ok, okL, okL_tab_int, okL_tab_bool, okL_app]; done)
    · have e0 : hexV b = 16 := by unfold hexV; rw [if_neg (by omega), if_neg (by omega), if_neg (by omega)]
      have e : digV b 16 = -1 := by unfold digV basedB; rw [e0]; simp (disch := omega) only [decide_eq_false]; simp
      rw [e]
      repeat' first
        | with_reducible first | refine wpc_seq ?_ | refine wpc_ops ?_ | refine wops_nil ?_ | refine then_normal ?_ | refine wpc_block ?_ | refine block_normal ?_ | refine wpc_skip ?_ | refine wpc_exit ?_ | refine then_exit ?_ | refine block_exit_same ?_ | refine wpc_ret ?_ | refine then_ret ?_ | refine block_ret ?_ | refine wpc_draw ?_ | refine wdr_nil ?_ | refine gate_t ?_ | refine gate_f ?_ | refine gate_tt ?_ | refine gate_ff ?_ | refine gate_tf ?_ | refine gate_ft ?_ | exact keep_same | exact keep_true
        | (with_reducible refine block_exit_other ?_ ?_; decide)
        | ((with_reducible refine keep_rfl ?_); exact rfl)
        | ((with_reducible first | apply wops_guard | apply wdr_guard | apply wpc_test); focus (simp (disch := omega) only [go_sem, ↓reduceIte, simprocAttr, reduceCtorEq, decide_eq_true, decide_eq_false]; with_reducible first | exact lit_t | exact lit_f))
        | ((with_reducible first | apply wops_gone | apply wdr_gone); focus (simp (disch := omega) only [go_sem, ↓reduceIte, simprocAttr, reduceCtorEq, decide_eq_true, decide_eq_false]; done))
        | ((with_reducible first | apply wops_step | apply wops_do | apply wdr_step); focus (simp (disch := omega) only [go_sem, ↓reduceIte, simprocAttr, reduceCtorEq, decide_eq_true, decide_eq_false]; first | with_reducible exact rfl | (rw [if_pos (by first | omega | (constructor <;> omega) | (simp; done) | assumption)]; first | with_reducible exact rfl | (try simp (disch := omega) only [go_sem, ↓reduceIte, simprocAttr, reduceCtorEq, decide_eq_true, decide_eq_false]; with_reducible exact rfl))))
      refine end_same hok (r := .int .i64 (-1)) ?_ ?_ ⟨rfl, rfl⟩
      · first | (simp (disch := omega) only [go_sem, ↓reduceIte, simprocAttr, reduceCtorEq, evResults, evResL, evRes, hackleref03_Digit_r]; done) | (simp (disch := omega) only [go_sem, ↓reduceIte, simprocAttr, reduceCtorEq, evResults, evResL, evRes, hackleref03_Digit_r]; with_reducible exact rfl) | exact rfl
      · first | (simp [EV.ok, okL, okL_tab_int, okL_tab_bool, okL_app]; done)
  · rcases hc with h | ⟨h, h'⟩ | ⟨h, h'⟩ | ⟨h, h'⟩ | ⟨h, h'⟩ | ⟨h, h'⟩ | h
    · have e0 : hexV b = 16 := by unfold hexV; rw [if_neg (by omega), if_neg (by omega), if_neg (by omega)]
      have d1 : (base == 10) = false := by simpa using n1
      have d2 : (base == 16) = false := by simpa using n2
      have d3 : (base != 10) = true := by simpa using n1
      have d4 : (base != 16) = true := by simpa using n2
      have e : digV b base = -1 := by unfold digV basedB; rw [d1, d2]; rfl
      rw [e]
      repeat' first
        | with_reducible first | refine wpc_seq ?_ | refine wpc_ops ?_ | refine wops_nil ?_ | refine then_normal ?_ | refine wpc_block ?_ | refine block_normal ?_ | refine wpc_skip ?_ | refine wpc_exit ?_ | refine then_exit ?_ | refine block_exit_same ?_ | refine wpc_ret ?_ | refine then_ret ?_ | refine block_ret ?_ | refine wpc_draw ?_ | refine wdr_nil ?_ | refine gate_t ?_ | refine gate_f ?_ | refine gate_tt ?_ | refine gate_ff ?_ | refine gate_tf ?_ | refine gate_ft ?_ | exact keep_same | exact keep_true
        | (with_reducible refine block_exit_other ?_ ?_; decide)
        | ((with_reducible refine keep_rfl ?_); exact rfl)
        | ((with_reducible first | apply wops_guard | apply wdr_guard | apply wpc_test); focus (simp (disch := omega) only [go_sem, ↓reduceIte, simprocAttr, reduceCtorEq, d3, d4, decide_eq_true, decide_eq_false]; with_reducible first | exact lit_t | exact lit_f))
        | ((with_reducible first | apply wops_gone | apply wdr_gone); focus (simp (disch := omega) only [go_sem, ↓reduceIte, simprocAttr, reduceCtorEq, d3, d4, decide_eq_true, decide_eq_false]; done))
        | ((with_reducible first | apply wops_step | apply wops_do | apply wdr_step); focus (simp (disch := omega) only [go_sem, ↓reduceIte, simprocAttr, reduceCtorEq, d3, d4, decide_eq_true, decide_eq_false]; first | with_reducible exact rfl | (rw [if_pos (by first | omega | (constructor <;> omega) | (simp; done) | assumption)]; first | with_reducible exact rfl | (try simp (disch := omega) only [go_sem, ↓reduceIte, simprocAttr, reduceCtorEq, d3, d4, decide_eq_true, decide_eq_false]; with_reducible exact rfl))))
      refine end_same hok (r := .int .i64 (-1)) ?_ ?_ ⟨rfl, rfl⟩
      · first | (simp (disch := omega) only [go_sem, ↓reduceIte, simprocAttr, reduceCtorEq, evResults, evResL, evRes, hackleref03_Digit_r]; done) | (simp (disch := omega) only [go_sem, ↓reduceIte, simprocAttr, reduceCtorEq, evResults, evResL, evRes, hackleref03_Digit_r]; with_reducible exact rfl) | exact rfl
      · first | (simp [EV.ok, okL, okL_tab_int, okL_tab_bool, okL_app]; done)
    · have e0 : hexV b = b - 48 := by unfold hexV; rw [if_neg (by omega), if_neg (by omega), if_pos (by omega)]
      have d1 : (base == 10) = false := by simpa using n1
      have d2 : (base == 16) = false := by simpa using n2
      have d3 : (base != 10) = true := by simpa using n1
      have d4 : (base != 16) = true := by simpa using n2
      have e : digV b base = -1 := by unfold digV basedB; rw [d1, d2]; rfl
      rw [e]
      repeat' first
        | with_reducible first | refine wpc_seq ?_ | refine wpc_ops ?_ | refine wops_nil ?_ | refine then_normal ?_ | refine wpc_block ?_ | refine block_normal ?_ | refine wpc_skip ?_ | refine wpc_exit ?_ | refine then_exit ?_ | refine block_exit_same ?_ | refine wpc_ret ?_ | refine then_ret ?_ | refine block_ret ?_ | refine wpc_draw ?_ | refine wdr_nil ?_ | refine gate_t ?_ | refine gate_f ?_ | refine gate_tt ?_ | refine gate_ff ?_ | refine gate_tf ?_ | refine gate_ft ?_ | exact keep_same | exact keep_true
        | (with_reducible refine block_exit_other ?_ ?_; decide)
        | ((with_reducible refine keep_rfl ?_); exact rfl)
        | ((with_reducible first | apply wops_guard | apply wdr_guard | apply wpc_test); focus (simp (disch := omega) only [go_sem, ↓reduceIte, simprocAttr, reduceCtorEq, d3, d4, decide_eq_true, decide_eq_false]; with_reducible first | exact lit_t | exact lit_f))
        | ((with_reducible first | apply wops_gone | apply wdr_gone); focus (simp (disch := omega) only [go_sem, ↓reduceIte, simprocAttr, reduceCtorEq, d3, d4, decide_eq_true, decide_eq_false]; done))
        | ((with_reducible first | apply wops_step | apply wops_do | apply wdr_step); focus (simp (disch := omega) only [go_sem, ↓reduceIte, simprocAttr, reduceCtorEq, d3, d4, decide_eq_true, decide_eq_false]; first | with_reducible exact rfl | (rw [if_pos (by first | omega | (constructor <;> omega) | (simp; done) | assumption)]; first | with_reducible exact rfl | (try simp (disch := omega) only [go_sem, ↓reduceIte, simprocAttr, reduceCtorEq, d3, d4, decide_eq_true, decide_eq_false]; with_reducible exact rfl))))
      refine end_same hok (r := .int .i64 (-1)) ?_ ?_ ⟨rfl, rfl⟩
      · first | (simp (disch := omega) only [go_sem, ↓reduceIte, simprocAttr, reduceCtorEq, evResults, evResL, evRes, hackleref03_Digit_r]; done) | (simp (disch := omega) only [go_sem, ↓reduceIte, simprocAttr, reduceCtorEq, evResults, evResL, evRes, hackleref03_Digit_r]; with_reducible exact rfl) | exact rfl
      · first | (simp [EV.ok, okL, okL_tab_int, okL_tab_bool, okL_app]; done)
    · have e0 : hexV b = 16 := by unfold hexV; rw [if_neg (by omega), if_neg (by omega), if_neg (by omega)]
      have d1 : (base == 10) = false := by simpa using n1
      have d2 : (base == 16) = false := by simpa using n2
      have d3 : (base != 10) = true := by simpa using n1
      have d4 : (base != 16) = true := by simpa using n2
      have e : digV b base = -1 := by unfold digV basedB; rw [d1, d2]; rfl
      rw [e]
      repeat' first
        | with_reducible first | refine wpc_seq ?_ | refine wpc_ops ?_ | refine wops_nil ?_ | refine then_normal ?_ | refine wpc_block ?_ | refine block_normal ?_ | refine wpc_skip ?_ | refine wpc_exit ?_ | refine then_exit ?_ | refine block_exit_same ?_ | refine wpc_ret ?_ | refine then_ret ?_ | refine block_ret ?_ | refine wpc_draw ?_ | refine wdr_nil ?_ | refine gate_t ?_ | refine gate_f ?_ | refine gate_tt ?_ | refine gate_ff ?_ | refine gate_tf ?_ | refine gate_ft ?_ | exact keep_same | exact keep_true
        | (with_reducible refine block_exit_other ?_ ?_; decide)
        | ((with_reducible refine keep_rfl ?_); exact rfl)
        | ((with_reducible first | apply wops_guard | apply wdr_guard | apply wpc_test); focus (simp (disch := omega) only [go_sem, ↓reduceIte, simprocAttr, reduceCtorEq, d3, d4, decide_eq_true, decide_eq_false]; with_reducible first | exact lit_t | exact lit_f))
        | ((with_reducible first | apply wops_gone | apply wdr_gone); focus (simp (disch := omega) only [go_sem, ↓reduceIte, simprocAttr, reduceCtorEq, d3, d4, decide_eq_true, decide_eq_false]; done))
        | ((with_reducible first | apply wops_step | apply wops_do | apply wdr_step); focus (simp (disch := omega) only [go_sem, ↓reduceIte, simprocAttr, reduceCtorEq, d3, d4, decide_eq_true, decide_eq_false]; first | with_reducible exact rfl | (rw [if_pos (by first | omega | (constructor <;> omega) | (simp; done) | assumption)]; first | with_reducible exact rfl | (try simp (disch := omega) only [go_sem, ↓reduceIte, simprocAttr, reduceCtorEq, d3, d4, decide_eq_true, decide_eq_false]; with_reducible exact rfl))))
      refine end_same hok (r := .int .i64 (-1)) ?_ ?_ ⟨rfl, rfl⟩
      · first | (simp (disch := omega) only [go_sem, ↓reduceIte, simprocAttr, reduceCtorEq, evResults, evResL, evRes, hackleref03_Digit_r]; done) | (simp (disch := omega) only [go_sem, ↓reduceIte, simprocAttr, reduceCtorEq, evResults, evResL, evRes, hackleref03_Digit_r]; with_reducible exact rfl) | exact rfl
      · first | (simp [EV.ok, okL, okL_tab_int, okL_tab_bool, okL_app]; done)
    · have e0 : hexV b = b - 55 := by unfold hexV; rw [if_neg (by omega), if_pos (by omega)]
      have d1 : (base == 10) = false := by simpa using n1
      have d2 : (base == 16) = false := by simpa using n2
      have d3 : (base != 10) = true := by simpa using n1
      have d4 : (base != 16) = true := by simpa using n2
      have e : digV b base = -1 := by unfold digV basedB; rw [d1, d2]; rfl
      rw [e]
      repeat' first
        | with_reducible first | refine wpc_seq ?_ | refine wpc_ops ?_ | refine wops_nil ?_ | refine then_normal ?_ | refine wpc_block ?_ | refine block_normal ?_ | refine wpc_skip ?_ | refine wpc_exit ?_ | refine then_exit ?_ | refine block_exit_same ?_ | refine wpc_ret ?_ | refine then_ret ?_ | refine block_ret ?_ | refine wpc_draw ?_ | refine wdr_nil ?_ | refine gate_t ?_ | refine gate_f ?_ | refine gate_tt ?_ | refine gate_ff ?_ | refine gate_tf ?_ | refine gate_ft ?_ | exact keep_same | exact keep_true
        | (with_reducible refine block_exit_other ?_ ?_; decide)
        | ((with_reducible refine keep_rfl ?_); exact rfl)
        | ((with_reducible first | apply wops_guard | apply wdr_guard | apply wpc_test); focus (simp (disch := omega) only [go_sem, ↓reduceIte, simprocAttr, reduceCtorEq, d3, d4, decide_eq_true, decide_eq_false]; with_reducible first | exact lit_t | exact lit_f))
        | ((with_reducible first | apply wops_gone | apply wdr_gone); focus (simp (disch := omega) only [go_sem, ↓reduceIte, simprocAttr, reduceCtorEq, d3, d4, decide_eq_true, decide_eq_false]; done))
        | ((with_reducible first | apply wops_step | apply wops_do | apply wdr_step); focus (simp (disch := omega) only [go_sem, ↓reduceIte, simprocAttr, reduceCtorEq, d3, d4, decide_eq_true, decide_eq_false]; first | with_reducible exact rfl | (rw [if_pos (by first | omega | (constructor <;> omega) | (simp; done) | assumption)]; first | with_reducible exact rfl | (try simp (disch := omega) only [go_sem, ↓reduceIte, simprocAttr, reduceCtorEq, d3, d4, decide_eq_true, decide_eq_false]; with_reducible exact rfl))))
      refine end_same hok (r := .int .i64 (-1)) ?_ ?_ ⟨rfl, rfl⟩
      · first | (simp (disch := omega) only [go_sem, ↓reduceIte, simprocAttr, reduceCtorEq, evResults, evResL, evRes, hackleref03_Digit_r]; done) | (simp (disch := omega) only [go_sem, ↓reduceIte, simprocAttr, reduceCtorEq, evResults, evResL, evRes, hackleref03_Digit_r]; with_reducible exact rfl) | exact rfl
      · first | (simp [EV.ok, okL, okL_tab_int, okL_tab_bool, okL_app]; done)
    · have e0 : hexV b = 16 := by unfold hexV; rw [if_neg (by omega), if_neg (by omega), if_neg (by omega)]
      have d1 : (base == 10) = false := by simpa using n1
      have d2 : (base == 16) = false := by simpa using n2
      have d3 : (base != 10) = true := by simpa using n1
      have d4 : (base != 16) = true := by simpa using n2
      have e : digV b base = -1 := by unfold digV basedB; rw [d1, d2]; rfl
      rw [e]
      repeat' first
        | with_reducible first | refine wpc_seq ?_ | refine wpc_ops ?_ | refine wops_nil ?_ | refine then_normal ?_ | refine wpc_block ?_ | refine block_normal ?_ | refine wpc_skip ?_ | refine wpc_exit ?_ | refine then_exit ?_ | refine block_exit_same ?_ | refine wpc_ret ?_ | refine then_ret ?_ | refine block_ret ?_ | refine wpc_draw ?_ | refine wdr_nil ?_ | refine gate_t ?_ | refine gate_f ?_ | refine gate_tt ?_ | refine gate_ff ?_ | refine gate_tf ?_ | refine gate_ft ?_ | exact keep_same | exact keep_true
        | (with_reducible refine block_exit_other ?_ ?_; decide)
        | ((with_reducible refine keep_rfl ?_); exact rfl)
        | ((with_reducible first | apply wops_guard | apply wdr_guard | apply wpc_test); focus (simp (disch := omega) only [go_sem, ↓reduceIte, simprocAttr, reduceCtorEq, d3, d4, decide_eq_true, decide_eq_false]; with_reducible first | exact lit_t | exact lit_f))
        | ((with_reducible first | apply wops_gone | apply wdr_gone); focus (simp (disch := omega) only [go_sem, ↓reduceIte, simprocAttr, reduceCtorEq, d3, d4, decide_eq_true, decide_eq_false]; done))
        | ((with_reducible first | apply wops_step | apply wops_do | apply wdr_step); focus (simp (disch := omega) only [go_sem, ↓reduceIte, simprocAttr, reduceCtorEq, d3, d4, decide_eq_true, decide_eq_false]; first | with_reducible exact rfl | (rw [if_pos (by first | omega | (constructor <;> omega) | (simp; done) | assumption)]; first | with_reducible exact rfl | (try simp (disch := omega) only [go_sem, ↓reduceIte, simprocAttr, reduceCtorEq, d3, d4, decide_eq_true, decide_eq_false]; with_reducible exact rfl))))
      refine end_same hok (r := .int .i64 (-1)) ?_ ?_ ⟨rfl, rfl⟩
      · first | (simp (disch := omega) only [go_sem, ↓reduceIte, simprocAttr, reduceCtorEq, evResults, evResL, evRes, hackleref03_Digit_r]; done) | (simp (disch := omega) only [go_sem, ↓reduceIte, simprocAttr, reduceCtorEq, evResults, evResL, evRes, hackleref03_Digit_r]; with_reducible exact rfl) | exact rfl
      · first | (simp [EV.ok, okL, okL_tab_int, okL_tab_bool, okL_app]; done)
    · have e0 : hexV b = b - 87 := by unfold hexV; rw [if_pos (by omega)]
      have d1 : (base == 10) = false := by simpa using n1
      have d2 : (base == 16) = false := by simpa using n2
      have d3 : (base != 10) = true := by simpa using n1
      have d4 : (base != 16) = true := by simpa using n2
      have e : digV b base = -1 := by unfold digV basedB; rw [d1, d2]; rfl
      rw [e]
      repeat' first
        | with_reducible first | refine wpc_seq ?_ | refine wpc_ops ?_ | refine wops_nil ?_ | refine then_normal ?_ | refine wpc_block ?_ | refine block_normal ?_ | refine wpc_skip ?_ | refine wpc_exit ?_ | refine then_exit ?_ | refine block_exit_same ?_ | refine wpc_ret ?_ | refine then_ret ?_ | refine block_ret ?_ | refine wpc_draw ?_ | refine wdr_nil ?_ | refine gate_t ?_ | refine gate_f ?_ | refine gate_tt ?_ | refine gate_ff ?_ | refine gate_tf ?_ | refine gate_ft ?_ | exact keep_same | exact keep_true
        | (with_reducible refine block_exit_other ?_ ?_; decide)
        | ((with_reducible refine keep_rfl ?_); exact rfl)
        | ((with_reducible first | apply wops_guard | apply wdr_guard | apply wpc_test); focus (simp (disch := omega) only [go_sem, ↓reduceIte, simprocAttr, reduceCtorEq, d3, d4, decide_eq_true, decide_eq_false]; with_reducible first | exact lit_t | exact lit_f))
        | ((with_reducible first | apply wops_gone | apply wdr_gone); focus (simp (disch := omega) only [go_sem, ↓reduceIte, simprocAttr, reduceCtorEq, d3, d4, decide_eq_true, decide_eq_false]; done))
        | ((with_reducible first | apply wops_step | apply wops_do | apply wdr_step); focus (simp (disch := omega) only [go_sem, ↓reduceIte, simprocAttr, reduceCtorEq, d3, d4, decide_eq_true, decide_eq_false]; first | with_reducible exact rfl | (rw [if_pos (by first | omega | (constructor <;> omega) | (simp; done) | assumption)]; first | with_reducible exact rfl | (try simp (disch := omega) only [go_sem, ↓reduceIte, simprocAttr, reduceCtorEq, d3, d4, decide_eq_true, decide_eq_false]; with_reducible exact rfl))))
      refine end_same hok (r := .int .i64 (-1)) ?_ ?_ ⟨rfl, rfl⟩
      · first | (simp (disch := omega) only [go_sem, ↓reduceIte, simprocAttr, reduceCtorEq, evResults, evResL, evRes, hackleref03_Digit_r]; done) | (simp (disch := omega) only [go_sem, ↓reduceIte, simprocAttr, reduceCtorEq, evResults, evResL, evRes, hackleref03_Digit_r]; with_reducible exact rfl) | exact rfl
      · first | (simp [EV.ok, okL, okL_tab_int, okL_tab_bool, okL_app]; done)
    · have e0 : hexV b = 16 := by unfold hexV; rw [if_neg (by omega), if_neg (by omega), if_neg (by omega)]
      have d1 : (base == 10) = false := by simpa using n1
      have d2 : (base == 16) = false := by simpa using n2
      have d3 : (base != 10) = true := by simpa using n1
      have d4 : (base != 16) = true := by simpa using n2
      have e : digV b base = -1 := by unfold digV basedB; rw [d1, d2]; rfl
      rw [e]
      repeat' first
        | with_reducible first | refine wpc_seq ?_ | refine wpc_ops ?_ | refine wops_nil ?_ | refine then_normal ?_ | refine wpc_block ?_ | refine block_normal ?_ | refine wpc_skip ?_ | refine wpc_exit ?_ | refine then_exit ?_ | refine block_exit_same ?_ | refine wpc_ret ?_ | refine then_ret ?_ | refine block_ret ?_ | refine wpc_draw ?_ | refine wdr_nil ?_ | refine gate_t ?_ | refine gate_f ?_ | refine gate_tt ?_ | refine gate_ff ?_ | refine gate_tf ?_ | refine gate_ft ?_ | exact keep_same | exact keep_true
        | (with_reducible refine block_exit_other ?_ ?_; decide)
        | ((with_reducible refine keep_rfl ?_); exact rfl)
        | ((with_reducible first | apply wops_guard | apply wdr_guard | apply wpc_test); focus (simp (disch := omega) only [go_sem, ↓reduceIte, simprocAttr, reduceCtorEq, d3, d4, decide_eq_true, decide_eq_false]; with_reducible first | exact lit_t | exact lit_f))
        | ((with_reducible first | apply wops_gone | apply wdr_gone); focus (simp (disch := omega) only [go_sem, ↓reduceIte, simprocAttr, reduceCtorEq, d3, d4, decide_eq_true, decide_eq_false]; done))
        | ((with_reducible first | apply wops_step | apply wops_do | apply wdr_step); focus (simp (disch := omega) only [go_sem, ↓reduceIte, simprocAttr, reduceCtorEq, d3, d4, decide_eq_true, decide_eq_false]; first | with_reducible exact rfl | (rw [if_pos (by first | omega | (constructor <;> omega) | (simp; done) | assumption)]; first | with_reducible exact rfl | (try simp (disch := omega) only [go_sem, ↓reduceIte, simprocAttr, reduceCtorEq, d3, d4, decide_eq_true, decide_eq_false]; with_reducible exact rfl))))
      refine end_same hok (r := .int .i64 (-1)) ?_ ?_ ⟨rfl, rfl⟩
      · first | (simp (disch := omega) only [go_sem, ↓reduceIte, simprocAttr, reduceCtorEq, evResults, evResL, evRes, hackleref03_Digit_r]; done) | (simp (disch := omega) only [go_sem, ↓reduceIte, simprocAttr, reduceCtorEq, evResults, evResL, evRes, hackleref03_Digit_r]; with_reducible exact rfl) | exact rfl
      · first | (simp [EV.ok, okL, okL_tab_int, okL_tab_bool, okL_app]; done)

end
end Abs
