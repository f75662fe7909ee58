/- The document's functions of layer 2. -/
import Derived.Test.YtcjnpmaljfkpgaaDoorClassA
namespace Abs
open Go
set_option linter.all false
set_option maxRecDepth 20000

section
variable {P : Program} {γ : Nat → EV}

def mayN (of : Nat → Nat) : Nat → Option Nat
  | 0 => some 0
  | b + 1 =>
    match mayN of b with
    | none => none
    | some n => if n < of b then none else if of b = n then some (n + 1) else some n

def mayC (of : Nat → Nat) (n : Int) : Bool :=
  match mayN of 256 with
  | none => false
  | some m => n == (m : Int)

theorem mayN_none {of : Nat → Nat} {b : Nat} (h : mayN of b = none) : ∀ c, b ≤ c → mayN of c = none := by
  intro c hc
  induction c with
  | zero => obtain rfl : b = 0 := by omega
            exact h
  | succ c ih =>
    by_cases e : b = c + 1
    · subst e; exact h
    · simp only [mayN, ih (by omega)]

theorem mayN_le {of : Nat → Nat} : ∀ {b n : Nat}, mayN of b = some n → n ≤ b
  | 0, n, h => by simp [mayN] at h; omega
  | b + 1, n, h => by
    simp only [mayN] at h
    split at h
    · simp at h
    · rename_i m hm
      have := mayN_le hm
      split at h
      · simp at h
      · split at h <;> simp at h <;> omega

set_option maxHeartbeats 4000000 in
theorem refMay_ok {f : FuncId} (hb : Body P f hackleref02_May hackleref02_May_r 29) (of : Nat → Nat) (n : Int) (hof : ∀ b, b < 256 → of b < 256) (H : Heap) :
    CallsA P γ f [classesE of n] H fun er H' => er = .ret (.bool (mayC of n)) ∧ H' = H := by
  refine hb.calls (by simp) fun hok => ?_
  unfold hackleref02_May
  repeat' first
    | with_reducible first | refine wpc_seq ?_ | refine wpc_ops ?_ | refine wops_nil ?_ | refine then_normal ?_ | refine wpc_block ?_ | refine block_normal ?_ | refine wpc_skip ?_ | refine wpc_exit ?_ | refine then_exit ?_ | refine block_exit_same ?_ | refine wpc_ret ?_ | refine then_ret ?_ | refine block_ret ?_ | refine wpc_draw ?_ | refine wdr_nil ?_ | refine gate_t ?_ | refine gate_f ?_ | refine gate_tt ?_ | refine gate_ff ?_ | refine gate_tf ?_ | refine gate_ft ?_ | exact keep_same | exact keep_true
    | (with_reducible refine block_exit_other ?_ ?_; decide)
    | ((with_reducible refine keep_rfl ?_); exact rfl)
    | ((with_reducible first | apply wops_guard | apply wdr_guard | apply wpc_test); focus (simp (disch := omega) only [go_sem, ↓reduceIte, simprocAttr, reduceCtorEq, classesE]; with_reducible first | exact lit_t | exact lit_f))
    | ((with_reducible first | apply wops_gone | apply wdr_gone); focus (simp (disch := omega) only [go_sem, ↓reduceIte, simprocAttr, reduceCtorEq, classesE]; done))
    | ((with_reducible first | apply wops_step | apply wops_do | apply wdr_step); focus (simp (disch := omega) only [go_sem, ↓reduceIte, simprocAttr, reduceCtorEq, classesE]; first | with_reducible exact rfl | (rw [if_pos (by first | omega | (constructor <;> omega) | (simp; done) | assumption)]; first | with_reducible exact rfl | (try simp (disch := omega) only [go_sem, ↓reduceIte, simprocAttr, reduceCtorEq, classesE]; with_reducible exact rfl))))
  refine wpc_while (ι := Nat × Nat) (fun p => p.1 ≤ 256 ∧ mayN of p.1 = some p.2) (fun p => 256 - p.1) (fun p => [(1, .ptr H.length 257 0 0), (3, .int .i64 p.2), (4, .int .i64 p.1)])
    (fun p => H ++ [some (.row 257 [classesE of n])]) (0, 0) (by simp [mayN]) ?_ ?_ ?_ ?_ ?_
  · (repeat' (first | exact trivial | refine And.intro (And.intro ?_ ?_) ?_)) <;> first | exact rfl | (simp (disch := omega) only [go_sem, ↓reduceIte, simprocAttr, reduceCtorEq, EV.ok, okL_tab_int, okL_tab_bool, okL_app, okL, decide_eq_true_eq, EV.int.injEq]; done) | (simp (disch := omega) only [go_sem, ↓reduceIte, simprocAttr, reduceCtorEq, EV.ok, okL_tab_int, okL_tab_bool, okL_app, okL, decide_eq_true_eq, EV.int.injEq] <;> first | exact rfl | omega)
  · rfl
  · exact fun i _ => okH_app hok (by simp [EB.ok, okG, okL, classesE, EV.ok, okL_tab_int, okL_app])
  · simp
  · rintro ⟨b, m⟩ ⟨hb8, hm⟩ K Q' hK hQ'
    simp only at hb8 hm
    have hml := mayN_le hm
    repeat' first
      | with_reducible first | refine wpc_seq ?_ | refine wpc_ops ?_ | refine wops_nil ?_ | refine then_normal ?_ | refine wpc_block ?_ | refine block_normal ?_ | refine wpc_skip ?_ | refine wpc_exit ?_ | refine then_exit ?_ | refine block_exit_same ?_ | refine wpc_ret ?_ | refine then_ret ?_ | refine block_ret ?_ | refine wpc_draw ?_ | refine wdr_nil ?_ | refine gate_t ?_ | refine gate_f ?_ | refine gate_tt ?_ | refine gate_ff ?_ | refine gate_tf ?_ | refine gate_ft ?_ | exact keep_same | exact keep_true
      | (with_reducible refine block_exit_other ?_ ?_; decide)
      | ((with_reducible refine keep_rfl ?_); exact rfl)
      | ((with_reducible first | apply wops_guard | apply wdr_guard | apply wpc_test); focus (simp (disch := omega) only [go_sem, ↓reduceIte, simprocAttr, reduceCtorEq]; with_reducible first | exact lit_t | exact lit_f))
      | ((with_reducible first | apply wops_gone | apply wdr_gone); focus (simp (disch := omega) only [go_sem, ↓reduceIte, simprocAttr, reduceCtorEq]; done))
      | ((with_reducible first | apply wops_step | apply wops_do | apply wdr_step); focus (simp (disch := omega) only [go_sem, ↓reduceIte, simprocAttr, reduceCtorEq]; first | with_reducible exact rfl | (rw [if_pos (by first | omega | (constructor <;> omega) | (simp; done) | assumption)]; first | with_reducible exact rfl | (try simp (disch := omega) only [go_sem, ↓reduceIte, simprocAttr, reduceCtorEq]; with_reducible exact rfl))))
    refine wpc_cond (t := decide ((b : Int) < 256)) (by simp (disch := omega) only [go_sem, ↓reduceIte, simprocAttr, reduceCtorEq]) (fun ht => ?_) (fun ht => ?_)
    · have hbl : b < 256 := by have := of_decide_eq_true ht; omega
      have ho := hof b hbl
      repeat' first
        | with_reducible first | refine wpc_seq ?_ | refine wpc_ops ?_ | refine wops_nil ?_ | refine then_normal ?_ | refine wpc_block ?_ | refine block_normal ?_ | refine wpc_skip ?_ | refine wpc_exit ?_ | refine then_exit ?_ | refine block_exit_same ?_ | refine wpc_ret ?_ | refine then_ret ?_ | refine block_ret ?_ | refine wpc_draw ?_ | refine wdr_nil ?_ | refine gate_t ?_ | refine gate_f ?_ | refine gate_tt ?_ | refine gate_ff ?_ | refine gate_tf ?_ | refine gate_ft ?_ | exact keep_same | exact keep_true
        | (with_reducible refine block_exit_other ?_ ?_; decide)
        | ((with_reducible refine keep_rfl ?_); exact rfl)
        | ((with_reducible first | apply wops_guard | apply wdr_guard | apply wpc_test); focus (simp (disch := omega) only [go_sem, ↓reduceIte, simprocAttr, reduceCtorEq, classesE]; with_reducible first | exact lit_t | exact lit_f))
        | ((with_reducible first | apply wops_gone | apply wdr_gone); focus (simp (disch := omega) only [go_sem, ↓reduceIte, simprocAttr, reduceCtorEq, classesE]; done))
        | ((with_reducible first | apply wops_step | apply wops_do | apply wdr_step); focus (simp (disch := omega) only [go_sem, ↓reduceIte, simprocAttr, reduceCtorEq, classesE]; first | with_reducible exact rfl | (rw [if_pos (by first | omega | (constructor <;> omega) | (simp; done) | assumption)]; first | with_reducible exact rfl | (try simp (disch := omega) only [go_sem, ↓reduceIte, simprocAttr, reduceCtorEq, classesE]; with_reducible exact rfl))))
      refine wpc_cond (t := decide ((of b : Int) > (m : Int))) (by simp (disch := omega) only [go_sem, ↓reduceIte, simprocAttr, reduceCtorEq]) (fun ht2 => ?_) (fun ht2 => ?_)
      · have h2 : m < of b := by have := of_decide_eq_true ht2; omega
        have h3 : mayN of (b + 1) = none := by simp [mayN, hm, h2]
        repeat' first
          | with_reducible first | refine wpc_seq ?_ | refine wpc_ops ?_ | refine wops_nil ?_ | refine then_normal ?_ | refine wpc_block ?_ | refine block_normal ?_ | refine wpc_skip ?_ | refine wpc_exit ?_ | refine then_exit ?_ | refine block_exit_same ?_ | refine wpc_ret ?_ | refine then_ret ?_ | refine block_ret ?_ | refine wpc_draw ?_ | refine wdr_nil ?_ | refine gate_t ?_ | refine gate_f ?_ | refine gate_tt ?_ | refine gate_ff ?_ | refine gate_tf ?_ | refine gate_ft ?_ | exact keep_same | exact keep_true
          | (with_reducible refine block_exit_other ?_ ?_; decide)
          | ((with_reducible refine keep_rfl ?_); exact rfl)
          | ((with_reducible first | apply wops_guard | apply wdr_guard | apply wpc_test); focus (simp (disch := omega) only [go_sem, ↓reduceIte, simprocAttr, reduceCtorEq]; with_reducible first | exact lit_t | exact lit_f))
          | ((with_reducible first | apply wops_gone | apply wdr_gone); focus (simp (disch := omega) only [go_sem, ↓reduceIte, simprocAttr, reduceCtorEq]; done))
          | ((with_reducible first | apply wops_step | apply wops_do | apply wdr_step); focus (simp (disch := omega) only [go_sem, ↓reduceIte, simprocAttr, reduceCtorEq]; first | with_reducible exact rfl | (rw [if_pos (by first | omega | (constructor <;> omega) | (simp; done) | assumption)]; first | with_reducible exact rfl | (try simp (disch := omega) only [go_sem, ↓reduceIte, simprocAttr, reduceCtorEq]; with_reducible exact rfl))))
        refine hQ' _ _ _ ?_
        repeat' first
          | with_reducible first | refine wpc_seq ?_ | refine wpc_ops ?_ | refine wops_nil ?_ | refine then_normal ?_ | refine wpc_block ?_ | refine block_normal ?_ | refine wpc_skip ?_ | refine wpc_exit ?_ | refine then_exit ?_ | refine block_exit_same ?_ | refine wpc_ret ?_ | refine then_ret ?_ | refine block_ret ?_ | refine wpc_draw ?_ | refine wdr_nil ?_ | refine gate_t ?_ | refine gate_f ?_ | refine gate_tt ?_ | refine gate_ff ?_ | refine gate_tf ?_ | refine gate_ft ?_ | exact keep_same | exact keep_true
          | (with_reducible refine block_exit_other ?_ ?_; decide)
          | ((with_reducible refine keep_rfl ?_); exact rfl)
          | ((with_reducible first | apply wops_guard | apply wdr_guard | apply wpc_test); focus (simp (disch := omega) only [go_sem, ↓reduceIte, simprocAttr, reduceCtorEq]; with_reducible first | exact lit_t | exact lit_f))
          | ((with_reducible first | apply wops_gone | apply wdr_gone); focus (simp (disch := omega) only [go_sem, ↓reduceIte, simprocAttr, reduceCtorEq]; done))
          | ((with_reducible first | apply wops_step | apply wops_do | apply wdr_step); focus (simp (disch := omega) only [go_sem, ↓reduceIte, simprocAttr, reduceCtorEq]; first | with_reducible exact rfl | (rw [if_pos (by first | omega | (constructor <;> omega) | (simp; done) | assumption)]; first | with_reducible exact rfl | (try simp (disch := omega) only [go_sem, ↓reduceIte, simprocAttr, reduceCtorEq]; with_reducible exact rfl))))
        have h4 : mayC of n = false := by unfold mayC; rw [mayN_none h3 256 (by omega)]
        refine end_drop hok (r := .bool (mayC of n)) ?_ ?_ ⟨rfl, rfl⟩
        · first | (simp (disch := omega) only [go_sem, ↓reduceIte, simprocAttr, reduceCtorEq, evResults, evResL, evRes, hackleref02_May_r, h4]; done) | (simp (disch := omega) only [go_sem, ↓reduceIte, simprocAttr, reduceCtorEq, evResults, evResL, evRes, hackleref02_May_r, h4]; with_reducible exact rfl) | exact rfl
        · first | (simp [EV.ok, okL, okL_tab_int, okL_tab_bool, okL_app, h4]; done)
      · have h2 : ¬ m < of b := by have := of_decide_eq_false ht2; omega
        repeat' first
          | with_reducible first | refine wpc_seq ?_ | refine wpc_ops ?_ | refine wops_nil ?_ | refine then_normal ?_ | refine wpc_block ?_ | refine block_normal ?_ | refine wpc_skip ?_ | refine wpc_exit ?_ | refine then_exit ?_ | refine block_exit_same ?_ | refine wpc_ret ?_ | refine then_ret ?_ | refine block_ret ?_ | refine wpc_draw ?_ | refine wdr_nil ?_ | refine gate_t ?_ | refine gate_f ?_ | refine gate_tt ?_ | refine gate_ff ?_ | refine gate_tf ?_ | refine gate_ft ?_ | exact keep_same | exact keep_true
          | (with_reducible refine block_exit_other ?_ ?_; decide)
          | ((with_reducible refine keep_rfl ?_); exact rfl)
          | ((with_reducible first | apply wops_guard | apply wdr_guard | apply wpc_test); focus (simp (disch := omega) only [go_sem, ↓reduceIte, simprocAttr, reduceCtorEq, classesE]; with_reducible first | exact lit_t | exact lit_f))
          | ((with_reducible first | apply wops_gone | apply wdr_gone); focus (simp (disch := omega) only [go_sem, ↓reduceIte, simprocAttr, reduceCtorEq, classesE]; done))
          | ((with_reducible first | apply wops_step | apply wops_do | apply wdr_step); focus (simp (disch := omega) only [go_sem, ↓reduceIte, simprocAttr, reduceCtorEq, classesE]; first | with_reducible exact rfl | (rw [if_pos (by first | omega | (constructor <;> omega) | (simp; done) | assumption)]; first | with_reducible exact rfl | (try simp (disch := omega) only [go_sem, ↓reduceIte, simprocAttr, reduceCtorEq, classesE]; with_reducible exact rfl))))
        refine wpc_cond (t := (of b : Int) == (m : Int)) (by simp (disch := omega) only [go_sem, ↓reduceIte, simprocAttr, reduceCtorEq]) (fun ht3 => ?_) (fun ht3 => ?_)
        · have h3 : of b = m := by have : (of b : Int) = (m : Int) := by simpa using ht3
                                   omega
          repeat' first
            | with_reducible first | refine wpc_seq ?_ | refine wpc_ops ?_ | refine wops_nil ?_ | refine then_normal ?_ | refine wpc_block ?_ | refine block_normal ?_ | refine wpc_skip ?_ | refine wpc_exit ?_ | refine then_exit ?_ | refine block_exit_same ?_ | refine wpc_ret ?_ | refine then_ret ?_ | refine block_ret ?_ | refine wpc_draw ?_ | refine wdr_nil ?_ | refine gate_t ?_ | refine gate_f ?_ | refine gate_tt ?_ | refine gate_ff ?_ | refine gate_tf ?_ | refine gate_ft ?_ | exact keep_same | exact keep_true
            | (with_reducible refine block_exit_other ?_ ?_; decide)
            | ((with_reducible refine keep_rfl ?_); exact rfl)
            | ((with_reducible first | apply wops_guard | apply wdr_guard | apply wpc_test); focus (simp (disch := omega) only [go_sem, ↓reduceIte, simprocAttr, reduceCtorEq, classesE]; with_reducible first | exact lit_t | exact lit_f))
            | ((with_reducible first | apply wops_gone | apply wdr_gone); focus (simp (disch := omega) only [go_sem, ↓reduceIte, simprocAttr, reduceCtorEq, classesE]; done))
            | ((with_reducible first | apply wops_step | apply wops_do | apply wdr_step); focus (simp (disch := omega) only [go_sem, ↓reduceIte, simprocAttr, reduceCtorEq, classesE]; first | with_reducible exact rfl | (rw [if_pos (by first | omega | (constructor <;> omega) | (simp; done) | assumption)]; first | with_reducible exact rfl | (try simp (disch := omega) only [go_sem, ↓reduceIte, simprocAttr, reduceCtorEq, classesE]; with_reducible exact rfl))))
          refine hK (b + 1, m + 1) _ _ [] ⟨by simp only; omega, by simp [mayN, hm, h2, h3]⟩ (by simp only; omega) (by simp [classesE]) ?_
          (repeat' (first | exact trivial | refine And.intro (And.intro ?_ ?_) ?_)) <;> first | exact rfl | (simp (disch := omega) only [go_sem, ↓reduceIte, simprocAttr, reduceCtorEq, EV.ok, okL_tab_int, okL_tab_bool, okL_app, okL, decide_eq_true_eq, EV.int.injEq]; done) | (simp (disch := omega) only [go_sem, ↓reduceIte, simprocAttr, reduceCtorEq, EV.ok, okL_tab_int, okL_tab_bool, okL_app, okL, decide_eq_true_eq, EV.int.injEq] <;> first | exact rfl | omega)
        · have h3 : ¬ of b = m := by intro e; subst e; simp at ht3
          repeat' first
            | with_reducible first | refine wpc_seq ?_ | refine wpc_ops ?_ | refine wops_nil ?_ | refine then_normal ?_ | refine wpc_block ?_ | refine block_normal ?_ | refine wpc_skip ?_ | refine wpc_exit ?_ | refine then_exit ?_ | refine block_exit_same ?_ | refine wpc_ret ?_ | refine then_ret ?_ | refine block_ret ?_ | refine wpc_draw ?_ | refine wdr_nil ?_ | refine gate_t ?_ | refine gate_f ?_ | refine gate_tt ?_ | refine gate_ff ?_ | refine gate_tf ?_ | refine gate_ft ?_ | exact keep_same | exact keep_true
            | (with_reducible refine block_exit_other ?_ ?_; decide)
            | ((with_reducible refine keep_rfl ?_); exact rfl)
            | ((with_reducible first | apply wops_guard | apply wdr_guard | apply wpc_test); focus (simp (disch := omega) only [go_sem, ↓reduceIte, simprocAttr, reduceCtorEq, classesE]; with_reducible first | exact lit_t | exact lit_f))
            | ((with_reducible first | apply wops_gone | apply wdr_gone); focus (simp (disch := omega) only [go_sem, ↓reduceIte, simprocAttr, reduceCtorEq, classesE]; done))
            | ((with_reducible first | apply wops_step | apply wops_do | apply wdr_step); focus (simp (disch := omega) only [go_sem, ↓reduceIte, simprocAttr, reduceCtorEq, classesE]; first | with_reducible exact rfl | (rw [if_pos (by first | omega | (constructor <;> omega) | (simp; done) | assumption)]; first | with_reducible exact rfl | (try simp (disch := omega) only [go_sem, ↓reduceIte, simprocAttr, reduceCtorEq, classesE]; with_reducible exact rfl))))
          refine hK (b + 1, m) _ _ [] ⟨by simp only; omega, by simp [mayN, hm, h2, h3]⟩ (by simp only; omega) (by simp [classesE]) ?_
          (repeat' (first | exact trivial | refine And.intro (And.intro ?_ ?_) ?_)) <;> first | exact rfl | (simp (disch := omega) only [go_sem, ↓reduceIte, simprocAttr, reduceCtorEq, EV.ok, okL_tab_int, okL_tab_bool, okL_app, okL, decide_eq_true_eq, EV.int.injEq]; done) | (simp (disch := omega) only [go_sem, ↓reduceIte, simprocAttr, reduceCtorEq, EV.ok, okL_tab_int, okL_tab_bool, okL_app, okL, decide_eq_true_eq, EV.int.injEq] <;> first | exact rfl | omega)
    · have hi4 : b = 256 := by have := of_decide_eq_false ht; omega
      subst hi4
      repeat' first
        | with_reducible first | refine wpc_seq ?_ | refine wpc_ops ?_ | refine wops_nil ?_ | refine then_normal ?_ | refine wpc_block ?_ | refine block_normal ?_ | refine wpc_skip ?_ | refine wpc_exit ?_ | refine then_exit ?_ | refine block_exit_same ?_ | refine wpc_ret ?_ | refine then_ret ?_ | refine block_ret ?_ | refine wpc_draw ?_ | refine wdr_nil ?_ | refine gate_t ?_ | refine gate_f ?_ | refine gate_tt ?_ | refine gate_ff ?_ | refine gate_tf ?_ | refine gate_ft ?_ | exact keep_same | exact keep_true
        | (with_reducible refine block_exit_other ?_ ?_; decide)
        | ((with_reducible refine keep_rfl ?_); exact rfl)
        | ((with_reducible first | apply wops_guard | apply wdr_guard | apply wpc_test); focus (simp (disch := omega) only [go_sem, ↓reduceIte, simprocAttr, reduceCtorEq]; with_reducible first | exact lit_t | exact lit_f))
        | ((with_reducible first | apply wops_gone | apply wdr_gone); focus (simp (disch := omega) only [go_sem, ↓reduceIte, simprocAttr, reduceCtorEq]; done))
        | ((with_reducible first | apply wops_step | apply wops_do | apply wdr_step); focus (simp (disch := omega) only [go_sem, ↓reduceIte, simprocAttr, reduceCtorEq]; first | with_reducible exact rfl | (rw [if_pos (by first | omega | (constructor <;> omega) | (simp; done) | assumption)]; first | with_reducible exact rfl | (try simp (disch := omega) only [go_sem, ↓reduceIte, simprocAttr, reduceCtorEq]; with_reducible exact rfl))))
      refine hQ' _ _ _ ?_
      repeat' first
        | with_reducible first | refine wpc_seq ?_ | refine wpc_ops ?_ | refine wops_nil ?_ | refine then_normal ?_ | refine wpc_block ?_ | refine block_normal ?_ | refine wpc_skip ?_ | refine wpc_exit ?_ | refine then_exit ?_ | refine block_exit_same ?_ | refine wpc_ret ?_ | refine then_ret ?_ | refine block_ret ?_ | refine wpc_draw ?_ | refine wdr_nil ?_ | refine gate_t ?_ | refine gate_f ?_ | refine gate_tt ?_ | refine gate_ff ?_ | refine gate_tf ?_ | refine gate_ft ?_ | exact keep_same | exact keep_true
        | (with_reducible refine block_exit_other ?_ ?_; decide)
        | ((with_reducible refine keep_rfl ?_); exact rfl)
        | ((with_reducible first | apply wops_guard | apply wdr_guard | apply wpc_test); focus (simp (disch := omega) only [go_sem, ↓reduceIte, simprocAttr, reduceCtorEq, classesE]; with_reducible first | exact lit_t | exact lit_f))
        | ((with_reducible first | apply wops_gone | apply wdr_gone); focus (simp (disch := omega) only [go_sem, ↓reduceIte, simprocAttr, reduceCtorEq, classesE]; done))
        | ((with_reducible first | apply wops_step | apply wops_do | apply wdr_step); focus (simp (disch := omega) only [go_sem, ↓reduceIte, simprocAttr, reduceCtorEq, classesE]; first | with_reducible exact rfl | (rw [if_pos (by first | omega | (constructor <;> omega) | (simp; done) | assumption)]; first | with_reducible exact rfl | (try simp (disch := omega) only [go_sem, ↓reduceIte, simprocAttr, reduceCtorEq, classesE]; with_reducible exact rfl))))
      have h4 : mayC of n = (n == (m : Int)) := by unfold mayC; rw [hm]
      refine end_drop hok (r := .bool (mayC of n)) ?_ ?_ ⟨rfl, rfl⟩
      · first | (simp (disch := omega) only [go_sem, ↓reduceIte, simprocAttr, reduceCtorEq, evResults, evResL, evRes, hackleref02_May_r, h4]; done) | (simp (disch := omega) only [go_sem, ↓reduceIte, simprocAttr, reduceCtorEq, evResults, evResL, evRes, hackleref02_May_r, h4]; with_reducible exact rfl) | exact rfl
      · first | (simp [EV.ok, okL, okL_tab_int, okL_tab_bool, okL_app, h4]; done)

end
end Abs
