/- all, Next. -/
import Derived.Test.YtcjnpmaljfkpgaaDoorOctsB
namespace Abs
open Go
set_option linter.all false
set_option maxRecDepth 20000

def encF (b : Fin 256) : EV := .int .u8 ((b.val : Nat) : Int)
def bytesF (x : Nat → Nat) : List (Fin 256) := (List.finRange 256).filter fun b => inSet x b.val
def cntF (x : Nat → Nat) (m : Nat) : Nat := (((List.finRange 256).take m).filter fun b => inSet x b.val).length

theorem fin_get {m : Nat} (h : m < 256) : (List.finRange 256)[m]? = some ⟨m, h⟩ := by
  rw [List.getElem?_eq_getElem (by simpa using h)]
  simp

attribute [local irreducible] List.finRange

theorem cnt_zero (x : Nat → Nat) : cntF x 0 = 0 := by simp [cntF]
theorem cnt_all (x : Nat → Nat) : cntF x 256 = (bytesF x).length := by
  unfold cntF bytesF
  rw [List.take_of_length_le (by simp)]
theorem cnt_succ (x : Nat → Nat) {m : Nat} (h : m < 256) : cntF x (m + 1) = cntF x m + (if inSet x m then 1 else 0) := by
  unfold cntF
  rw [List.take_add_one, fin_get h, List.filter_append, List.length_append]
  congr 1
  simp only [Option.toList_some, List.filter_cons, List.filter_nil]
  split <;> rfl
theorem cnt_skip (x : Nat → Nat) {m : Nat} : ∀ (d : Nat), m + d ≤ 256 → (∀ j, m ≤ j → j < m + d → inSet x j = false) → cntF x (m + d) = cntF x m
  | 0, _, _ => rfl
  | d + 1, h, hn => by
    rw [← Nat.add_assoc, cnt_succ x (by omega), cnt_skip x d (by omega) (fun j h1 h2 => hn j h1 (by omega)), hn (m + d) (by omega) (by omega)]
    rfl
theorem bytes_get (x : Nat → Nat) {m : Nat} (h : m < 256) (hs : inSet x m = true) : (bytesF x)[cntF x m]? = some ⟨m, h⟩ := by
  have e : List.finRange 256 = (List.finRange 256).take m ++ ⟨m, h⟩ :: (List.finRange 256).drop (m + 1) := by
    have hl : m < (List.finRange 256).length := by simpa using h
    have h2 := fin_get h
    rw [List.getElem?_eq_getElem hl] at h2
    have h3 : (List.finRange 256)[m] = ⟨m, h⟩ := by simpa using h2
    rw [← h3, ← List.drop_eq_getElem_cons hl, List.take_append_drop]
  unfold bytesF
  rw [e, List.filter_append, List.filter_cons, if_pos (by simpa using hs)]
  unfold cntF
  rw [List.getElem?_append_right (Nat.le_refl _), Nat.sub_self]
  rfl

def hiN (w q : Nat) : Nat := (w >>> q) <<< q
theorem hi_bit (w q j : Nat) : (hiN w q).testBit j = (decide (q ≤ j) && w.testBit j) := by
  unfold hiN
  rw [Nat.testBit_shiftLeft, Nat.testBit_shiftRight]
  by_cases h : q ≤ j
  · rw [show q + (j - q) = j by omega]
  · have : ¬ j ≥ q := h
    simp [h]
theorem hi_lt {w : Nat} (q : Nat) (hw : w < 18446744073709551616) : hiN w q < 18446744073709551616 := by
  refine Nat.lt_pow_two_of_testBit (n := 64) _ fun j hj => ?_
  rw [hi_bit]
  rw [Nat.testBit_lt_two_pow (Nat.lt_of_lt_of_le hw (Nat.pow_le_pow_right (n := 2) (by decide) hj))]
  simp
theorem hi_zero (w : Nat) : hiN w 0 = w := by simp [hiN]

theorem hi_next {w q : Nat} (h : hiN w q ≠ 0) (hw : w < 18446744073709551616) : hiN w q &&& (hiN w q - 1) = hiN w (tzN (hiN w q) + 1) := by
  obtain ⟨h1, h2, h3⟩ := tz_spec h (hi_lt q hw)
  have h4 : q ≤ tzN (hiN w q) := by rw [hi_bit] at h2; simp at h2; exact h2.1
  generalize tzN (hiN w q) = t at *
  apply Nat.eq_of_testBit_eq
  intro j
  rw [Nat.testBit_and, pred_bit h2 h3]
  by_cases hj : j < t
  · rw [h3 j hj, hi_bit]
    have : ¬ t + 1 ≤ j := by omega
    simp [this]
  · rw [if_neg hj]
    by_cases hjt : j = t
    · subst hjt
      rw [if_pos rfl, hi_bit w (j + 1)]
      have : ¬ j + 1 ≤ j := by omega
      simp [this]
    · rw [if_neg hjt, hi_bit, hi_bit]
      have e1 : q ≤ j := by omega
      have e2 : t + 1 ≤ j := by omega
      simp [e1, e2]

theorem inSet_at (x : Nat → Nat) {i t : Nat} (h : t < 64) : inSet x (64 * i + t) = (x i).testBit t := by
  unfold inSet
  rw [show (64 * i + t) / 64 = i by omega, show (64 * i + t) % 64 = t by omega]

theorem flat_int {k : IntKind} {n : Int} : flat (.int k n) = true := rfl
theorem flat_bool {b : Bool} : flat (.bool b) = true := rfl
theorem flat_yield {l : Nat} : flat (.func (.yield l) [] []) = true := rfl
theorem flat_set {w : Nat → Nat} : flat (.agg (tab 4 fun i => .int .u64 ((w i : Nat) : Int))) = true := rfl

attribute [local irreducible] bytesF cntF tzN hiN

section
variable {P : Program} {γ : Nat → EV}

set_option maxHeartbeats 8000000 in
theorem all_iter {g ft : FuncId} (hb : Body P g (octs_all_c1 ft) octs_all_c1_r 26) (ht : TzOk P γ ft) (x : Nat → Nat) (hx : Words x) : IterA P γ g [.iptr (tab 4 fun i => .int .u64 ((x i : Nat) : Int)) 0] encF (bytesF x) := by
  refine Body.iter hb (by simp) (fun b => rfl) fun l => ?_
  unfold octs_all_c1
  repeat' first
    | with_reducible first | refine wpY_seq ?_ | refine wpY_ops ?_ | refine wopsY_nil ?_ | refine thenY_normal ?_ | refine wpY_block ?_ | refine blockY_normal ?_ | refine wpY_skip ?_ | refine wpY_exit ?_ | refine thenY_exit ?_ | refine blockY_exit_same ?_ | refine wpY_ret ?_ | refine thenY_ret ?_ | refine blockY_ret ?_ | refine gate_t ?_ | refine gate_f ?_
    | (with_reducible refine blockY_exit_other ?_ ?_; decide)
    | ((with_reducible apply wpY_test); focus (simp (disch := omega) only [go_sem, ↓reduceIte, Nat.reduceEqDiff, Nat.reduceAdd, Nat.reduceSub, Nat.reduceMul, Nat.reduceLeDiff, Nat.reduceLT, Nat.reduceBEq, Nat.reduceBNe, Int.reduceToNat, Int.reduceLE, Int.reduceLT, Int.reduceNeg, Int.reduceEq, Int.reduceBEq, Int.reduceBNe, Int.reduceAdd, Int.reduceSub, Int.reduceMul, reduceCtorEq]; with_reducible first | exact lit_t | exact lit_f))
    | ((with_reducible apply wopsY_step); focus (simp (disch := omega) only [go_sem, ↓reduceIte, Nat.reduceEqDiff, Nat.reduceAdd, Nat.reduceSub, Nat.reduceMul, Nat.reduceLeDiff, Nat.reduceLT, Nat.reduceBEq, Nat.reduceBNe, Int.reduceToNat, Int.reduceLE, Int.reduceLT, Int.reduceNeg, Int.reduceEq, Int.reduceBEq, Int.reduceBNe, Int.reduceAdd, Int.reduceSub, Int.reduceMul, reduceCtorEq]; first | with_reducible exact rfl | (rw [if_pos (by first | omega | (constructor <;> omega) | (simp; done) | assumption)]; first | with_reducible exact rfl | (try simp (disch := omega) only [go_sem, ↓reduceIte, Nat.reduceEqDiff, Nat.reduceAdd, Nat.reduceSub, Nat.reduceMul, Nat.reduceLeDiff, Nat.reduceLT, Nat.reduceBEq, Nat.reduceBNe, Int.reduceToNat, Int.reduceLE, Int.reduceLT, Int.reduceNeg, Int.reduceEq, Int.reduceBEq, Int.reduceBNe, Int.reduceAdd, Int.reduceSub, Int.reduceMul, reduceCtorEq]; with_reducible exact rfl))))
    | with_reducible exact flat_int | with_reducible exact flat_bool | exact flat_set | with_reducible exact flat_yield
  refine wpY_while (ι := Nat) (fun i => i ≤ 4) (fun i => 4 - i) (fun i => [(0, .func (.yield l) [] []), (5, .agg (tab 4 fun i => .int .u64 ((x i : Nat) : Int))), (6, .int .i64 (i : Int))]) (fun i => cntF x (64 * i)) 0 (by omega) ?_ ?_ ?_
  · (repeat' (first | exact trivial | refine And.intro (And.intro ?_ ?_) ?_)) <;> first | exact rfl | (simp (disch := omega) only [go_sem, ↓reduceIte, Nat.reduceEqDiff, Nat.reduceAdd, Nat.reduceSub, Nat.reduceMul, Nat.reduceLeDiff, Nat.reduceLT, Nat.reduceBEq, Nat.reduceBNe, Int.reduceToNat, Int.reduceLE, Int.reduceLT, Int.reduceNeg, Int.reduceEq, Int.reduceBEq, Int.reduceBNe, Int.reduceAdd, Int.reduceSub, Int.reduceMul, reduceCtorEq, EV.ok, okL_tab_int, okL_tab_bool, okL_app, okL, decide_eq_true_eq, EV.int.injEq]; done) | (simp (disch := omega) only [go_sem, ↓reduceIte, Nat.reduceEqDiff, Nat.reduceAdd, Nat.reduceSub, Nat.reduceMul, Nat.reduceLeDiff, Nat.reduceLT, Nat.reduceBEq, Nat.reduceBNe, Int.reduceToNat, Int.reduceLE, Int.reduceLT, Int.reduceNeg, Int.reduceEq, Int.reduceBEq, Int.reduceBNe, Int.reduceAdd, Int.reduceSub, Int.reduceMul, reduceCtorEq, EV.ok, okL_tab_int, okL_tab_bool, okL_app, okL, decide_eq_true_eq, EV.int.injEq] <;> first | exact rfl | omega)
  · exact (cnt_zero x).symm
  · intro i hi K Q' hK hQ'
    repeat' first
      | with_reducible first | refine wpY_seq ?_ | refine wpY_ops ?_ | refine wopsY_nil ?_ | refine thenY_normal ?_ | refine wpY_block ?_ | refine blockY_normal ?_ | refine wpY_skip ?_ | refine wpY_exit ?_ | refine thenY_exit ?_ | refine blockY_exit_same ?_ | refine wpY_ret ?_ | refine thenY_ret ?_ | refine blockY_ret ?_ | refine gate_t ?_ | refine gate_f ?_
      | (with_reducible refine blockY_exit_other ?_ ?_; decide)
      | ((with_reducible apply wpY_test); focus (simp (disch := omega) only [go_sem, ↓reduceIte, Nat.reduceEqDiff, Nat.reduceAdd, Nat.reduceSub, Nat.reduceMul, Nat.reduceLeDiff, Nat.reduceLT, Nat.reduceBEq, Nat.reduceBNe, Int.reduceToNat, Int.reduceLE, Int.reduceLT, Int.reduceNeg, Int.reduceEq, Int.reduceBEq, Int.reduceBNe, Int.reduceAdd, Int.reduceSub, Int.reduceMul, reduceCtorEq]; with_reducible first | exact lit_t | exact lit_f))
      | ((with_reducible apply wopsY_step); focus (simp (disch := omega) only [go_sem, ↓reduceIte, Nat.reduceEqDiff, Nat.reduceAdd, Nat.reduceSub, Nat.reduceMul, Nat.reduceLeDiff, Nat.reduceLT, Nat.reduceBEq, Nat.reduceBNe, Int.reduceToNat, Int.reduceLE, Int.reduceLT, Int.reduceNeg, Int.reduceEq, Int.reduceBEq, Int.reduceBNe, Int.reduceAdd, Int.reduceSub, Int.reduceMul, reduceCtorEq]; first | with_reducible exact rfl | (rw [if_pos (by first | omega | (constructor <;> omega) | (simp; done) | assumption)]; first | with_reducible exact rfl | (try simp (disch := omega) only [go_sem, ↓reduceIte, Nat.reduceEqDiff, Nat.reduceAdd, Nat.reduceSub, Nat.reduceMul, Nat.reduceLeDiff, Nat.reduceLT, Nat.reduceBEq, Nat.reduceBNe, Int.reduceToNat, Int.reduceLE, Int.reduceLT, Int.reduceNeg, Int.reduceEq, Int.reduceBEq, Int.reduceBNe, Int.reduceAdd, Int.reduceSub, Int.reduceMul, reduceCtorEq]; with_reducible exact rfl))))
      | with_reducible exact flat_int | with_reducible exact flat_bool | exact flat_set | with_reducible exact flat_yield
    refine wpY_cond (t := decide ((i : Int) < 4)) (by simp (disch := omega) only [go_sem, ↓reduceIte, Nat.reduceEqDiff, Nat.reduceAdd, Nat.reduceSub, Nat.reduceMul, Nat.reduceLeDiff, Nat.reduceLT, Nat.reduceBEq, Nat.reduceBNe, Int.reduceToNat, Int.reduceLE, Int.reduceLT, Int.reduceNeg, Int.reduceEq, Int.reduceBEq, Int.reduceBNe, Int.reduceAdd, Int.reduceSub, Int.reduceMul, reduceCtorEq]) (fun hc => ?_) (fun hc => ?_)
    · have hi4 : i < 4 := by have := of_decide_eq_true hc; omega
      have hxi := hx i
      repeat' first
        | with_reducible first | refine wpY_seq ?_ | refine wpY_ops ?_ | refine wopsY_nil ?_ | refine thenY_normal ?_ | refine wpY_block ?_ | refine blockY_normal ?_ | refine wpY_skip ?_ | refine wpY_exit ?_ | refine thenY_exit ?_ | refine blockY_exit_same ?_ | refine wpY_ret ?_ | refine thenY_ret ?_ | refine blockY_ret ?_ | refine gate_t ?_ | refine gate_f ?_
        | (with_reducible refine blockY_exit_other ?_ ?_; decide)
        | ((with_reducible apply wpY_test); focus (simp (disch := omega) only [go_sem, ↓reduceIte, Nat.reduceEqDiff, Nat.reduceAdd, Nat.reduceSub, Nat.reduceMul, Nat.reduceLeDiff, Nat.reduceLT, Nat.reduceBEq, Nat.reduceBNe, Int.reduceToNat, Int.reduceLE, Int.reduceLT, Int.reduceNeg, Int.reduceEq, Int.reduceBEq, Int.reduceBNe, Int.reduceAdd, Int.reduceSub, Int.reduceMul, reduceCtorEq]; with_reducible first | exact lit_t | exact lit_f))
        | ((with_reducible apply wopsY_step); focus (simp (disch := omega) only [go_sem, ↓reduceIte, Nat.reduceEqDiff, Nat.reduceAdd, Nat.reduceSub, Nat.reduceMul, Nat.reduceLeDiff, Nat.reduceLT, Nat.reduceBEq, Nat.reduceBNe, Int.reduceToNat, Int.reduceLE, Int.reduceLT, Int.reduceNeg, Int.reduceEq, Int.reduceBEq, Int.reduceBNe, Int.reduceAdd, Int.reduceSub, Int.reduceMul, reduceCtorEq]; first | with_reducible exact rfl | (rw [if_pos (by first | omega | (constructor <;> omega) | (simp; done) | assumption)]; first | with_reducible exact rfl | (try simp (disch := omega) only [go_sem, ↓reduceIte, Nat.reduceEqDiff, Nat.reduceAdd, Nat.reduceSub, Nat.reduceMul, Nat.reduceLeDiff, Nat.reduceLT, Nat.reduceBEq, Nat.reduceBNe, Int.reduceToNat, Int.reduceLE, Int.reduceLT, Int.reduceNeg, Int.reduceEq, Int.reduceBEq, Int.reduceBNe, Int.reduceAdd, Int.reduceSub, Int.reduceMul, reduceCtorEq]; with_reducible exact rfl))))
        | with_reducible exact flat_int | with_reducible exact flat_bool | exact flat_set | with_reducible exact flat_yield
      refine wpY_while (ι := Nat) (fun q => q ≤ 64) (fun q => 64 - q) (fun q => [(0, .func (.yield l) [] []), (3, .int .i64 (i : Int)), (4, .int .u64 ((hiN (x i) q : Nat) : Int)), (5, .agg (tab 4 fun i => .int .u64 ((x i : Nat) : Int))), (6, .int .i64 (i : Int))])
        (fun q => cntF x (64 * i + q)) 0 (by omega) ?_ ?_ ?_
      · (repeat' (first | exact trivial | refine And.intro (And.intro ?_ ?_) ?_)) <;> first | exact rfl | (simp (disch := omega) only [go_sem, ↓reduceIte, Nat.reduceEqDiff, Nat.reduceAdd, Nat.reduceSub, Nat.reduceMul, Nat.reduceLeDiff, Nat.reduceLT, Nat.reduceBEq, Nat.reduceBNe, Int.reduceToNat, Int.reduceLE, Int.reduceLT, Int.reduceNeg, Int.reduceEq, Int.reduceBEq, Int.reduceBNe, Int.reduceAdd, Int.reduceSub, Int.reduceMul, reduceCtorEq, hi_zero, EV.ok, okL_tab_int, okL_tab_bool, okL_app, okL, decide_eq_true_eq, EV.int.injEq]; done) | (simp (disch := omega) only [go_sem, ↓reduceIte, Nat.reduceEqDiff, Nat.reduceAdd, Nat.reduceSub, Nat.reduceMul, Nat.reduceLeDiff, Nat.reduceLT, Nat.reduceBEq, Nat.reduceBNe, Int.reduceToNat, Int.reduceLE, Int.reduceLT, Int.reduceNeg, Int.reduceEq, Int.reduceBEq, Int.reduceBNe, Int.reduceAdd, Int.reduceSub, Int.reduceMul, reduceCtorEq, hi_zero, EV.ok, okL_tab_int, okL_tab_bool, okL_app, okL, decide_eq_true_eq, EV.int.injEq] <;> first | exact rfl | omega)
      · rfl
      · intro q hq K2 Q2 hK2 hQ2
        repeat' first
          | with_reducible first | refine wpY_seq ?_ | refine wpY_ops ?_ | refine wopsY_nil ?_ | refine thenY_normal ?_ | refine wpY_block ?_ | refine blockY_normal ?_ | refine wpY_skip ?_ | refine wpY_exit ?_ | refine thenY_exit ?_ | refine blockY_exit_same ?_ | refine wpY_ret ?_ | refine thenY_ret ?_ | refine blockY_ret ?_ | refine gate_t ?_ | refine gate_f ?_
          | (with_reducible refine blockY_exit_other ?_ ?_; decide)
          | ((with_reducible apply wpY_test); focus (simp (disch := omega) only [go_sem, ↓reduceIte, Nat.reduceEqDiff, Nat.reduceAdd, Nat.reduceSub, Nat.reduceMul, Nat.reduceLeDiff, Nat.reduceLT, Nat.reduceBEq, Nat.reduceBNe, Int.reduceToNat, Int.reduceLE, Int.reduceLT, Int.reduceNeg, Int.reduceEq, Int.reduceBEq, Int.reduceBNe, Int.reduceAdd, Int.reduceSub, Int.reduceMul, reduceCtorEq]; with_reducible first | exact lit_t | exact lit_f))
          | ((with_reducible apply wopsY_step); focus (simp (disch := omega) only [go_sem, ↓reduceIte, Nat.reduceEqDiff, Nat.reduceAdd, Nat.reduceSub, Nat.reduceMul, Nat.reduceLeDiff, Nat.reduceLT, Nat.reduceBEq, Nat.reduceBNe, Int.reduceToNat, Int.reduceLE, Int.reduceLT, Int.reduceNeg, Int.reduceEq, Int.reduceBEq, Int.reduceBNe, Int.reduceAdd, Int.reduceSub, Int.reduceMul, reduceCtorEq]; first | with_reducible exact rfl | (rw [if_pos (by first | omega | (constructor <;> omega) | (simp; done) | assumption)]; first | with_reducible exact rfl | (try simp (disch := omega) only [go_sem, ↓reduceIte, Nat.reduceEqDiff, Nat.reduceAdd, Nat.reduceSub, Nat.reduceMul, Nat.reduceLeDiff, Nat.reduceLT, Nat.reduceBEq, Nat.reduceBNe, Int.reduceToNat, Int.reduceLE, Int.reduceLT, Int.reduceNeg, Int.reduceEq, Int.reduceBEq, Int.reduceBNe, Int.reduceAdd, Int.reduceSub, Int.reduceMul, reduceCtorEq]; with_reducible exact rfl))))
          | with_reducible exact flat_int | with_reducible exact flat_bool | exact flat_set | with_reducible exact flat_yield
        by_cases hz : hiN (x i) q = 0
        · repeat' first
            | with_reducible first | refine wpY_seq ?_ | refine wpY_ops ?_ | refine wopsY_nil ?_ | refine thenY_normal ?_ | refine wpY_block ?_ | refine blockY_normal ?_ | refine wpY_skip ?_ | refine wpY_exit ?_ | refine thenY_exit ?_ | refine blockY_exit_same ?_ | refine wpY_ret ?_ | refine thenY_ret ?_ | refine blockY_ret ?_ | refine gate_t ?_ | refine gate_f ?_
            | (with_reducible refine blockY_exit_other ?_ ?_; decide)
            | ((with_reducible apply wpY_test); focus (simp (disch := omega) only [go_sem, ↓reduceIte, Nat.reduceEqDiff, Nat.reduceAdd, Nat.reduceSub, Nat.reduceMul, Nat.reduceLeDiff, Nat.reduceLT, Nat.reduceBEq, Nat.reduceBNe, Int.reduceToNat, Int.reduceLE, Int.reduceLT, Int.reduceNeg, Int.reduceEq, Int.reduceBEq, Int.reduceBNe, Int.reduceAdd, Int.reduceSub, Int.reduceMul, reduceCtorEq, hz, bne_self_eq_false]; with_reducible first | exact lit_t | exact lit_f))
            | ((with_reducible apply wopsY_step); focus (simp (disch := omega) only [go_sem, ↓reduceIte, Nat.reduceEqDiff, Nat.reduceAdd, Nat.reduceSub, Nat.reduceMul, Nat.reduceLeDiff, Nat.reduceLT, Nat.reduceBEq, Nat.reduceBNe, Int.reduceToNat, Int.reduceLE, Int.reduceLT, Int.reduceNeg, Int.reduceEq, Int.reduceBEq, Int.reduceBNe, Int.reduceAdd, Int.reduceSub, Int.reduceMul, reduceCtorEq, hz, bne_self_eq_false]; first | with_reducible exact rfl | (rw [if_pos (by first | omega | (constructor <;> omega) | (simp; done) | assumption)]; first | with_reducible exact rfl | (try simp (disch := omega) only [go_sem, ↓reduceIte, Nat.reduceEqDiff, Nat.reduceAdd, Nat.reduceSub, Nat.reduceMul, Nat.reduceLeDiff, Nat.reduceLT, Nat.reduceBEq, Nat.reduceBNe, Int.reduceToNat, Int.reduceLE, Int.reduceLT, Int.reduceNeg, Int.reduceEq, Int.reduceBEq, Int.reduceBNe, Int.reduceAdd, Int.reduceSub, Int.reduceMul, reduceCtorEq, hz, bne_self_eq_false]; with_reducible exact rfl))))
            | with_reducible exact flat_int | with_reducible exact flat_bool | exact flat_set | with_reducible exact flat_yield
          refine hQ2 _ _ _ _ ?_
          repeat' first
            | with_reducible first | refine wpY_seq ?_ | refine wpY_ops ?_ | refine wopsY_nil ?_ | refine thenY_normal ?_ | refine wpY_block ?_ | refine blockY_normal ?_ | refine wpY_skip ?_ | refine wpY_exit ?_ | refine thenY_exit ?_ | refine blockY_exit_same ?_ | refine wpY_ret ?_ | refine thenY_ret ?_ | refine blockY_ret ?_ | refine gate_t ?_ | refine gate_f ?_
            | (with_reducible refine blockY_exit_other ?_ ?_; decide)
            | ((with_reducible apply wpY_test); focus (simp (disch := omega) only [go_sem, ↓reduceIte, Nat.reduceEqDiff, Nat.reduceAdd, Nat.reduceSub, Nat.reduceMul, Nat.reduceLeDiff, Nat.reduceLT, Nat.reduceBEq, Nat.reduceBNe, Int.reduceToNat, Int.reduceLE, Int.reduceLT, Int.reduceNeg, Int.reduceEq, Int.reduceBEq, Int.reduceBNe, Int.reduceAdd, Int.reduceSub, Int.reduceMul, reduceCtorEq]; with_reducible first | exact lit_t | exact lit_f))
            | ((with_reducible apply wopsY_step); focus (simp (disch := omega) only [go_sem, ↓reduceIte, Nat.reduceEqDiff, Nat.reduceAdd, Nat.reduceSub, Nat.reduceMul, Nat.reduceLeDiff, Nat.reduceLT, Nat.reduceBEq, Nat.reduceBNe, Int.reduceToNat, Int.reduceLE, Int.reduceLT, Int.reduceNeg, Int.reduceEq, Int.reduceBEq, Int.reduceBNe, Int.reduceAdd, Int.reduceSub, Int.reduceMul, reduceCtorEq]; first | with_reducible exact rfl | (rw [if_pos (by first | omega | (constructor <;> omega) | (simp; done) | assumption)]; first | with_reducible exact rfl | (try simp (disch := omega) only [go_sem, ↓reduceIte, Nat.reduceEqDiff, Nat.reduceAdd, Nat.reduceSub, Nat.reduceMul, Nat.reduceLeDiff, Nat.reduceLT, Nat.reduceBEq, Nat.reduceBNe, Int.reduceToNat, Int.reduceLE, Int.reduceLT, Int.reduceNeg, Int.reduceEq, Int.reduceBEq, Int.reduceBNe, Int.reduceAdd, Int.reduceSub, Int.reduceMul, reduceCtorEq]; with_reducible exact rfl))))
            | with_reducible exact flat_int | with_reducible exact flat_bool | exact flat_set | with_reducible exact flat_yield
          refine hK (i + 1) _ _ (by omega) (by omega) ?_ ?_
          · have h1 := cnt_skip x (m := 64 * i + q) (64 - q) (by omega) fun j h1 h2 => by
              have := hi_bit (x i) q (j - 64 * i)
              rw [hz, Nat.zero_testBit] at this
              have h3 : q ≤ j - 64 * i := by omega
              rw [decide_eq_true h3, Bool.true_and] at this
              have h4 := inSet_at x (i := i) (t := j - 64 * i) (by omega)
              rw [show 64 * i + (j - 64 * i) = j by omega] at h4
              rw [h4]; exact this.symm
            rw [← h1]
            congr 1
            omega
          · (repeat' (first | exact trivial | refine And.intro (And.intro ?_ ?_) ?_)) <;> first | exact rfl | (simp (disch := omega) only [go_sem, ↓reduceIte, Nat.reduceEqDiff, Nat.reduceAdd, Nat.reduceSub, Nat.reduceMul, Nat.reduceLeDiff, Nat.reduceLT, Nat.reduceBEq, Nat.reduceBNe, Int.reduceToNat, Int.reduceLE, Int.reduceLT, Int.reduceNeg, Int.reduceEq, Int.reduceBEq, Int.reduceBNe, Int.reduceAdd, Int.reduceSub, Int.reduceMul, reduceCtorEq, EV.ok, okL_tab_int, okL_tab_bool, okL_app, okL, decide_eq_true_eq, EV.int.injEq]; done) | (simp (disch := omega) only [go_sem, ↓reduceIte, Nat.reduceEqDiff, Nat.reduceAdd, Nat.reduceSub, Nat.reduceMul, Nat.reduceLeDiff, Nat.reduceLT, Nat.reduceBEq, Nat.reduceBNe, Int.reduceToNat, Int.reduceLE, Int.reduceLT, Int.reduceNeg, Int.reduceEq, Int.reduceBEq, Int.reduceBNe, Int.reduceAdd, Int.reduceSub, Int.reduceMul, reduceCtorEq, EV.ok, okL_tab_int, okL_tab_bool, okL_app, okL, decide_eq_true_eq, EV.int.injEq] <;> first | exact rfl | omega)
        · have hlt := hi_lt q hxi
          have hne : (((hiN (x i) q : Nat) : Int) != 0) = true := by
            rw [bne_iff_ne]
            omega
          obtain ⟨t1, t2, t3⟩ := tz_spec hz hlt
          have hnx := hi_next hz hxi
          have hbit := hi_bit (x i) q (tzN (hiN (x i) q))
          rw [t2] at hbit
          have hqt : q ≤ tzN (hiN (x i) q) ∧ (x i).testBit (tzN (hiN (x i) q)) = true := by
            have := hbit.symm
            simpa using this
          have hsub : (((hiN (x i) q : Nat) : Int) - 1) = ((hiN (x i) q - 1 : Nat) : Int) := by omega
          have hand : bitsOp .and .u64 ((hiN (x i) q : Nat) : Int) ((hiN (x i) q - 1 : Nat) : Int) = ((hiN (x i) (tzN (hiN (x i) q) + 1) : Nat) : Int) := by
            rw [bits_and hlt (by omega), hnx]
          repeat' first
            | with_reducible first | refine wpY_seq ?_ | refine wpY_ops ?_ | refine wopsY_nil ?_ | refine thenY_normal ?_ | refine wpY_block ?_ | refine blockY_normal ?_ | refine wpY_skip ?_ | refine wpY_exit ?_ | refine thenY_exit ?_ | refine blockY_exit_same ?_ | refine wpY_ret ?_ | refine thenY_ret ?_ | refine blockY_ret ?_ | refine gate_t ?_ | refine gate_f ?_
            | (with_reducible refine blockY_exit_other ?_ ?_; decide)
            | ((with_reducible apply wpY_test); focus (simp (disch := omega) only [go_sem, ↓reduceIte, Nat.reduceEqDiff, Nat.reduceAdd, Nat.reduceSub, Nat.reduceMul, Nat.reduceLeDiff, Nat.reduceLT, Nat.reduceBEq, Nat.reduceBNe, Int.reduceToNat, Int.reduceLE, Int.reduceLT, Int.reduceNeg, Int.reduceEq, Int.reduceBEq, Int.reduceBNe, Int.reduceAdd, Int.reduceSub, Int.reduceMul, reduceCtorEq, hne]; with_reducible first | exact lit_t | exact lit_f))
            | ((with_reducible apply wopsY_step); focus (simp (disch := omega) only [go_sem, ↓reduceIte, Nat.reduceEqDiff, Nat.reduceAdd, Nat.reduceSub, Nat.reduceMul, Nat.reduceLeDiff, Nat.reduceLT, Nat.reduceBEq, Nat.reduceBNe, Int.reduceToNat, Int.reduceLE, Int.reduceLT, Int.reduceNeg, Int.reduceEq, Int.reduceBEq, Int.reduceBNe, Int.reduceAdd, Int.reduceSub, Int.reduceMul, reduceCtorEq, hne]; first | with_reducible exact rfl | (rw [if_pos (by first | omega | (constructor <;> omega) | (simp; done) | assumption)]; first | with_reducible exact rfl | (try simp (disch := omega) only [go_sem, ↓reduceIte, Nat.reduceEqDiff, Nat.reduceAdd, Nat.reduceSub, Nat.reduceMul, Nat.reduceLeDiff, Nat.reduceLT, Nat.reduceBEq, Nat.reduceBNe, Int.reduceToNat, Int.reduceLE, Int.reduceLT, Int.reduceNeg, Int.reduceEq, Int.reduceBEq, Int.reduceBNe, Int.reduceAdd, Int.reduceSub, Int.reduceMul, reduceCtorEq, hne]; with_reducible exact rfl))))
            | with_reducible exact flat_int | with_reducible exact flat_bool | exact flat_set | with_reducible exact flat_yield
          with_reducible apply wopsY_call
          · exact rfl
          · (simp (disch := omega) only [go_sem, ↓reduceIte, Nat.reduceEqDiff, Nat.reduceAdd, Nat.reduceSub, Nat.reduceMul, Nat.reduceLeDiff, Nat.reduceLT, Nat.reduceBEq, Nat.reduceBNe, Int.reduceToNat, Int.reduceLE, Int.reduceLT, Int.reduceNeg, Int.reduceEq, Int.reduceBEq, Int.reduceBNe, Int.reduceAdd, Int.reduceSub, Int.reduceMul, reduceCtorEq]; exact rfl)
          · exact ht (hiN (x i) q) [] hz hlt
          · exact rfl
          have hb8 : 64 * i + tzN (hiN (x i) q) < 256 := by omega
          have hin : inSet x (64 * i + tzN (hiN (x i) q)) = true := by rw [inSet_at x t1]; exact hqt.2
          have hget := bytes_get x hb8 hin
          have hcnt : cntF x (64 * i + tzN (hiN (x i) q)) = cntF x (64 * i + q) := by
            have := cnt_skip x (m := 64 * i + q) (tzN (hiN (x i) q) - q) (by omega) fun j h1 h2 => by
              have h3 := t3 (j - 64 * i) (by omega)
              rw [hi_bit] at h3
              have h5 : q ≤ j - 64 * i := by omega
              rw [decide_eq_true h5, Bool.true_and] at h3
              have h4 := inSet_at x (i := i) (t := j - 64 * i) (by omega)
              rw [show 64 * i + (j - 64 * i) = j by omega] at h4
              rw [h4]; exact h3
            rw [← this]
            congr 1
            omega
          have hcs := cnt_succ x hb8
          rw [hin, hcnt] at hcs
          rw [hcnt] at hget
          generalize tzN (hiN (x i) q) = t at *
          repeat' first
            | with_reducible first | refine wpY_seq ?_ | refine wpY_ops ?_ | refine wopsY_nil ?_ | refine thenY_normal ?_ | refine wpY_block ?_ | refine blockY_normal ?_ | refine wpY_skip ?_ | refine wpY_exit ?_ | refine thenY_exit ?_ | refine blockY_exit_same ?_ | refine wpY_ret ?_ | refine thenY_ret ?_ | refine blockY_ret ?_ | refine gate_t ?_ | refine gate_f ?_
            | (with_reducible refine blockY_exit_other ?_ ?_; decide)
            | ((with_reducible apply wpY_test); focus (simp (disch := omega) only [go_sem, ↓reduceIte, Nat.reduceEqDiff, Nat.reduceAdd, Nat.reduceSub, Nat.reduceMul, Nat.reduceLeDiff, Nat.reduceLT, Nat.reduceBEq, Nat.reduceBNe, Int.reduceToNat, Int.reduceLE, Int.reduceLT, Int.reduceNeg, Int.reduceEq, Int.reduceBEq, Int.reduceBNe, Int.reduceAdd, Int.reduceSub, Int.reduceMul, reduceCtorEq]; with_reducible first | exact lit_t | exact lit_f))
            | ((with_reducible apply wopsY_step); focus (simp (disch := omega) only [go_sem, ↓reduceIte, Nat.reduceEqDiff, Nat.reduceAdd, Nat.reduceSub, Nat.reduceMul, Nat.reduceLeDiff, Nat.reduceLT, Nat.reduceBEq, Nat.reduceBNe, Int.reduceToNat, Int.reduceLE, Int.reduceLT, Int.reduceNeg, Int.reduceEq, Int.reduceBEq, Int.reduceBNe, Int.reduceAdd, Int.reduceSub, Int.reduceMul, reduceCtorEq]; first | with_reducible exact rfl | (rw [if_pos (by first | omega | (constructor <;> omega) | (simp; done) | assumption)]; first | with_reducible exact rfl | (try simp (disch := omega) only [go_sem, ↓reduceIte, Nat.reduceEqDiff, Nat.reduceAdd, Nat.reduceSub, Nat.reduceMul, Nat.reduceLeDiff, Nat.reduceLT, Nat.reduceBEq, Nat.reduceBNe, Int.reduceToNat, Int.reduceLE, Int.reduceLT, Int.reduceNeg, Int.reduceEq, Int.reduceBEq, Int.reduceBNe, Int.reduceAdd, Int.reduceSub, Int.reduceMul, reduceCtorEq]; with_reducible exact rfl))))
            | with_reducible exact flat_int | with_reducible exact flat_bool | exact flat_set | with_reducible exact flat_yield
          with_reducible apply wopsY_yield (x := ⟨64 * i + t, hb8⟩)
          · exact rfl
          · exact hget
          · show _ = [EV.int .u8 ((64 * i + t : Nat) : Int)]
            simp (disch := omega) only [go_sem, ↓reduceIte, Nat.reduceEqDiff, Nat.reduceAdd, Nat.reduceSub, Nat.reduceMul, Nat.reduceLeDiff, Nat.reduceLT, Nat.reduceBEq, Nat.reduceBNe, Int.reduceToNat, Int.reduceLE, Int.reduceLT, Int.reduceNeg, Int.reduceEq, Int.reduceBEq, Int.reduceBNe, Int.reduceAdd, Int.reduceSub, Int.reduceMul, reduceCtorEq]
            refine congrArg (fun z => [EV.int IntKind.u8 z]) ?_
            omega
          · repeat' first
              | with_reducible first | refine wpY_seq ?_ | refine wpY_ops ?_ | refine wopsY_nil ?_ | refine thenY_normal ?_ | refine wpY_block ?_ | refine blockY_normal ?_ | refine wpY_skip ?_ | refine wpY_exit ?_ | refine thenY_exit ?_ | refine blockY_exit_same ?_ | refine wpY_ret ?_ | refine thenY_ret ?_ | refine blockY_ret ?_ | refine gate_t ?_ | refine gate_f ?_
              | (with_reducible refine blockY_exit_other ?_ ?_; decide)
              | ((with_reducible apply wpY_test); focus (simp (disch := omega) only [go_sem, ↓reduceIte, Nat.reduceEqDiff, Nat.reduceAdd, Nat.reduceSub, Nat.reduceMul, Nat.reduceLeDiff, Nat.reduceLT, Nat.reduceBEq, Nat.reduceBNe, Int.reduceToNat, Int.reduceLE, Int.reduceLT, Int.reduceNeg, Int.reduceEq, Int.reduceBEq, Int.reduceBNe, Int.reduceAdd, Int.reduceSub, Int.reduceMul, reduceCtorEq, hsub, hand]; with_reducible first | exact lit_t | exact lit_f))
              | ((with_reducible apply wopsY_step); focus (simp (disch := omega) only [go_sem, ↓reduceIte, Nat.reduceEqDiff, Nat.reduceAdd, Nat.reduceSub, Nat.reduceMul, Nat.reduceLeDiff, Nat.reduceLT, Nat.reduceBEq, Nat.reduceBNe, Int.reduceToNat, Int.reduceLE, Int.reduceLT, Int.reduceNeg, Int.reduceEq, Int.reduceBEq, Int.reduceBNe, Int.reduceAdd, Int.reduceSub, Int.reduceMul, reduceCtorEq, hsub, hand]; first | with_reducible exact rfl | (rw [if_pos (by first | omega | (constructor <;> omega) | (simp; done) | assumption)]; first | with_reducible exact rfl | (try simp (disch := omega) only [go_sem, ↓reduceIte, Nat.reduceEqDiff, Nat.reduceAdd, Nat.reduceSub, Nat.reduceMul, Nat.reduceLeDiff, Nat.reduceLT, Nat.reduceBEq, Nat.reduceBNe, Int.reduceToNat, Int.reduceLE, Int.reduceLT, Int.reduceNeg, Int.reduceEq, Int.reduceBEq, Int.reduceBNe, Int.reduceAdd, Int.reduceSub, Int.reduceMul, reduceCtorEq, hsub, hand]; with_reducible exact rfl))))
              | with_reducible exact flat_int | with_reducible exact flat_bool | exact flat_set | with_reducible exact flat_yield
            refine hK2 (t + 1) _ _ (by omega) (by omega) ?_ ?_
            · rw [← Nat.add_assoc, hcs]; rfl
            · (repeat' (first | exact trivial | refine And.intro (And.intro ?_ ?_) ?_)) <;> first | exact rfl | (simp (disch := omega) only [go_sem, ↓reduceIte, Nat.reduceEqDiff, Nat.reduceAdd, Nat.reduceSub, Nat.reduceMul, Nat.reduceLeDiff, Nat.reduceLT, Nat.reduceBEq, Nat.reduceBNe, Int.reduceToNat, Int.reduceLE, Int.reduceLT, Int.reduceNeg, Int.reduceEq, Int.reduceBEq, Int.reduceBNe, Int.reduceAdd, Int.reduceSub, Int.reduceMul, reduceCtorEq, EV.ok, okL_tab_int, okL_tab_bool, okL_app, okL, decide_eq_true_eq, EV.int.injEq]; done) | (simp (disch := omega) only [go_sem, ↓reduceIte, Nat.reduceEqDiff, Nat.reduceAdd, Nat.reduceSub, Nat.reduceMul, Nat.reduceLeDiff, Nat.reduceLT, Nat.reduceBEq, Nat.reduceBNe, Int.reduceToNat, Int.reduceLE, Int.reduceLT, Int.reduceNeg, Int.reduceEq, Int.reduceBEq, Int.reduceBNe, Int.reduceAdd, Int.reduceSub, Int.reduceMul, reduceCtorEq, EV.ok, okL_tab_int, okL_tab_bool, okL_app, okL, decide_eq_true_eq, EV.int.injEq] <;> first | exact rfl | omega)
          · repeat' first
              | with_reducible first | refine wpY_seq ?_ | refine wpY_ops ?_ | refine wopsY_nil ?_ | refine thenY_normal ?_ | refine wpY_block ?_ | refine blockY_normal ?_ | refine wpY_skip ?_ | refine wpY_exit ?_ | refine thenY_exit ?_ | refine blockY_exit_same ?_ | refine wpY_ret ?_ | refine thenY_ret ?_ | refine blockY_ret ?_ | refine gate_t ?_ | refine gate_f ?_
              | (with_reducible refine blockY_exit_other ?_ ?_; decide)
              | ((with_reducible apply wpY_test); focus (simp (disch := omega) only [go_sem, ↓reduceIte, Nat.reduceEqDiff, Nat.reduceAdd, Nat.reduceSub, Nat.reduceMul, Nat.reduceLeDiff, Nat.reduceLT, Nat.reduceBEq, Nat.reduceBNe, Int.reduceToNat, Int.reduceLE, Int.reduceLT, Int.reduceNeg, Int.reduceEq, Int.reduceBEq, Int.reduceBNe, Int.reduceAdd, Int.reduceSub, Int.reduceMul, reduceCtorEq]; with_reducible first | exact lit_t | exact lit_f))
              | ((with_reducible apply wopsY_step); focus (simp (disch := omega) only [go_sem, ↓reduceIte, Nat.reduceEqDiff, Nat.reduceAdd, Nat.reduceSub, Nat.reduceMul, Nat.reduceLeDiff, Nat.reduceLT, Nat.reduceBEq, Nat.reduceBNe, Int.reduceToNat, Int.reduceLE, Int.reduceLT, Int.reduceNeg, Int.reduceEq, Int.reduceBEq, Int.reduceBNe, Int.reduceAdd, Int.reduceSub, Int.reduceMul, reduceCtorEq]; first | with_reducible exact rfl | (rw [if_pos (by first | omega | (constructor <;> omega) | (simp; done) | assumption)]; first | with_reducible exact rfl | (try simp (disch := omega) only [go_sem, ↓reduceIte, Nat.reduceEqDiff, Nat.reduceAdd, Nat.reduceSub, Nat.reduceMul, Nat.reduceLeDiff, Nat.reduceLT, Nat.reduceBEq, Nat.reduceBNe, Int.reduceToNat, Int.reduceLE, Int.reduceLT, Int.reduceNeg, Int.reduceEq, Int.reduceBEq, Int.reduceBNe, Int.reduceAdd, Int.reduceSub, Int.reduceMul, reduceCtorEq]; with_reducible exact rfl))))
              | with_reducible exact flat_int | with_reducible exact flat_bool | exact flat_set | with_reducible exact flat_yield
            refine hQ2 _ _ _ _ ?_
            repeat' first
              | with_reducible first | refine wpY_seq ?_ | refine wpY_ops ?_ | refine wopsY_nil ?_ | refine thenY_normal ?_ | refine wpY_block ?_ | refine blockY_normal ?_ | refine wpY_skip ?_ | refine wpY_exit ?_ | refine thenY_exit ?_ | refine blockY_exit_same ?_ | refine wpY_ret ?_ | refine thenY_ret ?_ | refine blockY_ret ?_ | refine gate_t ?_ | refine gate_f ?_
              | (with_reducible refine blockY_exit_other ?_ ?_; decide)
              | ((with_reducible apply wpY_test); focus (simp (disch := omega) only [go_sem, ↓reduceIte, Nat.reduceEqDiff, Nat.reduceAdd, Nat.reduceSub, Nat.reduceMul, Nat.reduceLeDiff, Nat.reduceLT, Nat.reduceBEq, Nat.reduceBNe, Int.reduceToNat, Int.reduceLE, Int.reduceLT, Int.reduceNeg, Int.reduceEq, Int.reduceBEq, Int.reduceBNe, Int.reduceAdd, Int.reduceSub, Int.reduceMul, reduceCtorEq]; with_reducible first | exact lit_t | exact lit_f))
              | ((with_reducible apply wopsY_step); focus (simp (disch := omega) only [go_sem, ↓reduceIte, Nat.reduceEqDiff, Nat.reduceAdd, Nat.reduceSub, Nat.reduceMul, Nat.reduceLeDiff, Nat.reduceLT, Nat.reduceBEq, Nat.reduceBNe, Int.reduceToNat, Int.reduceLE, Int.reduceLT, Int.reduceNeg, Int.reduceEq, Int.reduceBEq, Int.reduceBNe, Int.reduceAdd, Int.reduceSub, Int.reduceMul, reduceCtorEq]; first | with_reducible exact rfl | (rw [if_pos (by first | omega | (constructor <;> omega) | (simp; done) | assumption)]; first | with_reducible exact rfl | (try simp (disch := omega) only [go_sem, ↓reduceIte, Nat.reduceEqDiff, Nat.reduceAdd, Nat.reduceSub, Nat.reduceMul, Nat.reduceLeDiff, Nat.reduceLT, Nat.reduceBEq, Nat.reduceBNe, Int.reduceToNat, Int.reduceLE, Int.reduceLT, Int.reduceNeg, Int.reduceEq, Int.reduceBEq, Int.reduceBNe, Int.reduceAdd, Int.reduceSub, Int.reduceMul, reduceCtorEq]; with_reducible exact rfl))))
              | with_reducible exact flat_int | with_reducible exact flat_bool | exact flat_set | with_reducible exact flat_yield
            refine hQ' _ _ _ _ ?_
            repeat' first
              | with_reducible first | refine wpY_seq ?_ | refine wpY_ops ?_ | refine wopsY_nil ?_ | refine thenY_normal ?_ | refine wpY_block ?_ | refine blockY_normal ?_ | refine wpY_skip ?_ | refine wpY_exit ?_ | refine thenY_exit ?_ | refine blockY_exit_same ?_ | refine wpY_ret ?_ | refine thenY_ret ?_ | refine blockY_ret ?_ | refine gate_t ?_ | refine gate_f ?_
              | (with_reducible refine blockY_exit_other ?_ ?_; decide)
              | ((with_reducible apply wpY_test); focus (simp (disch := omega) only [go_sem, ↓reduceIte, Nat.reduceEqDiff, Nat.reduceAdd, Nat.reduceSub, Nat.reduceMul, Nat.reduceLeDiff, Nat.reduceLT, Nat.reduceBEq, Nat.reduceBNe, Int.reduceToNat, Int.reduceLE, Int.reduceLT, Int.reduceNeg, Int.reduceEq, Int.reduceBEq, Int.reduceBNe, Int.reduceAdd, Int.reduceSub, Int.reduceMul, reduceCtorEq]; with_reducible first | exact lit_t | exact lit_f))
              | ((with_reducible apply wopsY_step); focus (simp (disch := omega) only [go_sem, ↓reduceIte, Nat.reduceEqDiff, Nat.reduceAdd, Nat.reduceSub, Nat.reduceMul, Nat.reduceLeDiff, Nat.reduceLT, Nat.reduceBEq, Nat.reduceBNe, Int.reduceToNat, Int.reduceLE, Int.reduceLT, Int.reduceNeg, Int.reduceEq, Int.reduceBEq, Int.reduceBNe, Int.reduceAdd, Int.reduceSub, Int.reduceMul, reduceCtorEq]; first | with_reducible exact rfl | (rw [if_pos (by first | omega | (constructor <;> omega) | (simp; done) | assumption)]; first | with_reducible exact rfl | (try simp (disch := omega) only [go_sem, ↓reduceIte, Nat.reduceEqDiff, Nat.reduceAdd, Nat.reduceSub, Nat.reduceMul, Nat.reduceLeDiff, Nat.reduceLT, Nat.reduceBEq, Nat.reduceBNe, Int.reduceToNat, Int.reduceLE, Int.reduceLT, Int.reduceNeg, Int.reduceEq, Int.reduceBEq, Int.reduceBNe, Int.reduceAdd, Int.reduceSub, Int.reduceMul, reduceCtorEq]; with_reducible exact rfl))))
              | with_reducible exact flat_int | with_reducible exact flat_bool | exact flat_set | with_reducible exact flat_yield
            exact ⟨.inr rfl, fun h => Bool.noConfusion h⟩
    · have hi4 : i = 4 := by have := of_decide_eq_false hc; omega
      subst hi4
      repeat' first
        | with_reducible first | refine wpY_seq ?_ | refine wpY_ops ?_ | refine wopsY_nil ?_ | refine thenY_normal ?_ | refine wpY_block ?_ | refine blockY_normal ?_ | refine wpY_skip ?_ | refine wpY_exit ?_ | refine thenY_exit ?_ | refine blockY_exit_same ?_ | refine wpY_ret ?_ | refine thenY_ret ?_ | refine blockY_ret ?_ | refine gate_t ?_ | refine gate_f ?_
        | (with_reducible refine blockY_exit_other ?_ ?_; decide)
        | ((with_reducible apply wpY_test); focus (simp (disch := omega) only [go_sem, ↓reduceIte, Nat.reduceEqDiff, Nat.reduceAdd, Nat.reduceSub, Nat.reduceMul, Nat.reduceLeDiff, Nat.reduceLT, Nat.reduceBEq, Nat.reduceBNe, Int.reduceToNat, Int.reduceLE, Int.reduceLT, Int.reduceNeg, Int.reduceEq, Int.reduceBEq, Int.reduceBNe, Int.reduceAdd, Int.reduceSub, Int.reduceMul, reduceCtorEq]; with_reducible first | exact lit_t | exact lit_f))
        | ((with_reducible apply wopsY_step); focus (simp (disch := omega) only [go_sem, ↓reduceIte, Nat.reduceEqDiff, Nat.reduceAdd, Nat.reduceSub, Nat.reduceMul, Nat.reduceLeDiff, Nat.reduceLT, Nat.reduceBEq, Nat.reduceBNe, Int.reduceToNat, Int.reduceLE, Int.reduceLT, Int.reduceNeg, Int.reduceEq, Int.reduceBEq, Int.reduceBNe, Int.reduceAdd, Int.reduceSub, Int.reduceMul, reduceCtorEq]; first | with_reducible exact rfl | (rw [if_pos (by first | omega | (constructor <;> omega) | (simp; done) | assumption)]; first | with_reducible exact rfl | (try simp (disch := omega) only [go_sem, ↓reduceIte, Nat.reduceEqDiff, Nat.reduceAdd, Nat.reduceSub, Nat.reduceMul, Nat.reduceLeDiff, Nat.reduceLT, Nat.reduceBEq, Nat.reduceBNe, Int.reduceToNat, Int.reduceLE, Int.reduceLT, Int.reduceNeg, Int.reduceEq, Int.reduceBEq, Int.reduceBNe, Int.reduceAdd, Int.reduceSub, Int.reduceMul, reduceCtorEq]; with_reducible exact rfl))))
        | with_reducible exact flat_int | with_reducible exact flat_bool | exact flat_set | with_reducible exact flat_yield
      refine hQ' _ _ _ _ ?_
      repeat' first
        | with_reducible first | refine wpY_seq ?_ | refine wpY_ops ?_ | refine wopsY_nil ?_ | refine thenY_normal ?_ | refine wpY_block ?_ | refine blockY_normal ?_ | refine wpY_skip ?_ | refine wpY_exit ?_ | refine thenY_exit ?_ | refine blockY_exit_same ?_ | refine wpY_ret ?_ | refine thenY_ret ?_ | refine blockY_ret ?_ | refine gate_t ?_ | refine gate_f ?_
        | (with_reducible refine blockY_exit_other ?_ ?_; decide)
        | ((with_reducible apply wpY_test); focus (simp (disch := omega) only [go_sem, ↓reduceIte, Nat.reduceEqDiff, Nat.reduceAdd, Nat.reduceSub, Nat.reduceMul, Nat.reduceLeDiff, Nat.reduceLT, Nat.reduceBEq, Nat.reduceBNe, Int.reduceToNat, Int.reduceLE, Int.reduceLT, Int.reduceNeg, Int.reduceEq, Int.reduceBEq, Int.reduceBNe, Int.reduceAdd, Int.reduceSub, Int.reduceMul, reduceCtorEq]; with_reducible first | exact lit_t | exact lit_f))
        | ((with_reducible apply wopsY_step); focus (simp (disch := omega) only [go_sem, ↓reduceIte, Nat.reduceEqDiff, Nat.reduceAdd, Nat.reduceSub, Nat.reduceMul, Nat.reduceLeDiff, Nat.reduceLT, Nat.reduceBEq, Nat.reduceBNe, Int.reduceToNat, Int.reduceLE, Int.reduceLT, Int.reduceNeg, Int.reduceEq, Int.reduceBEq, Int.reduceBNe, Int.reduceAdd, Int.reduceSub, Int.reduceMul, reduceCtorEq]; first | with_reducible exact rfl | (rw [if_pos (by first | omega | (constructor <;> omega) | (simp; done) | assumption)]; first | with_reducible exact rfl | (try simp (disch := omega) only [go_sem, ↓reduceIte, Nat.reduceEqDiff, Nat.reduceAdd, Nat.reduceSub, Nat.reduceMul, Nat.reduceLeDiff, Nat.reduceLT, Nat.reduceBEq, Nat.reduceBNe, Int.reduceToNat, Int.reduceLE, Int.reduceLT, Int.reduceNeg, Int.reduceEq, Int.reduceBEq, Int.reduceBNe, Int.reduceAdd, Int.reduceSub, Int.reduceMul, reduceCtorEq]; with_reducible exact rfl))))
        | with_reducible exact flat_int | with_reducible exact flat_bool | exact flat_set | with_reducible exact flat_yield
      exact ⟨.inl rfl, fun _ => cnt_all x⟩

end
end Abs
