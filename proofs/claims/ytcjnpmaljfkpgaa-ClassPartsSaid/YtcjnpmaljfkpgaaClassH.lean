/- May and Whole of layer 2; the document's alike and Part. -/
import Derived.Test.YtcjnpmaljfkpgaaClassD
namespace Abs
open Go
set_option linter.all false
set_option maxRecDepth 20000

section
variable {P : Program} {γ : Nat → EV}

def nameN (of : Nat → Nat) (b : Nat) : Nat × Nat := (of b, 0)
def classMay (of : Nat → Nat) (n : Int) : Bool := allEq 256 (fun i => ((of i : Nat) : Int)) (fun i => ((clsN (nameN of) i : Nat) : Int)) && (n == ((seenN (nameN of) 256).length : Int))

set_option maxHeartbeats 4000000 in
theorem may_c1_ok {f : FuncId} (hb : Body P f class_May_c1 class_May_c1_r 10) {H : Heap} {q : Nat} {of : Nat → Nat} {n : Int}
    (hq : H[q]? = some (some (.row 257 [classesE of n]))) {b : Nat} (hof : of b < 256) (hb8 : b < 256) :
    CallsA P γ f [.int .i64 b, .ptr q 257 0 0] H fun er H' => er = .ret (pairE (nameN of b)) ∧ H' = H := by
  refine hb.calls (by simp) fun hok => ?_
  unfold class_May_c1
  repeat' first
    | with_reducible first | refine wpc_seq ?_ | refine wpc_ops ?_ | refine wops_nil ?_ | refine then_normal ?_ | refine wpc_block ?_ | refine block_normal ?_ | refine wpc_skip ?_ | refine wpc_exit ?_ | refine then_exit ?_ | refine block_exit_same ?_ | refine wpc_ret ?_ | refine then_ret ?_ | refine block_ret ?_ | refine wpc_draw ?_ | refine wdr_nil ?_ | refine gate_t ?_ | refine gate_f ?_ | refine gate_tt ?_ | refine gate_ff ?_ | refine gate_tf ?_ | refine gate_ft ?_ | exact keep_same | exact keep_true
    | (with_reducible refine block_exit_other ?_ ?_; decide)
    | ((with_reducible first | apply wops_guard | apply wdr_guard | apply wpc_test); focus (simp (disch := omega) only [go_sem, ↓reduceIte, Nat.reduceEqDiff, Nat.reduceAdd, Nat.reduceSub, Nat.reduceMul, Nat.reduceLeDiff, Nat.reduceLT, Nat.reduceBEq, Nat.reduceBNe, Int.reduceToNat, Int.reduceLE, Int.reduceLT, Int.reduceNeg, Int.reduceEq, Int.reduceBEq, Int.reduceBNe, Int.reduceAdd, Int.reduceSub, Int.reduceMul, reduceCtorEq, app_old hq, classesE]; with_reducible first | exact lit_t | exact lit_f))
    | ((with_reducible first | apply wops_step | apply wops_do | apply wdr_step); focus (simp (disch := omega) only [go_sem, ↓reduceIte, Nat.reduceEqDiff, Nat.reduceAdd, Nat.reduceSub, Nat.reduceMul, Nat.reduceLeDiff, Nat.reduceLT, Nat.reduceBEq, Nat.reduceBNe, Int.reduceToNat, Int.reduceLE, Int.reduceLT, Int.reduceNeg, Int.reduceEq, Int.reduceBEq, Int.reduceBNe, Int.reduceAdd, Int.reduceSub, Int.reduceMul, reduceCtorEq, app_old hq, classesE]; first | with_reducible exact rfl | (rw [if_pos (by first | omega | (constructor <;> omega) | (simp; done) | assumption)]; first | with_reducible exact rfl | (try simp (disch := omega) only [go_sem, ↓reduceIte, Nat.reduceEqDiff, Nat.reduceAdd, Nat.reduceSub, Nat.reduceMul, Nat.reduceLeDiff, Nat.reduceLT, Nat.reduceBEq, Nat.reduceBNe, Int.reduceToNat, Int.reduceLE, Int.reduceLT, Int.reduceNeg, Int.reduceEq, Int.reduceBEq, Int.reduceBNe, Int.reduceAdd, Int.reduceSub, Int.reduceMul, reduceCtorEq, app_old hq, classesE]; with_reducible exact rfl))))
  refine end_drop hok (r := pairE (nameN of b)) ?_ ?_ ⟨rfl, rfl⟩
  · first | (simp (disch := omega) only [go_sem, ↓reduceIte, Nat.reduceEqDiff, Nat.reduceAdd, Nat.reduceSub, Nat.reduceMul, Nat.reduceLeDiff, Nat.reduceLT, Nat.reduceBEq, Nat.reduceBNe, Int.reduceToNat, Int.reduceLE, Int.reduceLT, Int.reduceNeg, Int.reduceEq, Int.reduceBEq, Int.reduceBNe, Int.reduceAdd, Int.reduceSub, Int.reduceMul, reduceCtorEq, evResults, evResL, evRes, class_May_c1_r, pairE, nameN, Int.natCast_zero]; done) | (simp (disch := omega) only [go_sem, ↓reduceIte, Nat.reduceEqDiff, Nat.reduceAdd, Nat.reduceSub, Nat.reduceMul, Nat.reduceLeDiff, Nat.reduceLT, Nat.reduceBEq, Nat.reduceBNe, Int.reduceToNat, Int.reduceLE, Int.reduceLT, Int.reduceNeg, Int.reduceEq, Int.reduceBEq, Int.reduceBNe, Int.reduceAdd, Int.reduceSub, Int.reduceMul, reduceCtorEq, evResults, evResL, evRes, class_May_c1_r, pairE, nameN, Int.natCast_zero]; with_reducible exact rfl) | exact rfl
  · first | (simp [EV.ok, okL, okL_tab_int, okL_tab_bool, okL_app, pairE, nameN, Int.natCast_zero]; done)

set_option maxHeartbeats 4000000 in
theorem may_ok {f fc fr : FuncId} (hb : Body P f (class_May fc fr) class_May_r 7) (hc : Body P fc class_May_c1 class_May_c1_r 10) (hr : Body P fr class_renamed class_renamed_r 40) (of : Nat → Nat) (n : Int) (hof : ∀ b, b < 256 → of b < 256) (H : Heap) :
    CallsA P γ f [classesE of n] H fun er H' => er = .ret (.bool (classMay of n)) ∧ H' = H := by
  refine hb.calls (by simp) fun hok => ?_
  unfold class_May
  repeat' first
    | with_reducible first | refine wpc_seq ?_ | refine wpc_ops ?_ | refine wops_nil ?_ | refine then_normal ?_ | refine wpc_block ?_ | refine block_normal ?_ | refine wpc_skip ?_ | refine wpc_exit ?_ | refine then_exit ?_ | refine block_exit_same ?_ | refine wpc_ret ?_ | refine then_ret ?_ | refine block_ret ?_ | refine wpc_draw ?_ | refine wdr_nil ?_ | refine gate_t ?_ | refine gate_f ?_ | refine gate_tt ?_ | refine gate_ff ?_ | refine gate_tf ?_ | refine gate_ft ?_ | exact keep_same | exact keep_true
    | (with_reducible refine block_exit_other ?_ ?_; decide)
    | ((with_reducible first | apply wops_guard | apply wdr_guard | apply wpc_test); focus (simp (disch := omega) only [go_sem, ↓reduceIte, Nat.reduceEqDiff, Nat.reduceAdd, Nat.reduceSub, Nat.reduceMul, Nat.reduceLeDiff, Nat.reduceLT, Nat.reduceBEq, Nat.reduceBNe, Int.reduceToNat, Int.reduceLE, Int.reduceLT, Int.reduceNeg, Int.reduceEq, Int.reduceBEq, Int.reduceBNe, Int.reduceAdd, Int.reduceSub, Int.reduceMul, reduceCtorEq, classesE]; with_reducible first | exact lit_t | exact lit_f))
    | ((with_reducible first | apply wops_step | apply wops_do | apply wdr_step); focus (simp (disch := omega) only [go_sem, ↓reduceIte, Nat.reduceEqDiff, Nat.reduceAdd, Nat.reduceSub, Nat.reduceMul, Nat.reduceLeDiff, Nat.reduceLT, Nat.reduceBEq, Nat.reduceBNe, Int.reduceToNat, Int.reduceLE, Int.reduceLT, Int.reduceNeg, Int.reduceEq, Int.reduceBEq, Int.reduceBNe, Int.reduceAdd, Int.reduceSub, Int.reduceMul, reduceCtorEq, classesE]; first | with_reducible exact rfl | (rw [if_pos (by first | omega | (constructor <;> omega) | (simp; done) | assumption)]; first | with_reducible exact rfl | (try simp (disch := omega) only [go_sem, ↓reduceIte, Nat.reduceEqDiff, Nat.reduceAdd, Nat.reduceSub, Nat.reduceMul, Nat.reduceLeDiff, Nat.reduceLT, Nat.reduceBEq, Nat.reduceBNe, Int.reduceToNat, Int.reduceLE, Int.reduceLT, Int.reduceNeg, Int.reduceEq, Int.reduceBEq, Int.reduceBNe, Int.reduceAdd, Int.reduceSub, Int.reduceMul, reduceCtorEq, classesE]; with_reducible exact rfl))))
  with_reducible apply wdr_call
  · first | exact rfl | (simp (disch := omega) only [go_sem, ↓reduceIte, Nat.reduceEqDiff, Nat.reduceAdd, Nat.reduceSub, Nat.reduceMul, Nat.reduceLeDiff, Nat.reduceLT, Nat.reduceBEq, Nat.reduceBNe, Int.reduceToNat, Int.reduceLE, Int.reduceLT, Int.reduceNeg, Int.reduceEq, Int.reduceBEq, Int.reduceBNe, Int.reduceAdd, Int.reduceSub, Int.reduceMul, reduceCtorEq, classesE]; exact rfl)
  · (simp (disch := omega) only [go_sem, ↓reduceIte, Nat.reduceEqDiff, Nat.reduceAdd, Nat.reduceSub, Nat.reduceMul, Nat.reduceLeDiff, Nat.reduceLT, Nat.reduceBEq, Nat.reduceBNe, Int.reduceToNat, Int.reduceLE, Int.reduceLT, Int.reduceNeg, Int.reduceEq, Int.reduceBEq, Int.reduceBNe, Int.reduceAdd, Int.reduceSub, Int.reduceMul, reduceCtorEq, classesE]; exact rfl)
  · exact renamed_ok (nameN of) hr (by simp [okL, EV.ok]) fun b hb8 G => may_c1_ok (of := of) (n := n) hc (app_old (by rw [app_get0]; rfl)) (hof b hb8) hb8
  · exact fun _ => rfl
  repeat' first
    | with_reducible first | refine wpc_seq ?_ | refine wpc_ops ?_ | refine wops_nil ?_ | refine then_normal ?_ | refine wpc_block ?_ | refine block_normal ?_ | refine wpc_skip ?_ | refine wpc_exit ?_ | refine then_exit ?_ | refine block_exit_same ?_ | refine wpc_ret ?_ | refine then_ret ?_ | refine block_ret ?_ | refine wpc_draw ?_ | refine wdr_nil ?_ | refine gate_t ?_ | refine gate_f ?_ | refine gate_tt ?_ | refine gate_ff ?_ | refine gate_tf ?_ | refine gate_ft ?_ | exact keep_same | exact keep_true
    | (with_reducible refine block_exit_other ?_ ?_; decide)
    | ((with_reducible first | apply wops_guard | apply wdr_guard | apply wpc_test); focus (simp (disch := omega) only [go_sem, ↓reduceIte, Nat.reduceEqDiff, Nat.reduceAdd, Nat.reduceSub, Nat.reduceMul, Nat.reduceLeDiff, Nat.reduceLT, Nat.reduceBEq, Nat.reduceBNe, Int.reduceToNat, Int.reduceLE, Int.reduceLT, Int.reduceNeg, Int.reduceEq, Int.reduceBEq, Int.reduceBNe, Int.reduceAdd, Int.reduceSub, Int.reduceMul, reduceCtorEq, classesE]; with_reducible first | exact lit_t | exact lit_f))
    | ((with_reducible first | apply wops_step | apply wops_do | apply wdr_step); focus (simp (disch := omega) only [go_sem, ↓reduceIte, Nat.reduceEqDiff, Nat.reduceAdd, Nat.reduceSub, Nat.reduceMul, Nat.reduceLeDiff, Nat.reduceLT, Nat.reduceBEq, Nat.reduceBNe, Int.reduceToNat, Int.reduceLE, Int.reduceLT, Int.reduceNeg, Int.reduceEq, Int.reduceBEq, Int.reduceBNe, Int.reduceAdd, Int.reduceSub, Int.reduceMul, reduceCtorEq, classesE]; first | with_reducible exact rfl | (rw [if_pos (by first | omega | (constructor <;> omega) | (simp; done) | assumption)]; first | with_reducible exact rfl | (try simp (disch := omega) only [go_sem, ↓reduceIte, Nat.reduceEqDiff, Nat.reduceAdd, Nat.reduceSub, Nat.reduceMul, Nat.reduceLeDiff, Nat.reduceLT, Nat.reduceBEq, Nat.reduceBNe, Int.reduceToNat, Int.reduceLE, Int.reduceLT, Int.reduceNeg, Int.reduceEq, Int.reduceBEq, Int.reduceBNe, Int.reduceAdd, Int.reduceSub, Int.reduceMul, reduceCtorEq, classesE]; with_reducible exact rfl))))
  refine end_drop hok (r := .bool (classMay of n)) ?_ ?_ ⟨rfl, rfl⟩
  · first | (simp (disch := omega) only [go_sem, ↓reduceIte, Nat.reduceEqDiff, Nat.reduceAdd, Nat.reduceSub, Nat.reduceMul, Nat.reduceLeDiff, Nat.reduceLT, Nat.reduceBEq, Nat.reduceBNe, Int.reduceToNat, Int.reduceLE, Int.reduceLT, Int.reduceNeg, Int.reduceEq, Int.reduceBEq, Int.reduceBNe, Int.reduceAdd, Int.reduceSub, Int.reduceMul, reduceCtorEq, evResults, evResL, evRes, class_May_r, classMay]; done) | (simp (disch := omega) only [go_sem, ↓reduceIte, Nat.reduceEqDiff, Nat.reduceAdd, Nat.reduceSub, Nat.reduceMul, Nat.reduceLeDiff, Nat.reduceLT, Nat.reduceBEq, Nat.reduceBNe, Int.reduceToNat, Int.reduceLE, Int.reduceLT, Int.reduceNeg, Int.reduceEq, Int.reduceBEq, Int.reduceBNe, Int.reduceAdd, Int.reduceSub, Int.reduceMul, reduceCtorEq, evResults, evResL, evRes, class_May_r, classMay]; with_reducible exact rfl) | exact rfl
  · first | (simp [EV.ok, okL, okL_tab_int, okL_tab_bool, okL_app, classMay]; done)

end
end Abs
