/- The document's example of layer 2. -/
import Derived.Test.YtcjnpmaljfkpgaaDoorClassE
namespace Abs
open Go
set_option linter.all false
set_option maxRecDepth 20000

def seenF (name : Nat → Nat × Nat) (n : Nat) : List (Nat × Nat) := (List.range n).foldl (fun l b => if l.contains (name b) then l else l ++ [name b]) []

theorem seenN_F (name : Nat → Nat × Nat) : ∀ n, seenN name n = seenF name n
  | 0 => rfl
  | n + 1 => by
    have ih := seenN_F name n
    simp only [seenN, seenF, List.range_succ, List.foldl_append, List.foldl_cons, List.foldl_nil]
    rw [ih]
    unfold seenF
    simp only [List.contains_iff_mem]

theorem seenN_congr {f g : Nat → Nat × Nat} : ∀ n, (∀ b, b < n → f b = g b) → seenN f n = seenN g n
  | 0, _ => rfl
  | n + 1, h => by
    simp only [seenN]
    rw [seenN_congr n fun b hb => h b (by omega), h n (by omega)]

theorem seenN_prefix (name : Nat → Nat × Nat) (n : Nat) : ∀ m, n ≤ m → ∃ l, seenN name m = seenN name n ++ l
  | m, h => by
    induction m with
    | zero => obtain rfl : n = 0 := by omega
              exact ⟨[], by simp⟩
    | succ m ih =>
      by_cases e : n = m + 1
      · subst e; exact ⟨[], by simp⟩
      · obtain ⟨l, hl⟩ := ih (by omega)
        simp only [seenN]
        split
        · exact ⟨l, hl⟩
        · exact ⟨l ++ [name m], by rw [hl, List.append_assoc]⟩

theorem seenN_mem (name : Nat → Nat × Nat) {b n : Nat} (h : b < n) : name b ∈ seenN name n := by
  have h2 : name b ∈ seenN name (b + 1) := by
    simp only [seenN]
    split
    · assumption
    · simp
  obtain ⟨l, hl⟩ := seenN_prefix name (b + 1) n (by omega)
  rw [hl]
  exact List.mem_append_left _ h2

theorem clsN_eq (name : Nat → Nat × Nat) {b n : Nat} (h : b < n) : clsN name b = (seenN name n).idxOf (name b) := by
  have h2 := seenN_mem name (show b < b + 1 by omega)
  obtain ⟨l, hl⟩ := seenN_prefix name (b + 1) n (by omega)
  rw [hl, List.idxOf_append, if_pos h2]
  rfl

def exX : Nat → Nat := madeW (rangeM 97 99)
def exY : Nat → Nat := madeW (rangeM 98 98)
def g1 (b : Nat) : Nat × Nat := (0, if rangeM 97 99 b then 1 else 0)
def g2 (b : Nat) : Nat × Nat := (if rangeM 97 99 b then 1 else 0, if rangeM 98 98 b then 1 else 0)

theorem ex1 (b : Nat) (hb : b < 256) : hasN exX (fun _ => 0) b = g1 b := by
  have h : inSet exX b = rangeM 97 99 b := inSet_madeW _ b hb
  simp only [hasN, g1, h]

theorem ex_seen1 : seenN g1 256 = [(0, 0), (0, 1)] := by
  rw [seenN_F]
  decide +kernel

theorem ex_cls1 (b : Nat) (hb : b < 256) : clsN (hasN exX fun _ => 0) b = if rangeM 97 99 b then 1 else 0 := by
  rw [clsN_eq _ hb, seenN_congr 256 ex1, ex1 b hb, ex_seen1]
  unfold g1
  cases rangeM 97 99 b <;> rfl

theorem ex2 (b : Nat) (hb : b < 256) : hasN exY (clsN (hasN exX fun _ => 0)) b = g2 b := by
  have h : inSet exY b = rangeM 98 98 b := inSet_madeW _ b hb
  simp only [hasN, g2, ex_cls1 b hb, h]

theorem ex_seen2 : seenN g2 256 = [(0, 0), (1, 0), (1, 1)] := by
  rw [seenN_F]
  decide +kernel

theorem ex_of (b : Nat) (hb : b < 256) : (partF [exX, exY]).1 b = [((0 : Nat), (0 : Nat)), (1, 0), (1, 1)].idxOf (g2 b) := by
  show clsN (hasN exY (clsN (hasN exX fun _ => 0))) b = _
  rw [clsN_eq _ hb, seenN_congr 256 ex2, ex2 b hb, ex_seen2]

theorem ex_n : (partF [exX, exY]).2 = 3 := by
  show (seenN (hasN exY (clsN (hasN exX fun _ => 0))) 256).length = 3
  rw [seenN_congr 256 ex2, ex_seen2]
  rfl

section
variable {P : Program} {γ : Nat → EV}

set_option maxHeartbeats 8000000 in
theorem alive02_ok {f fp fr fm fc fn fh : FuncId} (hb : Body P f (hacklelaw02_alive fp fr) hacklelaw02_alive_r 33) (hr : Body P fr (hackleref01_Range fm) hackleref01_Range_r 17) (hm : Body P fm hackleref01_Made hackleref01_Made_r 27)
    (hp : Body P fp (class_Part fc fn) class_Part_r 19) (hc : Body P fc (class_Part_c1 fh) class_Part_c1_r 21) (hn : Body P fn class_renamed class_renamed_r 40) (hh : HasOk P γ fh .u8) (H : Heap) :
    CallsA P γ f [] H fun er H' => er = .ret (.bool true) ∧ H' = H := by
  refine hb.calls (by simp) fun hok => ?_
  unfold hacklelaw02_alive
  repeat' first
    | with_reducible first | refine wpc_seq ?_ | refine wpc_ops ?_ | refine wops_nil ?_ | refine then_normal ?_ | refine wpc_block ?_ | refine block_normal ?_ | refine wpc_skip ?_ | refine wpc_exit ?_ | refine then_exit ?_ | refine block_exit_same ?_ | refine wpc_ret ?_ | refine then_ret ?_ | refine block_ret ?_ | refine wpc_draw ?_ | refine wdr_nil ?_ | refine gate_t ?_ | refine gate_f ?_ | refine gate_tt ?_ | refine gate_ff ?_ | refine gate_tf ?_ | refine gate_ft ?_ | exact keep_same | exact keep_true
    | (with_reducible refine block_exit_other ?_ ?_; decide)
    | ((with_reducible refine keep_rfl ?_); exact rfl)
    | ((with_reducible first | apply wops_guard | apply wdr_guard | apply wpc_test); focus (simp (disch := omega) only [go_sem, ↓reduceIte, Nat.reduceEqDiff, Nat.reduceAdd, Nat.reduceSub, Nat.reduceMul, Nat.reduceLeDiff, Nat.reduceLT, Nat.reduceBEq, Nat.reduceBNe, Int.reduceToNat, Int.reduceLE, Int.reduceLT, Int.reduceNeg, Int.reduceEq, Int.reduceBEq, Int.reduceBNe, Int.reduceAdd, Int.reduceSub, Int.reduceMul, reduceCtorEq]; with_reducible first | exact lit_t | exact lit_f))
    | ((with_reducible first | apply wops_step | apply wops_do | apply wdr_step); focus (simp (disch := omega) only [go_sem, ↓reduceIte, Nat.reduceEqDiff, Nat.reduceAdd, Nat.reduceSub, Nat.reduceMul, Nat.reduceLeDiff, Nat.reduceLT, Nat.reduceBEq, Nat.reduceBNe, Int.reduceToNat, Int.reduceLE, Int.reduceLT, Int.reduceNeg, Int.reduceEq, Int.reduceBEq, Int.reduceBNe, Int.reduceAdd, Int.reduceSub, Int.reduceMul, reduceCtorEq]; first | with_reducible exact rfl | (rw [if_pos (by first | omega | (constructor <;> omega) | (simp; done) | assumption)]; first | with_reducible exact rfl | (try simp (disch := omega) only [go_sem, ↓reduceIte, Nat.reduceEqDiff, Nat.reduceAdd, Nat.reduceSub, Nat.reduceMul, Nat.reduceLeDiff, Nat.reduceLT, Nat.reduceBEq, Nat.reduceBNe, Int.reduceToNat, Int.reduceLE, Int.reduceLT, Int.reduceNeg, Int.reduceEq, Int.reduceBEq, Int.reduceBNe, Int.reduceAdd, Int.reduceSub, Int.reduceMul, reduceCtorEq]; with_reducible exact rfl))))
  with_reducible apply wops_call1
  · first | exact rfl | (simp (disch := omega) only [go_sem, ↓reduceIte, Nat.reduceEqDiff, Nat.reduceAdd, Nat.reduceSub, Nat.reduceMul, Nat.reduceLeDiff, Nat.reduceLT, Nat.reduceBEq, Nat.reduceBNe, Int.reduceToNat, Int.reduceLE, Int.reduceLT, Int.reduceNeg, Int.reduceEq, Int.reduceBEq, Int.reduceBNe, Int.reduceAdd, Int.reduceSub, Int.reduceMul, reduceCtorEq]; exact rfl)
  · (simp (disch := omega) only [go_sem, ↓reduceIte, Nat.reduceEqDiff, Nat.reduceAdd, Nat.reduceSub, Nat.reduceMul, Nat.reduceLeDiff, Nat.reduceLT, Nat.reduceBEq, Nat.reduceBNe, Int.reduceToNat, Int.reduceLE, Int.reduceLT, Int.reduceNeg, Int.reduceEq, Int.reduceBEq, Int.reduceBNe, Int.reduceAdd, Int.reduceSub, Int.reduceMul, reduceCtorEq]; exact rfl)
  · exact range_ok hr hm 97 99 (by omega) (by omega) _
  repeat' first
    | with_reducible first | refine wpc_seq ?_ | refine wpc_ops ?_ | refine wops_nil ?_ | refine then_normal ?_ | refine wpc_block ?_ | refine block_normal ?_ | refine wpc_skip ?_ | refine wpc_exit ?_ | refine then_exit ?_ | refine block_exit_same ?_ | refine wpc_ret ?_ | refine then_ret ?_ | refine block_ret ?_ | refine wpc_draw ?_ | refine wdr_nil ?_ | refine gate_t ?_ | refine gate_f ?_ | refine gate_tt ?_ | refine gate_ff ?_ | refine gate_tf ?_ | refine gate_ft ?_ | exact keep_same | exact keep_true
    | (with_reducible refine block_exit_other ?_ ?_; decide)
    | ((with_reducible refine keep_rfl ?_); exact rfl)
    | ((with_reducible first | apply wops_guard | apply wdr_guard | apply wpc_test); focus (simp (disch := omega) only [go_sem, ↓reduceIte, Nat.reduceEqDiff, Nat.reduceAdd, Nat.reduceSub, Nat.reduceMul, Nat.reduceLeDiff, Nat.reduceLT, Nat.reduceBEq, Nat.reduceBNe, Int.reduceToNat, Int.reduceLE, Int.reduceLT, Int.reduceNeg, Int.reduceEq, Int.reduceBEq, Int.reduceBNe, Int.reduceAdd, Int.reduceSub, Int.reduceMul, reduceCtorEq]; with_reducible first | exact lit_t | exact lit_f))
    | ((with_reducible first | apply wops_step | apply wops_do | apply wdr_step); focus (simp (disch := omega) only [go_sem, ↓reduceIte, Nat.reduceEqDiff, Nat.reduceAdd, Nat.reduceSub, Nat.reduceMul, Nat.reduceLeDiff, Nat.reduceLT, Nat.reduceBEq, Nat.reduceBNe, Int.reduceToNat, Int.reduceLE, Int.reduceLT, Int.reduceNeg, Int.reduceEq, Int.reduceBEq, Int.reduceBNe, Int.reduceAdd, Int.reduceSub, Int.reduceMul, reduceCtorEq]; first | with_reducible exact rfl | (rw [if_pos (by first | omega | (constructor <;> omega) | (simp; done) | assumption)]; first | with_reducible exact rfl | (try simp (disch := omega) only [go_sem, ↓reduceIte, Nat.reduceEqDiff, Nat.reduceAdd, Nat.reduceSub, Nat.reduceMul, Nat.reduceLeDiff, Nat.reduceLT, Nat.reduceBEq, Nat.reduceBNe, Int.reduceToNat, Int.reduceLE, Int.reduceLT, Int.reduceNeg, Int.reduceEq, Int.reduceBEq, Int.reduceBNe, Int.reduceAdd, Int.reduceSub, Int.reduceMul, reduceCtorEq]; with_reducible exact rfl))))
  with_reducible apply wops_call1
  · first | exact rfl | (simp (disch := omega) only [go_sem, ↓reduceIte, Nat.reduceEqDiff, Nat.reduceAdd, Nat.reduceSub, Nat.reduceMul, Nat.reduceLeDiff, Nat.reduceLT, Nat.reduceBEq, Nat.reduceBNe, Int.reduceToNat, Int.reduceLE, Int.reduceLT, Int.reduceNeg, Int.reduceEq, Int.reduceBEq, Int.reduceBNe, Int.reduceAdd, Int.reduceSub, Int.reduceMul, reduceCtorEq]; exact rfl)
  · (simp (disch := omega) only [go_sem, ↓reduceIte, Nat.reduceEqDiff, Nat.reduceAdd, Nat.reduceSub, Nat.reduceMul, Nat.reduceLeDiff, Nat.reduceLT, Nat.reduceBEq, Nat.reduceBNe, Int.reduceToNat, Int.reduceLE, Int.reduceLT, Int.reduceNeg, Int.reduceEq, Int.reduceBEq, Int.reduceBNe, Int.reduceAdd, Int.reduceSub, Int.reduceMul, reduceCtorEq]; exact rfl)
  · exact range_ok hr hm 98 98 (by omega) (by omega) _
  repeat' first
    | with_reducible first | refine wpc_seq ?_ | refine wpc_ops ?_ | refine wops_nil ?_ | refine then_normal ?_ | refine wpc_block ?_ | refine block_normal ?_ | refine wpc_skip ?_ | refine wpc_exit ?_ | refine then_exit ?_ | refine block_exit_same ?_ | refine wpc_ret ?_ | refine then_ret ?_ | refine block_ret ?_ | refine wpc_draw ?_ | refine wdr_nil ?_ | refine gate_t ?_ | refine gate_f ?_ | refine gate_tt ?_ | refine gate_ff ?_ | refine gate_tf ?_ | refine gate_ft ?_ | exact keep_same | exact keep_true
    | (with_reducible refine block_exit_other ?_ ?_; decide)
    | ((with_reducible refine keep_rfl ?_); exact rfl)
    | ((with_reducible first | apply wops_guard | apply wdr_guard | apply wpc_test); focus (simp (disch := omega) only [go_sem, ↓reduceIte, Nat.reduceEqDiff, Nat.reduceAdd, Nat.reduceSub, Nat.reduceMul, Nat.reduceLeDiff, Nat.reduceLT, Nat.reduceBEq, Nat.reduceBNe, Int.reduceToNat, Int.reduceLE, Int.reduceLT, Int.reduceNeg, Int.reduceEq, Int.reduceBEq, Int.reduceBNe, Int.reduceAdd, Int.reduceSub, Int.reduceMul, reduceCtorEq, setE]; with_reducible first | exact lit_t | exact lit_f))
    | ((with_reducible first | apply wops_step | apply wops_do | apply wdr_step); focus (simp (disch := omega) only [go_sem, ↓reduceIte, Nat.reduceEqDiff, Nat.reduceAdd, Nat.reduceSub, Nat.reduceMul, Nat.reduceLeDiff, Nat.reduceLT, Nat.reduceBEq, Nat.reduceBNe, Int.reduceToNat, Int.reduceLE, Int.reduceLT, Int.reduceNeg, Int.reduceEq, Int.reduceBEq, Int.reduceBNe, Int.reduceAdd, Int.reduceSub, Int.reduceMul, reduceCtorEq, setE]; first | with_reducible exact rfl | (rw [if_pos (by first | omega | (constructor <;> omega) | (simp; done) | assumption)]; first | with_reducible exact rfl | (try simp (disch := omega) only [go_sem, ↓reduceIte, Nat.reduceEqDiff, Nat.reduceAdd, Nat.reduceSub, Nat.reduceMul, Nat.reduceLeDiff, Nat.reduceLT, Nat.reduceBEq, Nat.reduceBNe, Int.reduceToNat, Int.reduceLE, Int.reduceLT, Int.reduceNeg, Int.reduceEq, Int.reduceBEq, Int.reduceBNe, Int.reduceAdd, Int.reduceSub, Int.reduceMul, reduceCtorEq, setE]; with_reducible exact rfl))))
  with_reducible apply wops_call1
  · first | exact rfl | (simp (disch := omega) only [go_sem, ↓reduceIte, Nat.reduceEqDiff, Nat.reduceAdd, Nat.reduceSub, Nat.reduceMul, Nat.reduceLeDiff, Nat.reduceLT, Nat.reduceBEq, Nat.reduceBNe, Int.reduceToNat, Int.reduceLE, Int.reduceLT, Int.reduceNeg, Int.reduceEq, Int.reduceBEq, Int.reduceBNe, Int.reduceAdd, Int.reduceSub, Int.reduceMul, reduceCtorEq, setE]; exact rfl)
  · (simp (disch := omega) only [go_sem, ↓reduceIte, Nat.reduceEqDiff, Nat.reduceAdd, Nat.reduceSub, Nat.reduceMul, Nat.reduceLeDiff, Nat.reduceLT, Nat.reduceBEq, Nat.reduceBNe, Int.reduceToNat, Int.reduceLE, Int.reduceLT, Int.reduceNeg, Int.reduceEq, Int.reduceBEq, Int.reduceBNe, Int.reduceAdd, Int.reduceSub, Int.reduceMul, reduceCtorEq, setE]; exact rfl)
  · exact part_ok hp hc hn hh (v := .imm 4 [setE exX, setE exY]) (xs := [exX, exY]) (sliceOf_imm (by simp [okL, setE, EV.ok, okL_tab_int])) (by intro x hx; simp at hx; rcases hx with rfl | rfl <;> exact madeW_words _) (by simp) _
  have e1 := ex_of 97 (by omega)
  have e2 := ex_of 98 (by omega)
  have e3 := ex_of 99 (by omega)
  have e4 := ex_of 100 (by omega)
  have e5 := ex_n
  rw [show [((0 : Nat), (0 : Nat)), (1, 0), (1, 1)].idxOf (g2 97) = 1 from by decide] at e1
  rw [show [((0 : Nat), (0 : Nat)), (1, 0), (1, 1)].idxOf (g2 98) = 2 from by decide] at e2
  rw [show [((0 : Nat), (0 : Nat)), (1, 0), (1, 1)].idxOf (g2 99) = 1 from by decide] at e3
  rw [show [((0 : Nat), (0 : Nat)), (1, 0), (1, 1)].idxOf (g2 100) = 0 from by decide] at e4
  generalize partF [exX, exY] = p at *
  have i1 : ((p.1 97 : Nat) : Int) = 1 := by omega
  have i2 : ((p.1 98 : Nat) : Int) = 2 := by omega
  have i3 : ((p.1 99 : Nat) : Int) = 1 := by omega
  have i4 : ((p.1 100 : Nat) : Int) = 0 := by omega
  have i5 : ((p.2 : Nat) : Int) = 3 := by omega
  clear e1 e2 e3 e4 e5
  repeat' first
    | with_reducible first | refine wpc_seq ?_ | refine wpc_ops ?_ | refine wops_nil ?_ | refine then_normal ?_ | refine wpc_block ?_ | refine block_normal ?_ | refine wpc_skip ?_ | refine wpc_exit ?_ | refine then_exit ?_ | refine block_exit_same ?_ | refine wpc_ret ?_ | refine then_ret ?_ | refine block_ret ?_ | refine wpc_draw ?_ | refine wdr_nil ?_ | refine gate_t ?_ | refine gate_f ?_ | refine gate_tt ?_ | refine gate_ff ?_ | refine gate_tf ?_ | refine gate_ft ?_ | exact keep_same | exact keep_true
    | (with_reducible refine block_exit_other ?_ ?_; decide)
    | ((with_reducible refine keep_rfl ?_); exact rfl)
    | ((with_reducible first | apply wops_guard | apply wdr_guard | apply wpc_test); focus (simp (disch := omega) only [go_sem, ↓reduceIte, Nat.reduceEqDiff, Nat.reduceAdd, Nat.reduceSub, Nat.reduceMul, Nat.reduceLeDiff, Nat.reduceLT, Nat.reduceBEq, Nat.reduceBNe, Int.reduceToNat, Int.reduceLE, Int.reduceLT, Int.reduceNeg, Int.reduceEq, Int.reduceBEq, Int.reduceBNe, Int.reduceAdd, Int.reduceSub, Int.reduceMul, reduceCtorEq, classesE, i1, i2, i3, i4, i5]; with_reducible first | exact lit_t | exact lit_f))
    | ((with_reducible first | apply wops_step | apply wops_do | apply wdr_step); focus (simp (disch := omega) only [go_sem, ↓reduceIte, Nat.reduceEqDiff, Nat.reduceAdd, Nat.reduceSub, Nat.reduceMul, Nat.reduceLeDiff, Nat.reduceLT, Nat.reduceBEq, Nat.reduceBNe, Int.reduceToNat, Int.reduceLE, Int.reduceLT, Int.reduceNeg, Int.reduceEq, Int.reduceBEq, Int.reduceBNe, Int.reduceAdd, Int.reduceSub, Int.reduceMul, reduceCtorEq, classesE, i1, i2, i3, i4, i5]; first | with_reducible exact rfl | (rw [if_pos (by first | omega | (constructor <;> omega) | (simp; done) | assumption)]; first | with_reducible exact rfl | (try simp (disch := omega) only [go_sem, ↓reduceIte, Nat.reduceEqDiff, Nat.reduceAdd, Nat.reduceSub, Nat.reduceMul, Nat.reduceLeDiff, Nat.reduceLT, Nat.reduceBEq, Nat.reduceBNe, Int.reduceToNat, Int.reduceLE, Int.reduceLT, Int.reduceNeg, Int.reduceEq, Int.reduceBEq, Int.reduceBNe, Int.reduceAdd, Int.reduceSub, Int.reduceMul, reduceCtorEq, classesE, i1, i2, i3, i4, i5]; with_reducible exact rfl))))
  refine end_drop hok (r := .bool true) ?_ ?_ ⟨rfl, rfl⟩
  · first | (simp (disch := omega) only [go_sem, ↓reduceIte, Nat.reduceEqDiff, Nat.reduceAdd, Nat.reduceSub, Nat.reduceMul, Nat.reduceLeDiff, Nat.reduceLT, Nat.reduceBEq, Nat.reduceBNe, Int.reduceToNat, Int.reduceLE, Int.reduceLT, Int.reduceNeg, Int.reduceEq, Int.reduceBEq, Int.reduceBNe, Int.reduceAdd, Int.reduceSub, Int.reduceMul, reduceCtorEq, evResults, evResL, evRes, hacklelaw02_alive_r]; done) | (simp (disch := omega) only [go_sem, ↓reduceIte, Nat.reduceEqDiff, Nat.reduceAdd, Nat.reduceSub, Nat.reduceMul, Nat.reduceLeDiff, Nat.reduceLT, Nat.reduceBEq, Nat.reduceBNe, Int.reduceToNat, Int.reduceLE, Int.reduceLT, Int.reduceNeg, Int.reduceEq, Int.reduceBEq, Int.reduceBNe, Int.reduceAdd, Int.reduceSub, Int.reduceMul, reduceCtorEq, evResults, evResL, evRes, hacklelaw02_alive_r]; with_reducible exact rfl) | exact rfl
  · first | (simp [EV.ok, okL, okL_tab_int, okL_tab_bool, okL_app]; done)

end
end Abs
