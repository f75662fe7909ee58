/- formatBase10. -/
import Derived.Test.YtcjnpmaljfkpgaaDoorDigJ
namespace Abs
open Go
set_option linter.all false
set_option maxRecDepth 20000

attribute [local irreducible] lowD nd dchar fbF updN u8F

section
variable {P : Program} {γ : Nat → EV}

set_option maxHeartbeats 64000000 in
theorem base10_ok {f : FuncId} (hb : Body P f internal_strconv_formatBase10 internal_strconv_formatBase10_r 167) (u N : Nat) (hu : u < 18446744073709551616) (hN : N ≤ 20) (huN : u < 10 ^ N) (H : Heap) (hokH : OkH H) :
    CallsA P γ f [.own H.length 1 0 N, .int .u64 u] (H ++ [some (.row 1 (tab 24 (u8F fun _ => 0)))]) fun er H' => er = .ret (.tup []) ∧ H' = H ++ [some (.row 1 (tab 24 (u8F (fbF u N 0))))] := by
  have hf0 : (fun _ => 0) = fbF u N N := by
    funext j
    unfold fbF
    rw [if_neg (by omega)]
  rw [hf0]
  have hokR : ∀ f, OkH (H ++ [some (EB.row 1 (tab 24 (u8F f)))]) := fun f => okH_app hokH (by simp [EB.ok, okG, okL_u8])
  refine hb.calls (by simp) fun hok => ?_
  unfold internal_strconv_formatBase10
  have tn0 : ∀ p : Nat, ((p : Int) * 2).toNat = p * 2 := fun p => by omega
  have tn1 : ∀ p : Nat, ((p : Int) * 2 + 1).toNat = p * 2 + 1 := fun p => by omega
  have ge0 : ∀ p : Nat, (0 : Int) ≤ (p : Int) * 2 := fun p => by omega
  have ge1 : ∀ p : Nat, (0 : Int) ≤ (p : Int) * 2 + 1 := fun p => by omega
  repeat' first
    | with_reducible first | refine wpc_seq ?_ | refine wpc_ops ?_ | refine wops_nil ?_ | refine then_normal ?_ | refine wpc_block ?_ | refine block_normal ?_ | refine wpc_skip ?_ | refine wpc_exit ?_ | refine then_exit ?_ | refine block_exit_same ?_ | refine wpc_ret ?_ | refine then_ret ?_ | refine block_ret ?_ | refine wpc_draw ?_ | refine wdr_nil ?_ | refine gate_t ?_ | refine gate_f ?_ | refine gate_tt ?_ | refine gate_ff ?_ | refine gate_tf ?_ | refine gate_ft ?_ | exact keep_same | exact keep_true
    | (with_reducible refine block_exit_other ?_ ?_; decide)
    | ((with_reducible refine keep_rfl ?_); exact rfl)
    | ((with_reducible first | apply wops_guard | apply wdr_guard | apply wpc_test); focus (simp (disch := omega) only [go_sem, ↓reduceIte, simprocAttr, reduceCtorEq]; with_reducible first | exact lit_t | exact lit_f))
    | ((with_reducible first | apply wops_gone | apply wdr_gone); focus (simp (disch := omega) only [go_sem, ↓reduceIte, simprocAttr, reduceCtorEq]; done))
    | ((with_reducible first | apply wops_step | apply wops_do | apply wdr_step); focus (simp (disch := omega) only [go_sem, ↓reduceIte, simprocAttr, reduceCtorEq]; first | with_reducible exact rfl | (rw [if_pos (by first | omega | (constructor <;> omega) | (simp; done) | assumption)]; first | with_reducible exact rfl | (try simp (disch := omega) only [go_sem, ↓reduceIte, simprocAttr, reduceCtorEq]; with_reducible exact rfl))))
  refine wpc_while (ι := Nat × Nat) (fun i => i.1 ≤ N ∧ u / 10 ^ (N - i.1) = i.2 ∧ i.2 < 18446744073709551616) (fun i => i.1) (fun i => [(0, .own H.length 1 0 N), (1, .int .u64 (i.2 : Int)), (4, .int .i64 (i.1 : Int))])
    (fun i => H ++ [some (.row 1 (tab 24 (u8F (fbF u N i.1))))]) (N, u) (by exact ⟨by simp, by simp, hu⟩) ?_ ?_ ?_ ?_ ?_
  · (repeat' (first | exact trivial | refine And.intro (And.intro ?_ ?_) ?_)) <;> first | exact rfl | (simp (disch := omega) only [go_sem, ↓reduceIte, simprocAttr, reduceCtorEq, EV.ok, okL_tab_int, okL_tab_bool, okL_app, okL, decide_eq_true_eq, EV.int.injEq]; done) | (simp (disch := omega) only [go_sem, ↓reduceIte, simprocAttr, reduceCtorEq, EV.ok, okL_tab_int, okL_tab_bool, okL_app, okL, decide_eq_true_eq, EV.int.injEq] <;> first | exact rfl | omega)
  · rfl
  · exact fun i _ => hokR _
  · simp
  · rintro ⟨r, v⟩ ⟨hr, hv, hv64⟩ K Q' hK hQ'
    simp only at hr hv hv64
    repeat' first
      | with_reducible first | refine wpc_seq ?_ | refine wpc_ops ?_ | refine wops_nil ?_ | refine then_normal ?_ | refine wpc_block ?_ | refine block_normal ?_ | refine wpc_skip ?_ | refine wpc_exit ?_ | refine then_exit ?_ | refine block_exit_same ?_ | refine wpc_ret ?_ | refine then_ret ?_ | refine block_ret ?_ | refine wpc_draw ?_ | refine wdr_nil ?_ | refine gate_t ?_ | refine gate_f ?_ | refine gate_tt ?_ | refine gate_ff ?_ | refine gate_tf ?_ | refine gate_ft ?_ | exact keep_same | exact keep_true
      | (with_reducible refine block_exit_other ?_ ?_; decide)
      | ((with_reducible refine keep_rfl ?_); exact rfl)
      | ((with_reducible first | apply wops_guard | apply wdr_guard | apply wpc_test); focus (simp (disch := omega) only [go_sem, ↓reduceIte, simprocAttr, reduceCtorEq]; with_reducible first | exact lit_t | exact lit_f))
      | ((with_reducible first | apply wops_gone | apply wdr_gone); focus (simp (disch := omega) only [go_sem, ↓reduceIte, simprocAttr, reduceCtorEq]; done))
      | ((with_reducible first | apply wops_step | apply wops_do | apply wdr_step); focus (simp (disch := omega) only [go_sem, ↓reduceIte, simprocAttr, reduceCtorEq]; first | with_reducible exact rfl | (rw [if_pos (by first | omega | (constructor <;> omega) | (simp; done) | assumption)]; first | with_reducible exact rfl | (try simp (disch := omega) only [go_sem, ↓reduceIte, simprocAttr, reduceCtorEq]; with_reducible exact rfl))))
    refine wpc_cond (t := decide ((r : Int) ≥ 8)) (by simp (disch := omega) only [go_sem, ↓reduceIte, simprocAttr, reduceCtorEq]) (fun hc => ?_) (fun hc => ?_)
    · have hr8 : 8 ≤ r := by have := of_decide_eq_true hc; omega
      obtain ⟨x, hx⟩ : ∃ x, v % 100000000 = x := ⟨_, rfl⟩
      obtain ⟨y, hy⟩ : ∃ y, v / 100000000 = y := ⟨_, rfl⟩
      obtain ⟨h4, hh4⟩ : ∃ h4, x / 10000 = h4 := ⟨_, rfl⟩
      obtain ⟨l4, hl4⟩ : ∃ l4, x % 10000 = l4 := ⟨_, rfl⟩
      obtain ⟨p3, hp3⟩ : ∃ p, h4 / 100 = p := ⟨_, rfl⟩
      obtain ⟨p2, hp2⟩ : ∃ p, h4 % 100 = p := ⟨_, rfl⟩
      obtain ⟨p1, hp1⟩ : ∃ p, l4 / 100 = p := ⟨_, rfl⟩
      obtain ⟨p0, hp0⟩ : ∃ p, l4 % 100 = p := ⟨_, rfl⟩
      have bx : x < 100000000 := by omega
      have bh : h4 < 10000 := by omega
      have bl : l4 < 10000 := by omega
      have b3 : p3 < 100 := by omega
      have b2 : p2 < 100 := by omega
      have b1 : p1 < 100 := by omega
      have b0 : p0 < 100 := by omega
      have hy' : u / 10 ^ (N - (r - 8)) = y := by rw [div_more hv 8 hr8 hr]; exact hy
      have by64 : y < 18446744073709551616 := by omega
      have q0 : updN (fbF u N r) (r - 1) (dchar (p0 % 10)).toNat = fbF u N (r - 1) := fb_upd (by omega) (by omega) (by rw [hv]; omega)
      have q1 : updN (fbF u N (r - 1)) (r - 2) (dchar (p0 / 10)).toNat = fbF u N (r - 2) := fb_upd (by omega) (by omega) (by rw [div_more hv 1 (by omega) hr]; omega)
      have q2 : updN (fbF u N (r - 2)) (r - 3) (dchar (p1 % 10)).toNat = fbF u N (r - 3) := fb_upd (by omega) (by omega) (by rw [div_more hv 2 (by omega) hr]; omega)
      have q3 : updN (fbF u N (r - 3)) (r - 4) (dchar (p1 / 10)).toNat = fbF u N (r - 4) := fb_upd (by omega) (by omega) (by rw [div_more hv 3 (by omega) hr]; omega)
      have q4 : updN (fbF u N (r - 4)) (r - 5) (dchar (p2 % 10)).toNat = fbF u N (r - 5) := fb_upd (by omega) (by omega) (by rw [div_more hv 4 (by omega) hr]; omega)
      have q5 : updN (fbF u N (r - 5)) (r - 6) (dchar (p2 / 10)).toNat = fbF u N (r - 6) := fb_upd (by omega) (by omega) (by rw [div_more hv 5 (by omega) hr]; omega)
      have q6 : updN (fbF u N (r - 6)) (r - 7) (dchar (p3 % 10)).toNat = fbF u N (r - 7) := fb_upd (by omega) (by omega) (by rw [div_more hv 6 (by omega) hr]; omega)
      have q7 : updN (fbF u N (r - 7)) (r - 8) (dchar (p3 / 10)).toNat = fbF u N (r - 8) := fb_upd (by omega) (by omega) (by rw [div_more hv 7 (by omega) hr]; omega)
      have t1 : ((r : Int) - 1).toNat = r - 1 := by omega
      have t2 : ((r : Int) - 2).toNat = r - 2 := by omega
      have t3 : ((r : Int) - 3).toNat = r - 3 := by omega
      have t4 : ((r : Int) - 4).toNat = r - 4 := by omega
      have t5 : ((r : Int) - 5).toNat = r - 5 := by omega
      have t6 : ((r : Int) - 6).toNat = r - 6 := by omega
      have t7 : ((r : Int) - 7).toNat = r - 7 := by omega
      have t8 : ((r : Int) - 8).toNat = r - 8 := by omega
      have hr' : (r : Int) - 8 = ((r - 8 : Nat) : Int) := by omega
      repeat' first
        | with_reducible first | refine wpc_seq ?_ | refine wpc_ops ?_ | refine wops_nil ?_ | refine then_normal ?_ | refine wpc_block ?_ | refine block_normal ?_ | refine wpc_skip ?_ | refine wpc_exit ?_ | refine then_exit ?_ | refine block_exit_same ?_ | refine wpc_ret ?_ | refine then_ret ?_ | refine block_ret ?_ | refine wpc_draw ?_ | refine wdr_nil ?_ | refine gate_t ?_ | refine gate_f ?_ | refine gate_tt ?_ | refine gate_ff ?_ | refine gate_tf ?_ | refine gate_ft ?_ | exact keep_same | exact keep_true
        | (with_reducible refine block_exit_other ?_ ?_; decide)
        | ((with_reducible refine keep_rfl ?_); exact rfl)
        | ((with_reducible first | apply wops_guard | apply wdr_guard | apply wpc_test); focus (simp (disch := omega) only [go_sem, ↓reduceIte, simprocAttr, reduceCtorEq, hx, hy, hh4, hl4, hp3, hp2, hp1, hp0, wrap_u32, tn0, tn1, ge0, ge1, s1_hi p0 b0, s1_lo p0 b0, s1_hi p1 b1, s1_lo p1 b1, s1_hi p2 b2, s1_lo p2 b2, s1_hi p3 b3, s1_lo p3 b3, t1, t2, t3, t4, t5, t6, t7, t8]; with_reducible first | exact lit_t | exact lit_f))
        | ((with_reducible first | apply wops_gone | apply wdr_gone); focus (simp (disch := omega) only [go_sem, ↓reduceIte, simprocAttr, reduceCtorEq, hx, hy, hh4, hl4, hp3, hp2, hp1, hp0, wrap_u32, tn0, tn1, ge0, ge1, s1_hi p0 b0, s1_lo p0 b0, s1_hi p1 b1, s1_lo p1 b1, s1_hi p2 b2, s1_lo p2 b2, s1_hi p3 b3, s1_lo p3 b3, t1, t2, t3, t4, t5, t6, t7, t8]; done))
        | ((with_reducible first | apply wops_step | apply wops_do | apply wdr_step); focus (simp (disch := omega) only [go_sem, ↓reduceIte, simprocAttr, reduceCtorEq, hx, hy, hh4, hl4, hp3, hp2, hp1, hp0, wrap_u32, tn0, tn1, ge0, ge1, s1_hi p0 b0, s1_lo p0 b0, s1_hi p1 b1, s1_lo p1 b1, s1_hi p2 b2, s1_lo p2 b2, s1_hi p3 b3, s1_lo p3 b3, t1, t2, t3, t4, t5, t6, t7, t8]; first | with_reducible exact rfl | (rw [if_pos (by first | omega | (constructor <;> omega) | (simp; done) | assumption)]; first | with_reducible exact rfl | (try simp (disch := omega) only [go_sem, ↓reduceIte, simprocAttr, reduceCtorEq, hx, hy, hh4, hl4, hp3, hp2, hp1, hp0, wrap_u32, tn0, tn1, ge0, ge1, s1_hi p0 b0, s1_lo p0 b0, s1_hi p1 b1, s1_lo p1 b1, s1_hi p2 b2, s1_lo p2 b2, s1_hi p3 b3, s1_lo p3 b3, t1, t2, t3, t4, t5, t6, t7, t8]; with_reducible exact rfl))))
      with_reducible apply wdr_store
      · first | exact rfl | (simp (disch := omega) only [go_sem, ↓reduceIte, Nat.reduceEqDiff, Nat.reduceAdd, Nat.reduceSub, Nat.reduceMul, Nat.reduceLeDiff, Nat.reduceLT, Nat.reduceBEq, Nat.reduceBNe, Int.reduceToNat, Int.reduceLE, Int.reduceLT, Int.reduceNeg, Int.reduceEq, Int.reduceBEq, Int.reduceBNe, Int.reduceAdd, Int.reduceSub, Int.reduceMul, reduceCtorEq, hx, hy, hh4, hl4, hp3, hp2, hp1, hp0, wrap_u32, tn0, tn1, ge0, ge1, s1_hi p0 b0, s1_lo p0 b0, s1_hi p1 b1, s1_lo p1 b1, s1_hi p2 b2, s1_lo p2 b2, s1_hi p3 b3, s1_lo p3 b3, t1, t2, t3, t4, t5, t6, t7, t8]; exact rfl)
      · first | exact rfl | (simp (disch := omega) only [go_sem, ↓reduceIte, Nat.reduceEqDiff, Nat.reduceAdd, Nat.reduceSub, Nat.reduceMul, Nat.reduceLeDiff, Nat.reduceLT, Nat.reduceBEq, Nat.reduceBNe, Int.reduceToNat, Int.reduceLE, Int.reduceLT, Int.reduceNeg, Int.reduceEq, Int.reduceBEq, Int.reduceBNe, Int.reduceAdd, Int.reduceSub, Int.reduceMul, reduceCtorEq, hx, hy, hh4, hl4, hp3, hp2, hp1, hp0, wrap_u32, tn0, tn1, ge0, ge1, s1_hi p0 b0, s1_lo p0 b0, s1_hi p1 b1, s1_lo p1 b1, s1_hi p2 b2, s1_lo p2 b2, s1_hi p3 b3, s1_lo p3 b3, t1, t2, t3, t4, t5, t6, t7, t8]; exact rfl)
      · exact store_u8 (f := fbF u N r) (i := r - 1) (x := (dchar (p0 % 10)).toNat) (by omega)
      rotate_left
      · exact fun h => Bool.noConfusion h
      rw [q0]
      repeat' first
        | with_reducible first | refine wpc_seq ?_ | refine wpc_ops ?_ | refine wops_nil ?_ | refine then_normal ?_ | refine wpc_block ?_ | refine block_normal ?_ | refine wpc_skip ?_ | refine wpc_exit ?_ | refine then_exit ?_ | refine block_exit_same ?_ | refine wpc_ret ?_ | refine then_ret ?_ | refine block_ret ?_ | refine wpc_draw ?_ | refine wdr_nil ?_ | refine gate_t ?_ | refine gate_f ?_ | refine gate_tt ?_ | refine gate_ff ?_ | refine gate_tf ?_ | refine gate_ft ?_ | exact keep_same | exact keep_true
        | (with_reducible refine block_exit_other ?_ ?_; decide)
        | ((with_reducible refine keep_rfl ?_); exact rfl)
        | ((with_reducible first | apply wops_guard | apply wdr_guard | apply wpc_test); focus (simp (disch := omega) only [go_sem, ↓reduceIte, simprocAttr, reduceCtorEq, hx, hy, hh4, hl4, hp3, hp2, hp1, hp0, wrap_u32, tn0, tn1, ge0, ge1, s1_hi p0 b0, s1_lo p0 b0, s1_hi p1 b1, s1_lo p1 b1, s1_hi p2 b2, s1_lo p2 b2, s1_hi p3 b3, s1_lo p3 b3, t1, t2, t3, t4, t5, t6, t7, t8]; with_reducible first | exact lit_t | exact lit_f))
        | ((with_reducible first | apply wops_gone | apply wdr_gone); focus (simp (disch := omega) only [go_sem, ↓reduceIte, simprocAttr, reduceCtorEq, hx, hy, hh4, hl4, hp3, hp2, hp1, hp0, wrap_u32, tn0, tn1, ge0, ge1, s1_hi p0 b0, s1_lo p0 b0, s1_hi p1 b1, s1_lo p1 b1, s1_hi p2 b2, s1_lo p2 b2, s1_hi p3 b3, s1_lo p3 b3, t1, t2, t3, t4, t5, t6, t7, t8]; done))
        | ((with_reducible first | apply wops_step | apply wops_do | apply wdr_step); focus (simp (disch := omega) only [go_sem, ↓reduceIte, simprocAttr, reduceCtorEq, hx, hy, hh4, hl4, hp3, hp2, hp1, hp0, wrap_u32, tn0, tn1, ge0, ge1, s1_hi p0 b0, s1_lo p0 b0, s1_hi p1 b1, s1_lo p1 b1, s1_hi p2 b2, s1_lo p2 b2, s1_hi p3 b3, s1_lo p3 b3, t1, t2, t3, t4, t5, t6, t7, t8]; first | with_reducible exact rfl | (rw [if_pos (by first | omega | (constructor <;> omega) | (simp; done) | assumption)]; first | with_reducible exact rfl | (try simp (disch := omega) only [go_sem, ↓reduceIte, simprocAttr, reduceCtorEq, hx, hy, hh4, hl4, hp3, hp2, hp1, hp0, wrap_u32, tn0, tn1, ge0, ge1, s1_hi p0 b0, s1_lo p0 b0, s1_hi p1 b1, s1_lo p1 b1, s1_hi p2 b2, s1_lo p2 b2, s1_hi p3 b3, s1_lo p3 b3, t1, t2, t3, t4, t5, t6, t7, t8]; with_reducible exact rfl))))
      with_reducible apply wdr_store
      · first | exact rfl | (simp (disch := omega) only [go_sem, ↓reduceIte, Nat.reduceEqDiff, Nat.reduceAdd, Nat.reduceSub, Nat.reduceMul, Nat.reduceLeDiff, Nat.reduceLT, Nat.reduceBEq, Nat.reduceBNe, Int.reduceToNat, Int.reduceLE, Int.reduceLT, Int.reduceNeg, Int.reduceEq, Int.reduceBEq, Int.reduceBNe, Int.reduceAdd, Int.reduceSub, Int.reduceMul, reduceCtorEq, hx, hy, hh4, hl4, hp3, hp2, hp1, hp0, wrap_u32, tn0, tn1, ge0, ge1, s1_hi p0 b0, s1_lo p0 b0, s1_hi p1 b1, s1_lo p1 b1, s1_hi p2 b2, s1_lo p2 b2, s1_hi p3 b3, s1_lo p3 b3, t1, t2, t3, t4, t5, t6, t7, t8]; exact rfl)
      · first | exact rfl | (simp (disch := omega) only [go_sem, ↓reduceIte, Nat.reduceEqDiff, Nat.reduceAdd, Nat.reduceSub, Nat.reduceMul, Nat.reduceLeDiff, Nat.reduceLT, Nat.reduceBEq, Nat.reduceBNe, Int.reduceToNat, Int.reduceLE, Int.reduceLT, Int.reduceNeg, Int.reduceEq, Int.reduceBEq, Int.reduceBNe, Int.reduceAdd, Int.reduceSub, Int.reduceMul, reduceCtorEq, hx, hy, hh4, hl4, hp3, hp2, hp1, hp0, wrap_u32, tn0, tn1, ge0, ge1, s1_hi p0 b0, s1_lo p0 b0, s1_hi p1 b1, s1_lo p1 b1, s1_hi p2 b2, s1_lo p2 b2, s1_hi p3 b3, s1_lo p3 b3, t1, t2, t3, t4, t5, t6, t7, t8]; exact rfl)
      · exact store_u8 (f := fbF u N (r - 1)) (i := r - 2) (x := (dchar (p0 / 10)).toNat) (by omega)
      rotate_left
      · exact fun h => Bool.noConfusion h
      rw [q1]
      repeat' first
        | with_reducible first | refine wpc_seq ?_ | refine wpc_ops ?_ | refine wops_nil ?_ | refine then_normal ?_ | refine wpc_block ?_ | refine block_normal ?_ | refine wpc_skip ?_ | refine wpc_exit ?_ | refine then_exit ?_ | refine block_exit_same ?_ | refine wpc_ret ?_ | refine then_ret ?_ | refine block_ret ?_ | refine wpc_draw ?_ | refine wdr_nil ?_ | refine gate_t ?_ | refine gate_f ?_ | refine gate_tt ?_ | refine gate_ff ?_ | refine gate_tf ?_ | refine gate_ft ?_ | exact keep_same | exact keep_true
        | (with_reducible refine block_exit_other ?_ ?_; decide)
        | ((with_reducible refine keep_rfl ?_); exact rfl)
        | ((with_reducible first | apply wops_guard | apply wdr_guard | apply wpc_test); focus (simp (disch := omega) only [go_sem, ↓reduceIte, simprocAttr, reduceCtorEq, hx, hy, hh4, hl4, hp3, hp2, hp1, hp0, wrap_u32, tn0, tn1, ge0, ge1, s1_hi p0 b0, s1_lo p0 b0, s1_hi p1 b1, s1_lo p1 b1, s1_hi p2 b2, s1_lo p2 b2, s1_hi p3 b3, s1_lo p3 b3, t1, t2, t3, t4, t5, t6, t7, t8]; with_reducible first | exact lit_t | exact lit_f))
        | ((with_reducible first | apply wops_gone | apply wdr_gone); focus (simp (disch := omega) only [go_sem, ↓reduceIte, simprocAttr, reduceCtorEq, hx, hy, hh4, hl4, hp3, hp2, hp1, hp0, wrap_u32, tn0, tn1, ge0, ge1, s1_hi p0 b0, s1_lo p0 b0, s1_hi p1 b1, s1_lo p1 b1, s1_hi p2 b2, s1_lo p2 b2, s1_hi p3 b3, s1_lo p3 b3, t1, t2, t3, t4, t5, t6, t7, t8]; done))
        | ((with_reducible first | apply wops_step | apply wops_do | apply wdr_step); focus (simp (disch := omega) only [go_sem, ↓reduceIte, simprocAttr, reduceCtorEq, hx, hy, hh4, hl4, hp3, hp2, hp1, hp0, wrap_u32, tn0, tn1, ge0, ge1, s1_hi p0 b0, s1_lo p0 b0, s1_hi p1 b1, s1_lo p1 b1, s1_hi p2 b2, s1_lo p2 b2, s1_hi p3 b3, s1_lo p3 b3, t1, t2, t3, t4, t5, t6, t7, t8]; first | with_reducible exact rfl | (rw [if_pos (by first | omega | (constructor <;> omega) | (simp; done) | assumption)]; first | with_reducible exact rfl | (try simp (disch := omega) only [go_sem, ↓reduceIte, simprocAttr, reduceCtorEq, hx, hy, hh4, hl4, hp3, hp2, hp1, hp0, wrap_u32, tn0, tn1, ge0, ge1, s1_hi p0 b0, s1_lo p0 b0, s1_hi p1 b1, s1_lo p1 b1, s1_hi p2 b2, s1_lo p2 b2, s1_hi p3 b3, s1_lo p3 b3, t1, t2, t3, t4, t5, t6, t7, t8]; with_reducible exact rfl))))
      with_reducible apply wdr_store
      · first | exact rfl | (simp (disch := omega) only [go_sem, ↓reduceIte, Nat.reduceEqDiff, Nat.reduceAdd, Nat.reduceSub, Nat.reduceMul, Nat.reduceLeDiff, Nat.reduceLT, Nat.reduceBEq, Nat.reduceBNe, Int.reduceToNat, Int.reduceLE, Int.reduceLT, Int.reduceNeg, Int.reduceEq, Int.reduceBEq, Int.reduceBNe, Int.reduceAdd, Int.reduceSub, Int.reduceMul, reduceCtorEq, hx, hy, hh4, hl4, hp3, hp2, hp1, hp0, wrap_u32, tn0, tn1, ge0, ge1, s1_hi p0 b0, s1_lo p0 b0, s1_hi p1 b1, s1_lo p1 b1, s1_hi p2 b2, s1_lo p2 b2, s1_hi p3 b3, s1_lo p3 b3, t1, t2, t3, t4, t5, t6, t7, t8]; exact rfl)
      · first | exact rfl | (simp (disch := omega) only [go_sem, ↓reduceIte, Nat.reduceEqDiff, Nat.reduceAdd, Nat.reduceSub, Nat.reduceMul, Nat.reduceLeDiff, Nat.reduceLT, Nat.reduceBEq, Nat.reduceBNe, Int.reduceToNat, Int.reduceLE, Int.reduceLT, Int.reduceNeg, Int.reduceEq, Int.reduceBEq, Int.reduceBNe, Int.reduceAdd, Int.reduceSub, Int.reduceMul, reduceCtorEq, hx, hy, hh4, hl4, hp3, hp2, hp1, hp0, wrap_u32, tn0, tn1, ge0, ge1, s1_hi p0 b0, s1_lo p0 b0, s1_hi p1 b1, s1_lo p1 b1, s1_hi p2 b2, s1_lo p2 b2, s1_hi p3 b3, s1_lo p3 b3, t1, t2, t3, t4, t5, t6, t7, t8]; exact rfl)
      · exact store_u8 (f := fbF u N (r - 2)) (i := r - 3) (x := (dchar (p1 % 10)).toNat) (by omega)
      rotate_left
      · exact fun h => Bool.noConfusion h
      rw [q2]
      repeat' first
        | with_reducible first | refine wpc_seq ?_ | refine wpc_ops ?_ | refine wops_nil ?_ | refine then_normal ?_ | refine wpc_block ?_ | refine block_normal ?_ | refine wpc_skip ?_ | refine wpc_exit ?_ | refine then_exit ?_ | refine block_exit_same ?_ | refine wpc_ret ?_ | refine then_ret ?_ | refine block_ret ?_ | refine wpc_draw ?_ | refine wdr_nil ?_ | refine gate_t ?_ | refine gate_f ?_ | refine gate_tt ?_ | refine gate_ff ?_ | refine gate_tf ?_ | refine gate_ft ?_ | exact keep_same | exact keep_true
        | (with_reducible refine block_exit_other ?_ ?_; decide)
        | ((with_reducible refine keep_rfl ?_); exact rfl)
        | ((with_reducible first | apply wops_guard | apply wdr_guard | apply wpc_test); focus (simp (disch := omega) only [go_sem, ↓reduceIte, simprocAttr, reduceCtorEq, hx, hy, hh4, hl4, hp3, hp2, hp1, hp0, wrap_u32, tn0, tn1, ge0, ge1, s1_hi p0 b0, s1_lo p0 b0, s1_hi p1 b1, s1_lo p1 b1, s1_hi p2 b2, s1_lo p2 b2, s1_hi p3 b3, s1_lo p3 b3, t1, t2, t3, t4, t5, t6, t7, t8]; with_reducible first | exact lit_t | exact lit_f))
        | ((with_reducible first | apply wops_gone | apply wdr_gone); focus (simp (disch := omega) only [go_sem, ↓reduceIte, simprocAttr, reduceCtorEq, hx, hy, hh4, hl4, hp3, hp2, hp1, hp0, wrap_u32, tn0, tn1, ge0, ge1, s1_hi p0 b0, s1_lo p0 b0, s1_hi p1 b1, s1_lo p1 b1, s1_hi p2 b2, s1_lo p2 b2, s1_hi p3 b3, s1_lo p3 b3, t1, t2, t3, t4, t5, t6, t7, t8]; done))
        | ((with_reducible first | apply wops_step | apply wops_do | apply wdr_step); focus (simp (disch := omega) only [go_sem, ↓reduceIte, simprocAttr, reduceCtorEq, hx, hy, hh4, hl4, hp3, hp2, hp1, hp0, wrap_u32, tn0, tn1, ge0, ge1, s1_hi p0 b0, s1_lo p0 b0, s1_hi p1 b1, s1_lo p1 b1, s1_hi p2 b2, s1_lo p2 b2, s1_hi p3 b3, s1_lo p3 b3, t1, t2, t3, t4, t5, t6, t7, t8]; first | with_reducible exact rfl | (rw [if_pos (by first | omega | (constructor <;> omega) | (simp; done) | assumption)]; first | with_reducible exact rfl | (try simp (disch := omega) only [go_sem, ↓reduceIte, simprocAttr, reduceCtorEq, hx, hy, hh4, hl4, hp3, hp2, hp1, hp0, wrap_u32, tn0, tn1, ge0, ge1, s1_hi p0 b0, s1_lo p0 b0, s1_hi p1 b1, s1_lo p1 b1, s1_hi p2 b2, s1_lo p2 b2, s1_hi p3 b3, s1_lo p3 b3, t1, t2, t3, t4, t5, t6, t7, t8]; with_reducible exact rfl))))
      with_reducible apply wdr_store
      · first | exact rfl | (simp (disch := omega) only [go_sem, ↓reduceIte, Nat.reduceEqDiff, Nat.reduceAdd, Nat.reduceSub, Nat.reduceMul, Nat.reduceLeDiff, Nat.reduceLT, Nat.reduceBEq, Nat.reduceBNe, Int.reduceToNat, Int.reduceLE, Int.reduceLT, Int.reduceNeg, Int.reduceEq, Int.reduceBEq, Int.reduceBNe, Int.reduceAdd, Int.reduceSub, Int.reduceMul, reduceCtorEq, hx, hy, hh4, hl4, hp3, hp2, hp1, hp0, wrap_u32, tn0, tn1, ge0, ge1, s1_hi p0 b0, s1_lo p0 b0, s1_hi p1 b1, s1_lo p1 b1, s1_hi p2 b2, s1_lo p2 b2, s1_hi p3 b3, s1_lo p3 b3, t1, t2, t3, t4, t5, t6, t7, t8]; exact rfl)
      · first | exact rfl | (simp (disch := omega) only [go_sem, ↓reduceIte, Nat.reduceEqDiff, Nat.reduceAdd, Nat.reduceSub, Nat.reduceMul, Nat.reduceLeDiff, Nat.reduceLT, Nat.reduceBEq, Nat.reduceBNe, Int.reduceToNat, Int.reduceLE, Int.reduceLT, Int.reduceNeg, Int.reduceEq, Int.reduceBEq, Int.reduceBNe, Int.reduceAdd, Int.reduceSub, Int.reduceMul, reduceCtorEq, hx, hy, hh4, hl4, hp3, hp2, hp1, hp0, wrap_u32, tn0, tn1, ge0, ge1, s1_hi p0 b0, s1_lo p0 b0, s1_hi p1 b1, s1_lo p1 b1, s1_hi p2 b2, s1_lo p2 b2, s1_hi p3 b3, s1_lo p3 b3, t1, t2, t3, t4, t5, t6, t7, t8]; exact rfl)
      · exact store_u8 (f := fbF u N (r - 3)) (i := r - 4) (x := (dchar (p1 / 10)).toNat) (by omega)
      rotate_left
      · exact fun h => Bool.noConfusion h
      rw [q3]
      repeat' first
        | with_reducible first | refine wpc_seq ?_ | refine wpc_ops ?_ | refine wops_nil ?_ | refine then_normal ?_ | refine wpc_block ?_ | refine block_normal ?_ | refine wpc_skip ?_ | refine wpc_exit ?_ | refine then_exit ?_ | refine block_exit_same ?_ | refine wpc_ret ?_ | refine then_ret ?_ | refine block_ret ?_ | refine wpc_draw ?_ | refine wdr_nil ?_ | refine gate_t ?_ | refine gate_f ?_ | refine gate_tt ?_ | refine gate_ff ?_ | refine gate_tf ?_ | refine gate_ft ?_ | exact keep_same | exact keep_true
        | (with_reducible refine block_exit_other ?_ ?_; decide)
        | ((with_reducible refine keep_rfl ?_); exact rfl)
        | ((with_reducible first | apply wops_guard | apply wdr_guard | apply wpc_test); focus (simp (disch := omega) only [go_sem, ↓reduceIte, simprocAttr, reduceCtorEq, hx, hy, hh4, hl4, hp3, hp2, hp1, hp0, wrap_u32, tn0, tn1, ge0, ge1, s1_hi p0 b0, s1_lo p0 b0, s1_hi p1 b1, s1_lo p1 b1, s1_hi p2 b2, s1_lo p2 b2, s1_hi p3 b3, s1_lo p3 b3, t1, t2, t3, t4, t5, t6, t7, t8]; with_reducible first | exact lit_t | exact lit_f))
        | ((with_reducible first | apply wops_gone | apply wdr_gone); focus (simp (disch := omega) only [go_sem, ↓reduceIte, simprocAttr, reduceCtorEq, hx, hy, hh4, hl4, hp3, hp2, hp1, hp0, wrap_u32, tn0, tn1, ge0, ge1, s1_hi p0 b0, s1_lo p0 b0, s1_hi p1 b1, s1_lo p1 b1, s1_hi p2 b2, s1_lo p2 b2, s1_hi p3 b3, s1_lo p3 b3, t1, t2, t3, t4, t5, t6, t7, t8]; done))
        | ((with_reducible first | apply wops_step | apply wops_do | apply wdr_step); focus (simp (disch := omega) only [go_sem, ↓reduceIte, simprocAttr, reduceCtorEq, hx, hy, hh4, hl4, hp3, hp2, hp1, hp0, wrap_u32, tn0, tn1, ge0, ge1, s1_hi p0 b0, s1_lo p0 b0, s1_hi p1 b1, s1_lo p1 b1, s1_hi p2 b2, s1_lo p2 b2, s1_hi p3 b3, s1_lo p3 b3, t1, t2, t3, t4, t5, t6, t7, t8]; first | with_reducible exact rfl | (rw [if_pos (by first | omega | (constructor <;> omega) | (simp; done) | assumption)]; first | with_reducible exact rfl | (try simp (disch := omega) only [go_sem, ↓reduceIte, simprocAttr, reduceCtorEq, hx, hy, hh4, hl4, hp3, hp2, hp1, hp0, wrap_u32, tn0, tn1, ge0, ge1, s1_hi p0 b0, s1_lo p0 b0, s1_hi p1 b1, s1_lo p1 b1, s1_hi p2 b2, s1_lo p2 b2, s1_hi p3 b3, s1_lo p3 b3, t1, t2, t3, t4, t5, t6, t7, t8]; with_reducible exact rfl))))
      with_reducible apply wdr_store
      · first | exact rfl | (simp (disch := omega) only [go_sem, ↓reduceIte, Nat.reduceEqDiff, Nat.reduceAdd, Nat.reduceSub, Nat.reduceMul, Nat.reduceLeDiff, Nat.reduceLT, Nat.reduceBEq, Nat.reduceBNe, Int.reduceToNat, Int.reduceLE, Int.reduceLT, Int.reduceNeg, Int.reduceEq, Int.reduceBEq, Int.reduceBNe, Int.reduceAdd, Int.reduceSub, Int.reduceMul, reduceCtorEq, hx, hy, hh4, hl4, hp3, hp2, hp1, hp0, wrap_u32, tn0, tn1, ge0, ge1, s1_hi p0 b0, s1_lo p0 b0, s1_hi p1 b1, s1_lo p1 b1, s1_hi p2 b2, s1_lo p2 b2, s1_hi p3 b3, s1_lo p3 b3, t1, t2, t3, t4, t5, t6, t7, t8]; exact rfl)
      · first | exact rfl | (simp (disch := omega) only [go_sem, ↓reduceIte, Nat.reduceEqDiff, Nat.reduceAdd, Nat.reduceSub, Nat.reduceMul, Nat.reduceLeDiff, Nat.reduceLT, Nat.reduceBEq, Nat.reduceBNe, Int.reduceToNat, Int.reduceLE, Int.reduceLT, Int.reduceNeg, Int.reduceEq, Int.reduceBEq, Int.reduceBNe, Int.reduceAdd, Int.reduceSub, Int.reduceMul, reduceCtorEq, hx, hy, hh4, hl4, hp3, hp2, hp1, hp0, wrap_u32, tn0, tn1, ge0, ge1, s1_hi p0 b0, s1_lo p0 b0, s1_hi p1 b1, s1_lo p1 b1, s1_hi p2 b2, s1_lo p2 b2, s1_hi p3 b3, s1_lo p3 b3, t1, t2, t3, t4, t5, t6, t7, t8]; exact rfl)
      · exact store_u8 (f := fbF u N (r - 4)) (i := r - 5) (x := (dchar (p2 % 10)).toNat) (by omega)
      rotate_left
      · exact fun h => Bool.noConfusion h
      rw [q4]
      repeat' first
        | with_reducible first | refine wpc_seq ?_ | refine wpc_ops ?_ | refine wops_nil ?_ | refine then_normal ?_ | refine wpc_block ?_ | refine block_normal ?_ | refine wpc_skip ?_ | refine wpc_exit ?_ | refine then_exit ?_ | refine block_exit_same ?_ | refine wpc_ret ?_ | refine then_ret ?_ | refine block_ret ?_ | refine wpc_draw ?_ | refine wdr_nil ?_ | refine gate_t ?_ | refine gate_f ?_ | refine gate_tt ?_ | refine gate_ff ?_ | refine gate_tf ?_ | refine gate_ft ?_ | exact keep_same | exact keep_true
        | (with_reducible refine block_exit_other ?_ ?_; decide)
        | ((with_reducible refine keep_rfl ?_); exact rfl)
        | ((with_reducible first | apply wops_guard | apply wdr_guard | apply wpc_test); focus (simp (disch := omega) only [go_sem, ↓reduceIte, simprocAttr, reduceCtorEq, hx, hy, hh4, hl4, hp3, hp2, hp1, hp0, wrap_u32, tn0, tn1, ge0, ge1, s1_hi p0 b0, s1_lo p0 b0, s1_hi p1 b1, s1_lo p1 b1, s1_hi p2 b2, s1_lo p2 b2, s1_hi p3 b3, s1_lo p3 b3, t1, t2, t3, t4, t5, t6, t7, t8]; with_reducible first | exact lit_t | exact lit_f))
        | ((with_reducible first | apply wops_gone | apply wdr_gone); focus (simp (disch := omega) only [go_sem, ↓reduceIte, simprocAttr, reduceCtorEq, hx, hy, hh4, hl4, hp3, hp2, hp1, hp0, wrap_u32, tn0, tn1, ge0, ge1, s1_hi p0 b0, s1_lo p0 b0, s1_hi p1 b1, s1_lo p1 b1, s1_hi p2 b2, s1_lo p2 b2, s1_hi p3 b3, s1_lo p3 b3, t1, t2, t3, t4, t5, t6, t7, t8]; done))
        | ((with_reducible first | apply wops_step | apply wops_do | apply wdr_step); focus (simp (disch := omega) only [go_sem, ↓reduceIte, simprocAttr, reduceCtorEq, hx, hy, hh4, hl4, hp3, hp2, hp1, hp0, wrap_u32, tn0, tn1, ge0, ge1, s1_hi p0 b0, s1_lo p0 b0, s1_hi p1 b1, s1_lo p1 b1, s1_hi p2 b2, s1_lo p2 b2, s1_hi p3 b3, s1_lo p3 b3, t1, t2, t3, t4, t5, t6, t7, t8]; first | with_reducible exact rfl | (rw [if_pos (by first | omega | (constructor <;> omega) | (simp; done) | assumption)]; first | with_reducible exact rfl | (try simp (disch := omega) only [go_sem, ↓reduceIte, simprocAttr, reduceCtorEq, hx, hy, hh4, hl4, hp3, hp2, hp1, hp0, wrap_u32, tn0, tn1, ge0, ge1, s1_hi p0 b0, s1_lo p0 b0, s1_hi p1 b1, s1_lo p1 b1, s1_hi p2 b2, s1_lo p2 b2, s1_hi p3 b3, s1_lo p3 b3, t1, t2, t3, t4, t5, t6, t7, t8]; with_reducible exact rfl))))
      with_reducible apply wdr_store
      · first | exact rfl | (simp (disch := omega) only [go_sem, ↓reduceIte, Nat.reduceEqDiff, Nat.reduceAdd, Nat.reduceSub, Nat.reduceMul, Nat.reduceLeDiff, Nat.reduceLT, Nat.reduceBEq, Nat.reduceBNe, Int.reduceToNat, Int.reduceLE, Int.reduceLT, Int.reduceNeg, Int.reduceEq, Int.reduceBEq, Int.reduceBNe, Int.reduceAdd, Int.reduceSub, Int.reduceMul, reduceCtorEq, hx, hy, hh4, hl4, hp3, hp2, hp1, hp0, wrap_u32, tn0, tn1, ge0, ge1, s1_hi p0 b0, s1_lo p0 b0, s1_hi p1 b1, s1_lo p1 b1, s1_hi p2 b2, s1_lo p2 b2, s1_hi p3 b3, s1_lo p3 b3, t1, t2, t3, t4, t5, t6, t7, t8]; exact rfl)
      · first | exact rfl | (simp (disch := omega) only [go_sem, ↓reduceIte, Nat.reduceEqDiff, Nat.reduceAdd, Nat.reduceSub, Nat.reduceMul, Nat.reduceLeDiff, Nat.reduceLT, Nat.reduceBEq, Nat.reduceBNe, Int.reduceToNat, Int.reduceLE, Int.reduceLT, Int.reduceNeg, Int.reduceEq, Int.reduceBEq, Int.reduceBNe, Int.reduceAdd, Int.reduceSub, Int.reduceMul, reduceCtorEq, hx, hy, hh4, hl4, hp3, hp2, hp1, hp0, wrap_u32, tn0, tn1, ge0, ge1, s1_hi p0 b0, s1_lo p0 b0, s1_hi p1 b1, s1_lo p1 b1, s1_hi p2 b2, s1_lo p2 b2, s1_hi p3 b3, s1_lo p3 b3, t1, t2, t3, t4, t5, t6, t7, t8]; exact rfl)
      · exact store_u8 (f := fbF u N (r - 5)) (i := r - 6) (x := (dchar (p2 / 10)).toNat) (by omega)
      rotate_left
      · exact fun h => Bool.noConfusion h
      rw [q5]
      repeat' first
        | with_reducible first | refine wpc_seq ?_ | refine wpc_ops ?_ | refine wops_nil ?_ | refine then_normal ?_ | refine wpc_block ?_ | refine block_normal ?_ | refine wpc_skip ?_ | refine wpc_exit ?_ | refine then_exit ?_ | refine block_exit_same ?_ | refine wpc_ret ?_ | refine then_ret ?_ | refine block_ret ?_ | refine wpc_draw ?_ | refine wdr_nil ?_ | refine gate_t ?_ | refine gate_f ?_ | refine gate_tt ?_ | refine gate_ff ?_ | refine gate_tf ?_ | refine gate_ft ?_ | exact keep_same | exact keep_true
        | (with_reducible refine block_exit_other ?_ ?_; decide)
        | ((with_reducible refine keep_rfl ?_); exact rfl)
        | ((with_reducible first | apply wops_guard | apply wdr_guard | apply wpc_test); focus (simp (disch := omega) only [go_sem, ↓reduceIte, simprocAttr, reduceCtorEq, hx, hy, hh4, hl4, hp3, hp2, hp1, hp0, wrap_u32, tn0, tn1, ge0, ge1, s1_hi p0 b0, s1_lo p0 b0, s1_hi p1 b1, s1_lo p1 b1, s1_hi p2 b2, s1_lo p2 b2, s1_hi p3 b3, s1_lo p3 b3, t1, t2, t3, t4, t5, t6, t7, t8]; with_reducible first | exact lit_t | exact lit_f))
        | ((with_reducible first | apply wops_gone | apply wdr_gone); focus (simp (disch := omega) only [go_sem, ↓reduceIte, simprocAttr, reduceCtorEq, hx, hy, hh4, hl4, hp3, hp2, hp1, hp0, wrap_u32, tn0, tn1, ge0, ge1, s1_hi p0 b0, s1_lo p0 b0, s1_hi p1 b1, s1_lo p1 b1, s1_hi p2 b2, s1_lo p2 b2, s1_hi p3 b3, s1_lo p3 b3, t1, t2, t3, t4, t5, t6, t7, t8]; done))
        | ((with_reducible first | apply wops_step | apply wops_do | apply wdr_step); focus (simp (disch := omega) only [go_sem, ↓reduceIte, simprocAttr, reduceCtorEq, hx, hy, hh4, hl4, hp3, hp2, hp1, hp0, wrap_u32, tn0, tn1, ge0, ge1, s1_hi p0 b0, s1_lo p0 b0, s1_hi p1 b1, s1_lo p1 b1, s1_hi p2 b2, s1_lo p2 b2, s1_hi p3 b3, s1_lo p3 b3, t1, t2, t3, t4, t5, t6, t7, t8]; first | with_reducible exact rfl | (rw [if_pos (by first | omega | (constructor <;> omega) | (simp; done) | assumption)]; first | with_reducible exact rfl | (try simp (disch := omega) only [go_sem, ↓reduceIte, simprocAttr, reduceCtorEq, hx, hy, hh4, hl4, hp3, hp2, hp1, hp0, wrap_u32, tn0, tn1, ge0, ge1, s1_hi p0 b0, s1_lo p0 b0, s1_hi p1 b1, s1_lo p1 b1, s1_hi p2 b2, s1_lo p2 b2, s1_hi p3 b3, s1_lo p3 b3, t1, t2, t3, t4, t5, t6, t7, t8]; with_reducible exact rfl))))
      with_reducible apply wdr_store
      · first | exact rfl | (simp (disch := omega) only [go_sem, ↓reduceIte, Nat.reduceEqDiff, Nat.reduceAdd, Nat.reduceSub, Nat.reduceMul, Nat.reduceLeDiff, Nat.reduceLT, Nat.reduceBEq, Nat.reduceBNe, Int.reduceToNat, Int.reduceLE, Int.reduceLT, Int.reduceNeg, Int.reduceEq, Int.reduceBEq, Int.reduceBNe, Int.reduceAdd, Int.reduceSub, Int.reduceMul, reduceCtorEq, hx, hy, hh4, hl4, hp3, hp2, hp1, hp0, wrap_u32, tn0, tn1, ge0, ge1, s1_hi p0 b0, s1_lo p0 b0, s1_hi p1 b1, s1_lo p1 b1, s1_hi p2 b2, s1_lo p2 b2, s1_hi p3 b3, s1_lo p3 b3, t1, t2, t3, t4, t5, t6, t7, t8]; exact rfl)
      · first | exact rfl | (simp (disch := omega) only [go_sem, ↓reduceIte, Nat.reduceEqDiff, Nat.reduceAdd, Nat.reduceSub, Nat.reduceMul, Nat.reduceLeDiff, Nat.reduceLT, Nat.reduceBEq, Nat.reduceBNe, Int.reduceToNat, Int.reduceLE, Int.reduceLT, Int.reduceNeg, Int.reduceEq, Int.reduceBEq, Int.reduceBNe, Int.reduceAdd, Int.reduceSub, Int.reduceMul, reduceCtorEq, hx, hy, hh4, hl4, hp3, hp2, hp1, hp0, wrap_u32, tn0, tn1, ge0, ge1, s1_hi p0 b0, s1_lo p0 b0, s1_hi p1 b1, s1_lo p1 b1, s1_hi p2 b2, s1_lo p2 b2, s1_hi p3 b3, s1_lo p3 b3, t1, t2, t3, t4, t5, t6, t7, t8]; exact rfl)
      · exact store_u8 (f := fbF u N (r - 6)) (i := r - 7) (x := (dchar (p3 % 10)).toNat) (by omega)
      rotate_left
      · exact fun h => Bool.noConfusion h
      rw [q6]
      repeat' first
        | with_reducible first | refine wpc_seq ?_ | refine wpc_ops ?_ | refine wops_nil ?_ | refine then_normal ?_ | refine wpc_block ?_ | refine block_normal ?_ | refine wpc_skip ?_ | refine wpc_exit ?_ | refine then_exit ?_ | refine block_exit_same ?_ | refine wpc_ret ?_ | refine then_ret ?_ | refine block_ret ?_ | refine wpc_draw ?_ | refine wdr_nil ?_ | refine gate_t ?_ | refine gate_f ?_ | refine gate_tt ?_ | refine gate_ff ?_ | refine gate_tf ?_ | refine gate_ft ?_ | exact keep_same | exact keep_true
        | (with_reducible refine block_exit_other ?_ ?_; decide)
        | ((with_reducible refine keep_rfl ?_); exact rfl)
        | ((with_reducible first | apply wops_guard | apply wdr_guard | apply wpc_test); focus (simp (disch := omega) only [go_sem, ↓reduceIte, simprocAttr, reduceCtorEq, hx, hy, hh4, hl4, hp3, hp2, hp1, hp0, wrap_u32, tn0, tn1, ge0, ge1, s1_hi p0 b0, s1_lo p0 b0, s1_hi p1 b1, s1_lo p1 b1, s1_hi p2 b2, s1_lo p2 b2, s1_hi p3 b3, s1_lo p3 b3, t1, t2, t3, t4, t5, t6, t7, t8]; with_reducible first | exact lit_t | exact lit_f))
        | ((with_reducible first | apply wops_gone | apply wdr_gone); focus (simp (disch := omega) only [go_sem, ↓reduceIte, simprocAttr, reduceCtorEq, hx, hy, hh4, hl4, hp3, hp2, hp1, hp0, wrap_u32, tn0, tn1, ge0, ge1, s1_hi p0 b0, s1_lo p0 b0, s1_hi p1 b1, s1_lo p1 b1, s1_hi p2 b2, s1_lo p2 b2, s1_hi p3 b3, s1_lo p3 b3, t1, t2, t3, t4, t5, t6, t7, t8]; done))
        | ((with_reducible first | apply wops_step | apply wops_do | apply wdr_step); focus (simp (disch := omega) only [go_sem, ↓reduceIte, simprocAttr, reduceCtorEq, hx, hy, hh4, hl4, hp3, hp2, hp1, hp0, wrap_u32, tn0, tn1, ge0, ge1, s1_hi p0 b0, s1_lo p0 b0, s1_hi p1 b1, s1_lo p1 b1, s1_hi p2 b2, s1_lo p2 b2, s1_hi p3 b3, s1_lo p3 b3, t1, t2, t3, t4, t5, t6, t7, t8]; first | with_reducible exact rfl | (rw [if_pos (by first | omega | (constructor <;> omega) | (simp; done) | assumption)]; first | with_reducible exact rfl | (try simp (disch := omega) only [go_sem, ↓reduceIte, simprocAttr, reduceCtorEq, hx, hy, hh4, hl4, hp3, hp2, hp1, hp0, wrap_u32, tn0, tn1, ge0, ge1, s1_hi p0 b0, s1_lo p0 b0, s1_hi p1 b1, s1_lo p1 b1, s1_hi p2 b2, s1_lo p2 b2, s1_hi p3 b3, s1_lo p3 b3, t1, t2, t3, t4, t5, t6, t7, t8]; with_reducible exact rfl))))
      with_reducible apply wdr_store
      · first | exact rfl | (simp (disch := omega) only [go_sem, ↓reduceIte, Nat.reduceEqDiff, Nat.reduceAdd, Nat.reduceSub, Nat.reduceMul, Nat.reduceLeDiff, Nat.reduceLT, Nat.reduceBEq, Nat.reduceBNe, Int.reduceToNat, Int.reduceLE, Int.reduceLT, Int.reduceNeg, Int.reduceEq, Int.reduceBEq, Int.reduceBNe, Int.reduceAdd, Int.reduceSub, Int.reduceMul, reduceCtorEq, hx, hy, hh4, hl4, hp3, hp2, hp1, hp0, wrap_u32, tn0, tn1, ge0, ge1, s1_hi p0 b0, s1_lo p0 b0, s1_hi p1 b1, s1_lo p1 b1, s1_hi p2 b2, s1_lo p2 b2, s1_hi p3 b3, s1_lo p3 b3, t1, t2, t3, t4, t5, t6, t7, t8]; exact rfl)
      · first | exact rfl | (simp (disch := omega) only [go_sem, ↓reduceIte, Nat.reduceEqDiff, Nat.reduceAdd, Nat.reduceSub, Nat.reduceMul, Nat.reduceLeDiff, Nat.reduceLT, Nat.reduceBEq, Nat.reduceBNe, Int.reduceToNat, Int.reduceLE, Int.reduceLT, Int.reduceNeg, Int.reduceEq, Int.reduceBEq, Int.reduceBNe, Int.reduceAdd, Int.reduceSub, Int.reduceMul, reduceCtorEq, hx, hy, hh4, hl4, hp3, hp2, hp1, hp0, wrap_u32, tn0, tn1, ge0, ge1, s1_hi p0 b0, s1_lo p0 b0, s1_hi p1 b1, s1_lo p1 b1, s1_hi p2 b2, s1_lo p2 b2, s1_hi p3 b3, s1_lo p3 b3, t1, t2, t3, t4, t5, t6, t7, t8]; exact rfl)
      · exact store_u8 (f := fbF u N (r - 7)) (i := r - 8) (x := (dchar (p3 / 10)).toNat) (by omega)
      rotate_left
      · exact fun h => Bool.noConfusion h
      rw [q7]
      repeat' first
        | with_reducible first | refine wpc_seq ?_ | refine wpc_ops ?_ | refine wops_nil ?_ | refine then_normal ?_ | refine wpc_block ?_ | refine block_normal ?_ | refine wpc_skip ?_ | refine wpc_exit ?_ | refine then_exit ?_ | refine block_exit_same ?_ | refine wpc_ret ?_ | refine then_ret ?_ | refine block_ret ?_ | refine wpc_draw ?_ | refine wdr_nil ?_ | refine gate_t ?_ | refine gate_f ?_ | refine gate_tt ?_ | refine gate_ff ?_ | refine gate_tf ?_ | refine gate_ft ?_ | exact keep_same | exact keep_true
        | (with_reducible refine block_exit_other ?_ ?_; decide)
        | ((with_reducible refine keep_rfl ?_); exact rfl)
        | ((with_reducible first | apply wops_guard | apply wdr_guard | apply wpc_test); focus (simp (disch := omega) only [go_sem, ↓reduceIte, simprocAttr, reduceCtorEq, hx, hy, hh4, hl4, hp3, hp2, hp1, hp0, wrap_u32, tn0, tn1, ge0, ge1, s1_hi p0 b0, s1_lo p0 b0, s1_hi p1 b1, s1_lo p1 b1, s1_hi p2 b2, s1_lo p2 b2, s1_hi p3 b3, s1_lo p3 b3, t1, t2, t3, t4, t5, t6, t7, t8]; with_reducible first | exact lit_t | exact lit_f))
        | ((with_reducible first | apply wops_gone | apply wdr_gone); focus (simp (disch := omega) only [go_sem, ↓reduceIte, simprocAttr, reduceCtorEq, hx, hy, hh4, hl4, hp3, hp2, hp1, hp0, wrap_u32, tn0, tn1, ge0, ge1, s1_hi p0 b0, s1_lo p0 b0, s1_hi p1 b1, s1_lo p1 b1, s1_hi p2 b2, s1_lo p2 b2, s1_hi p3 b3, s1_lo p3 b3, t1, t2, t3, t4, t5, t6, t7, t8]; done))
        | ((with_reducible first | apply wops_step | apply wops_do | apply wdr_step); focus (simp (disch := omega) only [go_sem, ↓reduceIte, simprocAttr, reduceCtorEq, hx, hy, hh4, hl4, hp3, hp2, hp1, hp0, wrap_u32, tn0, tn1, ge0, ge1, s1_hi p0 b0, s1_lo p0 b0, s1_hi p1 b1, s1_lo p1 b1, s1_hi p2 b2, s1_lo p2 b2, s1_hi p3 b3, s1_lo p3 b3, t1, t2, t3, t4, t5, t6, t7, t8]; first | with_reducible exact rfl | (rw [if_pos (by first | omega | (constructor <;> omega) | (simp; done) | assumption)]; first | with_reducible exact rfl | (try simp (disch := omega) only [go_sem, ↓reduceIte, simprocAttr, reduceCtorEq, hx, hy, hh4, hl4, hp3, hp2, hp1, hp0, wrap_u32, tn0, tn1, ge0, ge1, s1_hi p0 b0, s1_lo p0 b0, s1_hi p1 b1, s1_lo p1 b1, s1_hi p2 b2, s1_lo p2 b2, s1_hi p3 b3, s1_lo p3 b3, t1, t2, t3, t4, t5, t6, t7, t8]; with_reducible exact rfl))))
      refine hK (r - 8, y) _ _ [] (by exact ⟨by simp only; omega, hy', by64⟩) (by simp only; omega) (by simp) ?_
      (repeat' (first | exact trivial | refine And.intro (And.intro ?_ ?_) ?_)) <;> first | exact rfl | (simp (disch := omega) only [go_sem, ↓reduceIte, simprocAttr, reduceCtorEq, hr', EV.ok, okL_tab_int, okL_tab_bool, okL_app, okL, decide_eq_true_eq, EV.int.injEq]; done) | (simp (disch := omega) only [go_sem, ↓reduceIte, simprocAttr, reduceCtorEq, hr', EV.ok, okL_tab_int, okL_tab_bool, okL_app, okL, decide_eq_true_eq, EV.int.injEq] <;> first | exact rfl | omega)
    · have hr8 : r < 8 := by have := of_decide_eq_false hc; omega
      have hvr : v < 10 ^ r := by
        rw [← hv]
        refine (Nat.div_lt_iff_lt_mul (Nat.pow_pos (by omega))).2 ?_
        rw [← Nat.pow_add, show r + (N - r) = N by omega]
        exact huN
      have hv8 : v < 100000000 := Nat.lt_of_lt_of_le hvr (Nat.pow_le_pow_right (by omega) (show r ≤ 8 by omega))
      repeat' first
        | with_reducible first | refine wpc_seq ?_ | refine wpc_ops ?_ | refine wops_nil ?_ | refine then_normal ?_ | refine wpc_block ?_ | refine block_normal ?_ | refine wpc_skip ?_ | refine wpc_exit ?_ | refine then_exit ?_ | refine block_exit_same ?_ | refine wpc_ret ?_ | refine then_ret ?_ | refine block_ret ?_ | refine wpc_draw ?_ | refine wdr_nil ?_ | refine gate_t ?_ | refine gate_f ?_ | refine gate_tt ?_ | refine gate_ff ?_ | refine gate_tf ?_ | refine gate_ft ?_ | exact keep_same | exact keep_true
        | (with_reducible refine block_exit_other ?_ ?_; decide)
        | ((with_reducible refine keep_rfl ?_); exact rfl)
        | ((with_reducible first | apply wops_guard | apply wdr_guard | apply wpc_test); focus (simp (disch := omega) only [go_sem, ↓reduceIte, simprocAttr, reduceCtorEq]; with_reducible first | exact lit_t | exact lit_f))
        | ((with_reducible first | apply wops_gone | apply wdr_gone); focus (simp (disch := omega) only [go_sem, ↓reduceIte, simprocAttr, reduceCtorEq]; done))
        | ((with_reducible first | apply wops_step | apply wops_do | apply wdr_step); focus (simp (disch := omega) only [go_sem, ↓reduceIte, simprocAttr, reduceCtorEq]; first | with_reducible exact rfl | (rw [if_pos (by first | omega | (constructor <;> omega) | (simp; done) | assumption)]; first | with_reducible exact rfl | (try simp (disch := omega) only [go_sem, ↓reduceIte, simprocAttr, reduceCtorEq]; with_reducible exact rfl))))
      refine hQ' _ _ _ ?_
      repeat' first
        | with_reducible first | refine wpc_seq ?_ | refine wpc_ops ?_ | refine wops_nil ?_ | refine then_normal ?_ | refine wpc_block ?_ | refine block_normal ?_ | refine wpc_skip ?_ | refine wpc_exit ?_ | refine then_exit ?_ | refine block_exit_same ?_ | refine wpc_ret ?_ | refine then_ret ?_ | refine block_ret ?_ | refine wpc_draw ?_ | refine wdr_nil ?_ | refine gate_t ?_ | refine gate_f ?_ | refine gate_tt ?_ | refine gate_ff ?_ | refine gate_tf ?_ | refine gate_ft ?_ | exact keep_same | exact keep_true
        | (with_reducible refine block_exit_other ?_ ?_; decide)
        | ((with_reducible refine keep_rfl ?_); exact rfl)
        | ((with_reducible first | apply wops_guard | apply wdr_guard | apply wpc_test); focus (simp (disch := omega) only [go_sem, ↓reduceIte, simprocAttr, reduceCtorEq, wrap_u32]; with_reducible first | exact lit_t | exact lit_f))
        | ((with_reducible first | apply wops_gone | apply wdr_gone); focus (simp (disch := omega) only [go_sem, ↓reduceIte, simprocAttr, reduceCtorEq, wrap_u32]; done))
        | ((with_reducible first | apply wops_step | apply wops_do | apply wdr_step); focus (simp (disch := omega) only [go_sem, ↓reduceIte, simprocAttr, reduceCtorEq, wrap_u32]; first | with_reducible exact rfl | (rw [if_pos (by first | omega | (constructor <;> omega) | (simp; done) | assumption)]; first | with_reducible exact rfl | (try simp (disch := omega) only [go_sem, ↓reduceIte, simprocAttr, reduceCtorEq, wrap_u32]; with_reducible exact rfl))))
      by_cases c4 : 4 ≤ r
      · obtain ⟨a, ha⟩ : ∃ p, v % 10000 = p := ⟨_, rfl⟩
        obtain ⟨v4, hv4⟩ : ∃ y, v / 10000 = y := ⟨_, rfl⟩
        obtain ⟨p0, hp0⟩ : ∃ p, a % 100 = p := ⟨_, rfl⟩
        obtain ⟨p1, hp1⟩ : ∃ p, a / 100 = p := ⟨_, rfl⟩
        have ba : a < 10000 := by omega
        have b0 : p0 < 100 := by omega
        have b1 : p1 < 100 := by omega
        have hu4 : u / 10 ^ (N - (r - 4)) = v4 := by rw [div_more hv 4 c4 hr]; exact hv4
        have hvr4 : v4 < 10 ^ (r - 4) := by
          rw [← hv4]
          refine (Nat.div_lt_iff_lt_mul (by omega)).2 ?_
          rw [show (10000 : Nat) = 10 ^ 4 by decide, ← Nat.pow_add, show r - 4 + 4 = r by omega]
          exact hvr
        have qa0 : updN (fbF u N r) (r - 1) (dchar (p0 % 10)).toNat = fbF u N (r - 1) := fb_upd (by omega) (by omega) (by rw [hv]; omega)
        have qa1 : updN (fbF u N (r - 1)) (r - 2) (dchar (p0 / 10)).toNat = fbF u N (r - 2) := fb_upd (by omega) (by omega) (by rw [div_more hv 1 (by omega) hr]; omega)
        have qa2 : updN (fbF u N (r - 2)) (r - 3) (dchar (p1 % 10)).toNat = fbF u N (r - 3) := fb_upd (by omega) (by omega) (by rw [div_more hv 2 (by omega) hr]; omega)
        have qa3 : updN (fbF u N (r - 3)) (r - 4) (dchar (p1 / 10)).toNat = fbF u N (r - 4) := fb_upd (by omega) (by omega) (by rw [div_more hv 3 (by omega) hr]; omega)
        have ta1 : ((r : Int) - 1).toNat = r - 1 := by omega
        have ta2 : ((r : Int) - 2).toNat = r - 2 := by omega
        have ta3 : ((r : Int) - 3).toNat = r - 3 := by omega
        have ta4 : ((r : Int) - 4).toNat = r - 4 := by omega
        repeat' first
          | with_reducible first | refine wpc_seq ?_ | refine wpc_ops ?_ | refine wops_nil ?_ | refine then_normal ?_ | refine wpc_block ?_ | refine block_normal ?_ | refine wpc_skip ?_ | refine wpc_exit ?_ | refine then_exit ?_ | refine block_exit_same ?_ | refine wpc_ret ?_ | refine then_ret ?_ | refine block_ret ?_ | refine wpc_draw ?_ | refine wdr_nil ?_ | refine gate_t ?_ | refine gate_f ?_ | refine gate_tt ?_ | refine gate_ff ?_ | refine gate_tf ?_ | refine gate_ft ?_ | exact keep_same | exact keep_true
          | (with_reducible refine block_exit_other ?_ ?_; decide)
          | ((with_reducible refine keep_rfl ?_); exact rfl)
          | ((with_reducible first | apply wops_guard | apply wdr_guard | apply wpc_test); focus (simp (disch := omega) only [go_sem, ↓reduceIte, simprocAttr, reduceCtorEq, wrap_u32, tn0, tn1, ge0, ge1, ha, hv4, hp0, hp1, decide_eq_true, decide_eq_false, s1_hi p0 b0, s1_lo p0 b0, s1_hi p1 b1, s1_lo p1 b1, ta1, ta2, ta3, ta4]; with_reducible first | exact lit_t | exact lit_f))
          | ((with_reducible first | apply wops_gone | apply wdr_gone); focus (simp (disch := omega) only [go_sem, ↓reduceIte, simprocAttr, reduceCtorEq, wrap_u32, tn0, tn1, ge0, ge1, ha, hv4, hp0, hp1, decide_eq_true, decide_eq_false, s1_hi p0 b0, s1_lo p0 b0, s1_hi p1 b1, s1_lo p1 b1, ta1, ta2, ta3, ta4]; done))
          | ((with_reducible first | apply wops_step | apply wops_do | apply wdr_step); focus (simp (disch := omega) only [go_sem, ↓reduceIte, simprocAttr, reduceCtorEq, wrap_u32, tn0, tn1, ge0, ge1, ha, hv4, hp0, hp1, decide_eq_true, decide_eq_false, s1_hi p0 b0, s1_lo p0 b0, s1_hi p1 b1, s1_lo p1 b1, ta1, ta2, ta3, ta4]; first | with_reducible exact rfl | (rw [if_pos (by first | omega | (constructor <;> omega) | (simp; done) | assumption)]; first | with_reducible exact rfl | (try simp (disch := omega) only [go_sem, ↓reduceIte, simprocAttr, reduceCtorEq, wrap_u32, tn0, tn1, ge0, ge1, ha, hv4, hp0, hp1, decide_eq_true, decide_eq_false, s1_hi p0 b0, s1_lo p0 b0, s1_hi p1 b1, s1_lo p1 b1, ta1, ta2, ta3, ta4]; with_reducible exact rfl))))
        with_reducible apply wdr_store
        · first | exact rfl | (simp (disch := omega) only [go_sem, ↓reduceIte, Nat.reduceEqDiff, Nat.reduceAdd, Nat.reduceSub, Nat.reduceMul, Nat.reduceLeDiff, Nat.reduceLT, Nat.reduceBEq, Nat.reduceBNe, Int.reduceToNat, Int.reduceLE, Int.reduceLT, Int.reduceNeg, Int.reduceEq, Int.reduceBEq, Int.reduceBNe, Int.reduceAdd, Int.reduceSub, Int.reduceMul, reduceCtorEq, wrap_u32, tn0, tn1, ge0, ge1, ha, hv4, hp0, hp1, decide_eq_true, decide_eq_false, s1_hi p0 b0, s1_lo p0 b0, s1_hi p1 b1, s1_lo p1 b1, ta1, ta2, ta3, ta4]; exact rfl)
        · first | exact rfl | (simp (disch := omega) only [go_sem, ↓reduceIte, Nat.reduceEqDiff, Nat.reduceAdd, Nat.reduceSub, Nat.reduceMul, Nat.reduceLeDiff, Nat.reduceLT, Nat.reduceBEq, Nat.reduceBNe, Int.reduceToNat, Int.reduceLE, Int.reduceLT, Int.reduceNeg, Int.reduceEq, Int.reduceBEq, Int.reduceBNe, Int.reduceAdd, Int.reduceSub, Int.reduceMul, reduceCtorEq, wrap_u32, tn0, tn1, ge0, ge1, ha, hv4, hp0, hp1, decide_eq_true, decide_eq_false, s1_hi p0 b0, s1_lo p0 b0, s1_hi p1 b1, s1_lo p1 b1, ta1, ta2, ta3, ta4]; exact rfl)
        · exact store_u8 (f := fbF u N r) (i := r - 1) (x := (dchar (p0 % 10)).toNat) (by omega)
        rotate_left
        · exact fun h => Bool.noConfusion h
        rw [qa0]
        repeat' first
          | with_reducible first | refine wpc_seq ?_ | refine wpc_ops ?_ | refine wops_nil ?_ | refine then_normal ?_ | refine wpc_block ?_ | refine block_normal ?_ | refine wpc_skip ?_ | refine wpc_exit ?_ | refine then_exit ?_ | refine block_exit_same ?_ | refine wpc_ret ?_ | refine then_ret ?_ | refine block_ret ?_ | refine wpc_draw ?_ | refine wdr_nil ?_ | refine gate_t ?_ | refine gate_f ?_ | refine gate_tt ?_ | refine gate_ff ?_ | refine gate_tf ?_ | refine gate_ft ?_ | exact keep_same | exact keep_true
          | (with_reducible refine block_exit_other ?_ ?_; decide)
          | ((with_reducible refine keep_rfl ?_); exact rfl)
          | ((with_reducible first | apply wops_guard | apply wdr_guard | apply wpc_test); focus (simp (disch := omega) only [go_sem, ↓reduceIte, simprocAttr, reduceCtorEq, wrap_u32, tn0, tn1, ge0, ge1, ha, hv4, hp0, hp1, decide_eq_true, decide_eq_false, s1_hi p0 b0, s1_lo p0 b0, s1_hi p1 b1, s1_lo p1 b1, ta1, ta2, ta3, ta4]; with_reducible first | exact lit_t | exact lit_f))
          | ((with_reducible first | apply wops_gone | apply wdr_gone); focus (simp (disch := omega) only [go_sem, ↓reduceIte, simprocAttr, reduceCtorEq, wrap_u32, tn0, tn1, ge0, ge1, ha, hv4, hp0, hp1, decide_eq_true, decide_eq_false, s1_hi p0 b0, s1_lo p0 b0, s1_hi p1 b1, s1_lo p1 b1, ta1, ta2, ta3, ta4]; done))
          | ((with_reducible first | apply wops_step | apply wops_do | apply wdr_step); focus (simp (disch := omega) only [go_sem, ↓reduceIte, simprocAttr, reduceCtorEq, wrap_u32, tn0, tn1, ge0, ge1, ha, hv4, hp0, hp1, decide_eq_true, decide_eq_false, s1_hi p0 b0, s1_lo p0 b0, s1_hi p1 b1, s1_lo p1 b1, ta1, ta2, ta3, ta4]; first | with_reducible exact rfl | (rw [if_pos (by first | omega | (constructor <;> omega) | (simp; done) | assumption)]; first | with_reducible exact rfl | (try simp (disch := omega) only [go_sem, ↓reduceIte, simprocAttr, reduceCtorEq, wrap_u32, tn0, tn1, ge0, ge1, ha, hv4, hp0, hp1, decide_eq_true, decide_eq_false, s1_hi p0 b0, s1_lo p0 b0, s1_hi p1 b1, s1_lo p1 b1, ta1, ta2, ta3, ta4]; with_reducible exact rfl))))
        with_reducible apply wdr_store
        · first | exact rfl | (simp (disch := omega) only [go_sem, ↓reduceIte, Nat.reduceEqDiff, Nat.reduceAdd, Nat.reduceSub, Nat.reduceMul, Nat.reduceLeDiff, Nat.reduceLT, Nat.reduceBEq, Nat.reduceBNe, Int.reduceToNat, Int.reduceLE, Int.reduceLT, Int.reduceNeg, Int.reduceEq, Int.reduceBEq, Int.reduceBNe, Int.reduceAdd, Int.reduceSub, Int.reduceMul, reduceCtorEq, wrap_u32, tn0, tn1, ge0, ge1, ha, hv4, hp0, hp1, decide_eq_true, decide_eq_false, s1_hi p0 b0, s1_lo p0 b0, s1_hi p1 b1, s1_lo p1 b1, ta1, ta2, ta3, ta4]; exact rfl)
        · first | exact rfl | (simp (disch := omega) only [go_sem, ↓reduceIte, Nat.reduceEqDiff, Nat.reduceAdd, Nat.reduceSub, Nat.reduceMul, Nat.reduceLeDiff, Nat.reduceLT, Nat.reduceBEq, Nat.reduceBNe, Int.reduceToNat, Int.reduceLE, Int.reduceLT, Int.reduceNeg, Int.reduceEq, Int.reduceBEq, Int.reduceBNe, Int.reduceAdd, Int.reduceSub, Int.reduceMul, reduceCtorEq, wrap_u32, tn0, tn1, ge0, ge1, ha, hv4, hp0, hp1, decide_eq_true, decide_eq_false, s1_hi p0 b0, s1_lo p0 b0, s1_hi p1 b1, s1_lo p1 b1, ta1, ta2, ta3, ta4]; exact rfl)
        · exact store_u8 (f := fbF u N (r - 1)) (i := r - 2) (x := (dchar (p0 / 10)).toNat) (by omega)
        rotate_left
        · exact fun h => Bool.noConfusion h
        rw [qa1]
        repeat' first
          | with_reducible first | refine wpc_seq ?_ | refine wpc_ops ?_ | refine wops_nil ?_ | refine then_normal ?_ | refine wpc_block ?_ | refine block_normal ?_ | refine wpc_skip ?_ | refine wpc_exit ?_ | refine then_exit ?_ | refine block_exit_same ?_ | refine wpc_ret ?_ | refine then_ret ?_ | refine block_ret ?_ | refine wpc_draw ?_ | refine wdr_nil ?_ | refine gate_t ?_ | refine gate_f ?_ | refine gate_tt ?_ | refine gate_ff ?_ | refine gate_tf ?_ | refine gate_ft ?_ | exact keep_same | exact keep_true
          | (with_reducible refine block_exit_other ?_ ?_; decide)
          | ((with_reducible refine keep_rfl ?_); exact rfl)
          | ((with_reducible first | apply wops_guard | apply wdr_guard | apply wpc_test); focus (simp (disch := omega) only [go_sem, ↓reduceIte, simprocAttr, reduceCtorEq, wrap_u32, tn0, tn1, ge0, ge1, ha, hv4, hp0, hp1, decide_eq_true, decide_eq_false, s1_hi p0 b0, s1_lo p0 b0, s1_hi p1 b1, s1_lo p1 b1, ta1, ta2, ta3, ta4]; with_reducible first | exact lit_t | exact lit_f))
          | ((with_reducible first | apply wops_gone | apply wdr_gone); focus (simp (disch := omega) only [go_sem, ↓reduceIte, simprocAttr, reduceCtorEq, wrap_u32, tn0, tn1, ge0, ge1, ha, hv4, hp0, hp1, decide_eq_true, decide_eq_false, s1_hi p0 b0, s1_lo p0 b0, s1_hi p1 b1, s1_lo p1 b1, ta1, ta2, ta3, ta4]; done))
          | ((with_reducible first | apply wops_step | apply wops_do | apply wdr_step); focus (simp (disch := omega) only [go_sem, ↓reduceIte, simprocAttr, reduceCtorEq, wrap_u32, tn0, tn1, ge0, ge1, ha, hv4, hp0, hp1, decide_eq_true, decide_eq_false, s1_hi p0 b0, s1_lo p0 b0, s1_hi p1 b1, s1_lo p1 b1, ta1, ta2, ta3, ta4]; first | with_reducible exact rfl | (rw [if_pos (by first | omega | (constructor <;> omega) | (simp; done) | assumption)]; first | with_reducible exact rfl | (try simp (disch := omega) only [go_sem, ↓reduceIte, simprocAttr, reduceCtorEq, wrap_u32, tn0, tn1, ge0, ge1, ha, hv4, hp0, hp1, decide_eq_true, decide_eq_false, s1_hi p0 b0, s1_lo p0 b0, s1_hi p1 b1, s1_lo p1 b1, ta1, ta2, ta3, ta4]; with_reducible exact rfl))))
        with_reducible apply wdr_store
        · first | exact rfl | (simp (disch := omega) only [go_sem, ↓reduceIte, Nat.reduceEqDiff, Nat.reduceAdd, Nat.reduceSub, Nat.reduceMul, Nat.reduceLeDiff, Nat.reduceLT, Nat.reduceBEq, Nat.reduceBNe, Int.reduceToNat, Int.reduceLE, Int.reduceLT, Int.reduceNeg, Int.reduceEq, Int.reduceBEq, Int.reduceBNe, Int.reduceAdd, Int.reduceSub, Int.reduceMul, reduceCtorEq, wrap_u32, tn0, tn1, ge0, ge1, ha, hv4, hp0, hp1, decide_eq_true, decide_eq_false, s1_hi p0 b0, s1_lo p0 b0, s1_hi p1 b1, s1_lo p1 b1, ta1, ta2, ta3, ta4]; exact rfl)
        · first | exact rfl | (simp (disch := omega) only [go_sem, ↓reduceIte, Nat.reduceEqDiff, Nat.reduceAdd, Nat.reduceSub, Nat.reduceMul, Nat.reduceLeDiff, Nat.reduceLT, Nat.reduceBEq, Nat.reduceBNe, Int.reduceToNat, Int.reduceLE, Int.reduceLT, Int.reduceNeg, Int.reduceEq, Int.reduceBEq, Int.reduceBNe, Int.reduceAdd, Int.reduceSub, Int.reduceMul, reduceCtorEq, wrap_u32, tn0, tn1, ge0, ge1, ha, hv4, hp0, hp1, decide_eq_true, decide_eq_false, s1_hi p0 b0, s1_lo p0 b0, s1_hi p1 b1, s1_lo p1 b1, ta1, ta2, ta3, ta4]; exact rfl)
        · exact store_u8 (f := fbF u N (r - 2)) (i := r - 3) (x := (dchar (p1 % 10)).toNat) (by omega)
        rotate_left
        · exact fun h => Bool.noConfusion h
        rw [qa2]
        repeat' first
          | with_reducible first | refine wpc_seq ?_ | refine wpc_ops ?_ | refine wops_nil ?_ | refine then_normal ?_ | refine wpc_block ?_ | refine block_normal ?_ | refine wpc_skip ?_ | refine wpc_exit ?_ | refine then_exit ?_ | refine block_exit_same ?_ | refine wpc_ret ?_ | refine then_ret ?_ | refine block_ret ?_ | refine wpc_draw ?_ | refine wdr_nil ?_ | refine gate_t ?_ | refine gate_f ?_ | refine gate_tt ?_ | refine gate_ff ?_ | refine gate_tf ?_ | refine gate_ft ?_ | exact keep_same | exact keep_true
          | (with_reducible refine block_exit_other ?_ ?_; decide)
          | ((with_reducible refine keep_rfl ?_); exact rfl)
          | ((with_reducible first | apply wops_guard | apply wdr_guard | apply wpc_test); focus (simp (disch := omega) only [go_sem, ↓reduceIte, simprocAttr, reduceCtorEq, wrap_u32, tn0, tn1, ge0, ge1, ha, hv4, hp0, hp1, decide_eq_true, decide_eq_false, s1_hi p0 b0, s1_lo p0 b0, s1_hi p1 b1, s1_lo p1 b1, ta1, ta2, ta3, ta4]; with_reducible first | exact lit_t | exact lit_f))
          | ((with_reducible first | apply wops_gone | apply wdr_gone); focus (simp (disch := omega) only [go_sem, ↓reduceIte, simprocAttr, reduceCtorEq, wrap_u32, tn0, tn1, ge0, ge1, ha, hv4, hp0, hp1, decide_eq_true, decide_eq_false, s1_hi p0 b0, s1_lo p0 b0, s1_hi p1 b1, s1_lo p1 b1, ta1, ta2, ta3, ta4]; done))
          | ((with_reducible first | apply wops_step | apply wops_do | apply wdr_step); focus (simp (disch := omega) only [go_sem, ↓reduceIte, simprocAttr, reduceCtorEq, wrap_u32, tn0, tn1, ge0, ge1, ha, hv4, hp0, hp1, decide_eq_true, decide_eq_false, s1_hi p0 b0, s1_lo p0 b0, s1_hi p1 b1, s1_lo p1 b1, ta1, ta2, ta3, ta4]; first | with_reducible exact rfl | (rw [if_pos (by first | omega | (constructor <;> omega) | (simp; done) | assumption)]; first | with_reducible exact rfl | (try simp (disch := omega) only [go_sem, ↓reduceIte, simprocAttr, reduceCtorEq, wrap_u32, tn0, tn1, ge0, ge1, ha, hv4, hp0, hp1, decide_eq_true, decide_eq_false, s1_hi p0 b0, s1_lo p0 b0, s1_hi p1 b1, s1_lo p1 b1, ta1, ta2, ta3, ta4]; with_reducible exact rfl))))
        with_reducible apply wdr_store
        · first | exact rfl | (simp (disch := omega) only [go_sem, ↓reduceIte, Nat.reduceEqDiff, Nat.reduceAdd, Nat.reduceSub, Nat.reduceMul, Nat.reduceLeDiff, Nat.reduceLT, Nat.reduceBEq, Nat.reduceBNe, Int.reduceToNat, Int.reduceLE, Int.reduceLT, Int.reduceNeg, Int.reduceEq, Int.reduceBEq, Int.reduceBNe, Int.reduceAdd, Int.reduceSub, Int.reduceMul, reduceCtorEq, wrap_u32, tn0, tn1, ge0, ge1, ha, hv4, hp0, hp1, decide_eq_true, decide_eq_false, s1_hi p0 b0, s1_lo p0 b0, s1_hi p1 b1, s1_lo p1 b1, ta1, ta2, ta3, ta4]; exact rfl)
        · first | exact rfl | (simp (disch := omega) only [go_sem, ↓reduceIte, Nat.reduceEqDiff, Nat.reduceAdd, Nat.reduceSub, Nat.reduceMul, Nat.reduceLeDiff, Nat.reduceLT, Nat.reduceBEq, Nat.reduceBNe, Int.reduceToNat, Int.reduceLE, Int.reduceLT, Int.reduceNeg, Int.reduceEq, Int.reduceBEq, Int.reduceBNe, Int.reduceAdd, Int.reduceSub, Int.reduceMul, reduceCtorEq, wrap_u32, tn0, tn1, ge0, ge1, ha, hv4, hp0, hp1, decide_eq_true, decide_eq_false, s1_hi p0 b0, s1_lo p0 b0, s1_hi p1 b1, s1_lo p1 b1, ta1, ta2, ta3, ta4]; exact rfl)
        · exact store_u8 (f := fbF u N (r - 3)) (i := r - 4) (x := (dchar (p1 / 10)).toNat) (by omega)
        rotate_left
        · exact fun h => Bool.noConfusion h
        rw [qa3]
        obtain ⟨r4, hr4⟩ : ∃ r4, r - 4 = r4 := ⟨_, rfl⟩
        have hri4 : (r : Int) - 4 = (r4 : Int) := by omega
        rw [hr4] at hu4 hvr4 ⊢
        have hrl4 : r4 < 4 := by omega
        have hr4N : r4 ≤ N := by omega
        have hv48 : v4 < 100000000 := by omega
        repeat' first
          | with_reducible first | refine wpc_seq ?_ | refine wpc_ops ?_ | refine wops_nil ?_ | refine then_normal ?_ | refine wpc_block ?_ | refine block_normal ?_ | refine wpc_skip ?_ | refine wpc_exit ?_ | refine then_exit ?_ | refine block_exit_same ?_ | refine wpc_ret ?_ | refine then_ret ?_ | refine block_ret ?_ | refine wpc_draw ?_ | refine wdr_nil ?_ | refine gate_t ?_ | refine gate_f ?_ | refine gate_tt ?_ | refine gate_ff ?_ | refine gate_tf ?_ | refine gate_ft ?_ | exact keep_same | exact keep_true
          | (with_reducible refine block_exit_other ?_ ?_; decide)
          | ((with_reducible refine keep_rfl ?_); exact rfl)
          | ((with_reducible first | apply wops_guard | apply wdr_guard | apply wpc_test); focus (simp (disch := omega) only [go_sem, ↓reduceIte, simprocAttr, reduceCtorEq, hri4, wrap_u32, tn0, tn1, ge0, ge1, ha, hv4, hp0, hp1, decide_eq_true, decide_eq_false, s1_hi p0 b0, s1_lo p0 b0, s1_hi p1 b1, s1_lo p1 b1, ta1, ta2, ta3, ta4]; with_reducible first | exact lit_t | exact lit_f))
          | ((with_reducible first | apply wops_gone | apply wdr_gone); focus (simp (disch := omega) only [go_sem, ↓reduceIte, simprocAttr, reduceCtorEq, hri4, wrap_u32, tn0, tn1, ge0, ge1, ha, hv4, hp0, hp1, decide_eq_true, decide_eq_false, s1_hi p0 b0, s1_lo p0 b0, s1_hi p1 b1, s1_lo p1 b1, ta1, ta2, ta3, ta4]; done))
          | ((with_reducible first | apply wops_step | apply wops_do | apply wdr_step); focus (simp (disch := omega) only [go_sem, ↓reduceIte, simprocAttr, reduceCtorEq, hri4, wrap_u32, tn0, tn1, ge0, ge1, ha, hv4, hp0, hp1, decide_eq_true, decide_eq_false, s1_hi p0 b0, s1_lo p0 b0, s1_hi p1 b1, s1_lo p1 b1, ta1, ta2, ta3, ta4]; first | with_reducible exact rfl | (rw [if_pos (by first | omega | (constructor <;> omega) | (simp; done) | assumption)]; first | with_reducible exact rfl | (try simp (disch := omega) only [go_sem, ↓reduceIte, simprocAttr, reduceCtorEq, hri4, wrap_u32, tn0, tn1, ge0, ge1, ha, hv4, hp0, hp1, decide_eq_true, decide_eq_false, s1_hi p0 b0, s1_lo p0 b0, s1_hi p1 b1, s1_lo p1 b1, ta1, ta2, ta3, ta4]; with_reducible exact rfl))))
        by_cases c2 : 2 ≤ r4
        · obtain ⟨p0, hp0⟩ : ∃ p, v4 % 100 = p := ⟨_, rfl⟩
          obtain ⟨v2, hv2⟩ : ∃ y, v4 / 100 = y := ⟨_, rfl⟩
          have b0 : p0 < 100 := by omega
          have hu2 : u / 10 ^ (N - (r4 - 2)) = v2 := by rw [div_more hu4 2 c2 hr4N]; exact hv2
          have hvr2 : v2 < 10 ^ (r4 - 2) := by
            rw [← hv2]
            refine (Nat.div_lt_iff_lt_mul (by omega)).2 ?_
            rw [show (100 : Nat) = 10 ^ 2 by decide, ← Nat.pow_add, show r4 - 2 + 2 = r4 by omega]
            exact hvr4
          have qb0 : updN (fbF u N r4) (r4 - 1) (dchar (p0 % 10)).toNat = fbF u N (r4 - 1) := fb_upd (by omega) (by omega) (by rw [hu4]; omega)
          have qb1 : updN (fbF u N (r4 - 1)) (r4 - 2) (dchar (p0 / 10)).toNat = fbF u N (r4 - 2) := fb_upd (by omega) (by omega) (by rw [div_more hu4 1 (by omega) hr4N]; omega)
          have tb1 : ((r4 : Int) - 1).toNat = r4 - 1 := by omega
          have tb2 : ((r4 : Int) - 2).toNat = r4 - 2 := by omega
          repeat' first
            | with_reducible first | refine wpc_seq ?_ | refine wpc_ops ?_ | refine wops_nil ?_ | refine then_normal ?_ | refine wpc_block ?_ | refine block_normal ?_ | refine wpc_skip ?_ | refine wpc_exit ?_ | refine then_exit ?_ | refine block_exit_same ?_ | refine wpc_ret ?_ | refine then_ret ?_ | refine block_ret ?_ | refine wpc_draw ?_ | refine wdr_nil ?_ | refine gate_t ?_ | refine gate_f ?_ | refine gate_tt ?_ | refine gate_ff ?_ | refine gate_tf ?_ | refine gate_ft ?_ | exact keep_same | exact keep_true
            | (with_reducible refine block_exit_other ?_ ?_; decide)
            | ((with_reducible refine keep_rfl ?_); exact rfl)
            | ((with_reducible first | apply wops_guard | apply wdr_guard | apply wpc_test); focus (simp (disch := omega) only [go_sem, ↓reduceIte, simprocAttr, reduceCtorEq, wrap_u32, tn0, tn1, ge0, ge1, hp0, hv2, decide_eq_true, decide_eq_false, s1_hi p0 b0, s1_lo p0 b0, tb1, tb2]; with_reducible first | exact lit_t | exact lit_f))
            | ((with_reducible first | apply wops_gone | apply wdr_gone); focus (simp (disch := omega) only [go_sem, ↓reduceIte, simprocAttr, reduceCtorEq, wrap_u32, tn0, tn1, ge0, ge1, hp0, hv2, decide_eq_true, decide_eq_false, s1_hi p0 b0, s1_lo p0 b0, tb1, tb2]; done))
            | ((with_reducible first | apply wops_step | apply wops_do | apply wdr_step); focus (simp (disch := omega) only [go_sem, ↓reduceIte, simprocAttr, reduceCtorEq, wrap_u32, tn0, tn1, ge0, ge1, hp0, hv2, decide_eq_true, decide_eq_false, s1_hi p0 b0, s1_lo p0 b0, tb1, tb2]; first | with_reducible exact rfl | (rw [if_pos (by first | omega | (constructor <;> omega) | (simp; done) | assumption)]; first | with_reducible exact rfl | (try simp (disch := omega) only [go_sem, ↓reduceIte, simprocAttr, reduceCtorEq, wrap_u32, tn0, tn1, ge0, ge1, hp0, hv2, decide_eq_true, decide_eq_false, s1_hi p0 b0, s1_lo p0 b0, tb1, tb2]; with_reducible exact rfl))))
          with_reducible apply wdr_store
          · first | exact rfl | (simp (disch := omega) only [go_sem, ↓reduceIte, Nat.reduceEqDiff, Nat.reduceAdd, Nat.reduceSub, Nat.reduceMul, Nat.reduceLeDiff, Nat.reduceLT, Nat.reduceBEq, Nat.reduceBNe, Int.reduceToNat, Int.reduceLE, Int.reduceLT, Int.reduceNeg, Int.reduceEq, Int.reduceBEq, Int.reduceBNe, Int.reduceAdd, Int.reduceSub, Int.reduceMul, reduceCtorEq, wrap_u32, tn0, tn1, ge0, ge1, hp0, hv2, decide_eq_true, decide_eq_false, s1_hi p0 b0, s1_lo p0 b0, tb1, tb2]; exact rfl)
          · first | exact rfl | (simp (disch := omega) only [go_sem, ↓reduceIte, Nat.reduceEqDiff, Nat.reduceAdd, Nat.reduceSub, Nat.reduceMul, Nat.reduceLeDiff, Nat.reduceLT, Nat.reduceBEq, Nat.reduceBNe, Int.reduceToNat, Int.reduceLE, Int.reduceLT, Int.reduceNeg, Int.reduceEq, Int.reduceBEq, Int.reduceBNe, Int.reduceAdd, Int.reduceSub, Int.reduceMul, reduceCtorEq, wrap_u32, tn0, tn1, ge0, ge1, hp0, hv2, decide_eq_true, decide_eq_false, s1_hi p0 b0, s1_lo p0 b0, tb1, tb2]; exact rfl)
          · exact store_u8 (f := fbF u N r4) (i := r4 - 1) (x := (dchar (p0 % 10)).toNat) (by omega)
          rotate_left
          · exact fun h => Bool.noConfusion h
          rw [qb0]
          repeat' first
            | with_reducible first | refine wpc_seq ?_ | refine wpc_ops ?_ | refine wops_nil ?_ | refine then_normal ?_ | refine wpc_block ?_ | refine block_normal ?_ | refine wpc_skip ?_ | refine wpc_exit ?_ | refine then_exit ?_ | refine block_exit_same ?_ | refine wpc_ret ?_ | refine then_ret ?_ | refine block_ret ?_ | refine wpc_draw ?_ | refine wdr_nil ?_ | refine gate_t ?_ | refine gate_f ?_ | refine gate_tt ?_ | refine gate_ff ?_ | refine gate_tf ?_ | refine gate_ft ?_ | exact keep_same | exact keep_true
            | (with_reducible refine block_exit_other ?_ ?_; decide)
            | ((with_reducible refine keep_rfl ?_); exact rfl)
            | ((with_reducible first | apply wops_guard | apply wdr_guard | apply wpc_test); focus (simp (disch := omega) only [go_sem, ↓reduceIte, simprocAttr, reduceCtorEq, wrap_u32, tn0, tn1, ge0, ge1, hp0, hv2, decide_eq_true, decide_eq_false, s1_hi p0 b0, s1_lo p0 b0, tb1, tb2]; with_reducible first | exact lit_t | exact lit_f))
            | ((with_reducible first | apply wops_gone | apply wdr_gone); focus (simp (disch := omega) only [go_sem, ↓reduceIte, simprocAttr, reduceCtorEq, wrap_u32, tn0, tn1, ge0, ge1, hp0, hv2, decide_eq_true, decide_eq_false, s1_hi p0 b0, s1_lo p0 b0, tb1, tb2]; done))
            | ((with_reducible first | apply wops_step | apply wops_do | apply wdr_step); focus (simp (disch := omega) only [go_sem, ↓reduceIte, simprocAttr, reduceCtorEq, wrap_u32, tn0, tn1, ge0, ge1, hp0, hv2, decide_eq_true, decide_eq_false, s1_hi p0 b0, s1_lo p0 b0, tb1, tb2]; first | with_reducible exact rfl | (rw [if_pos (by first | omega | (constructor <;> omega) | (simp; done) | assumption)]; first | with_reducible exact rfl | (try simp (disch := omega) only [go_sem, ↓reduceIte, simprocAttr, reduceCtorEq, wrap_u32, tn0, tn1, ge0, ge1, hp0, hv2, decide_eq_true, decide_eq_false, s1_hi p0 b0, s1_lo p0 b0, tb1, tb2]; with_reducible exact rfl))))
          with_reducible apply wdr_store
          · first | exact rfl | (simp (disch := omega) only [go_sem, ↓reduceIte, Nat.reduceEqDiff, Nat.reduceAdd, Nat.reduceSub, Nat.reduceMul, Nat.reduceLeDiff, Nat.reduceLT, Nat.reduceBEq, Nat.reduceBNe, Int.reduceToNat, Int.reduceLE, Int.reduceLT, Int.reduceNeg, Int.reduceEq, Int.reduceBEq, Int.reduceBNe, Int.reduceAdd, Int.reduceSub, Int.reduceMul, reduceCtorEq, wrap_u32, tn0, tn1, ge0, ge1, hp0, hv2, decide_eq_true, decide_eq_false, s1_hi p0 b0, s1_lo p0 b0, tb1, tb2]; exact rfl)
          · first | exact rfl | (simp (disch := omega) only [go_sem, ↓reduceIte, Nat.reduceEqDiff, Nat.reduceAdd, Nat.reduceSub, Nat.reduceMul, Nat.reduceLeDiff, Nat.reduceLT, Nat.reduceBEq, Nat.reduceBNe, Int.reduceToNat, Int.reduceLE, Int.reduceLT, Int.reduceNeg, Int.reduceEq, Int.reduceBEq, Int.reduceBNe, Int.reduceAdd, Int.reduceSub, Int.reduceMul, reduceCtorEq, wrap_u32, tn0, tn1, ge0, ge1, hp0, hv2, decide_eq_true, decide_eq_false, s1_hi p0 b0, s1_lo p0 b0, tb1, tb2]; exact rfl)
          · exact store_u8 (f := fbF u N (r4 - 1)) (i := r4 - 2) (x := (dchar (p0 / 10)).toNat) (by omega)
          rotate_left
          · exact fun h => Bool.noConfusion h
          rw [qb1]
          obtain ⟨r2, hr2⟩ : ∃ r2, r4 - 2 = r2 := ⟨_, rfl⟩
          have hri : (r4 : Int) - 2 = (r2 : Int) := by omega
          rw [hr2] at hu2 hvr2 ⊢
          have hrl2 : r2 < 2 := by omega
          repeat' first
            | with_reducible first | refine wpc_seq ?_ | refine wpc_ops ?_ | refine wops_nil ?_ | refine then_normal ?_ | refine wpc_block ?_ | refine block_normal ?_ | refine wpc_skip ?_ | refine wpc_exit ?_ | refine then_exit ?_ | refine block_exit_same ?_ | refine wpc_ret ?_ | refine then_ret ?_ | refine block_ret ?_ | refine wpc_draw ?_ | refine wdr_nil ?_ | refine gate_t ?_ | refine gate_f ?_ | refine gate_tt ?_ | refine gate_ff ?_ | refine gate_tf ?_ | refine gate_ft ?_ | exact keep_same | exact keep_true
            | (with_reducible refine block_exit_other ?_ ?_; decide)
            | ((with_reducible refine keep_rfl ?_); exact rfl)
            | ((with_reducible first | apply wops_guard | apply wdr_guard | apply wpc_test); focus (simp (disch := omega) only [go_sem, ↓reduceIte, simprocAttr, reduceCtorEq, hri, wrap_u32, tn0, tn1, ge0, ge1, hp0, hv2, decide_eq_true, decide_eq_false, s1_hi p0 b0, s1_lo p0 b0, tb1, tb2]; with_reducible first | exact lit_t | exact lit_f))
            | ((with_reducible first | apply wops_gone | apply wdr_gone); focus (simp (disch := omega) only [go_sem, ↓reduceIte, simprocAttr, reduceCtorEq, hri, wrap_u32, tn0, tn1, ge0, ge1, hp0, hv2, decide_eq_true, decide_eq_false, s1_hi p0 b0, s1_lo p0 b0, tb1, tb2]; done))
            | ((with_reducible first | apply wops_step | apply wops_do | apply wdr_step); focus (simp (disch := omega) only [go_sem, ↓reduceIte, simprocAttr, reduceCtorEq, hri, wrap_u32, tn0, tn1, ge0, ge1, hp0, hv2, decide_eq_true, decide_eq_false, s1_hi p0 b0, s1_lo p0 b0, tb1, tb2]; first | with_reducible exact rfl | (rw [if_pos (by first | omega | (constructor <;> omega) | (simp; done) | assumption)]; first | with_reducible exact rfl | (try simp (disch := omega) only [go_sem, ↓reduceIte, simprocAttr, reduceCtorEq, hri, wrap_u32, tn0, tn1, ge0, ge1, hp0, hv2, decide_eq_true, decide_eq_false, s1_hi p0 b0, s1_lo p0 b0, tb1, tb2]; with_reducible exact rfl))))
          by_cases c1 : 0 < r2
          · have r1 : r2 = 1 := by omega
            subst r1
            have v10 : v2 < 10 := by simpa using hvr2
            have hdc := dchar_lo v10
            have qz : updN (fbF u N 1) 0 (dchar v2).toNat = fbF u N 0 := fb_upd (by omega) (by omega) (by rw [hu2]; omega)
            have hN1 : 1 ≤ N := by omega
            repeat' first
              | with_reducible first | refine wpc_seq ?_ | refine wpc_ops ?_ | refine wops_nil ?_ | refine then_normal ?_ | refine wpc_block ?_ | refine block_normal ?_ | refine wpc_skip ?_ | refine wpc_exit ?_ | refine then_exit ?_ | refine block_exit_same ?_ | refine wpc_ret ?_ | refine then_ret ?_ | refine block_ret ?_ | refine wpc_draw ?_ | refine wdr_nil ?_ | refine gate_t ?_ | refine gate_f ?_ | refine gate_tt ?_ | refine gate_ff ?_ | refine gate_tf ?_ | refine gate_ft ?_ | exact keep_same | exact keep_true
              | (with_reducible refine block_exit_other ?_ ?_; decide)
              | ((with_reducible refine keep_rfl ?_); exact rfl)
              | ((with_reducible first | apply wops_guard | apply wdr_guard | apply wpc_test); focus (simp (disch := omega) only [go_sem, ↓reduceIte, simprocAttr, reduceCtorEq, wrap_u32, decide_eq_true, decide_eq_false, Int.reduceGT, hdc, Int.natCast_one]; with_reducible first | exact lit_t | exact lit_f))
              | ((with_reducible first | apply wops_gone | apply wdr_gone); focus (simp (disch := omega) only [go_sem, ↓reduceIte, simprocAttr, reduceCtorEq, wrap_u32, decide_eq_true, decide_eq_false, Int.reduceGT, hdc, Int.natCast_one]; done))
              | ((with_reducible first | apply wops_step | apply wops_do | apply wdr_step); focus (simp (disch := omega) only [go_sem, ↓reduceIte, simprocAttr, reduceCtorEq, wrap_u32, decide_eq_true, decide_eq_false, Int.reduceGT, hdc, Int.natCast_one]; first | with_reducible exact rfl | (rw [if_pos (by first | omega | (constructor <;> omega) | (simp; done) | assumption)]; first | with_reducible exact rfl | (try simp (disch := omega) only [go_sem, ↓reduceIte, simprocAttr, reduceCtorEq, wrap_u32, decide_eq_true, decide_eq_false, Int.reduceGT, hdc, Int.natCast_one]; with_reducible exact rfl))))
            with_reducible apply wops_store
            · first | exact rfl | (simp (disch := omega) only [go_sem, ↓reduceIte, Nat.reduceEqDiff, Nat.reduceAdd, Nat.reduceSub, Nat.reduceMul, Nat.reduceLeDiff, Nat.reduceLT, Nat.reduceBEq, Nat.reduceBNe, Int.reduceToNat, Int.reduceLE, Int.reduceLT, Int.reduceNeg, Int.reduceEq, Int.reduceBEq, Int.reduceBNe, Int.reduceAdd, Int.reduceSub, Int.reduceMul, reduceCtorEq, wrap_u32, decide_eq_true, decide_eq_false, Int.reduceGT, hdc, Int.natCast_one]; exact rfl)
            · first | exact rfl | (simp (disch := omega) only [go_sem, ↓reduceIte, Nat.reduceEqDiff, Nat.reduceAdd, Nat.reduceSub, Nat.reduceMul, Nat.reduceLeDiff, Nat.reduceLT, Nat.reduceBEq, Nat.reduceBNe, Int.reduceToNat, Int.reduceLE, Int.reduceLT, Int.reduceNeg, Int.reduceEq, Int.reduceBEq, Int.reduceBNe, Int.reduceAdd, Int.reduceSub, Int.reduceMul, reduceCtorEq, wrap_u32, decide_eq_true, decide_eq_false, Int.reduceGT, hdc, Int.natCast_one]; exact rfl)
            · exact store_u8 (f := fbF u N 1) (i := 0) (x := (dchar v2).toNat) (by omega)
            rw [qz]
            repeat' first
              | with_reducible first | refine wpc_seq ?_ | refine wpc_ops ?_ | refine wops_nil ?_ | refine then_normal ?_ | refine wpc_block ?_ | refine block_normal ?_ | refine wpc_skip ?_ | refine wpc_exit ?_ | refine then_exit ?_ | refine block_exit_same ?_ | refine wpc_ret ?_ | refine then_ret ?_ | refine block_ret ?_ | refine wpc_draw ?_ | refine wdr_nil ?_ | refine gate_t ?_ | refine gate_f ?_ | refine gate_tt ?_ | refine gate_ff ?_ | refine gate_tf ?_ | refine gate_ft ?_ | exact keep_same | exact keep_true
              | (with_reducible refine block_exit_other ?_ ?_; decide)
              | ((with_reducible refine keep_rfl ?_); exact rfl)
              | ((with_reducible first | apply wops_guard | apply wdr_guard | apply wpc_test); focus (simp (disch := omega) only [go_sem, ↓reduceIte, simprocAttr, reduceCtorEq, wrap_u32, decide_eq_true, decide_eq_false, Int.reduceGT, hdc, Int.natCast_one]; with_reducible first | exact lit_t | exact lit_f))
              | ((with_reducible first | apply wops_gone | apply wdr_gone); focus (simp (disch := omega) only [go_sem, ↓reduceIte, simprocAttr, reduceCtorEq, wrap_u32, decide_eq_true, decide_eq_false, Int.reduceGT, hdc, Int.natCast_one]; done))
              | ((with_reducible first | apply wops_step | apply wops_do | apply wdr_step); focus (simp (disch := omega) only [go_sem, ↓reduceIte, simprocAttr, reduceCtorEq, wrap_u32, decide_eq_true, decide_eq_false, Int.reduceGT, hdc, Int.natCast_one]; first | with_reducible exact rfl | (rw [if_pos (by first | omega | (constructor <;> omega) | (simp; done) | assumption)]; first | with_reducible exact rfl | (try simp (disch := omega) only [go_sem, ↓reduceIte, simprocAttr, reduceCtorEq, wrap_u32, decide_eq_true, decide_eq_false, Int.reduceGT, hdc, Int.natCast_one]; with_reducible exact rfl))))
            refine end_modn (r := .tup []) (by simp) (hokR _) (by rfl) (by simp [EV.ok, okL]) ⟨rfl, rfl⟩
          · have r0 : r2 = 0 := by omega
            subst r0
            repeat' first
              | with_reducible first | refine wpc_seq ?_ | refine wpc_ops ?_ | refine wops_nil ?_ | refine then_normal ?_ | refine wpc_block ?_ | refine block_normal ?_ | refine wpc_skip ?_ | refine wpc_exit ?_ | refine then_exit ?_ | refine block_exit_same ?_ | refine wpc_ret ?_ | refine then_ret ?_ | refine block_ret ?_ | refine wpc_draw ?_ | refine wdr_nil ?_ | refine gate_t ?_ | refine gate_f ?_ | refine gate_tt ?_ | refine gate_ff ?_ | refine gate_tf ?_ | refine gate_ft ?_ | exact keep_same | exact keep_true
              | (with_reducible refine block_exit_other ?_ ?_; decide)
              | ((with_reducible refine keep_rfl ?_); exact rfl)
              | ((with_reducible first | apply wops_guard | apply wdr_guard | apply wpc_test); focus (simp (disch := omega) only [go_sem, ↓reduceIte, simprocAttr, reduceCtorEq, decide_eq_true, decide_eq_false, Int.reduceGT, Int.natCast_zero, Int.ofNat_zero]; with_reducible first | exact lit_t | exact lit_f))
              | ((with_reducible first | apply wops_gone | apply wdr_gone); focus (simp (disch := omega) only [go_sem, ↓reduceIte, simprocAttr, reduceCtorEq, decide_eq_true, decide_eq_false, Int.reduceGT, Int.natCast_zero, Int.ofNat_zero]; done))
              | ((with_reducible first | apply wops_step | apply wops_do | apply wdr_step); focus (simp (disch := omega) only [go_sem, ↓reduceIte, simprocAttr, reduceCtorEq, decide_eq_true, decide_eq_false, Int.reduceGT, Int.natCast_zero, Int.ofNat_zero]; first | with_reducible exact rfl | (rw [if_pos (by first | omega | (constructor <;> omega) | (simp; done) | assumption)]; first | with_reducible exact rfl | (try simp (disch := omega) only [go_sem, ↓reduceIte, simprocAttr, reduceCtorEq, decide_eq_true, decide_eq_false, Int.reduceGT, Int.natCast_zero, Int.ofNat_zero]; with_reducible exact rfl))))
            refine end_modn (r := .tup []) (by simp) (hokR _) (by rfl) (by simp [EV.ok, okL]) ⟨rfl, rfl⟩
        · repeat' first
            | with_reducible first | refine wpc_seq ?_ | refine wpc_ops ?_ | refine wops_nil ?_ | refine then_normal ?_ | refine wpc_block ?_ | refine block_normal ?_ | refine wpc_skip ?_ | refine wpc_exit ?_ | refine then_exit ?_ | refine block_exit_same ?_ | refine wpc_ret ?_ | refine then_ret ?_ | refine block_ret ?_ | refine wpc_draw ?_ | refine wdr_nil ?_ | refine gate_t ?_ | refine gate_f ?_ | refine gate_tt ?_ | refine gate_ff ?_ | refine gate_tf ?_ | refine gate_ft ?_ | exact keep_same | exact keep_true
            | (with_reducible refine block_exit_other ?_ ?_; decide)
            | ((with_reducible refine keep_rfl ?_); exact rfl)
            | ((with_reducible first | apply wops_guard | apply wdr_guard | apply wpc_test); focus (simp (disch := omega) only [go_sem, ↓reduceIte, simprocAttr, reduceCtorEq, decide_eq_true, decide_eq_false]; with_reducible first | exact lit_t | exact lit_f))
            | ((with_reducible first | apply wops_gone | apply wdr_gone); focus (simp (disch := omega) only [go_sem, ↓reduceIte, simprocAttr, reduceCtorEq, decide_eq_true, decide_eq_false]; done))
            | ((with_reducible first | apply wops_step | apply wops_do | apply wdr_step); focus (simp (disch := omega) only [go_sem, ↓reduceIte, simprocAttr, reduceCtorEq, decide_eq_true, decide_eq_false]; first | with_reducible exact rfl | (rw [if_pos (by first | omega | (constructor <;> omega) | (simp; done) | assumption)]; first | with_reducible exact rfl | (try simp (disch := omega) only [go_sem, ↓reduceIte, simprocAttr, reduceCtorEq, decide_eq_true, decide_eq_false]; with_reducible exact rfl))))
          by_cases c1 : 0 < r4
          · have r1 : r4 = 1 := by omega
            subst r1
            have v10 : v4 < 10 := by simpa using hvr4
            have hdc := dchar_lo v10
            have qz : updN (fbF u N 1) 0 (dchar v4).toNat = fbF u N 0 := fb_upd (by omega) (by omega) (by rw [hu4]; omega)
            have hN1 : 1 ≤ N := by omega
            repeat' first
              | with_reducible first | refine wpc_seq ?_ | refine wpc_ops ?_ | refine wops_nil ?_ | refine then_normal ?_ | refine wpc_block ?_ | refine block_normal ?_ | refine wpc_skip ?_ | refine wpc_exit ?_ | refine then_exit ?_ | refine block_exit_same ?_ | refine wpc_ret ?_ | refine then_ret ?_ | refine block_ret ?_ | refine wpc_draw ?_ | refine wdr_nil ?_ | refine gate_t ?_ | refine gate_f ?_ | refine gate_tt ?_ | refine gate_ff ?_ | refine gate_tf ?_ | refine gate_ft ?_ | exact keep_same | exact keep_true
              | (with_reducible refine block_exit_other ?_ ?_; decide)
              | ((with_reducible refine keep_rfl ?_); exact rfl)
              | ((with_reducible first | apply wops_guard | apply wdr_guard | apply wpc_test); focus (simp (disch := omega) only [go_sem, ↓reduceIte, simprocAttr, reduceCtorEq, wrap_u32, decide_eq_true, decide_eq_false, Int.reduceGT, hdc, Int.natCast_one]; with_reducible first | exact lit_t | exact lit_f))
              | ((with_reducible first | apply wops_gone | apply wdr_gone); focus (simp (disch := omega) only [go_sem, ↓reduceIte, simprocAttr, reduceCtorEq, wrap_u32, decide_eq_true, decide_eq_false, Int.reduceGT, hdc, Int.natCast_one]; done))
              | ((with_reducible first | apply wops_step | apply wops_do | apply wdr_step); focus (simp (disch := omega) only [go_sem, ↓reduceIte, simprocAttr, reduceCtorEq, wrap_u32, decide_eq_true, decide_eq_false, Int.reduceGT, hdc, Int.natCast_one]; first | with_reducible exact rfl | (rw [if_pos (by first | omega | (constructor <;> omega) | (simp; done) | assumption)]; first | with_reducible exact rfl | (try simp (disch := omega) only [go_sem, ↓reduceIte, simprocAttr, reduceCtorEq, wrap_u32, decide_eq_true, decide_eq_false, Int.reduceGT, hdc, Int.natCast_one]; with_reducible exact rfl))))
            with_reducible apply wops_store
            · first | exact rfl | (simp (disch := omega) only [go_sem, ↓reduceIte, Nat.reduceEqDiff, Nat.reduceAdd, Nat.reduceSub, Nat.reduceMul, Nat.reduceLeDiff, Nat.reduceLT, Nat.reduceBEq, Nat.reduceBNe, Int.reduceToNat, Int.reduceLE, Int.reduceLT, Int.reduceNeg, Int.reduceEq, Int.reduceBEq, Int.reduceBNe, Int.reduceAdd, Int.reduceSub, Int.reduceMul, reduceCtorEq, wrap_u32, decide_eq_true, decide_eq_false, Int.reduceGT, hdc, Int.natCast_one]; exact rfl)
            · first | exact rfl | (simp (disch := omega) only [go_sem, ↓reduceIte, Nat.reduceEqDiff, Nat.reduceAdd, Nat.reduceSub, Nat.reduceMul, Nat.reduceLeDiff, Nat.reduceLT, Nat.reduceBEq, Nat.reduceBNe, Int.reduceToNat, Int.reduceLE, Int.reduceLT, Int.reduceNeg, Int.reduceEq, Int.reduceBEq, Int.reduceBNe, Int.reduceAdd, Int.reduceSub, Int.reduceMul, reduceCtorEq, wrap_u32, decide_eq_true, decide_eq_false, Int.reduceGT, hdc, Int.natCast_one]; exact rfl)
            · exact store_u8 (f := fbF u N 1) (i := 0) (x := (dchar v4).toNat) (by omega)
            rw [qz]
            repeat' first
              | with_reducible first | refine wpc_seq ?_ | refine wpc_ops ?_ | refine wops_nil ?_ | refine then_normal ?_ | refine wpc_block ?_ | refine block_normal ?_ | refine wpc_skip ?_ | refine wpc_exit ?_ | refine then_exit ?_ | refine block_exit_same ?_ | refine wpc_ret ?_ | refine then_ret ?_ | refine block_ret ?_ | refine wpc_draw ?_ | refine wdr_nil ?_ | refine gate_t ?_ | refine gate_f ?_ | refine gate_tt ?_ | refine gate_ff ?_ | refine gate_tf ?_ | refine gate_ft ?_ | exact keep_same | exact keep_true
              | (with_reducible refine block_exit_other ?_ ?_; decide)
              | ((with_reducible refine keep_rfl ?_); exact rfl)
              | ((with_reducible first | apply wops_guard | apply wdr_guard | apply wpc_test); focus (simp (disch := omega) only [go_sem, ↓reduceIte, simprocAttr, reduceCtorEq, wrap_u32, decide_eq_true, decide_eq_false, Int.reduceGT, hdc, Int.natCast_one]; with_reducible first | exact lit_t | exact lit_f))
              | ((with_reducible first | apply wops_gone | apply wdr_gone); focus (simp (disch := omega) only [go_sem, ↓reduceIte, simprocAttr, reduceCtorEq, wrap_u32, decide_eq_true, decide_eq_false, Int.reduceGT, hdc, Int.natCast_one]; done))
              | ((with_reducible first | apply wops_step | apply wops_do | apply wdr_step); focus (simp (disch := omega) only [go_sem, ↓reduceIte, simprocAttr, reduceCtorEq, wrap_u32, decide_eq_true, decide_eq_false, Int.reduceGT, hdc, Int.natCast_one]; first | with_reducible exact rfl | (rw [if_pos (by first | omega | (constructor <;> omega) | (simp; done) | assumption)]; first | with_reducible exact rfl | (try simp (disch := omega) only [go_sem, ↓reduceIte, simprocAttr, reduceCtorEq, wrap_u32, decide_eq_true, decide_eq_false, Int.reduceGT, hdc, Int.natCast_one]; with_reducible exact rfl))))
            refine end_modn (r := .tup []) (by simp) (hokR _) (by rfl) (by simp [EV.ok, okL]) ⟨rfl, rfl⟩
          · have r0 : r4 = 0 := by omega
            subst r0
            repeat' first
              | with_reducible first | refine wpc_seq ?_ | refine wpc_ops ?_ | refine wops_nil ?_ | refine then_normal ?_ | refine wpc_block ?_ | refine block_normal ?_ | refine wpc_skip ?_ | refine wpc_exit ?_ | refine then_exit ?_ | refine block_exit_same ?_ | refine wpc_ret ?_ | refine then_ret ?_ | refine block_ret ?_ | refine wpc_draw ?_ | refine wdr_nil ?_ | refine gate_t ?_ | refine gate_f ?_ | refine gate_tt ?_ | refine gate_ff ?_ | refine gate_tf ?_ | refine gate_ft ?_ | exact keep_same | exact keep_true
              | (with_reducible refine block_exit_other ?_ ?_; decide)
              | ((with_reducible refine keep_rfl ?_); exact rfl)
              | ((with_reducible first | apply wops_guard | apply wdr_guard | apply wpc_test); focus (simp (disch := omega) only [go_sem, ↓reduceIte, simprocAttr, reduceCtorEq, decide_eq_true, decide_eq_false, Int.reduceGT, Int.natCast_zero, Int.ofNat_zero]; with_reducible first | exact lit_t | exact lit_f))
              | ((with_reducible first | apply wops_gone | apply wdr_gone); focus (simp (disch := omega) only [go_sem, ↓reduceIte, simprocAttr, reduceCtorEq, decide_eq_true, decide_eq_false, Int.reduceGT, Int.natCast_zero, Int.ofNat_zero]; done))
              | ((with_reducible first | apply wops_step | apply wops_do | apply wdr_step); focus (simp (disch := omega) only [go_sem, ↓reduceIte, simprocAttr, reduceCtorEq, decide_eq_true, decide_eq_false, Int.reduceGT, Int.natCast_zero, Int.ofNat_zero]; first | with_reducible exact rfl | (rw [if_pos (by first | omega | (constructor <;> omega) | (simp; done) | assumption)]; first | with_reducible exact rfl | (try simp (disch := omega) only [go_sem, ↓reduceIte, simprocAttr, reduceCtorEq, decide_eq_true, decide_eq_false, Int.reduceGT, Int.natCast_zero, Int.ofNat_zero]; with_reducible exact rfl))))
            refine end_modn (r := .tup []) (by simp) (hokR _) (by rfl) (by simp [EV.ok, okL]) ⟨rfl, rfl⟩
      · repeat' first
          | with_reducible first | refine wpc_seq ?_ | refine wpc_ops ?_ | refine wops_nil ?_ | refine then_normal ?_ | refine wpc_block ?_ | refine block_normal ?_ | refine wpc_skip ?_ | refine wpc_exit ?_ | refine then_exit ?_ | refine block_exit_same ?_ | refine wpc_ret ?_ | refine then_ret ?_ | refine block_ret ?_ | refine wpc_draw ?_ | refine wdr_nil ?_ | refine gate_t ?_ | refine gate_f ?_ | refine gate_tt ?_ | refine gate_ff ?_ | refine gate_tf ?_ | refine gate_ft ?_ | exact keep_same | exact keep_true
          | (with_reducible refine block_exit_other ?_ ?_; decide)
          | ((with_reducible refine keep_rfl ?_); exact rfl)
          | ((with_reducible first | apply wops_guard | apply wdr_guard | apply wpc_test); focus (simp (disch := omega) only [go_sem, ↓reduceIte, simprocAttr, reduceCtorEq, decide_eq_true, decide_eq_false]; with_reducible first | exact lit_t | exact lit_f))
          | ((with_reducible first | apply wops_gone | apply wdr_gone); focus (simp (disch := omega) only [go_sem, ↓reduceIte, simprocAttr, reduceCtorEq, decide_eq_true, decide_eq_false]; done))
          | ((with_reducible first | apply wops_step | apply wops_do | apply wdr_step); focus (simp (disch := omega) only [go_sem, ↓reduceIte, simprocAttr, reduceCtorEq, decide_eq_true, decide_eq_false]; first | with_reducible exact rfl | (rw [if_pos (by first | omega | (constructor <;> omega) | (simp; done) | assumption)]; first | with_reducible exact rfl | (try simp (disch := omega) only [go_sem, ↓reduceIte, simprocAttr, reduceCtorEq, decide_eq_true, decide_eq_false]; with_reducible exact rfl))))
        by_cases c2 : 2 ≤ r
        · obtain ⟨p0, hp0⟩ : ∃ p, v % 100 = p := ⟨_, rfl⟩
          obtain ⟨v2, hv2⟩ : ∃ y, v / 100 = y := ⟨_, rfl⟩
          have b0 : p0 < 100 := by omega
          have hu2 : u / 10 ^ (N - (r - 2)) = v2 := by rw [div_more hv 2 c2 hr]; exact hv2
          have hvr2 : v2 < 10 ^ (r - 2) := by
            rw [← hv2]
            refine (Nat.div_lt_iff_lt_mul (by omega)).2 ?_
            rw [show (100 : Nat) = 10 ^ 2 by decide, ← Nat.pow_add, show r - 2 + 2 = r by omega]
            exact hvr
          have qb0 : updN (fbF u N r) (r - 1) (dchar (p0 % 10)).toNat = fbF u N (r - 1) := fb_upd (by omega) (by omega) (by rw [hv]; omega)
          have qb1 : updN (fbF u N (r - 1)) (r - 2) (dchar (p0 / 10)).toNat = fbF u N (r - 2) := fb_upd (by omega) (by omega) (by rw [div_more hv 1 (by omega) hr]; omega)
          have tb1 : ((r : Int) - 1).toNat = r - 1 := by omega
          have tb2 : ((r : Int) - 2).toNat = r - 2 := by omega
          repeat' first
            | with_reducible first | refine wpc_seq ?_ | refine wpc_ops ?_ | refine wops_nil ?_ | refine then_normal ?_ | refine wpc_block ?_ | refine block_normal ?_ | refine wpc_skip ?_ | refine wpc_exit ?_ | refine then_exit ?_ | refine block_exit_same ?_ | refine wpc_ret ?_ | refine then_ret ?_ | refine block_ret ?_ | refine wpc_draw ?_ | refine wdr_nil ?_ | refine gate_t ?_ | refine gate_f ?_ | refine gate_tt ?_ | refine gate_ff ?_ | refine gate_tf ?_ | refine gate_ft ?_ | exact keep_same | exact keep_true
            | (with_reducible refine block_exit_other ?_ ?_; decide)
            | ((with_reducible refine keep_rfl ?_); exact rfl)
            | ((with_reducible first | apply wops_guard | apply wdr_guard | apply wpc_test); focus (simp (disch := omega) only [go_sem, ↓reduceIte, simprocAttr, reduceCtorEq, wrap_u32, tn0, tn1, ge0, ge1, hp0, hv2, decide_eq_true, decide_eq_false, s1_hi p0 b0, s1_lo p0 b0, tb1, tb2]; with_reducible first | exact lit_t | exact lit_f))
            | ((with_reducible first | apply wops_gone | apply wdr_gone); focus (simp (disch := omega) only [go_sem, ↓reduceIte, simprocAttr, reduceCtorEq, wrap_u32, tn0, tn1, ge0, ge1, hp0, hv2, decide_eq_true, decide_eq_false, s1_hi p0 b0, s1_lo p0 b0, tb1, tb2]; done))
            | ((with_reducible first | apply wops_step | apply wops_do | apply wdr_step); focus (simp (disch := omega) only [go_sem, ↓reduceIte, simprocAttr, reduceCtorEq, wrap_u32, tn0, tn1, ge0, ge1, hp0, hv2, decide_eq_true, decide_eq_false, s1_hi p0 b0, s1_lo p0 b0, tb1, tb2]; first | with_reducible exact rfl | (rw [if_pos (by first | omega | (constructor <;> omega) | (simp; done) | assumption)]; first | with_reducible exact rfl | (try simp (disch := omega) only [go_sem, ↓reduceIte, simprocAttr, reduceCtorEq, wrap_u32, tn0, tn1, ge0, ge1, hp0, hv2, decide_eq_true, decide_eq_false, s1_hi p0 b0, s1_lo p0 b0, tb1, tb2]; with_reducible exact rfl))))
          with_reducible apply wdr_store
          · first | exact rfl | (simp (disch := omega) only [go_sem, ↓reduceIte, Nat.reduceEqDiff, Nat.reduceAdd, Nat.reduceSub, Nat.reduceMul, Nat.reduceLeDiff, Nat.reduceLT, Nat.reduceBEq, Nat.reduceBNe, Int.reduceToNat, Int.reduceLE, Int.reduceLT, Int.reduceNeg, Int.reduceEq, Int.reduceBEq, Int.reduceBNe, Int.reduceAdd, Int.reduceSub, Int.reduceMul, reduceCtorEq, wrap_u32, tn0, tn1, ge0, ge1, hp0, hv2, decide_eq_true, decide_eq_false, s1_hi p0 b0, s1_lo p0 b0, tb1, tb2]; exact rfl)
          · first | exact rfl | (simp (disch := omega) only [go_sem, ↓reduceIte, Nat.reduceEqDiff, Nat.reduceAdd, Nat.reduceSub, Nat.reduceMul, Nat.reduceLeDiff, Nat.reduceLT, Nat.reduceBEq, Nat.reduceBNe, Int.reduceToNat, Int.reduceLE, Int.reduceLT, Int.reduceNeg, Int.reduceEq, Int.reduceBEq, Int.reduceBNe, Int.reduceAdd, Int.reduceSub, Int.reduceMul, reduceCtorEq, wrap_u32, tn0, tn1, ge0, ge1, hp0, hv2, decide_eq_true, decide_eq_false, s1_hi p0 b0, s1_lo p0 b0, tb1, tb2]; exact rfl)
          · exact store_u8 (f := fbF u N r) (i := r - 1) (x := (dchar (p0 % 10)).toNat) (by omega)
          rotate_left
          · exact fun h => Bool.noConfusion h
          rw [qb0]
          repeat' first
            | with_reducible first | refine wpc_seq ?_ | refine wpc_ops ?_ | refine wops_nil ?_ | refine then_normal ?_ | refine wpc_block ?_ | refine block_normal ?_ | refine wpc_skip ?_ | refine wpc_exit ?_ | refine then_exit ?_ | refine block_exit_same ?_ | refine wpc_ret ?_ | refine then_ret ?_ | refine block_ret ?_ | refine wpc_draw ?_ | refine wdr_nil ?_ | refine gate_t ?_ | refine gate_f ?_ | refine gate_tt ?_ | refine gate_ff ?_ | refine gate_tf ?_ | refine gate_ft ?_ | exact keep_same | exact keep_true
            | (with_reducible refine block_exit_other ?_ ?_; decide)
            | ((with_reducible refine keep_rfl ?_); exact rfl)
            | ((with_reducible first | apply wops_guard | apply wdr_guard | apply wpc_test); focus (simp (disch := omega) only [go_sem, ↓reduceIte, simprocAttr, reduceCtorEq, wrap_u32, tn0, tn1, ge0, ge1, hp0, hv2, decide_eq_true, decide_eq_false, s1_hi p0 b0, s1_lo p0 b0, tb1, tb2]; with_reducible first | exact lit_t | exact lit_f))
            | ((with_reducible first | apply wops_gone | apply wdr_gone); focus (simp (disch := omega) only [go_sem, ↓reduceIte, simprocAttr, reduceCtorEq, wrap_u32, tn0, tn1, ge0, ge1, hp0, hv2, decide_eq_true, decide_eq_false, s1_hi p0 b0, s1_lo p0 b0, tb1, tb2]; done))
            | ((with_reducible first | apply wops_step | apply wops_do | apply wdr_step); focus (simp (disch := omega) only [go_sem, ↓reduceIte, simprocAttr, reduceCtorEq, wrap_u32, tn0, tn1, ge0, ge1, hp0, hv2, decide_eq_true, decide_eq_false, s1_hi p0 b0, s1_lo p0 b0, tb1, tb2]; first | with_reducible exact rfl | (rw [if_pos (by first | omega | (constructor <;> omega) | (simp; done) | assumption)]; first | with_reducible exact rfl | (try simp (disch := omega) only [go_sem, ↓reduceIte, simprocAttr, reduceCtorEq, wrap_u32, tn0, tn1, ge0, ge1, hp0, hv2, decide_eq_true, decide_eq_false, s1_hi p0 b0, s1_lo p0 b0, tb1, tb2]; with_reducible exact rfl))))
          with_reducible apply wdr_store
          · first | exact rfl | (simp (disch := omega) only [go_sem, ↓reduceIte, Nat.reduceEqDiff, Nat.reduceAdd, Nat.reduceSub, Nat.reduceMul, Nat.reduceLeDiff, Nat.reduceLT, Nat.reduceBEq, Nat.reduceBNe, Int.reduceToNat, Int.reduceLE, Int.reduceLT, Int.reduceNeg, Int.reduceEq, Int.reduceBEq, Int.reduceBNe, Int.reduceAdd, Int.reduceSub, Int.reduceMul, reduceCtorEq, wrap_u32, tn0, tn1, ge0, ge1, hp0, hv2, decide_eq_true, decide_eq_false, s1_hi p0 b0, s1_lo p0 b0, tb1, tb2]; exact rfl)
          · first | exact rfl | (simp (disch := omega) only [go_sem, ↓reduceIte, Nat.reduceEqDiff, Nat.reduceAdd, Nat.reduceSub, Nat.reduceMul, Nat.reduceLeDiff, Nat.reduceLT, Nat.reduceBEq, Nat.reduceBNe, Int.reduceToNat, Int.reduceLE, Int.reduceLT, Int.reduceNeg, Int.reduceEq, Int.reduceBEq, Int.reduceBNe, Int.reduceAdd, Int.reduceSub, Int.reduceMul, reduceCtorEq, wrap_u32, tn0, tn1, ge0, ge1, hp0, hv2, decide_eq_true, decide_eq_false, s1_hi p0 b0, s1_lo p0 b0, tb1, tb2]; exact rfl)
          · exact store_u8 (f := fbF u N (r - 1)) (i := r - 2) (x := (dchar (p0 / 10)).toNat) (by omega)
          rotate_left
          · exact fun h => Bool.noConfusion h
          rw [qb1]
          obtain ⟨r2, hr2⟩ : ∃ r2, r - 2 = r2 := ⟨_, rfl⟩
          have hri : (r : Int) - 2 = (r2 : Int) := by omega
          rw [hr2] at hu2 hvr2 ⊢
          have hrl2 : r2 < 2 := by omega
          repeat' first
            | with_reducible first | refine wpc_seq ?_ | refine wpc_ops ?_ | refine wops_nil ?_ | refine then_normal ?_ | refine wpc_block ?_ | refine block_normal ?_ | refine wpc_skip ?_ | refine wpc_exit ?_ | refine then_exit ?_ | refine block_exit_same ?_ | refine wpc_ret ?_ | refine then_ret ?_ | refine block_ret ?_ | refine wpc_draw ?_ | refine wdr_nil ?_ | refine gate_t ?_ | refine gate_f ?_ | refine gate_tt ?_ | refine gate_ff ?_ | refine gate_tf ?_ | refine gate_ft ?_ | exact keep_same | exact keep_true
            | (with_reducible refine block_exit_other ?_ ?_; decide)
            | ((with_reducible refine keep_rfl ?_); exact rfl)
            | ((with_reducible first | apply wops_guard | apply wdr_guard | apply wpc_test); focus (simp (disch := omega) only [go_sem, ↓reduceIte, simprocAttr, reduceCtorEq, hri, wrap_u32, tn0, tn1, ge0, ge1, hp0, hv2, decide_eq_true, decide_eq_false, s1_hi p0 b0, s1_lo p0 b0, tb1, tb2]; with_reducible first | exact lit_t | exact lit_f))
            | ((with_reducible first | apply wops_gone | apply wdr_gone); focus (simp (disch := omega) only [go_sem, ↓reduceIte, simprocAttr, reduceCtorEq, hri, wrap_u32, tn0, tn1, ge0, ge1, hp0, hv2, decide_eq_true, decide_eq_false, s1_hi p0 b0, s1_lo p0 b0, tb1, tb2]; done))
            | ((with_reducible first | apply wops_step | apply wops_do | apply wdr_step); focus (simp (disch := omega) only [go_sem, ↓reduceIte, simprocAttr, reduceCtorEq, hri, wrap_u32, tn0, tn1, ge0, ge1, hp0, hv2, decide_eq_true, decide_eq_false, s1_hi p0 b0, s1_lo p0 b0, tb1, tb2]; first | with_reducible exact rfl | (rw [if_pos (by first | omega | (constructor <;> omega) | (simp; done) | assumption)]; first | with_reducible exact rfl | (try simp (disch := omega) only [go_sem, ↓reduceIte, simprocAttr, reduceCtorEq, hri, wrap_u32, tn0, tn1, ge0, ge1, hp0, hv2, decide_eq_true, decide_eq_false, s1_hi p0 b0, s1_lo p0 b0, tb1, tb2]; with_reducible exact rfl))))
          by_cases c1 : 0 < r2
          · have r1 : r2 = 1 := by omega
            subst r1
            have v10 : v2 < 10 := by simpa using hvr2
            have hdc := dchar_lo v10
            have qz : updN (fbF u N 1) 0 (dchar v2).toNat = fbF u N 0 := fb_upd (by omega) (by omega) (by rw [hu2]; omega)
            have hN1 : 1 ≤ N := by omega
            repeat' first
              | with_reducible first | refine wpc_seq ?_ | refine wpc_ops ?_ | refine wops_nil ?_ | refine then_normal ?_ | refine wpc_block ?_ | refine block_normal ?_ | refine wpc_skip ?_ | refine wpc_exit ?_ | refine then_exit ?_ | refine block_exit_same ?_ | refine wpc_ret ?_ | refine then_ret ?_ | refine block_ret ?_ | refine wpc_draw ?_ | refine wdr_nil ?_ | refine gate_t ?_ | refine gate_f ?_ | refine gate_tt ?_ | refine gate_ff ?_ | refine gate_tf ?_ | refine gate_ft ?_ | exact keep_same | exact keep_true
              | (with_reducible refine block_exit_other ?_ ?_; decide)
              | ((with_reducible refine keep_rfl ?_); exact rfl)
              | ((with_reducible first | apply wops_guard | apply wdr_guard | apply wpc_test); focus (simp (disch := omega) only [go_sem, ↓reduceIte, simprocAttr, reduceCtorEq, wrap_u32, decide_eq_true, decide_eq_false, Int.reduceGT, hdc, Int.natCast_one]; with_reducible first | exact lit_t | exact lit_f))
              | ((with_reducible first | apply wops_gone | apply wdr_gone); focus (simp (disch := omega) only [go_sem, ↓reduceIte, simprocAttr, reduceCtorEq, wrap_u32, decide_eq_true, decide_eq_false, Int.reduceGT, hdc, Int.natCast_one]; done))
              | ((with_reducible first | apply wops_step | apply wops_do | apply wdr_step); focus (simp (disch := omega) only [go_sem, ↓reduceIte, simprocAttr, reduceCtorEq, wrap_u32, decide_eq_true, decide_eq_false, Int.reduceGT, hdc, Int.natCast_one]; first | with_reducible exact rfl | (rw [if_pos (by first | omega | (constructor <;> omega) | (simp; done) | assumption)]; first | with_reducible exact rfl | (try simp (disch := omega) only [go_sem, ↓reduceIte, simprocAttr, reduceCtorEq, wrap_u32, decide_eq_true, decide_eq_false, Int.reduceGT, hdc, Int.natCast_one]; with_reducible exact rfl))))
            with_reducible apply wops_store
            · first | exact rfl | (simp (disch := omega) only [go_sem, ↓reduceIte, Nat.reduceEqDiff, Nat.reduceAdd, Nat.reduceSub, Nat.reduceMul, Nat.reduceLeDiff, Nat.reduceLT, Nat.reduceBEq, Nat.reduceBNe, Int.reduceToNat, Int.reduceLE, Int.reduceLT, Int.reduceNeg, Int.reduceEq, Int.reduceBEq, Int.reduceBNe, Int.reduceAdd, Int.reduceSub, Int.reduceMul, reduceCtorEq, wrap_u32, decide_eq_true, decide_eq_false, Int.reduceGT, hdc, Int.natCast_one]; exact rfl)
            · first | exact rfl | (simp (disch := omega) only [go_sem, ↓reduceIte, Nat.reduceEqDiff, Nat.reduceAdd, Nat.reduceSub, Nat.reduceMul, Nat.reduceLeDiff, Nat.reduceLT, Nat.reduceBEq, Nat.reduceBNe, Int.reduceToNat, Int.reduceLE, Int.reduceLT, Int.reduceNeg, Int.reduceEq, Int.reduceBEq, Int.reduceBNe, Int.reduceAdd, Int.reduceSub, Int.reduceMul, reduceCtorEq, wrap_u32, decide_eq_true, decide_eq_false, Int.reduceGT, hdc, Int.natCast_one]; exact rfl)
            · exact store_u8 (f := fbF u N 1) (i := 0) (x := (dchar v2).toNat) (by omega)
            rw [qz]
            repeat' first
              | with_reducible first | refine wpc_seq ?_ | refine wpc_ops ?_ | refine wops_nil ?_ | refine then_normal ?_ | refine wpc_block ?_ | refine block_normal ?_ | refine wpc_skip ?_ | refine wpc_exit ?_ | refine then_exit ?_ | refine block_exit_same ?_ | refine wpc_ret ?_ | refine then_ret ?_ | refine block_ret ?_ | refine wpc_draw ?_ | refine wdr_nil ?_ | refine gate_t ?_ | refine gate_f ?_ | refine gate_tt ?_ | refine gate_ff ?_ | refine gate_tf ?_ | refine gate_ft ?_ | exact keep_same | exact keep_true
              | (with_reducible refine block_exit_other ?_ ?_; decide)
              | ((with_reducible refine keep_rfl ?_); exact rfl)
              | ((with_reducible first | apply wops_guard | apply wdr_guard | apply wpc_test); focus (simp (disch := omega) only [go_sem, ↓reduceIte, simprocAttr, reduceCtorEq, wrap_u32, decide_eq_true, decide_eq_false, Int.reduceGT, hdc, Int.natCast_one]; with_reducible first | exact lit_t | exact lit_f))
              | ((with_reducible first | apply wops_gone | apply wdr_gone); focus (simp (disch := omega) only [go_sem, ↓reduceIte, simprocAttr, reduceCtorEq, wrap_u32, decide_eq_true, decide_eq_false, Int.reduceGT, hdc, Int.natCast_one]; done))
              | ((with_reducible first | apply wops_step | apply wops_do | apply wdr_step); focus (simp (disch := omega) only [go_sem, ↓reduceIte, simprocAttr, reduceCtorEq, wrap_u32, decide_eq_true, decide_eq_false, Int.reduceGT, hdc, Int.natCast_one]; first | with_reducible exact rfl | (rw [if_pos (by first | omega | (constructor <;> omega) | (simp; done) | assumption)]; first | with_reducible exact rfl | (try simp (disch := omega) only [go_sem, ↓reduceIte, simprocAttr, reduceCtorEq, wrap_u32, decide_eq_true, decide_eq_false, Int.reduceGT, hdc, Int.natCast_one]; with_reducible exact rfl))))
            refine end_modn (r := .tup []) (by simp) (hokR _) (by rfl) (by simp [EV.ok, okL]) ⟨rfl, rfl⟩
          · have r0 : r2 = 0 := by omega
            subst r0
            repeat' first
              | with_reducible first | refine wpc_seq ?_ | refine wpc_ops ?_ | refine wops_nil ?_ | refine then_normal ?_ | refine wpc_block ?_ | refine block_normal ?_ | refine wpc_skip ?_ | refine wpc_exit ?_ | refine then_exit ?_ | refine block_exit_same ?_ | refine wpc_ret ?_ | refine then_ret ?_ | refine block_ret ?_ | refine wpc_draw ?_ | refine wdr_nil ?_ | refine gate_t ?_ | refine gate_f ?_ | refine gate_tt ?_ | refine gate_ff ?_ | refine gate_tf ?_ | refine gate_ft ?_ | exact keep_same | exact keep_true
              | (with_reducible refine block_exit_other ?_ ?_; decide)
              | ((with_reducible refine keep_rfl ?_); exact rfl)
              | ((with_reducible first | apply wops_guard | apply wdr_guard | apply wpc_test); focus (simp (disch := omega) only [go_sem, ↓reduceIte, simprocAttr, reduceCtorEq, decide_eq_true, decide_eq_false, Int.reduceGT, Int.natCast_zero, Int.ofNat_zero]; with_reducible first | exact lit_t | exact lit_f))
              | ((with_reducible first | apply wops_gone | apply wdr_gone); focus (simp (disch := omega) only [go_sem, ↓reduceIte, simprocAttr, reduceCtorEq, decide_eq_true, decide_eq_false, Int.reduceGT, Int.natCast_zero, Int.ofNat_zero]; done))
              | ((with_reducible first | apply wops_step | apply wops_do | apply wdr_step); focus (simp (disch := omega) only [go_sem, ↓reduceIte, simprocAttr, reduceCtorEq, decide_eq_true, decide_eq_false, Int.reduceGT, Int.natCast_zero, Int.ofNat_zero]; first | with_reducible exact rfl | (rw [if_pos (by first | omega | (constructor <;> omega) | (simp; done) | assumption)]; first | with_reducible exact rfl | (try simp (disch := omega) only [go_sem, ↓reduceIte, simprocAttr, reduceCtorEq, decide_eq_true, decide_eq_false, Int.reduceGT, Int.natCast_zero, Int.ofNat_zero]; with_reducible exact rfl))))
            refine end_modn (r := .tup []) (by simp) (hokR _) (by rfl) (by simp [EV.ok, okL]) ⟨rfl, rfl⟩
        · repeat' first
            | with_reducible first | refine wpc_seq ?_ | refine wpc_ops ?_ | refine wops_nil ?_ | refine then_normal ?_ | refine wpc_block ?_ | refine block_normal ?_ | refine wpc_skip ?_ | refine wpc_exit ?_ | refine then_exit ?_ | refine block_exit_same ?_ | refine wpc_ret ?_ | refine then_ret ?_ | refine block_ret ?_ | refine wpc_draw ?_ | refine wdr_nil ?_ | refine gate_t ?_ | refine gate_f ?_ | refine gate_tt ?_ | refine gate_ff ?_ | refine gate_tf ?_ | refine gate_ft ?_ | exact keep_same | exact keep_true
            | (with_reducible refine block_exit_other ?_ ?_; decide)
            | ((with_reducible refine keep_rfl ?_); exact rfl)
            | ((with_reducible first | apply wops_guard | apply wdr_guard | apply wpc_test); focus (simp (disch := omega) only [go_sem, ↓reduceIte, simprocAttr, reduceCtorEq, decide_eq_true, decide_eq_false]; with_reducible first | exact lit_t | exact lit_f))
            | ((with_reducible first | apply wops_gone | apply wdr_gone); focus (simp (disch := omega) only [go_sem, ↓reduceIte, simprocAttr, reduceCtorEq, decide_eq_true, decide_eq_false]; done))
            | ((with_reducible first | apply wops_step | apply wops_do | apply wdr_step); focus (simp (disch := omega) only [go_sem, ↓reduceIte, simprocAttr, reduceCtorEq, decide_eq_true, decide_eq_false]; first | with_reducible exact rfl | (rw [if_pos (by first | omega | (constructor <;> omega) | (simp; done) | assumption)]; first | with_reducible exact rfl | (try simp (disch := omega) only [go_sem, ↓reduceIte, simprocAttr, reduceCtorEq, decide_eq_true, decide_eq_false]; with_reducible exact rfl))))
          by_cases c1 : 0 < r
          · have r1 : r = 1 := by omega
            subst r1
            have v10 : v < 10 := by simpa using hvr
            have hdc := dchar_lo v10
            have qz : updN (fbF u N 1) 0 (dchar v).toNat = fbF u N 0 := fb_upd (by omega) (by omega) (by rw [hv]; omega)
            have hN1 : 1 ≤ N := by omega
            repeat' first
              | with_reducible first | refine wpc_seq ?_ | refine wpc_ops ?_ | refine wops_nil ?_ | refine then_normal ?_ | refine wpc_block ?_ | refine block_normal ?_ | refine wpc_skip ?_ | refine wpc_exit ?_ | refine then_exit ?_ | refine block_exit_same ?_ | refine wpc_ret ?_ | refine then_ret ?_ | refine block_ret ?_ | refine wpc_draw ?_ | refine wdr_nil ?_ | refine gate_t ?_ | refine gate_f ?_ | refine gate_tt ?_ | refine gate_ff ?_ | refine gate_tf ?_ | refine gate_ft ?_ | exact keep_same | exact keep_true
              | (with_reducible refine block_exit_other ?_ ?_; decide)
              | ((with_reducible refine keep_rfl ?_); exact rfl)
              | ((with_reducible first | apply wops_guard | apply wdr_guard | apply wpc_test); focus (simp (disch := omega) only [go_sem, ↓reduceIte, simprocAttr, reduceCtorEq, wrap_u32, decide_eq_true, decide_eq_false, Int.reduceGT, hdc, Int.natCast_one]; with_reducible first | exact lit_t | exact lit_f))
              | ((with_reducible first | apply wops_gone | apply wdr_gone); focus (simp (disch := omega) only [go_sem, ↓reduceIte, simprocAttr, reduceCtorEq, wrap_u32, decide_eq_true, decide_eq_false, Int.reduceGT, hdc, Int.natCast_one]; done))
              | ((with_reducible first | apply wops_step | apply wops_do | apply wdr_step); focus (simp (disch := omega) only [go_sem, ↓reduceIte, simprocAttr, reduceCtorEq, wrap_u32, decide_eq_true, decide_eq_false, Int.reduceGT, hdc, Int.natCast_one]; first | with_reducible exact rfl | (rw [if_pos (by first | omega | (constructor <;> omega) | (simp; done) | assumption)]; first | with_reducible exact rfl | (try simp (disch := omega) only [go_sem, ↓reduceIte, simprocAttr, reduceCtorEq, wrap_u32, decide_eq_true, decide_eq_false, Int.reduceGT, hdc, Int.natCast_one]; with_reducible exact rfl))))
            with_reducible apply wops_store
            · first | exact rfl | (simp (disch := omega) only [go_sem, ↓reduceIte, Nat.reduceEqDiff, Nat.reduceAdd, Nat.reduceSub, Nat.reduceMul, Nat.reduceLeDiff, Nat.reduceLT, Nat.reduceBEq, Nat.reduceBNe, Int.reduceToNat, Int.reduceLE, Int.reduceLT, Int.reduceNeg, Int.reduceEq, Int.reduceBEq, Int.reduceBNe, Int.reduceAdd, Int.reduceSub, Int.reduceMul, reduceCtorEq, wrap_u32, decide_eq_true, decide_eq_false, Int.reduceGT, hdc, Int.natCast_one]; exact rfl)
            · first | exact rfl | (simp (disch := omega) only [go_sem, ↓reduceIte, Nat.reduceEqDiff, Nat.reduceAdd, Nat.reduceSub, Nat.reduceMul, Nat.reduceLeDiff, Nat.reduceLT, Nat.reduceBEq, Nat.reduceBNe, Int.reduceToNat, Int.reduceLE, Int.reduceLT, Int.reduceNeg, Int.reduceEq, Int.reduceBEq, Int.reduceBNe, Int.reduceAdd, Int.reduceSub, Int.reduceMul, reduceCtorEq, wrap_u32, decide_eq_true, decide_eq_false, Int.reduceGT, hdc, Int.natCast_one]; exact rfl)
            · exact store_u8 (f := fbF u N 1) (i := 0) (x := (dchar v).toNat) (by omega)
            rw [qz]
            repeat' first
              | with_reducible first | refine wpc_seq ?_ | refine wpc_ops ?_ | refine wops_nil ?_ | refine then_normal ?_ | refine wpc_block ?_ | refine block_normal ?_ | refine wpc_skip ?_ | refine wpc_exit ?_ | refine then_exit ?_ | refine block_exit_same ?_ | refine wpc_ret ?_ | refine then_ret ?_ | refine block_ret ?_ | refine wpc_draw ?_ | refine wdr_nil ?_ | refine gate_t ?_ | refine gate_f ?_ | refine gate_tt ?_ | refine gate_ff ?_ | refine gate_tf ?_ | refine gate_ft ?_ | exact keep_same | exact keep_true
              | (with_reducible refine block_exit_other ?_ ?_; decide)
              | ((with_reducible refine keep_rfl ?_); exact rfl)
              | ((with_reducible first | apply wops_guard | apply wdr_guard | apply wpc_test); focus (simp (disch := omega) only [go_sem, ↓reduceIte, simprocAttr, reduceCtorEq, wrap_u32, decide_eq_true, decide_eq_false, Int.reduceGT, hdc, Int.natCast_one]; with_reducible first | exact lit_t | exact lit_f))
              | ((with_reducible first | apply wops_gone | apply wdr_gone); focus (simp (disch := omega) only [go_sem, ↓reduceIte, simprocAttr, reduceCtorEq, wrap_u32, decide_eq_true, decide_eq_false, Int.reduceGT, hdc, Int.natCast_one]; done))
              | ((with_reducible first | apply wops_step | apply wops_do | apply wdr_step); focus (simp (disch := omega) only [go_sem, ↓reduceIte, simprocAttr, reduceCtorEq, wrap_u32, decide_eq_true, decide_eq_false, Int.reduceGT, hdc, Int.natCast_one]; first | with_reducible exact rfl | (rw [if_pos (by first | omega | (constructor <;> omega) | (simp; done) | assumption)]; first | with_reducible exact rfl | (try simp (disch := omega) only [go_sem, ↓reduceIte, simprocAttr, reduceCtorEq, wrap_u32, decide_eq_true, decide_eq_false, Int.reduceGT, hdc, Int.natCast_one]; with_reducible exact rfl))))
            refine end_modn (r := .tup []) (by simp) (hokR _) (by rfl) (by simp [EV.ok, okL]) ⟨rfl, rfl⟩
          · have r0 : r = 0 := by omega
            subst r0
            repeat' first
              | with_reducible first | refine wpc_seq ?_ | refine wpc_ops ?_ | refine wops_nil ?_ | refine then_normal ?_ | refine wpc_block ?_ | refine block_normal ?_ | refine wpc_skip ?_ | refine wpc_exit ?_ | refine then_exit ?_ | refine block_exit_same ?_ | refine wpc_ret ?_ | refine then_ret ?_ | refine block_ret ?_ | refine wpc_draw ?_ | refine wdr_nil ?_ | refine gate_t ?_ | refine gate_f ?_ | refine gate_tt ?_ | refine gate_ff ?_ | refine gate_tf ?_ | refine gate_ft ?_ | exact keep_same | exact keep_true
              | (with_reducible refine block_exit_other ?_ ?_; decide)
              | ((with_reducible refine keep_rfl ?_); exact rfl)
              | ((with_reducible first | apply wops_guard | apply wdr_guard | apply wpc_test); focus (simp (disch := omega) only [go_sem, ↓reduceIte, simprocAttr, reduceCtorEq, decide_eq_true, decide_eq_false, Int.reduceGT, Int.natCast_zero, Int.ofNat_zero]; with_reducible first | exact lit_t | exact lit_f))
              | ((with_reducible first | apply wops_gone | apply wdr_gone); focus (simp (disch := omega) only [go_sem, ↓reduceIte, simprocAttr, reduceCtorEq, decide_eq_true, decide_eq_false, Int.reduceGT, Int.natCast_zero, Int.ofNat_zero]; done))
              | ((with_reducible first | apply wops_step | apply wops_do | apply wdr_step); focus (simp (disch := omega) only [go_sem, ↓reduceIte, simprocAttr, reduceCtorEq, decide_eq_true, decide_eq_false, Int.reduceGT, Int.natCast_zero, Int.ofNat_zero]; first | with_reducible exact rfl | (rw [if_pos (by first | omega | (constructor <;> omega) | (simp; done) | assumption)]; first | with_reducible exact rfl | (try simp (disch := omega) only [go_sem, ↓reduceIte, simprocAttr, reduceCtorEq, decide_eq_true, decide_eq_false, Int.reduceGT, Int.natCast_zero, Int.ofNat_zero]; with_reducible exact rfl))))
            refine end_modn (r := .tup []) (by simp) (hokR _) (by rfl) (by simp [EV.ok, okL]) ⟨rfl, rfl⟩

end
end Abs
