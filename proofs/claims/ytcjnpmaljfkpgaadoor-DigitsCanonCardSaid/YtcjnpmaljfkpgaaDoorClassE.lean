/- The document's Made and Range. -/
import Derived.Test.YtcjnpmaljfkpgaaDoorClassD
namespace Abs
open Go
set_option linter.all false
set_option maxRecDepth 20000

def madeN (m : Nat → Bool) : Nat → Nat → Nat
  | 0, _ => 0
  | t + 1, j => if j = (255 - t) / 64 then 2 * madeN m t j + (if m (255 - t) then 1 else 0) else madeN m t j

def madeW (m : Nat → Bool) : Nat → Nat := madeN m 256

theorem testBit_two (w : Nat) (c : Bool) (i : Nat) : (2 * w + (if c then 1 else 0)).testBit i = match i with | 0 => c | i + 1 => w.testBit i := by
  cases i with
  | zero => cases c <;> simp [Nat.testBit_zero] <;> omega
  | succ i =>
    rw [Nat.testBit_succ]
    congr 1
    cases c <;> simp <;> omega

theorem madeN_bit (m : Nat → Bool) : ∀ (t : Nat), t ≤ 256 → ∀ (j i : Nat), j < 4 → (madeN m t j).testBit i = (decide (max (256 - t) (64 * j) + i < 64 * j + 64) && m (max (256 - t) (64 * j) + i))
  | 0, _, j, i, hj => by
    have : ¬ (max 256 (64 * j) + i < 64 * j + 64) := by omega
    simp [madeN, this]
  | t + 1, ht, j, i, hj => by
    have ih := madeN_bit m t (by omega) j
    simp only [madeN]
    by_cases e : j = (255 - t) / 64
    · rw [if_pos e, testBit_two]
      have h1 : max (256 - t) (64 * j) = 256 - t := by omega
      have h2 : max (256 - (t + 1)) (64 * j) = 255 - t := by omega
      rw [h2]
      cases i with
      | zero =>
        have : (255 - t < 64 * j + 64) := by omega
        simp [this]
      | succ i =>
        simp only
        rw [ih i hj, h1, show 255 - t + (i + 1) = 256 - t + i by omega]
    · rw [if_neg e, ih i hj]
      by_cases h : 64 * j ≤ 255 - t
      · have h1 : max (256 - t) (64 * j) = 256 - t := by omega
        have h2 : max (256 - (t + 1)) (64 * j) = 255 - t := by omega
        have h3 : ¬ (256 - t + i < 64 * j + 64) := by omega
        have h4 : ¬ (255 - t + i < 64 * j + 64) := by omega
        rw [h1, h2]
        simp [h3, h4]
      · have h1 : max (256 - t) (64 * j) = 64 * j := by omega
        have h2 : max (256 - (t + 1)) (64 * j) = 64 * j := by omega
        rw [h1, h2]

theorem madeN_lt (m : Nat → Bool) (t : Nat) (ht : t ≤ 256) (j : Nat) (hj : j < 4) : madeN m t j < 2 ^ 64 := by
  refine Nat.lt_pow_two_of_testBit _ fun i hi => ?_
  rw [madeN_bit m t ht j i hj]
  have : ¬ (max (256 - t) (64 * j) + i < 64 * j + 64) := by omega
  simp [this]

theorem madeN_lt' (m : Nat → Bool) (t : Nat) (ht : t < 256) : madeN m t ((255 - t) / 64) < 2 ^ 63 := by
  refine Nat.lt_pow_two_of_testBit _ fun i hi => ?_
  rw [madeN_bit m t (by omega) _ i (by omega)]
  have : ¬ (max (256 - t) (64 * ((255 - t) / 64)) + i < 64 * ((255 - t) / 64) + 64) := by omega
  simp [this]

theorem madeN_zero (m : Nat → Bool) (t : Nat) (ht : t ≤ 256) : ∀ j, 4 ≤ j → madeN m t j = 0 := by
  induction t with
  | zero => intro j _; rfl
  | succ t ih =>
    intro j hj
    simp only [madeN]
    rw [if_neg (by omega)]
    exact ih (by omega) j hj

theorem madeW_words (m : Nat → Bool) : Words (madeW m) := by
  intro j
  by_cases h : j < 4
  · exact madeN_lt m 256 (by omega) j h
  · rw [madeW, madeN_zero m 256 (by omega) j (by omega)]; omega

theorem inSet_madeW (m : Nat → Bool) (b : Nat) (hb : b < 256) : inSet (madeW m) b = m b := by
  unfold inSet madeW
  rw [madeN_bit m 256 (by omega) _ _ (by omega)]
  have h1 : max (256 - 256) (64 * (b / 64)) + b % 64 = b := by omega
  rw [h1]
  have : b < 64 * (b / 64) + 64 := by omega
  simp [this]

section
variable {P : Program} {γ : Nat → EV}

def marksE (m : Nat → Bool) : EV := .agg (tab 256 fun i => .bool (m i))

set_option maxHeartbeats 8000000 in
theorem made_ok {f : FuncId} (hb : Body P f hackleref01_Made hackleref01_Made_r 27) (m : Nat → Bool) (H : Heap) :
    CallsA P γ f [marksE m] H fun er H' => er = .ret (setE (madeW m)) ∧ H' = H := by
  refine hb.calls (by simp) fun hok => ?_
  unfold hackleref01_Made
  repeat' first
    | with_reducible first | refine wpc_seq ?_ | refine wpc_ops ?_ | refine wops_nil ?_ | refine then_normal ?_ | refine wpc_block ?_ | refine block_normal ?_ | refine wpc_skip ?_ | refine wpc_exit ?_ | refine then_exit ?_ | refine block_exit_same ?_ | refine wpc_ret ?_ | refine then_ret ?_ | refine block_ret ?_ | refine wpc_draw ?_ | refine wdr_nil ?_ | refine gate_t ?_ | refine gate_f ?_ | refine gate_tt ?_ | refine gate_ff ?_ | refine gate_tf ?_ | refine gate_ft ?_ | exact keep_same | exact keep_true
    | (with_reducible refine block_exit_other ?_ ?_; decide)
    | ((with_reducible refine keep_rfl ?_); exact rfl)
    | ((with_reducible first | apply wops_guard | apply wdr_guard | apply wpc_test); focus (simp (disch := omega) only [go_sem, ↓reduceIte, simprocAttr, reduceCtorEq, marksE]; with_reducible first | exact lit_t | exact lit_f))
    | ((with_reducible first | apply wops_gone | apply wdr_gone); focus (simp (disch := omega) only [go_sem, ↓reduceIte, simprocAttr, reduceCtorEq, marksE]; done))
    | ((with_reducible first | apply wops_step | apply wops_do | apply wdr_step); focus (simp (disch := omega) only [go_sem, ↓reduceIte, simprocAttr, reduceCtorEq, marksE]; first | with_reducible exact rfl | (rw [if_pos (by first | omega | (constructor <;> omega) | (simp; done) | assumption)]; first | with_reducible exact rfl | (try simp (disch := omega) only [go_sem, ↓reduceIte, simprocAttr, reduceCtorEq, marksE]; with_reducible exact rfl))))
  refine wpc_while (ι := Nat) (fun t => t ≤ 256) (fun t => 256 - t) (fun t => [(1, .ptr H.length 256 0 0), (2, .ptr (H.length + 1) 4 0 0), (3, .ptr (H.length + 2) 4 0 0), (4, .int .i64 (255 - (t : Int)))])
    (fun t => H ++ [some (.row 256 [marksE m]), some (.row 4 [setE fun _ => 0]), some (.row 4 [setE (madeN m t)])]) 0 (by omega) ?_ ?_ ?_ ?_ ?_
  · (repeat' (first | exact trivial | refine And.intro (And.intro ?_ ?_) ?_)) <;> first | exact rfl | (simp (disch := omega) only [go_sem, ↓reduceIte, simprocAttr, reduceCtorEq, EV.ok, okL_tab_int, okL_tab_bool, okL_app, okL, decide_eq_true_eq, EV.int.injEq]; done) | (simp (disch := omega) only [go_sem, ↓reduceIte, simprocAttr, reduceCtorEq, EV.ok, okL_tab_int, okL_tab_bool, okL_app, okL, decide_eq_true_eq, EV.int.injEq] <;> first | exact rfl | omega)
  · simp [marksE, setE, madeN]
  · exact fun i _ => okH_app hok (by simp [EB.ok, okG, okL, marksE, setE, EV.ok, okL_tab_int, okL_tab_bool, okL_app])
  · simp
  · intro t ht K Q' hK hQ'
    repeat' first
      | with_reducible first | refine wpc_seq ?_ | refine wpc_ops ?_ | refine wops_nil ?_ | refine then_normal ?_ | refine wpc_block ?_ | refine block_normal ?_ | refine wpc_skip ?_ | refine wpc_exit ?_ | refine then_exit ?_ | refine block_exit_same ?_ | refine wpc_ret ?_ | refine then_ret ?_ | refine block_ret ?_ | refine wpc_draw ?_ | refine wdr_nil ?_ | refine gate_t ?_ | refine gate_f ?_ | refine gate_tt ?_ | refine gate_ff ?_ | refine gate_tf ?_ | refine gate_ft ?_ | exact keep_same | exact keep_true
      | (with_reducible refine block_exit_other ?_ ?_; decide)
      | ((with_reducible refine keep_rfl ?_); exact rfl)
      | ((with_reducible first | apply wops_guard | apply wdr_guard | apply wpc_test); focus (simp (disch := omega) only [go_sem, ↓reduceIte, simprocAttr, reduceCtorEq]; with_reducible first | exact lit_t | exact lit_f))
      | ((with_reducible first | apply wops_gone | apply wdr_gone); focus (simp (disch := omega) only [go_sem, ↓reduceIte, simprocAttr, reduceCtorEq]; done))
      | ((with_reducible first | apply wops_step | apply wops_do | apply wdr_step); focus (simp (disch := omega) only [go_sem, ↓reduceIte, simprocAttr, reduceCtorEq]; first | with_reducible exact rfl | (rw [if_pos (by first | omega | (constructor <;> omega) | (simp; done) | assumption)]; first | with_reducible exact rfl | (try simp (disch := omega) only [go_sem, ↓reduceIte, simprocAttr, reduceCtorEq]; with_reducible exact rfl))))
    refine wpc_cond (t := decide ((255 - (t : Int)) ≥ 0)) (by simp (disch := omega) only [go_sem, ↓reduceIte, simprocAttr, reduceCtorEq]) (fun hc => ?_) (fun hc => ?_)
    · have htl : t < 256 := by have := of_decide_eq_true hc; omega
      obtain ⟨b, hb⟩ : ∃ b : Nat, b = 255 - t := ⟨_, rfl⟩
      have hbt : (255 : Int) - (t : Int) = ((b : Nat) : Int) := by omega
      have hw := madeN_lt' m t htl
      rw [← hb] at hw
      simp only [hbt, marksE, setE]
      cases hm : m b
      · repeat' first
          | with_reducible first | refine wpc_seq ?_ | refine wpc_ops ?_ | refine wops_nil ?_ | refine then_normal ?_ | refine wpc_block ?_ | refine block_normal ?_ | refine wpc_skip ?_ | refine wpc_exit ?_ | refine then_exit ?_ | refine block_exit_same ?_ | refine wpc_ret ?_ | refine then_ret ?_ | refine block_ret ?_ | refine wpc_draw ?_ | refine wdr_nil ?_ | refine gate_t ?_ | refine gate_f ?_ | refine gate_tt ?_ | refine gate_ff ?_ | refine gate_tf ?_ | refine gate_ft ?_ | exact keep_same | exact keep_true
          | (with_reducible refine block_exit_other ?_ ?_; decide)
          | ((with_reducible refine keep_rfl ?_); exact rfl)
          | ((with_reducible first | apply wops_guard | apply wdr_guard | apply wpc_test); focus (simp (disch := omega) only [go_sem, ↓reduceIte, simprocAttr, reduceCtorEq, hm]; with_reducible first | exact lit_t | exact lit_f))
          | ((with_reducible first | apply wops_gone | apply wdr_gone); focus (simp (disch := omega) only [go_sem, ↓reduceIte, simprocAttr, reduceCtorEq, hm]; done))
          | ((with_reducible first | apply wops_step | apply wops_do | apply wdr_step); focus (simp (disch := omega) only [go_sem, ↓reduceIte, simprocAttr, reduceCtorEq, hm]; first | with_reducible exact rfl | (rw [if_pos (by first | omega | (constructor <;> omega) | (simp; done) | assumption)]; first | with_reducible exact rfl | (try simp (disch := omega) only [go_sem, ↓reduceIte, simprocAttr, reduceCtorEq, hm]; with_reducible exact rfl))))
        refine hK (t + 1) _ _ [] (by omega) (by omega) ?_ ?_
        · simp only [marksE, setE, madeN, ← hb, hm, Bool.false_eq_true, if_false, Nat.add_zero, List.append_nil, Int.natCast_zero]
          have e : (fun i => EV.int .u64 (if i = b / 64 then ((madeN m t (b / 64) : Nat) : Int) * 2 else ((madeN m t i : Nat) : Int))) = fun i => EV.int .u64 ((if i = b / 64 then 2 * madeN m t i else madeN m t i : Nat) : Int) := by
            funext i
            by_cases h : i = b / 64
            · subst h; simp; omega
            · rw [if_neg h, if_neg h]
          rw [e]
        · (repeat' (first | exact trivial | refine And.intro (And.intro ?_ ?_) ?_)) <;> first | exact rfl | (simp (disch := omega) only [go_sem, ↓reduceIte, simprocAttr, reduceCtorEq, EV.ok, okL_tab_int, okL_tab_bool, okL_app, okL, decide_eq_true_eq, EV.int.injEq]; done) | (simp (disch := omega) only [go_sem, ↓reduceIte, simprocAttr, reduceCtorEq, EV.ok, okL_tab_int, okL_tab_bool, okL_app, okL, decide_eq_true_eq, EV.int.injEq] <;> first | exact rfl | omega)
      · repeat' first
          | with_reducible first | refine wpc_seq ?_ | refine wpc_ops ?_ | refine wops_nil ?_ | refine then_normal ?_ | refine wpc_block ?_ | refine block_normal ?_ | refine wpc_skip ?_ | refine wpc_exit ?_ | refine then_exit ?_ | refine block_exit_same ?_ | refine wpc_ret ?_ | refine then_ret ?_ | refine block_ret ?_ | refine wpc_draw ?_ | refine wdr_nil ?_ | refine gate_t ?_ | refine gate_f ?_ | refine gate_tt ?_ | refine gate_ff ?_ | refine gate_tf ?_ | refine gate_ft ?_ | exact keep_same | exact keep_true
          | (with_reducible refine block_exit_other ?_ ?_; decide)
          | ((with_reducible refine keep_rfl ?_); exact rfl)
          | ((with_reducible first | apply wops_guard | apply wdr_guard | apply wpc_test); focus (simp (disch := omega) only [go_sem, ↓reduceIte, simprocAttr, reduceCtorEq, hm]; with_reducible first | exact lit_t | exact lit_f))
          | ((with_reducible first | apply wops_gone | apply wdr_gone); focus (simp (disch := omega) only [go_sem, ↓reduceIte, simprocAttr, reduceCtorEq, hm]; done))
          | ((with_reducible first | apply wops_step | apply wops_do | apply wdr_step); focus (simp (disch := omega) only [go_sem, ↓reduceIte, simprocAttr, reduceCtorEq, hm]; first | with_reducible exact rfl | (rw [if_pos (by first | omega | (constructor <;> omega) | (simp; done) | assumption)]; first | with_reducible exact rfl | (try simp (disch := omega) only [go_sem, ↓reduceIte, simprocAttr, reduceCtorEq, hm]; with_reducible exact rfl))))
        refine hK (t + 1) _ _ [] (by omega) (by omega) ?_ ?_
        · simp only [marksE, setE, madeN, ← hb, hm, if_true, List.append_nil, Int.natCast_zero]
          have e : (fun i => EV.int .u64 (if i = b / 64 then ((madeN m t (b / 64) : Nat) : Int) * 2 + 1 else if i = b / 64 then ((madeN m t (b / 64) : Nat) : Int) * 2 else ((madeN m t i : Nat) : Int))) = fun i => EV.int .u64 ((if i = b / 64 then 2 * madeN m t i + 1 else madeN m t i : Nat) : Int) := by
            funext i
            by_cases h : i = b / 64
            · subst h; simp; omega
            · rw [if_neg h, if_neg h, if_neg h]
          rw [e]
        · (repeat' (first | exact trivial | refine And.intro (And.intro ?_ ?_) ?_)) <;> first | exact rfl | (simp (disch := omega) only [go_sem, ↓reduceIte, simprocAttr, reduceCtorEq, EV.ok, okL_tab_int, okL_tab_bool, okL_app, okL, decide_eq_true_eq, EV.int.injEq]; done) | (simp (disch := omega) only [go_sem, ↓reduceIte, simprocAttr, reduceCtorEq, EV.ok, okL_tab_int, okL_tab_bool, okL_app, okL, decide_eq_true_eq, EV.int.injEq] <;> first | exact rfl | omega)
    · have hi4 : t = 256 := by have := of_decide_eq_false hc; omega
      subst hi4
      repeat' first
        | with_reducible first | refine wpc_seq ?_ | refine wpc_ops ?_ | refine wops_nil ?_ | refine then_normal ?_ | refine wpc_block ?_ | refine block_normal ?_ | refine wpc_skip ?_ | refine wpc_exit ?_ | refine then_exit ?_ | refine block_exit_same ?_ | refine wpc_ret ?_ | refine then_ret ?_ | refine block_ret ?_ | refine wpc_draw ?_ | refine wdr_nil ?_ | refine gate_t ?_ | refine gate_f ?_ | refine gate_tt ?_ | refine gate_ff ?_ | refine gate_tf ?_ | refine gate_ft ?_ | exact keep_same | exact keep_true
        | (with_reducible refine block_exit_other ?_ ?_; decide)
        | ((with_reducible refine keep_rfl ?_); exact rfl)
        | ((with_reducible first | apply wops_guard | apply wdr_guard | apply wpc_test); focus (simp (disch := omega) only [go_sem, ↓reduceIte, simprocAttr, reduceCtorEq]; with_reducible first | exact lit_t | exact lit_f))
        | ((with_reducible first | apply wops_gone | apply wdr_gone); focus (simp (disch := omega) only [go_sem, ↓reduceIte, simprocAttr, reduceCtorEq]; done))
        | ((with_reducible first | apply wops_step | apply wops_do | apply wdr_step); focus (simp (disch := omega) only [go_sem, ↓reduceIte, simprocAttr, reduceCtorEq]; first | with_reducible exact rfl | (rw [if_pos (by first | omega | (constructor <;> omega) | (simp; done) | assumption)]; first | with_reducible exact rfl | (try simp (disch := omega) only [go_sem, ↓reduceIte, simprocAttr, reduceCtorEq]; with_reducible exact rfl))))
      refine hQ' _ _ _ ?_
      repeat' first
        | with_reducible first | refine wpc_seq ?_ | refine wpc_ops ?_ | refine wops_nil ?_ | refine then_normal ?_ | refine wpc_block ?_ | refine block_normal ?_ | refine wpc_skip ?_ | refine wpc_exit ?_ | refine then_exit ?_ | refine block_exit_same ?_ | refine wpc_ret ?_ | refine then_ret ?_ | refine block_ret ?_ | refine wpc_draw ?_ | refine wdr_nil ?_ | refine gate_t ?_ | refine gate_f ?_ | refine gate_tt ?_ | refine gate_ff ?_ | refine gate_tf ?_ | refine gate_ft ?_ | exact keep_same | exact keep_true
        | (with_reducible refine block_exit_other ?_ ?_; decide)
        | ((with_reducible refine keep_rfl ?_); exact rfl)
        | ((with_reducible first | apply wops_guard | apply wdr_guard | apply wpc_test); focus (simp (disch := omega) only [go_sem, ↓reduceIte, simprocAttr, reduceCtorEq, setE]; with_reducible first | exact lit_t | exact lit_f))
        | ((with_reducible first | apply wops_gone | apply wdr_gone); focus (simp (disch := omega) only [go_sem, ↓reduceIte, simprocAttr, reduceCtorEq, setE]; done))
        | ((with_reducible first | apply wops_step | apply wops_do | apply wdr_step); focus (simp (disch := omega) only [go_sem, ↓reduceIte, simprocAttr, reduceCtorEq, setE]; first | with_reducible exact rfl | (rw [if_pos (by first | omega | (constructor <;> omega) | (simp; done) | assumption)]; first | with_reducible exact rfl | (try simp (disch := omega) only [go_sem, ↓reduceIte, simprocAttr, reduceCtorEq, setE]; with_reducible exact rfl))))
      refine end_drop hok (r := setE (madeW m)) ?_ ?_ ⟨rfl, rfl⟩
      · first | (simp (disch := omega) only [go_sem, ↓reduceIte, simprocAttr, reduceCtorEq, evResults, evResL, evRes, hackleref01_Made_r, setE, madeW]; done) | (simp (disch := omega) only [go_sem, ↓reduceIte, simprocAttr, reduceCtorEq, evResults, evResL, evRes, hackleref01_Made_r, setE, madeW]; with_reducible exact rfl) | exact rfl
      · first | (simp [EV.ok, okL, okL_tab_int, okL_tab_bool, okL_app, setE, madeW]; done)

def rangeM (lo hi : Nat) (i : Nat) : Bool := decide (lo ≤ i) && decide (i ≤ hi)

set_option maxHeartbeats 8000000 in
theorem range_ok {f fm : FuncId} (hb : Body P f (hackleref01_Range fm) hackleref01_Range_r 17) (hm : Body P fm hackleref01_Made hackleref01_Made_r 27) (lo hi : Nat) (hlo : lo ≤ hi) (hhi : hi < 256) (H : Heap) :
    CallsA P γ f [.int .i64 lo, .int .i64 hi] H fun er H' => er = .ret (setE (madeW (rangeM lo hi))) ∧ H' = H := by
  refine hb.calls (by simp) fun hok => ?_
  unfold hackleref01_Range
  repeat' first
    | with_reducible first | refine wpc_seq ?_ | refine wpc_ops ?_ | refine wops_nil ?_ | refine then_normal ?_ | refine wpc_block ?_ | refine block_normal ?_ | refine wpc_skip ?_ | refine wpc_exit ?_ | refine then_exit ?_ | refine block_exit_same ?_ | refine wpc_ret ?_ | refine then_ret ?_ | refine block_ret ?_ | refine wpc_draw ?_ | refine wdr_nil ?_ | refine gate_t ?_ | refine gate_f ?_ | refine gate_tt ?_ | refine gate_ff ?_ | refine gate_tf ?_ | refine gate_ft ?_ | exact keep_same | exact keep_true
    | (with_reducible refine block_exit_other ?_ ?_; decide)
    | ((with_reducible refine keep_rfl ?_); exact rfl)
    | ((with_reducible first | apply wops_guard | apply wdr_guard | apply wpc_test); focus (simp (disch := omega) only [go_sem, ↓reduceIte, simprocAttr, reduceCtorEq]; with_reducible first | exact lit_t | exact lit_f))
    | ((with_reducible first | apply wops_gone | apply wdr_gone); focus (simp (disch := omega) only [go_sem, ↓reduceIte, simprocAttr, reduceCtorEq]; done))
    | ((with_reducible first | apply wops_step | apply wops_do | apply wdr_step); focus (simp (disch := omega) only [go_sem, ↓reduceIte, simprocAttr, reduceCtorEq]; first | with_reducible exact rfl | (rw [if_pos (by first | omega | (constructor <;> omega) | (simp; done) | assumption)]; first | with_reducible exact rfl | (try simp (disch := omega) only [go_sem, ↓reduceIte, simprocAttr, reduceCtorEq]; with_reducible exact rfl))))
  refine wpc_while (ι := Nat) (fun t => lo ≤ t ∧ t ≤ hi + 1) (fun t => hi + 1 - t) (fun t => [(1, .int .i64 hi), (4, .ptr H.length 4 0 0), (5, .ptr (H.length + 1) 256 0 0), (6, .int .i64 t)])
    (fun t => H ++ [some (.row 4 [setE fun _ => 0]), some (.row 256 [marksE fun i => decide (lo ≤ i) && decide (i < t)])]) lo (by omega) ?_ ?_ ?_ ?_ ?_
  · (repeat' (first | exact trivial | refine And.intro (And.intro ?_ ?_) ?_)) <;> first | exact rfl | (simp (disch := omega) only [go_sem, ↓reduceIte, simprocAttr, reduceCtorEq, EV.ok, okL_tab_int, okL_tab_bool, okL_app, okL, decide_eq_true_eq, EV.int.injEq]; done) | (simp (disch := omega) only [go_sem, ↓reduceIte, simprocAttr, reduceCtorEq, EV.ok, okL_tab_int, okL_tab_bool, okL_app, okL, decide_eq_true_eq, EV.int.injEq] <;> first | exact rfl | omega)
  · have e : (fun i => EV.bool (decide (lo ≤ i) && decide (i < lo))) = fun _ => EV.bool false := by
      funext i
      by_cases h : lo ≤ i
      · have : ¬ i < lo := by omega
        simp [this]
      · simp [h]
    simp [marksE, setE, e]
  · exact fun i _ => okH_app hok (by simp [EB.ok, okG, okL, marksE, setE, EV.ok, okL_tab_int, okL_tab_bool, okL_app])
  · simp
  · rintro t ⟨ht1, ht2⟩ K Q' hK hQ'
    repeat' first
      | with_reducible first | refine wpc_seq ?_ | refine wpc_ops ?_ | refine wops_nil ?_ | refine then_normal ?_ | refine wpc_block ?_ | refine block_normal ?_ | refine wpc_skip ?_ | refine wpc_exit ?_ | refine then_exit ?_ | refine block_exit_same ?_ | refine wpc_ret ?_ | refine then_ret ?_ | refine block_ret ?_ | refine wpc_draw ?_ | refine wdr_nil ?_ | refine gate_t ?_ | refine gate_f ?_ | refine gate_tt ?_ | refine gate_ff ?_ | refine gate_tf ?_ | refine gate_ft ?_ | exact keep_same | exact keep_true
      | (with_reducible refine block_exit_other ?_ ?_; decide)
      | ((with_reducible refine keep_rfl ?_); exact rfl)
      | ((with_reducible first | apply wops_guard | apply wdr_guard | apply wpc_test); focus (simp (disch := omega) only [go_sem, ↓reduceIte, simprocAttr, reduceCtorEq]; with_reducible first | exact lit_t | exact lit_f))
      | ((with_reducible first | apply wops_gone | apply wdr_gone); focus (simp (disch := omega) only [go_sem, ↓reduceIte, simprocAttr, reduceCtorEq]; done))
      | ((with_reducible first | apply wops_step | apply wops_do | apply wdr_step); focus (simp (disch := omega) only [go_sem, ↓reduceIte, simprocAttr, reduceCtorEq]; first | with_reducible exact rfl | (rw [if_pos (by first | omega | (constructor <;> omega) | (simp; done) | assumption)]; first | with_reducible exact rfl | (try simp (disch := omega) only [go_sem, ↓reduceIte, simprocAttr, reduceCtorEq]; with_reducible exact rfl))))
    refine wpc_cond (t := decide ((t : Int) ≤ (hi : Int))) (by simp (disch := omega) only [go_sem, ↓reduceIte, simprocAttr, reduceCtorEq]) (fun hc => ?_) (fun hc => ?_)
    · have htl : t ≤ hi := by have := of_decide_eq_true hc; omega
      simp only [marksE, setE]
      repeat' first
        | with_reducible first | refine wpc_seq ?_ | refine wpc_ops ?_ | refine wops_nil ?_ | refine then_normal ?_ | refine wpc_block ?_ | refine block_normal ?_ | refine wpc_skip ?_ | refine wpc_exit ?_ | refine then_exit ?_ | refine block_exit_same ?_ | refine wpc_ret ?_ | refine then_ret ?_ | refine block_ret ?_ | refine wpc_draw ?_ | refine wdr_nil ?_ | refine gate_t ?_ | refine gate_f ?_ | refine gate_tt ?_ | refine gate_ff ?_ | refine gate_tf ?_ | refine gate_ft ?_ | exact keep_same | exact keep_true
        | (with_reducible refine block_exit_other ?_ ?_; decide)
        | ((with_reducible refine keep_rfl ?_); exact rfl)
        | ((with_reducible first | apply wops_guard | apply wdr_guard | apply wpc_test); focus (simp (disch := omega) only [go_sem, ↓reduceIte, simprocAttr, reduceCtorEq]; with_reducible first | exact lit_t | exact lit_f))
        | ((with_reducible first | apply wops_gone | apply wdr_gone); focus (simp (disch := omega) only [go_sem, ↓reduceIte, simprocAttr, reduceCtorEq]; done))
        | ((with_reducible first | apply wops_step | apply wops_do | apply wdr_step); focus (simp (disch := omega) only [go_sem, ↓reduceIte, simprocAttr, reduceCtorEq]; first | with_reducible exact rfl | (rw [if_pos (by first | omega | (constructor <;> omega) | (simp; done) | assumption)]; first | with_reducible exact rfl | (try simp (disch := omega) only [go_sem, ↓reduceIte, simprocAttr, reduceCtorEq]; with_reducible exact rfl))))
      refine hK (t + 1) _ _ [] (by omega) (by omega) ?_ ?_
      · have e : (fun i => EV.bool (if i = t then true else decide (lo ≤ i) && decide (i < t))) = fun i => EV.bool (decide (lo ≤ i) && decide (i < t + 1)) := by
          funext i
          by_cases h : i = t
          · subst h; simp [ht1]
          · rw [if_neg h]
            have : (i < t + 1) ↔ i < t := by omega
            simp [this]
        simp only [marksE, setE, e, List.append_nil, Int.natCast_zero]
      · (repeat' (first | exact trivial | refine And.intro (And.intro ?_ ?_) ?_)) <;> first | exact rfl | (simp (disch := omega) only [go_sem, ↓reduceIte, simprocAttr, reduceCtorEq, EV.ok, okL_tab_int, okL_tab_bool, okL_app, okL, decide_eq_true_eq, EV.int.injEq]; done) | (simp (disch := omega) only [go_sem, ↓reduceIte, simprocAttr, reduceCtorEq, EV.ok, okL_tab_int, okL_tab_bool, okL_app, okL, decide_eq_true_eq, EV.int.injEq] <;> first | exact rfl | omega)
    · have hi4 : t = hi + 1 := by have := of_decide_eq_false hc; omega
      subst hi4
      repeat' first
        | with_reducible first | refine wpc_seq ?_ | refine wpc_ops ?_ | refine wops_nil ?_ | refine then_normal ?_ | refine wpc_block ?_ | refine block_normal ?_ | refine wpc_skip ?_ | refine wpc_exit ?_ | refine then_exit ?_ | refine block_exit_same ?_ | refine wpc_ret ?_ | refine then_ret ?_ | refine block_ret ?_ | refine wpc_draw ?_ | refine wdr_nil ?_ | refine gate_t ?_ | refine gate_f ?_ | refine gate_tt ?_ | refine gate_ff ?_ | refine gate_tf ?_ | refine gate_ft ?_ | exact keep_same | exact keep_true
        | (with_reducible refine block_exit_other ?_ ?_; decide)
        | ((with_reducible refine keep_rfl ?_); exact rfl)
        | ((with_reducible first | apply wops_guard | apply wdr_guard | apply wpc_test); focus (simp (disch := omega) only [go_sem, ↓reduceIte, simprocAttr, reduceCtorEq]; with_reducible first | exact lit_t | exact lit_f))
        | ((with_reducible first | apply wops_gone | apply wdr_gone); focus (simp (disch := omega) only [go_sem, ↓reduceIte, simprocAttr, reduceCtorEq]; done))
        | ((with_reducible first | apply wops_step | apply wops_do | apply wdr_step); focus (simp (disch := omega) only [go_sem, ↓reduceIte, simprocAttr, reduceCtorEq]; first | with_reducible exact rfl | (rw [if_pos (by first | omega | (constructor <;> omega) | (simp; done) | assumption)]; first | with_reducible exact rfl | (try simp (disch := omega) only [go_sem, ↓reduceIte, simprocAttr, reduceCtorEq]; with_reducible exact rfl))))
      refine hQ' _ _ _ ?_
      have e : (fun i => decide (lo ≤ i) && decide (i < hi + 1)) = rangeM lo hi := by
        funext i
        unfold rangeM
        have : (i < hi + 1) ↔ i ≤ hi := by omega
        simp [this]
      simp only [e]
      simp only [marksE, setE]
      repeat' first
        | with_reducible first | refine wpc_seq ?_ | refine wpc_ops ?_ | refine wops_nil ?_ | refine then_normal ?_ | refine wpc_block ?_ | refine block_normal ?_ | refine wpc_skip ?_ | refine wpc_exit ?_ | refine then_exit ?_ | refine block_exit_same ?_ | refine wpc_ret ?_ | refine then_ret ?_ | refine block_ret ?_ | refine wpc_draw ?_ | refine wdr_nil ?_ | refine gate_t ?_ | refine gate_f ?_ | refine gate_tt ?_ | refine gate_ff ?_ | refine gate_tf ?_ | refine gate_ft ?_ | exact keep_same | exact keep_true
        | (with_reducible refine block_exit_other ?_ ?_; decide)
        | ((with_reducible refine keep_rfl ?_); exact rfl)
        | ((with_reducible first | apply wops_guard | apply wdr_guard | apply wpc_test); focus (simp (disch := omega) only [go_sem, ↓reduceIte, simprocAttr, reduceCtorEq]; with_reducible first | exact lit_t | exact lit_f))
        | ((with_reducible first | apply wops_gone | apply wdr_gone); focus (simp (disch := omega) only [go_sem, ↓reduceIte, simprocAttr, reduceCtorEq]; done))
        | ((with_reducible first | apply wops_step | apply wops_do | apply wdr_step); focus (simp (disch := omega) only [go_sem, ↓reduceIte, simprocAttr, reduceCtorEq]; first | with_reducible exact rfl | (rw [if_pos (by first | omega | (constructor <;> omega) | (simp; done) | assumption)]; first | with_reducible exact rfl | (try simp (disch := omega) only [go_sem, ↓reduceIte, simprocAttr, reduceCtorEq]; with_reducible exact rfl))))
      with_reducible apply wops_call1
      · first | exact rfl | (simp (disch := omega) only [go_sem, ↓reduceIte, simprocAttr, reduceCtorEq, marksE]; exact rfl)
      · (simp (disch := omega) only [go_sem, ↓reduceIte, simprocAttr, reduceCtorEq, marksE]; exact rfl)
      · exact made_ok hm (rangeM lo hi) _
      repeat' first
        | with_reducible first | refine wpc_seq ?_ | refine wpc_ops ?_ | refine wops_nil ?_ | refine then_normal ?_ | refine wpc_block ?_ | refine block_normal ?_ | refine wpc_skip ?_ | refine wpc_exit ?_ | refine then_exit ?_ | refine block_exit_same ?_ | refine wpc_ret ?_ | refine then_ret ?_ | refine block_ret ?_ | refine wpc_draw ?_ | refine wdr_nil ?_ | refine gate_t ?_ | refine gate_f ?_ | refine gate_tt ?_ | refine gate_ff ?_ | refine gate_tf ?_ | refine gate_ft ?_ | exact keep_same | exact keep_true
        | (with_reducible refine block_exit_other ?_ ?_; decide)
        | ((with_reducible refine keep_rfl ?_); exact rfl)
        | ((with_reducible first | apply wops_guard | apply wdr_guard | apply wpc_test); focus (simp (disch := omega) only [go_sem, ↓reduceIte, simprocAttr, reduceCtorEq, setE]; with_reducible first | exact lit_t | exact lit_f))
        | ((with_reducible first | apply wops_gone | apply wdr_gone); focus (simp (disch := omega) only [go_sem, ↓reduceIte, simprocAttr, reduceCtorEq, setE]; done))
        | ((with_reducible first | apply wops_step | apply wops_do | apply wdr_step); focus (simp (disch := omega) only [go_sem, ↓reduceIte, simprocAttr, reduceCtorEq, setE]; first | with_reducible exact rfl | (rw [if_pos (by first | omega | (constructor <;> omega) | (simp; done) | assumption)]; first | with_reducible exact rfl | (try simp (disch := omega) only [go_sem, ↓reduceIte, simprocAttr, reduceCtorEq, setE]; with_reducible exact rfl))))
      refine end_drop hok (r := setE (madeW (rangeM lo hi))) ?_ ?_ ⟨rfl, rfl⟩
      · first | (simp (disch := omega) only [go_sem, ↓reduceIte, simprocAttr, reduceCtorEq, evResults, evResL, evRes, hackleref01_Range_r, setE]; done) | (simp (disch := omega) only [go_sem, ↓reduceIte, simprocAttr, reduceCtorEq, evResults, evResL, evRes, hackleref01_Range_r, setE]; with_reducible exact rfl) | exact rfl
      · first | (simp [EV.ok, okL, okL_tab_int, okL_tab_bool, okL_app, setE]; done)

end
end Abs
