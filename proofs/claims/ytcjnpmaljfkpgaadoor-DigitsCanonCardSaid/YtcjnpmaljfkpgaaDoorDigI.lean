/- formatBits, base 16. -/
import Derived.Test.YtcjnpmaljfkpgaaDoorDigH
namespace Abs
open Go
set_option linter.all false
set_option maxRecDepth 20000

theorem byteV_u8 (b : UInt8) : byteV (.int .u8 ((b.toNat : Nat) : Int)) = some b := by
  simp [byteV]

theorem lowD_succ (B k n : Nat) : lowD B (k + 1) n = dchar (n / B ^ k % B) :: lowD B k n := rfl
theorem lowD_zero (B n : Nat) : lowD B 0 n = [] := rfl

/-- A row of digits, from the right. -/
theorem bytes_low {B n N K : Nat} {g : Nat → Nat} (hK : K ≤ N) (hg : ∀ j, N - K ≤ j → j < N → g j = (dchar (n / B ^ (N - 1 - j) % B)).toNat) :
    ∀ k, k ≤ K → bytesV ((tab N fun j => EV.int .u8 ((g j : Nat) : Int)).drop (N - k)) = some (lowD B k n)
  | 0, _ => by
    rw [Nat.sub_zero, List.drop_of_length_le (by simp [tab_len])]
    rfl
  | k + 1, hk => by
    have ih := bytes_low hK hg k (by omega)
    have hlt : N - (k + 1) < (tab N fun j => EV.int .u8 ((g j : Nat) : Int)).length := by rw [tab_len]; omega
    rw [List.drop_eq_getElem_cons hlt, show N - (k + 1) + 1 = N - k by omega]
    have e : (tab N fun j => EV.int .u8 ((g j : Nat) : Int))[N - (k + 1)] = EV.int .u8 ((dchar (n / B ^ k % B)).toNat : Nat) := by
      have h1 := tab_get (n := N) (f := fun j => EV.int .u8 ((g j : Nat) : Int)) (k := N - (k + 1)) (by omega)
      rw [List.getElem?_eq_getElem hlt] at h1
      simp only [Option.some.injEq] at h1
      rw [h1, hg _ (by omega) (by omega), show N - 1 - (N - (k + 1)) = k by omega]
    rw [e]
    simp only [bytesV, byteV_u8, ih, lowD_succ]

def fa (n k j : Nat) : Nat := if 65 - k ≤ j then (dchar (n / 16 ^ (64 - j) % 16)).toNat else 0

attribute [local irreducible] lowD nd dchar

section
variable {P : Program} {γ : Nat → EV}

theorem tz16_ok {f f32 f64 : FuncId} (hb : Body P f (math_bits_TrailingZeros f32 f64) math_bits_TrailingZeros_r 8) (ht : TzOk P γ f64) (H : Heap) : CallsA P γ f [.int .u64 16] H fun er H' => er = .ret (.int .i64 4) ∧ H' = H := by
  refine hb.calls (by simp) fun hok => ?_
  have e : (tzN 16 : Int) = 4 := by decide
  have h := fun H => ht 16 H (by decide) (by decide)
  simp only [e] at h
  unfold math_bits_TrailingZeros
  repeat' first
    | with_reducible first | refine wpc_seq ?_ | refine wpc_ops ?_ | refine wops_nil ?_ | refine then_normal ?_ | refine wpc_block ?_ | refine block_normal ?_ | refine wpc_skip ?_ | refine wpc_exit ?_ | refine then_exit ?_ | refine block_exit_same ?_ | refine wpc_ret ?_ | refine then_ret ?_ | refine block_ret ?_ | refine wpc_draw ?_ | refine wdr_nil ?_ | refine gate_t ?_ | refine gate_f ?_ | refine gate_tt ?_ | refine gate_ff ?_ | refine gate_tf ?_ | refine gate_ft ?_ | exact keep_same | exact keep_true
    | (with_reducible refine block_exit_other ?_ ?_; decide)
    | ((with_reducible refine keep_rfl ?_); exact rfl)
    | ((with_reducible first | apply wops_guard | apply wdr_guard | apply wpc_test); focus (simp (disch := omega) only [go_sem, ↓reduceIte, simprocAttr, reduceCtorEq]; with_reducible first | exact lit_t | exact lit_f))
    | ((with_reducible first | apply wops_gone | apply wdr_gone); focus (simp (disch := omega) only [go_sem, ↓reduceIte, simprocAttr, reduceCtorEq]; done))
    | ((with_reducible first | apply wops_step | apply wops_do | apply wdr_step); focus (simp (disch := omega) only [go_sem, ↓reduceIte, simprocAttr, reduceCtorEq]; first | with_reducible exact rfl | (rw [if_pos (by first | omega | (constructor <;> omega) | (simp; done) | assumption)]; first | with_reducible exact rfl | (try simp (disch := omega) only [go_sem, ↓reduceIte, simprocAttr, reduceCtorEq]; with_reducible exact rfl))))
  with_reducible apply wops_call1
  · first | exact rfl | (simp (disch := omega) only [go_sem, ↓reduceIte, simprocAttr, reduceCtorEq]; exact rfl)
  · (simp (disch := omega) only [go_sem, ↓reduceIte, simprocAttr, reduceCtorEq]; exact rfl)
  · exact h _
  repeat' first
    | with_reducible first | refine wpc_seq ?_ | refine wpc_ops ?_ | refine wops_nil ?_ | refine then_normal ?_ | refine wpc_block ?_ | refine block_normal ?_ | refine wpc_skip ?_ | refine wpc_exit ?_ | refine then_exit ?_ | refine block_exit_same ?_ | refine wpc_ret ?_ | refine then_ret ?_ | refine block_ret ?_ | refine wpc_draw ?_ | refine wdr_nil ?_ | refine gate_t ?_ | refine gate_f ?_ | refine gate_tt ?_ | refine gate_ff ?_ | refine gate_tf ?_ | refine gate_ft ?_ | exact keep_same | exact keep_true
    | (with_reducible refine block_exit_other ?_ ?_; decide)
    | ((with_reducible refine keep_rfl ?_); exact rfl)
    | ((with_reducible first | apply wops_guard | apply wdr_guard | apply wpc_test); focus (simp (disch := omega) only [go_sem, ↓reduceIte, simprocAttr, reduceCtorEq]; with_reducible first | exact lit_t | exact lit_f))
    | ((with_reducible first | apply wops_gone | apply wdr_gone); focus (simp (disch := omega) only [go_sem, ↓reduceIte, simprocAttr, reduceCtorEq]; done))
    | ((with_reducible first | apply wops_step | apply wops_do | apply wdr_step); focus (simp (disch := omega) only [go_sem, ↓reduceIte, simprocAttr, reduceCtorEq]; first | with_reducible exact rfl | (rw [if_pos (by first | omega | (constructor <;> omega) | (simp; done) | assumption)]; first | with_reducible exact rfl | (try simp (disch := omega) only [go_sem, ↓reduceIte, simprocAttr, reduceCtorEq]; with_reducible exact rfl))))
  refine end_same hok (r := .int .i64 4) ?_ ?_ ⟨rfl, rfl⟩
  · first | (simp (disch := omega) only [go_sem, ↓reduceIte, simprocAttr, reduceCtorEq, evResults, evResL, evRes, math_bits_TrailingZeros_r]; done) | (simp (disch := omega) only [go_sem, ↓reduceIte, simprocAttr, reduceCtorEq, evResults, evResL, evRes, math_bits_TrailingZeros_r]; with_reducible exact rfl) | exact rfl
  · first | (simp [EV.ok, okL, okL_tab_int, okL_tab_bool, okL_app]; done)

set_option maxHeartbeats 16000000 in
theorem bits16_ok {f fp ft : FuncId} {t : TypeId} (hb : Body P f (internal_strconv_formatBits fp ft t) internal_strconv_formatBits_r 102) (hp : ∀ H, CallsA P γ fp [.int .i64 16] H fun er H' => er = .ret (.bool true) ∧ H' = H)
    (ht : ∀ H, CallsA P γ ft [.int .u64 16] H fun er H' => er = .ret (.int .i64 4) ∧ H' = H) (n : Nat) (hn : n < 18446744073709551616) (H : Heap) :
    CallsA P γ f [.nilsl, .int .u64 n, .int .i64 16, .bool false, .bool false] H fun er H' => er = .ret (.tup [.nilsl, .str (lowD 16 (nd 16 n) n)]) ∧ H' = H := by
  refine hb.calls (by simp) fun hok => ?_
  obtain ⟨hn1, hn2, hn3⟩ := nd_spec (B := 16) (n := n) (by omega)
  obtain ⟨K0, hK0⟩ : ∃ K0, K0 = nd 16 n := ⟨_, rfl⟩
  rw [← hK0] at hn1 hn2 hn3 ⊢
  have hK16 : K0 ≤ 16 := by
    rcases Nat.lt_or_ge 16 K0 with h | h
    · exfalso
      rcases hn3 with h3 | h3
      · omega
      · have h4 : 16 ^ 16 ≤ 16 ^ (K0 - 1) := Nat.pow_le_pow_right (by omega) (by omega)
        have : (16 : Nat) ^ 16 = 18446744073709551616 := by decide
        omega
    · exact h
  unfold internal_strconv_formatBits
  repeat' first
    | with_reducible first | refine wpc_seq ?_ | refine wpc_ops ?_ | refine wops_nil ?_ | refine then_normal ?_ | refine wpc_block ?_ | refine block_normal ?_ | refine wpc_skip ?_ | refine wpc_exit ?_ | refine then_exit ?_ | refine block_exit_same ?_ | refine wpc_ret ?_ | refine then_ret ?_ | refine block_ret ?_ | refine wpc_draw ?_ | refine wdr_nil ?_ | refine gate_t ?_ | refine gate_f ?_ | refine gate_tt ?_ | refine gate_ff ?_ | refine gate_tf ?_ | refine gate_ft ?_ | exact keep_same | exact keep_true
    | (with_reducible refine block_exit_other ?_ ?_; decide)
    | ((with_reducible refine keep_rfl ?_); exact rfl)
    | ((with_reducible first | apply wops_guard | apply wdr_guard | apply wpc_test); focus (simp (disch := omega) only [go_sem, ↓reduceIte, simprocAttr, reduceCtorEq, Int.reduceGT, Int.reduceGE]; with_reducible first | exact lit_t | exact lit_f))
    | ((with_reducible first | apply wops_gone | apply wdr_gone); focus (simp (disch := omega) only [go_sem, ↓reduceIte, simprocAttr, reduceCtorEq, Int.reduceGT, Int.reduceGE]; done))
    | ((with_reducible first | apply wops_step | apply wops_do | apply wdr_step); focus (simp (disch := omega) only [go_sem, ↓reduceIte, simprocAttr, reduceCtorEq, Int.reduceGT, Int.reduceGE]; first | with_reducible exact rfl | (rw [if_pos (by first | omega | (constructor <;> omega) | (simp; done) | assumption)]; first | with_reducible exact rfl | (try simp (disch := omega) only [go_sem, ↓reduceIte, simprocAttr, reduceCtorEq, Int.reduceGT, Int.reduceGE]; with_reducible exact rfl))))
  with_reducible apply wops_call1
  · first | exact rfl | (simp (disch := omega) only [go_sem, ↓reduceIte, simprocAttr, reduceCtorEq]; exact rfl)
  · (simp (disch := omega) only [go_sem, ↓reduceIte, simprocAttr, reduceCtorEq]; exact rfl)
  · exact hp _
  repeat' first
    | with_reducible first | refine wpc_seq ?_ | refine wpc_ops ?_ | refine wops_nil ?_ | refine then_normal ?_ | refine wpc_block ?_ | refine block_normal ?_ | refine wpc_skip ?_ | refine wpc_exit ?_ | refine then_exit ?_ | refine block_exit_same ?_ | refine wpc_ret ?_ | refine then_ret ?_ | refine block_ret ?_ | refine wpc_draw ?_ | refine wdr_nil ?_ | refine gate_t ?_ | refine gate_f ?_ | refine gate_tt ?_ | refine gate_ff ?_ | refine gate_tf ?_ | refine gate_ft ?_ | exact keep_same | exact keep_true
    | (with_reducible refine block_exit_other ?_ ?_; decide)
    | ((with_reducible refine keep_rfl ?_); exact rfl)
    | ((with_reducible first | apply wops_guard | apply wdr_guard | apply wpc_test); focus (simp (disch := omega) only [go_sem, ↓reduceIte, simprocAttr, reduceCtorEq]; with_reducible first | exact lit_t | exact lit_f))
    | ((with_reducible first | apply wops_gone | apply wdr_gone); focus (simp (disch := omega) only [go_sem, ↓reduceIte, simprocAttr, reduceCtorEq]; done))
    | ((with_reducible first | apply wops_step | apply wops_do | apply wdr_step); focus (simp (disch := omega) only [go_sem, ↓reduceIte, simprocAttr, reduceCtorEq]; first | with_reducible exact rfl | (rw [if_pos (by first | omega | (constructor <;> omega) | (simp; done) | assumption)]; first | with_reducible exact rfl | (try simp (disch := omega) only [go_sem, ↓reduceIte, simprocAttr, reduceCtorEq]; with_reducible exact rfl))))
  with_reducible apply wops_call1
  · first | exact rfl | (simp (disch := omega) only [go_sem, ↓reduceIte, simprocAttr, reduceCtorEq]; exact rfl)
  · (simp (disch := omega) only [go_sem, ↓reduceIte, simprocAttr, reduceCtorEq]; exact rfl)
  · exact ht _
  repeat' first
    | with_reducible first | refine wpc_seq ?_ | refine wpc_ops ?_ | refine wops_nil ?_ | refine then_normal ?_ | refine wpc_block ?_ | refine block_normal ?_ | refine wpc_skip ?_ | refine wpc_exit ?_ | refine then_exit ?_ | refine block_exit_same ?_ | refine wpc_ret ?_ | refine then_ret ?_ | refine block_ret ?_ | refine wpc_draw ?_ | refine wdr_nil ?_ | refine gate_t ?_ | refine gate_f ?_ | refine gate_tt ?_ | refine gate_ff ?_ | refine gate_tf ?_ | refine gate_ft ?_ | exact keep_same | exact keep_true
    | (with_reducible refine block_exit_other ?_ ?_; decide)
    | ((with_reducible refine keep_rfl ?_); exact rfl)
    | ((with_reducible first | apply wops_guard | apply wdr_guard | apply wpc_test); focus (simp (disch := omega) only [go_sem, ↓reduceIte, simprocAttr, reduceCtorEq]; with_reducible first | exact lit_t | exact lit_f))
    | ((with_reducible first | apply wops_gone | apply wdr_gone); focus (simp (disch := omega) only [go_sem, ↓reduceIte, simprocAttr, reduceCtorEq]; done))
    | ((with_reducible first | apply wops_step | apply wops_do | apply wdr_step); focus (simp (disch := omega) only [go_sem, ↓reduceIte, simprocAttr, reduceCtorEq]; first | with_reducible exact rfl | (rw [if_pos (by first | omega | (constructor <;> omega) | (simp; done) | assumption)]; first | with_reducible exact rfl | (try simp (disch := omega) only [go_sem, ↓reduceIte, simprocAttr, reduceCtorEq]; with_reducible exact rfl))))
  refine wpc_while (ι := Nat) (fun k => k + 1 ≤ K0) (fun k => K0 - k) (fun k => [(1, .int .u64 ((n / 16 ^ k : Nat) : Int)), (3, .bool false), (4, .bool false), (10, .nilsl), (12, .ptr H.length 65 0 0), (13, .int .i64 (65 - (k : Int))), (14, .int .u64 4), (15, .int .u64 16), (16, .int .u64 15)])
    (fun k => H ++ [some (.row 65 [.agg (tab 65 fun j => .int .u8 ((fa n k j : Nat) : Int))])]) 0 (by omega) ?_ ?_ ?_ ?_ ?_
  · have e0 : n / 16 ^ 0 = n := by simp
    (repeat' (first | exact trivial | refine And.intro (And.intro ?_ ?_) ?_)) <;> first | exact rfl | (simp (disch := omega) only [go_sem, ↓reduceIte, simprocAttr, reduceCtorEq, e0, EV.ok, okL_tab_int, okL_tab_bool, okL_app, okL, decide_eq_true_eq, EV.int.injEq]; done) | (simp (disch := omega) only [go_sem, ↓reduceIte, simprocAttr, reduceCtorEq, e0, EV.ok, okL_tab_int, okL_tab_bool, okL_app, okL, decide_eq_true_eq, EV.int.injEq] <;> first | exact rfl | omega)
  · have e : (tab 65 fun j => EV.int .u8 ((fa n 0 j : Nat) : Int)) = tab 65 fun _ => EV.int .u8 0 := tab_congr fun j hj => by unfold fa; rw [if_neg (by omega)]; rfl
    rw [e]
  · exact fun i _ => okH_app hok (by simp [EB.ok, okG, okL, EV.ok, okL_tab_int])
  · simp
  · intro k hk K Q' hK hQ'
    obtain ⟨m, hm⟩ : ∃ m, m = n / 16 ^ k := ⟨_, rfl⟩
    have hmn : m ≤ n := by rw [hm]; exact Nat.div_le_self _ _
    have hnext : n / 16 ^ (k + 1) = m / 16 := by rw [hm, Nat.pow_succ, Nat.div_div_eq_div_mul]
    obtain ⟨i, hi⟩ : ∃ i : Nat, i = 64 - k := ⟨_, rfl⟩
    have hi64 : i < 65 := by omega
    have h65 : ((65 : Int) - (k : Int) - 1) = (i : Int) := by omega
    obtain ⟨d, hd⟩ : ∃ d, d = m % 16 := ⟨_, rfl⟩
    have hd16 : d < 16 := by omega
    have hand : bitsOp .and .u64 (m : Int) 15 = (d : Int) := by
      have := bits_and (a := m) (b := 15) (by omega) (by omega)
      rw [Nat.and_two_pow_sub_one_eq_mod m 4] at this
      rw [hd]
      exact this
    have hs4 : ((m : Nat) : Int).fdiv (2 ^ (min 4 64)) = ((m / 16 : Nat) : Int) := fdiv_pow m 4
    have hch := s3_char d (by omega) hd16
    have hput : (fun j => EV.int .u8 ((if j = i then (dchar d).toNat else fa n k j : Nat) : Int)) = fun j => EV.int .u8 ((fa n (k + 1) j : Nat) : Int) := by
      funext j
      by_cases h : j = i
      · rw [if_pos h]
        unfold fa
        rw [if_pos (by omega), show 64 - j = k by omega, ← hm, ← hd]
      · rw [if_neg h]
        unfold fa
        by_cases h2 : 65 - k ≤ j
        · rw [if_pos h2, if_pos (by omega)]
        · rw [if_neg h2, if_neg (by omega)]
    rw [← hm]
    by_cases hkK : k + 1 < K0
    · have hge : 16 ≤ m := by
        rcases hn3 with h3 | h3
        · omega
        · have h6 : 16 ^ (k + 1) ≤ n := Nat.le_trans (Nat.pow_le_pow_right (by omega) (by omega)) h3
          rw [hm]
          exact (Nat.le_div_iff_mul_le (Nat.pow_pos (by omega))).2 (by rw [Nat.pow_succ, Nat.mul_comm] at h6; exact h6)
      have hc : decide ((m : Int) ≥ 16) = true := by simp; omega
      repeat' first
        | with_reducible first | refine wpc_seq ?_ | refine wpc_ops ?_ | refine wops_nil ?_ | refine then_normal ?_ | refine wpc_block ?_ | refine block_normal ?_ | refine wpc_skip ?_ | refine wpc_exit ?_ | refine then_exit ?_ | refine block_exit_same ?_ | refine wpc_ret ?_ | refine then_ret ?_ | refine block_ret ?_ | refine wpc_draw ?_ | refine wdr_nil ?_ | refine gate_t ?_ | refine gate_f ?_ | refine gate_tt ?_ | refine gate_ff ?_ | refine gate_tf ?_ | refine gate_ft ?_ | exact keep_same | exact keep_true
        | (with_reducible refine block_exit_other ?_ ?_; decide)
        | ((with_reducible refine keep_rfl ?_); exact rfl)
        | ((with_reducible first | apply wops_guard | apply wdr_guard | apply wpc_test); focus (simp (disch := omega) only [go_sem, ↓reduceIte, simprocAttr, reduceCtorEq, hc, h65, hand, hch, hs4]; with_reducible first | exact lit_t | exact lit_f))
        | ((with_reducible first | apply wops_gone | apply wdr_gone); focus (simp (disch := omega) only [go_sem, ↓reduceIte, simprocAttr, reduceCtorEq, hc, h65, hand, hch, hs4]; done))
        | ((with_reducible first | apply wops_step | apply wops_do | apply wdr_step); focus (simp (disch := omega) only [go_sem, ↓reduceIte, simprocAttr, reduceCtorEq, hc, h65, hand, hch, hs4]; first | with_reducible exact rfl | (rw [if_pos (by first | omega | (constructor <;> omega) | (simp; done) | assumption)]; first | with_reducible exact rfl | (try simp (disch := omega) only [go_sem, ↓reduceIte, simprocAttr, reduceCtorEq, hc, h65, hand, hch, hs4]; with_reducible exact rfl))))
      refine hK (k + 1) _ _ [] (by omega) (by omega) (by simp only [hput, List.append_nil]) ?_
      (repeat' (first | exact trivial | refine And.intro (And.intro ?_ ?_) ?_)) <;> first | exact rfl | (simp (disch := omega) only [go_sem, ↓reduceIte, simprocAttr, reduceCtorEq, hnext, EV.ok, okL_tab_int, okL_tab_bool, okL_app, okL, decide_eq_true_eq, EV.int.injEq]; done) | (simp (disch := omega) only [go_sem, ↓reduceIte, simprocAttr, reduceCtorEq, hnext, EV.ok, okL_tab_int, okL_tab_bool, okL_app, okL, decide_eq_true_eq, EV.int.injEq] <;> first | exact rfl | omega)
    · have hkK' : k + 1 = K0 := by omega
      have hlt : m < 16 := by
        rw [hm]
        refine (Nat.div_lt_iff_lt_mul (Nat.pow_pos (by omega))).2 ?_
        rw [← hkK', Nat.pow_succ, Nat.mul_comm] at hn2
        exact hn2
      have hdm : d = m := by omega
      have hc : decide ((m : Int) ≥ 16) = false := by simp; omega
      rw [hdm] at hch hput
      repeat' first
        | with_reducible first | refine wpc_seq ?_ | refine wpc_ops ?_ | refine wops_nil ?_ | refine then_normal ?_ | refine wpc_block ?_ | refine block_normal ?_ | refine wpc_skip ?_ | refine wpc_exit ?_ | refine then_exit ?_ | refine block_exit_same ?_ | refine wpc_ret ?_ | refine then_ret ?_ | refine block_ret ?_ | refine wpc_draw ?_ | refine wdr_nil ?_ | refine gate_t ?_ | refine gate_f ?_ | refine gate_tt ?_ | refine gate_ff ?_ | refine gate_tf ?_ | refine gate_ft ?_ | exact keep_same | exact keep_true
        | (with_reducible refine block_exit_other ?_ ?_; decide)
        | ((with_reducible refine keep_rfl ?_); exact rfl)
        | ((with_reducible first | apply wops_guard | apply wdr_guard | apply wpc_test); focus (simp (disch := omega) only [go_sem, ↓reduceIte, simprocAttr, reduceCtorEq, hc]; with_reducible first | exact lit_t | exact lit_f))
        | ((with_reducible first | apply wops_gone | apply wdr_gone); focus (simp (disch := omega) only [go_sem, ↓reduceIte, simprocAttr, reduceCtorEq, hc]; done))
        | ((with_reducible first | apply wops_step | apply wops_do | apply wdr_step); focus (simp (disch := omega) only [go_sem, ↓reduceIte, simprocAttr, reduceCtorEq, hc]; first | with_reducible exact rfl | (rw [if_pos (by first | omega | (constructor <;> omega) | (simp; done) | assumption)]; first | with_reducible exact rfl | (try simp (disch := omega) only [go_sem, ↓reduceIte, simprocAttr, reduceCtorEq, hc]; with_reducible exact rfl))))
      refine hQ' _ _ _ ?_
      have hsl : evSlArr 65 (.ptr H.length 65 0 0) (some (.int .i64 (i : Int))) none (H ++ [some (.row 65 [.agg (tab 65 fun j => .int .u8 ((fa n (k + 1) j : Nat) : Int))])]) = some (.own H.length 1 i (65 - i), H ++ [some (.row 1 (tab 65 fun j => .int .u8 ((fa n (k + 1) j : Nat) : Int)))]) := by
        have h1 : (tab 65 fun j => EV.int .u8 ((fa n (k + 1) j : Nat) : Int)).all EV.one = true := by simp [tab, EV.one]
        have hb : evBounds 65 65 (some (.int .i64 (i : Int))) none = some (i, 65) := by
          simp only [evBounds, evBound]
          rw [if_pos (by omega)]
          simp
        simp only [evSlArr, List.getElem?_append_right (Nat.le_refl _), Nat.sub_self, List.getElem?_cons_zero, tab_len, h1, and_self, if_true, hb]
        simp
      have hst : evToStr (.own H.length 1 i (65 - i)) (H ++ [some (.row 1 (tab 65 fun j => .int .u8 ((fa n (k + 1) j : Nat) : Int)))]) = some (.str (lowD 16 K0 n)) := by
        have hl := bytes_low (B := 16) (n := n) (N := 65) (K := k + 1) (g := fa n (k + 1)) (by omega) (fun j h1 h2 => by unfold fa; rw [if_pos h1]) (k + 1) (Nat.le_refl _)
        rw [show 65 - (k + 1) = i by omega, hkK'] at hl
        have he : elems (H ++ [some (.row 1 (tab 65 fun j => EV.int .u8 ((fa n (k + 1) j : Nat) : Int)))]) (.own H.length 1 i (65 - i)) = some ((tab 65 fun j => EV.int .u8 ((fa n (k + 1) j : Nat) : Int)).drop i) := by
          simp only [elems, List.getElem?_append_right (Nat.le_refl _), Nat.sub_self, List.getElem?_cons_zero, tab_len]
          rw [if_pos ⟨trivial, by omega⟩, List.take_of_length_le (by simp [tab_len])]
        unfold evToStr
        simp only [he, ← hkK']
        rw [hkK'] at *
        rw [hl]
        rfl
      repeat' first
        | with_reducible first | refine wpc_seq ?_ | refine wpc_ops ?_ | refine wops_nil ?_ | refine then_normal ?_ | refine wpc_block ?_ | refine block_normal ?_ | refine wpc_skip ?_ | refine wpc_exit ?_ | refine then_exit ?_ | refine block_exit_same ?_ | refine wpc_ret ?_ | refine then_ret ?_ | refine block_ret ?_ | refine wpc_draw ?_ | refine wdr_nil ?_ | refine gate_t ?_ | refine gate_f ?_ | refine gate_tt ?_ | refine gate_ff ?_ | refine gate_tf ?_ | refine gate_ft ?_ | exact keep_same | exact keep_true
        | (with_reducible refine block_exit_other ?_ ?_; decide)
        | ((with_reducible refine keep_rfl ?_); exact rfl)
        | ((with_reducible first | apply wops_guard | apply wdr_guard | apply wpc_test); focus (simp (disch := omega) only [go_sem, ↓reduceIte, simprocAttr, reduceCtorEq, h65, hch, hput, hsl, hst]; with_reducible first | exact lit_t | exact lit_f))
        | ((with_reducible first | apply wops_gone | apply wdr_gone); focus (simp (disch := omega) only [go_sem, ↓reduceIte, simprocAttr, reduceCtorEq, h65, hch, hput, hsl, hst]; done))
        | ((with_reducible first | apply wops_step | apply wops_do | apply wdr_step); focus (simp (disch := omega) only [go_sem, ↓reduceIte, simprocAttr, reduceCtorEq, h65, hch, hput, hsl, hst]; first | with_reducible exact rfl | (rw [if_pos (by first | omega | (constructor <;> omega) | (simp; done) | assumption)]; first | with_reducible exact rfl | (try simp (disch := omega) only [go_sem, ↓reduceIte, simprocAttr, reduceCtorEq, h65, hch, hput, hsl, hst]; with_reducible exact rfl))))
      refine end_drop hok (r := .tup [.nilsl, .str (lowD 16 K0 n)]) ?_ ?_ ⟨rfl, rfl⟩
      · first | (simp (disch := omega) only [go_sem, ↓reduceIte, simprocAttr, reduceCtorEq, evResults, evResL, evRes, internal_strconv_formatBits_r]; done) | (simp (disch := omega) only [go_sem, ↓reduceIte, simprocAttr, reduceCtorEq, evResults, evResL, evRes, internal_strconv_formatBits_r]; with_reducible exact rfl) | exact rfl
      · first | (simp [EV.ok, okL, okL_tab_int, okL_tab_bool, okL_app]; done)

end
end Abs
