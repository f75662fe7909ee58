/- Numbers as digits: what it is, and the document's Print. -/
import Derived.Test.YtcjnpmaljfkpgaaDoorDigC
namespace Abs
open Go
set_option linter.all false
set_option maxRecDepth 20000

def dchar (d : Nat) : UInt8 := if d < 10 then UInt8.ofNat (48 + d) else UInt8.ofNat (87 + d)
/-- So many digits, the least ones. -/
def lowD (B : Nat) : Nat → Nat → List UInt8
  | 0, _ => []
  | k + 1, n => dchar (n / B ^ k % B) :: lowD B k n
def IsNd (B n k : Nat) : Prop := 1 ≤ k ∧ n < B ^ k ∧ (k = 1 ∨ B ^ (k - 1) ≤ n)

theorem nd_unique {B n k k' : Nat} (hB : 2 ≤ B) (h : IsNd B n k) (h' : IsNd B n k') : k = k' := by
  have key : ∀ {k k'}, IsNd B n k → IsNd B n k' → ¬ k < k' := by
    rintro k k' ⟨h1, h2, h3⟩ ⟨g1, g2, g3⟩ hlt
    rcases g3 with g3 | g3
    · omega
    · have := Nat.pow_le_pow_right (n := B) (by omega) (show k ≤ k' - 1 by omega)
      omega
  have := key h h'
  have := key h' h
  omega

theorem nd_exists {B : Nat} (hB : 2 ≤ B) (n : Nat) : ∃ k, IsNd B n k := by
  have hex : ∃ k, 1 ≤ k ∧ n < B ^ k := ⟨n + 1, by omega, Nat.lt_of_lt_of_le (Nat.lt_pow_self (by omega)) (Nat.pow_le_pow_right (by omega) (by omega))⟩
  obtain ⟨k, ⟨h1, h2⟩, hmin⟩ := exists_least hex
  refine ⟨k, h1, h2, ?_⟩
  by_cases hk : k = 1
  · exact .inl hk
  · refine .inr ?_
    rcases Nat.lt_or_ge n (B ^ (k - 1)) with h | h
    · have := hmin (k - 1) ⟨by omega, h⟩
      omega
    · exact h

noncomputable def nd (B n : Nat) : Nat := leastOf (IsNd B n)
theorem nd_spec {B n : Nat} (hB : 2 ≤ B) : IsNd B n (nd B n) := by
  obtain ⟨k, hk⟩ := nd_exists hB n
  exact (leastOf_spec ⟨k, hk⟩).1
theorem nd_eq {B n k : Nat} (hB : 2 ≤ B) (h : IsNd B n k) : nd B n = k := nd_unique hB (nd_spec hB) h

/-- What Print hands back: the digits, the error. -/
noncomputable def printR (n : Nat) (base : Int) : List UInt8 × Nat :=
  if basedB base = false then ([], 1) else if 9223372036854775807 < n then ([], 10) else (lowD base.toNat (nd base.toNat n) n, 0)
def strE (p : List UInt8 × Nat) : EV := .tup [.str p.1, .int .i64 ((p.2 : Nat) : Int)]

theorem s0_char : ∀ d, d < 16 → (GenD_s0.drop d).take 1 = [dchar d] := by decide +kernel
theorem lowD_len (B : Nat) : ∀ k n, (lowD B k n).length = k
  | 0, _ => rfl
  | k + 1, n => by simp [lowD, lowD_len B k n]

attribute [local irreducible] lowD nd

section
variable {P : Program} {γ : Nat → EV}

def PrintOk (P : Program) (γ : Nat → EV) (f : FuncId) : Prop :=
  ∀ (n : Nat) (base : Int) (H : Heap), n < 18446744073709551616 → CallsA P γ f [.int .u64 n, .int .i64 base] H fun er H' => er = .ret (strE (printR n base)) ∧ H' = H

set_option maxHeartbeats 16000000 in
theorem refPrint_ok {f : FuncId} (hb : Body P f hackleref03_Print hackleref03_Print_r 38) : PrintOk P γ f := by
  intro n base H hn64
  refine hb.calls (by simp) fun hok => ?_
  unfold hackleref03_Print
  by_cases hbs : base = 10 ∨ base = 16
  case neg =>
    have d1 : (base == 10) = false := by rw [beq_eq_false_iff_ne]; exact fun e => hbs (.inl e)
    have d2 : (base == 16) = false := by rw [beq_eq_false_iff_ne]; exact fun e => hbs (.inr e)
    have d3 : (base != 10) = true := by rw [bne, d1]; rfl
    have d4 : (base != 16) = true := by rw [bne, d2]; rfl
    have e : printR n base = ([], 1) := by unfold printR basedB; rw [d1, d2]; rfl
    rw [e]
    repeat' first
      | with_reducible first | refine wpc_seq ?_ | refine wpc_ops ?_ | refine wops_nil ?_ | refine then_normal ?_ | refine wpc_block ?_ | refine block_normal ?_ | refine wpc_skip ?_ | refine wpc_exit ?_ | refine then_exit ?_ | refine block_exit_same ?_ | refine wpc_ret ?_ | refine then_ret ?_ | refine block_ret ?_ | refine wpc_draw ?_ | refine wdr_nil ?_ | refine gate_t ?_ | refine gate_f ?_ | refine gate_tt ?_ | refine gate_ff ?_ | refine gate_tf ?_ | refine gate_ft ?_ | exact keep_same | exact keep_true
      | (with_reducible refine block_exit_other ?_ ?_; decide)
      | ((with_reducible refine keep_rfl ?_); exact rfl)
      | ((with_reducible first | apply wops_guard | apply wdr_guard | apply wpc_test); focus (simp (disch := omega) only [go_sem, ↓reduceIte, simprocAttr, reduceCtorEq, d3, d4]; with_reducible first | exact lit_t | exact lit_f))
      | ((with_reducible first | apply wops_gone | apply wdr_gone); focus (simp (disch := omega) only [go_sem, ↓reduceIte, simprocAttr, reduceCtorEq, d3, d4]; done))
      | ((with_reducible first | apply wops_step | apply wops_do | apply wdr_step); focus (simp (disch := omega) only [go_sem, ↓reduceIte, simprocAttr, reduceCtorEq, d3, d4]; first | with_reducible exact rfl | (rw [if_pos (by first | omega | (constructor <;> omega) | (simp; done) | assumption)]; first | with_reducible exact rfl | (try simp (disch := omega) only [go_sem, ↓reduceIte, simprocAttr, reduceCtorEq, d3, d4]; with_reducible exact rfl))))
    refine end_same hok (r := .tup [.str [], .int .i64 1]) ?_ ?_ ⟨rfl, rfl⟩
    · first | (simp (disch := omega) only [go_sem, ↓reduceIte, simprocAttr, reduceCtorEq, evResults, evResL, evRes, hackleref03_Print_r]; done) | (simp (disch := omega) only [go_sem, ↓reduceIte, simprocAttr, reduceCtorEq, evResults, evResL, evRes, hackleref03_Print_r]; with_reducible exact rfl) | exact rfl
    · first | (simp [EV.ok, okL, okL_tab_int, okL_tab_bool, okL_app]; done)
  case pos =>
  obtain ⟨B, hBB⟩ : ∃ B : Nat, base = (B : Int) := ⟨base.toNat, by omega⟩
  have hB : B = 10 ∨ B = 16 := by omega
  have htn : base.toNat = B := by omega
  have hz : ¬ base = 0 := by omega
  obtain ⟨p, hp⟩ : ∃ p, (base != 10) = p := ⟨_, rfl⟩
  obtain ⟨q, hq⟩ : ∃ q, (base != 16) = q := ⟨_, rfl⟩
  have hbd : basedB base = true := by rcases hbs with rfl | rfl <;> rfl
  have hpq : p = false ∨ (p = true ∧ q = false) := by rcases hbs with rfl | rfl <;> simp at hp hq <;> simp [← hp, ← hq]
  cases hM : decide (((n : Nat) : Int) > 9223372036854775807)
  case true =>
    have hM' : 9223372036854775807 < n := by have := of_decide_eq_true hM; omega
    have e : printR n base = ([], 10) := by unfold printR; rw [hbd, if_neg (by simp), if_pos hM']
    rw [e]
    rcases hpq with rfl | ⟨rfl, rfl⟩
    all_goals
      repeat' first
        | with_reducible first | refine wpc_seq ?_ | refine wpc_ops ?_ | refine wops_nil ?_ | refine then_normal ?_ | refine wpc_block ?_ | refine block_normal ?_ | refine wpc_skip ?_ | refine wpc_exit ?_ | refine then_exit ?_ | refine block_exit_same ?_ | refine wpc_ret ?_ | refine then_ret ?_ | refine block_ret ?_ | refine wpc_draw ?_ | refine wdr_nil ?_ | refine gate_t ?_ | refine gate_f ?_ | refine gate_tt ?_ | refine gate_ff ?_ | refine gate_tf ?_ | refine gate_ft ?_ | exact keep_same | exact keep_true
        | (with_reducible refine block_exit_other ?_ ?_; decide)
        | ((with_reducible refine keep_rfl ?_); exact rfl)
        | ((with_reducible first | apply wops_guard | apply wdr_guard | apply wpc_test); focus (simp (disch := omega) only [go_sem, ↓reduceIte, simprocAttr, reduceCtorEq, hp, hq, hM]; with_reducible first | exact lit_t | exact lit_f))
        | ((with_reducible first | apply wops_gone | apply wdr_gone); focus (simp (disch := omega) only [go_sem, ↓reduceIte, simprocAttr, reduceCtorEq, hp, hq, hM]; done))
        | ((with_reducible first | apply wops_step | apply wops_do | apply wdr_step); focus (simp (disch := omega) only [go_sem, ↓reduceIte, simprocAttr, reduceCtorEq, hp, hq, hM]; first | with_reducible exact rfl | (rw [if_pos (by first | omega | (constructor <;> omega) | (simp; done) | assumption)]; first | with_reducible exact rfl | (try simp (disch := omega) only [go_sem, ↓reduceIte, simprocAttr, reduceCtorEq, hp, hq, hM]; with_reducible exact rfl))))
      refine end_same hok (r := .tup [.str [], .int .i64 10]) ?_ ?_ ⟨rfl, rfl⟩
      · first | (simp (disch := omega) only [go_sem, ↓reduceIte, simprocAttr, reduceCtorEq, evResults, evResL, evRes, hackleref03_Print_r]; done) | (simp (disch := omega) only [go_sem, ↓reduceIte, simprocAttr, reduceCtorEq, evResults, evResL, evRes, hackleref03_Print_r]; with_reducible exact rfl) | exact rfl
      · first | (simp [EV.ok, okL, okL_tab_int, okL_tab_bool, okL_app]; done)
  case false =>
  have hM' : ¬ 9223372036854775807 < n := by have := of_decide_eq_false hM; omega
  have e : printR n base = (lowD B (nd B n) n, 0) := by unfold printR; rw [hbd, if_neg (by simp), if_neg hM', htn]
  rw [e]
  obtain ⟨hn1, hn2, hn3⟩ := nd_spec (B := B) (n := n) (by omega)
  obtain ⟨K0, hK0⟩ : ∃ K0, K0 = nd B n := ⟨_, rfl⟩
  rw [← hK0] at hn1 hn2 hn3 ⊢
  have hK64 : K0 ≤ 64 := by
    rcases Nat.lt_or_ge 64 K0 with h | h
    · exfalso
      rcases hn3 with h3 | h3
      · omega
      · have h4 : B ^ 64 ≤ B ^ (K0 - 1) := Nat.pow_le_pow_right (by omega) (by omega)
        have h5 : 2 ^ 64 ≤ B ^ 64 := Nat.pow_le_pow_left (by omega) 64
        have : (2 : Nat) ^ 64 = 18446744073709551616 := by decide
        omega
    · exact h
  rcases hpq with rfl | ⟨rfl, rfl⟩
  all_goals
    repeat' first
      | with_reducible first | refine wpc_seq ?_ | refine wpc_ops ?_ | refine wops_nil ?_ | refine then_normal ?_ | refine wpc_block ?_ | refine block_normal ?_ | refine wpc_skip ?_ | refine wpc_exit ?_ | refine then_exit ?_ | refine block_exit_same ?_ | refine wpc_ret ?_ | refine then_ret ?_ | refine block_ret ?_ | refine wpc_draw ?_ | refine wdr_nil ?_ | refine gate_t ?_ | refine gate_f ?_ | refine gate_tt ?_ | refine gate_ff ?_ | refine gate_tf ?_ | refine gate_ft ?_ | exact keep_same | exact keep_true
      | (with_reducible refine block_exit_other ?_ ?_; decide)
      | ((with_reducible refine keep_rfl ?_); exact rfl)
      | ((with_reducible first | apply wops_guard | apply wdr_guard | apply wpc_test); focus (simp (disch := omega) only [go_sem, ↓reduceIte, simprocAttr, reduceCtorEq, hp, hq, hM]; with_reducible first | exact lit_t | exact lit_f))
      | ((with_reducible first | apply wops_gone | apply wdr_gone); focus (simp (disch := omega) only [go_sem, ↓reduceIte, simprocAttr, reduceCtorEq, hp, hq, hM]; done))
      | ((with_reducible first | apply wops_step | apply wops_do | apply wdr_step); focus (simp (disch := omega) only [go_sem, ↓reduceIte, simprocAttr, reduceCtorEq, hp, hq, hM]; first | with_reducible exact rfl | (rw [if_pos (by first | omega | (constructor <;> omega) | (simp; done) | assumption)]; first | with_reducible exact rfl | (try simp (disch := omega) only [go_sem, ↓reduceIte, simprocAttr, reduceCtorEq, hp, hq, hM]; with_reducible exact rfl))))
    refine wpc_while (ι := Nat) (fun k => k ≤ K0) (fun k => K0 - k) (fun k => [(0, .int .u64 ((n / B ^ k : Nat) : Int)), (1, .int .i64 base), (6, .str (lowD B k n))]) (fun _ => H) 0 (by omega) ?_ ?_ ?_ ?_ ?_
    · have e0 : n / B ^ 0 = n := by simp
      have e1 : lowD B 0 n = [] := by unfold lowD; rfl
      (repeat' (first | exact trivial | refine And.intro (And.intro ?_ ?_) ?_)) <;> first | exact rfl | (simp (disch := omega) only [go_sem, ↓reduceIte, simprocAttr, reduceCtorEq, e0, e1, EV.ok, okL_tab_int, okL_tab_bool, okL_app, okL, decide_eq_true_eq, EV.int.injEq]; done) | (simp (disch := omega) only [go_sem, ↓reduceIte, simprocAttr, reduceCtorEq, e0, e1, EV.ok, okL_tab_int, okL_tab_bool, okL_app, okL, decide_eq_true_eq, EV.int.injEq] <;> first | exact rfl | omega)
    · simp
    · exact fun i _ => hok
    · simp
    · intro k hk K Q' hK hQ'
      obtain ⟨m, hm⟩ : ∃ m, m = n / B ^ k := ⟨_, rfl⟩
      have hmn : m ≤ n := by rw [hm]; exact Nat.div_le_self _ _
      have hpos : 0 < B ^ k := Nat.pow_pos (by omega)
      have hnext : n / B ^ (k + 1) = m / B := by rw [hm, Nat.pow_succ, Nat.div_div_eq_div_mul]
      have hlow : lowD B (k + 1) n = dchar (m % B) :: lowD B k n := by rw [hm]; conv => lhs; unfold lowD
      have hll : (lowD B k n).length = k := lowD_len B k n
      rw [← hm]
      obtain ⟨d, hd⟩ : ∃ d, d = m % B := ⟨_, rfl⟩
      have hd16 : d < 16 := by rw [hd]; have := Nat.mod_lt m (show 0 < B by omega); omega
      have hmod : (m : Int).tmod base = (d : Int) := by rw [hBB, hd]; rfl
      have hdiv : (m : Int).tdiv base = ((m / B : Nat) : Int) := by rw [hBB]; rfl
      have hs0 : GenD_s0.length = 16 := rfl
      have htd : ((d : Int) + 1).toNat = d + 1 := by omega
      have g1 : (0 : Int) ≤ (d : Int) + 1 := by omega
      have g2 : (d : Int) + 1 ≤ 16 := by omega
      have g2' : (d : Int) + 1 ≤ ((16 : Nat) : Int) := by omega
      have g3 : (0 : Int) ≤ (d : Int) := by omega
      have g4 : (d : Int) ≤ ((d + 1 : Nat) : Int) := by omega
      have g5 : (d : Int) ≤ (d : Int) + 1 := by omega
      have hch := s0_char d hd16
      have hch' : (GenD_s0.drop d).take (d + 1 - d) = [dchar d] := by rw [show d + 1 - d = 1 by omega]; exact hch
      have hmB : m / B ≤ m := Nat.div_le_self _ _
      obtain ⟨m', hm'⟩ : ∃ m', m' = m / B := ⟨_, rfl⟩
      rw [← hm'] at hmB hdiv hnext
      rw [← hd] at hlow
      by_cases hkK : k < K0
      · have hc : decide ((m : Int) > 0) = true ∨ (decide ((m : Int) > 0) = false ∧ (lowD B k n == ([] : List UInt8)) = true) := by
          rcases Nat.eq_zero_or_pos m with h0 | h0
          · refine .inr ⟨by simp; omega, ?_⟩
            have hk0 : k = 0 := by
              rcases hn3 with h3 | h3
              · omega
              · by_cases hk0 : k = 0
                · exact hk0
                · have h6 : B ^ k ≤ n := Nat.le_trans (Nat.pow_le_pow_right (by omega) (by omega)) h3
                  have h7 : 0 < n / B ^ k := Nat.div_pos h6 hpos
                  omega
            subst hk0
            have : lowD B 0 n = [] := List.eq_nil_of_length_eq_zero (by rw [hll])
            rw [this]; rfl
          · exact .inl (by simp; omega)
        rcases hc with hc | ⟨hc, hc'⟩
        · repeat' first
            | with_reducible first | refine wpc_seq ?_ | refine wpc_ops ?_ | refine wops_nil ?_ | refine then_normal ?_ | refine wpc_block ?_ | refine block_normal ?_ | refine wpc_skip ?_ | refine wpc_exit ?_ | refine then_exit ?_ | refine block_exit_same ?_ | refine wpc_ret ?_ | refine then_ret ?_ | refine block_ret ?_ | refine wpc_draw ?_ | refine wdr_nil ?_ | refine gate_t ?_ | refine gate_f ?_ | refine gate_tt ?_ | refine gate_ff ?_ | refine gate_tf ?_ | refine gate_ft ?_ | exact keep_same | exact keep_true
            | (with_reducible refine block_exit_other ?_ ?_; decide)
            | ((with_reducible refine keep_rfl ?_); exact rfl)
            | ((with_reducible first | apply wops_guard | apply wdr_guard | apply wpc_test); focus (simp (disch := omega) only [go_sem, ↓reduceIte, simprocAttr, reduceCtorEq, hc, hmod, hdiv, hz, hs0, htd, g1, g2, g2', g3, g4, g5, hch', List.singleton_append, List.length_cons, List.length_nil, hll]; with_reducible first | exact lit_t | exact lit_f))
            | ((with_reducible first | apply wops_gone | apply wdr_gone); focus (simp (disch := omega) only [go_sem, ↓reduceIte, simprocAttr, reduceCtorEq, hc, hmod, hdiv, hz, hs0, htd, g1, g2, g2', g3, g4, g5, hch', List.singleton_append, List.length_cons, List.length_nil, hll]; done))
            | ((with_reducible first | apply wops_step | apply wops_do | apply wdr_step); focus (simp (disch := omega) only [go_sem, ↓reduceIte, simprocAttr, reduceCtorEq, hc, hmod, hdiv, hz, hs0, htd, g1, g2, g2', g3, g4, g5, hch', List.singleton_append, List.length_cons, List.length_nil, hll]; first | with_reducible exact rfl | (rw [if_pos (by first | omega | (constructor <;> omega) | (simp; done) | assumption)]; first | with_reducible exact rfl | (try simp (disch := omega) only [go_sem, ↓reduceIte, simprocAttr, reduceCtorEq, hc, hmod, hdiv, hz, hs0, htd, g1, g2, g2', g3, g4, g5, hch', List.singleton_append, List.length_cons, List.length_nil, hll]; with_reducible exact rfl))))
          refine hK (k + 1) _ _ [] (by omega) (by omega) (by simp) ?_
          (repeat' (first | exact trivial | refine And.intro (And.intro ?_ ?_) ?_)) <;> first | exact rfl | (simp (disch := omega) only [go_sem, ↓reduceIte, simprocAttr, reduceCtorEq, hnext, hlow, EV.ok, okL_tab_int, okL_tab_bool, okL_app, okL, decide_eq_true_eq, EV.int.injEq]; done) | (simp (disch := omega) only [go_sem, ↓reduceIte, simprocAttr, reduceCtorEq, hnext, hlow, EV.ok, okL_tab_int, okL_tab_bool, okL_app, okL, decide_eq_true_eq, EV.int.injEq] <;> first | exact rfl | omega)
        · repeat' first
            | with_reducible first | refine wpc_seq ?_ | refine wpc_ops ?_ | refine wops_nil ?_ | refine then_normal ?_ | refine wpc_block ?_ | refine block_normal ?_ | refine wpc_skip ?_ | refine wpc_exit ?_ | refine then_exit ?_ | refine block_exit_same ?_ | refine wpc_ret ?_ | refine then_ret ?_ | refine block_ret ?_ | refine wpc_draw ?_ | refine wdr_nil ?_ | refine gate_t ?_ | refine gate_f ?_ | refine gate_tt ?_ | refine gate_ff ?_ | refine gate_tf ?_ | refine gate_ft ?_ | exact keep_same | exact keep_true
            | (with_reducible refine block_exit_other ?_ ?_; decide)
            | ((with_reducible refine keep_rfl ?_); exact rfl)
            | ((with_reducible first | apply wops_guard | apply wdr_guard | apply wpc_test); focus (simp (disch := omega) only [go_sem, ↓reduceIte, simprocAttr, reduceCtorEq, hc, hc', hmod, hdiv, hz, hs0, htd, g1, g2, g2', g3, g4, g5, hch', List.singleton_append, List.length_cons, List.length_nil, hll]; with_reducible first | exact lit_t | exact lit_f))
            | ((with_reducible first | apply wops_gone | apply wdr_gone); focus (simp (disch := omega) only [go_sem, ↓reduceIte, simprocAttr, reduceCtorEq, hc, hc', hmod, hdiv, hz, hs0, htd, g1, g2, g2', g3, g4, g5, hch', List.singleton_append, List.length_cons, List.length_nil, hll]; done))
            | ((with_reducible first | apply wops_step | apply wops_do | apply wdr_step); focus (simp (disch := omega) only [go_sem, ↓reduceIte, simprocAttr, reduceCtorEq, hc, hc', hmod, hdiv, hz, hs0, htd, g1, g2, g2', g3, g4, g5, hch', List.singleton_append, List.length_cons, List.length_nil, hll]; first | with_reducible exact rfl | (rw [if_pos (by first | omega | (constructor <;> omega) | (simp; done) | assumption)]; first | with_reducible exact rfl | (try simp (disch := omega) only [go_sem, ↓reduceIte, simprocAttr, reduceCtorEq, hc, hc', hmod, hdiv, hz, hs0, htd, g1, g2, g2', g3, g4, g5, hch', List.singleton_append, List.length_cons, List.length_nil, hll]; with_reducible exact rfl))))
          refine hK (k + 1) _ _ [] (by omega) (by omega) (by simp) ?_
          (repeat' (first | exact trivial | refine And.intro (And.intro ?_ ?_) ?_)) <;> first | exact rfl | (simp (disch := omega) only [go_sem, ↓reduceIte, simprocAttr, reduceCtorEq, hnext, hlow, EV.ok, okL_tab_int, okL_tab_bool, okL_app, okL, decide_eq_true_eq, EV.int.injEq]; done) | (simp (disch := omega) only [go_sem, ↓reduceIte, simprocAttr, reduceCtorEq, hnext, hlow, EV.ok, okL_tab_int, okL_tab_bool, okL_app, okL, decide_eq_true_eq, EV.int.injEq] <;> first | exact rfl | omega)
      · have hkK' : k = K0 := by omega
        have hm0 : m = 0 := by rw [hm, hkK']; exact Nat.div_eq_of_lt hn2
        have hc : decide ((m : Int) > 0) = false := by simp; omega
        have hc' : (lowD B k n == ([] : List UInt8)) = false := by
          rw [beq_eq_false_iff_ne]
          intro h
          rw [h] at hll
          simp at hll
          omega
        repeat' first
          | with_reducible first | refine wpc_seq ?_ | refine wpc_ops ?_ | refine wops_nil ?_ | refine then_normal ?_ | refine wpc_block ?_ | refine block_normal ?_ | refine wpc_skip ?_ | refine wpc_exit ?_ | refine then_exit ?_ | refine block_exit_same ?_ | refine wpc_ret ?_ | refine then_ret ?_ | refine block_ret ?_ | refine wpc_draw ?_ | refine wdr_nil ?_ | refine gate_t ?_ | refine gate_f ?_ | refine gate_tt ?_ | refine gate_ff ?_ | refine gate_tf ?_ | refine gate_ft ?_ | exact keep_same | exact keep_true
          | (with_reducible refine block_exit_other ?_ ?_; decide)
          | ((with_reducible refine keep_rfl ?_); exact rfl)
          | ((with_reducible first | apply wops_guard | apply wdr_guard | apply wpc_test); focus (simp (disch := omega) only [go_sem, ↓reduceIte, simprocAttr, reduceCtorEq, hc, hc']; with_reducible first | exact lit_t | exact lit_f))
          | ((with_reducible first | apply wops_gone | apply wdr_gone); focus (simp (disch := omega) only [go_sem, ↓reduceIte, simprocAttr, reduceCtorEq, hc, hc']; done))
          | ((with_reducible first | apply wops_step | apply wops_do | apply wdr_step); focus (simp (disch := omega) only [go_sem, ↓reduceIte, simprocAttr, reduceCtorEq, hc, hc']; first | with_reducible exact rfl | (rw [if_pos (by first | omega | (constructor <;> omega) | (simp; done) | assumption)]; first | with_reducible exact rfl | (try simp (disch := omega) only [go_sem, ↓reduceIte, simprocAttr, reduceCtorEq, hc, hc']; with_reducible exact rfl))))
        refine hQ' _ _ _ ?_
        rw [hkK']
        repeat' first
          | with_reducible first | refine wpc_seq ?_ | refine wpc_ops ?_ | refine wops_nil ?_ | refine then_normal ?_ | refine wpc_block ?_ | refine block_normal ?_ | refine wpc_skip ?_ | refine wpc_exit ?_ | refine then_exit ?_ | refine block_exit_same ?_ | refine wpc_ret ?_ | refine then_ret ?_ | refine block_ret ?_ | refine wpc_draw ?_ | refine wdr_nil ?_ | refine gate_t ?_ | refine gate_f ?_ | refine gate_tt ?_ | refine gate_ff ?_ | refine gate_tf ?_ | refine gate_ft ?_ | exact keep_same | exact keep_true
          | (with_reducible refine block_exit_other ?_ ?_; decide)
          | ((with_reducible refine keep_rfl ?_); exact rfl)
          | ((with_reducible first | apply wops_guard | apply wdr_guard | apply wpc_test); focus (simp (disch := omega) only [go_sem, ↓reduceIte, simprocAttr, reduceCtorEq]; with_reducible first | exact lit_t | exact lit_f))
          | ((with_reducible first | apply wops_gone | apply wdr_gone); focus (simp (disch := omega) only [go_sem, ↓reduceIte, simprocAttr, reduceCtorEq]; done))
          | ((with_reducible first | apply wops_step | apply wops_do | apply wdr_step); focus (simp (disch := omega) only [go_sem, ↓reduceIte, simprocAttr, reduceCtorEq]; first | with_reducible exact rfl | (rw [if_pos (by first | omega | (constructor <;> omega) | (simp; done) | assumption)]; first | with_reducible exact rfl | (try simp (disch := omega) only [go_sem, ↓reduceIte, simprocAttr, reduceCtorEq]; with_reducible exact rfl))))
        refine end_same hok (r := .tup [.str (lowD B K0 n), .int .i64 0]) ?_ ?_ ⟨rfl, rfl⟩
        · first | (simp (disch := omega) only [go_sem, ↓reduceIte, simprocAttr, reduceCtorEq, evResults, evResL, evRes, hackleref03_Print_r]; done) | (simp (disch := omega) only [go_sem, ↓reduceIte, simprocAttr, reduceCtorEq, evResults, evResL, evRes, hackleref03_Print_r]; with_reducible exact rfl) | exact rfl
        · first | (simp [EV.ok, okL, okL_tab_int, okL_tab_bool, okL_app]; done)

end
end Abs
