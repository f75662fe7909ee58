/- How many bits, how many digits. -/
import Derived.Test.YtcjnpmaljfkpgaaDoorDigF
import Derived.Test.YtcjnpmaljfkpgaaDoorOctsB
namespace Abs
open Go
set_option linter.all false
set_option maxRecDepth 20000

def len3 (n y : Nat) : Nat := if 256 ≤ y then n + 8 + lenT (y / 256) else n + lenT y
def len2 (n y : Nat) : Nat := if 65536 ≤ y then len3 (n + 16) (y / 65536) else len3 n y
def len1 (x : Nat) : Nat := if 4294967296 ≤ x then len2 32 (x / 4294967296) else len2 0 x

theorem len_is {x s y : Nat} (hy : x / 2 ^ s = y) (h : y < 256) (hp : s = 0 ∨ 1 ≤ y) (hs : s ≤ 56) : IsLen x (s + lenT y) := by
  subst hy
  exact isLen_shift h hp hs

theorem len1_ok {x : Nat} (hx : x < 18446744073709551616) : IsLen x (len1 x) := by
  have three : ∀ s y, x / 2 ^ s = y → y < 65536 → (s = 0 ∨ 1 ≤ y) → s ≤ 48 → IsLen x (len3 s y) := by
    intro s y hy hlt hp hs
    unfold len3
    split
    · rename_i h
      have e : x / 2 ^ (s + 8) = y / 256 := by rw [Nat.pow_add, ← Nat.div_div_eq_div_mul, hy]
      exact len_is e (by omega) (.inr (by omega)) (by omega)
    · exact len_is hy (by omega) hp (by omega)
  have two : ∀ s y, x / 2 ^ s = y → y < 4294967296 → (s = 0 ∨ 1 ≤ y) → s ≤ 32 → IsLen x (len2 s y) := by
    intro s y hy hlt hp hs
    unfold len2
    split
    · rename_i h
      have e : x / 2 ^ (s + 16) = y / 65536 := by rw [Nat.pow_add, ← Nat.div_div_eq_div_mul, hy]
      exact three (s + 16) _ e (by omega) (.inr (by omega)) (by omega)
    · exact three s y hy (by omega) hp (by omega)
  unfold len1
  split
  · rename_i h
    exact two 32 _ rfl (by omega) (.inr (by omega)) (by omega)
  · exact two 0 x (by simp) (by omega) (.inl rfl) (by omega)

theorem lenT_le (i : Nat) (h : i < 256) : lenT i ≤ 8 := (lenT_ok i h).2.2

attribute [local irreducible] lowD nd lenT

section
variable {P : Program} {γ : Nat → EV}

set_option maxHeartbeats 16000000 in
theorem len64_ok {f : FuncId} (hb : Body P f math_bits_Len64 math_bits_Len64_r 25) (x : Nat) (H : Heap) (hx : x < 18446744073709551616) : CallsA P γ f [.int .u64 x] H fun er H' => er = .ret (.int .i64 ((len1 x : Nat) : Int)) ∧ H' = H := by
  refine hb.calls (by simp) fun hok => ?_
  unfold math_bits_Len64
  have s32 : ∀ y : Nat, ((y : Nat) : Int).fdiv (2 ^ (min 32 64)) = ((y / 4294967296 : Nat) : Int) := fun y => fdiv_pow y 32
  have s16 : ∀ y : Nat, ((y : Nat) : Int).fdiv (2 ^ (min 16 64)) = ((y / 65536 : Nat) : Int) := fun y => fdiv_pow y 16
  have s8 : ∀ y : Nat, ((y : Nat) : Int).fdiv (2 ^ (min 8 64)) = ((y / 256 : Nat) : Int) := fun y => fdiv_pow y 8
  have get : ∀ y, y < 256 → ∃ b : UInt8, GenD_s4[y]? = some b ∧ b.toNat = lenT y := fun y hy => by
    have := s4_get y hy
    cases hg : GenD_s4[y]? with
    | none => rw [hg] at this; simp at this
    | some b => rw [hg] at this; exact ⟨b, rfl, by simpa using this⟩
  by_cases h1 : 4294967296 ≤ x
  · obtain ⟨u, hu⟩ : ∃ u, x / 4294967296 = u := ⟨_, rfl⟩
    by_cases h2 : 65536 ≤ u
    · obtain ⟨v, hv⟩ : ∃ v, u / 65536 = v := ⟨_, rfl⟩
      by_cases h3 : 256 ≤ v
      · obtain ⟨z, hz⟩ : ∃ z, v / 256 = z := ⟨_, rfl⟩
        have e : ((len1 x : Nat) : Int) = (56 : Int) + ((lenT z : Nat) : Int) := by unfold len1 len2 len3; rw [if_pos h1, hu, if_pos h2, hv, if_pos h3, hz]; omega
        obtain ⟨b, hb1, hb2⟩ := get z (by omega)
        have hl8 := lenT_le z (by omega)
        rw [e]
        repeat' first
          | with_reducible first | refine wpc_seq ?_ | refine wpc_ops ?_ | refine wops_nil ?_ | refine then_normal ?_ | refine wpc_block ?_ | refine block_normal ?_ | refine wpc_skip ?_ | refine wpc_exit ?_ | refine then_exit ?_ | refine block_exit_same ?_ | refine wpc_ret ?_ | refine then_ret ?_ | refine block_ret ?_ | refine wpc_draw ?_ | refine wdr_nil ?_ | refine gate_t ?_ | refine gate_f ?_ | refine gate_tt ?_ | refine gate_ff ?_ | refine gate_tf ?_ | refine gate_ft ?_ | exact keep_same | exact keep_true
          | (with_reducible refine block_exit_other ?_ ?_; decide)
          | ((with_reducible refine keep_rfl ?_); exact rfl)
          | ((with_reducible first | apply wops_guard | apply wdr_guard | apply wpc_test); focus (simp (disch := omega) only [go_sem, ↓reduceIte, simprocAttr, reduceCtorEq, decide_eq_true, decide_eq_false, s32, s16, s8, hu, hv, hz, hb1, hb2]; with_reducible first | exact lit_t | exact lit_f))
          | ((with_reducible first | apply wops_gone | apply wdr_gone); focus (simp (disch := omega) only [go_sem, ↓reduceIte, simprocAttr, reduceCtorEq, decide_eq_true, decide_eq_false, s32, s16, s8, hu, hv, hz, hb1, hb2]; done))
          | ((with_reducible first | apply wops_step | apply wops_do | apply wdr_step); focus (simp (disch := omega) only [go_sem, ↓reduceIte, simprocAttr, reduceCtorEq, decide_eq_true, decide_eq_false, s32, s16, s8, hu, hv, hz, hb1, hb2]; first | with_reducible exact rfl | (rw [if_pos (by first | omega | (constructor <;> omega) | (simp; done) | assumption)]; first | with_reducible exact rfl | (try simp (disch := omega) only [go_sem, ↓reduceIte, simprocAttr, reduceCtorEq, decide_eq_true, decide_eq_false, s32, s16, s8, hu, hv, hz, hb1, hb2]; with_reducible exact rfl))))
        refine end_same hok (r := .int .i64 ((56 : Int) + ((lenT z : Nat) : Int))) ?_ ?_ ⟨rfl, rfl⟩
        · first | (simp (disch := omega) only [go_sem, ↓reduceIte, simprocAttr, reduceCtorEq, evResults, evResL, evRes, math_bits_Len64_r]; done) | (simp (disch := omega) only [go_sem, ↓reduceIte, simprocAttr, reduceCtorEq, evResults, evResL, evRes, math_bits_Len64_r]; with_reducible exact rfl) | exact rfl
        · first | (simp [EV.ok, okL, okL_tab_int, okL_tab_bool, okL_app]; done)
      · have e : ((len1 x : Nat) : Int) = (48 : Int) + ((lenT v : Nat) : Int) := by unfold len1 len2 len3; rw [if_pos h1, hu, if_pos h2, hv, if_neg h3]; omega
        obtain ⟨b, hb1, hb2⟩ := get v (by omega)
        have hl8 := lenT_le v (by omega)
        rw [e]
        repeat' first
          | with_reducible first | refine wpc_seq ?_ | refine wpc_ops ?_ | refine wops_nil ?_ | refine then_normal ?_ | refine wpc_block ?_ | refine block_normal ?_ | refine wpc_skip ?_ | refine wpc_exit ?_ | refine then_exit ?_ | refine block_exit_same ?_ | refine wpc_ret ?_ | refine then_ret ?_ | refine block_ret ?_ | refine wpc_draw ?_ | refine wdr_nil ?_ | refine gate_t ?_ | refine gate_f ?_ | refine gate_tt ?_ | refine gate_ff ?_ | refine gate_tf ?_ | refine gate_ft ?_ | exact keep_same | exact keep_true
          | (with_reducible refine block_exit_other ?_ ?_; decide)
          | ((with_reducible refine keep_rfl ?_); exact rfl)
          | ((with_reducible first | apply wops_guard | apply wdr_guard | apply wpc_test); focus (simp (disch := omega) only [go_sem, ↓reduceIte, simprocAttr, reduceCtorEq, decide_eq_true, decide_eq_false, s32, s16, s8, hu, hv, hb1, hb2]; with_reducible first | exact lit_t | exact lit_f))
          | ((with_reducible first | apply wops_gone | apply wdr_gone); focus (simp (disch := omega) only [go_sem, ↓reduceIte, simprocAttr, reduceCtorEq, decide_eq_true, decide_eq_false, s32, s16, s8, hu, hv, hb1, hb2]; done))
          | ((with_reducible first | apply wops_step | apply wops_do | apply wdr_step); focus (simp (disch := omega) only [go_sem, ↓reduceIte, simprocAttr, reduceCtorEq, decide_eq_true, decide_eq_false, s32, s16, s8, hu, hv, hb1, hb2]; first | with_reducible exact rfl | (rw [if_pos (by first | omega | (constructor <;> omega) | (simp; done) | assumption)]; first | with_reducible exact rfl | (try simp (disch := omega) only [go_sem, ↓reduceIte, simprocAttr, reduceCtorEq, decide_eq_true, decide_eq_false, s32, s16, s8, hu, hv, hb1, hb2]; with_reducible exact rfl))))
        refine end_same hok (r := .int .i64 ((48 : Int) + ((lenT v : Nat) : Int))) ?_ ?_ ⟨rfl, rfl⟩
        · first | (simp (disch := omega) only [go_sem, ↓reduceIte, simprocAttr, reduceCtorEq, evResults, evResL, evRes, math_bits_Len64_r]; done) | (simp (disch := omega) only [go_sem, ↓reduceIte, simprocAttr, reduceCtorEq, evResults, evResL, evRes, math_bits_Len64_r]; with_reducible exact rfl) | exact rfl
        · first | (simp [EV.ok, okL, okL_tab_int, okL_tab_bool, okL_app]; done)
    · skip
      by_cases h3 : 256 ≤ u
      · obtain ⟨z, hz⟩ : ∃ z, u / 256 = z := ⟨_, rfl⟩
        have e : ((len1 x : Nat) : Int) = (40 : Int) + ((lenT z : Nat) : Int) := by unfold len1 len2 len3; rw [if_pos h1, hu, if_neg h2, if_pos h3, hz]; omega
        obtain ⟨b, hb1, hb2⟩ := get z (by omega)
        have hl8 := lenT_le z (by omega)
        rw [e]
        repeat' first
          | with_reducible first | refine wpc_seq ?_ | refine wpc_ops ?_ | refine wops_nil ?_ | refine then_normal ?_ | refine wpc_block ?_ | refine block_normal ?_ | refine wpc_skip ?_ | refine wpc_exit ?_ | refine then_exit ?_ | refine block_exit_same ?_ | refine wpc_ret ?_ | refine then_ret ?_ | refine block_ret ?_ | refine wpc_draw ?_ | refine wdr_nil ?_ | refine gate_t ?_ | refine gate_f ?_ | refine gate_tt ?_ | refine gate_ff ?_ | refine gate_tf ?_ | refine gate_ft ?_ | exact keep_same | exact keep_true
          | (with_reducible refine block_exit_other ?_ ?_; decide)
          | ((with_reducible refine keep_rfl ?_); exact rfl)
          | ((with_reducible first | apply wops_guard | apply wdr_guard | apply wpc_test); focus (simp (disch := omega) only [go_sem, ↓reduceIte, simprocAttr, reduceCtorEq, decide_eq_true, decide_eq_false, s32, s16, s8, hu, hz, hb1, hb2]; with_reducible first | exact lit_t | exact lit_f))
          | ((with_reducible first | apply wops_gone | apply wdr_gone); focus (simp (disch := omega) only [go_sem, ↓reduceIte, simprocAttr, reduceCtorEq, decide_eq_true, decide_eq_false, s32, s16, s8, hu, hz, hb1, hb2]; done))
          | ((with_reducible first | apply wops_step | apply wops_do | apply wdr_step); focus (simp (disch := omega) only [go_sem, ↓reduceIte, simprocAttr, reduceCtorEq, decide_eq_true, decide_eq_false, s32, s16, s8, hu, hz, hb1, hb2]; first | with_reducible exact rfl | (rw [if_pos (by first | omega | (constructor <;> omega) | (simp; done) | assumption)]; first | with_reducible exact rfl | (try simp (disch := omega) only [go_sem, ↓reduceIte, simprocAttr, reduceCtorEq, decide_eq_true, decide_eq_false, s32, s16, s8, hu, hz, hb1, hb2]; with_reducible exact rfl))))
        refine end_same hok (r := .int .i64 ((40 : Int) + ((lenT z : Nat) : Int))) ?_ ?_ ⟨rfl, rfl⟩
        · first | (simp (disch := omega) only [go_sem, ↓reduceIte, simprocAttr, reduceCtorEq, evResults, evResL, evRes, math_bits_Len64_r]; done) | (simp (disch := omega) only [go_sem, ↓reduceIte, simprocAttr, reduceCtorEq, evResults, evResL, evRes, math_bits_Len64_r]; with_reducible exact rfl) | exact rfl
        · first | (simp [EV.ok, okL, okL_tab_int, okL_tab_bool, okL_app]; done)
      · have e : ((len1 x : Nat) : Int) = (32 : Int) + ((lenT u : Nat) : Int) := by unfold len1 len2 len3; rw [if_pos h1, hu, if_neg h2, if_neg h3]; omega
        obtain ⟨b, hb1, hb2⟩ := get u (by omega)
        have hl8 := lenT_le u (by omega)
        rw [e]
        repeat' first
          | with_reducible first | refine wpc_seq ?_ | refine wpc_ops ?_ | refine wops_nil ?_ | refine then_normal ?_ | refine wpc_block ?_ | refine block_normal ?_ | refine wpc_skip ?_ | refine wpc_exit ?_ | refine then_exit ?_ | refine block_exit_same ?_ | refine wpc_ret ?_ | refine then_ret ?_ | refine block_ret ?_ | refine wpc_draw ?_ | refine wdr_nil ?_ | refine gate_t ?_ | refine gate_f ?_ | refine gate_tt ?_ | refine gate_ff ?_ | refine gate_tf ?_ | refine gate_ft ?_ | exact keep_same | exact keep_true
          | (with_reducible refine block_exit_other ?_ ?_; decide)
          | ((with_reducible refine keep_rfl ?_); exact rfl)
          | ((with_reducible first | apply wops_guard | apply wdr_guard | apply wpc_test); focus (simp (disch := omega) only [go_sem, ↓reduceIte, simprocAttr, reduceCtorEq, decide_eq_true, decide_eq_false, s32, s16, s8, hu, hb1, hb2]; with_reducible first | exact lit_t | exact lit_f))
          | ((with_reducible first | apply wops_gone | apply wdr_gone); focus (simp (disch := omega) only [go_sem, ↓reduceIte, simprocAttr, reduceCtorEq, decide_eq_true, decide_eq_false, s32, s16, s8, hu, hb1, hb2]; done))
          | ((with_reducible first | apply wops_step | apply wops_do | apply wdr_step); focus (simp (disch := omega) only [go_sem, ↓reduceIte, simprocAttr, reduceCtorEq, decide_eq_true, decide_eq_false, s32, s16, s8, hu, hb1, hb2]; first | with_reducible exact rfl | (rw [if_pos (by first | omega | (constructor <;> omega) | (simp; done) | assumption)]; first | with_reducible exact rfl | (try simp (disch := omega) only [go_sem, ↓reduceIte, simprocAttr, reduceCtorEq, decide_eq_true, decide_eq_false, s32, s16, s8, hu, hb1, hb2]; with_reducible exact rfl))))
        refine end_same hok (r := .int .i64 ((32 : Int) + ((lenT u : Nat) : Int))) ?_ ?_ ⟨rfl, rfl⟩
        · first | (simp (disch := omega) only [go_sem, ↓reduceIte, simprocAttr, reduceCtorEq, evResults, evResL, evRes, math_bits_Len64_r]; done) | (simp (disch := omega) only [go_sem, ↓reduceIte, simprocAttr, reduceCtorEq, evResults, evResL, evRes, math_bits_Len64_r]; with_reducible exact rfl) | exact rfl
        · first | (simp [EV.ok, okL, okL_tab_int, okL_tab_bool, okL_app]; done)
  · skip
    by_cases h2 : 65536 ≤ x
    · obtain ⟨v, hv⟩ : ∃ v, x / 65536 = v := ⟨_, rfl⟩
      by_cases h3 : 256 ≤ v
      · obtain ⟨z, hz⟩ : ∃ z, v / 256 = z := ⟨_, rfl⟩
        have e : ((len1 x : Nat) : Int) = (24 : Int) + ((lenT z : Nat) : Int) := by unfold len1 len2 len3; rw [if_neg h1, if_pos h2, hv, if_pos h3, hz]; omega
        obtain ⟨b, hb1, hb2⟩ := get z (by omega)
        have hl8 := lenT_le z (by omega)
        rw [e]
        repeat' first
          | with_reducible first | refine wpc_seq ?_ | refine wpc_ops ?_ | refine wops_nil ?_ | refine then_normal ?_ | refine wpc_block ?_ | refine block_normal ?_ | refine wpc_skip ?_ | refine wpc_exit ?_ | refine then_exit ?_ | refine block_exit_same ?_ | refine wpc_ret ?_ | refine then_ret ?_ | refine block_ret ?_ | refine wpc_draw ?_ | refine wdr_nil ?_ | refine gate_t ?_ | refine gate_f ?_ | refine gate_tt ?_ | refine gate_ff ?_ | refine gate_tf ?_ | refine gate_ft ?_ | exact keep_same | exact keep_true
          | (with_reducible refine block_exit_other ?_ ?_; decide)
          | ((with_reducible refine keep_rfl ?_); exact rfl)
          | ((with_reducible first | apply wops_guard | apply wdr_guard | apply wpc_test); focus (simp (disch := omega) only [go_sem, ↓reduceIte, simprocAttr, reduceCtorEq, decide_eq_true, decide_eq_false, s32, s16, s8, hv, hz, hb1, hb2]; with_reducible first | exact lit_t | exact lit_f))
          | ((with_reducible first | apply wops_gone | apply wdr_gone); focus (simp (disch := omega) only [go_sem, ↓reduceIte, simprocAttr, reduceCtorEq, decide_eq_true, decide_eq_false, s32, s16, s8, hv, hz, hb1, hb2]; done))
          | ((with_reducible first | apply wops_step | apply wops_do | apply wdr_step); focus (simp (disch := omega) only [go_sem, ↓reduceIte, simprocAttr, reduceCtorEq, decide_eq_true, decide_eq_false, s32, s16, s8, hv, hz, hb1, hb2]; first | with_reducible exact rfl | (rw [if_pos (by first | omega | (constructor <;> omega) | (simp; done) | assumption)]; first | with_reducible exact rfl | (try simp (disch := omega) only [go_sem, ↓reduceIte, simprocAttr, reduceCtorEq, decide_eq_true, decide_eq_false, s32, s16, s8, hv, hz, hb1, hb2]; with_reducible exact rfl))))
        refine end_same hok (r := .int .i64 ((24 : Int) + ((lenT z : Nat) : Int))) ?_ ?_ ⟨rfl, rfl⟩
        · first | (simp (disch := omega) only [go_sem, ↓reduceIte, simprocAttr, reduceCtorEq, evResults, evResL, evRes, math_bits_Len64_r]; done) | (simp (disch := omega) only [go_sem, ↓reduceIte, simprocAttr, reduceCtorEq, evResults, evResL, evRes, math_bits_Len64_r]; with_reducible exact rfl) | exact rfl
        · first | (simp [EV.ok, okL, okL_tab_int, okL_tab_bool, okL_app]; done)
      · have e : ((len1 x : Nat) : Int) = (16 : Int) + ((lenT v : Nat) : Int) := by unfold len1 len2 len3; rw [if_neg h1, if_pos h2, hv, if_neg h3]; omega
        obtain ⟨b, hb1, hb2⟩ := get v (by omega)
        have hl8 := lenT_le v (by omega)
        rw [e]
        repeat' first
          | with_reducible first | refine wpc_seq ?_ | refine wpc_ops ?_ | refine wops_nil ?_ | refine then_normal ?_ | refine wpc_block ?_ | refine block_normal ?_ | refine wpc_skip ?_ | refine wpc_exit ?_ | refine then_exit ?_ | refine block_exit_same ?_ | refine wpc_ret ?_ | refine then_ret ?_ | refine block_ret ?_ | refine wpc_draw ?_ | refine wdr_nil ?_ | refine gate_t ?_ | refine gate_f ?_ | refine gate_tt ?_ | refine gate_ff ?_ | refine gate_tf ?_ | refine gate_ft ?_ | exact keep_same | exact keep_true
          | (with_reducible refine block_exit_other ?_ ?_; decide)
          | ((with_reducible refine keep_rfl ?_); exact rfl)
          | ((with_reducible first | apply wops_guard | apply wdr_guard | apply wpc_test); focus (simp (disch := omega) only [go_sem, ↓reduceIte, simprocAttr, reduceCtorEq, decide_eq_true, decide_eq_false, s32, s16, s8, hv, hb1, hb2]; with_reducible first | exact lit_t | exact lit_f))
          | ((with_reducible first | apply wops_gone | apply wdr_gone); focus (simp (disch := omega) only [go_sem, ↓reduceIte, simprocAttr, reduceCtorEq, decide_eq_true, decide_eq_false, s32, s16, s8, hv, hb1, hb2]; done))
          | ((with_reducible first | apply wops_step | apply wops_do | apply wdr_step); focus (simp (disch := omega) only [go_sem, ↓reduceIte, simprocAttr, reduceCtorEq, decide_eq_true, decide_eq_false, s32, s16, s8, hv, hb1, hb2]; first | with_reducible exact rfl | (rw [if_pos (by first | omega | (constructor <;> omega) | (simp; done) | assumption)]; first | with_reducible exact rfl | (try simp (disch := omega) only [go_sem, ↓reduceIte, simprocAttr, reduceCtorEq, decide_eq_true, decide_eq_false, s32, s16, s8, hv, hb1, hb2]; with_reducible exact rfl))))
        refine end_same hok (r := .int .i64 ((16 : Int) + ((lenT v : Nat) : Int))) ?_ ?_ ⟨rfl, rfl⟩
        · first | (simp (disch := omega) only [go_sem, ↓reduceIte, simprocAttr, reduceCtorEq, evResults, evResL, evRes, math_bits_Len64_r]; done) | (simp (disch := omega) only [go_sem, ↓reduceIte, simprocAttr, reduceCtorEq, evResults, evResL, evRes, math_bits_Len64_r]; with_reducible exact rfl) | exact rfl
        · first | (simp [EV.ok, okL, okL_tab_int, okL_tab_bool, okL_app]; done)
    · skip
      by_cases h3 : 256 ≤ x
      · obtain ⟨z, hz⟩ : ∃ z, x / 256 = z := ⟨_, rfl⟩
        have e : ((len1 x : Nat) : Int) = (8 : Int) + ((lenT z : Nat) : Int) := by unfold len1 len2 len3; rw [if_neg h1, if_neg h2, if_pos h3, hz]; omega
        obtain ⟨b, hb1, hb2⟩ := get z (by omega)
        have hl8 := lenT_le z (by omega)
        rw [e]
        repeat' first
          | with_reducible first | refine wpc_seq ?_ | refine wpc_ops ?_ | refine wops_nil ?_ | refine then_normal ?_ | refine wpc_block ?_ | refine block_normal ?_ | refine wpc_skip ?_ | refine wpc_exit ?_ | refine then_exit ?_ | refine block_exit_same ?_ | refine wpc_ret ?_ | refine then_ret ?_ | refine block_ret ?_ | refine wpc_draw ?_ | refine wdr_nil ?_ | refine gate_t ?_ | refine gate_f ?_ | refine gate_tt ?_ | refine gate_ff ?_ | refine gate_tf ?_ | refine gate_ft ?_ | exact keep_same | exact keep_true
          | (with_reducible refine block_exit_other ?_ ?_; decide)
          | ((with_reducible refine keep_rfl ?_); exact rfl)
          | ((with_reducible first | apply wops_guard | apply wdr_guard | apply wpc_test); focus (simp (disch := omega) only [go_sem, ↓reduceIte, simprocAttr, reduceCtorEq, decide_eq_true, decide_eq_false, s32, s16, s8, hz, hb1, hb2]; with_reducible first | exact lit_t | exact lit_f))
          | ((with_reducible first | apply wops_gone | apply wdr_gone); focus (simp (disch := omega) only [go_sem, ↓reduceIte, simprocAttr, reduceCtorEq, decide_eq_true, decide_eq_false, s32, s16, s8, hz, hb1, hb2]; done))
          | ((with_reducible first | apply wops_step | apply wops_do | apply wdr_step); focus (simp (disch := omega) only [go_sem, ↓reduceIte, simprocAttr, reduceCtorEq, decide_eq_true, decide_eq_false, s32, s16, s8, hz, hb1, hb2]; first | with_reducible exact rfl | (rw [if_pos (by first | omega | (constructor <;> omega) | (simp; done) | assumption)]; first | with_reducible exact rfl | (try simp (disch := omega) only [go_sem, ↓reduceIte, simprocAttr, reduceCtorEq, decide_eq_true, decide_eq_false, s32, s16, s8, hz, hb1, hb2]; with_reducible exact rfl))))
        refine end_same hok (r := .int .i64 ((8 : Int) + ((lenT z : Nat) : Int))) ?_ ?_ ⟨rfl, rfl⟩
        · first | (simp (disch := omega) only [go_sem, ↓reduceIte, simprocAttr, reduceCtorEq, evResults, evResL, evRes, math_bits_Len64_r]; done) | (simp (disch := omega) only [go_sem, ↓reduceIte, simprocAttr, reduceCtorEq, evResults, evResL, evRes, math_bits_Len64_r]; with_reducible exact rfl) | exact rfl
        · first | (simp [EV.ok, okL, okL_tab_int, okL_tab_bool, okL_app]; done)
      · have e : ((len1 x : Nat) : Int) = (0 : Int) + ((lenT x : Nat) : Int) := by unfold len1 len2 len3; rw [if_neg h1, if_neg h2, if_neg h3]; omega
        obtain ⟨b, hb1, hb2⟩ := get x (by omega)
        have hl8 := lenT_le x (by omega)
        rw [e]
        repeat' first
          | with_reducible first | refine wpc_seq ?_ | refine wpc_ops ?_ | refine wops_nil ?_ | refine then_normal ?_ | refine wpc_block ?_ | refine block_normal ?_ | refine wpc_skip ?_ | refine wpc_exit ?_ | refine then_exit ?_ | refine block_exit_same ?_ | refine wpc_ret ?_ | refine then_ret ?_ | refine block_ret ?_ | refine wpc_draw ?_ | refine wdr_nil ?_ | refine gate_t ?_ | refine gate_f ?_ | refine gate_tt ?_ | refine gate_ff ?_ | refine gate_tf ?_ | refine gate_ft ?_ | exact keep_same | exact keep_true
          | (with_reducible refine block_exit_other ?_ ?_; decide)
          | ((with_reducible refine keep_rfl ?_); exact rfl)
          | ((with_reducible first | apply wops_guard | apply wdr_guard | apply wpc_test); focus (simp (disch := omega) only [go_sem, ↓reduceIte, simprocAttr, reduceCtorEq, decide_eq_true, decide_eq_false, s32, s16, s8, hb1, hb2]; with_reducible first | exact lit_t | exact lit_f))
          | ((with_reducible first | apply wops_gone | apply wdr_gone); focus (simp (disch := omega) only [go_sem, ↓reduceIte, simprocAttr, reduceCtorEq, decide_eq_true, decide_eq_false, s32, s16, s8, hb1, hb2]; done))
          | ((with_reducible first | apply wops_step | apply wops_do | apply wdr_step); focus (simp (disch := omega) only [go_sem, ↓reduceIte, simprocAttr, reduceCtorEq, decide_eq_true, decide_eq_false, s32, s16, s8, hb1, hb2]; first | with_reducible exact rfl | (rw [if_pos (by first | omega | (constructor <;> omega) | (simp; done) | assumption)]; first | with_reducible exact rfl | (try simp (disch := omega) only [go_sem, ↓reduceIte, simprocAttr, reduceCtorEq, decide_eq_true, decide_eq_false, s32, s16, s8, hb1, hb2]; with_reducible exact rfl))))
        refine end_same hok (r := .int .i64 ((0 : Int) + ((lenT x : Nat) : Int))) ?_ ?_ ⟨rfl, rfl⟩
        · first | (simp (disch := omega) only [go_sem, ↓reduceIte, simprocAttr, reduceCtorEq, evResults, evResL, evRes, math_bits_Len64_r]; done) | (simp (disch := omega) only [go_sem, ↓reduceIte, simprocAttr, reduceCtorEq, evResults, evResL, evRes, math_bits_Len64_r]; with_reducible exact rfl) | exact rfl
        · first | (simp [EV.ok, okL, okL_tab_int, okL_tab_bool, okL_app]; done)

end
end Abs
