/- How many bits a word has. -/
import Derived.Test.YtcjnpmaljfkpgaaDoorOctsE
namespace Abs
open Go
set_option linter.all false
set_option maxRecDepth 20000

def popN (w : Nat) : Nat → Nat
  | 0 => 0
  | m + 1 => popN w m + (if w.testBit m then 1 else 0)

def s1 (l : Nat) : Nat := (l / 2 &&& 85) + (l &&& 85)
def s2 (l : Nat) : Nat := (l / 4 &&& 51) + (l &&& 51)
def s3 (l : Nat) : Nat := (l / 16 + l) &&& 15

theorem s_pop : ∀ l, l < 256 → s3 (s2 (s1 l)) = popN l 8 ∧ s1 l < 256 ∧ s2 (s1 l) ≤ 68 ∧ s2 (s1 l) % 16 ≤ 4 ∧ popN l 8 ≤ 8 := by decide +kernel
theorem d1 : ∀ r, r < 2 → ∀ l, l < 256 → (256 * r + l) / 2 &&& 85 = l / 2 &&& 85 := by decide +kernel
theorem d2 : ∀ r, r < 4 → ∀ l, l < 256 → (256 * r + l) / 4 &&& 51 = l / 4 &&& 51 := by decide +kernel
theorem d3 : ∀ r, r < 5 → ∀ l, l < 69 → (16 * r + (l / 16 + l)) &&& 15 = (l / 16 + l) &&& 15 := by decide +kernel

theorem cat_and {a b c d : Nat} (hb : b < 256) (hd : d < 256) : (256 * a + b) &&& (256 * c + d) = 256 * (a &&& c) + (b &&& d) := by
  have hbd : b &&& d < 2 ^ 8 := Nat.and_lt_two_pow b (n := 8) hd
  apply Nat.eq_of_testBit_eq
  intro j
  have e1 := Nat.testBit_two_pow_mul_add (i := 8) a hb j
  have e2 := Nat.testBit_two_pow_mul_add (i := 8) c hd j
  have e3 := Nat.testBit_two_pow_mul_add (i := 8) (a &&& c) hbd j
  simp only [show (2 : Nat) ^ 8 = 256 from rfl] at e1 e2 e3
  rw [Nat.testBit_and, e1, e2, e3]
  split <;> rw [Nat.testBit_and]

def valB : List Nat → Nat
  | [] => 0
  | b :: bs => 256 * valB bs + b

theorem st1 : ∀ (bs : List Nat), (∀ b ∈ bs, b < 256) → (valB bs / 2 &&& valB (List.replicate bs.length 85)) + (valB bs &&& valB (List.replicate bs.length 85)) = valB (bs.map s1)
  | [], _ => rfl
  | b :: bs, h => by
    have ih := st1 bs fun x hx => h x (by simp [hx])
    have hb := h b (by simp)
    simp only [List.length_cons, List.replicate_succ, List.map_cons, valB]
    generalize valB bs = x at *
    generalize valB (List.replicate bs.length 85) = m at *
    have e : (256 * x + b) / 2 = 256 * (x / 2) + (256 * (x % 2) + b) / 2 := by omega
    rw [e, cat_and (by omega) (by omega), cat_and hb (by omega), d1 (x % 2) (by omega) b hb, ← ih]
    unfold s1
    omega
theorem st2 : ∀ (bs : List Nat), (∀ b ∈ bs, b < 256) → (valB bs / 4 &&& valB (List.replicate bs.length 51)) + (valB bs &&& valB (List.replicate bs.length 51)) = valB (bs.map s2)
  | [], _ => rfl
  | b :: bs, h => by
    have ih := st2 bs fun x hx => h x (by simp [hx])
    have hb := h b (by simp)
    simp only [List.length_cons, List.replicate_succ, List.map_cons, valB]
    generalize valB bs = x at *
    generalize valB (List.replicate bs.length 51) = m at *
    have e : (256 * x + b) / 4 = 256 * (x / 4) + (256 * (x % 4) + b) / 4 := by omega
    rw [e, cat_and (by omega) (by omega), cat_and hb (by omega), d2 (x % 4) (by omega) b hb, ← ih]
    unfold s2
    omega
theorem val_mod : ∀ (bs : List Nat), (∀ b ∈ bs, b % 16 ≤ 4) → valB bs % 16 ≤ 4
  | [], _ => by simp [valB]
  | b :: bs, h => by
    have := h b (by simp)
    simp only [valB]
    omega
theorem st3 : ∀ (bs : List Nat), (∀ b ∈ bs, b ≤ 68 ∧ b % 16 ≤ 4) → (valB bs / 16 + valB bs) &&& valB (List.replicate bs.length 15) = valB (bs.map s3)
  | [], _ => rfl
  | b :: bs, h => by
    have ih := st3 bs fun x hx => h x (by simp [hx])
    have hb := h b (by simp)
    have hm := val_mod bs fun x hx => (h x (by simp [hx])).2
    simp only [List.length_cons, List.replicate_succ, List.map_cons, valB]
    generalize valB bs = x at *
    generalize valB (List.replicate bs.length 15) = m at *
    have e : (256 * x + b) / 16 + (256 * x + b) = 256 * (x / 16 + x) + (16 * (x % 16) + (b / 16 + b)) := by omega
    rw [e, cat_and (by omega) (by omega), d3 (x % 16) (by omega) b (by omega), ih]
    rfl

theorem pop_cat (h l : Nat) (hl : l < 256) : ∀ m, popN (256 * h + l) (8 + m) = popN l 8 + popN h m
  | 0 => by
    have e : ∀ j, j < 8 → (256 * h + l).testBit j = l.testBit j := fun j hj => by
      have := Nat.testBit_two_pow_mul_add (i := 8) h hl j
      rw [if_pos hj] at this
      exact this
    simp [popN, e]
  | m + 1 => by
    have e := Nat.testBit_two_pow_mul_add (i := 8) h hl (8 + m)
    rw [if_neg (by omega), show 8 + m - 8 = m by omega] at e
    show popN (256 * h + l) (8 + m) + (if (256 * h + l).testBit (8 + m) then 1 else 0) = popN l 8 + (popN h m + (if h.testBit m then 1 else 0))
    rw [pop_cat h l hl m, show (256 * h + l).testBit (8 + m) = h.testBit m from e, Nat.add_assoc]

theorem pop_val : ∀ (bs : List Nat), (∀ b ∈ bs, b < 256) → popN (valB bs) (8 * bs.length) = (bs.map fun b => popN b 8).sum
  | [], _ => rfl
  | b :: bs, h => by
    have ih := pop_val bs fun x hx => h x (by simp [hx])
    simp only [List.length_cons, valB, List.map_cons, List.sum_cons]
    rw [show 8 * (bs.length + 1) = 8 + 8 * bs.length by omega, pop_cat _ _ (h b (by simp)), ih]

theorem bytes_of {w : Nat} (hw : w < 18446744073709551616) : w = valB [w % 256, w / 256 % 256, w / 65536 % 256, w / 16777216 % 256, w / 4294967296 % 256, w / 1099511627776 % 256, w / 281474976710656 % 256, w / 72057594037927936 % 256] := by
  simp only [valB]
  omega

theorem div_step {a b y : Nat} (ha : a < 256) (h : y = a + 256 * b) : y / 256 = b := by omega

/-- The sum of eight small bytes. -/
theorem sum8 {c0 c1 c2 c3 c4 c5 c6 c7 : Nat} (h0 : c0 ≤ 8) (h1 : c1 ≤ 8) (h2 : c2 ≤ 8) (h3 : c3 ≤ 8) (h4 : c4 ≤ 8) (h5 : c5 ≤ 8) (h6 : c6 ≤ 8) (h7 : c7 ≤ 8) {x y1 y2 y3 : Nat} (hx : x = valB [c0, c1, c2, c3, c4, c5, c6, c7])
    (e1 : y1 = x + x / 256) (e2 : y2 = y1 + y1 / 65536) (e3 : y3 = y2 + y2 / 4294967296) : y3 % 128 = c0 + c1 + c2 + c3 + c4 + c5 + c6 + c7 ∧ y3 < 9223372036854775808 := by
  obtain ⟨X7, k7⟩ : ∃ X7, X7 = c7 := ⟨_, rfl⟩
  obtain ⟨X6, k6⟩ : ∃ X6, X6 = c6 + 256 * X7 := ⟨_, rfl⟩
  obtain ⟨X5, k5⟩ : ∃ X5, X5 = c5 + 256 * X6 := ⟨_, rfl⟩
  obtain ⟨X4, k4⟩ : ∃ X4, X4 = c4 + 256 * X5 := ⟨_, rfl⟩
  obtain ⟨X3, k3⟩ : ∃ X3, X3 = c3 + 256 * X4 := ⟨_, rfl⟩
  obtain ⟨X2, k2⟩ : ∃ X2, X2 = c2 + 256 * X3 := ⟨_, rfl⟩
  obtain ⟨X1, k1⟩ : ∃ X1, X1 = c1 + 256 * X2 := ⟨_, rfl⟩
  have k0 : x = c0 + 256 * X1 := by
    rw [hx, k1, k2, k3, k4, k5, k6, k7]
    simp only [valB]
    omega
  clear hx
  have f1 : x / 256 = X1 := div_step (by omega) k0
  rw [f1] at e1
  have g1 : y1 / 256 = X1 + X2 := div_step (a := c0 + c1) (by omega) (by rw [e1]; clear k2 k3 k4 k5 k6 k7 e2 e3; omega)
  have g2 : (X1 + X2) / 256 = X2 + X3 := div_step (a := c1 + c2) (by omega) (by clear k0 k3 k4 k5 k6 k7 e1 e2 e3 f1 g1; omega)
  have f2 : y1 / 65536 = X2 + X3 := by
    rw [show (65536 : Nat) = 256 * 256 from rfl, ← Nat.div_div_eq_div_mul, g1, g2]
  rw [f2] at e2
  have m1 : y2 / 256 = X1 + X2 + X3 + X4 := div_step (a := c0 + c1 + c2 + c3) (by omega) (by rw [e2, e1]; clear k4 k5 k6 k7 e1 e2 e3 f1 g1 g2 f2; omega)
  have m2 : (X1 + X2 + X3 + X4) / 256 = X2 + X3 + X4 + X5 := div_step (a := c1 + c2 + c3 + c4) (by omega) (by clear k0 k5 k6 k7 e1 e2 e3 f1 g1 g2 f2 m1; omega)
  have m3 : (X2 + X3 + X4 + X5) / 256 = X3 + X4 + X5 + X6 := div_step (a := c2 + c3 + c4 + c5) (by omega) (by clear k0 k1 k6 k7 e1 e2 e3 f1 g1 g2 f2 m1 m2; omega)
  have m4 : (X3 + X4 + X5 + X6) / 256 = X4 + X5 + X6 + X7 := div_step (a := c3 + c4 + c5 + c6) (by omega) (by clear k0 k1 k2 k7 e1 e2 e3 f1 g1 g2 f2 m1 m2 m3; omega)
  have f3 : y2 / 4294967296 = X4 + X5 + X6 + X7 := by
    rw [show (4294967296 : Nat) = 256 * 256 * 256 * 256 from rfl, ← Nat.div_div_eq_div_mul, ← Nat.div_div_eq_div_mul, ← Nat.div_div_eq_div_mul, m1, m2, m3, m4]
  rw [f3] at e3
  have fin : y3 = (c0 + c1 + c2 + c3 + c4 + c5 + c6 + c7) + 256 * (X1 + X2 + X3 + X4 + X5 + X6 + X7) := by
    rw [e3, e2, e1]
    clear e1 e2 e3 f1 g1 g2 f2 m1 m2 m3 m4 f3
    omega
  clear e1 e2 e3 f1 g1 g2 f2 m1 m2 m3 m4 f3
  have b6 : X6 ≤ 2056 := by omega
  have b5 : X5 ≤ 526344 := by clear k6 k7; omega
  have b4 : X4 ≤ 134744072 := by clear k5 k6 k7; omega
  have b3 : X3 ≤ 34494482440 := by clear k4 k5 k6 k7; omega
  have b2 : X2 ≤ 8830587504648 := by clear k3 k4 k5 k6 k7; omega
  have b1 : X1 ≤ 2260630401189896 := by clear k2 k3 k4 k5 k6 k7; omega
  have b7 : X7 ≤ 8 := by omega
  clear k0 k1 k2 k3 k4 k5 k6 k7
  constructor
  · rw [fin]; generalize X1 + X2 + X3 + X4 + X5 + X6 + X7 = z; omega
  · omega

theorem and_bound {a b : Nat} : a &&& b ≤ b := Nat.and_le_right

/-- The library's count. -/
theorem ones_math {w : Nat} (hw : w < 18446744073709551616) : ∃ a4 b4 c3 d2 e2 g2 : Nat, a4 = (w / 2 &&& 6148914691236517205) + (w &&& 6148914691236517205) ∧ b4 = (a4 / 4 &&& 3689348814741910323) + (a4 &&& 3689348814741910323) ∧
    c3 = (b4 / 16 + b4) &&& 1085102592571150095 ∧ d2 = c3 + c3 / 256 ∧ e2 = d2 + d2 / 65536 ∧ g2 = e2 + e2 / 4294967296 ∧ g2 % 128 = popN w 64 ∧ g2 < 9223372036854775808 := by
  have hwv := bytes_of hw
  generalize hbs : [w % 256, w / 256 % 256, w / 65536 % 256, w / 16777216 % 256, w / 4294967296 % 256, w / 1099511627776 % 256, w / 281474976710656 % 256, w / 72057594037927936 % 256] = bs at hwv
  have hlen : bs.length = 8 := by rw [← hbs]; rfl
  have hlt : ∀ b ∈ bs, b < 256 := by
    rw [← hbs]
    intro b hb
    simp only [List.mem_cons, List.not_mem_nil, or_false] at hb
    omega
  have p1 := st1 bs hlt
  have h1 : ∀ b ∈ bs.map s1, b < 256 := fun b hb => by obtain ⟨l, hl, rfl⟩ := List.mem_map.1 hb; exact (s_pop l (hlt l hl)).2.1
  have p2 := st2 (bs.map s1) h1
  have h2 : ∀ b ∈ (bs.map s1).map s2, b ≤ 68 ∧ b % 16 ≤ 4 := fun b hb => by
    rw [List.map_map] at hb
    obtain ⟨l, hl, rfl⟩ := List.mem_map.1 hb
    exact ⟨(s_pop l (hlt l hl)).2.2.1, (s_pop l (hlt l hl)).2.2.2.1⟩
  have p3 := st3 ((bs.map s1).map s2) h2
  rw [← hwv, hlen] at p1
  rw [← p1, List.length_map, hlen] at p2
  rw [← p2, List.length_map, List.length_map, hlen] at p3
  have q1 : valB (List.replicate 8 85) = 6148914691236517205 := by decide +kernel
  have q2 : valB (List.replicate 8 51) = 3689348814741910323 := by decide +kernel
  have q3 : valB (List.replicate 8 15) = 1085102592571150095 := by decide +kernel
  rw [q1] at p1 p2 p3
  rw [q2] at p2 p3
  rw [q3] at p3
  have hmap : ((bs.map s1).map s2).map s3 = bs.map fun b => popN b 8 := by
    rw [List.map_map, List.map_map]
    exact List.map_congr_left fun l hl => (s_pop l (hlt l hl)).1
  rw [hmap] at p3
  have hpop := pop_val bs hlt
  rw [← hwv, hlen] at hpop
  have hle : ∀ b ∈ bs.map (fun b => popN b 8), b ≤ 8 := fun b hb => by obtain ⟨l, hl, rfl⟩ := List.mem_map.1 hb; exact (s_pop l (hlt l hl)).2.2.2.2
  refine ⟨_, _, _, _, _, _, rfl, rfl, rfl, rfl, rfl, rfl, ?_⟩
  rw [p3]
  match hcs : bs.map (fun b => popN b 8), (by rw [List.length_map, hlen] : (bs.map fun b => popN b 8).length = 8) with
  | [c0, c1, c2, c3, c4, c5, c6, c7], _ =>
    rw [hcs] at hle hpop
    obtain ⟨r1, r2⟩ := sum8 (hle c0 (by simp)) (hle c1 (by simp)) (hle c2 (by simp)) (hle c3 (by simp)) (hle c4 (by simp)) (hle c5 (by simp)) (hle c6 (by simp)) (hle c7 (by simp)) rfl rfl rfl rfl
    refine ⟨?_, r2⟩
    rw [r1, show (64 : Nat) = 8 * 8 from rfl, hpop]
    simp only [List.sum_cons, List.sum_nil]
    omega

section
variable {P : Program} {γ : Nat → EV}

def OnesOk (P : Program) (γ : Nat → EV) (f : FuncId) : Prop :=
  ∀ (w : Nat) (H : Heap), w < 18446744073709551616 → CallsA P γ f [.int .u64 w] H fun er H' => er = .ret (.int .i64 (popN w 64)) ∧ H' = H

set_option maxHeartbeats 4000000 in
theorem ones_core {f : FuncId} (hb : Body P f math_bits_OnesCount64 math_bits_OnesCount64_r 35) (w a1 a2 a3 a4 b1 b2 b3 b4 c1 c2 c3 d1 d2 e1 e2 f1 f2 r : Nat) (H : Heap)
    (h1 : ((w : Nat) : Int).fdiv (2 ^ (min 1 64)) = (a1 : Int)) (h2 : bitsOp .and .u64 (a1 : Int) 6148914691236517205 = (a2 : Int)) (h3 : bitsOp .and .u64 (w : Int) 6148914691236517205 = (a3 : Int)) (h4 : IntKind.u64.wrap ((a2 : Int) + (a3 : Int)) = (a4 : Int))
    (h5 : ((a4 : Nat) : Int).fdiv (2 ^ (min 2 64)) = (b1 : Int)) (h6 : bitsOp .and .u64 (b1 : Int) 3689348814741910323 = (b2 : Int)) (h7 : bitsOp .and .u64 (a4 : Int) 3689348814741910323 = (b3 : Int)) (h8 : IntKind.u64.wrap ((b2 : Int) + (b3 : Int)) = (b4 : Int))
    (h9 : ((b4 : Nat) : Int).fdiv (2 ^ (min 4 64)) = (c1 : Int)) (h10 : IntKind.u64.wrap ((c1 : Int) + (b4 : Int)) = (c2 : Int)) (h11 : bitsOp .and .u64 (c2 : Int) 1085102592571150095 = (c3 : Int))
    (h12 : ((c3 : Nat) : Int).fdiv (2 ^ (min 8 64)) = (d1 : Int)) (h13 : IntKind.u64.wrap ((c3 : Int) + (d1 : Int)) = (d2 : Int))
    (h14 : ((d2 : Nat) : Int).fdiv (2 ^ (min 16 64)) = (e1 : Int)) (h15 : IntKind.u64.wrap ((d2 : Int) + (e1 : Int)) = (e2 : Int))
    (h16 : ((e2 : Nat) : Int).fdiv (2 ^ (min 32 64)) = (f1 : Int)) (h17 : IntKind.u64.wrap ((e2 : Int) + (f1 : Int)) = (f2 : Int)) (h18 : IntKind.i64.wrap (f2 : Int) = (f2 : Int)) (h19 : bitsOp .and .i64 (f2 : Int) 127 = (r : Int)) :
    CallsA P γ f [.int .u64 w] H fun er H' => er = .ret (.int .i64 (r : Int)) ∧ H' = H := by
  refine hb.calls (by simp) fun hok => ?_
  unfold math_bits_OnesCount64
  repeat' first
    | with_reducible first | refine wpc_seq ?_ | refine wpc_ops ?_ | refine wops_nil ?_ | refine then_normal ?_ | refine wpc_block ?_ | refine block_normal ?_ | refine wpc_skip ?_ | refine wpc_exit ?_ | refine then_exit ?_ | refine block_exit_same ?_ | refine wpc_ret ?_ | refine then_ret ?_ | refine block_ret ?_ | refine wpc_draw ?_ | refine wdr_nil ?_ | refine gate_t ?_ | refine gate_f ?_ | refine gate_tt ?_ | refine gate_ff ?_ | refine gate_tf ?_ | refine gate_ft ?_ | exact keep_same | exact keep_true
    | (with_reducible refine block_exit_other ?_ ?_; decide)
    | ((with_reducible refine keep_rfl ?_); exact rfl)
    | ((with_reducible first | apply wops_guard | apply wdr_guard | apply wpc_test); focus (simp (disch := omega) only [go_sem, ↓reduceIte, Nat.reduceEqDiff, Nat.reduceAdd, Nat.reduceSub, Nat.reduceMul, Nat.reduceLeDiff, Nat.reduceLT, Nat.reduceBEq, Nat.reduceBNe, Int.reduceToNat, Int.reduceLE, Int.reduceLT, Int.reduceNeg, Int.reduceEq, Int.reduceBEq, Int.reduceBNe, Int.reduceAdd, Int.reduceSub, Int.reduceMul, reduceCtorEq, h1, h2, h3, h4, h5, h6, h7, h8, h9, h10, h11, h12, h13, h14, h15, h16, h17, h18, h19]; with_reducible first | exact lit_t | exact lit_f))
    | ((with_reducible first | apply wops_gone | apply wdr_gone); focus (simp (disch := omega) only [go_sem, ↓reduceIte, Nat.reduceEqDiff, Nat.reduceAdd, Nat.reduceSub, Nat.reduceMul, Nat.reduceLeDiff, Nat.reduceLT, Nat.reduceBEq, Nat.reduceBNe, Int.reduceToNat, Int.reduceLE, Int.reduceLT, Int.reduceNeg, Int.reduceEq, Int.reduceBEq, Int.reduceBNe, Int.reduceAdd, Int.reduceSub, Int.reduceMul, reduceCtorEq, h1, h2, h3, h4, h5, h6, h7, h8, h9, h10, h11, h12, h13, h14, h15, h16, h17, h18, h19]; with_reducible exact rfl))
    | ((with_reducible first | apply wops_step | apply wops_do | apply wdr_step); focus (simp (disch := omega) only [go_sem, ↓reduceIte, Nat.reduceEqDiff, Nat.reduceAdd, Nat.reduceSub, Nat.reduceMul, Nat.reduceLeDiff, Nat.reduceLT, Nat.reduceBEq, Nat.reduceBNe, Int.reduceToNat, Int.reduceLE, Int.reduceLT, Int.reduceNeg, Int.reduceEq, Int.reduceBEq, Int.reduceBNe, Int.reduceAdd, Int.reduceSub, Int.reduceMul, reduceCtorEq, h1, h2, h3, h4, h5, h6, h7, h8, h9, h10, h11, h12, h13, h14, h15, h16, h17, h18, h19]; first | with_reducible exact rfl | (rw [if_pos (by first | omega | (constructor <;> omega) | (simp; done) | assumption)]; first | with_reducible exact rfl | (try simp (disch := omega) only [go_sem, ↓reduceIte, Nat.reduceEqDiff, Nat.reduceAdd, Nat.reduceSub, Nat.reduceMul, Nat.reduceLeDiff, Nat.reduceLT, Nat.reduceBEq, Nat.reduceBNe, Int.reduceToNat, Int.reduceLE, Int.reduceLT, Int.reduceNeg, Int.reduceEq, Int.reduceBEq, Int.reduceBNe, Int.reduceAdd, Int.reduceSub, Int.reduceMul, reduceCtorEq, h1, h2, h3, h4, h5, h6, h7, h8, h9, h10, h11, h12, h13, h14, h15, h16, h17, h18, h19]; with_reducible exact rfl))))
  refine end_same hok (r := .int .i64 (r : Int)) ?_ ?_ ⟨rfl, rfl⟩
  · first | (simp (disch := omega) only [go_sem, ↓reduceIte, Nat.reduceEqDiff, Nat.reduceAdd, Nat.reduceSub, Nat.reduceMul, Nat.reduceLeDiff, Nat.reduceLT, Nat.reduceBEq, Nat.reduceBNe, Int.reduceToNat, Int.reduceLE, Int.reduceLT, Int.reduceNeg, Int.reduceEq, Int.reduceBEq, Int.reduceBNe, Int.reduceAdd, Int.reduceSub, Int.reduceMul, reduceCtorEq, evResults, evResL, evRes, math_bits_OnesCount64_r]; done) | (simp (disch := omega) only [go_sem, ↓reduceIte, Nat.reduceEqDiff, Nat.reduceAdd, Nat.reduceSub, Nat.reduceMul, Nat.reduceLeDiff, Nat.reduceLT, Nat.reduceBEq, Nat.reduceBNe, Int.reduceToNat, Int.reduceLE, Int.reduceLT, Int.reduceNeg, Int.reduceEq, Int.reduceBEq, Int.reduceBNe, Int.reduceAdd, Int.reduceSub, Int.reduceMul, reduceCtorEq, evResults, evResL, evRes, math_bits_OnesCount64_r]; with_reducible exact rfl) | exact rfl
  · first | (simp [EV.ok, okL, okL_tab_int, okL_tab_bool, okL_app]; done)

theorem and_i64 {a : Nat} (ha : a < 9223372036854775808) : bitsOp .and .i64 (a : Int) 127 = ((a % 128 : Nat) : Int) := by
  have e : (BitVec.ofInt 64 (a : Int) &&& BitVec.ofInt 64 (127 : Int)).toNat = a % 128 := by
    rw [ofInt_nat, show ((127 : Int)) = ((127 : Nat) : Int) from rfl, ofInt_nat, BitVec.toNat_and, BitVec.toNat_ofNat, BitVec.toNat_ofNat, Nat.mod_eq_of_lt (by omega)]
    exact Nat.and_two_pow_sub_one_eq_mod a 7
  show IntKind.i64.wrap (((BitVec.ofInt 64 (a : Int) &&& BitVec.ofInt 64 (127 : Int)).toNat : Nat) : Int) = _
  rw [e, wrap_i64 (by omega) (by omega)]

theorem fdiv_bits (a m : Nat) (h : m ≤ 64) : ((a : Nat) : Int).fdiv (2 ^ (min m 64)) = ((a / 2 ^ m : Nat) : Int) := by
  rw [show min m 64 = m from Nat.min_eq_left h, fdiv_pow]

theorem ones_ok {f : FuncId} (hb : Body P f math_bits_OnesCount64 math_bits_OnesCount64_r 35) : OnesOk P γ f := by
  intro w H hw
  obtain ⟨a4, b4, c3, d2, e2, g2, k1, k2, k3, k4, k5, k6, k7, k8⟩ := ones_math hw
  have u1 : w / 2 &&& 6148914691236517205 ≤ 6148914691236517205 := and_bound
  have u2 : w &&& 6148914691236517205 ≤ 6148914691236517205 := and_bound
  have u3 : a4 / 4 &&& 3689348814741910323 ≤ 3689348814741910323 := and_bound
  have u4 : a4 &&& 3689348814741910323 ≤ 3689348814741910323 := and_bound
  have u5 : (b4 / 16 + b4) &&& 1085102592571150095 ≤ 1085102592571150095 := and_bound
  rw [← k7]
  have add : ∀ {x y z : Nat}, z = x + y → z < 18446744073709551616 → IntKind.u64.wrap ((x : Int) + (y : Int)) = (z : Int) := fun {x y z} h h2 => by
    rw [wrap_u64 (by omega) (by omega)]; omega
  have hb4 : b4 / 16 + b4 < 18446744073709551616 := by omega
  refine ones_core hb w (w / 2) (w / 2 &&& 6148914691236517205) (w &&& 6148914691236517205) a4 (a4 / 4) (a4 / 4 &&& 3689348814741910323) (a4 &&& 3689348814741910323) b4 (b4 / 16) (b4 / 16 + b4) c3 (c3 / 256) d2 (d2 / 65536) e2 (e2 / 4294967296) g2 (g2 % 128) H
    (fdiv_bits w 1 (by omega)) ?_ ?_ (add k1 (by omega)) (fdiv_bits a4 2 (by omega)) ?_ ?_ (add k2 (by omega)) (fdiv_bits b4 4 (by omega)) (add rfl hb4) ?_ (fdiv_bits c3 8 (by omega)) (add k4 (by omega)) (fdiv_bits d2 16 (by omega)) (add k5 (by omega)) (fdiv_bits e2 32 (by omega)) (add k6 (by omega)) (wrap_i64 (by omega) (by omega)) (and_i64 k8)
  · exact bits_and (b := 6148914691236517205) (by omega) (by omega)
  · exact bits_and (b := 6148914691236517205) hw (by omega)
  · exact bits_and (b := 3689348814741910323) (by omega) (by omega)
  · exact bits_and (b := 3689348814741910323) (by omega) (by omega)
  · rw [k3]; exact bits_and (b := 1085102592571150095) hb4 (by omega)

/-- How many bytes a set has. -/
theorem cnt_pop (x : Nat → Nat) (i : Nat) (hi : i < 4) : ∀ m, m ≤ 64 → cntF x (64 * i + m) = cntF x (64 * i) + popN (x i) m
  | 0, _ => rfl
  | m + 1, h => by
    rw [← Nat.add_assoc, cnt_succ x (by omega), cnt_pop x i hi m (by omega), inSet_at x (by omega)]
    simp only [popN]
    omega

def CountOk (P : Program) (γ : Nat → EV) (f : FuncId) : Prop :=
  ∀ (x : Nat → Nat) (H : Heap), Words x → CallsA P γ f [setE x] H fun er H' => er = .ret (.int .i64 ((bytesF x).length : Nat)) ∧ H' = H

theorem pop_le (w : Nat) : ∀ m, popN w m ≤ m
  | 0 => Nat.le_refl _
  | m + 1 => by
    have := pop_le w m
    simp only [popN]
    split <;> omega

attribute [local irreducible] popN cntF bytesF

set_option maxHeartbeats 8000000 in
theorem count_ok {f fo : FuncId} (hb : Body P f (octs_Count fo) octs_Count_r 16) (ho : OnesOk P γ fo) : CountOk P γ f := by
  intro x H hx
  refine hb.calls (by simp) fun hok => ?_
  unfold octs_Count
  repeat' first
    | with_reducible first | refine wpc_seq ?_ | refine wpc_ops ?_ | refine wops_nil ?_ | refine then_normal ?_ | refine wpc_block ?_ | refine block_normal ?_ | refine wpc_skip ?_ | refine wpc_exit ?_ | refine then_exit ?_ | refine block_exit_same ?_ | refine wpc_ret ?_ | refine then_ret ?_ | refine block_ret ?_ | refine wpc_draw ?_ | refine wdr_nil ?_ | refine gate_t ?_ | refine gate_f ?_ | refine gate_tt ?_ | refine gate_ff ?_ | refine gate_tf ?_ | refine gate_ft ?_ | exact keep_same | exact keep_true
    | (with_reducible refine block_exit_other ?_ ?_; decide)
    | ((with_reducible refine keep_rfl ?_); exact rfl)
    | ((with_reducible first | apply wops_guard | apply wdr_guard | apply wpc_test); focus (simp (disch := omega) only [go_sem, ↓reduceIte, Nat.reduceEqDiff, Nat.reduceAdd, Nat.reduceSub, Nat.reduceMul, Nat.reduceLeDiff, Nat.reduceLT, Nat.reduceBEq, Nat.reduceBNe, Int.reduceToNat, Int.reduceLE, Int.reduceLT, Int.reduceNeg, Int.reduceEq, Int.reduceBEq, Int.reduceBNe, Int.reduceAdd, Int.reduceSub, Int.reduceMul, reduceCtorEq, setE]; with_reducible first | exact lit_t | exact lit_f))
    | ((with_reducible first | apply wops_gone | apply wdr_gone); focus (simp (disch := omega) only [go_sem, ↓reduceIte, Nat.reduceEqDiff, Nat.reduceAdd, Nat.reduceSub, Nat.reduceMul, Nat.reduceLeDiff, Nat.reduceLT, Nat.reduceBEq, Nat.reduceBNe, Int.reduceToNat, Int.reduceLE, Int.reduceLT, Int.reduceNeg, Int.reduceEq, Int.reduceBEq, Int.reduceBNe, Int.reduceAdd, Int.reduceSub, Int.reduceMul, reduceCtorEq, setE]; with_reducible exact rfl))
    | ((with_reducible first | apply wops_step | apply wops_do | apply wdr_step); focus (simp (disch := omega) only [go_sem, ↓reduceIte, Nat.reduceEqDiff, Nat.reduceAdd, Nat.reduceSub, Nat.reduceMul, Nat.reduceLeDiff, Nat.reduceLT, Nat.reduceBEq, Nat.reduceBNe, Int.reduceToNat, Int.reduceLE, Int.reduceLT, Int.reduceNeg, Int.reduceEq, Int.reduceBEq, Int.reduceBNe, Int.reduceAdd, Int.reduceSub, Int.reduceMul, reduceCtorEq, setE]; first | with_reducible exact rfl | (rw [if_pos (by first | omega | (constructor <;> omega) | (simp; done) | assumption)]; first | with_reducible exact rfl | (try simp (disch := omega) only [go_sem, ↓reduceIte, Nat.reduceEqDiff, Nat.reduceAdd, Nat.reduceSub, Nat.reduceMul, Nat.reduceLeDiff, Nat.reduceLT, Nat.reduceBEq, Nat.reduceBNe, Int.reduceToNat, Int.reduceLE, Int.reduceLT, Int.reduceNeg, Int.reduceEq, Int.reduceBEq, Int.reduceBNe, Int.reduceAdd, Int.reduceSub, Int.reduceMul, reduceCtorEq, setE]; with_reducible exact rfl))))
  refine wpc_while (ι := Nat) (fun i => i ≤ 4) (fun i => 4 - i) (fun i => [(3, .int .i64 ((cntF x (64 * i) : Nat) : Int)), (6, .agg (tab 4 fun i => .int .u64 ((x i : Nat) : Int))), (7, .int .i64 (i : Int))])
    (fun _ => H ++ [some (.row 4 [setE x])]) 0 (by omega) ?_ ?_ ?_ ?_ ?_
  · (repeat' (first | exact trivial | refine And.intro (And.intro ?_ ?_) ?_)) <;> first | exact rfl | (simp (disch := omega) only [go_sem, ↓reduceIte, Nat.reduceEqDiff, Nat.reduceAdd, Nat.reduceSub, Nat.reduceMul, Nat.reduceLeDiff, Nat.reduceLT, Nat.reduceBEq, Nat.reduceBNe, Int.reduceToNat, Int.reduceLE, Int.reduceLT, Int.reduceNeg, Int.reduceEq, Int.reduceBEq, Int.reduceBNe, Int.reduceAdd, Int.reduceSub, Int.reduceMul, reduceCtorEq, cnt_zero, EV.ok, okL_tab_int, okL_tab_bool, okL_app, okL, decide_eq_true_eq, EV.int.injEq]; done) | (simp (disch := omega) only [go_sem, ↓reduceIte, Nat.reduceEqDiff, Nat.reduceAdd, Nat.reduceSub, Nat.reduceMul, Nat.reduceLeDiff, Nat.reduceLT, Nat.reduceBEq, Nat.reduceBNe, Int.reduceToNat, Int.reduceLE, Int.reduceLT, Int.reduceNeg, Int.reduceEq, Int.reduceBEq, Int.reduceBNe, Int.reduceAdd, Int.reduceSub, Int.reduceMul, reduceCtorEq, cnt_zero, EV.ok, okL_tab_int, okL_tab_bool, okL_app, okL, decide_eq_true_eq, EV.int.injEq] <;> first | exact rfl | omega)
  · simp [setE]
  · exact fun i _ => okH_app hok (by simp [EB.ok, okG, okL, setE, EV.ok, okL_tab_int])
  · simp
  · intro i hi K Q' hK hQ'
    have hle : cntF x (64 * i) ≤ 64 * i := by
      have : ∀ m, cntF x m ≤ m := fun m => by
        unfold cntF
        exact Nat.le_trans (List.length_filter_le _ _) (List.length_take_le _ _)
      exact this _
    repeat' first
      | with_reducible first | refine wpc_seq ?_ | refine wpc_ops ?_ | refine wops_nil ?_ | refine then_normal ?_ | refine wpc_block ?_ | refine block_normal ?_ | refine wpc_skip ?_ | refine wpc_exit ?_ | refine then_exit ?_ | refine block_exit_same ?_ | refine wpc_ret ?_ | refine then_ret ?_ | refine block_ret ?_ | refine wpc_draw ?_ | refine wdr_nil ?_ | refine gate_t ?_ | refine gate_f ?_ | refine gate_tt ?_ | refine gate_ff ?_ | refine gate_tf ?_ | refine gate_ft ?_ | exact keep_same | exact keep_true
      | (with_reducible refine block_exit_other ?_ ?_; decide)
      | ((with_reducible refine keep_rfl ?_); exact rfl)
      | ((with_reducible first | apply wops_guard | apply wdr_guard | apply wpc_test); focus (simp (disch := omega) only [go_sem, ↓reduceIte, Nat.reduceEqDiff, Nat.reduceAdd, Nat.reduceSub, Nat.reduceMul, Nat.reduceLeDiff, Nat.reduceLT, Nat.reduceBEq, Nat.reduceBNe, Int.reduceToNat, Int.reduceLE, Int.reduceLT, Int.reduceNeg, Int.reduceEq, Int.reduceBEq, Int.reduceBNe, Int.reduceAdd, Int.reduceSub, Int.reduceMul, reduceCtorEq]; with_reducible first | exact lit_t | exact lit_f))
      | ((with_reducible first | apply wops_gone | apply wdr_gone); focus (simp (disch := omega) only [go_sem, ↓reduceIte, Nat.reduceEqDiff, Nat.reduceAdd, Nat.reduceSub, Nat.reduceMul, Nat.reduceLeDiff, Nat.reduceLT, Nat.reduceBEq, Nat.reduceBNe, Int.reduceToNat, Int.reduceLE, Int.reduceLT, Int.reduceNeg, Int.reduceEq, Int.reduceBEq, Int.reduceBNe, Int.reduceAdd, Int.reduceSub, Int.reduceMul, reduceCtorEq]; with_reducible exact rfl))
      | ((with_reducible first | apply wops_step | apply wops_do | apply wdr_step); focus (simp (disch := omega) only [go_sem, ↓reduceIte, Nat.reduceEqDiff, Nat.reduceAdd, Nat.reduceSub, Nat.reduceMul, Nat.reduceLeDiff, Nat.reduceLT, Nat.reduceBEq, Nat.reduceBNe, Int.reduceToNat, Int.reduceLE, Int.reduceLT, Int.reduceNeg, Int.reduceEq, Int.reduceBEq, Int.reduceBNe, Int.reduceAdd, Int.reduceSub, Int.reduceMul, reduceCtorEq]; first | with_reducible exact rfl | (rw [if_pos (by first | omega | (constructor <;> omega) | (simp; done) | assumption)]; first | with_reducible exact rfl | (try simp (disch := omega) only [go_sem, ↓reduceIte, Nat.reduceEqDiff, Nat.reduceAdd, Nat.reduceSub, Nat.reduceMul, Nat.reduceLeDiff, Nat.reduceLT, Nat.reduceBEq, Nat.reduceBNe, Int.reduceToNat, Int.reduceLE, Int.reduceLT, Int.reduceNeg, Int.reduceEq, Int.reduceBEq, Int.reduceBNe, Int.reduceAdd, Int.reduceSub, Int.reduceMul, reduceCtorEq]; with_reducible exact rfl))))
    refine wpc_cond (t := decide ((i : Int) < 4)) (by simp (disch := omega) only [go_sem, ↓reduceIte, Nat.reduceEqDiff, Nat.reduceAdd, Nat.reduceSub, Nat.reduceMul, Nat.reduceLeDiff, Nat.reduceLT, Nat.reduceBEq, Nat.reduceBNe, Int.reduceToNat, Int.reduceLE, Int.reduceLT, Int.reduceNeg, Int.reduceEq, Int.reduceBEq, Int.reduceBNe, Int.reduceAdd, Int.reduceSub, Int.reduceMul, reduceCtorEq]) (fun hc => ?_) (fun hc => ?_)
    · have hi4 : i < 4 := by have := of_decide_eq_true hc; omega
      have hp := pop_le (x i) 64
      have hcp := cnt_pop x i hi4 64 (by omega)
      repeat' first
        | with_reducible first | refine wpc_seq ?_ | refine wpc_ops ?_ | refine wops_nil ?_ | refine then_normal ?_ | refine wpc_block ?_ | refine block_normal ?_ | refine wpc_skip ?_ | refine wpc_exit ?_ | refine then_exit ?_ | refine block_exit_same ?_ | refine wpc_ret ?_ | refine then_ret ?_ | refine block_ret ?_ | refine wpc_draw ?_ | refine wdr_nil ?_ | refine gate_t ?_ | refine gate_f ?_ | refine gate_tt ?_ | refine gate_ff ?_ | refine gate_tf ?_ | refine gate_ft ?_ | exact keep_same | exact keep_true
        | (with_reducible refine block_exit_other ?_ ?_; decide)
        | ((with_reducible refine keep_rfl ?_); exact rfl)
        | ((with_reducible first | apply wops_guard | apply wdr_guard | apply wpc_test); focus (simp (disch := omega) only [go_sem, ↓reduceIte, Nat.reduceEqDiff, Nat.reduceAdd, Nat.reduceSub, Nat.reduceMul, Nat.reduceLeDiff, Nat.reduceLT, Nat.reduceBEq, Nat.reduceBNe, Int.reduceToNat, Int.reduceLE, Int.reduceLT, Int.reduceNeg, Int.reduceEq, Int.reduceBEq, Int.reduceBNe, Int.reduceAdd, Int.reduceSub, Int.reduceMul, reduceCtorEq]; with_reducible first | exact lit_t | exact lit_f))
        | ((with_reducible first | apply wops_gone | apply wdr_gone); focus (simp (disch := omega) only [go_sem, ↓reduceIte, Nat.reduceEqDiff, Nat.reduceAdd, Nat.reduceSub, Nat.reduceMul, Nat.reduceLeDiff, Nat.reduceLT, Nat.reduceBEq, Nat.reduceBNe, Int.reduceToNat, Int.reduceLE, Int.reduceLT, Int.reduceNeg, Int.reduceEq, Int.reduceBEq, Int.reduceBNe, Int.reduceAdd, Int.reduceSub, Int.reduceMul, reduceCtorEq]; with_reducible exact rfl))
        | ((with_reducible first | apply wops_step | apply wops_do | apply wdr_step); focus (simp (disch := omega) only [go_sem, ↓reduceIte, Nat.reduceEqDiff, Nat.reduceAdd, Nat.reduceSub, Nat.reduceMul, Nat.reduceLeDiff, Nat.reduceLT, Nat.reduceBEq, Nat.reduceBNe, Int.reduceToNat, Int.reduceLE, Int.reduceLT, Int.reduceNeg, Int.reduceEq, Int.reduceBEq, Int.reduceBNe, Int.reduceAdd, Int.reduceSub, Int.reduceMul, reduceCtorEq]; first | with_reducible exact rfl | (rw [if_pos (by first | omega | (constructor <;> omega) | (simp; done) | assumption)]; first | with_reducible exact rfl | (try simp (disch := omega) only [go_sem, ↓reduceIte, Nat.reduceEqDiff, Nat.reduceAdd, Nat.reduceSub, Nat.reduceMul, Nat.reduceLeDiff, Nat.reduceLT, Nat.reduceBEq, Nat.reduceBNe, Int.reduceToNat, Int.reduceLE, Int.reduceLT, Int.reduceNeg, Int.reduceEq, Int.reduceBEq, Int.reduceBNe, Int.reduceAdd, Int.reduceSub, Int.reduceMul, reduceCtorEq]; with_reducible exact rfl))))
      with_reducible apply wops_call1
      · first | exact rfl | (simp (disch := omega) only [go_sem, ↓reduceIte, Nat.reduceEqDiff, Nat.reduceAdd, Nat.reduceSub, Nat.reduceMul, Nat.reduceLeDiff, Nat.reduceLT, Nat.reduceBEq, Nat.reduceBNe, Int.reduceToNat, Int.reduceLE, Int.reduceLT, Int.reduceNeg, Int.reduceEq, Int.reduceBEq, Int.reduceBNe, Int.reduceAdd, Int.reduceSub, Int.reduceMul, reduceCtorEq]; exact rfl)
      · (simp (disch := omega) only [go_sem, ↓reduceIte, Nat.reduceEqDiff, Nat.reduceAdd, Nat.reduceSub, Nat.reduceMul, Nat.reduceLeDiff, Nat.reduceLT, Nat.reduceBEq, Nat.reduceBNe, Int.reduceToNat, Int.reduceLE, Int.reduceLT, Int.reduceNeg, Int.reduceEq, Int.reduceBEq, Int.reduceBNe, Int.reduceAdd, Int.reduceSub, Int.reduceMul, reduceCtorEq]; exact rfl)
      · exact ho (x i) _ (hx i)
      repeat' first
        | with_reducible first | refine wpc_seq ?_ | refine wpc_ops ?_ | refine wops_nil ?_ | refine then_normal ?_ | refine wpc_block ?_ | refine block_normal ?_ | refine wpc_skip ?_ | refine wpc_exit ?_ | refine then_exit ?_ | refine block_exit_same ?_ | refine wpc_ret ?_ | refine then_ret ?_ | refine block_ret ?_ | refine wpc_draw ?_ | refine wdr_nil ?_ | refine gate_t ?_ | refine gate_f ?_ | refine gate_tt ?_ | refine gate_ff ?_ | refine gate_tf ?_ | refine gate_ft ?_ | exact keep_same | exact keep_true
        | (with_reducible refine block_exit_other ?_ ?_; decide)
        | ((with_reducible refine keep_rfl ?_); exact rfl)
        | ((with_reducible first | apply wops_guard | apply wdr_guard | apply wpc_test); focus (simp (disch := omega) only [go_sem, ↓reduceIte, Nat.reduceEqDiff, Nat.reduceAdd, Nat.reduceSub, Nat.reduceMul, Nat.reduceLeDiff, Nat.reduceLT, Nat.reduceBEq, Nat.reduceBNe, Int.reduceToNat, Int.reduceLE, Int.reduceLT, Int.reduceNeg, Int.reduceEq, Int.reduceBEq, Int.reduceBNe, Int.reduceAdd, Int.reduceSub, Int.reduceMul, reduceCtorEq]; with_reducible first | exact lit_t | exact lit_f))
        | ((with_reducible first | apply wops_gone | apply wdr_gone); focus (simp (disch := omega) only [go_sem, ↓reduceIte, Nat.reduceEqDiff, Nat.reduceAdd, Nat.reduceSub, Nat.reduceMul, Nat.reduceLeDiff, Nat.reduceLT, Nat.reduceBEq, Nat.reduceBNe, Int.reduceToNat, Int.reduceLE, Int.reduceLT, Int.reduceNeg, Int.reduceEq, Int.reduceBEq, Int.reduceBNe, Int.reduceAdd, Int.reduceSub, Int.reduceMul, reduceCtorEq]; with_reducible exact rfl))
        | ((with_reducible first | apply wops_step | apply wops_do | apply wdr_step); focus (simp (disch := omega) only [go_sem, ↓reduceIte, Nat.reduceEqDiff, Nat.reduceAdd, Nat.reduceSub, Nat.reduceMul, Nat.reduceLeDiff, Nat.reduceLT, Nat.reduceBEq, Nat.reduceBNe, Int.reduceToNat, Int.reduceLE, Int.reduceLT, Int.reduceNeg, Int.reduceEq, Int.reduceBEq, Int.reduceBNe, Int.reduceAdd, Int.reduceSub, Int.reduceMul, reduceCtorEq]; first | with_reducible exact rfl | (rw [if_pos (by first | omega | (constructor <;> omega) | (simp; done) | assumption)]; first | with_reducible exact rfl | (try simp (disch := omega) only [go_sem, ↓reduceIte, Nat.reduceEqDiff, Nat.reduceAdd, Nat.reduceSub, Nat.reduceMul, Nat.reduceLeDiff, Nat.reduceLT, Nat.reduceBEq, Nat.reduceBNe, Int.reduceToNat, Int.reduceLE, Int.reduceLT, Int.reduceNeg, Int.reduceEq, Int.reduceBEq, Int.reduceBNe, Int.reduceAdd, Int.reduceSub, Int.reduceMul, reduceCtorEq]; with_reducible exact rfl))))
      refine hK (i + 1) _ _ [] (by omega) (by omega) (by simp) ?_
      rw [show 64 * (i + 1) = 64 * i + 64 by omega, hcp, Int.natCast_add]
      (repeat' (first | exact trivial | refine And.intro (And.intro ?_ ?_) ?_)) <;> first | exact rfl | (simp (disch := omega) only [go_sem, ↓reduceIte, Nat.reduceEqDiff, Nat.reduceAdd, Nat.reduceSub, Nat.reduceMul, Nat.reduceLeDiff, Nat.reduceLT, Nat.reduceBEq, Nat.reduceBNe, Int.reduceToNat, Int.reduceLE, Int.reduceLT, Int.reduceNeg, Int.reduceEq, Int.reduceBEq, Int.reduceBNe, Int.reduceAdd, Int.reduceSub, Int.reduceMul, reduceCtorEq, EV.ok, okL_tab_int, okL_tab_bool, okL_app, okL, decide_eq_true_eq, EV.int.injEq]; done) | (simp (disch := omega) only [go_sem, ↓reduceIte, Nat.reduceEqDiff, Nat.reduceAdd, Nat.reduceSub, Nat.reduceMul, Nat.reduceLeDiff, Nat.reduceLT, Nat.reduceBEq, Nat.reduceBNe, Int.reduceToNat, Int.reduceLE, Int.reduceLT, Int.reduceNeg, Int.reduceEq, Int.reduceBEq, Int.reduceBNe, Int.reduceAdd, Int.reduceSub, Int.reduceMul, reduceCtorEq, EV.ok, okL_tab_int, okL_tab_bool, okL_app, okL, decide_eq_true_eq, EV.int.injEq] <;> first | exact rfl | omega)
    · have hi4 : i = 4 := by have := of_decide_eq_false hc; omega
      subst hi4
      repeat' first
        | with_reducible first | refine wpc_seq ?_ | refine wpc_ops ?_ | refine wops_nil ?_ | refine then_normal ?_ | refine wpc_block ?_ | refine block_normal ?_ | refine wpc_skip ?_ | refine wpc_exit ?_ | refine then_exit ?_ | refine block_exit_same ?_ | refine wpc_ret ?_ | refine then_ret ?_ | refine block_ret ?_ | refine wpc_draw ?_ | refine wdr_nil ?_ | refine gate_t ?_ | refine gate_f ?_ | refine gate_tt ?_ | refine gate_ff ?_ | refine gate_tf ?_ | refine gate_ft ?_ | exact keep_same | exact keep_true
        | (with_reducible refine block_exit_other ?_ ?_; decide)
        | ((with_reducible refine keep_rfl ?_); exact rfl)
        | ((with_reducible first | apply wops_guard | apply wdr_guard | apply wpc_test); focus (simp (disch := omega) only [go_sem, ↓reduceIte, Nat.reduceEqDiff, Nat.reduceAdd, Nat.reduceSub, Nat.reduceMul, Nat.reduceLeDiff, Nat.reduceLT, Nat.reduceBEq, Nat.reduceBNe, Int.reduceToNat, Int.reduceLE, Int.reduceLT, Int.reduceNeg, Int.reduceEq, Int.reduceBEq, Int.reduceBNe, Int.reduceAdd, Int.reduceSub, Int.reduceMul, reduceCtorEq]; with_reducible first | exact lit_t | exact lit_f))
        | ((with_reducible first | apply wops_gone | apply wdr_gone); focus (simp (disch := omega) only [go_sem, ↓reduceIte, Nat.reduceEqDiff, Nat.reduceAdd, Nat.reduceSub, Nat.reduceMul, Nat.reduceLeDiff, Nat.reduceLT, Nat.reduceBEq, Nat.reduceBNe, Int.reduceToNat, Int.reduceLE, Int.reduceLT, Int.reduceNeg, Int.reduceEq, Int.reduceBEq, Int.reduceBNe, Int.reduceAdd, Int.reduceSub, Int.reduceMul, reduceCtorEq]; with_reducible exact rfl))
        | ((with_reducible first | apply wops_step | apply wops_do | apply wdr_step); focus (simp (disch := omega) only [go_sem, ↓reduceIte, Nat.reduceEqDiff, Nat.reduceAdd, Nat.reduceSub, Nat.reduceMul, Nat.reduceLeDiff, Nat.reduceLT, Nat.reduceBEq, Nat.reduceBNe, Int.reduceToNat, Int.reduceLE, Int.reduceLT, Int.reduceNeg, Int.reduceEq, Int.reduceBEq, Int.reduceBNe, Int.reduceAdd, Int.reduceSub, Int.reduceMul, reduceCtorEq]; first | with_reducible exact rfl | (rw [if_pos (by first | omega | (constructor <;> omega) | (simp; done) | assumption)]; first | with_reducible exact rfl | (try simp (disch := omega) only [go_sem, ↓reduceIte, Nat.reduceEqDiff, Nat.reduceAdd, Nat.reduceSub, Nat.reduceMul, Nat.reduceLeDiff, Nat.reduceLT, Nat.reduceBEq, Nat.reduceBNe, Int.reduceToNat, Int.reduceLE, Int.reduceLT, Int.reduceNeg, Int.reduceEq, Int.reduceBEq, Int.reduceBNe, Int.reduceAdd, Int.reduceSub, Int.reduceMul, reduceCtorEq]; with_reducible exact rfl))))
      refine hQ' _ _ _ ?_
      repeat' first
        | with_reducible first | refine wpc_seq ?_ | refine wpc_ops ?_ | refine wops_nil ?_ | refine then_normal ?_ | refine wpc_block ?_ | refine block_normal ?_ | refine wpc_skip ?_ | refine wpc_exit ?_ | refine then_exit ?_ | refine block_exit_same ?_ | refine wpc_ret ?_ | refine then_ret ?_ | refine block_ret ?_ | refine wpc_draw ?_ | refine wdr_nil ?_ | refine gate_t ?_ | refine gate_f ?_ | refine gate_tt ?_ | refine gate_ff ?_ | refine gate_tf ?_ | refine gate_ft ?_ | exact keep_same | exact keep_true
        | (with_reducible refine block_exit_other ?_ ?_; decide)
        | ((with_reducible refine keep_rfl ?_); exact rfl)
        | ((with_reducible first | apply wops_guard | apply wdr_guard | apply wpc_test); focus (simp (disch := omega) only [go_sem, ↓reduceIte, Nat.reduceEqDiff, Nat.reduceAdd, Nat.reduceSub, Nat.reduceMul, Nat.reduceLeDiff, Nat.reduceLT, Nat.reduceBEq, Nat.reduceBNe, Int.reduceToNat, Int.reduceLE, Int.reduceLT, Int.reduceNeg, Int.reduceEq, Int.reduceBEq, Int.reduceBNe, Int.reduceAdd, Int.reduceSub, Int.reduceMul, reduceCtorEq]; with_reducible first | exact lit_t | exact lit_f))
        | ((with_reducible first | apply wops_gone | apply wdr_gone); focus (simp (disch := omega) only [go_sem, ↓reduceIte, Nat.reduceEqDiff, Nat.reduceAdd, Nat.reduceSub, Nat.reduceMul, Nat.reduceLeDiff, Nat.reduceLT, Nat.reduceBEq, Nat.reduceBNe, Int.reduceToNat, Int.reduceLE, Int.reduceLT, Int.reduceNeg, Int.reduceEq, Int.reduceBEq, Int.reduceBNe, Int.reduceAdd, Int.reduceSub, Int.reduceMul, reduceCtorEq]; with_reducible exact rfl))
        | ((with_reducible first | apply wops_step | apply wops_do | apply wdr_step); focus (simp (disch := omega) only [go_sem, ↓reduceIte, Nat.reduceEqDiff, Nat.reduceAdd, Nat.reduceSub, Nat.reduceMul, Nat.reduceLeDiff, Nat.reduceLT, Nat.reduceBEq, Nat.reduceBNe, Int.reduceToNat, Int.reduceLE, Int.reduceLT, Int.reduceNeg, Int.reduceEq, Int.reduceBEq, Int.reduceBNe, Int.reduceAdd, Int.reduceSub, Int.reduceMul, reduceCtorEq]; first | with_reducible exact rfl | (rw [if_pos (by first | omega | (constructor <;> omega) | (simp; done) | assumption)]; first | with_reducible exact rfl | (try simp (disch := omega) only [go_sem, ↓reduceIte, Nat.reduceEqDiff, Nat.reduceAdd, Nat.reduceSub, Nat.reduceMul, Nat.reduceLeDiff, Nat.reduceLT, Nat.reduceBEq, Nat.reduceBNe, Int.reduceToNat, Int.reduceLE, Int.reduceLT, Int.reduceNeg, Int.reduceEq, Int.reduceBEq, Int.reduceBNe, Int.reduceAdd, Int.reduceSub, Int.reduceMul, reduceCtorEq]; with_reducible exact rfl))))
      have e := cnt_all x
      refine end_drop hok (r := .int .i64 ((bytesF x).length : Nat)) ?_ ?_ ⟨rfl, rfl⟩
      · first | (simp (disch := omega) only [go_sem, ↓reduceIte, Nat.reduceEqDiff, Nat.reduceAdd, Nat.reduceSub, Nat.reduceMul, Nat.reduceLeDiff, Nat.reduceLT, Nat.reduceBEq, Nat.reduceBNe, Int.reduceToNat, Int.reduceLE, Int.reduceLT, Int.reduceNeg, Int.reduceEq, Int.reduceBEq, Int.reduceBNe, Int.reduceAdd, Int.reduceSub, Int.reduceMul, reduceCtorEq, evResults, evResL, evRes, octs_Count_r, e]; done) | (simp (disch := omega) only [go_sem, ↓reduceIte, Nat.reduceEqDiff, Nat.reduceAdd, Nat.reduceSub, Nat.reduceMul, Nat.reduceLeDiff, Nat.reduceLT, Nat.reduceBEq, Nat.reduceBNe, Int.reduceToNat, Int.reduceLE, Int.reduceLT, Int.reduceNeg, Int.reduceEq, Int.reduceBEq, Int.reduceBNe, Int.reduceAdd, Int.reduceSub, Int.reduceMul, reduceCtorEq, evResults, evResL, evRes, octs_Count_r, e]; with_reducible exact rfl) | exact rfl
      · first | (simp [EV.ok, okL, okL_tab_int, okL_tab_bool, okL_app, e]; done)

end
end Abs
