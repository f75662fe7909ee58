/- A part. -/
import Derived.Test.YtddgppmcbjjliaaGreatDoorAbsRead
import Derived.Test.YtddgppmcbjjliaaGreatDoorClassA
set_option linter.all false
namespace Abs
open Go Gn
set_option maxRecDepth 20000
def tzN (w : Nat) : Nat := ((List.range 64).find? fun j => w.testBit j).getD 64
theorem cp1 {w : Nat} (h : w ≠ 0) (hw : w < 18446744073709551616) : tzN w < 64 ∧ w.testBit (tzN w) = true ∧ ∀ j, j < tzN w → w.testBit j = false := by
 unfold tzN
 cases hf : (List.range 64).find? fun j => w.testBit j with
 | none =>
  exfalso
  apply h
  apply Nat.eq_of_testBit_eq
  intro j
  rw [Nat.zero_testBit]
  by_cases hj : j < 64
  ·have := List.find?_eq_none.1 hf j (by simpa using hj)
   simpa using this
  ·exact Nat.testBit_lt_two_pow (Nat.lt_of_lt_of_le hw (Nat.pow_le_pow_right (n := 2) (by decide) (show 64 ≤ j by omega)))
 | some t =>
  simp only [Option.getD_some]
  have h1 := List.find?_some hf
  have h2 := List.mem_of_find?_eq_some hf
  simp only [List.mem_range] at h2
  refine ⟨h2, h1, fun j hj => ?_⟩
  have h3 := List.find?_range_eq_some.1 hf
  have := h3.2.2 j hj
  simpa using this
theorem dk3 {w t j : Nat} (h : w.testBit t = true) (hl : ∀ i, i < t → w.testBit i = false) : (w - 1).testBit j = if j < t then true else if j = t then false else w.testBit j := by
 have hm : w % 2 ^ t = 0 := by
  apply Nat.eq_of_testBit_eq
  intro i
  rw [Nat.testBit_mod_two_pow, Nat.zero_testBit]
  by_cases hi : i < t
  ·simp [hl i hi]
  ·simp [hi]
 have hd : (w / 2 ^ t) % 2 = 1 := by
  have := h
  rw [Nat.testBit_eq_decide_div_mod_eq] at this
  simpa using this
 have hpos : 0 < 2 ^ t := Nat.two_pow_pos t
 obtain ⟨q, hq⟩ : ∃ q, w / 2 ^ t = 2 * q + 1 := ⟨w / 2 ^ t / 2, by omega⟩
 have hw : w = 2 ^ t * (2 * q + 1) := by
  have := Nat.div_add_mod w (2 ^ t)
  rw [hm, hq] at this
  omega
 have hp : w - 1 = 2 ^ t * (2 * q) + (2 ^ t - 1) := by
  have e : 2 ^ t * (2 * q + 1) = 2 ^ t * (2 * q) + 2 ^ t := by rw [Nat.mul_add, Nat.mul_one]
  omega
 rw [hp, Nat.testBit_two_pow_mul_add _ (by omega)]
 by_cases hj : j < t
 ·rw [if_pos hj, if_pos hj, Nat.testBit_two_pow_sub_one]
  simpa using hj
 ·rw [if_neg hj, if_neg hj, hw]
  have e : (2 ^ t * (2 * q + 1)).testBit j = (2 * q + 1).testBit (j - t) := by
   have := Nat.testBit_two_pow_mul_add (i := t) (2 * q + 1) (b := 0) hpos j
   rw [Nat.add_zero, if_neg hj] at this
   exact this
  rw [e]
  by_cases hjt : j = t
  ·subst hjt
   simp
  ·rw [if_neg hjt]
   obtain ⟨d, hd⟩ : ∃ d, j - t = d + 1 := ⟨j - t - 1, by omega⟩
   rw [hd, Nat.testBit_succ, Nat.testBit_succ]
   congr 1
   omega
theorem ff4 {w : Nat} (h : w ≠ 0) (hw : w < 18446744073709551616) : w &&& (18446744073709551616 - w) = 2 ^ tzN w := by
 obtain ⟨h1, h2, h3⟩ := cp1 h hw
 apply Nat.eq_of_testBit_eq
 intro j
 rw [Nat.testBit_and, Nat.testBit_two_pow]
 have e : (18446744073709551616 - w) = 2 ^ 64 - ((w - 1) + 1) := by omega
 rw [e, Nat.testBit_two_pow_sub_succ (by omega), dk3 h2 h3]
 by_cases hj : j < tzN w
 ·rw [h3 j hj]
  have : ¬ tzN w = j := by omega
  simp [this]
 ·by_cases hjt : j = tzN w
  ·subst hjt; simp [h1, h2]
  ·rw [if_neg hj, if_neg hjt]
   have : ¬ tzN w = j := by omega
   cases w.testBit j <;> simp [this]
def brL : List Nat := [0, 1, 56, 2, 57, 49, 28, 3, 61, 58, 42, 50, 38, 29, 17, 4, 62, 47, 59, 36, 45, 43, 51, 22, 53, 39, 33, 30, 24, 18, 12, 5, 63, 55, 48, 27, 60, 41, 37, 16, 46, 35, 44, 21, 52, 32, 23, 11, 54, 26, 40, 15, 34, 20, 31, 10, 25, 14, 19, 9, 13, 8, 7, 6]
def brT (i : Nat) : Nat := brL.getD i 0
theorem fk5 : ∀ t, t < 64 → 2 ^ t * 285870213051353865 % 18446744073709551616 / 2 ^ 58 < 64 ∧ brT (2 ^ t * 285870213051353865 % 18446744073709551616 / 2 ^ 58) = t := by decide +kernel
theorem ct2 (a : Nat) : IntKind.u64.wrap (a : Int) = ((a % 18446744073709551616 : Nat) : Int) := by
 have h : IntKind.u64.wrap (a : Int) = (a : Int) % 18446744073709551616 := by
  simp [IntKind.wrap, IntKind.signed, IntKind.bits]
 rw [h]
 omega
theorem en6 {w : Nat} (h : w ≠ 0) (hw : w < 18446744073709551616) : IntKind.u64.wrap (0 - (w : Int)) = ((18446744073709551616 - w : Nat) : Int) := by
 have h1 : IntKind.u64.wrap (0 - (w : Int)) = (0 - (w : Int)) % 18446744073709551616 := by
  simp [IntKind.wrap, IntKind.signed, IntKind.bits]
 rw [h1]
 omega
section
variable {P : Program} {γ : Nat → EV}
def TzOk (P : Program) (γ : Nat → EV) (f : FuncId) : Prop :=
 ∀ (w : Nat) (H : Heap), w ≠ 0 → w < 18446744073709551616 → CallsA P γ f [.int .u64 w] H fun er H' => er = .ret (.int .i64 (tzN w)) ∧ H' = H
theorem dl9 (a m : Nat) : ((a : Nat) : Int).fdiv (2 ^ m) = ((a / 2 ^ m : Nat) : Int) := by
 have : ((2 : Int) ^ m) = ((2 ^ m : Nat) : Int) := by simp
 rw [this, Int.fdiv_eq_ediv_of_nonneg _ (Int.natCast_nonneg _), Int.natCast_ediv]
set_option maxHeartbeats 4000000 in
theorem ez4 {f g : FuncId} (hb : Body P f (af2 g) ad4 14) (hg : γ g = .iptr (tab 64 fun i => .int .u8 ((brT i : Nat) : Int)) 0) (w t m p q : Nat) (H : Heap) (t1 : t < 64) (b1 : q < 64) (b2 : brT q = t)
  (e0 : (((w : Nat) : Int) == 0) = false) (e1 : IntKind.u64.wrap (0 - (w : Int)) = ((m : Nat) : Int)) (e2 : br4 .and .u64 (w : Int) ((m : Nat) : Int) = ((2 ^ t : Nat) : Int))
  (e3 : IntKind.u64.wrap (((2 ^ t : Nat) : Int) * 285870213051353865) = ((p : Nat) : Int)) (e4 : ((p : Nat) : Int).fdiv (2 ^ (min 58 IntKind.u64.bits)) = ((q : Nat) : Int)) (e4' : ((p : Nat) : Int).fdiv (2 ^ (min 58 64)) = ((q : Nat) : Int)) :
  CallsA P γ f [.int .u64 w] H fun er H' => er = .ret (.int .i64 (t : Int)) ∧ H' = H := by
 refine hb.calls (by simp) fun hok => ?_
 unfold af2
 repeat' first | (with_reducible first | apply qa | apply qb | apply qc | apply qd | apply qe | apply qf | apply qg | apply qh | apply qi | apply qj | apply qk | apply ql | apply qm | apply qn | apply qo | apply qp | apply qq | apply qr | apply qs | apply qt | apply qu | exact aa8 | exact aa7) | (with_reducible refine aa0 ?_ ?_; decide) | ((with_reducible refine ab0 ?_); exact rfl) | ((with_reducible first | apply qv | apply qw | apply qx); focus (simp (disch := omega) only [go_sem, simprocAttr, e0, e1, e2, e3, e4, e4', hg, b2]; with_reducible first | exact ac1 | exact ac2)) | ((with_reducible first | apply qy | apply qz); focus (simp (disch := omega) only [go_sem, simprocAttr, e0, e1, e2, e3, e4, e4', hg, b2]; done)) | ((with_reducible first | apply q26 | apply q27 | apply q28); focus (simp (disch := omega) only [go_sem, simprocAttr, e0, e1, e2, e3, e4, e4', hg, b2]; first | with_reducible exact rfl | (rw [if_pos (by first | omega | (constructor <;> omega) | (simp; done) | assumption)]; first | with_reducible exact rfl | (try simp (disch := omega) only [go_sem, simprocAttr, e0, e1, e2, e3, e4, e4', hg, b2]; with_reducible exact rfl))))
 refine bw6 hok (r := .int .i64 (t : Int)) ?_ ?_ ⟨rfl, rfl⟩
 ·first | (simp (disch := omega) only [go_sem, simprocAttr, ab1, ae1, aj2, ad4, b2]; done) | (simp (disch := omega) only [go_sem, simprocAttr, ab1, ae1, aj2, ad4, b2]; with_reducible exact rfl) | exact rfl
 ·first | (simp [EV.ok, okL, aa4, aa5, ab2, b2]; done)
theorem tz_ok {f g : FuncId} (hb : Body P f (af2 g) ad4 14) (hg : γ g = .iptr (tab 64 fun i => .int .u8 ((brT i : Nat) : Int)) 0) : TzOk P γ f := by
 intro w H h0 hw
 obtain ⟨t1, t2, t3⟩ := cp1 h0 hw
 obtain ⟨b1, b2⟩ := fk5 (tzN w) t1
 refine ez4 hb hg w (tzN w) (18446744073709551616 - w) (2 ^ tzN w * 285870213051353865 % 18446744073709551616) _ H t1 b1 b2 ?_ (en6 h0 hw) ?_ ?_ ?_ ?_
 ·rw [beq_eq_false_iff_ne]; omega
 ·rw [cs3 hw (by omega), ff4 h0 hw]
 ·have h := ct2 (2 ^ tzN w * 285870213051353865)
  rw [Int.natCast_mul] at h
  exact h
 ·rw [show min 58 IntKind.u64.bits = 58 from rfl, dl9]
 ·rw [show min 58 64 = 58 from rfl, dl9]
end
open Gn
set_option maxRecDepth 20000
def encF (b : Fin 256) : EV := .int .u8 ((b.val : Nat) : Int)
def av5 (x : Nat → Nat) : List (Fin 256) := (List.finRange 256).filter fun b => ag6 x b.val
def cntF (x : Nat → Nat) (m : Nat) : Nat := (((List.finRange 256).take m).filter fun b => ag6 x b.val).length
theorem eg8 {m : Nat} (h : m < 256) : (List.finRange 256)[m]? = some ⟨m, h⟩ := by
 rw [List.getElem?_eq_getElem (by simpa using h)]
 simp
attribute [local irreducible] List.finRange
theorem ev8 (x : Nat → Nat) : cntF x 0 = 0 := by simp [cntF]
theorem fe5 (x : Nat → Nat) : cntF x 256 = (av5 x).length := by
 unfold cntF av5
 rw [List.take_of_length_le (by simp)]
theorem dn2 (x : Nat → Nat) {m : Nat} (h : m < 256) : cntF x (m + 1) = cntF x m + (if ag6 x m then 1 else 0) := by
 unfold cntF
 rw [List.take_add_one, eg8 h, List.filter_append, List.length_append]
 congr 1
 simp only [Option.toList_some, List.filter_cons, List.filter_nil]
 split <;> rfl
theorem cr8 (x : Nat → Nat) {m : Nat} : ∀ (d : Nat), m + d ≤ 256 → (∀ j, m ≤ j → j < m + d → ag6 x j = false) → cntF x (m + d) = cntF x m
 | 0, _, _ => rfl
 | d + 1, h, hn => by
  rw [← Nat.add_assoc, dn2 x (by omega), cr8 x d (by omega) (fun j h1 h2 => hn j h1 (by omega)), hn (m + d) (by omega) (by omega)]
  rfl
theorem el5 (x : Nat → Nat) {m : Nat} (h : m < 256) (hs : ag6 x m = true) : (av5 x)[cntF x m]? = some ⟨m, h⟩ := by
 have e : List.finRange 256 = (List.finRange 256).take m ++ ⟨m, h⟩ :: (List.finRange 256).drop (m + 1) := by
  have hl : m < (List.finRange 256).length := by simpa using h
  have h2 := eg8 h
  rw [List.getElem?_eq_getElem hl] at h2
  have h3 : (List.finRange 256)[m] = ⟨m, h⟩ := by simpa using h2
  rw [← h3, ← List.drop_eq_getElem_cons hl, List.take_append_drop]
 unfold av5
 rw [e, List.filter_append, List.filter_cons, if_pos (by simpa using hs)]
 unfold cntF
 rw [List.getElem?_append_right (Nat.le_refl _), Nat.sub_self]
 rfl
def hiN (w q : Nat) : Nat := (w >>> q) <<< q
theorem bw1 (w q j : Nat) : (hiN w q).testBit j = (decide (q ≤ j) && w.testBit j) := by
 unfold hiN
 rw [Nat.testBit_shiftLeft, Nat.testBit_shiftRight]
 by_cases h : q ≤ j
 ·rw [show q + (j - q) = j by omega]
 ·have : ¬ j ≥ q := h
  simp [h]
theorem fj3 {w : Nat} (q : Nat) (hw : w < 18446744073709551616) : hiN w q < 18446744073709551616 := by
 refine Nat.lt_pow_two_of_testBit (n := 64) _ fun j hj => ?_
 rw [bw1]
 rw [Nat.testBit_lt_two_pow (Nat.lt_of_lt_of_le hw (Nat.pow_le_pow_right (n := 2) (by decide) hj))]
 simp
theorem ef5 (w : Nat) : hiN w 0 = w := by simp [hiN]
theorem fc9 {w q : Nat} (h : hiN w q ≠ 0) (hw : w < 18446744073709551616) : hiN w q &&& (hiN w q - 1) = hiN w (tzN (hiN w q) + 1) := by
 obtain ⟨h1, h2, h3⟩ := cp1 h (fj3 q hw)
 have h4 : q ≤ tzN (hiN w q) := by rw [bw1] at h2; simp at h2; exact h2.1
 generalize tzN (hiN w q) = t at *
 apply Nat.eq_of_testBit_eq
 intro j
 rw [Nat.testBit_and, dk3 h2 h3]
 by_cases hj : j < t
 ·rw [h3 j hj, bw1]
  have : ¬ t + 1 ≤ j := by omega
  simp [this]
 ·rw [if_neg hj]
  by_cases hjt : j = t
  ·subst hjt
   rw [if_pos rfl, bw1 w (j + 1)]
   have : ¬ j + 1 ≤ j := by omega
   simp [this]
  ·rw [if_neg hjt, bw1, bw1]
   have e1 : q ≤ j := by omega
   have e2 : t + 1 ≤ j := by omega
   simp [e1, e2]
theorem cr2 (x : Nat → Nat) {i t : Nat} (h : t < 64) : ag6 x (64 * i + t) = (x i).testBit t := by
 unfold ag6
 rw [show (64 * i + t) / 64 = i by omega, show (64 * i + t) % 64 = t by omega]
theorem aq0 {k : IntKind} {n : Int} : flat (.int k n) = true := rfl
theorem al4 {b : Bool} : flat (.bool b) = true := rfl
theorem ah9 {l : Nat} : flat (.func (.yield l) [] []) = true := rfl
theorem ap9 {w : Nat → Nat} : flat (.agg (tab 4 fun i => .int .u64 ((w i : Nat) : Int))) = true := rfl
attribute [local irreducible] av5 cntF tzN hiN
section
variable {P : Program} {γ : Nat → EV}
set_option maxHeartbeats 8000000 in
theorem ew3 {g ft : FuncId} (hb : Body P g (bc1 ft) az9 26) (ht : TzOk P γ ft) (x : Nat → Nat) (hx : av8 x) : en0 P γ g [.iptr (tab 4 fun i => .int .u64 ((x i : Nat) : Int)) 0] encF (av5 x) := by
 refine Body.iter hb (by simp) (fun b => rfl) fun l => ?_
 unfold bc1
 repeat' first | (with_reducible first | refine au2 ?_ | refine au4 ?_ | refine ak0 ?_ | refine ae7 ?_ | refine aj9 ?_ | refine ae0 ?_ | refine ap4 ?_ | refine ap5 ?_ | refine ah7 ?_ | refine ac6 ?_ | refine au3 ?_ | refine ak1 ?_ | refine ai0 ?_ | apply qp | apply qq) | (with_reducible refine ac3 ?_ ?_; decide) | ((with_reducible apply ap3); focus (simp (disch := omega) only [go_sem, simprocAttr]; with_reducible first | exact ac1 | exact ac2)) | ((with_reducible apply ah6); focus (simp (disch := omega) only [go_sem, simprocAttr]; first | with_reducible exact rfl | (rw [if_pos (by first | omega | (constructor <;> omega) | (simp; done) | assumption)]; first | with_reducible exact rfl | (try simp (disch := omega) only [go_sem, simprocAttr]; with_reducible exact rfl)))) | with_reducible exact aq0 | with_reducible exact al4 | exact ap9 | with_reducible exact ah9
 refine ct4 (ι := Nat) (fun i => i ≤ 4) (fun i => 4 - i) (fun i => [(0, .func (.yield l) [] []), (5, .agg (tab 4 fun i => .int .u64 ((x i : Nat) : Int))), (6, .int .i64 (i : Int))]) (fun i => cntF x (64 * i)) 0 (by omega) ?_ ?_ ?_
 ·(repeat' (first | exact trivial | refine And.intro (And.intro ?_ ?_) ?_)) <;> first | exact rfl | (simp (disch := omega) only [go_sem, simprocAttr, EV.ok, aa4, aa5, ab2, okL, decide_eq_true_eq, EV.int.injEq]; done) | (simp (disch := omega) only [go_sem, simprocAttr, EV.ok, aa4, aa5, ab2, okL, decide_eq_true_eq, EV.int.injEq] <;> first | exact rfl | omega)
 ·exact (ev8 x).symm
 ·intro i hi K Q' hK hQ'
  repeat' first | (with_reducible first | refine au2 ?_ | refine au4 ?_ | refine ak0 ?_ | refine ae7 ?_ | refine aj9 ?_ | refine ae0 ?_ | refine ap4 ?_ | refine ap5 ?_ | refine ah7 ?_ | refine ac6 ?_ | refine au3 ?_ | refine ak1 ?_ | refine ai0 ?_ | apply qp | apply qq) | (with_reducible refine ac3 ?_ ?_; decide) | ((with_reducible apply ap3); focus (simp (disch := omega) only [go_sem, simprocAttr]; with_reducible first | exact ac1 | exact ac2)) | ((with_reducible apply ah6); focus (simp (disch := omega) only [go_sem, simprocAttr]; first | with_reducible exact rfl | (rw [if_pos (by first | omega | (constructor <;> omega) | (simp; done) | assumption)]; first | with_reducible exact rfl | (try simp (disch := omega) only [go_sem, simprocAttr]; with_reducible exact rfl)))) | with_reducible exact aq0 | with_reducible exact al4 | exact ap9 | with_reducible exact ah9
  refine eo2 (t := decide ((i : Int) < 4)) (by simp (disch := omega) only [go_sem, simprocAttr]) (fun hc => ?_) (fun hc => ?_)
  ·have hi4 : i < 4 := by have := of_decide_eq_true hc; omega
   have hxi := hx i
   repeat' first | (with_reducible first | refine au2 ?_ | refine au4 ?_ | refine ak0 ?_ | refine ae7 ?_ | refine aj9 ?_ | refine ae0 ?_ | refine ap4 ?_ | refine ap5 ?_ | refine ah7 ?_ | refine ac6 ?_ | refine au3 ?_ | refine ak1 ?_ | refine ai0 ?_ | apply qp | apply qq) | (with_reducible refine ac3 ?_ ?_; decide) | ((with_reducible apply ap3); focus (simp (disch := omega) only [go_sem, simprocAttr]; with_reducible first | exact ac1 | exact ac2)) | ((with_reducible apply ah6); focus (simp (disch := omega) only [go_sem, simprocAttr]; first | with_reducible exact rfl | (rw [if_pos (by first | omega | (constructor <;> omega) | (simp; done) | assumption)]; first | with_reducible exact rfl | (try simp (disch := omega) only [go_sem, simprocAttr]; with_reducible exact rfl)))) | with_reducible exact aq0 | with_reducible exact al4 | exact ap9 | with_reducible exact ah9
   refine ct4 (ι := Nat) (fun q => q ≤ 64) (fun q => 64 - q) (fun q => [(0, .func (.yield l) [] []), (3, .int .i64 (i : Int)), (4, .int .u64 ((hiN (x i) q : Nat) : Int)), (5, .agg (tab 4 fun i => .int .u64 ((x i : Nat) : Int))), (6, .int .i64 (i : Int))])
    (fun q => cntF x (64 * i + q)) 0 (by omega) ?_ ?_ ?_
   ·(repeat' (first | exact trivial | refine And.intro (And.intro ?_ ?_) ?_)) <;> first | exact rfl | (simp (disch := omega) only [go_sem, simprocAttr, ef5, EV.ok, aa4, aa5, ab2, okL, decide_eq_true_eq, EV.int.injEq]; done) | (simp (disch := omega) only [go_sem, simprocAttr, ef5, EV.ok, aa4, aa5, ab2, okL, decide_eq_true_eq, EV.int.injEq] <;> first | exact rfl | omega)
   ·rfl
   ·intro q hq K2 Q2 hK2 hQ2
    repeat' first | (with_reducible first | refine au2 ?_ | refine au4 ?_ | refine ak0 ?_ | refine ae7 ?_ | refine aj9 ?_ | refine ae0 ?_ | refine ap4 ?_ | refine ap5 ?_ | refine ah7 ?_ | refine ac6 ?_ | refine au3 ?_ | refine ak1 ?_ | refine ai0 ?_ | apply qp | apply qq) | (with_reducible refine ac3 ?_ ?_; decide) | ((with_reducible apply ap3); focus (simp (disch := omega) only [go_sem, simprocAttr]; with_reducible first | exact ac1 | exact ac2)) | ((with_reducible apply ah6); focus (simp (disch := omega) only [go_sem, simprocAttr]; first | with_reducible exact rfl | (rw [if_pos (by first | omega | (constructor <;> omega) | (simp; done) | assumption)]; first | with_reducible exact rfl | (try simp (disch := omega) only [go_sem, simprocAttr]; with_reducible exact rfl)))) | with_reducible exact aq0 | with_reducible exact al4 | exact ap9 | with_reducible exact ah9
    by_cases hz : hiN (x i) q = 0
    ·repeat' first | (with_reducible first | refine au2 ?_ | refine au4 ?_ | refine ak0 ?_ | refine ae7 ?_ | refine aj9 ?_ | refine ae0 ?_ | refine ap4 ?_ | refine ap5 ?_ | refine ah7 ?_ | refine ac6 ?_ | refine au3 ?_ | refine ak1 ?_ | refine ai0 ?_ | apply qp | apply qq) | (with_reducible refine ac3 ?_ ?_; decide) | ((with_reducible apply ap3); focus (simp (disch := omega) only [go_sem, simprocAttr, hz, bne_self_eq_false]; with_reducible first | exact ac1 | exact ac2)) | ((with_reducible apply ah6); focus (simp (disch := omega) only [go_sem, simprocAttr, hz, bne_self_eq_false]; first | with_reducible exact rfl | (rw [if_pos (by first | omega | (constructor <;> omega) | (simp; done) | assumption)]; first | with_reducible exact rfl | (try simp (disch := omega) only [go_sem, simprocAttr, hz, bne_self_eq_false]; with_reducible exact rfl)))) | with_reducible exact aq0 | with_reducible exact al4 | exact ap9 | with_reducible exact ah9
     refine hQ2 _ _ _ _ ?_
     repeat' first | (with_reducible first | refine au2 ?_ | refine au4 ?_ | refine ak0 ?_ | refine ae7 ?_ | refine aj9 ?_ | refine ae0 ?_ | refine ap4 ?_ | refine ap5 ?_ | refine ah7 ?_ | refine ac6 ?_ | refine au3 ?_ | refine ak1 ?_ | refine ai0 ?_ | apply qp | apply qq) | (with_reducible refine ac3 ?_ ?_; decide) | ((with_reducible apply ap3); focus (simp (disch := omega) only [go_sem, simprocAttr]; with_reducible first | exact ac1 | exact ac2)) | ((with_reducible apply ah6); focus (simp (disch := omega) only [go_sem, simprocAttr]; first | with_reducible exact rfl | (rw [if_pos (by first | omega | (constructor <;> omega) | (simp; done) | assumption)]; first | with_reducible exact rfl | (try simp (disch := omega) only [go_sem, simprocAttr]; with_reducible exact rfl)))) | with_reducible exact aq0 | with_reducible exact al4 | exact ap9 | with_reducible exact ah9
     refine hK (i + 1) _ _ (by omega) (by omega) ?_ ?_
     ·have h1 := cr8 x (m := 64 * i + q) (64 - q) (by omega) fun j h1 h2 => by
       have := bw1 (x i) q (j - 64 * i)
       rw [hz, Nat.zero_testBit] at this
       have h3 : q ≤ j - 64 * i := by omega
       rw [decide_eq_true h3, Bool.true_and] at this
       have h4 := cr2 x (i := i) (t := j - 64 * i) (by omega)
       rw [show 64 * i + (j - 64 * i) = j by omega] at h4
       rw [h4]; exact this.symm
      rw [← h1]
      congr 1
      omega
     ·(repeat' (first | exact trivial | refine And.intro (And.intro ?_ ?_) ?_)) <;> first | exact rfl | (simp (disch := omega) only [go_sem, simprocAttr, EV.ok, aa4, aa5, ab2, okL, decide_eq_true_eq, EV.int.injEq]; done) | (simp (disch := omega) only [go_sem, simprocAttr, EV.ok, aa4, aa5, ab2, okL, decide_eq_true_eq, EV.int.injEq] <;> first | exact rfl | omega)
    ·have hlt := fj3 q hxi
     have hne : (((hiN (x i) q : Nat) : Int) != 0) = true := by
      rw [bne_iff_ne]
      omega
     obtain ⟨t1, t2, t3⟩ := cp1 hz hlt
     have hnx := fc9 hz hxi
     have hbit := bw1 (x i) q (tzN (hiN (x i) q))
     rw [t2] at hbit
     have hqt : q ≤ tzN (hiN (x i) q) ∧ (x i).testBit (tzN (hiN (x i) q)) = true := by
      have := hbit.symm
      simpa using this
     have hsub : (((hiN (x i) q : Nat) : Int) - 1) = ((hiN (x i) q - 1 : Nat) : Int) := by omega
     have hand : br4 .and .u64 ((hiN (x i) q : Nat) : Int) ((hiN (x i) q - 1 : Nat) : Int) = ((hiN (x i) (tzN (hiN (x i) q) + 1) : Nat) : Int) := by
      rw [cs3 hlt (by omega), hnx]
     repeat' first | (with_reducible first | refine au2 ?_ | refine au4 ?_ | refine ak0 ?_ | refine ae7 ?_ | refine aj9 ?_ | refine ae0 ?_ | refine ap4 ?_ | refine ap5 ?_ | refine ah7 ?_ | refine ac6 ?_ | refine au3 ?_ | refine ak1 ?_ | refine ai0 ?_ | apply qp | apply qq) | (with_reducible refine ac3 ?_ ?_; decide) | ((with_reducible apply ap3); focus (simp (disch := omega) only [go_sem, simprocAttr, hne]; with_reducible first | exact ac1 | exact ac2)) | ((with_reducible apply ah6); focus (simp (disch := omega) only [go_sem, simprocAttr, hne]; first | with_reducible exact rfl | (rw [if_pos (by first | omega | (constructor <;> omega) | (simp; done) | assumption)]; first | with_reducible exact rfl | (try simp (disch := omega) only [go_sem, simprocAttr, hne]; with_reducible exact rfl)))) | with_reducible exact aq0 | with_reducible exact al4 | exact ap9 | with_reducible exact ah9
     with_reducible apply do3
     ·exact rfl
     ·(simp (disch := omega) only [go_sem, simprocAttr]; exact rfl)
     ·exact ht (hiN (x i) q) [] hz hlt
     ·exact rfl
     have hb8 : 64 * i + tzN (hiN (x i) q) < 256 := by omega
     have hin : ag6 x (64 * i + tzN (hiN (x i) q)) = true := by rw [cr2 x t1]; exact hqt.2
     have hget := el5 x hb8 hin
     have hcnt : cntF x (64 * i + tzN (hiN (x i) q)) = cntF x (64 * i + q) := by
      have := cr8 x (m := 64 * i + q) (tzN (hiN (x i) q) - q) (by omega) fun j h1 h2 => by
       have h3 := t3 (j - 64 * i) (by omega)
       rw [bw1] at h3
       have h5 : q ≤ j - 64 * i := by omega
       rw [decide_eq_true h5, Bool.true_and] at h3
       have h4 := cr2 x (i := i) (t := j - 64 * i) (by omega)
       rw [show 64 * i + (j - 64 * i) = j by omega] at h4
       rw [h4]; exact h3
      rw [← this]
      congr 1
      omega
     have hcs := dn2 x hb8
     rw [hin, hcnt] at hcs
     rw [hcnt] at hget
     generalize tzN (hiN (x i) q) = t at *
     repeat' first | (with_reducible first | refine au2 ?_ | refine au4 ?_ | refine ak0 ?_ | refine ae7 ?_ | refine aj9 ?_ | refine ae0 ?_ | refine ap4 ?_ | refine ap5 ?_ | refine ah7 ?_ | refine ac6 ?_ | refine au3 ?_ | refine ak1 ?_ | refine ai0 ?_ | apply qp | apply qq) | (with_reducible refine ac3 ?_ ?_; decide) | ((with_reducible apply ap3); focus (simp (disch := omega) only [go_sem, simprocAttr]; with_reducible first | exact ac1 | exact ac2)) | ((with_reducible apply ah6); focus (simp (disch := omega) only [go_sem, simprocAttr]; first | with_reducible exact rfl | (rw [if_pos (by first | omega | (constructor <;> omega) | (simp; done) | assumption)]; first | with_reducible exact rfl | (try simp (disch := omega) only [go_sem, simprocAttr]; with_reducible exact rfl)))) | with_reducible exact aq0 | with_reducible exact al4 | exact ap9 | with_reducible exact ah9
     with_reducible apply db6 (x := ⟨64 * i + t, hb8⟩)
     ·exact rfl
     ·exact hget
     ·show _ = [EV.int .u8 ((64 * i + t : Nat) : Int)]
      simp (disch := omega) only [go_sem, simprocAttr]
      refine congrArg (fun z => [EV.int IntKind.u8 z]) ?_
      omega
     ·repeat' first | (with_reducible first | refine au2 ?_ | refine au4 ?_ | refine ak0 ?_ | refine ae7 ?_ | refine aj9 ?_ | refine ae0 ?_ | refine ap4 ?_ | refine ap5 ?_ | refine ah7 ?_ | refine ac6 ?_ | refine au3 ?_ | refine ak1 ?_ | refine ai0 ?_ | apply qp | apply qq) | (with_reducible refine ac3 ?_ ?_; decide) | ((with_reducible apply ap3); focus (simp (disch := omega) only [go_sem, simprocAttr, hsub, hand]; with_reducible first | exact ac1 | exact ac2)) | ((with_reducible apply ah6); focus (simp (disch := omega) only [go_sem, simprocAttr, hsub, hand]; first | with_reducible exact rfl | (rw [if_pos (by first | omega | (constructor <;> omega) | (simp; done) | assumption)]; first | with_reducible exact rfl | (try simp (disch := omega) only [go_sem, simprocAttr, hsub, hand]; with_reducible exact rfl)))) | with_reducible exact aq0 | with_reducible exact al4 | exact ap9 | with_reducible exact ah9
      refine hK2 (t + 1) _ _ (by omega) (by omega) ?_ ?_
      ·rw [← Nat.add_assoc, hcs]; rfl
      ·(repeat' (first | exact trivial | refine And.intro (And.intro ?_ ?_) ?_)) <;> first | exact rfl | (simp (disch := omega) only [go_sem, simprocAttr, EV.ok, aa4, aa5, ab2, okL, decide_eq_true_eq, EV.int.injEq]; done) | (simp (disch := omega) only [go_sem, simprocAttr, EV.ok, aa4, aa5, ab2, okL, decide_eq_true_eq, EV.int.injEq] <;> first | exact rfl | omega)
     ·repeat' first | (with_reducible first | refine au2 ?_ | refine au4 ?_ | refine ak0 ?_ | refine ae7 ?_ | refine aj9 ?_ | refine ae0 ?_ | refine ap4 ?_ | refine ap5 ?_ | refine ah7 ?_ | refine ac6 ?_ | refine au3 ?_ | refine ak1 ?_ | refine ai0 ?_ | apply qp | apply qq) | (with_reducible refine ac3 ?_ ?_; decide) | ((with_reducible apply ap3); focus (simp (disch := omega) only [go_sem, simprocAttr]; with_reducible first | exact ac1 | exact ac2)) | ((with_reducible apply ah6); focus (simp (disch := omega) only [go_sem, simprocAttr]; first | with_reducible exact rfl | (rw [if_pos (by first | omega | (constructor <;> omega) | (simp; done) | assumption)]; first | with_reducible exact rfl | (try simp (disch := omega) only [go_sem, simprocAttr]; with_reducible exact rfl)))) | with_reducible exact aq0 | with_reducible exact al4 | exact ap9 | with_reducible exact ah9
      refine hQ2 _ _ _ _ ?_
      repeat' first | (with_reducible first | refine au2 ?_ | refine au4 ?_ | refine ak0 ?_ | refine ae7 ?_ | refine aj9 ?_ | refine ae0 ?_ | refine ap4 ?_ | refine ap5 ?_ | refine ah7 ?_ | refine ac6 ?_ | refine au3 ?_ | refine ak1 ?_ | refine ai0 ?_ | apply qp | apply qq) | (with_reducible refine ac3 ?_ ?_; decide) | ((with_reducible apply ap3); focus (simp (disch := omega) only [go_sem, simprocAttr]; with_reducible first | exact ac1 | exact ac2)) | ((with_reducible apply ah6); focus (simp (disch := omega) only [go_sem, simprocAttr]; first | with_reducible exact rfl | (rw [if_pos (by first | omega | (constructor <;> omega) | (simp; done) | assumption)]; first | with_reducible exact rfl | (try simp (disch := omega) only [go_sem, simprocAttr]; with_reducible exact rfl)))) | with_reducible exact aq0 | with_reducible exact al4 | exact ap9 | with_reducible exact ah9
      refine hQ' _ _ _ _ ?_
      repeat' first | (with_reducible first | refine au2 ?_ | refine au4 ?_ | refine ak0 ?_ | refine ae7 ?_ | refine aj9 ?_ | refine ae0 ?_ | refine ap4 ?_ | refine ap5 ?_ | refine ah7 ?_ | refine ac6 ?_ | refine au3 ?_ | refine ak1 ?_ | refine ai0 ?_ | apply qp | apply qq) | (with_reducible refine ac3 ?_ ?_; decide) | ((with_reducible apply ap3); focus (simp (disch := omega) only [go_sem, simprocAttr]; with_reducible first | exact ac1 | exact ac2)) | ((with_reducible apply ah6); focus (simp (disch := omega) only [go_sem, simprocAttr]; first | with_reducible exact rfl | (rw [if_pos (by first | omega | (constructor <;> omega) | (simp; done) | assumption)]; first | with_reducible exact rfl | (try simp (disch := omega) only [go_sem, simprocAttr]; with_reducible exact rfl)))) | with_reducible exact aq0 | with_reducible exact al4 | exact ap9 | with_reducible exact ah9
      exact ⟨.inr rfl, fun h => Bool.noConfusion h⟩
  ·have hi4 : i = 4 := by have := of_decide_eq_false hc; omega
   subst hi4
   repeat' first | (with_reducible first | refine au2 ?_ | refine au4 ?_ | refine ak0 ?_ | refine ae7 ?_ | refine aj9 ?_ | refine ae0 ?_ | refine ap4 ?_ | refine ap5 ?_ | refine ah7 ?_ | refine ac6 ?_ | refine au3 ?_ | refine ak1 ?_ | refine ai0 ?_ | apply qp | apply qq) | (with_reducible refine ac3 ?_ ?_; decide) | ((with_reducible apply ap3); focus (simp (disch := omega) only [go_sem, simprocAttr]; with_reducible first | exact ac1 | exact ac2)) | ((with_reducible apply ah6); focus (simp (disch := omega) only [go_sem, simprocAttr]; first | with_reducible exact rfl | (rw [if_pos (by first | omega | (constructor <;> omega) | (simp; done) | assumption)]; first | with_reducible exact rfl | (try simp (disch := omega) only [go_sem, simprocAttr]; with_reducible exact rfl)))) | with_reducible exact aq0 | with_reducible exact al4 | exact ap9 | with_reducible exact ah9
   refine hQ' _ _ _ _ ?_
   repeat' first | (with_reducible first | refine au2 ?_ | refine au4 ?_ | refine ak0 ?_ | refine ae7 ?_ | refine aj9 ?_ | refine ae0 ?_ | refine ap4 ?_ | refine ap5 ?_ | refine ah7 ?_ | refine ac6 ?_ | refine au3 ?_ | refine ak1 ?_ | refine ai0 ?_ | apply qp | apply qq) | (with_reducible refine ac3 ?_ ?_; decide) | ((with_reducible apply ap3); focus (simp (disch := omega) only [go_sem, simprocAttr]; with_reducible first | exact ac1 | exact ac2)) | ((with_reducible apply ah6); focus (simp (disch := omega) only [go_sem, simprocAttr]; first | with_reducible exact rfl | (rw [if_pos (by first | omega | (constructor <;> omega) | (simp; done) | assumption)]; first | with_reducible exact rfl | (try simp (disch := omega) only [go_sem, simprocAttr]; with_reducible exact rfl)))) | with_reducible exact aq0 | with_reducible exact al4 | exact ap9 | with_reducible exact ah9
   exact ⟨.inl rfl, fun _ => fe5 x⟩
end
end Abs

namespace Abs
open Go Gn
set_option maxRecDepth 20000
attribute [local irreducible] av5 cntF tzN hiN
theorem ev9 {rs : List ERes} {s : aa6} {H G : Heap} {r r' : EV} {R : ER → Heap → Prop} (hok : OkH H) (hr : ab1 s (H ++ G) rs = some r) (hz : FZ H.length (H ++ G) r r') (h : R (.ret r') H) : dv4 H.length rs R .ret s (H ++ G) :=
 .inl ⟨r, r', hr, hz, fun b x hb hx => hok b x (by rwa [List.getElem?_append_left hb] at hx), by rwa [List.take_left]⟩
def fg7 (P : Program) (γ : Nat → EV) (f g : FuncId) : Prop :=
 ∀ (x : Nat → Nat) (H : Heap), CallsA P γ f [setE x] H fun er H' => er = .ret (.func (.func g) [] [.iptr (tab 4 fun i => .int .u64 ((x i : Nat) : Int)) 0]) ∧ H' = H
def bv0 (l : List (Fin 256)) (from_ : Int) : Int :=
 match l.find? fun b => decide (from_ ≤ ((b.val : Nat) : Int)) with
 | some b => ((b.val : Nat) : Int)
 | none => -1
theorem ed5 {l pre : List (Fin 256)} {b : Fin 256} {from_ : Int} (hp : pre ++ [b] <+: l) (hj : ∀ a ∈ pre, ((a.val : Nat) : Int) < from_) (hb : from_ ≤ ((b.val : Nat) : Int)) : bv0 l from_ = ((b.val : Nat) : Int) := by
 obtain ⟨r, rfl⟩ := hp
 unfold bv0
 rw [List.append_assoc, List.find?_append, List.find?_eq_none.2 (fun a ha => by have := hj a ha; simp; omega)]
 simp [hb]
theorem ds0 {l : List (Fin 256)} {from_ : Int} (hj : ∀ a ∈ l, ((a.val : Nat) : Int) < from_) : bv0 l from_ = -1 := by
 unfold bv0
 rw [List.find?_eq_none.2 (fun a ha => by have := hj a ha; simp; omega)]
section
variable {P : Program} {γ : Nat → EV}
set_option maxHeartbeats 4000000 in
theorem fk9 {f g : FuncId} (hb : Body P f (cd3 g) bp8 4) : fg7 P γ f g := by
 intro x H
 refine hb.calls (by simp) fun hok => ?_
 unfold cd3
 repeat' first | (with_reducible first | apply qa | apply qb | apply qc | apply qd | apply qe | apply qf | apply qg | apply qh | apply qi | apply qj | apply qk | apply ql | apply qm | apply qn | apply qo | apply qp | apply qq | apply qr | apply qs | apply qt | apply qu | exact aa8 | exact aa7) | (with_reducible refine aa0 ?_ ?_; decide) | ((with_reducible refine ab0 ?_); exact rfl) | ((with_reducible first | apply qv | apply qw | apply qx); focus (simp (disch := omega) only [go_sem, simprocAttr, setE]; with_reducible first | exact ac1 | exact ac2)) | ((with_reducible first | apply qy | apply qz); focus (simp (disch := omega) only [go_sem, simprocAttr, setE]; done)) | ((with_reducible first | apply q26 | apply q27 | apply q28); focus (simp (disch := omega) only [go_sem, simprocAttr, setE]; first | with_reducible exact rfl | (rw [if_pos (by first | omega | (constructor <;> omega) | (simp; done) | assumption)]; first | with_reducible exact rfl | (try simp (disch := omega) only [go_sem, simprocAttr, setE]; with_reducible exact rfl))))
 refine ev9 hok (r := .func (.func g) [] [.ptr H.length 4 0 0]) ?_ ?_ ⟨rfl, rfl⟩
 ·(simp (disch := omega) only [go_sem, simprocAttr, ab1, ae1, aj2, bp8]; done)
 ·refine .func _ _ _ rfl fun k y y' h1 h2 => ?_
  cases k with
  | succ k => simp at h1
  | zero =>
   simp at h1 h2
   subst h1 h2
   refine .ptr _ 4 0 0 [setE x] (setE x) _ (Nat.le_refl _) (by simp [setE]) rfl (by simp [setE, EV.cells, ab9]) fun k y y' h1 h2 => ?_
   have e : (setE x).cells = tab 4 fun i => .int .u64 ((x i : Nat) : Int) := rfl
   rw [e, h2] at h1
   obtain rfl := Option.some.inj h1
   refine .same _ ?_
   have := List.mem_of_getElem? h2
   simp only [tab, List.mem_map] at this
   obtain ⟨i, _, rfl⟩ := this
   rfl
def em8 (P : Program) (γ : Nat → EV) (f : FuncId) : Prop :=
 ∀ (x : Nat → Nat) (n : Int) (H : Heap), av8 x → CallsA P γ f [setE x, .int .i64 n] H fun er H' => er = .ret (.int .i64 (bv0 (av5 x) n)) ∧ H' = H
set_option maxHeartbeats 8000000 in
theorem fc0 {f fa g ft : FuncId} (hb : Body P f (bu5 fa) bc3 15) (ha : fg7 P γ fa g) (hg : Body P g (bc1 ft) az9 26) (ht : TzOk P γ ft) : em8 P γ f := by
 intro x n H hx
 refine CallsA.mono (CallsA.pure (H := H) (R := fun er => er = .ret (.int .i64 (bv0 (av5 x) n))) ?_ (by simp [okL, fa0, EV.ok]) (by rintro er rfl; rfl)) fun _ _ h => h
 refine hb.calls (by simp) fun hok => ?_
 unfold bu5
 repeat' first | (with_reducible first | apply qa | apply qb | apply qc | apply qd | apply qe | apply qf | apply qg | apply qh | apply qi | apply qj | apply qk | apply ql | apply qm | apply qn | apply qo | apply qp | apply qq | apply qr | apply qs | apply qt | apply qu | exact aa8 | exact aa7) | (with_reducible refine aa0 ?_ ?_; decide) | ((with_reducible refine ab0 ?_); exact rfl) | ((with_reducible first | apply qv | apply qw | apply qx); focus (simp (disch := omega) only [go_sem, simprocAttr, setE]; with_reducible first | exact ac1 | exact ac2)) | ((with_reducible first | apply qy | apply qz); focus (simp (disch := omega) only [go_sem, simprocAttr, setE]; done)) | ((with_reducible first | apply q26 | apply q27 | apply q28); focus (simp (disch := omega) only [go_sem, simprocAttr, setE]; first | with_reducible exact rfl | (rw [if_pos (by first | omega | (constructor <;> omega) | (simp; done) | assumption)]; first | with_reducible exact rfl | (try simp (disch := omega) only [go_sem, simprocAttr, setE]; with_reducible exact rfl))))
 with_reducible apply am4
 ·first | exact rfl | (simp (disch := omega) only [go_sem, simprocAttr, setE]; exact rfl)
 ·(simp (disch := omega) only [go_sem, simprocAttr, setE]; exact rfl)
 ·exact ha x _
 repeat' first | (with_reducible first | apply qa | apply qb | apply qc | apply qd | apply qe | apply qf | apply qg | apply qh | apply qi | apply qj | apply qk | apply ql | apply qm | apply qn | apply qo | apply qp | apply qq | apply qr | apply qs | apply qt | apply qu | exact aa8 | exact aa7) | (with_reducible refine aa0 ?_ ?_; decide) | ((with_reducible refine ab0 ?_); exact rfl) | ((with_reducible first | apply qv | apply qw | apply qx); focus (simp (disch := omega) only [go_sem, simprocAttr, setE]; with_reducible first | exact ac1 | exact ac2)) | ((with_reducible first | apply qy | apply qz); focus (simp (disch := omega) only [go_sem, simprocAttr, setE]; done)) | ((with_reducible first | apply q26 | apply q27 | apply q28); focus (simp (disch := omega) only [go_sem, simprocAttr, setE]; first | with_reducible exact rfl | (rw [if_pos (by first | omega | (constructor <;> omega) | (simp; done) | assumption)]; first | with_reducible exact rfl | (try simp (disch := omega) only [go_sem, simprocAttr, setE]; with_reducible exact rfl))))
 refine dv9 (α := Fin 256) (enc := encF) (xs := av5 x) (fun _ => [some (.row 4 [setE x]), some (.row 1 [.int .i64 n]), some (.row 1 [.int .i64 0])]) (fun pre => ∀ b ∈ pre, ((b.val : Nat) : Int) < n)
  (by simp (disch := omega) only [go_sem, simprocAttr]) (by simp [okL, EV.ok, aa4]) (ew3 hg ht x hx) (fun b => rfl) (by simp [setE]) (by simp) (fun _ => bu7 rfl) ?_ ?_
 ·intro pre b hlen hJ
  have hb8 := b.isLt
  repeat' first | (with_reducible first | apply qa | apply qb | apply qc | apply qd | apply qe | apply qf | apply qg | apply qh | apply qi | apply qj | apply qk | apply ql | apply qm | apply qn | apply qo | apply qp | apply qq | apply qr | apply qs | apply qt | apply qu | exact aa8 | exact aa7) | (with_reducible refine aa0 ?_ ?_; decide) | ((with_reducible refine ab0 ?_); exact rfl) | ((with_reducible first | apply qv | apply qw | apply qx); focus (simp (disch := omega) only [go_sem, simprocAttr, encF, setE]; with_reducible first | exact ac1 | exact ac2)) | ((with_reducible first | apply qy | apply qz); focus (simp (disch := omega) only [go_sem, simprocAttr, encF, setE]; done)) | ((with_reducible first | apply q26 | apply q27 | apply q28); focus (simp (disch := omega) only [go_sem, simprocAttr, encF, setE]; first | with_reducible exact rfl | (rw [if_pos (by first | omega | (constructor <;> omega) | (simp; done) | assumption)]; first | with_reducible exact rfl | (try simp (disch := omega) only [go_sem, simprocAttr, encF, setE]; with_reducible exact rfl))))
  refine au1 (t := decide (((b.val : Nat) : Int) ≥ n)) (by simp (disch := omega) only [go_sem, simprocAttr]) (fun hc => ?_) (fun hc => ?_)
  ·have hge : n ≤ ((b.val : Nat) : Int) := of_decide_eq_true hc
   repeat' first | (with_reducible first | apply qa | apply qb | apply qc | apply qd | apply qe | apply qf | apply qg | apply qh | apply qi | apply qj | apply qk | apply ql | apply qm | apply qn | apply qo | apply qp | apply qq | apply qr | apply qs | apply qt | apply qu | exact aa8 | exact aa7) | (with_reducible refine aa0 ?_ ?_; decide) | ((with_reducible refine ab0 ?_); exact rfl) | ((with_reducible first | apply qv | apply qw | apply qx); focus (simp (disch := omega) only [go_sem, simprocAttr, encF]; with_reducible first | exact ac1 | exact ac2)) | ((with_reducible first | apply qy | apply qz); focus (simp (disch := omega) only [go_sem, simprocAttr, encF]; done)) | ((with_reducible first | apply q26 | apply q27 | apply q28); focus (simp (disch := omega) only [go_sem, simprocAttr, encF]; first | with_reducible exact rfl | (rw [if_pos (by first | omega | (constructor <;> omega) | (simp; done) | assumption)]; first | with_reducible exact rfl | (try simp (disch := omega) only [go_sem, simprocAttr, encF]; with_reducible exact rfl))))
   refine dp8 (fun hw => ?_) (bu7 rfl)
   repeat' first | (with_reducible first | apply qa | apply qb | apply qc | apply qd | apply qe | apply qf | apply qg | apply qh | apply qi | apply qj | apply qk | apply ql | apply qm | apply qn | apply qo | apply qp | apply qq | apply qr | apply qs | apply qt | apply qu | exact aa8 | exact aa7) | (with_reducible refine aa0 ?_ ?_; decide) | ((with_reducible refine ab0 ?_); exact rfl) | ((with_reducible first | apply qv | apply qw | apply qx); focus (simp (disch := omega) only [go_sem, simprocAttr]; with_reducible first | exact ac1 | exact ac2)) | ((with_reducible first | apply qy | apply qz); focus (simp (disch := omega) only [go_sem, simprocAttr]; done)) | ((with_reducible first | apply q26 | apply q27 | apply q28); focus (simp (disch := omega) only [go_sem, simprocAttr]; first | with_reducible exact rfl | (rw [if_pos (by first | omega | (constructor <;> omega) | (simp; done) | assumption)]; first | with_reducible exact rfl | (try simp (disch := omega) only [go_sem, simprocAttr]; with_reducible exact rfl))))
   have hz := ed5 hw hJ hge
   refine aj1 (H := []) (G := [some (.row 4 [setE x]), some (.row 1 [.int .i64 n]), some (.row 1 [.int .i64 ((b.val : Nat) : Int)])]) hok (r := .int .i64 (bv0 (av5 x) n)) ?_ rfl ⟨rfl, rfl⟩
   rw [hz]
   (simp (disch := omega) only [go_sem, simprocAttr, ab1, ae1, aj2, bc3])
  ·have hlt : ((b.val : Nat) : Int) < n := by have := of_decide_eq_false hc; omega
   repeat' first | (with_reducible first | apply qa | apply qb | apply qc | apply qd | apply qe | apply qf | apply qg | apply qh | apply qi | apply qj | apply qk | apply ql | apply qm | apply qn | apply qo | apply qp | apply qq | apply qr | apply qs | apply qt | apply qu | exact aa8 | exact aa7) | (with_reducible refine aa0 ?_ ?_; decide) | ((with_reducible refine ab0 ?_); exact rfl) | ((with_reducible first | apply qv | apply qw | apply qx); focus (simp (disch := omega) only [go_sem, simprocAttr]; with_reducible first | exact ac1 | exact ac2)) | ((with_reducible first | apply qy | apply qz); focus (simp (disch := omega) only [go_sem, simprocAttr]; done)) | ((with_reducible first | apply q26 | apply q27 | apply q28); focus (simp (disch := omega) only [go_sem, simprocAttr]; first | with_reducible exact rfl | (rw [if_pos (by first | omega | (constructor <;> omega) | (simp; done) | assumption)]; first | with_reducible exact rfl | (try simp (disch := omega) only [go_sem, simprocAttr]; with_reducible exact rfl))))
   exact cp9 rfl (by
    intro a ha
    rcases List.mem_append.1 ha with h | h
    ·exact hJ a h
    ·simp at h; subst h; exact hlt)
 ·intro hJ
  repeat' first | (with_reducible first | apply qa | apply qb | apply qc | apply qd | apply qe | apply qf | apply qg | apply qh | apply qi | apply qj | apply qk | apply ql | apply qm | apply qn | apply qo | apply qp | apply qq | apply qr | apply qs | apply qt | apply qu | exact aa8 | exact aa7) | (with_reducible refine aa0 ?_ ?_; decide) | ((with_reducible refine ab0 ?_); exact rfl) | ((with_reducible first | apply qv | apply qw | apply qx); focus (simp (disch := omega) only [go_sem, simprocAttr, setE]; with_reducible first | exact ac1 | exact ac2)) | ((with_reducible first | apply qy | apply qz); focus (simp (disch := omega) only [go_sem, simprocAttr, setE]; done)) | ((with_reducible first | apply q26 | apply q27 | apply q28); focus (simp (disch := omega) only [go_sem, simprocAttr, setE]; first | with_reducible exact rfl | (rw [if_pos (by first | omega | (constructor <;> omega) | (simp; done) | assumption)]; first | with_reducible exact rfl | (try simp (disch := omega) only [go_sem, simprocAttr, setE]; with_reducible exact rfl))))
  have hz := ds0 hJ
  refine aj1 (H := []) (G := [some (.row 4 [setE x]), some (.row 1 [.int .i64 n]), some (.row 1 [.int .i64 (-1)])]) hok (r := .int .i64 (bv0 (av5 x) n)) ?_ rfl ⟨rfl, rfl⟩
  rw [hz]
  (simp (disch := omega) only [go_sem, simprocAttr, ab1, ae1, aj2, bc3])
end
end Abs

namespace Abs
open Go Gn
set_option maxRecDepth 20000
theorem db4 (bs : List Nat) (h8 : ∀ b ∈ bs, b < 256) (c : Nat) (hc : c < 256) : ag6 (aj5 bs) c = decide (c ∈ bs) := by
 unfold ag6 aj5
 have : ∀ (bs : List Nat) (w : Nat), (∀ b ∈ bs, b < 256) → (bs.foldl (fun w b => if c / 64 = b / 64 then w ||| 2 ^ (b % 64) else w) w).testBit (c % 64) = (w.testBit (c % 64) || decide (c ∈ bs)) := by
  intro bs
  induction bs with
  | nil => intro w _; simp
  | cons b bs ih =>
   intro w h
   rw [List.foldl_cons, ih _ fun b hb => h b (by simp [hb])]
   by_cases e : c = b
   ·subst e
    simp
   ·have hb := h b (by simp)
    split
    ·rename_i e2
     have : ¬ b % 64 = c % 64 := by omega
     rw [Nat.testBit_or, Nat.testBit_two_pow]
     simp [this, e]
    ·simp [e]
 rw [this bs 0 h8]
 simp
open Gn
set_option maxRecDepth 20000
def s1 (l : Nat) : Nat := (l / 2 &&& 85) + (l &&& 85)
def s2 (l : Nat) : Nat := (l / 4 &&& 51) + (l &&& 51)
def s3 (l : Nat) : Nat := (l / 16 + l) &&& 15
theorem d1 : ∀ r, r < 2 → ∀ l, l < 256 → (256 * r + l) / 2 &&& 85 = l / 2 &&& 85 := by decide +kernel
theorem d2 : ∀ r, r < 4 → ∀ l, l < 256 → (256 * r + l) / 4 &&& 51 = l / 4 &&& 51 := by decide +kernel
theorem d3 : ∀ r, r < 5 → ∀ l, l < 69 → (16 * r + (l / 16 + l)) &&& 15 = (l / 16 + l) &&& 15 := by decide +kernel
theorem cs2 {a b c d : Nat} (hb : b < 256) (hd : d < 256) : (256 * a + b) &&& (256 * c + d) = 256 * (a &&& c) + (b &&& d) := by
 have hbd : b &&& d < 2 ^ 8 := Nat.and_lt_two_pow b (n := 8) hd
 apply Nat.eq_of_testBit_eq
 intro j
 have e1 := Nat.testBit_two_pow_mul_add (i := 8) a hb j
 have e2 := Nat.testBit_two_pow_mul_add (i := 8) c hd j
 have e3 := Nat.testBit_two_pow_mul_add (i := 8) (a &&& c) hbd j
 simp only [show (2 : Nat) ^ 8 = 256 from rfl] at e1 e2 e3
 rw [Nat.testBit_and, e1, e2, e3]
 split <;> rw [Nat.testBit_and]
def valB : List Nat → Nat
 | [] => 0
 | b :: bs => 256 * valB bs + b
theorem st1 : ∀ (bs : List Nat), (∀ b ∈ bs, b < 256) → (valB bs / 2 &&& valB (List.replicate bs.length 85)) + (valB bs &&& valB (List.replicate bs.length 85)) = valB (bs.map s1)
 | [], _ => rfl
 | b :: bs, h => by
  have ih := st1 bs fun x hx => h x (by simp [hx])
  have hb := h b (by simp)
  simp only [List.length_cons, List.replicate_succ, List.map_cons, valB]
  generalize valB bs = x at *
  generalize valB (List.replicate bs.length 85) = m at *
  have e : (256 * x + b) / 2 = 256 * (x / 2) + (256 * (x % 2) + b) / 2 := by omega
  rw [e, cs2 (by omega) (by omega), cs2 hb (by omega), d1 (x % 2) (by omega) b hb, ← ih]
  unfold s1
  omega
theorem st2 : ∀ (bs : List Nat), (∀ b ∈ bs, b < 256) → (valB bs / 4 &&& valB (List.replicate bs.length 51)) + (valB bs &&& valB (List.replicate bs.length 51)) = valB (bs.map s2)
 | [], _ => rfl
 | b :: bs, h => by
  have ih := st2 bs fun x hx => h x (by simp [hx])
  have hb := h b (by simp)
  simp only [List.length_cons, List.replicate_succ, List.map_cons, valB]
  generalize valB bs = x at *
  generalize valB (List.replicate bs.length 51) = m at *
  have e : (256 * x + b) / 4 = 256 * (x / 4) + (256 * (x % 4) + b) / 4 := by omega
  rw [e, cs2 (by omega) (by omega), cs2 hb (by omega), d2 (x % 4) (by omega) b hb, ← ih]
  unfold s2
  omega
section
variable {P : Program} {γ : Nat → EV}
attribute [local irreducible] cntF av5
end
end Abs
