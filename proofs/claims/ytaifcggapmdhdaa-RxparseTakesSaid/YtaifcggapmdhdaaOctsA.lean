/- A part. -/
import Derived.Test.YtaifcggapmdhdaaGnO
set_option linter.all false
namespace Abs
open Go Gn
set_option linter.unusedSimpArgs false
section
variable {P : Program} {γ : Nat → EV}
def setE (w : Nat → Nat) : EV := .agg (tab 4 fun i => .int .u64 (w i))
def Words (w : Nat → Nat) : Prop := ∀ i, w i < 18446744073709551616
def wordsOf (bs : List Nat) (i : Nat) : Nat := bs.foldl (fun w b => if i = b / 64 then w ||| 2 ^ (b % 64) else w) 0
theorem pow_lt64 (b : Nat) : 2 ^ (b % 64) < 18446744073709551616 := by
 have : (2 : Nat) ^ (b % 64) ≤ 2 ^ 63 := Nat.pow_le_pow_right (by decide) (by omega)
 omega
theorem wordsOf_lt (bs : List Nat) : Words (wordsOf bs) := by
 intro i
 unfold wordsOf
 have : ∀ (bs : List Nat) (w : Nat), w < 18446744073709551616 → bs.foldl (fun w b => if i = b / 64 then w ||| 2 ^ (b % 64) else w) w < 18446744073709551616 := by
  intro bs
  induction bs with
  | nil => intro w h; exact h
  | cons b bs ih =>
   intro w h
   rw [List.foldl_cons]
   refine ih _ ?_
   split
   ·exact Nat.or_lt_two_pow (n := 64) h (pow_lt64 b)
   ·exact h
 exact this bs 0 (by omega)
def bytesE (bs : List Nat) : EV := .imm 1 (bs.map fun b => EV.int .u8 ((b : Nat) : Int))
theorem bytesE_ok {n : Nat} {bs : List Nat} : (bytesE bs).ok n = true := by
 simp only [bytesE, EV.ok, okL_iff, List.mem_map]
 rintro x ⟨b, _, rfl⟩
 rfl
set_option maxHeartbeats 4000000 in
theorem of_ok {f : FuncId} (hb : Body P f octs_Of octs_Of_r 23) (bs : List Nat) (h8 : ∀ b ∈ bs, b < 256) (hlen : bs.length < 9223372036854775807) (H : Heap) :
  CallsA P γ f [bytesE bs] H fun er H' => er = .ret (setE (wordsOf bs)) ∧ H' = H := by
 refine hb.calls (by simp) fun hok => ?_
 unfold octs_Of
 repeat' first | (with_reducible first | apply qa | apply qb | apply qc | apply qd | apply qe | apply qf | apply qg | apply qh | apply qi | apply qj | apply qk | apply ql | apply qm | apply qn | apply qo | apply qp | apply qq | apply qr | apply qs | apply qt | apply qu | exact keep_same | exact keep_true) | (with_reducible refine block_exit_other ?_ ?_; decide) | ((with_reducible refine keep_rfl ?_); exact rfl) | ((with_reducible first | apply qv | apply qw | apply qx); focus (simp (disch := omega) only [go_sem, simprocAttr, bytesE, List.length_map]; with_reducible first | exact lit_t | exact lit_f)) | ((with_reducible first | apply qy | apply qz); focus (simp (disch := omega) only [go_sem, simprocAttr, bytesE, List.length_map]; done)) | ((with_reducible first | apply q26 | apply q27 | apply q28); focus (simp (disch := omega) only [go_sem, simprocAttr, bytesE, List.length_map]; first | with_reducible exact rfl | (rw [if_pos (by first | omega | (constructor <;> omega) | (simp; done) | assumption)]; first | with_reducible exact rfl | (try simp (disch := omega) only [go_sem, simprocAttr, bytesE, List.length_map]; with_reducible exact rfl))))
 refine wpc_while (ι := Nat) (fun i => i ≤ bs.length) (fun i => bs.length - i) (fun i => [(2, .ptr H.length 4 0 0), (3, .ptr (H.length + 1) 4 0 0), (6, bytesE bs), (7, .int .i64 bs.length), (8, .int .i64 i)])
  (fun i => H ++ [some (.row 4 [setE fun _ => 0]), some (.row 4 [setE (wordsOf (bs.take i))])]) 0 (by omega) ?_ ?_ ?_ ?_ ?_
 ·(repeat' (first | exact trivial | refine And.intro (And.intro ?_ ?_) ?_)) <;> first | exact rfl | (simp (disch := omega) only [go_sem, simprocAttr, bytesE_ok, EV.ok, okL_tab_int, okL_tab_bool, okL_app, okL, decide_eq_true_eq, EV.int.injEq]; done) | (simp (disch := omega) only [go_sem, simprocAttr, bytesE_ok, EV.ok, okL_tab_int, okL_tab_bool, okL_app, okL, decide_eq_true_eq, EV.int.injEq] <;> first | exact rfl | omega)
 ·simp [setE, wordsOf]
 ·exact fun i _ => okH_app hok (by simp [okG, EB.ok, okL, setE, EV.ok, okL_tab_int])
 ·simp
 ·intro i hi K Q' hK hQ'
  repeat' first | (with_reducible first | apply qa | apply qb | apply qc | apply qd | apply qe | apply qf | apply qg | apply qh | apply qi | apply qj | apply qk | apply ql | apply qm | apply qn | apply qo | apply qp | apply qq | apply qr | apply qs | apply qt | apply qu | exact keep_same | exact keep_true) | (with_reducible refine block_exit_other ?_ ?_; decide) | ((with_reducible refine keep_rfl ?_); exact rfl) | ((with_reducible first | apply qv | apply qw | apply qx); focus (simp (disch := omega) only [go_sem, simprocAttr]; with_reducible first | exact lit_t | exact lit_f)) | ((with_reducible first | apply qy | apply qz); focus (simp (disch := omega) only [go_sem, simprocAttr]; done)) | ((with_reducible first | apply q26 | apply q27 | apply q28); focus (simp (disch := omega) only [go_sem, simprocAttr]; first | with_reducible exact rfl | (rw [if_pos (by first | omega | (constructor <;> omega) | (simp; done) | assumption)]; first | with_reducible exact rfl | (try simp (disch := omega) only [go_sem, simprocAttr]; with_reducible exact rfl))))
  refine wpc_cond (t := decide ((i : Int) < bs.length)) (by simp (disch := omega) only [go_sem, simprocAttr]) (fun ht => ?_) (fun ht => ?_)
  ·have hil : i < bs.length := by have := of_decide_eq_true ht; omega
   obtain ⟨b, hbi⟩ : ∃ b, bs[i]? = some b := ⟨bs[i], by simp [hil]⟩
   have hb8 := h8 b (List.mem_of_getElem? hbi)
   have hw := wordsOf_lt (bs.take i) (b / 64)
   have hp := pow_lt64 b
   repeat' first | (with_reducible first | apply qa | apply qb | apply qc | apply qd | apply qe | apply qf | apply qg | apply qh | apply qi | apply qj | apply qk | apply ql | apply qm | apply qn | apply qo | apply qp | apply qq | apply qr | apply qs | apply qt | apply qu | exact keep_same | exact keep_true) | (with_reducible refine block_exit_other ?_ ?_; decide) | ((with_reducible refine keep_rfl ?_); exact rfl) | ((with_reducible first | apply qv | apply qw | apply qx); focus (simp (disch := omega) only [go_sem, simprocAttr, setE, bytesE, List.getElem?_map, hbi, bits_or]; with_reducible first | exact lit_t | exact lit_f)) | ((with_reducible first | apply qy | apply qz); focus (simp (disch := omega) only [go_sem, simprocAttr, setE, bytesE, List.getElem?_map, hbi, bits_or]; done)) | ((with_reducible first | apply q26 | apply q27 | apply q28); focus (simp (disch := omega) only [go_sem, simprocAttr, setE, bytesE, List.getElem?_map, hbi, bits_or]; first | with_reducible exact rfl | (rw [if_pos (by first | omega | (constructor <;> omega) | (simp; done) | assumption)]; first | with_reducible exact rfl | (try simp (disch := omega) only [go_sem, simprocAttr, setE, bytesE, List.getElem?_map, hbi, bits_or]; with_reducible exact rfl))))
   refine hK (i + 1) _ _ [] (by omega) (by omega) ?_ ?_
   ·have e : ∀ j, wordsOf (bs.take (i + 1)) j = if j = b / 64 then wordsOf (bs.take i) (b / 64) ||| 2 ^ (b % 64) else wordsOf (bs.take i) j := by
     intro j
     rw [List.take_add_one, hbi]
     simp only [wordsOf, List.foldl_append, Option.toList_some, List.foldl_cons, List.foldl_nil]
     by_cases h : j = b / 64
     ·subst h; simp
     ·rw [if_neg h, if_neg h]
    simp only [setE, e, Int.natCast_zero, List.append_nil]
   ·(repeat' (first | exact trivial | refine And.intro (And.intro ?_ ?_) ?_)) <;> first | exact rfl | (simp (disch := omega) only [go_sem, simprocAttr, bytesE_ok, EV.ok, okL_tab_int, okL_tab_bool, okL_app, okL, decide_eq_true_eq, EV.int.injEq]; done) | (simp (disch := omega) only [go_sem, simprocAttr, bytesE_ok, EV.ok, okL_tab_int, okL_tab_bool, okL_app, okL, decide_eq_true_eq, EV.int.injEq] <;> first | exact rfl | omega)
  ·have hi4 : i = bs.length := by have := of_decide_eq_false ht; omega
   subst hi4
   repeat' first | (with_reducible first | apply qa | apply qb | apply qc | apply qd | apply qe | apply qf | apply qg | apply qh | apply qi | apply qj | apply qk | apply ql | apply qm | apply qn | apply qo | apply qp | apply qq | apply qr | apply qs | apply qt | apply qu | exact keep_same | exact keep_true) | (with_reducible refine block_exit_other ?_ ?_; decide) | ((with_reducible refine keep_rfl ?_); exact rfl) | ((with_reducible first | apply qv | apply qw | apply qx); focus (simp (disch := omega) only [go_sem, simprocAttr]; with_reducible first | exact lit_t | exact lit_f)) | ((with_reducible first | apply qy | apply qz); focus (simp (disch := omega) only [go_sem, simprocAttr]; done)) | ((with_reducible first | apply q26 | apply q27 | apply q28); focus (simp (disch := omega) only [go_sem, simprocAttr]; first | with_reducible exact rfl | (rw [if_pos (by first | omega | (constructor <;> omega) | (simp; done) | assumption)]; first | with_reducible exact rfl | (try simp (disch := omega) only [go_sem, simprocAttr]; with_reducible exact rfl))))
   refine hQ' _ _ _ ?_
   repeat' first | (with_reducible first | apply qa | apply qb | apply qc | apply qd | apply qe | apply qf | apply qg | apply qh | apply qi | apply qj | apply qk | apply ql | apply qm | apply qn | apply qo | apply qp | apply qq | apply qr | apply qs | apply qt | apply qu | exact keep_same | exact keep_true) | (with_reducible refine block_exit_other ?_ ?_; decide) | ((with_reducible refine keep_rfl ?_); exact rfl) | ((with_reducible first | apply qv | apply qw | apply qx); focus (simp (disch := omega) only [go_sem, simprocAttr, setE]; with_reducible first | exact lit_t | exact lit_f)) | ((with_reducible first | apply qy | apply qz); focus (simp (disch := omega) only [go_sem, simprocAttr, setE]; done)) | ((with_reducible first | apply q26 | apply q27 | apply q28); focus (simp (disch := omega) only [go_sem, simprocAttr, setE]; first | with_reducible exact rfl | (rw [if_pos (by first | omega | (constructor <;> omega) | (simp; done) | assumption)]; first | with_reducible exact rfl | (try simp (disch := omega) only [go_sem, simprocAttr, setE]; with_reducible exact rfl))))
   refine end_drop hok (r := setE (wordsOf bs)) ?_ ?_ ⟨rfl, rfl⟩
   ·first | (simp (disch := omega) only [go_sem, simprocAttr, evResults, evResL, evRes, octs_Of_r, setE, List.take_length]; done) | (simp (disch := omega) only [go_sem, simprocAttr, evResults, evResL, evRes, octs_Of_r, setE, List.take_length]; with_reducible exact rfl) | exact rfl
   ·first | (simp [EV.ok, okL, okL_tab_int, okL_tab_bool, okL_app, setE, List.take_length]; done)
def inSet (w : Nat → Nat) (b : Nat) : Bool := (w (b / 64)).testBit (b % 64)
def HasOk (P : Program) (γ : Nat → EV) (f : FuncId) (κ : IntKind) : Prop :=
 ∀ (x : Nat → Nat) (b : Nat) (H : Heap), Words x → b < 256 → CallsA P γ f [setE x, .int κ b] H fun er H' => er = .ret (.bool (inSet x b)) ∧ H' = H
theorem bit_num {w m : Nat} : (((w / 2 ^ m % 2 : Nat) : Int) == 1) = w.testBit m := by
 rw [Nat.testBit_eq_decide_div_mod_eq, Bool.eq_iff_iff]
 simp only [beq_iff_eq, decide_eq_true_eq]
 omega
theorem refHas_ok {f : FuncId} (hb : Body P f hackleref01_Has hackleref01_Has_r 22) : HasOk P γ f .i64 := by
 intro x b H hx hb8
 refine hb.calls (by simp) fun hok => ?_
 unfold hackleref01_Has
 repeat' first | (with_reducible first | apply qa | apply qb | apply qc | apply qd | apply qe | apply qf | apply qg | apply qh | apply qi | apply qj | apply qk | apply ql | apply qm | apply qn | apply qo | apply qp | apply qq | apply qr | apply qs | apply qt | apply qu | exact keep_same | exact keep_true) | (with_reducible refine block_exit_other ?_ ?_; decide) | ((with_reducible refine keep_rfl ?_); exact rfl) | ((with_reducible first | apply qv | apply qw | apply qx); focus (simp (disch := omega) only [go_sem, simprocAttr, setE]; with_reducible first | exact lit_t | exact lit_f)) | ((with_reducible first | apply qy | apply qz); focus (simp (disch := omega) only [go_sem, simprocAttr, setE]; done)) | ((with_reducible first | apply q26 | apply q27 | apply q28); focus (simp (disch := omega) only [go_sem, simprocAttr, setE]; first | with_reducible exact rfl | (rw [if_pos (by first | omega | (constructor <;> omega) | (simp; done) | assumption)]; first | with_reducible exact rfl | (try simp (disch := omega) only [go_sem, simprocAttr, setE]; with_reducible exact rfl))))
 refine wpc_while (ι := Nat) (fun i => i ≤ b % 64) (fun i => b % 64 - i) (fun i => [(1, .int .i64 b), (5, .int .u64 ((x (b / 64) / 2 ^ i : Nat) : Int)), (6, .int .i64 i)]) (fun _ => H ++ [some (.row 4 [setE x])]) 0 (by omega) ?_ ?_ ?_ ?_ ?_
 ·(repeat' (first | exact trivial | refine And.intro (And.intro ?_ ?_) ?_)) <;> first | exact rfl | (simp (disch := omega) only [go_sem, simprocAttr, Nat.pow_zero, Nat.div_one, EV.ok, okL_tab_int, okL_tab_bool, okL_app, okL, decide_eq_true_eq, EV.int.injEq]; done) | (simp (disch := omega) only [go_sem, simprocAttr, Nat.pow_zero, Nat.div_one, EV.ok, okL_tab_int, okL_tab_bool, okL_app, okL, decide_eq_true_eq, EV.int.injEq] <;> first | exact rfl | omega)
 ·rfl
 ·exact fun i _ => okH_app hok (by simp [okG, EB.ok, okL, setE, EV.ok, okL_tab_int])
 ·simp
 ·intro i hi K Q' hK hQ'
  have h1 := hx (b / 64)
  have h2 : x (b / 64) / 2 ^ i ≤ x (b / 64) := Nat.div_le_self _ _
  obtain ⟨q, hq⟩ : ∃ q, x (b / 64) / 2 ^ i = q := ⟨_, rfl⟩
  rw [hq] at h2
  repeat' first | (with_reducible first | apply qa | apply qb | apply qc | apply qd | apply qe | apply qf | apply qg | apply qh | apply qi | apply qj | apply qk | apply ql | apply qm | apply qn | apply qo | apply qp | apply qq | apply qr | apply qs | apply qt | apply qu | exact keep_same | exact keep_true) | (with_reducible refine block_exit_other ?_ ?_; decide) | ((with_reducible refine keep_rfl ?_); exact rfl) | ((with_reducible first | apply qv | apply qw | apply qx); focus (simp (disch := omega) only [go_sem, simprocAttr]; with_reducible first | exact lit_t | exact lit_f)) | ((with_reducible first | apply qy | apply qz); focus (simp (disch := omega) only [go_sem, simprocAttr]; done)) | ((with_reducible first | apply q26 | apply q27 | apply q28); focus (simp (disch := omega) only [go_sem, simprocAttr]; first | with_reducible exact rfl | (rw [if_pos (by first | omega | (constructor <;> omega) | (simp; done) | assumption)]; first | with_reducible exact rfl | (try simp (disch := omega) only [go_sem, simprocAttr]; with_reducible exact rfl))))
  refine wpc_cond (t := decide ((i : Int) < (b % 64 : Nat))) (by simp (disch := omega) only [go_sem, simprocAttr]) (fun ht => ?_) (fun ht => ?_)
  ·have hil : i < b % 64 := by have := of_decide_eq_true ht; omega
   repeat' first | (with_reducible first | apply qa | apply qb | apply qc | apply qd | apply qe | apply qf | apply qg | apply qh | apply qi | apply qj | apply qk | apply ql | apply qm | apply qn | apply qo | apply qp | apply qq | apply qr | apply qs | apply qt | apply qu | exact keep_same | exact keep_true) | (with_reducible refine block_exit_other ?_ ?_; decide) | ((with_reducible refine keep_rfl ?_); exact rfl) | ((with_reducible first | apply qv | apply qw | apply qx); focus (simp (disch := omega) only [go_sem, simprocAttr, hq]; with_reducible first | exact lit_t | exact lit_f)) | ((with_reducible first | apply qy | apply qz); focus (simp (disch := omega) only [go_sem, simprocAttr, hq]; done)) | ((with_reducible first | apply q26 | apply q27 | apply q28); focus (simp (disch := omega) only [go_sem, simprocAttr, hq]; first | with_reducible exact rfl | (rw [if_pos (by first | omega | (constructor <;> omega) | (simp; done) | assumption)]; first | with_reducible exact rfl | (try simp (disch := omega) only [go_sem, simprocAttr, hq]; with_reducible exact rfl))))
   have e : x (b / 64) / 2 ^ (i + 1) = q / 2 := by rw [Nat.pow_succ, ← Nat.div_div_eq_div_mul, hq]
   refine hK (i + 1) _ _ [] (by omega) (by omega) (by simp) ?_
   (repeat' (first | exact trivial | refine And.intro (And.intro ?_ ?_) ?_)) <;> first | exact rfl | (simp (disch := omega) only [go_sem, simprocAttr, e, EV.ok, okL_tab_int, okL_tab_bool, okL_app, okL, decide_eq_true_eq, EV.int.injEq]; done) | (simp (disch := omega) only [go_sem, simprocAttr, e, EV.ok, okL_tab_int, okL_tab_bool, okL_app, okL, decide_eq_true_eq, EV.int.injEq] <;> first | exact rfl | omega)
  ·have hi4 : i = b % 64 := by have := of_decide_eq_false ht; omega
   subst hi4
   repeat' first | (with_reducible first | apply qa | apply qb | apply qc | apply qd | apply qe | apply qf | apply qg | apply qh | apply qi | apply qj | apply qk | apply ql | apply qm | apply qn | apply qo | apply qp | apply qq | apply qr | apply qs | apply qt | apply qu | exact keep_same | exact keep_true) | (with_reducible refine block_exit_other ?_ ?_; decide) | ((with_reducible refine keep_rfl ?_); exact rfl) | ((with_reducible first | apply qv | apply qw | apply qx); focus (simp (disch := omega) only [go_sem, simprocAttr]; with_reducible first | exact lit_t | exact lit_f)) | ((with_reducible first | apply qy | apply qz); focus (simp (disch := omega) only [go_sem, simprocAttr]; done)) | ((with_reducible first | apply q26 | apply q27 | apply q28); focus (simp (disch := omega) only [go_sem, simprocAttr]; first | with_reducible exact rfl | (rw [if_pos (by first | omega | (constructor <;> omega) | (simp; done) | assumption)]; first | with_reducible exact rfl | (try simp (disch := omega) only [go_sem, simprocAttr]; with_reducible exact rfl))))
   refine hQ' _ _ _ ?_
   repeat' first | (with_reducible first | apply qa | apply qb | apply qc | apply qd | apply qe | apply qf | apply qg | apply qh | apply qi | apply qj | apply qk | apply ql | apply qm | apply qn | apply qo | apply qp | apply qq | apply qr | apply qs | apply qt | apply qu | exact keep_same | exact keep_true) | (with_reducible refine block_exit_other ?_ ?_; decide) | ((with_reducible refine keep_rfl ?_); exact rfl) | ((with_reducible first | apply qv | apply qw | apply qx); focus (simp (disch := omega) only [go_sem, simprocAttr]; with_reducible first | exact lit_t | exact lit_f)) | ((with_reducible first | apply qy | apply qz); focus (simp (disch := omega) only [go_sem, simprocAttr]; done)) | ((with_reducible first | apply q26 | apply q27 | apply q28); focus (simp (disch := omega) only [go_sem, simprocAttr]; first | with_reducible exact rfl | (rw [if_pos (by first | omega | (constructor <;> omega) | (simp; done) | assumption)]; first | with_reducible exact rfl | (try simp (disch := omega) only [go_sem, simprocAttr]; with_reducible exact rfl))))
   refine end_drop hok (r := .bool (inSet x b)) ?_ ?_ ⟨rfl, rfl⟩
   ·first | (simp (disch := omega) only [go_sem, simprocAttr, evResults, evResL, evRes, hackleref01_Has_r, inSet, bit_num]; done) | (simp (disch := omega) only [go_sem, simprocAttr, evResults, evResL, evRes, hackleref01_Has_r, inSet, bit_num]; with_reducible exact rfl) | exact rfl
   ·first | (simp [EV.ok, okL, okL_tab_int, okL_tab_bool, okL_app, inSet, bit_num]; done)
end
end Abs
