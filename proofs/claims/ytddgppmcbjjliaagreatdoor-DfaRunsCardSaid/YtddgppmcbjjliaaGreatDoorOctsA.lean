/- A part. -/
import Derived.Test.YtddgppmcbjjliaaGreatDoorGnO
set_option linter.all false
namespace Abs
open Go Gn
set_option linter.unusedSimpArgs false
section
variable {P : Program} {γ : Nat → EV}
def WordsOk (P : Program) (γ : Nat → EV) (f : FuncId) (g : Nat → Nat → Nat) : Prop :=
 ∀ (H : Heap) (x y : Nat), x < 18446744073709551616 → y < 18446744073709551616 → CallsA P γ f [.int .u64 x, .int .u64 y] H fun er H' => er = .ret (.int .u64 (g x y)) ∧ H' = H
theorem both_c1_ok {f : FuncId} (hb : Body P f octs_Both_c1 octs_Both_c1_r 8) : WordsOk P γ f (· &&& ·) := by
 intro H x y hx hy
 refine hb.calls (by simp) fun hok => ?_
 unfold octs_Both_c1
 repeat' first | (with_reducible first | apply qa | apply qb | apply qc | apply qd | apply qe | apply qf | apply qg | apply qh | apply qi | apply qj | apply qk | apply ql | apply qm | apply qn | apply qo | apply qp | apply qq | apply qr | apply qs | apply qt | apply qu | exact keep_same | exact keep_true) | (with_reducible refine block_exit_other ?_ ?_; decide) | ((with_reducible refine keep_rfl ?_); exact rfl) | ((with_reducible first | apply qv | apply qw | apply qx); focus (simp (disch := omega) only [go_sem, ↓reduceIte, simprocAttr]; with_reducible first | exact lit_t | exact lit_f)) | ((with_reducible first | apply qy | apply qz); focus (simp (disch := omega) only [go_sem, ↓reduceIte, simprocAttr]; done)) | ((with_reducible first | apply q26 | apply q27 | apply q28); focus (simp (disch := omega) only [go_sem, ↓reduceIte, simprocAttr]; first | with_reducible exact rfl | (rw [if_pos (by first | omega | (constructor <;> omega) | (simp; done) | assumption)]; first | with_reducible exact rfl | (try simp (disch := omega) only [go_sem, ↓reduceIte, simprocAttr]; with_reducible exact rfl))))
 exact end_same hok (r := .int .u64 (bitsOp .and .u64 x y)) rfl rfl ⟨by rw [bits_and hx hy], rfl⟩
def setE (w : Nat → Nat) : EV := .agg (tab 4 fun i => .int .u64 (w i))
def Words (w : Nat → Nat) : Prop := ∀ i, w i < 18446744073709551616
set_option maxHeartbeats 4000000 in
theorem each_ok {f g : FuncId} {op : Nat → Nat → Nat} (hb : Body P f octs_each octs_each_r 23) (hg : WordsOk P γ g op) (x y : Nat → Nat) (hx : Words x) (hy : Words y) (H : Heap) :
  CallsA P γ f [setE x, setE y, .func (.func g) [] []] H fun er H' => er = .ret (setE fun i => op (x i) (y i)) ∧ H' = H := by
 refine hb.calls (by simp) fun hok => ?_
 unfold octs_each
 repeat' first | (with_reducible first | apply qa | apply qb | apply qc | apply qd | apply qe | apply qf | apply qg | apply qh | apply qi | apply qj | apply qk | apply ql | apply qm | apply qn | apply qo | apply qp | apply qq | apply qr | apply qs | apply qt | apply qu | exact keep_same | exact keep_true) | (with_reducible refine block_exit_other ?_ ?_; decide) | ((with_reducible refine keep_rfl ?_); exact rfl) | ((with_reducible first | apply qv | apply qw | apply qx); focus (simp (disch := omega) only [go_sem, ↓reduceIte, simprocAttr, setE]; with_reducible first | exact lit_t | exact lit_f)) | ((with_reducible first | apply qy | apply qz); focus (simp (disch := omega) only [go_sem, ↓reduceIte, simprocAttr, setE]; done)) | ((with_reducible first | apply q26 | apply q27 | apply q28); focus (simp (disch := omega) only [go_sem, ↓reduceIte, simprocAttr, setE]; first | with_reducible exact rfl | (rw [if_pos (by first | omega | (constructor <;> omega) | (simp; done) | assumption)]; first | with_reducible exact rfl | (try simp (disch := omega) only [go_sem, ↓reduceIte, simprocAttr, setE]; with_reducible exact rfl))))
 refine wpc_while (ι := Nat) (fun i => i ≤ 4) (fun i => 4 - i) (fun i => [(2, .func (.func g) [] []), (3, .ptr H.length 4 0 0), (4, .ptr (H.length + 1) 4 0 0), (6, .ptr (H.length + 2) 4 0 0), (8, .int .i64 i)])
  (fun i => H ++ [some (.row 4 [setE fun j => if j < i then op (x j) (y j) else x j]), some (.row 4 [setE y]), some (.row 4 [setE fun _ => 0])]) 0 (by omega) ?_ ?_ ?_ ?_ ?_
 ·(repeat' (first | exact trivial | refine And.intro (And.intro ?_ ?_) ?_)) <;> first | exact rfl | (simp (disch := omega) only [go_sem, ↓reduceIte, simprocAttr, EV.ok, okL_tab_int, okL_tab_bool, okL_app, okL, decide_eq_true_eq, EV.int.injEq]; done) | (simp (disch := omega) only [go_sem, ↓reduceIte, simprocAttr, EV.ok, okL_tab_int, okL_tab_bool, okL_app, okL, decide_eq_true_eq, EV.int.injEq] <;> first | exact rfl | omega)
 ·simp [setE]
 ·exact fun i _ => okH_app hok (by simp [okG, EB.ok, okL, setE, EV.ok, okL_tab_int])
 ·simp
 ·intro i hi K Q' hK hQ'
  repeat' first | (with_reducible first | apply qa | apply qb | apply qc | apply qd | apply qe | apply qf | apply qg | apply qh | apply qi | apply qj | apply qk | apply ql | apply qm | apply qn | apply qo | apply qp | apply qq | apply qr | apply qs | apply qt | apply qu | exact keep_same | exact keep_true) | (with_reducible refine block_exit_other ?_ ?_; decide) | ((with_reducible refine keep_rfl ?_); exact rfl) | ((with_reducible first | apply qv | apply qw | apply qx); focus (simp (disch := omega) only [go_sem, ↓reduceIte, simprocAttr, setE]; with_reducible first | exact lit_t | exact lit_f)) | ((with_reducible first | apply qy | apply qz); focus (simp (disch := omega) only [go_sem, ↓reduceIte, simprocAttr, setE]; done)) | ((with_reducible first | apply q26 | apply q27 | apply q28); focus (simp (disch := omega) only [go_sem, ↓reduceIte, simprocAttr, setE]; first | with_reducible exact rfl | (rw [if_pos (by first | omega | (constructor <;> omega) | (simp; done) | assumption)]; first | with_reducible exact rfl | (try simp (disch := omega) only [go_sem, ↓reduceIte, simprocAttr, setE]; with_reducible exact rfl))))
  refine wpc_cond (t := decide ((i : Int) < 4)) (by simp (disch := omega) only [go_sem, ↓reduceIte, simprocAttr]) (fun ht => ?_) (fun ht => ?_)
  ·have hi4 : i < 4 := by have := of_decide_eq_true ht; omega
   repeat' first | (with_reducible first | apply qa | apply qb | apply qc | apply qd | apply qe | apply qf | apply qg | apply qh | apply qi | apply qj | apply qk | apply ql | apply qm | apply qn | apply qo | apply qp | apply qq | apply qr | apply qs | apply qt | apply qu | exact keep_same | exact keep_true) | (with_reducible refine block_exit_other ?_ ?_; decide) | ((with_reducible refine keep_rfl ?_); exact rfl) | ((with_reducible first | apply qv | apply qw | apply qx); focus (simp (disch := omega) only [go_sem, ↓reduceIte, simprocAttr, setE]; with_reducible first | exact lit_t | exact lit_f)) | ((with_reducible first | apply qy | apply qz); focus (simp (disch := omega) only [go_sem, ↓reduceIte, simprocAttr, setE]; done)) | ((with_reducible first | apply q26 | apply q27 | apply q28); focus (simp (disch := omega) only [go_sem, ↓reduceIte, simprocAttr, setE]; first | with_reducible exact rfl | (rw [if_pos (by first | omega | (constructor <;> omega) | (simp; done) | assumption)]; first | with_reducible exact rfl | (try simp (disch := omega) only [go_sem, ↓reduceIte, simprocAttr, setE]; with_reducible exact rfl))))
   with_reducible apply wdr_call
   ·first | exact rfl | (simp (disch := omega) only [go_sem, ↓reduceIte, simprocAttr, setE]; exact rfl)
   ·(simp (disch := omega) only [go_sem, ↓reduceIte, simprocAttr, setE]; exact rfl)
   ·exact hg _ _ _ (hx _) (hy _)
   ·exact fun _ => rfl
   repeat' first | (with_reducible first | apply qa | apply qb | apply qc | apply qd | apply qe | apply qf | apply qg | apply qh | apply qi | apply qj | apply qk | apply ql | apply qm | apply qn | apply qo | apply qp | apply qq | apply qr | apply qs | apply qt | apply qu | exact keep_same | exact keep_true) | (with_reducible refine block_exit_other ?_ ?_; decide) | ((with_reducible refine keep_rfl ?_); exact rfl) | ((with_reducible first | apply qv | apply qw | apply qx); focus (simp (disch := omega) only [go_sem, ↓reduceIte, simprocAttr, setE]; with_reducible first | exact lit_t | exact lit_f)) | ((with_reducible first | apply qy | apply qz); focus (simp (disch := omega) only [go_sem, ↓reduceIte, simprocAttr, setE]; done)) | ((with_reducible first | apply q26 | apply q27 | apply q28); focus (simp (disch := omega) only [go_sem, ↓reduceIte, simprocAttr, setE]; first | with_reducible exact rfl | (rw [if_pos (by first | omega | (constructor <;> omega) | (simp; done) | assumption)]; first | with_reducible exact rfl | (try simp (disch := omega) only [go_sem, ↓reduceIte, simprocAttr, setE]; with_reducible exact rfl))))
   refine hK (i + 1) _ _ [] (by omega) (by omega) ?_ ?_
   ·have e := sweep (κ := .u64) (a := fun j => op (x j) (y j)) (b := x) (i := i)
    simp only [setE, e, Int.natCast_zero, List.append_nil]
   ·(repeat' (first | exact trivial | refine And.intro (And.intro ?_ ?_) ?_)) <;> first | exact rfl | (simp (disch := omega) only [go_sem, ↓reduceIte, simprocAttr, EV.ok, okL_tab_int, okL_tab_bool, okL_app, okL, decide_eq_true_eq, EV.int.injEq]; done) | (simp (disch := omega) only [go_sem, ↓reduceIte, simprocAttr, EV.ok, okL_tab_int, okL_tab_bool, okL_app, okL, decide_eq_true_eq, EV.int.injEq] <;> first | exact rfl | omega)
  ·have hi4 : i = 4 := by have := of_decide_eq_false ht; omega
   subst hi4
   repeat' first | (with_reducible first | apply qa | apply qb | apply qc | apply qd | apply qe | apply qf | apply qg | apply qh | apply qi | apply qj | apply qk | apply ql | apply qm | apply qn | apply qo | apply qp | apply qq | apply qr | apply qs | apply qt | apply qu | exact keep_same | exact keep_true) | (with_reducible refine block_exit_other ?_ ?_; decide) | ((with_reducible refine keep_rfl ?_); exact rfl) | ((with_reducible first | apply qv | apply qw | apply qx); focus (simp (disch := omega) only [go_sem, ↓reduceIte, simprocAttr]; with_reducible first | exact lit_t | exact lit_f)) | ((with_reducible first | apply qy | apply qz); focus (simp (disch := omega) only [go_sem, ↓reduceIte, simprocAttr]; done)) | ((with_reducible first | apply q26 | apply q27 | apply q28); focus (simp (disch := omega) only [go_sem, ↓reduceIte, simprocAttr]; first | with_reducible exact rfl | (rw [if_pos (by first | omega | (constructor <;> omega) | (simp; done) | assumption)]; first | with_reducible exact rfl | (try simp (disch := omega) only [go_sem, ↓reduceIte, simprocAttr]; with_reducible exact rfl))))
   refine hQ' _ _ _ ?_
   repeat' first | (with_reducible first | apply qa | apply qb | apply qc | apply qd | apply qe | apply qf | apply qg | apply qh | apply qi | apply qj | apply qk | apply ql | apply qm | apply qn | apply qo | apply qp | apply qq | apply qr | apply qs | apply qt | apply qu | exact keep_same | exact keep_true) | (with_reducible refine block_exit_other ?_ ?_; decide) | ((with_reducible refine keep_rfl ?_); exact rfl) | ((with_reducible first | apply qv | apply qw | apply qx); focus (simp (disch := omega) only [go_sem, ↓reduceIte, simprocAttr, setE]; with_reducible first | exact lit_t | exact lit_f)) | ((with_reducible first | apply qy | apply qz); focus (simp (disch := omega) only [go_sem, ↓reduceIte, simprocAttr, setE]; done)) | ((with_reducible first | apply q26 | apply q27 | apply q28); focus (simp (disch := omega) only [go_sem, ↓reduceIte, simprocAttr, setE]; first | with_reducible exact rfl | (rw [if_pos (by first | omega | (constructor <;> omega) | (simp; done) | assumption)]; first | with_reducible exact rfl | (try simp (disch := omega) only [go_sem, ↓reduceIte, simprocAttr, setE]; with_reducible exact rfl))))
   refine end_drop hok (r := setE fun i => op (x i) (y i)) ?_ ?_ ⟨rfl, rfl⟩
   ·first | (simp (disch := omega) only [go_sem, ↓reduceIte, simprocAttr, evResults, evResL, evRes, octs_each_r, setE]; done) | (simp (disch := omega) only [go_sem, ↓reduceIte, simprocAttr, evResults, evResL, evRes, octs_each_r, setE]; with_reducible exact rfl) | exact rfl
   ·first | (simp [EV.ok, okL, okL_tab_int, okL_tab_bool, okL_app, setE]; done)
theorem setE_ok {n : Nat} {w : Nat → Nat} : (setE w).ok n = true := by simp [setE, EV.ok, okL_tab_int]
theorem both_ok {f fe fc : FuncId} (hb : Body P f (octs_Both fc fe) octs_Both_r 8) (he : Body P fe octs_each octs_each_r 23) (hc : Body P fc octs_Both_c1 octs_Both_c1_r 8) (x y : Nat → Nat) (hx : Words x) (hy : Words y) (H : Heap) :
  CallsA P γ f [setE x, setE y] H fun er H' => er = .ret (setE fun i => x i &&& y i) ∧ H' = H := by
 refine hb.calls (by simp) fun hok => ?_
 unfold octs_Both
 repeat' first | (with_reducible first | apply qa | apply qb | apply qc | apply qd | apply qe | apply qf | apply qg | apply qh | apply qi | apply qj | apply qk | apply ql | apply qm | apply qn | apply qo | apply qp | apply qq | apply qr | apply qs | apply qt | apply qu | exact keep_same | exact keep_true) | (with_reducible refine block_exit_other ?_ ?_; decide) | ((with_reducible refine keep_rfl ?_); exact rfl) | ((with_reducible first | apply qv | apply qw | apply qx); focus (simp (disch := omega) only [go_sem, ↓reduceIte, simprocAttr, setE]; with_reducible first | exact lit_t | exact lit_f)) | ((with_reducible first | apply qy | apply qz); focus (simp (disch := omega) only [go_sem, ↓reduceIte, simprocAttr, setE]; done)) | ((with_reducible first | apply q26 | apply q27 | apply q28); focus (simp (disch := omega) only [go_sem, ↓reduceIte, simprocAttr, setE]; first | with_reducible exact rfl | (rw [if_pos (by first | omega | (constructor <;> omega) | (simp; done) | assumption)]; first | with_reducible exact rfl | (try simp (disch := omega) only [go_sem, ↓reduceIte, simprocAttr, setE]; with_reducible exact rfl))))
 with_reducible apply wops_call1
 ·first | exact rfl | (simp (disch := omega) only [go_sem, ↓reduceIte, simprocAttr, setE]; exact rfl)
 ·(simp (disch := omega) only [go_sem, ↓reduceIte, simprocAttr, setE]; exact rfl)
 ·exact each_ok he (both_c1_ok hc) x y hx hy _
 repeat' first | (with_reducible first | apply qa | apply qb | apply qc | apply qd | apply qe | apply qf | apply qg | apply qh | apply qi | apply qj | apply qk | apply ql | apply qm | apply qn | apply qo | apply qp | apply qq | apply qr | apply qs | apply qt | apply qu | exact keep_same | exact keep_true) | (with_reducible refine block_exit_other ?_ ?_; decide) | ((with_reducible refine keep_rfl ?_); exact rfl) | ((with_reducible first | apply qv | apply qw | apply qx); focus (simp (disch := omega) only [go_sem, ↓reduceIte, simprocAttr, setE]; with_reducible first | exact lit_t | exact lit_f)) | ((with_reducible first | apply qy | apply qz); focus (simp (disch := omega) only [go_sem, ↓reduceIte, simprocAttr, setE]; done)) | ((with_reducible first | apply q26 | apply q27 | apply q28); focus (simp (disch := omega) only [go_sem, ↓reduceIte, simprocAttr, setE]; first | with_reducible exact rfl | (rw [if_pos (by first | omega | (constructor <;> omega) | (simp; done) | assumption)]; first | with_reducible exact rfl | (try simp (disch := omega) only [go_sem, ↓reduceIte, simprocAttr, setE]; with_reducible exact rfl))))
 refine end_drop hok (r := setE fun i => x i &&& y i) ?_ ?_ ⟨rfl, rfl⟩
 ·first | (simp (disch := omega) only [go_sem, ↓reduceIte, simprocAttr, evResults, evResL, evRes, octs_Both_r, setE]; done) | (simp (disch := omega) only [go_sem, ↓reduceIte, simprocAttr, evResults, evResL, evRes, octs_Both_r, setE]; with_reducible exact rfl) | exact rfl
 ·first | (simp [EV.ok, okL, okL_tab_int, okL_tab_bool, okL_app, setE]; done)
def wordsOf (bs : List Nat) (i : Nat) : Nat := bs.foldl (fun w b => if i = b / 64 then w ||| 2 ^ (b % 64) else w) 0
theorem pow_lt64 (b : Nat) : 2 ^ (b % 64) < 18446744073709551616 := by
 have : (2 : Nat) ^ (b % 64) ≤ 2 ^ 63 := Nat.pow_le_pow_right (by decide) (by omega)
 omega
theorem wordsOf_lt (bs : List Nat) : Words (wordsOf bs) := by
 intro i
 unfold wordsOf
 have : ∀ (bs : List Nat) (w : Nat), w < 18446744073709551616 → bs.foldl (fun w b => if i = b / 64 then w ||| 2 ^ (b % 64) else w) w < 18446744073709551616 := by
  intro bs
  induction bs with
  | nil => intro w h; exact h
  | cons b bs ih =>
   intro w h
   rw [List.foldl_cons]
   refine ih _ ?_
   split
   ·exact Nat.or_lt_two_pow (n := 64) h (pow_lt64 b)
   ·exact h
 exact this bs 0 (by omega)
def bytesE (bs : List Nat) : EV := .imm 1 (bs.map fun b => EV.int .u8 ((b : Nat) : Int))
theorem bytesE_ok {n : Nat} {bs : List Nat} : (bytesE bs).ok n = true := by
 simp only [bytesE, EV.ok, okL_iff, List.mem_map]
 rintro x ⟨b, _, rfl⟩
 rfl
set_option maxHeartbeats 4000000 in
theorem of_ok {f : FuncId} (hb : Body P f octs_Of octs_Of_r 23) (bs : List Nat) (h8 : ∀ b ∈ bs, b < 256) (hlen : bs.length < 9223372036854775807) (H : Heap) :
  CallsA P γ f [bytesE bs] H fun er H' => er = .ret (setE (wordsOf bs)) ∧ H' = H := by
 refine hb.calls (by simp) fun hok => ?_
 unfold octs_Of
 repeat' first | (with_reducible first | apply qa | apply qb | apply qc | apply qd | apply qe | apply qf | apply qg | apply qh | apply qi | apply qj | apply qk | apply ql | apply qm | apply qn | apply qo | apply qp | apply qq | apply qr | apply qs | apply qt | apply qu | exact keep_same | exact keep_true) | (with_reducible refine block_exit_other ?_ ?_; decide) | ((with_reducible refine keep_rfl ?_); exact rfl) | ((with_reducible first | apply qv | apply qw | apply qx); focus (simp (disch := omega) only [go_sem, ↓reduceIte, simprocAttr, bytesE, List.length_map]; with_reducible first | exact lit_t | exact lit_f)) | ((with_reducible first | apply qy | apply qz); focus (simp (disch := omega) only [go_sem, ↓reduceIte, simprocAttr, bytesE, List.length_map]; done)) | ((with_reducible first | apply q26 | apply q27 | apply q28); focus (simp (disch := omega) only [go_sem, ↓reduceIte, simprocAttr, bytesE, List.length_map]; first | with_reducible exact rfl | (rw [if_pos (by first | omega | (constructor <;> omega) | (simp; done) | assumption)]; first | with_reducible exact rfl | (try simp (disch := omega) only [go_sem, ↓reduceIte, simprocAttr, bytesE, List.length_map]; with_reducible exact rfl))))
 refine wpc_while (ι := Nat) (fun i => i ≤ bs.length) (fun i => bs.length - i) (fun i => [(2, .ptr H.length 4 0 0), (3, .ptr (H.length + 1) 4 0 0), (6, bytesE bs), (7, .int .i64 bs.length), (8, .int .i64 i)])
  (fun i => H ++ [some (.row 4 [setE fun _ => 0]), some (.row 4 [setE (wordsOf (bs.take i))])]) 0 (by omega) ?_ ?_ ?_ ?_ ?_
 ·(repeat' (first | exact trivial | refine And.intro (And.intro ?_ ?_) ?_)) <;> first | exact rfl | (simp (disch := omega) only [go_sem, ↓reduceIte, simprocAttr, bytesE_ok, EV.ok, okL_tab_int, okL_tab_bool, okL_app, okL, decide_eq_true_eq, EV.int.injEq]; done) | (simp (disch := omega) only [go_sem, ↓reduceIte, simprocAttr, bytesE_ok, EV.ok, okL_tab_int, okL_tab_bool, okL_app, okL, decide_eq_true_eq, EV.int.injEq] <;> first | exact rfl | omega)
 ·simp [setE, wordsOf]
 ·exact fun i _ => okH_app hok (by simp [okG, EB.ok, okL, setE, EV.ok, okL_tab_int])
 ·simp
 ·intro i hi K Q' hK hQ'
  repeat' first | (with_reducible first | apply qa | apply qb | apply qc | apply qd | apply qe | apply qf | apply qg | apply qh | apply qi | apply qj | apply qk | apply ql | apply qm | apply qn | apply qo | apply qp | apply qq | apply qr | apply qs | apply qt | apply qu | exact keep_same | exact keep_true) | (with_reducible refine block_exit_other ?_ ?_; decide) | ((with_reducible refine keep_rfl ?_); exact rfl) | ((with_reducible first | apply qv | apply qw | apply qx); focus (simp (disch := omega) only [go_sem, ↓reduceIte, simprocAttr]; with_reducible first | exact lit_t | exact lit_f)) | ((with_reducible first | apply qy | apply qz); focus (simp (disch := omega) only [go_sem, ↓reduceIte, simprocAttr]; done)) | ((with_reducible first | apply q26 | apply q27 | apply q28); focus (simp (disch := omega) only [go_sem, ↓reduceIte, simprocAttr]; first | with_reducible exact rfl | (rw [if_pos (by first | omega | (constructor <;> omega) | (simp; done) | assumption)]; first | with_reducible exact rfl | (try simp (disch := omega) only [go_sem, ↓reduceIte, simprocAttr]; with_reducible exact rfl))))
  refine wpc_cond (t := decide ((i : Int) < bs.length)) (by simp (disch := omega) only [go_sem, ↓reduceIte, simprocAttr]) (fun ht => ?_) (fun ht => ?_)
  ·have hil : i < bs.length := by have := of_decide_eq_true ht; omega
   obtain ⟨b, hbi⟩ : ∃ b, bs[i]? = some b := ⟨bs[i], by simp [hil]⟩
   have hb8 := h8 b (List.mem_of_getElem? hbi)
   have hw := wordsOf_lt (bs.take i) (b / 64)
   have hp := pow_lt64 b
   repeat' first | (with_reducible first | apply qa | apply qb | apply qc | apply qd | apply qe | apply qf | apply qg | apply qh | apply qi | apply qj | apply qk | apply ql | apply qm | apply qn | apply qo | apply qp | apply qq | apply qr | apply qs | apply qt | apply qu | exact keep_same | exact keep_true) | (with_reducible refine block_exit_other ?_ ?_; decide) | ((with_reducible refine keep_rfl ?_); exact rfl) | ((with_reducible first | apply qv | apply qw | apply qx); focus (simp (disch := omega) only [go_sem, ↓reduceIte, simprocAttr, setE, bytesE, List.getElem?_map, hbi, bits_or]; with_reducible first | exact lit_t | exact lit_f)) | ((with_reducible first | apply qy | apply qz); focus (simp (disch := omega) only [go_sem, ↓reduceIte, simprocAttr, setE, bytesE, List.getElem?_map, hbi, bits_or]; done)) | ((with_reducible first | apply q26 | apply q27 | apply q28); focus (simp (disch := omega) only [go_sem, ↓reduceIte, simprocAttr, setE, bytesE, List.getElem?_map, hbi, bits_or]; first | with_reducible exact rfl | (rw [if_pos (by first | omega | (constructor <;> omega) | (simp; done) | assumption)]; first | with_reducible exact rfl | (try simp (disch := omega) only [go_sem, ↓reduceIte, simprocAttr, setE, bytesE, List.getElem?_map, hbi, bits_or]; with_reducible exact rfl))))
   refine hK (i + 1) _ _ [] (by omega) (by omega) ?_ ?_
   ·have e : ∀ j, wordsOf (bs.take (i + 1)) j = if j = b / 64 then wordsOf (bs.take i) (b / 64) ||| 2 ^ (b % 64) else wordsOf (bs.take i) j := by
     intro j
     rw [List.take_add_one, hbi]
     simp only [wordsOf, List.foldl_append, Option.toList_some, List.foldl_cons, List.foldl_nil]
     by_cases h : j = b / 64
     ·subst h; simp
     ·rw [if_neg h, if_neg h]
    simp only [setE, e, Int.natCast_zero, List.append_nil]
   ·(repeat' (first | exact trivial | refine And.intro (And.intro ?_ ?_) ?_)) <;> first | exact rfl | (simp (disch := omega) only [go_sem, ↓reduceIte, simprocAttr, bytesE_ok, EV.ok, okL_tab_int, okL_tab_bool, okL_app, okL, decide_eq_true_eq, EV.int.injEq]; done) | (simp (disch := omega) only [go_sem, ↓reduceIte, simprocAttr, bytesE_ok, EV.ok, okL_tab_int, okL_tab_bool, okL_app, okL, decide_eq_true_eq, EV.int.injEq] <;> first | exact rfl | omega)
  ·have hi4 : i = bs.length := by have := of_decide_eq_false ht; omega
   subst hi4
   repeat' first | (with_reducible first | apply qa | apply qb | apply qc | apply qd | apply qe | apply qf | apply qg | apply qh | apply qi | apply qj | apply qk | apply ql | apply qm | apply qn | apply qo | apply qp | apply qq | apply qr | apply qs | apply qt | apply qu | exact keep_same | exact keep_true) | (with_reducible refine block_exit_other ?_ ?_; decide) | ((with_reducible refine keep_rfl ?_); exact rfl) | ((with_reducible first | apply qv | apply qw | apply qx); focus (simp (disch := omega) only [go_sem, ↓reduceIte, simprocAttr]; with_reducible first | exact lit_t | exact lit_f)) | ((with_reducible first | apply qy | apply qz); focus (simp (disch := omega) only [go_sem, ↓reduceIte, simprocAttr]; done)) | ((with_reducible first | apply q26 | apply q27 | apply q28); focus (simp (disch := omega) only [go_sem, ↓reduceIte, simprocAttr]; first | with_reducible exact rfl | (rw [if_pos (by first | omega | (constructor <;> omega) | (simp; done) | assumption)]; first | with_reducible exact rfl | (try simp (disch := omega) only [go_sem, ↓reduceIte, simprocAttr]; with_reducible exact rfl))))
   refine hQ' _ _ _ ?_
   repeat' first | (with_reducible first | apply qa | apply qb | apply qc | apply qd | apply qe | apply qf | apply qg | apply qh | apply qi | apply qj | apply qk | apply ql | apply qm | apply qn | apply qo | apply qp | apply qq | apply qr | apply qs | apply qt | apply qu | exact keep_same | exact keep_true) | (with_reducible refine block_exit_other ?_ ?_; decide) | ((with_reducible refine keep_rfl ?_); exact rfl) | ((with_reducible first | apply qv | apply qw | apply qx); focus (simp (disch := omega) only [go_sem, ↓reduceIte, simprocAttr, setE]; with_reducible first | exact lit_t | exact lit_f)) | ((with_reducible first | apply qy | apply qz); focus (simp (disch := omega) only [go_sem, ↓reduceIte, simprocAttr, setE]; done)) | ((with_reducible first | apply q26 | apply q27 | apply q28); focus (simp (disch := omega) only [go_sem, ↓reduceIte, simprocAttr, setE]; first | with_reducible exact rfl | (rw [if_pos (by first | omega | (constructor <;> omega) | (simp; done) | assumption)]; first | with_reducible exact rfl | (try simp (disch := omega) only [go_sem, ↓reduceIte, simprocAttr, setE]; with_reducible exact rfl))))
   refine end_drop hok (r := setE (wordsOf bs)) ?_ ?_ ⟨rfl, rfl⟩
   ·first | (simp (disch := omega) only [go_sem, ↓reduceIte, simprocAttr, evResults, evResL, evRes, octs_Of_r, setE, List.take_length]; done) | (simp (disch := omega) only [go_sem, ↓reduceIte, simprocAttr, evResults, evResL, evRes, octs_Of_r, setE, List.take_length]; with_reducible exact rfl) | exact rfl
   ·first | (simp [EV.ok, okL, okL_tab_int, okL_tab_bool, okL_app, setE, List.take_length]; done)
def inSet (w : Nat → Nat) (b : Nat) : Bool := (w (b / 64)).testBit (b % 64)
theorem and_pow {x m : Nat} : x &&& 2 ^ m = 0 ↔ x.testBit m = false := by
 constructor
 ·intro h
  have := congrArg (fun z => z.testBit m) h
  simpa [Nat.testBit_and, Nat.testBit_two_pow_self] using this
 ·intro h
  apply Nat.eq_of_testBit_eq
  intro j
  rw [Nat.testBit_and, Nat.testBit_two_pow]
  by_cases e : m = j
  ·subst e; simp [h]
  ·simp [e]
theorem inSet_and (x : Nat → Nat) (b : Nat) (hb : b < 256) : (!allEq 4 (fun i => ((x i &&& wordsOf [b] i : Nat) : Int)) fun _ => 0) = inSet x b := by
 have hw : ∀ i, wordsOf [b] i = if i = b / 64 then 2 ^ (b % 64) else 0 := by
  intro i
  simp [wordsOf]
 have key : (∀ i, i < 4 → (((x i &&& wordsOf [b] i : Nat) : Int)) = 0) ↔ inSet x b = false := by
  unfold inSet
  constructor
  ·intro h
   have h1 := h (b / 64) (by omega)
   rw [hw, if_pos rfl] at h1
   exact and_pow.1 (by omega)
  ·intro h i _
   rw [hw]
   by_cases e : i = b / 64
   ·subst e; rw [if_pos rfl, and_pow.2 h]; rfl
   ·rw [if_neg e]; simp
 cases hx : inSet x b with
 | false => rw [allEq_iff.2 (key.2 hx)]; rfl
 | true =>
  cases ha : allEq 4 (fun i => ((x i &&& wordsOf [b] i : Nat) : Int)) fun _ => 0 with
  | false => rfl
  | true => rw [key.1 (allEq_iff.1 ha)] at hx; simp at hx
def HasOk (P : Program) (γ : Nat → EV) (f : FuncId) (κ : IntKind) : Prop :=
 ∀ (x : Nat → Nat) (b : Nat) (H : Heap), Words x → b < 256 → CallsA P γ f [setE x, .int κ b] H fun er H' => er = .ret (.bool (inSet x b)) ∧ H' = H
theorem has_ok {f fb fo fe fc : FuncId} (hb : Body P f (octs_Has fb fo) octs_Has_r 12) (hB : Body P fb (octs_Both fc fe) octs_Both_r 8) (hO : Body P fo octs_Of octs_Of_r 23) (he : Body P fe octs_each octs_each_r 23)
  (hc : Body P fc octs_Both_c1 octs_Both_c1_r 8) : HasOk P γ f .u8 := by
 intro x b H hx hb8
 refine hb.calls (by simp) fun hok => ?_
 unfold octs_Has
 repeat' first | (with_reducible first | apply qa | apply qb | apply qc | apply qd | apply qe | apply qf | apply qg | apply qh | apply qi | apply qj | apply qk | apply ql | apply qm | apply qn | apply qo | apply qp | apply qq | apply qr | apply qs | apply qt | apply qu | exact keep_same | exact keep_true) | (with_reducible refine block_exit_other ?_ ?_; decide) | ((with_reducible refine keep_rfl ?_); exact rfl) | ((with_reducible first | apply qv | apply qw | apply qx); focus (simp (disch := omega) only [go_sem, ↓reduceIte, simprocAttr, setE]; with_reducible first | exact lit_t | exact lit_f)) | ((with_reducible first | apply qy | apply qz); focus (simp (disch := omega) only [go_sem, ↓reduceIte, simprocAttr, setE]; done)) | ((with_reducible first | apply q26 | apply q27 | apply q28); focus (simp (disch := omega) only [go_sem, ↓reduceIte, simprocAttr, setE]; first | with_reducible exact rfl | (rw [if_pos (by first | omega | (constructor <;> omega) | (simp; done) | assumption)]; first | with_reducible exact rfl | (try simp (disch := omega) only [go_sem, ↓reduceIte, simprocAttr, setE]; with_reducible exact rfl))))
 with_reducible apply wdr_call
 ·first | exact rfl | (simp (disch := omega) only [go_sem, ↓reduceIte, simprocAttr, bytesE]; exact rfl)
 ·(simp (disch := omega) only [go_sem, ↓reduceIte, simprocAttr, bytesE]; exact rfl)
 ·exact of_ok hO [b] (by simpa using hb8) (by simp) _
 ·exact fun _ => rfl
 repeat' first | (with_reducible first | apply qa | apply qb | apply qc | apply qd | apply qe | apply qf | apply qg | apply qh | apply qi | apply qj | apply qk | apply ql | apply qm | apply qn | apply qo | apply qp | apply qq | apply qr | apply qs | apply qt | apply qu | exact keep_same | exact keep_true) | (with_reducible refine block_exit_other ?_ ?_; decide) | ((with_reducible refine keep_rfl ?_); exact rfl) | ((with_reducible first | apply qv | apply qw | apply qx); focus (simp (disch := omega) only [go_sem, ↓reduceIte, simprocAttr, setE]; with_reducible first | exact lit_t | exact lit_f)) | ((with_reducible first | apply qy | apply qz); focus (simp (disch := omega) only [go_sem, ↓reduceIte, simprocAttr, setE]; done)) | ((with_reducible first | apply q26 | apply q27 | apply q28); focus (simp (disch := omega) only [go_sem, ↓reduceIte, simprocAttr, setE]; first | with_reducible exact rfl | (rw [if_pos (by first | omega | (constructor <;> omega) | (simp; done) | assumption)]; first | with_reducible exact rfl | (try simp (disch := omega) only [go_sem, ↓reduceIte, simprocAttr, setE]; with_reducible exact rfl))))
 with_reducible apply wdr_call
 ·first | exact rfl | (simp (disch := omega) only [go_sem, ↓reduceIte, simprocAttr, setE]; exact rfl)
 ·(simp (disch := omega) only [go_sem, ↓reduceIte, simprocAttr, setE]; exact rfl)
 ·exact both_ok hB he hc x (wordsOf [b]) hx (wordsOf_lt _) _
 ·exact fun _ => rfl
 repeat' first | (with_reducible first | apply qa | apply qb | apply qc | apply qd | apply qe | apply qf | apply qg | apply qh | apply qi | apply qj | apply qk | apply ql | apply qm | apply qn | apply qo | apply qp | apply qq | apply qr | apply qs | apply qt | apply qu | exact keep_same | exact keep_true) | (with_reducible refine block_exit_other ?_ ?_; decide) | ((with_reducible refine keep_rfl ?_); exact rfl) | ((with_reducible first | apply qv | apply qw | apply qx); focus (simp (disch := omega) only [go_sem, ↓reduceIte, simprocAttr, setE]; with_reducible first | exact lit_t | exact lit_f)) | ((with_reducible first | apply qy | apply qz); focus (simp (disch := omega) only [go_sem, ↓reduceIte, simprocAttr, setE]; done)) | ((with_reducible first | apply q26 | apply q27 | apply q28); focus (simp (disch := omega) only [go_sem, ↓reduceIte, simprocAttr, setE]; first | with_reducible exact rfl | (rw [if_pos (by first | omega | (constructor <;> omega) | (simp; done) | assumption)]; first | with_reducible exact rfl | (try simp (disch := omega) only [go_sem, ↓reduceIte, simprocAttr, setE]; with_reducible exact rfl))))
 refine end_drop hok (r := .bool (inSet x b)) ?_ ?_ ⟨rfl, rfl⟩
 ·first | (simp (disch := omega) only [go_sem, ↓reduceIte, simprocAttr, evResults, evResL, evRes, octs_Has_r, inSet_and, hb8]; done) | (simp (disch := omega) only [go_sem, ↓reduceIte, simprocAttr, evResults, evResL, evRes, octs_Has_r, inSet_and, hb8]; with_reducible exact rfl) | exact rfl
 ·first | (simp [EV.ok, okL, okL_tab_int, okL_tab_bool, okL_app, inSet_and, hb8]; done)
end
open Gn
set_option maxRecDepth 20000
section
variable {P : Program} {γ : Nat → EV}
theorem any_c1_ok {f : FuncId} (hb : Body P f octs_Any_c1 octs_Any_c1_r 8) : WordsOk P γ f (· ||| ·) := by
 intro H x y hx hy
 refine hb.calls (by simp) fun hok => ?_
 unfold octs_Any_c1
 repeat' first | (with_reducible first | apply qa | apply qb | apply qc | apply qd | apply qe | apply qf | apply qg | apply qh | apply qi | apply qj | apply qk | apply ql | apply qm | apply qn | apply qo | apply qp | apply qq | apply qr | apply qs | apply qt | apply qu | exact keep_same | exact keep_true) | (with_reducible refine block_exit_other ?_ ?_; decide) | ((with_reducible refine keep_rfl ?_); exact rfl) | ((with_reducible first | apply qv | apply qw | apply qx); focus (simp (disch := omega) only [go_sem, ↓reduceIte, simprocAttr]; with_reducible first | exact lit_t | exact lit_f)) | ((with_reducible first | apply qy | apply qz); focus (simp (disch := omega) only [go_sem, ↓reduceIte, simprocAttr]; done)) | ((with_reducible first | apply q26 | apply q27 | apply q28); focus (simp (disch := omega) only [go_sem, ↓reduceIte, simprocAttr]; first | with_reducible exact rfl | (rw [if_pos (by first | omega | (constructor <;> omega) | (simp; done) | assumption)]; first | with_reducible exact rfl | (try simp (disch := omega) only [go_sem, ↓reduceIte, simprocAttr]; with_reducible exact rfl))))
 exact end_same hok (r := .int .u64 (bitsOp .or .u64 x y)) rfl rfl ⟨by rw [bits_or hx hy], rfl⟩
theorem any_ok {f fe fc : FuncId} (hb : Body P f (octs_Any fc fe) octs_Any_r 8) (he : Body P fe octs_each octs_each_r 23) (hc : Body P fc octs_Any_c1 octs_Any_c1_r 8) (x y : Nat → Nat) (hx : Words x) (hy : Words y) (H : Heap) :
  CallsA P γ f [setE x, setE y] H fun er H' => er = .ret (setE fun i => x i ||| y i) ∧ H' = H := by
 refine hb.calls (by simp) fun hok => ?_
 unfold octs_Any
 repeat' first | (with_reducible first | apply qa | apply qb | apply qc | apply qd | apply qe | apply qf | apply qg | apply qh | apply qi | apply qj | apply qk | apply ql | apply qm | apply qn | apply qo | apply qp | apply qq | apply qr | apply qs | apply qt | apply qu | exact keep_same | exact keep_true) | (with_reducible refine block_exit_other ?_ ?_; decide) | ((with_reducible refine keep_rfl ?_); exact rfl) | ((with_reducible first | apply qv | apply qw | apply qx); focus (simp (disch := omega) only [go_sem, ↓reduceIte, simprocAttr, setE]; with_reducible first | exact lit_t | exact lit_f)) | ((with_reducible first | apply qy | apply qz); focus (simp (disch := omega) only [go_sem, ↓reduceIte, simprocAttr, setE]; done)) | ((with_reducible first | apply q26 | apply q27 | apply q28); focus (simp (disch := omega) only [go_sem, ↓reduceIte, simprocAttr, setE]; first | with_reducible exact rfl | (rw [if_pos (by first | omega | (constructor <;> omega) | (simp; done) | assumption)]; first | with_reducible exact rfl | (try simp (disch := omega) only [go_sem, ↓reduceIte, simprocAttr, setE]; with_reducible exact rfl))))
 with_reducible apply wops_call1
 ·first | exact rfl | (simp (disch := omega) only [go_sem, ↓reduceIte, simprocAttr, setE]; exact rfl)
 ·(simp (disch := omega) only [go_sem, ↓reduceIte, simprocAttr, setE]; exact rfl)
 ·exact each_ok he (any_c1_ok hc) x y hx hy _
 repeat' first | (with_reducible first | apply qa | apply qb | apply qc | apply qd | apply qe | apply qf | apply qg | apply qh | apply qi | apply qj | apply qk | apply ql | apply qm | apply qn | apply qo | apply qp | apply qq | apply qr | apply qs | apply qt | apply qu | exact keep_same | exact keep_true) | (with_reducible refine block_exit_other ?_ ?_; decide) | ((with_reducible refine keep_rfl ?_); exact rfl) | ((with_reducible first | apply qv | apply qw | apply qx); focus (simp (disch := omega) only [go_sem, ↓reduceIte, simprocAttr, setE]; with_reducible first | exact lit_t | exact lit_f)) | ((with_reducible first | apply qy | apply qz); focus (simp (disch := omega) only [go_sem, ↓reduceIte, simprocAttr, setE]; done)) | ((with_reducible first | apply q26 | apply q27 | apply q28); focus (simp (disch := omega) only [go_sem, ↓reduceIte, simprocAttr, setE]; first | with_reducible exact rfl | (rw [if_pos (by first | omega | (constructor <;> omega) | (simp; done) | assumption)]; first | with_reducible exact rfl | (try simp (disch := omega) only [go_sem, ↓reduceIte, simprocAttr, setE]; with_reducible exact rfl))))
 refine end_drop hok (r := setE fun i => x i ||| y i) ?_ ?_ ⟨rfl, rfl⟩
 ·first | (simp (disch := omega) only [go_sem, ↓reduceIte, simprocAttr, evResults, evResL, evRes, octs_Any_r, setE]; done) | (simp (disch := omega) only [go_sem, ↓reduceIte, simprocAttr, evResults, evResL, evRes, octs_Any_r, setE]; with_reducible exact rfl) | exact rfl
 ·first | (simp [EV.ok, okL, okL_tab_int, okL_tab_bool, okL_app, setE]; done)
end
end Abs
