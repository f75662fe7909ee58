/- A part. -/
import Derived.Test.YtddgppmcbjjliaaGreatDoorOctsB
set_option linter.all false
namespace Abs
open Go Gn
set_option maxRecDepth 20000
def mwN (of : Nat → Nat) (k : Int) : Nat → Nat → Nat
 | 0, _ => 0
 | t + 1, i => if ((of t : Nat) : Int) = k then mwN of k t i ||| wordsOf [t] i else mwN of k t i
theorem mwN_lt (of : Nat → Nat) (k : Int) : ∀ t, Words (mwN of k t)
 | 0 => fun i => by simp [mwN]
 | t + 1 => fun i => by
  simp only [mwN]
  split
  ·exact Nat.or_lt_two_pow (n := 64) (mwN_lt of k t i) (wordsOf_lt [t] i)
  ·exact mwN_lt of k t i
theorem mwN_bit (of : Nat → Nat) (k : Int) (b : Nat) (hb : b < 256) : ∀ t, t ≤ 256 → inSet (mwN of k t) b = (decide (b < t) && decide (((of b : Nat) : Int) = k))
 | 0, _ => by simp [mwN, inSet]
 | t + 1, ht => by
  have ih := mwN_bit of k b hb t (by omega)
  have hw := wordsOf_bit [t] (by simp; omega) b hb
  unfold inSet at ih hw ⊢
  simp only [mwN]
  by_cases e : ((of t : Nat) : Int) = k
  ·rw [if_pos e, Nat.testBit_or, ih, hw]
   by_cases h : b = t
   ·subst h; simp [e]
   ·have : (b < t + 1) ↔ b < t := by omega
    simp [h, this]
  ·rw [if_neg e, ih]
   by_cases h : b = t
   ·subst h; simp [e]
   ·have : (b < t + 1) ↔ b < t := by omega
    simp [this]
theorem mwN_zero (of : Nat → Nat) (k : Int) : mwN of k 0 = fun _ => 0 := rfl
theorem mwN_succ (of : Nat → Nat) (k : Int) (t : Nat) : mwN of k (t + 1) = fun i => if ((of t : Nat) : Int) = k then mwN of k t i ||| wordsOf [t] i else mwN of k t i := rfl
noncomputable def membW (of : Nat → Nat) (n k : Int) : Nat → Nat := if mayC of n = true then mwN of k 256 else fun _ => 0
theorem membW_words (of : Nat → Nat) (n k : Int) : Words (membW of n k) := by
 unfold membW
 split
 ·exact mwN_lt of k 256
 ·intro i; simp
theorem membW_bit (of : Nat → Nat) (n k : Int) (b : Nat) (hb : b < 256) : inSet (membW of n k) b = (mayC of n && decide (((of b : Nat) : Int) = k)) := by
 unfold membW
 split
 ·rename_i h
  rw [mwN_bit of k b hb 256 (Nat.le_refl _), h]
  simp [hb]
 ·rename_i h
  have : mayC of n = false := by simpa using h
  rw [this]
  simp [inSet]
attribute [local irreducible] bytesF wordsOf nextZ mwN membW
section
variable {P : Program} {γ : Nat → EV}
def MayOk (P : Program) (γ : Nat → EV) (f : FuncId) : Prop :=
 ∀ (of : Nat → Nat) (n : Int) (H : Heap), (∀ b, b < 256 → of b < 256) → CallsA P γ f [classesE of n] H fun er H' => er = .ret (.bool (mayC of n)) ∧ H' = H
def MembOk (P : Program) (γ : Nat → EV) (f : FuncId) : Prop :=
 ∀ (of : Nat → Nat) (n k : Int) (H : Heap), (∀ b, b < 256 → of b < 256) → CallsA P γ f [classesE of n, .int .i64 k] H fun er H' => er = .ret (setE (membW of n k)) ∧ H' = H
set_option maxHeartbeats 8000000 in
theorem memb_ok {f fm fa fo : FuncId} (hb : Body P f (class_Members fm fa fo) class_Members_r 29) (hm : MayOk P γ fm) (ha : ∀ (x y : Nat → Nat) (H : Heap), Words x → Words y → CallsA P γ fa [setE x, setE y] H fun er H' => er = .ret (setE fun i => x i ||| y i) ∧ H' = H)
  (ho : Body P fo octs_Of octs_Of_r 23) : MembOk P γ f := by
 intro of n k H hof
 refine hb.calls (by simp) fun hok => ?_
 unfold class_Members
 repeat' first | (with_reducible first | apply qa | apply qb | apply qc | apply qd | apply qe | apply qf | apply qg | apply qh | apply qi | apply qj | apply qk | apply ql | apply qm | apply qn | apply qo | apply qp | apply qq | apply qr | apply qs | apply qt | apply qu | exact keep_same | exact keep_true) | (with_reducible refine block_exit_other ?_ ?_; decide) | ((with_reducible refine keep_rfl ?_); exact rfl) | ((with_reducible first | apply qv | apply qw | apply qx); focus (simp (disch := omega) only [go_sem, ↓reduceIte, simprocAttr, classesE]; with_reducible first | exact lit_t | exact lit_f)) | ((with_reducible first | apply qy | apply qz); focus (simp (disch := omega) only [go_sem, ↓reduceIte, simprocAttr, classesE]; done)) | ((with_reducible first | apply q26 | apply q27 | apply q28); focus (simp (disch := omega) only [go_sem, ↓reduceIte, simprocAttr, classesE]; first | with_reducible exact rfl | (rw [if_pos (by first | omega | (constructor <;> omega) | (simp; done) | assumption)]; first | with_reducible exact rfl | (try simp (disch := omega) only [go_sem, ↓reduceIte, simprocAttr, classesE]; with_reducible exact rfl))))
 with_reducible apply wops_call1
 ·first | exact rfl | (simp (disch := omega) only [go_sem, ↓reduceIte, simprocAttr, classesE]; exact rfl)
 ·(simp (disch := omega) only [go_sem, ↓reduceIte, simprocAttr, classesE]; exact rfl)
 ·exact hm of n _ hof
 cases hmay : mayC of n
 ·have hw : membW of n k = fun _ => 0 := by unfold membW; rw [hmay]; rfl
  repeat' first | (with_reducible first | apply qa | apply qb | apply qc | apply qd | apply qe | apply qf | apply qg | apply qh | apply qi | apply qj | apply qk | apply ql | apply qm | apply qn | apply qo | apply qp | apply qq | apply qr | apply qs | apply qt | apply qu | exact keep_same | exact keep_true) | (with_reducible refine block_exit_other ?_ ?_; decide) | ((with_reducible refine keep_rfl ?_); exact rfl) | ((with_reducible first | apply qv | apply qw | apply qx); focus (simp (disch := omega) only [go_sem, ↓reduceIte, simprocAttr, hmay]; with_reducible first | exact lit_t | exact lit_f)) | ((with_reducible first | apply qy | apply qz); focus (simp (disch := omega) only [go_sem, ↓reduceIte, simprocAttr, hmay]; done)) | ((with_reducible first | apply q26 | apply q27 | apply q28); focus (simp (disch := omega) only [go_sem, ↓reduceIte, simprocAttr, hmay]; first | with_reducible exact rfl | (rw [if_pos (by first | omega | (constructor <;> omega) | (simp; done) | assumption)]; first | with_reducible exact rfl | (try simp (disch := omega) only [go_sem, ↓reduceIte, simprocAttr, hmay]; with_reducible exact rfl))))
  refine end_drop hok (r := setE (membW of n k)) ?_ ?_ ⟨rfl, rfl⟩
  ·first | (simp (disch := omega) only [go_sem, ↓reduceIte, simprocAttr, evResults, evResL, evRes, class_Members_r, hw, setE, Int.natCast_zero]; done) | (simp (disch := omega) only [go_sem, ↓reduceIte, simprocAttr, evResults, evResL, evRes, class_Members_r, hw, setE, Int.natCast_zero]; with_reducible exact rfl) | exact rfl
  ·first | (simp [EV.ok, okL, okL_tab_int, okL_tab_bool, okL_app, hw, setE, Int.natCast_zero]; done)
 have hw : membW of n k = mwN of k 256 := by unfold membW; rw [hmay]; rfl
 repeat' first | (with_reducible first | apply qa | apply qb | apply qc | apply qd | apply qe | apply qf | apply qg | apply qh | apply qi | apply qj | apply qk | apply ql | apply qm | apply qn | apply qo | apply qp | apply qq | apply qr | apply qs | apply qt | apply qu | exact keep_same | exact keep_true) | (with_reducible refine block_exit_other ?_ ?_; decide) | ((with_reducible refine keep_rfl ?_); exact rfl) | ((with_reducible first | apply qv | apply qw | apply qx); focus (simp (disch := omega) only [go_sem, ↓reduceIte, simprocAttr, hmay]; with_reducible first | exact lit_t | exact lit_f)) | ((with_reducible first | apply qy | apply qz); focus (simp (disch := omega) only [go_sem, ↓reduceIte, simprocAttr, hmay]; done)) | ((with_reducible first | apply q26 | apply q27 | apply q28); focus (simp (disch := omega) only [go_sem, ↓reduceIte, simprocAttr, hmay]; first | with_reducible exact rfl | (rw [if_pos (by first | omega | (constructor <;> omega) | (simp; done) | assumption)]; first | with_reducible exact rfl | (try simp (disch := omega) only [go_sem, ↓reduceIte, simprocAttr, hmay]; with_reducible exact rfl))))
 refine wpc_while (ι := Nat) (fun t => t ≤ 256) (fun t => 256 - t) (fun t => [(1, .int .i64 k), (2, .ptr H.length 257 0 0), (4, .ptr (H.length + 1) 4 0 0), (5, .ptr (H.length + 2) 4 0 0), (11, .int .i64 (t : Int))])
  (fun t => H ++ [some (.row 257 [classesE of n]), some (.row 4 [setE fun _ => 0]), some (.row 4 [setE (mwN of k t)])]) 0 (by omega) ?_ ?_ ?_ ?_ ?_
 ·(repeat' (first | exact trivial | refine And.intro (And.intro ?_ ?_) ?_)) <;> first | exact rfl | (simp (disch := omega) only [go_sem, ↓reduceIte, simprocAttr, EV.ok, okL_tab_int, okL_tab_bool, okL_app, okL, decide_eq_true_eq, EV.int.injEq]; done) | (simp (disch := omega) only [go_sem, ↓reduceIte, simprocAttr, EV.ok, okL_tab_int, okL_tab_bool, okL_app, okL, decide_eq_true_eq, EV.int.injEq] <;> first | exact rfl | omega)
 ·simp [setE, classesE, mwN_zero]
 ·exact fun i _ => okH_app hok (by simp [EB.ok, okG, okL, classesE, setE, EV.ok, okL_tab_int, okL_app])
 ·simp
 ·intro t ht K Q' hK hQ'
  repeat' first | (with_reducible first | apply qa | apply qb | apply qc | apply qd | apply qe | apply qf | apply qg | apply qh | apply qi | apply qj | apply qk | apply ql | apply qm | apply qn | apply qo | apply qp | apply qq | apply qr | apply qs | apply qt | apply qu | exact keep_same | exact keep_true) | (with_reducible refine block_exit_other ?_ ?_; decide) | ((with_reducible refine keep_rfl ?_); exact rfl) | ((with_reducible first | apply qv | apply qw | apply qx); focus (simp (disch := omega) only [go_sem, ↓reduceIte, simprocAttr]; with_reducible first | exact lit_t | exact lit_f)) | ((with_reducible first | apply qy | apply qz); focus (simp (disch := omega) only [go_sem, ↓reduceIte, simprocAttr]; done)) | ((with_reducible first | apply q26 | apply q27 | apply q28); focus (simp (disch := omega) only [go_sem, ↓reduceIte, simprocAttr]; first | with_reducible exact rfl | (rw [if_pos (by first | omega | (constructor <;> omega) | (simp; done) | assumption)]; first | with_reducible exact rfl | (try simp (disch := omega) only [go_sem, ↓reduceIte, simprocAttr]; with_reducible exact rfl))))
  refine wpc_cond (t := decide ((t : Int) < 256)) (by simp (disch := omega) only [go_sem, ↓reduceIte, simprocAttr]) (fun hc => ?_) (fun hc => ?_)
  ·have htl : t < 256 := by have := of_decide_eq_true hc; omega
   have ho8 := hof t htl
   have hsucc := mwN_succ of k t
   repeat' first | (with_reducible first | apply qa | apply qb | apply qc | apply qd | apply qe | apply qf | apply qg | apply qh | apply qi | apply qj | apply qk | apply ql | apply qm | apply qn | apply qo | apply qp | apply qq | apply qr | apply qs | apply qt | apply qu | exact keep_same | exact keep_true) | (with_reducible refine block_exit_other ?_ ?_; decide) | ((with_reducible refine keep_rfl ?_); exact rfl) | ((with_reducible first | apply qv | apply qw | apply qx); focus (simp (disch := omega) only [go_sem, ↓reduceIte, simprocAttr, classesE]; with_reducible first | exact lit_t | exact lit_f)) | ((with_reducible first | apply qy | apply qz); focus (simp (disch := omega) only [go_sem, ↓reduceIte, simprocAttr, classesE]; done)) | ((with_reducible first | apply q26 | apply q27 | apply q28); focus (simp (disch := omega) only [go_sem, ↓reduceIte, simprocAttr, classesE]; first | with_reducible exact rfl | (rw [if_pos (by first | omega | (constructor <;> omega) | (simp; done) | assumption)]; first | with_reducible exact rfl | (try simp (disch := omega) only [go_sem, ↓reduceIte, simprocAttr, classesE]; with_reducible exact rfl))))
   refine wpc_cond (t := ((of t : Nat) : Int) == k) (by simp (disch := omega) only [go_sem, ↓reduceIte, simprocAttr]) (fun he => ?_) (fun he => ?_)
   ·have he' : ((of t : Nat) : Int) = k := by simpa using he
    simp only [he', if_true] at hsucc
    simp only [setE]
    repeat' first | (with_reducible first | apply qa | apply qb | apply qc | apply qd | apply qe | apply qf | apply qg | apply qh | apply qi | apply qj | apply qk | apply ql | apply qm | apply qn | apply qo | apply qp | apply qq | apply qr | apply qs | apply qt | apply qu | exact keep_same | exact keep_true) | (with_reducible refine block_exit_other ?_ ?_; decide) | ((with_reducible refine keep_rfl ?_); exact rfl) | ((with_reducible first | apply qv | apply qw | apply qx); focus (simp (disch := omega) only [go_sem, ↓reduceIte, simprocAttr]; with_reducible first | exact lit_t | exact lit_f)) | ((with_reducible first | apply qy | apply qz); focus (simp (disch := omega) only [go_sem, ↓reduceIte, simprocAttr]; done)) | ((with_reducible first | apply q26 | apply q27 | apply q28); focus (simp (disch := omega) only [go_sem, ↓reduceIte, simprocAttr]; first | with_reducible exact rfl | (rw [if_pos (by first | omega | (constructor <;> omega) | (simp; done) | assumption)]; first | with_reducible exact rfl | (try simp (disch := omega) only [go_sem, ↓reduceIte, simprocAttr]; with_reducible exact rfl))))
    with_reducible apply wdr_call
    ·first | exact rfl | (simp (disch := omega) only [go_sem, ↓reduceIte, simprocAttr]; exact rfl)
    ·(simp (disch := omega) only [go_sem, ↓reduceIte, simprocAttr]; exact rfl)
    ·exact of_ok ho [t] (by simp; omega) (by simp) _
    ·exact fun _ => rfl
    repeat' first | (with_reducible first | apply qa | apply qb | apply qc | apply qd | apply qe | apply qf | apply qg | apply qh | apply qi | apply qj | apply qk | apply ql | apply qm | apply qn | apply qo | apply qp | apply qq | apply qr | apply qs | apply qt | apply qu | exact keep_same | exact keep_true) | (with_reducible refine block_exit_other ?_ ?_; decide) | ((with_reducible refine keep_rfl ?_); exact rfl) | ((with_reducible first | apply qv | apply qw | apply qx); focus (simp (disch := omega) only [go_sem, ↓reduceIte, simprocAttr]; with_reducible first | exact lit_t | exact lit_f)) | ((with_reducible first | apply qy | apply qz); focus (simp (disch := omega) only [go_sem, ↓reduceIte, simprocAttr]; done)) | ((with_reducible first | apply q26 | apply q27 | apply q28); focus (simp (disch := omega) only [go_sem, ↓reduceIte, simprocAttr]; first | with_reducible exact rfl | (rw [if_pos (by first | omega | (constructor <;> omega) | (simp; done) | assumption)]; first | with_reducible exact rfl | (try simp (disch := omega) only [go_sem, ↓reduceIte, simprocAttr]; with_reducible exact rfl))))
    with_reducible apply wdr_call
    ·first | exact rfl | (simp (disch := omega) only [go_sem, ↓reduceIte, simprocAttr, setE]; exact rfl)
    ·(simp (disch := omega) only [go_sem, ↓reduceIte, simprocAttr, setE]; exact rfl)
    ·exact ha (mwN of k t) (wordsOf [t]) _ (mwN_lt of k t) (wordsOf_lt _)
    ·exact fun _ => rfl
    repeat' first | (with_reducible first | apply qa | apply qb | apply qc | apply qd | apply qe | apply qf | apply qg | apply qh | apply qi | apply qj | apply qk | apply ql | apply qm | apply qn | apply qo | apply qp | apply qq | apply qr | apply qs | apply qt | apply qu | exact keep_same | exact keep_true) | (with_reducible refine block_exit_other ?_ ?_; decide) | ((with_reducible refine keep_rfl ?_); exact rfl) | ((with_reducible first | apply qv | apply qw | apply qx); focus (simp (disch := omega) only [go_sem, ↓reduceIte, simprocAttr, setE]; with_reducible first | exact lit_t | exact lit_f)) | ((with_reducible first | apply qy | apply qz); focus (simp (disch := omega) only [go_sem, ↓reduceIte, simprocAttr, setE]; done)) | ((with_reducible first | apply q26 | apply q27 | apply q28); focus (simp (disch := omega) only [go_sem, ↓reduceIte, simprocAttr, setE]; first | with_reducible exact rfl | (rw [if_pos (by first | omega | (constructor <;> omega) | (simp; done) | assumption)]; first | with_reducible exact rfl | (try simp (disch := omega) only [go_sem, ↓reduceIte, simprocAttr, setE]; with_reducible exact rfl))))
    refine hK (t + 1) _ _ [] (by omega) (by omega) ?_ ?_
    ·rw [hsucc]; simp [setE, classesE]
    ·(repeat' (first | exact trivial | refine And.intro (And.intro ?_ ?_) ?_)) <;> first | exact rfl | (simp (disch := omega) only [go_sem, ↓reduceIte, simprocAttr, EV.ok, okL_tab_int, okL_tab_bool, okL_app, okL, decide_eq_true_eq, EV.int.injEq]; done) | (simp (disch := omega) only [go_sem, ↓reduceIte, simprocAttr, EV.ok, okL_tab_int, okL_tab_bool, okL_app, okL, decide_eq_true_eq, EV.int.injEq] <;> first | exact rfl | omega)
   ·have he' : ¬ ((of t : Nat) : Int) = k := by simpa using he
    simp only [he', if_false] at hsucc
    repeat' first | (with_reducible first | apply qa | apply qb | apply qc | apply qd | apply qe | apply qf | apply qg | apply qh | apply qi | apply qj | apply qk | apply ql | apply qm | apply qn | apply qo | apply qp | apply qq | apply qr | apply qs | apply qt | apply qu | exact keep_same | exact keep_true) | (with_reducible refine block_exit_other ?_ ?_; decide) | ((with_reducible refine keep_rfl ?_); exact rfl) | ((with_reducible first | apply qv | apply qw | apply qx); focus (simp (disch := omega) only [go_sem, ↓reduceIte, simprocAttr]; with_reducible first | exact lit_t | exact lit_f)) | ((with_reducible first | apply qy | apply qz); focus (simp (disch := omega) only [go_sem, ↓reduceIte, simprocAttr]; done)) | ((with_reducible first | apply q26 | apply q27 | apply q28); focus (simp (disch := omega) only [go_sem, ↓reduceIte, simprocAttr]; first | with_reducible exact rfl | (rw [if_pos (by first | omega | (constructor <;> omega) | (simp; done) | assumption)]; first | with_reducible exact rfl | (try simp (disch := omega) only [go_sem, ↓reduceIte, simprocAttr]; with_reducible exact rfl))))
    refine hK (t + 1) _ _ [] (by omega) (by omega) ?_ ?_
    ·rw [hsucc]; simp [setE, classesE]
    ·(repeat' (first | exact trivial | refine And.intro (And.intro ?_ ?_) ?_)) <;> first | exact rfl | (simp (disch := omega) only [go_sem, ↓reduceIte, simprocAttr, EV.ok, okL_tab_int, okL_tab_bool, okL_app, okL, decide_eq_true_eq, EV.int.injEq]; done) | (simp (disch := omega) only [go_sem, ↓reduceIte, simprocAttr, EV.ok, okL_tab_int, okL_tab_bool, okL_app, okL, decide_eq_true_eq, EV.int.injEq] <;> first | exact rfl | omega)
  ·have hi4 : t = 256 := by have := of_decide_eq_false hc; omega
   subst hi4
   repeat' first | (with_reducible first | apply qa | apply qb | apply qc | apply qd | apply qe | apply qf | apply qg | apply qh | apply qi | apply qj | apply qk | apply ql | apply qm | apply qn | apply qo | apply qp | apply qq | apply qr | apply qs | apply qt | apply qu | exact keep_same | exact keep_true) | (with_reducible refine block_exit_other ?_ ?_; decide) | ((with_reducible refine keep_rfl ?_); exact rfl) | ((with_reducible first | apply qv | apply qw | apply qx); focus (simp (disch := omega) only [go_sem, ↓reduceIte, simprocAttr]; with_reducible first | exact lit_t | exact lit_f)) | ((with_reducible first | apply qy | apply qz); focus (simp (disch := omega) only [go_sem, ↓reduceIte, simprocAttr]; done)) | ((with_reducible first | apply q26 | apply q27 | apply q28); focus (simp (disch := omega) only [go_sem, ↓reduceIte, simprocAttr]; first | with_reducible exact rfl | (rw [if_pos (by first | omega | (constructor <;> omega) | (simp; done) | assumption)]; first | with_reducible exact rfl | (try simp (disch := omega) only [go_sem, ↓reduceIte, simprocAttr]; with_reducible exact rfl))))
   refine hQ' _ _ _ ?_
   repeat' first | (with_reducible first | apply qa | apply qb | apply qc | apply qd | apply qe | apply qf | apply qg | apply qh | apply qi | apply qj | apply qk | apply ql | apply qm | apply qn | apply qo | apply qp | apply qq | apply qr | apply qs | apply qt | apply qu | exact keep_same | exact keep_true) | (with_reducible refine block_exit_other ?_ ?_; decide) | ((with_reducible refine keep_rfl ?_); exact rfl) | ((with_reducible first | apply qv | apply qw | apply qx); focus (simp (disch := omega) only [go_sem, ↓reduceIte, simprocAttr, setE]; with_reducible first | exact lit_t | exact lit_f)) | ((with_reducible first | apply qy | apply qz); focus (simp (disch := omega) only [go_sem, ↓reduceIte, simprocAttr, setE]; done)) | ((with_reducible first | apply q26 | apply q27 | apply q28); focus (simp (disch := omega) only [go_sem, ↓reduceIte, simprocAttr, setE]; first | with_reducible exact rfl | (rw [if_pos (by first | omega | (constructor <;> omega) | (simp; done) | assumption)]; first | with_reducible exact rfl | (try simp (disch := omega) only [go_sem, ↓reduceIte, simprocAttr, setE]; with_reducible exact rfl))))
   refine end_drop hok (r := setE (membW of n k)) ?_ ?_ ⟨rfl, rfl⟩
   ·first | (simp (disch := omega) only [go_sem, ↓reduceIte, simprocAttr, evResults, evResL, evRes, class_Members_r, setE, hw]; done) | (simp (disch := omega) only [go_sem, ↓reduceIte, simprocAttr, evResults, evResL, evRes, class_Members_r, setE, hw]; with_reducible exact rfl) | exact rfl
   ·first | (simp [EV.ok, okL, okL_tab_int, okL_tab_bool, okL_app, setE, hw]; done)
theorem first_ok {f fm fn : FuncId} (hb : Body P f (class_First fm fn) class_First_r 9) (hm : MembOk P γ fm) (hn : NextOk P γ fn) (of : Nat → Nat) (n k : Int) (hof : ∀ b, b < 256 → of b < 256) (H : Heap) :
  CallsA P γ f [classesE of n, .int .i64 k] H fun er H' => er = .ret (.int .i64 (nextZ (bytesF (membW of n k)) 0)) ∧ H' = H := by
 refine hb.calls (by simp) fun hok => ?_
 unfold class_First
 repeat' first | (with_reducible first | apply qa | apply qb | apply qc | apply qd | apply qe | apply qf | apply qg | apply qh | apply qi | apply qj | apply qk | apply ql | apply qm | apply qn | apply qo | apply qp | apply qq | apply qr | apply qs | apply qt | apply qu | exact keep_same | exact keep_true) | (with_reducible refine block_exit_other ?_ ?_; decide) | ((with_reducible refine keep_rfl ?_); exact rfl) | ((with_reducible first | apply qv | apply qw | apply qx); focus (simp (disch := omega) only [go_sem, ↓reduceIte, simprocAttr, classesE]; with_reducible first | exact lit_t | exact lit_f)) | ((with_reducible first | apply qy | apply qz); focus (simp (disch := omega) only [go_sem, ↓reduceIte, simprocAttr, classesE]; done)) | ((with_reducible first | apply q26 | apply q27 | apply q28); focus (simp (disch := omega) only [go_sem, ↓reduceIte, simprocAttr, classesE]; first | with_reducible exact rfl | (rw [if_pos (by first | omega | (constructor <;> omega) | (simp; done) | assumption)]; first | with_reducible exact rfl | (try simp (disch := omega) only [go_sem, ↓reduceIte, simprocAttr, classesE]; with_reducible exact rfl))))
 with_reducible apply wops_call1
 ·first | exact rfl | (simp (disch := omega) only [go_sem, ↓reduceIte, simprocAttr, classesE]; exact rfl)
 ·(simp (disch := omega) only [go_sem, ↓reduceIte, simprocAttr, classesE]; exact rfl)
 ·exact hm of n k _ hof
 repeat' first | (with_reducible first | apply qa | apply qb | apply qc | apply qd | apply qe | apply qf | apply qg | apply qh | apply qi | apply qj | apply qk | apply ql | apply qm | apply qn | apply qo | apply qp | apply qq | apply qr | apply qs | apply qt | apply qu | exact keep_same | exact keep_true) | (with_reducible refine block_exit_other ?_ ?_; decide) | ((with_reducible refine keep_rfl ?_); exact rfl) | ((with_reducible first | apply qv | apply qw | apply qx); focus (simp (disch := omega) only [go_sem, ↓reduceIte, simprocAttr, setE]; with_reducible first | exact lit_t | exact lit_f)) | ((with_reducible first | apply qy | apply qz); focus (simp (disch := omega) only [go_sem, ↓reduceIte, simprocAttr, setE]; done)) | ((with_reducible first | apply q26 | apply q27 | apply q28); focus (simp (disch := omega) only [go_sem, ↓reduceIte, simprocAttr, setE]; first | with_reducible exact rfl | (rw [if_pos (by first | omega | (constructor <;> omega) | (simp; done) | assumption)]; first | with_reducible exact rfl | (try simp (disch := omega) only [go_sem, ↓reduceIte, simprocAttr, setE]; with_reducible exact rfl))))
 with_reducible apply wops_call1
 ·first | exact rfl | (simp (disch := omega) only [go_sem, ↓reduceIte, simprocAttr, setE]; exact rfl)
 ·(simp (disch := omega) only [go_sem, ↓reduceIte, simprocAttr, setE]; exact rfl)
 ·exact hn (membW of n k) 0 _ (membW_words of n k)
 repeat' first | (with_reducible first | apply qa | apply qb | apply qc | apply qd | apply qe | apply qf | apply qg | apply qh | apply qi | apply qj | apply qk | apply ql | apply qm | apply qn | apply qo | apply qp | apply qq | apply qr | apply qs | apply qt | apply qu | exact keep_same | exact keep_true) | (with_reducible refine block_exit_other ?_ ?_; decide) | ((with_reducible refine keep_rfl ?_); exact rfl) | ((with_reducible first | apply qv | apply qw | apply qx); focus (simp (disch := omega) only [go_sem, ↓reduceIte, simprocAttr]; with_reducible first | exact lit_t | exact lit_f)) | ((with_reducible first | apply qy | apply qz); focus (simp (disch := omega) only [go_sem, ↓reduceIte, simprocAttr]; done)) | ((with_reducible first | apply q26 | apply q27 | apply q28); focus (simp (disch := omega) only [go_sem, ↓reduceIte, simprocAttr]; first | with_reducible exact rfl | (rw [if_pos (by first | omega | (constructor <;> omega) | (simp; done) | assumption)]; first | with_reducible exact rfl | (try simp (disch := omega) only [go_sem, ↓reduceIte, simprocAttr]; with_reducible exact rfl))))
 refine end_drop hok (r := .int .i64 (nextZ (bytesF (membW of n k)) 0)) ?_ ?_ ⟨rfl, rfl⟩
 ·first | (simp (disch := omega) only [go_sem, ↓reduceIte, simprocAttr, evResults, evResL, evRes, class_First_r]; done) | (simp (disch := omega) only [go_sem, ↓reduceIte, simprocAttr, evResults, evResL, evRes, class_First_r]; with_reducible exact rfl) | exact rfl
 ·first | (simp [EV.ok, okL, okL_tab_int, okL_tab_bool, okL_app]; done)
end
end Abs
