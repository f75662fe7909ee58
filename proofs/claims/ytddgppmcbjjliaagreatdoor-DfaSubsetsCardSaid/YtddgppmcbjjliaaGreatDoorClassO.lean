/- A part. -/
import Derived.Test.YtddgppmcbjjliaaGreatDoorOctsB
set_option linter.all false
namespace Abs
open Go Gn
set_option maxRecDepth 20000
def mwN (of : Nat → Nat) (k : Int) : Nat → Nat → Nat
 | 0, _ => 0
 | t + 1, i => if ((of t : Nat) : Int) = k then mwN of k t i ||| aj5 [t] i else mwN of k t i
theorem dk8 (of : Nat → Nat) (k : Int) : ∀ t, av8 (mwN of k t)
 | 0 => fun i => by simp [mwN]
 | t + 1 => fun i => by
  simp only [mwN]
  split
  ·exact Nat.or_lt_two_pow (n := 64) (dk8 of k t i) (bp6 [t] i)
  ·exact dk8 of k t i
theorem ed7 (of : Nat → Nat) (k : Int) (b : Nat) (hb : b < 256) : ∀ t, t ≤ 256 → ag6 (mwN of k t) b = (decide (b < t) && decide (((of b : Nat) : Int) = k))
 | 0, _ => by simp [mwN, ag6]
 | t + 1, ht => by
  have ih := ed7 of k b hb t (by omega)
  have hw := db4 [t] (by simp; omega) b hb
  unfold ag6 at ih hw ⊢
  simp only [mwN]
  by_cases e : ((of t : Nat) : Int) = k
  ·rw [if_pos e, Nat.testBit_or, ih, hw]
   by_cases h : b = t
   ·subst h; simp [e]
   ·have : (b < t + 1) ↔ b < t := by omega
    simp [h, this]
  ·rw [if_neg e, ih]
   by_cases h : b = t
   ·subst h; simp [e]
   ·have : (b < t + 1) ↔ b < t := by omega
    simp [this]
theorem es7 (of : Nat → Nat) (k : Int) : mwN of k 0 = fun _ => 0 := rfl
theorem es8 (of : Nat → Nat) (k : Int) (t : Nat) : mwN of k (t + 1) = fun i => if ((of t : Nat) : Int) = k then mwN of k t i ||| aj5 [t] i else mwN of k t i := rfl
noncomputable def bq5 (of : Nat → Nat) (n k : Int) : Nat → Nat := if mayC of n = true then mwN of k 256 else fun _ => 0
theorem de7 (of : Nat → Nat) (n k : Int) : av8 (bq5 of n k) := by
 unfold bq5
 split
 ·exact dk8 of k 256
 ·intro i; simp
theorem bv4 (of : Nat → Nat) (n k : Int) (b : Nat) (hb : b < 256) : ag6 (bq5 of n k) b = (mayC of n && decide (((of b : Nat) : Int) = k)) := by
 unfold bq5
 split
 ·rename_i h
  rw [ed7 of k b hb 256 (Nat.le_refl _), h]
  simp [hb]
 ·rename_i h
  have : mayC of n = false := by simpa using h
  rw [this]
  simp [ag6]
attribute [local irreducible] av5 aj5 bv0 mwN bq5
section
variable {P : Program} {γ : Nat → EV}
def fl2 (P : Program) (γ : Nat → EV) (f : FuncId) : Prop :=
 ∀ (of : Nat → Nat) (n : Int) (H : Heap), (∀ b, b < 256 → of b < 256) → CallsA P γ f [aa1 of n] H fun er H' => er = .ret (.bool (mayC of n)) ∧ H' = H
def em9 (P : Program) (γ : Nat → EV) (f : FuncId) : Prop :=
 ∀ (of : Nat → Nat) (n k : Int) (H : Heap), (∀ b, b < 256 → of b < 256) → CallsA P γ f [aa1 of n, .int .i64 k] H fun er H' => er = .ret (setE (bq5 of n k)) ∧ H' = H
set_option maxHeartbeats 8000000 in
theorem fc3 {f fm fa fo : FuncId} (hb : Body P f (ba4 fm fa fo) ai8 29) (hm : fl2 P γ fm) (ha : ∀ (x y : Nat → Nat) (H : Heap), av8 x → av8 y → CallsA P γ fa [setE x, setE y] H fun er H' => er = .ret (setE fun i => x i ||| y i) ∧ H' = H)
  (ho : Body P fo by1 bc2 23) : em9 P γ f := by
 intro of n k H hof
 refine hb.calls (by simp) fun hok => ?_
 unfold ba4
 repeat' first | (with_reducible first | apply qa | apply qb | apply qc | apply qd | apply qe | apply qf | apply qg | apply qh | apply qi | apply qj | apply qk | apply ql | apply qm | apply qn | apply qo | apply qp | apply qq | apply qr | apply qs | apply qt | apply qu | exact aa8 | exact aa7) | (with_reducible refine aa0 ?_ ?_; decide) | ((with_reducible refine ab0 ?_); exact rfl) | ((with_reducible first | apply qv | apply qw | apply qx); focus (simp (disch := omega) only [go_sem, simprocAttr, aa1]; with_reducible first | exact ac1 | exact ac2)) | ((with_reducible first | apply qy | apply qz); focus (simp (disch := omega) only [go_sem, simprocAttr, aa1]; done)) | ((with_reducible first | apply q26 | apply q27 | apply q28); focus (simp (disch := omega) only [go_sem, simprocAttr, aa1]; first | with_reducible exact rfl | (rw [if_pos (by first | omega | (constructor <;> omega) | (simp; done) | assumption)]; first | with_reducible exact rfl | (try simp (disch := omega) only [go_sem, simprocAttr, aa1]; with_reducible exact rfl))))
 with_reducible apply am4
 ·first | exact rfl | (simp (disch := omega) only [go_sem, simprocAttr, aa1]; exact rfl)
 ·(simp (disch := omega) only [go_sem, simprocAttr, aa1]; exact rfl)
 ·exact hm of n _ hof
 cases hmay : mayC of n
 ·have hw : bq5 of n k = fun _ => 0 := by unfold bq5; rw [hmay]; rfl
  repeat' first | (with_reducible first | apply qa | apply qb | apply qc | apply qd | apply qe | apply qf | apply qg | apply qh | apply qi | apply qj | apply qk | apply ql | apply qm | apply qn | apply qo | apply qp | apply qq | apply qr | apply qs | apply qt | apply qu | exact aa8 | exact aa7) | (with_reducible refine aa0 ?_ ?_; decide) | ((with_reducible refine ab0 ?_); exact rfl) | ((with_reducible first | apply qv | apply qw | apply qx); focus (simp (disch := omega) only [go_sem, simprocAttr, hmay]; with_reducible first | exact ac1 | exact ac2)) | ((with_reducible first | apply qy | apply qz); focus (simp (disch := omega) only [go_sem, simprocAttr, hmay]; done)) | ((with_reducible first | apply q26 | apply q27 | apply q28); focus (simp (disch := omega) only [go_sem, simprocAttr, hmay]; first | with_reducible exact rfl | (rw [if_pos (by first | omega | (constructor <;> omega) | (simp; done) | assumption)]; first | with_reducible exact rfl | (try simp (disch := omega) only [go_sem, simprocAttr, hmay]; with_reducible exact rfl))))
  refine aj1 hok (r := setE (bq5 of n k)) ?_ ?_ ⟨rfl, rfl⟩
  ·first | (simp (disch := omega) only [go_sem, simprocAttr, ab1, ae1, aj2, ai8, hw, setE, Int.natCast_zero]; done) | (simp (disch := omega) only [go_sem, simprocAttr, ab1, ae1, aj2, ai8, hw, setE, Int.natCast_zero]; with_reducible exact rfl) | exact rfl
  ·first | (simp [EV.ok, okL, aa4, aa5, ab2, hw, setE, Int.natCast_zero]; done)
 have hw : bq5 of n k = mwN of k 256 := by unfold bq5; rw [hmay]; rfl
 repeat' first | (with_reducible first | apply qa | apply qb | apply qc | apply qd | apply qe | apply qf | apply qg | apply qh | apply qi | apply qj | apply qk | apply ql | apply qm | apply qn | apply qo | apply qp | apply qq | apply qr | apply qs | apply qt | apply qu | exact aa8 | exact aa7) | (with_reducible refine aa0 ?_ ?_; decide) | ((with_reducible refine ab0 ?_); exact rfl) | ((with_reducible first | apply qv | apply qw | apply qx); focus (simp (disch := omega) only [go_sem, simprocAttr, hmay]; with_reducible first | exact ac1 | exact ac2)) | ((with_reducible first | apply qy | apply qz); focus (simp (disch := omega) only [go_sem, simprocAttr, hmay]; done)) | ((with_reducible first | apply q26 | apply q27 | apply q28); focus (simp (disch := omega) only [go_sem, simprocAttr, hmay]; first | with_reducible exact rfl | (rw [if_pos (by first | omega | (constructor <;> omega) | (simp; done) | assumption)]; first | with_reducible exact rfl | (try simp (disch := omega) only [go_sem, simprocAttr, hmay]; with_reducible exact rfl))))
 refine au0 (ι := Nat) (fun t => t ≤ 256) (fun t => 256 - t) (fun t => [(1, .int .i64 k), (2, .ptr H.length 257 0 0), (4, .ptr (H.length + 1) 4 0 0), (5, .ptr (H.length + 2) 4 0 0), (11, .int .i64 (t : Int))])
  (fun t => H ++ [some (.row 257 [aa1 of n]), some (.row 4 [setE fun _ => 0]), some (.row 4 [setE (mwN of k t)])]) 0 (by omega) ?_ ?_ ?_ ?_ ?_
 ·(repeat' (first | exact trivial | refine And.intro (And.intro ?_ ?_) ?_)) <;> first | exact rfl | (simp (disch := omega) only [go_sem, simprocAttr, EV.ok, aa4, aa5, ab2, okL, decide_eq_true_eq, EV.int.injEq]; done) | (simp (disch := omega) only [go_sem, simprocAttr, EV.ok, aa4, aa5, ab2, okL, decide_eq_true_eq, EV.int.injEq] <;> first | exact rfl | omega)
 ·simp [setE, aa1, es7]
 ·exact fun i _ => bn2 hok (by simp [EB.ok, okG, okL, aa1, setE, EV.ok, aa4, ab2])
 ·simp
 ·intro t ht K Q' hK hQ'
  repeat' first | (with_reducible first | apply qa | apply qb | apply qc | apply qd | apply qe | apply qf | apply qg | apply qh | apply qi | apply qj | apply qk | apply ql | apply qm | apply qn | apply qo | apply qp | apply qq | apply qr | apply qs | apply qt | apply qu | exact aa8 | exact aa7) | (with_reducible refine aa0 ?_ ?_; decide) | ((with_reducible refine ab0 ?_); exact rfl) | ((with_reducible first | apply qv | apply qw | apply qx); focus (simp (disch := omega) only [go_sem, simprocAttr]; with_reducible first | exact ac1 | exact ac2)) | ((with_reducible first | apply qy | apply qz); focus (simp (disch := omega) only [go_sem, simprocAttr]; done)) | ((with_reducible first | apply q26 | apply q27 | apply q28); focus (simp (disch := omega) only [go_sem, simprocAttr]; first | with_reducible exact rfl | (rw [if_pos (by first | omega | (constructor <;> omega) | (simp; done) | assumption)]; first | with_reducible exact rfl | (try simp (disch := omega) only [go_sem, simprocAttr]; with_reducible exact rfl))))
  refine au1 (t := decide ((t : Int) < 256)) (by simp (disch := omega) only [go_sem, simprocAttr]) (fun hc => ?_) (fun hc => ?_)
  ·have htl : t < 256 := by have := of_decide_eq_true hc; omega
   have ho8 := hof t htl
   have hsucc := es8 of k t
   repeat' first | (with_reducible first | apply qa | apply qb | apply qc | apply qd | apply qe | apply qf | apply qg | apply qh | apply qi | apply qj | apply qk | apply ql | apply qm | apply qn | apply qo | apply qp | apply qq | apply qr | apply qs | apply qt | apply qu | exact aa8 | exact aa7) | (with_reducible refine aa0 ?_ ?_; decide) | ((with_reducible refine ab0 ?_); exact rfl) | ((with_reducible first | apply qv | apply qw | apply qx); focus (simp (disch := omega) only [go_sem, simprocAttr, aa1]; with_reducible first | exact ac1 | exact ac2)) | ((with_reducible first | apply qy | apply qz); focus (simp (disch := omega) only [go_sem, simprocAttr, aa1]; done)) | ((with_reducible first | apply q26 | apply q27 | apply q28); focus (simp (disch := omega) only [go_sem, simprocAttr, aa1]; first | with_reducible exact rfl | (rw [if_pos (by first | omega | (constructor <;> omega) | (simp; done) | assumption)]; first | with_reducible exact rfl | (try simp (disch := omega) only [go_sem, simprocAttr, aa1]; with_reducible exact rfl))))
   refine au1 (t := ((of t : Nat) : Int) == k) (by simp (disch := omega) only [go_sem, simprocAttr]) (fun he => ?_) (fun he => ?_)
   ·have he' : ((of t : Nat) : Int) = k := by simpa using he
    simp only [he', if_true] at hsucc
    simp only [setE]
    repeat' first | (with_reducible first | apply qa | apply qb | apply qc | apply qd | apply qe | apply qf | apply qg | apply qh | apply qi | apply qj | apply qk | apply ql | apply qm | apply qn | apply qo | apply qp | apply qq | apply qr | apply qs | apply qt | apply qu | exact aa8 | exact aa7) | (with_reducible refine aa0 ?_ ?_; decide) | ((with_reducible refine ab0 ?_); exact rfl) | ((with_reducible first | apply qv | apply qw | apply qx); focus (simp (disch := omega) only [go_sem, simprocAttr]; with_reducible first | exact ac1 | exact ac2)) | ((with_reducible first | apply qy | apply qz); focus (simp (disch := omega) only [go_sem, simprocAttr]; done)) | ((with_reducible first | apply q26 | apply q27 | apply q28); focus (simp (disch := omega) only [go_sem, simprocAttr]; first | with_reducible exact rfl | (rw [if_pos (by first | omega | (constructor <;> omega) | (simp; done) | assumption)]; first | with_reducible exact rfl | (try simp (disch := omega) only [go_sem, simprocAttr]; with_reducible exact rfl))))
    with_reducible apply be4
    ·first | exact rfl | (simp (disch := omega) only [go_sem, simprocAttr]; exact rfl)
    ·(simp (disch := omega) only [go_sem, simprocAttr]; exact rfl)
    ·exact fi7 ho [t] (by simp; omega) (by simp) _
    ·exact fun _ => rfl
    repeat' first | (with_reducible first | apply qa | apply qb | apply qc | apply qd | apply qe | apply qf | apply qg | apply qh | apply qi | apply qj | apply qk | apply ql | apply qm | apply qn | apply qo | apply qp | apply qq | apply qr | apply qs | apply qt | apply qu | exact aa8 | exact aa7) | (with_reducible refine aa0 ?_ ?_; decide) | ((with_reducible refine ab0 ?_); exact rfl) | ((with_reducible first | apply qv | apply qw | apply qx); focus (simp (disch := omega) only [go_sem, simprocAttr]; with_reducible first | exact ac1 | exact ac2)) | ((with_reducible first | apply qy | apply qz); focus (simp (disch := omega) only [go_sem, simprocAttr]; done)) | ((with_reducible first | apply q26 | apply q27 | apply q28); focus (simp (disch := omega) only [go_sem, simprocAttr]; first | with_reducible exact rfl | (rw [if_pos (by first | omega | (constructor <;> omega) | (simp; done) | assumption)]; first | with_reducible exact rfl | (try simp (disch := omega) only [go_sem, simprocAttr]; with_reducible exact rfl))))
    with_reducible apply be4
    ·first | exact rfl | (simp (disch := omega) only [go_sem, simprocAttr, setE]; exact rfl)
    ·(simp (disch := omega) only [go_sem, simprocAttr, setE]; exact rfl)
    ·exact ha (mwN of k t) (aj5 [t]) _ (dk8 of k t) (bp6 _)
    ·exact fun _ => rfl
    repeat' first | (with_reducible first | apply qa | apply qb | apply qc | apply qd | apply qe | apply qf | apply qg | apply qh | apply qi | apply qj | apply qk | apply ql | apply qm | apply qn | apply qo | apply qp | apply qq | apply qr | apply qs | apply qt | apply qu | exact aa8 | exact aa7) | (with_reducible refine aa0 ?_ ?_; decide) | ((with_reducible refine ab0 ?_); exact rfl) | ((with_reducible first | apply qv | apply qw | apply qx); focus (simp (disch := omega) only [go_sem, simprocAttr, setE]; with_reducible first | exact ac1 | exact ac2)) | ((with_reducible first | apply qy | apply qz); focus (simp (disch := omega) only [go_sem, simprocAttr, setE]; done)) | ((with_reducible first | apply q26 | apply q27 | apply q28); focus (simp (disch := omega) only [go_sem, simprocAttr, setE]; first | with_reducible exact rfl | (rw [if_pos (by first | omega | (constructor <;> omega) | (simp; done) | assumption)]; first | with_reducible exact rfl | (try simp (disch := omega) only [go_sem, simprocAttr, setE]; with_reducible exact rfl))))
    refine hK (t + 1) _ _ [] (by omega) (by omega) ?_ ?_
    ·rw [hsucc]; simp [setE, aa1]
    ·(repeat' (first | exact trivial | refine And.intro (And.intro ?_ ?_) ?_)) <;> first | exact rfl | (simp (disch := omega) only [go_sem, simprocAttr, EV.ok, aa4, aa5, ab2, okL, decide_eq_true_eq, EV.int.injEq]; done) | (simp (disch := omega) only [go_sem, simprocAttr, EV.ok, aa4, aa5, ab2, okL, decide_eq_true_eq, EV.int.injEq] <;> first | exact rfl | omega)
   ·have he' : ¬ ((of t : Nat) : Int) = k := by simpa using he
    simp only [he', if_false] at hsucc
    repeat' first | (with_reducible first | apply qa | apply qb | apply qc | apply qd | apply qe | apply qf | apply qg | apply qh | apply qi | apply qj | apply qk | apply ql | apply qm | apply qn | apply qo | apply qp | apply qq | apply qr | apply qs | apply qt | apply qu | exact aa8 | exact aa7) | (with_reducible refine aa0 ?_ ?_; decide) | ((with_reducible refine ab0 ?_); exact rfl) | ((with_reducible first | apply qv | apply qw | apply qx); focus (simp (disch := omega) only [go_sem, simprocAttr]; with_reducible first | exact ac1 | exact ac2)) | ((with_reducible first | apply qy | apply qz); focus (simp (disch := omega) only [go_sem, simprocAttr]; done)) | ((with_reducible first | apply q26 | apply q27 | apply q28); focus (simp (disch := omega) only [go_sem, simprocAttr]; first | with_reducible exact rfl | (rw [if_pos (by first | omega | (constructor <;> omega) | (simp; done) | assumption)]; first | with_reducible exact rfl | (try simp (disch := omega) only [go_sem, simprocAttr]; with_reducible exact rfl))))
    refine hK (t + 1) _ _ [] (by omega) (by omega) ?_ ?_
    ·rw [hsucc]; simp [setE, aa1]
    ·(repeat' (first | exact trivial | refine And.intro (And.intro ?_ ?_) ?_)) <;> first | exact rfl | (simp (disch := omega) only [go_sem, simprocAttr, EV.ok, aa4, aa5, ab2, okL, decide_eq_true_eq, EV.int.injEq]; done) | (simp (disch := omega) only [go_sem, simprocAttr, EV.ok, aa4, aa5, ab2, okL, decide_eq_true_eq, EV.int.injEq] <;> first | exact rfl | omega)
  ·have hi4 : t = 256 := by have := of_decide_eq_false hc; omega
   subst hi4
   repeat' first | (with_reducible first | apply qa | apply qb | apply qc | apply qd | apply qe | apply qf | apply qg | apply qh | apply qi | apply qj | apply qk | apply ql | apply qm | apply qn | apply qo | apply qp | apply qq | apply qr | apply qs | apply qt | apply qu | exact aa8 | exact aa7) | (with_reducible refine aa0 ?_ ?_; decide) | ((with_reducible refine ab0 ?_); exact rfl) | ((with_reducible first | apply qv | apply qw | apply qx); focus (simp (disch := omega) only [go_sem, simprocAttr]; with_reducible first | exact ac1 | exact ac2)) | ((with_reducible first | apply qy | apply qz); focus (simp (disch := omega) only [go_sem, simprocAttr]; done)) | ((with_reducible first | apply q26 | apply q27 | apply q28); focus (simp (disch := omega) only [go_sem, simprocAttr]; first | with_reducible exact rfl | (rw [if_pos (by first | omega | (constructor <;> omega) | (simp; done) | assumption)]; first | with_reducible exact rfl | (try simp (disch := omega) only [go_sem, simprocAttr]; with_reducible exact rfl))))
   refine hQ' _ _ _ ?_
   repeat' first | (with_reducible first | apply qa | apply qb | apply qc | apply qd | apply qe | apply qf | apply qg | apply qh | apply qi | apply qj | apply qk | apply ql | apply qm | apply qn | apply qo | apply qp | apply qq | apply qr | apply qs | apply qt | apply qu | exact aa8 | exact aa7) | (with_reducible refine aa0 ?_ ?_; decide) | ((with_reducible refine ab0 ?_); exact rfl) | ((with_reducible first | apply qv | apply qw | apply qx); focus (simp (disch := omega) only [go_sem, simprocAttr, setE]; with_reducible first | exact ac1 | exact ac2)) | ((with_reducible first | apply qy | apply qz); focus (simp (disch := omega) only [go_sem, simprocAttr, setE]; done)) | ((with_reducible first | apply q26 | apply q27 | apply q28); focus (simp (disch := omega) only [go_sem, simprocAttr, setE]; first | with_reducible exact rfl | (rw [if_pos (by first | omega | (constructor <;> omega) | (simp; done) | assumption)]; first | with_reducible exact rfl | (try simp (disch := omega) only [go_sem, simprocAttr, setE]; with_reducible exact rfl))))
   refine aj1 hok (r := setE (bq5 of n k)) ?_ ?_ ⟨rfl, rfl⟩
   ·first | (simp (disch := omega) only [go_sem, simprocAttr, ab1, ae1, aj2, ai8, setE, hw]; done) | (simp (disch := omega) only [go_sem, simprocAttr, ab1, ae1, aj2, ai8, setE, hw]; with_reducible exact rfl) | exact rfl
   ·first | (simp [EV.ok, okL, aa4, aa5, ab2, setE, hw]; done)
theorem eu4 {f fm fn : FuncId} (hb : Body P f (bk9 fm fn) av4 9) (hm : em9 P γ fm) (hn : em8 P γ fn) (of : Nat → Nat) (n k : Int) (hof : ∀ b, b < 256 → of b < 256) (H : Heap) :
  CallsA P γ f [aa1 of n, .int .i64 k] H fun er H' => er = .ret (.int .i64 (bv0 (av5 (bq5 of n k)) 0)) ∧ H' = H := by
 refine hb.calls (by simp) fun hok => ?_
 unfold bk9
 repeat' first | (with_reducible first | apply qa | apply qb | apply qc | apply qd | apply qe | apply qf | apply qg | apply qh | apply qi | apply qj | apply qk | apply ql | apply qm | apply qn | apply qo | apply qp | apply qq | apply qr | apply qs | apply qt | apply qu | exact aa8 | exact aa7) | (with_reducible refine aa0 ?_ ?_; decide) | ((with_reducible refine ab0 ?_); exact rfl) | ((with_reducible first | apply qv | apply qw | apply qx); focus (simp (disch := omega) only [go_sem, simprocAttr, aa1]; with_reducible first | exact ac1 | exact ac2)) | ((with_reducible first | apply qy | apply qz); focus (simp (disch := omega) only [go_sem, simprocAttr, aa1]; done)) | ((with_reducible first | apply q26 | apply q27 | apply q28); focus (simp (disch := omega) only [go_sem, simprocAttr, aa1]; first | with_reducible exact rfl | (rw [if_pos (by first | omega | (constructor <;> omega) | (simp; done) | assumption)]; first | with_reducible exact rfl | (try simp (disch := omega) only [go_sem, simprocAttr, aa1]; with_reducible exact rfl))))
 with_reducible apply am4
 ·first | exact rfl | (simp (disch := omega) only [go_sem, simprocAttr, aa1]; exact rfl)
 ·(simp (disch := omega) only [go_sem, simprocAttr, aa1]; exact rfl)
 ·exact hm of n k _ hof
 repeat' first | (with_reducible first | apply qa | apply qb | apply qc | apply qd | apply qe | apply qf | apply qg | apply qh | apply qi | apply qj | apply qk | apply ql | apply qm | apply qn | apply qo | apply qp | apply qq | apply qr | apply qs | apply qt | apply qu | exact aa8 | exact aa7) | (with_reducible refine aa0 ?_ ?_; decide) | ((with_reducible refine ab0 ?_); exact rfl) | ((with_reducible first | apply qv | apply qw | apply qx); focus (simp (disch := omega) only [go_sem, simprocAttr, setE]; with_reducible first | exact ac1 | exact ac2)) | ((with_reducible first | apply qy | apply qz); focus (simp (disch := omega) only [go_sem, simprocAttr, setE]; done)) | ((with_reducible first | apply q26 | apply q27 | apply q28); focus (simp (disch := omega) only [go_sem, simprocAttr, setE]; first | with_reducible exact rfl | (rw [if_pos (by first | omega | (constructor <;> omega) | (simp; done) | assumption)]; first | with_reducible exact rfl | (try simp (disch := omega) only [go_sem, simprocAttr, setE]; with_reducible exact rfl))))
 with_reducible apply am4
 ·first | exact rfl | (simp (disch := omega) only [go_sem, simprocAttr, setE]; exact rfl)
 ·(simp (disch := omega) only [go_sem, simprocAttr, setE]; exact rfl)
 ·exact hn (bq5 of n k) 0 _ (de7 of n k)
 repeat' first | (with_reducible first | apply qa | apply qb | apply qc | apply qd | apply qe | apply qf | apply qg | apply qh | apply qi | apply qj | apply qk | apply ql | apply qm | apply qn | apply qo | apply qp | apply qq | apply qr | apply qs | apply qt | apply qu | exact aa8 | exact aa7) | (with_reducible refine aa0 ?_ ?_; decide) | ((with_reducible refine ab0 ?_); exact rfl) | ((with_reducible first | apply qv | apply qw | apply qx); focus (simp (disch := omega) only [go_sem, simprocAttr]; with_reducible first | exact ac1 | exact ac2)) | ((with_reducible first | apply qy | apply qz); focus (simp (disch := omega) only [go_sem, simprocAttr]; done)) | ((with_reducible first | apply q26 | apply q27 | apply q28); focus (simp (disch := omega) only [go_sem, simprocAttr]; first | with_reducible exact rfl | (rw [if_pos (by first | omega | (constructor <;> omega) | (simp; done) | assumption)]; first | with_reducible exact rfl | (try simp (disch := omega) only [go_sem, simprocAttr]; with_reducible exact rfl))))
 refine aj1 hok (r := .int .i64 (bv0 (av5 (bq5 of n k)) 0)) ?_ ?_ ⟨rfl, rfl⟩
 ·first | (simp (disch := omega) only [go_sem, simprocAttr, ab1, ae1, aj2, av4]; done) | (simp (disch := omega) only [go_sem, simprocAttr, ab1, ae1, aj2, av4]; with_reducible exact rfl) | exact rfl
 ·first | (simp [EV.ok, okL, aa4, aa5, ab2]; done)
end
end Abs
