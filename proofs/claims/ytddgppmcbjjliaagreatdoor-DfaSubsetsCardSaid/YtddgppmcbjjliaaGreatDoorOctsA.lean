/- A part. -/
import Derived.Test.YtddgppmcbjjliaaGreatDoorGnO
set_option linter.all false
namespace Abs
open Go Gn
set_option linter.unusedSimpArgs false
section
variable {P : Program} {γ : Nat → EV}
def di2 (P : Program) (γ : Nat → EV) (f : FuncId) (g : Nat → Nat → Nat) : Prop :=
 ∀ (H : Heap) (x y : Nat), x < 18446744073709551616 → y < 18446744073709551616 → CallsA P γ f [.int .u64 x, .int .u64 y] H fun er H' => er = .ret (.int .u64 (g x y)) ∧ H' = H
theorem dv3 {f : FuncId} (hb : Body P f at5 as1 8) : di2 P γ f (· &&& ·) := by
 intro H x y hx hy
 refine hb.calls (by simp) fun hok => ?_
 unfold at5
 repeat' first | (with_reducible first | apply qa | apply qb | apply qc | apply qd | apply qe | apply qf | apply qg | apply qh | apply qi | apply qj | apply qk | apply ql | apply qm | apply qn | apply qo | apply qp | apply qq | apply qr | apply qs | apply qt | apply qu | exact aa8 | exact aa7) | (with_reducible refine aa0 ?_ ?_; decide) | ((with_reducible refine ab0 ?_); exact rfl) | ((with_reducible first | apply qv | apply qw | apply qx); focus (simp (disch := omega) only [go_sem, simprocAttr]; with_reducible first | exact ac1 | exact ac2)) | ((with_reducible first | apply qy | apply qz); focus (simp (disch := omega) only [go_sem, simprocAttr]; done)) | ((with_reducible first | apply q26 | apply q27 | apply q28); focus (simp (disch := omega) only [go_sem, simprocAttr]; first | with_reducible exact rfl | (rw [if_pos (by first | omega | (constructor <;> omega) | (simp; done) | assumption)]; first | with_reducible exact rfl | (try simp (disch := omega) only [go_sem, simprocAttr]; with_reducible exact rfl))))
 exact bw6 hok (r := .int .u64 (br4 .and .u64 x y)) rfl rfl ⟨by rw [cs3 hx hy], rfl⟩
def setE (w : Nat → Nat) : EV := .agg (tab 4 fun i => .int .u64 (w i))
def av8 (w : Nat → Nat) : Prop := ∀ i, w i < 18446744073709551616
set_option maxHeartbeats 4000000 in
theorem ek0 {f g : FuncId} {op : Nat → Nat → Nat} (hb : Body P f bc0 aq7 23) (hg : di2 P γ g op) (x y : Nat → Nat) (hx : av8 x) (hy : av8 y) (H : Heap) :
  CallsA P γ f [setE x, setE y, .func (.func g) [] []] H fun er H' => er = .ret (setE fun i => op (x i) (y i)) ∧ H' = H := by
 refine hb.calls (by simp) fun hok => ?_
 unfold bc0
 repeat' first | (with_reducible first | apply qa | apply qb | apply qc | apply qd | apply qe | apply qf | apply qg | apply qh | apply qi | apply qj | apply qk | apply ql | apply qm | apply qn | apply qo | apply qp | apply qq | apply qr | apply qs | apply qt | apply qu | exact aa8 | exact aa7) | (with_reducible refine aa0 ?_ ?_; decide) | ((with_reducible refine ab0 ?_); exact rfl) | ((with_reducible first | apply qv | apply qw | apply qx); focus (simp (disch := omega) only [go_sem, simprocAttr, setE]; with_reducible first | exact ac1 | exact ac2)) | ((with_reducible first | apply qy | apply qz); focus (simp (disch := omega) only [go_sem, simprocAttr, setE]; done)) | ((with_reducible first | apply q26 | apply q27 | apply q28); focus (simp (disch := omega) only [go_sem, simprocAttr, setE]; first | with_reducible exact rfl | (rw [if_pos (by first | omega | (constructor <;> omega) | (simp; done) | assumption)]; first | with_reducible exact rfl | (try simp (disch := omega) only [go_sem, simprocAttr, setE]; with_reducible exact rfl))))
 refine au0 (ι := Nat) (fun i => i ≤ 4) (fun i => 4 - i) (fun i => [(2, .func (.func g) [] []), (3, .ptr H.length 4 0 0), (4, .ptr (H.length + 1) 4 0 0), (6, .ptr (H.length + 2) 4 0 0), (8, .int .i64 i)])
  (fun i => H ++ [some (.row 4 [setE fun j => if j < i then op (x j) (y j) else x j]), some (.row 4 [setE y]), some (.row 4 [setE fun _ => 0])]) 0 (by omega) ?_ ?_ ?_ ?_ ?_
 ·(repeat' (first | exact trivial | refine And.intro (And.intro ?_ ?_) ?_)) <;> first | exact rfl | (simp (disch := omega) only [go_sem, simprocAttr, EV.ok, aa4, aa5, ab2, okL, decide_eq_true_eq, EV.int.injEq]; done) | (simp (disch := omega) only [go_sem, simprocAttr, EV.ok, aa4, aa5, ab2, okL, decide_eq_true_eq, EV.int.injEq] <;> first | exact rfl | omega)
 ·simp [setE]
 ·exact fun i _ => bn2 hok (by simp [okG, EB.ok, okL, setE, EV.ok, aa4])
 ·simp
 ·intro i hi K Q' hK hQ'
  repeat' first | (with_reducible first | apply qa | apply qb | apply qc | apply qd | apply qe | apply qf | apply qg | apply qh | apply qi | apply qj | apply qk | apply ql | apply qm | apply qn | apply qo | apply qp | apply qq | apply qr | apply qs | apply qt | apply qu | exact aa8 | exact aa7) | (with_reducible refine aa0 ?_ ?_; decide) | ((with_reducible refine ab0 ?_); exact rfl) | ((with_reducible first | apply qv | apply qw | apply qx); focus (simp (disch := omega) only [go_sem, simprocAttr, setE]; with_reducible first | exact ac1 | exact ac2)) | ((with_reducible first | apply qy | apply qz); focus (simp (disch := omega) only [go_sem, simprocAttr, setE]; done)) | ((with_reducible first | apply q26 | apply q27 | apply q28); focus (simp (disch := omega) only [go_sem, simprocAttr, setE]; first | with_reducible exact rfl | (rw [if_pos (by first | omega | (constructor <;> omega) | (simp; done) | assumption)]; first | with_reducible exact rfl | (try simp (disch := omega) only [go_sem, simprocAttr, setE]; with_reducible exact rfl))))
  refine au1 (t := decide ((i : Int) < 4)) (by simp (disch := omega) only [go_sem, simprocAttr]) (fun ht => ?_) (fun ht => ?_)
  ·have hi4 : i < 4 := by have := of_decide_eq_true ht; omega
   repeat' first | (with_reducible first | apply qa | apply qb | apply qc | apply qd | apply qe | apply qf | apply qg | apply qh | apply qi | apply qj | apply qk | apply ql | apply qm | apply qn | apply qo | apply qp | apply qq | apply qr | apply qs | apply qt | apply qu | exact aa8 | exact aa7) | (with_reducible refine aa0 ?_ ?_; decide) | ((with_reducible refine ab0 ?_); exact rfl) | ((with_reducible first | apply qv | apply qw | apply qx); focus (simp (disch := omega) only [go_sem, simprocAttr, setE]; with_reducible first | exact ac1 | exact ac2)) | ((with_reducible first | apply qy | apply qz); focus (simp (disch := omega) only [go_sem, simprocAttr, setE]; done)) | ((with_reducible first | apply q26 | apply q27 | apply q28); focus (simp (disch := omega) only [go_sem, simprocAttr, setE]; first | with_reducible exact rfl | (rw [if_pos (by first | omega | (constructor <;> omega) | (simp; done) | assumption)]; first | with_reducible exact rfl | (try simp (disch := omega) only [go_sem, simprocAttr, setE]; with_reducible exact rfl))))
   with_reducible apply be4
   ·first | exact rfl | (simp (disch := omega) only [go_sem, simprocAttr, setE]; exact rfl)
   ·(simp (disch := omega) only [go_sem, simprocAttr, setE]; exact rfl)
   ·exact hg _ _ _ (hx _) (hy _)
   ·exact fun _ => rfl
   repeat' first | (with_reducible first | apply qa | apply qb | apply qc | apply qd | apply qe | apply qf | apply qg | apply qh | apply qi | apply qj | apply qk | apply ql | apply qm | apply qn | apply qo | apply qp | apply qq | apply qr | apply qs | apply qt | apply qu | exact aa8 | exact aa7) | (with_reducible refine aa0 ?_ ?_; decide) | ((with_reducible refine ab0 ?_); exact rfl) | ((with_reducible first | apply qv | apply qw | apply qx); focus (simp (disch := omega) only [go_sem, simprocAttr, setE]; with_reducible first | exact ac1 | exact ac2)) | ((with_reducible first | apply qy | apply qz); focus (simp (disch := omega) only [go_sem, simprocAttr, setE]; done)) | ((with_reducible first | apply q26 | apply q27 | apply q28); focus (simp (disch := omega) only [go_sem, simprocAttr, setE]; first | with_reducible exact rfl | (rw [if_pos (by first | omega | (constructor <;> omega) | (simp; done) | assumption)]; first | with_reducible exact rfl | (try simp (disch := omega) only [go_sem, simprocAttr, setE]; with_reducible exact rfl))))
   refine hK (i + 1) _ _ [] (by omega) (by omega) ?_ ?_
   ·have e := ez8 (κ := .u64) (a := fun j => op (x j) (y j)) (b := x) (i := i)
    simp only [setE, e, Int.natCast_zero, List.append_nil]
   ·(repeat' (first | exact trivial | refine And.intro (And.intro ?_ ?_) ?_)) <;> first | exact rfl | (simp (disch := omega) only [go_sem, simprocAttr, EV.ok, aa4, aa5, ab2, okL, decide_eq_true_eq, EV.int.injEq]; done) | (simp (disch := omega) only [go_sem, simprocAttr, EV.ok, aa4, aa5, ab2, okL, decide_eq_true_eq, EV.int.injEq] <;> first | exact rfl | omega)
  ·have hi4 : i = 4 := by have := of_decide_eq_false ht; omega
   subst hi4
   repeat' first | (with_reducible first | apply qa | apply qb | apply qc | apply qd | apply qe | apply qf | apply qg | apply qh | apply qi | apply qj | apply qk | apply ql | apply qm | apply qn | apply qo | apply qp | apply qq | apply qr | apply qs | apply qt | apply qu | exact aa8 | exact aa7) | (with_reducible refine aa0 ?_ ?_; decide) | ((with_reducible refine ab0 ?_); exact rfl) | ((with_reducible first | apply qv | apply qw | apply qx); focus (simp (disch := omega) only [go_sem, simprocAttr]; with_reducible first | exact ac1 | exact ac2)) | ((with_reducible first | apply qy | apply qz); focus (simp (disch := omega) only [go_sem, simprocAttr]; done)) | ((with_reducible first | apply q26 | apply q27 | apply q28); focus (simp (disch := omega) only [go_sem, simprocAttr]; first | with_reducible exact rfl | (rw [if_pos (by first | omega | (constructor <;> omega) | (simp; done) | assumption)]; first | with_reducible exact rfl | (try simp (disch := omega) only [go_sem, simprocAttr]; with_reducible exact rfl))))
   refine hQ' _ _ _ ?_
   repeat' first | (with_reducible first | apply qa | apply qb | apply qc | apply qd | apply qe | apply qf | apply qg | apply qh | apply qi | apply qj | apply qk | apply ql | apply qm | apply qn | apply qo | apply qp | apply qq | apply qr | apply qs | apply qt | apply qu | exact aa8 | exact aa7) | (with_reducible refine aa0 ?_ ?_; decide) | ((with_reducible refine ab0 ?_); exact rfl) | ((with_reducible first | apply qv | apply qw | apply qx); focus (simp (disch := omega) only [go_sem, simprocAttr, setE]; with_reducible first | exact ac1 | exact ac2)) | ((with_reducible first | apply qy | apply qz); focus (simp (disch := omega) only [go_sem, simprocAttr, setE]; done)) | ((with_reducible first | apply q26 | apply q27 | apply q28); focus (simp (disch := omega) only [go_sem, simprocAttr, setE]; first | with_reducible exact rfl | (rw [if_pos (by first | omega | (constructor <;> omega) | (simp; done) | assumption)]; first | with_reducible exact rfl | (try simp (disch := omega) only [go_sem, simprocAttr, setE]; with_reducible exact rfl))))
   refine aj1 hok (r := setE fun i => op (x i) (y i)) ?_ ?_ ⟨rfl, rfl⟩
   ·first | (simp (disch := omega) only [go_sem, simprocAttr, ab1, ae1, aj2, aq7, setE]; done) | (simp (disch := omega) only [go_sem, simprocAttr, ab1, ae1, aj2, aq7, setE]; with_reducible exact rfl) | exact rfl
   ·first | (simp [EV.ok, okL, aa4, aa5, ab2, setE]; done)
theorem fa0 {n : Nat} {w : Nat → Nat} : (setE w).ok n = true := by simp [setE, EV.ok, aa4]
theorem ff1 {f fe fc : FuncId} (hb : Body P f (bn3 fc fe) aw4 8) (he : Body P fe bc0 aq7 23) (hc : Body P fc at5 as1 8) (x y : Nat → Nat) (hx : av8 x) (hy : av8 y) (H : Heap) :
  CallsA P γ f [setE x, setE y] H fun er H' => er = .ret (setE fun i => x i &&& y i) ∧ H' = H := by
 refine hb.calls (by simp) fun hok => ?_
 unfold bn3
 repeat' first | (with_reducible first | apply qa | apply qb | apply qc | apply qd | apply qe | apply qf | apply qg | apply qh | apply qi | apply qj | apply qk | apply ql | apply qm | apply qn | apply qo | apply qp | apply qq | apply qr | apply qs | apply qt | apply qu | exact aa8 | exact aa7) | (with_reducible refine aa0 ?_ ?_; decide) | ((with_reducible refine ab0 ?_); exact rfl) | ((with_reducible first | apply qv | apply qw | apply qx); focus (simp (disch := omega) only [go_sem, simprocAttr, setE]; with_reducible first | exact ac1 | exact ac2)) | ((with_reducible first | apply qy | apply qz); focus (simp (disch := omega) only [go_sem, simprocAttr, setE]; done)) | ((with_reducible first | apply q26 | apply q27 | apply q28); focus (simp (disch := omega) only [go_sem, simprocAttr, setE]; first | with_reducible exact rfl | (rw [if_pos (by first | omega | (constructor <;> omega) | (simp; done) | assumption)]; first | with_reducible exact rfl | (try simp (disch := omega) only [go_sem, simprocAttr, setE]; with_reducible exact rfl))))
 with_reducible apply am4
 ·first | exact rfl | (simp (disch := omega) only [go_sem, simprocAttr, setE]; exact rfl)
 ·(simp (disch := omega) only [go_sem, simprocAttr, setE]; exact rfl)
 ·exact ek0 he (dv3 hc) x y hx hy _
 repeat' first | (with_reducible first | apply qa | apply qb | apply qc | apply qd | apply qe | apply qf | apply qg | apply qh | apply qi | apply qj | apply qk | apply ql | apply qm | apply qn | apply qo | apply qp | apply qq | apply qr | apply qs | apply qt | apply qu | exact aa8 | exact aa7) | (with_reducible refine aa0 ?_ ?_; decide) | ((with_reducible refine ab0 ?_); exact rfl) | ((with_reducible first | apply qv | apply qw | apply qx); focus (simp (disch := omega) only [go_sem, simprocAttr, setE]; with_reducible first | exact ac1 | exact ac2)) | ((with_reducible first | apply qy | apply qz); focus (simp (disch := omega) only [go_sem, simprocAttr, setE]; done)) | ((with_reducible first | apply q26 | apply q27 | apply q28); focus (simp (disch := omega) only [go_sem, simprocAttr, setE]; first | with_reducible exact rfl | (rw [if_pos (by first | omega | (constructor <;> omega) | (simp; done) | assumption)]; first | with_reducible exact rfl | (try simp (disch := omega) only [go_sem, simprocAttr, setE]; with_reducible exact rfl))))
 refine aj1 hok (r := setE fun i => x i &&& y i) ?_ ?_ ⟨rfl, rfl⟩
 ·first | (simp (disch := omega) only [go_sem, simprocAttr, ab1, ae1, aj2, aw4, setE]; done) | (simp (disch := omega) only [go_sem, simprocAttr, ab1, ae1, aj2, aw4, setE]; with_reducible exact rfl) | exact rfl
 ·first | (simp [EV.ok, okL, aa4, aa5, ab2, setE]; done)
def aj5 (bs : List Nat) (i : Nat) : Nat := bs.foldl (fun w b => if i = b / 64 then w ||| 2 ^ (b % 64) else w) 0
theorem dk4 (b : Nat) : 2 ^ (b % 64) < 18446744073709551616 := by
 have : (2 : Nat) ^ (b % 64) ≤ 2 ^ 63 := Nat.pow_le_pow_right (by decide) (by omega)
 omega
theorem bp6 (bs : List Nat) : av8 (aj5 bs) := by
 intro i
 unfold aj5
 have : ∀ (bs : List Nat) (w : Nat), w < 18446744073709551616 → bs.foldl (fun w b => if i = b / 64 then w ||| 2 ^ (b % 64) else w) w < 18446744073709551616 := by
  intro bs
  induction bs with
  | nil => intro w h; exact h
  | cons b bs ih =>
   intro w h
   rw [List.foldl_cons]
   refine ih _ ?_
   split
   ·exact Nat.or_lt_two_pow (n := 64) h (dk4 b)
   ·exact h
 exact this bs 0 (by omega)
def bf9 (bs : List Nat) : EV := .imm 1 (bs.map fun b => EV.int .u8 ((b : Nat) : Int))
theorem bx4 {n : Nat} {bs : List Nat} : (bf9 bs).ok n = true := by
 simp only [bf9, EV.ok, ag9, List.mem_map]
 rintro x ⟨b, _, rfl⟩
 rfl
set_option maxHeartbeats 4000000 in
theorem fi7 {f : FuncId} (hb : Body P f by1 bc2 23) (bs : List Nat) (h8 : ∀ b ∈ bs, b < 256) (hlen : bs.length < 9223372036854775807) (H : Heap) :
  CallsA P γ f [bf9 bs] H fun er H' => er = .ret (setE (aj5 bs)) ∧ H' = H := by
 refine hb.calls (by simp) fun hok => ?_
 unfold by1
 repeat' first | (with_reducible first | apply qa | apply qb | apply qc | apply qd | apply qe | apply qf | apply qg | apply qh | apply qi | apply qj | apply qk | apply ql | apply qm | apply qn | apply qo | apply qp | apply qq | apply qr | apply qs | apply qt | apply qu | exact aa8 | exact aa7) | (with_reducible refine aa0 ?_ ?_; decide) | ((with_reducible refine ab0 ?_); exact rfl) | ((with_reducible first | apply qv | apply qw | apply qx); focus (simp (disch := omega) only [go_sem, simprocAttr, bf9, List.length_map]; with_reducible first | exact ac1 | exact ac2)) | ((with_reducible first | apply qy | apply qz); focus (simp (disch := omega) only [go_sem, simprocAttr, bf9, List.length_map]; done)) | ((with_reducible first | apply q26 | apply q27 | apply q28); focus (simp (disch := omega) only [go_sem, simprocAttr, bf9, List.length_map]; first | with_reducible exact rfl | (rw [if_pos (by first | omega | (constructor <;> omega) | (simp; done) | assumption)]; first | with_reducible exact rfl | (try simp (disch := omega) only [go_sem, simprocAttr, bf9, List.length_map]; with_reducible exact rfl))))
 refine au0 (ι := Nat) (fun i => i ≤ bs.length) (fun i => bs.length - i) (fun i => [(2, .ptr H.length 4 0 0), (3, .ptr (H.length + 1) 4 0 0), (6, bf9 bs), (7, .int .i64 bs.length), (8, .int .i64 i)])
  (fun i => H ++ [some (.row 4 [setE fun _ => 0]), some (.row 4 [setE (aj5 (bs.take i))])]) 0 (by omega) ?_ ?_ ?_ ?_ ?_
 ·(repeat' (first | exact trivial | refine And.intro (And.intro ?_ ?_) ?_)) <;> first | exact rfl | (simp (disch := omega) only [go_sem, simprocAttr, bx4, EV.ok, aa4, aa5, ab2, okL, decide_eq_true_eq, EV.int.injEq]; done) | (simp (disch := omega) only [go_sem, simprocAttr, bx4, EV.ok, aa4, aa5, ab2, okL, decide_eq_true_eq, EV.int.injEq] <;> first | exact rfl | omega)
 ·simp [setE, aj5]
 ·exact fun i _ => bn2 hok (by simp [okG, EB.ok, okL, setE, EV.ok, aa4])
 ·simp
 ·intro i hi K Q' hK hQ'
  repeat' first | (with_reducible first | apply qa | apply qb | apply qc | apply qd | apply qe | apply qf | apply qg | apply qh | apply qi | apply qj | apply qk | apply ql | apply qm | apply qn | apply qo | apply qp | apply qq | apply qr | apply qs | apply qt | apply qu | exact aa8 | exact aa7) | (with_reducible refine aa0 ?_ ?_; decide) | ((with_reducible refine ab0 ?_); exact rfl) | ((with_reducible first | apply qv | apply qw | apply qx); focus (simp (disch := omega) only [go_sem, simprocAttr]; with_reducible first | exact ac1 | exact ac2)) | ((with_reducible first | apply qy | apply qz); focus (simp (disch := omega) only [go_sem, simprocAttr]; done)) | ((with_reducible first | apply q26 | apply q27 | apply q28); focus (simp (disch := omega) only [go_sem, simprocAttr]; first | with_reducible exact rfl | (rw [if_pos (by first | omega | (constructor <;> omega) | (simp; done) | assumption)]; first | with_reducible exact rfl | (try simp (disch := omega) only [go_sem, simprocAttr]; with_reducible exact rfl))))
  refine au1 (t := decide ((i : Int) < bs.length)) (by simp (disch := omega) only [go_sem, simprocAttr]) (fun ht => ?_) (fun ht => ?_)
  ·have hil : i < bs.length := by have := of_decide_eq_true ht; omega
   obtain ⟨b, hbi⟩ : ∃ b, bs[i]? = some b := ⟨bs[i], by simp [hil]⟩
   have hb8 := h8 b (List.mem_of_getElem? hbi)
   have hw := bp6 (bs.take i) (b / 64)
   have hp := dk4 b
   repeat' first | (with_reducible first | apply qa | apply qb | apply qc | apply qd | apply qe | apply qf | apply qg | apply qh | apply qi | apply qj | apply qk | apply ql | apply qm | apply qn | apply qo | apply qp | apply qq | apply qr | apply qs | apply qt | apply qu | exact aa8 | exact aa7) | (with_reducible refine aa0 ?_ ?_; decide) | ((with_reducible refine ab0 ?_); exact rfl) | ((with_reducible first | apply qv | apply qw | apply qx); focus (simp (disch := omega) only [go_sem, simprocAttr, setE, bf9, List.getElem?_map, hbi, cj2]; with_reducible first | exact ac1 | exact ac2)) | ((with_reducible first | apply qy | apply qz); focus (simp (disch := omega) only [go_sem, simprocAttr, setE, bf9, List.getElem?_map, hbi, cj2]; done)) | ((with_reducible first | apply q26 | apply q27 | apply q28); focus (simp (disch := omega) only [go_sem, simprocAttr, setE, bf9, List.getElem?_map, hbi, cj2]; first | with_reducible exact rfl | (rw [if_pos (by first | omega | (constructor <;> omega) | (simp; done) | assumption)]; first | with_reducible exact rfl | (try simp (disch := omega) only [go_sem, simprocAttr, setE, bf9, List.getElem?_map, hbi, cj2]; with_reducible exact rfl))))
   refine hK (i + 1) _ _ [] (by omega) (by omega) ?_ ?_
   ·have e : ∀ j, aj5 (bs.take (i + 1)) j = if j = b / 64 then aj5 (bs.take i) (b / 64) ||| 2 ^ (b % 64) else aj5 (bs.take i) j := by
     intro j
     rw [List.take_add_one, hbi]
     simp only [aj5, List.foldl_append, Option.toList_some, List.foldl_cons, List.foldl_nil]
     by_cases h : j = b / 64
     ·subst h; simp
     ·rw [if_neg h, if_neg h]
    simp only [setE, e, Int.natCast_zero, List.append_nil]
   ·(repeat' (first | exact trivial | refine And.intro (And.intro ?_ ?_) ?_)) <;> first | exact rfl | (simp (disch := omega) only [go_sem, simprocAttr, bx4, EV.ok, aa4, aa5, ab2, okL, decide_eq_true_eq, EV.int.injEq]; done) | (simp (disch := omega) only [go_sem, simprocAttr, bx4, EV.ok, aa4, aa5, ab2, okL, decide_eq_true_eq, EV.int.injEq] <;> first | exact rfl | omega)
  ·have hi4 : i = bs.length := by have := of_decide_eq_false ht; omega
   subst hi4
   repeat' first | (with_reducible first | apply qa | apply qb | apply qc | apply qd | apply qe | apply qf | apply qg | apply qh | apply qi | apply qj | apply qk | apply ql | apply qm | apply qn | apply qo | apply qp | apply qq | apply qr | apply qs | apply qt | apply qu | exact aa8 | exact aa7) | (with_reducible refine aa0 ?_ ?_; decide) | ((with_reducible refine ab0 ?_); exact rfl) | ((with_reducible first | apply qv | apply qw | apply qx); focus (simp (disch := omega) only [go_sem, simprocAttr]; with_reducible first | exact ac1 | exact ac2)) | ((with_reducible first | apply qy | apply qz); focus (simp (disch := omega) only [go_sem, simprocAttr]; done)) | ((with_reducible first | apply q26 | apply q27 | apply q28); focus (simp (disch := omega) only [go_sem, simprocAttr]; first | with_reducible exact rfl | (rw [if_pos (by first | omega | (constructor <;> omega) | (simp; done) | assumption)]; first | with_reducible exact rfl | (try simp (disch := omega) only [go_sem, simprocAttr]; with_reducible exact rfl))))
   refine hQ' _ _ _ ?_
   repeat' first | (with_reducible first | apply qa | apply qb | apply qc | apply qd | apply qe | apply qf | apply qg | apply qh | apply qi | apply qj | apply qk | apply ql | apply qm | apply qn | apply qo | apply qp | apply qq | apply qr | apply qs | apply qt | apply qu | exact aa8 | exact aa7) | (with_reducible refine aa0 ?_ ?_; decide) | ((with_reducible refine ab0 ?_); exact rfl) | ((with_reducible first | apply qv | apply qw | apply qx); focus (simp (disch := omega) only [go_sem, simprocAttr, setE]; with_reducible first | exact ac1 | exact ac2)) | ((with_reducible first | apply qy | apply qz); focus (simp (disch := omega) only [go_sem, simprocAttr, setE]; done)) | ((with_reducible first | apply q26 | apply q27 | apply q28); focus (simp (disch := omega) only [go_sem, simprocAttr, setE]; first | with_reducible exact rfl | (rw [if_pos (by first | omega | (constructor <;> omega) | (simp; done) | assumption)]; first | with_reducible exact rfl | (try simp (disch := omega) only [go_sem, simprocAttr, setE]; with_reducible exact rfl))))
   refine aj1 hok (r := setE (aj5 bs)) ?_ ?_ ⟨rfl, rfl⟩
   ·first | (simp (disch := omega) only [go_sem, simprocAttr, ab1, ae1, aj2, bc2, setE, List.take_length]; done) | (simp (disch := omega) only [go_sem, simprocAttr, ab1, ae1, aj2, bc2, setE, List.take_length]; with_reducible exact rfl) | exact rfl
   ·first | (simp [EV.ok, okL, aa4, aa5, ab2, setE, List.take_length]; done)
def ag6 (w : Nat → Nat) (b : Nat) : Bool := (w (b / 64)).testBit (b % 64)
theorem em6 {x m : Nat} : x &&& 2 ^ m = 0 ↔ x.testBit m = false := by
 constructor
 ·intro h
  have := congrArg (fun z => z.testBit m) h
  simpa [Nat.testBit_and, Nat.testBit_two_pow_self] using this
 ·intro h
  apply Nat.eq_of_testBit_eq
  intro j
  rw [Nat.testBit_and, Nat.testBit_two_pow]
  by_cases e : m = j
  ·subst e; simp [h]
  ·simp [e]
theorem ch7 (x : Nat → Nat) (b : Nat) (hb : b < 256) : (!cj6 4 (fun i => ((x i &&& aj5 [b] i : Nat) : Int)) fun _ => 0) = ag6 x b := by
 have hw : ∀ i, aj5 [b] i = if i = b / 64 then 2 ^ (b % 64) else 0 := by
  intro i
  simp [aj5]
 have key : (∀ i, i < 4 → (((x i &&& aj5 [b] i : Nat) : Int)) = 0) ↔ ag6 x b = false := by
  unfold ag6
  constructor
  ·intro h
   have h1 := h (b / 64) (by omega)
   rw [hw, if_pos rfl] at h1
   exact em6.1 (by omega)
  ·intro h i _
   rw [hw]
   by_cases e : i = b / 64
   ·subst e; rw [if_pos rfl, em6.2 h]; rfl
   ·rw [if_neg e]; simp
 cases hx : ag6 x b with
 | false => rw [bp5.2 (key.2 hx)]; rfl
 | true =>
  cases ha : cj6 4 (fun i => ((x i &&& aj5 [b] i : Nat) : Int)) fun _ => 0 with
  | false => rfl
  | true => rw [key.1 (bp5.1 ha)] at hx; simp at hx
def db3 (P : Program) (γ : Nat → EV) (f : FuncId) (κ : IntKind) : Prop :=
 ∀ (x : Nat → Nat) (b : Nat) (H : Heap), av8 x → b < 256 → CallsA P γ f [setE x, .int κ b] H fun er H' => er = .ret (.bool (ag6 x b)) ∧ H' = H
theorem fj4 {f fb fo fe fc : FuncId} (hb : Body P f (cd4 fb fo) bh3 12) (hB : Body P fb (bn3 fc fe) aw4 8) (hO : Body P fo by1 bc2 23) (he : Body P fe bc0 aq7 23)
  (hc : Body P fc at5 as1 8) : db3 P γ f .u8 := by
 intro x b H hx hb8
 refine hb.calls (by simp) fun hok => ?_
 unfold cd4
 repeat' first | (with_reducible first | apply qa | apply qb | apply qc | apply qd | apply qe | apply qf | apply qg | apply qh | apply qi | apply qj | apply qk | apply ql | apply qm | apply qn | apply qo | apply qp | apply qq | apply qr | apply qs | apply qt | apply qu | exact aa8 | exact aa7) | (with_reducible refine aa0 ?_ ?_; decide) | ((with_reducible refine ab0 ?_); exact rfl) | ((with_reducible first | apply qv | apply qw | apply qx); focus (simp (disch := omega) only [go_sem, simprocAttr, setE]; with_reducible first | exact ac1 | exact ac2)) | ((with_reducible first | apply qy | apply qz); focus (simp (disch := omega) only [go_sem, simprocAttr, setE]; done)) | ((with_reducible first | apply q26 | apply q27 | apply q28); focus (simp (disch := omega) only [go_sem, simprocAttr, setE]; first | with_reducible exact rfl | (rw [if_pos (by first | omega | (constructor <;> omega) | (simp; done) | assumption)]; first | with_reducible exact rfl | (try simp (disch := omega) only [go_sem, simprocAttr, setE]; with_reducible exact rfl))))
 with_reducible apply be4
 ·first | exact rfl | (simp (disch := omega) only [go_sem, simprocAttr, bf9]; exact rfl)
 ·(simp (disch := omega) only [go_sem, simprocAttr, bf9]; exact rfl)
 ·exact fi7 hO [b] (by simpa using hb8) (by simp) _
 ·exact fun _ => rfl
 repeat' first | (with_reducible first | apply qa | apply qb | apply qc | apply qd | apply qe | apply qf | apply qg | apply qh | apply qi | apply qj | apply qk | apply ql | apply qm | apply qn | apply qo | apply qp | apply qq | apply qr | apply qs | apply qt | apply qu | exact aa8 | exact aa7) | (with_reducible refine aa0 ?_ ?_; decide) | ((with_reducible refine ab0 ?_); exact rfl) | ((with_reducible first | apply qv | apply qw | apply qx); focus (simp (disch := omega) only [go_sem, simprocAttr, setE]; with_reducible first | exact ac1 | exact ac2)) | ((with_reducible first | apply qy | apply qz); focus (simp (disch := omega) only [go_sem, simprocAttr, setE]; done)) | ((with_reducible first | apply q26 | apply q27 | apply q28); focus (simp (disch := omega) only [go_sem, simprocAttr, setE]; first | with_reducible exact rfl | (rw [if_pos (by first | omega | (constructor <;> omega) | (simp; done) | assumption)]; first | with_reducible exact rfl | (try simp (disch := omega) only [go_sem, simprocAttr, setE]; with_reducible exact rfl))))
 with_reducible apply be4
 ·first | exact rfl | (simp (disch := omega) only [go_sem, simprocAttr, setE]; exact rfl)
 ·(simp (disch := omega) only [go_sem, simprocAttr, setE]; exact rfl)
 ·exact ff1 hB he hc x (aj5 [b]) hx (bp6 _) _
 ·exact fun _ => rfl
 repeat' first | (with_reducible first | apply qa | apply qb | apply qc | apply qd | apply qe | apply qf | apply qg | apply qh | apply qi | apply qj | apply qk | apply ql | apply qm | apply qn | apply qo | apply qp | apply qq | apply qr | apply qs | apply qt | apply qu | exact aa8 | exact aa7) | (with_reducible refine aa0 ?_ ?_; decide) | ((with_reducible refine ab0 ?_); exact rfl) | ((with_reducible first | apply qv | apply qw | apply qx); focus (simp (disch := omega) only [go_sem, simprocAttr, setE]; with_reducible first | exact ac1 | exact ac2)) | ((with_reducible first | apply qy | apply qz); focus (simp (disch := omega) only [go_sem, simprocAttr, setE]; done)) | ((with_reducible first | apply q26 | apply q27 | apply q28); focus (simp (disch := omega) only [go_sem, simprocAttr, setE]; first | with_reducible exact rfl | (rw [if_pos (by first | omega | (constructor <;> omega) | (simp; done) | assumption)]; first | with_reducible exact rfl | (try simp (disch := omega) only [go_sem, simprocAttr, setE]; with_reducible exact rfl))))
 refine aj1 hok (r := .bool (ag6 x b)) ?_ ?_ ⟨rfl, rfl⟩
 ·first | (simp (disch := omega) only [go_sem, simprocAttr, ab1, ae1, aj2, bh3, ch7, hb8]; done) | (simp (disch := omega) only [go_sem, simprocAttr, ab1, ae1, aj2, bh3, ch7, hb8]; with_reducible exact rfl) | exact rfl
 ·first | (simp [EV.ok, okL, aa4, aa5, ab2, ch7, hb8]; done)
theorem dh8 {w m : Nat} : (((w / 2 ^ m % 2 : Nat) : Int) == 1) = w.testBit m := by
 rw [Nat.testBit_eq_decide_div_mod_eq, Bool.eq_iff_iff]
 simp only [beq_iff_eq, decide_eq_true_eq]
 omega
theorem ea5 {f : FuncId} (hb : Body P f av1 an2 22) : db3 P γ f .i64 := by
 intro x b H hx hb8
 refine hb.calls (by simp) fun hok => ?_
 unfold av1
 repeat' first | (with_reducible first | apply qa | apply qb | apply qc | apply qd | apply qe | apply qf | apply qg | apply qh | apply qi | apply qj | apply qk | apply ql | apply qm | apply qn | apply qo | apply qp | apply qq | apply qr | apply qs | apply qt | apply qu | exact aa8 | exact aa7) | (with_reducible refine aa0 ?_ ?_; decide) | ((with_reducible refine ab0 ?_); exact rfl) | ((with_reducible first | apply qv | apply qw | apply qx); focus (simp (disch := omega) only [go_sem, simprocAttr, setE]; with_reducible first | exact ac1 | exact ac2)) | ((with_reducible first | apply qy | apply qz); focus (simp (disch := omega) only [go_sem, simprocAttr, setE]; done)) | ((with_reducible first | apply q26 | apply q27 | apply q28); focus (simp (disch := omega) only [go_sem, simprocAttr, setE]; first | with_reducible exact rfl | (rw [if_pos (by first | omega | (constructor <;> omega) | (simp; done) | assumption)]; first | with_reducible exact rfl | (try simp (disch := omega) only [go_sem, simprocAttr, setE]; with_reducible exact rfl))))
 refine au0 (ι := Nat) (fun i => i ≤ b % 64) (fun i => b % 64 - i) (fun i => [(1, .int .i64 b), (5, .int .u64 ((x (b / 64) / 2 ^ i : Nat) : Int)), (6, .int .i64 i)]) (fun _ => H ++ [some (.row 4 [setE x])]) 0 (by omega) ?_ ?_ ?_ ?_ ?_
 ·(repeat' (first | exact trivial | refine And.intro (And.intro ?_ ?_) ?_)) <;> first | exact rfl | (simp (disch := omega) only [go_sem, simprocAttr, Nat.pow_zero, Nat.div_one, EV.ok, aa4, aa5, ab2, okL, decide_eq_true_eq, EV.int.injEq]; done) | (simp (disch := omega) only [go_sem, simprocAttr, Nat.pow_zero, Nat.div_one, EV.ok, aa4, aa5, ab2, okL, decide_eq_true_eq, EV.int.injEq] <;> first | exact rfl | omega)
 ·rfl
 ·exact fun i _ => bn2 hok (by simp [okG, EB.ok, okL, setE, EV.ok, aa4])
 ·simp
 ·intro i hi K Q' hK hQ'
  have h1 := hx (b / 64)
  have h2 : x (b / 64) / 2 ^ i ≤ x (b / 64) := Nat.div_le_self _ _
  obtain ⟨q, hq⟩ : ∃ q, x (b / 64) / 2 ^ i = q := ⟨_, rfl⟩
  rw [hq] at h2
  repeat' first | (with_reducible first | apply qa | apply qb | apply qc | apply qd | apply qe | apply qf | apply qg | apply qh | apply qi | apply qj | apply qk | apply ql | apply qm | apply qn | apply qo | apply qp | apply qq | apply qr | apply qs | apply qt | apply qu | exact aa8 | exact aa7) | (with_reducible refine aa0 ?_ ?_; decide) | ((with_reducible refine ab0 ?_); exact rfl) | ((with_reducible first | apply qv | apply qw | apply qx); focus (simp (disch := omega) only [go_sem, simprocAttr]; with_reducible first | exact ac1 | exact ac2)) | ((with_reducible first | apply qy | apply qz); focus (simp (disch := omega) only [go_sem, simprocAttr]; done)) | ((with_reducible first | apply q26 | apply q27 | apply q28); focus (simp (disch := omega) only [go_sem, simprocAttr]; first | with_reducible exact rfl | (rw [if_pos (by first | omega | (constructor <;> omega) | (simp; done) | assumption)]; first | with_reducible exact rfl | (try simp (disch := omega) only [go_sem, simprocAttr]; with_reducible exact rfl))))
  refine au1 (t := decide ((i : Int) < (b % 64 : Nat))) (by simp (disch := omega) only [go_sem, simprocAttr]) (fun ht => ?_) (fun ht => ?_)
  ·have hil : i < b % 64 := by have := of_decide_eq_true ht; omega
   repeat' first | (with_reducible first | apply qa | apply qb | apply qc | apply qd | apply qe | apply qf | apply qg | apply qh | apply qi | apply qj | apply qk | apply ql | apply qm | apply qn | apply qo | apply qp | apply qq | apply qr | apply qs | apply qt | apply qu | exact aa8 | exact aa7) | (with_reducible refine aa0 ?_ ?_; decide) | ((with_reducible refine ab0 ?_); exact rfl) | ((with_reducible first | apply qv | apply qw | apply qx); focus (simp (disch := omega) only [go_sem, simprocAttr, hq]; with_reducible first | exact ac1 | exact ac2)) | ((with_reducible first | apply qy | apply qz); focus (simp (disch := omega) only [go_sem, simprocAttr, hq]; done)) | ((with_reducible first | apply q26 | apply q27 | apply q28); focus (simp (disch := omega) only [go_sem, simprocAttr, hq]; first | with_reducible exact rfl | (rw [if_pos (by first | omega | (constructor <;> omega) | (simp; done) | assumption)]; first | with_reducible exact rfl | (try simp (disch := omega) only [go_sem, simprocAttr, hq]; with_reducible exact rfl))))
   have e : x (b / 64) / 2 ^ (i + 1) = q / 2 := by rw [Nat.pow_succ, ← Nat.div_div_eq_div_mul, hq]
   refine hK (i + 1) _ _ [] (by omega) (by omega) (by simp) ?_
   (repeat' (first | exact trivial | refine And.intro (And.intro ?_ ?_) ?_)) <;> first | exact rfl | (simp (disch := omega) only [go_sem, simprocAttr, e, EV.ok, aa4, aa5, ab2, okL, decide_eq_true_eq, EV.int.injEq]; done) | (simp (disch := omega) only [go_sem, simprocAttr, e, EV.ok, aa4, aa5, ab2, okL, decide_eq_true_eq, EV.int.injEq] <;> first | exact rfl | omega)
  ·have hi4 : i = b % 64 := by have := of_decide_eq_false ht; omega
   subst hi4
   repeat' first | (with_reducible first | apply qa | apply qb | apply qc | apply qd | apply qe | apply qf | apply qg | apply qh | apply qi | apply qj | apply qk | apply ql | apply qm | apply qn | apply qo | apply qp | apply qq | apply qr | apply qs | apply qt | apply qu | exact aa8 | exact aa7) | (with_reducible refine aa0 ?_ ?_; decide) | ((with_reducible refine ab0 ?_); exact rfl) | ((with_reducible first | apply qv | apply qw | apply qx); focus (simp (disch := omega) only [go_sem, simprocAttr]; with_reducible first | exact ac1 | exact ac2)) | ((with_reducible first | apply qy | apply qz); focus (simp (disch := omega) only [go_sem, simprocAttr]; done)) | ((with_reducible first | apply q26 | apply q27 | apply q28); focus (simp (disch := omega) only [go_sem, simprocAttr]; first | with_reducible exact rfl | (rw [if_pos (by first | omega | (constructor <;> omega) | (simp; done) | assumption)]; first | with_reducible exact rfl | (try simp (disch := omega) only [go_sem, simprocAttr]; with_reducible exact rfl))))
   refine hQ' _ _ _ ?_
   repeat' first | (with_reducible first | apply qa | apply qb | apply qc | apply qd | apply qe | apply qf | apply qg | apply qh | apply qi | apply qj | apply qk | apply ql | apply qm | apply qn | apply qo | apply qp | apply qq | apply qr | apply qs | apply qt | apply qu | exact aa8 | exact aa7) | (with_reducible refine aa0 ?_ ?_; decide) | ((with_reducible refine ab0 ?_); exact rfl) | ((with_reducible first | apply qv | apply qw | apply qx); focus (simp (disch := omega) only [go_sem, simprocAttr]; with_reducible first | exact ac1 | exact ac2)) | ((with_reducible first | apply qy | apply qz); focus (simp (disch := omega) only [go_sem, simprocAttr]; done)) | ((with_reducible first | apply q26 | apply q27 | apply q28); focus (simp (disch := omega) only [go_sem, simprocAttr]; first | with_reducible exact rfl | (rw [if_pos (by first | omega | (constructor <;> omega) | (simp; done) | assumption)]; first | with_reducible exact rfl | (try simp (disch := omega) only [go_sem, simprocAttr]; with_reducible exact rfl))))
   refine aj1 hok (r := .bool (ag6 x b)) ?_ ?_ ⟨rfl, rfl⟩
   ·first | (simp (disch := omega) only [go_sem, simprocAttr, ab1, ae1, aj2, an2, ag6, dh8]; done) | (simp (disch := omega) only [go_sem, simprocAttr, ab1, ae1, aj2, an2, ag6, dh8]; with_reducible exact rfl) | exact rfl
   ·first | (simp [EV.ok, okL, aa4, aa5, ab2, ag6, dh8]; done)
end
open Gn
set_option maxRecDepth 20000
section
variable {P : Program} {γ : Nat → EV}
theorem em4 {f : FuncId} (hb : Body P f bc4 ba0 8) : di2 P γ f (· ||| ·) := by
 intro H x y hx hy
 refine hb.calls (by simp) fun hok => ?_
 unfold bc4
 repeat' first | (with_reducible first | apply qa | apply qb | apply qc | apply qd | apply qe | apply qf | apply qg | apply qh | apply qi | apply qj | apply qk | apply ql | apply qm | apply qn | apply qo | apply qp | apply qq | apply qr | apply qs | apply qt | apply qu | exact aa8 | exact aa7) | (with_reducible refine aa0 ?_ ?_; decide) | ((with_reducible refine ab0 ?_); exact rfl) | ((with_reducible first | apply qv | apply qw | apply qx); focus (simp (disch := omega) only [go_sem, simprocAttr]; with_reducible first | exact ac1 | exact ac2)) | ((with_reducible first | apply qy | apply qz); focus (simp (disch := omega) only [go_sem, simprocAttr]; done)) | ((with_reducible first | apply q26 | apply q27 | apply q28); focus (simp (disch := omega) only [go_sem, simprocAttr]; first | with_reducible exact rfl | (rw [if_pos (by first | omega | (constructor <;> omega) | (simp; done) | assumption)]; first | with_reducible exact rfl | (try simp (disch := omega) only [go_sem, simprocAttr]; with_reducible exact rfl))))
 exact bw6 hok (r := .int .u64 (br4 .or .u64 x y)) rfl rfl ⟨by rw [cj2 hx hy], rfl⟩
theorem fk8 {f fe fc : FuncId} (hb : Body P f (cd5 fc fe) bh4 8) (he : Body P fe bc0 aq7 23) (hc : Body P fc bc4 ba0 8) (x y : Nat → Nat) (hx : av8 x) (hy : av8 y) (H : Heap) :
  CallsA P γ f [setE x, setE y] H fun er H' => er = .ret (setE fun i => x i ||| y i) ∧ H' = H := by
 refine hb.calls (by simp) fun hok => ?_
 unfold cd5
 repeat' first | (with_reducible first | apply qa | apply qb | apply qc | apply qd | apply qe | apply qf | apply qg | apply qh | apply qi | apply qj | apply qk | apply ql | apply qm | apply qn | apply qo | apply qp | apply qq | apply qr | apply qs | apply qt | apply qu | exact aa8 | exact aa7) | (with_reducible refine aa0 ?_ ?_; decide) | ((with_reducible refine ab0 ?_); exact rfl) | ((with_reducible first | apply qv | apply qw | apply qx); focus (simp (disch := omega) only [go_sem, simprocAttr, setE]; with_reducible first | exact ac1 | exact ac2)) | ((with_reducible first | apply qy | apply qz); focus (simp (disch := omega) only [go_sem, simprocAttr, setE]; done)) | ((with_reducible first | apply q26 | apply q27 | apply q28); focus (simp (disch := omega) only [go_sem, simprocAttr, setE]; first | with_reducible exact rfl | (rw [if_pos (by first | omega | (constructor <;> omega) | (simp; done) | assumption)]; first | with_reducible exact rfl | (try simp (disch := omega) only [go_sem, simprocAttr, setE]; with_reducible exact rfl))))
 with_reducible apply am4
 ·first | exact rfl | (simp (disch := omega) only [go_sem, simprocAttr, setE]; exact rfl)
 ·(simp (disch := omega) only [go_sem, simprocAttr, setE]; exact rfl)
 ·exact ek0 he (em4 hc) x y hx hy _
 repeat' first | (with_reducible first | apply qa | apply qb | apply qc | apply qd | apply qe | apply qf | apply qg | apply qh | apply qi | apply qj | apply qk | apply ql | apply qm | apply qn | apply qo | apply qp | apply qq | apply qr | apply qs | apply qt | apply qu | exact aa8 | exact aa7) | (with_reducible refine aa0 ?_ ?_; decide) | ((with_reducible refine ab0 ?_); exact rfl) | ((with_reducible first | apply qv | apply qw | apply qx); focus (simp (disch := omega) only [go_sem, simprocAttr, setE]; with_reducible first | exact ac1 | exact ac2)) | ((with_reducible first | apply qy | apply qz); focus (simp (disch := omega) only [go_sem, simprocAttr, setE]; done)) | ((with_reducible first | apply q26 | apply q27 | apply q28); focus (simp (disch := omega) only [go_sem, simprocAttr, setE]; first | with_reducible exact rfl | (rw [if_pos (by first | omega | (constructor <;> omega) | (simp; done) | assumption)]; first | with_reducible exact rfl | (try simp (disch := omega) only [go_sem, simprocAttr, setE]; with_reducible exact rfl))))
 refine aj1 hok (r := setE fun i => x i ||| y i) ?_ ?_ ⟨rfl, rfl⟩
 ·first | (simp (disch := omega) only [go_sem, simprocAttr, ab1, ae1, aj2, bh4, setE]; done) | (simp (disch := omega) only [go_sem, simprocAttr, ab1, ae1, aj2, bh4, setE]; with_reducible exact rfl) | exact rfl
 ·first | (simp [EV.ok, okL, aa4, aa5, ab2, setE]; done)
end
end Abs
