/- A part. -/
import Derived.Test.YtdcjkdgjlljodaaGnO
set_option linter.all false
namespace Abs
open Go Gn
set_option linter.unusedSimpArgs false
section
variable {P : Program} {γ : Nat → EV}
def ea1 (P : Program) (γ : Nat → EV) (f : FuncId) (g : Nat → Nat → Nat) : Prop :=
 ∀ (H : Heap) (x y : Nat), x < 18446744073709551616 → y < 18446744073709551616 → CallsA P γ f [.int .u64 x, .int .u64 y] H fun er H' => er = .ret (.int .u64 (g x y)) ∧ H' = H
theorem dk4 {f : FuncId} (hb : Body P f aw1 at2 8) : ea1 P γ f (· &&& ·) := by
 intro H x y hx hy
 refine hb.calls (by simp) fun hok => ?_
 unfold aw1
 repeat' first | (with_reducible first | apply qa | apply qb | apply qc | apply qd | apply qe | apply qf | apply qg | apply qh | apply qi | apply qj | apply qk | apply ql | apply qm | apply qn | apply qo | apply qp | apply qq | apply qr | apply qs | apply qt | apply qu | exact af2 | exact af1) | (with_reducible refine aa6 ?_ ?_; decide) | ((with_reducible refine ah7 ?_); exact rfl) | ((with_reducible first | apply qv | apply qw | apply qx); focus (simp (disch := omega) only [go_sem, simprocAttr]; with_reducible first | exact bf0 | exact bf1)) | ((with_reducible first | apply qy | apply qz); focus (simp (disch := omega) only [go_sem, simprocAttr]; done)) | ((with_reducible first | apply q26 | apply q27 | apply q28); focus (simp (disch := omega) only [go_sem, simprocAttr]; first | with_reducible exact rfl | (rw [if_pos (by first | omega | (constructor <;> omega) | (simp; done) | assumption)]; first | with_reducible exact rfl | (try simp (disch := omega) only [go_sem, simprocAttr]; with_reducible exact rfl))))
 exact ei2 hok (r := .int .u64 (cd0 .and .u64 x y)) rfl rfl ⟨by rw [ej1 hx hy], rfl⟩
def setE (w : Nat → Nat) : EV := .agg (tab 4 fun i => .int .u64 (w i))
def bp9 (w : Nat → Nat) : Prop := ∀ i, w i < 18446744073709551616
set_option maxHeartbeats 4000000 in
theorem eq2 {f g : FuncId} {op : Nat → Nat → Nat} (hb : Body P f bh4 av2 23) (hg : ea1 P γ g op) (x y : Nat → Nat) (hx : bp9 x) (hy : bp9 y) (H : Heap) :
  CallsA P γ f [setE x, setE y, .func (.func g) [] []] H fun er H' => er = .ret (setE fun i => op (x i) (y i)) ∧ H' = H := by
 refine hb.calls (by simp) fun hok => ?_
 unfold bh4
 repeat' first | (with_reducible first | apply qa | apply qb | apply qc | apply qd | apply qe | apply qf | apply qg | apply qh | apply qi | apply qj | apply qk | apply ql | apply qm | apply qn | apply qo | apply qp | apply qq | apply qr | apply qs | apply qt | apply qu | exact af2 | exact af1) | (with_reducible refine aa6 ?_ ?_; decide) | ((with_reducible refine ah7 ?_); exact rfl) | ((with_reducible first | apply qv | apply qw | apply qx); focus (simp (disch := omega) only [go_sem, simprocAttr, setE]; with_reducible first | exact bf0 | exact bf1)) | ((with_reducible first | apply qy | apply qz); focus (simp (disch := omega) only [go_sem, simprocAttr, setE]; done)) | ((with_reducible first | apply q26 | apply q27 | apply q28); focus (simp (disch := omega) only [go_sem, simprocAttr, setE]; first | with_reducible exact rfl | (rw [if_pos (by first | omega | (constructor <;> omega) | (simp; done) | assumption)]; first | with_reducible exact rfl | (try simp (disch := omega) only [go_sem, simprocAttr, setE]; with_reducible exact rfl))))
 refine by3 (ι := Nat) (fun i => i ≤ 4) (fun i => 4 - i) (fun i => [(2, .func (.func g) [] []), (3, .ptr H.length 4 0 0), (4, .ptr (H.length + 1) 4 0 0), (6, .ptr (H.length + 2) 4 0 0), (8, .int .i64 i)])
  (fun i => H ++ [some (.row 4 [setE fun j => if j < i then op (x j) (y j) else x j]), some (.row 4 [setE y]), some (.row 4 [setE fun _ => 0])]) 0 (by omega) ?_ ?_ ?_ ?_ ?_
 ·(repeat' (first | exact trivial | refine And.intro (And.intro ?_ ?_) ?_)) <;> first | exact rfl | (simp (disch := omega) only [go_sem, simprocAttr, EV.ok, ad1, ad5, ar3, okL, decide_eq_true_eq, EV.int.injEq]; done) | (simp (disch := omega) only [go_sem, simprocAttr, EV.ok, ad1, ad5, ar3, okL, decide_eq_true_eq, EV.int.injEq] <;> first | exact rfl | omega)
 ·simp [setE]
 ·exact fun i _ => cv4 hok (by simp [okG, EB.ok, okL, setE, EV.ok, ad1])
 ·simp
 ·intro i hi K Q' hK hQ'
  repeat' first | (with_reducible first | apply qa | apply qb | apply qc | apply qd | apply qe | apply qf | apply qg | apply qh | apply qi | apply qj | apply qk | apply ql | apply qm | apply qn | apply qo | apply qp | apply qq | apply qr | apply qs | apply qt | apply qu | exact af2 | exact af1) | (with_reducible refine aa6 ?_ ?_; decide) | ((with_reducible refine ah7 ?_); exact rfl) | ((with_reducible first | apply qv | apply qw | apply qx); focus (simp (disch := omega) only [go_sem, simprocAttr, setE]; with_reducible first | exact bf0 | exact bf1)) | ((with_reducible first | apply qy | apply qz); focus (simp (disch := omega) only [go_sem, simprocAttr, setE]; done)) | ((with_reducible first | apply q26 | apply q27 | apply q28); focus (simp (disch := omega) only [go_sem, simprocAttr, setE]; first | with_reducible exact rfl | (rw [if_pos (by first | omega | (constructor <;> omega) | (simp; done) | assumption)]; first | with_reducible exact rfl | (try simp (disch := omega) only [go_sem, simprocAttr, setE]; with_reducible exact rfl))))
  refine bx1 (t := decide ((i : Int) < 4)) (by simp (disch := omega) only [go_sem, simprocAttr]) (fun ht => ?_) (fun ht => ?_)
  ·have hi4 : i < 4 := by have := of_decide_eq_true ht; omega
   repeat' first | (with_reducible first | apply qa | apply qb | apply qc | apply qd | apply qe | apply qf | apply qg | apply qh | apply qi | apply qj | apply qk | apply ql | apply qm | apply qn | apply qo | apply qp | apply qq | apply qr | apply qs | apply qt | apply qu | exact af2 | exact af1) | (with_reducible refine aa6 ?_ ?_; decide) | ((with_reducible refine ah7 ?_); exact rfl) | ((with_reducible first | apply qv | apply qw | apply qx); focus (simp (disch := omega) only [go_sem, simprocAttr, setE]; with_reducible first | exact bf0 | exact bf1)) | ((with_reducible first | apply qy | apply qz); focus (simp (disch := omega) only [go_sem, simprocAttr, setE]; done)) | ((with_reducible first | apply q26 | apply q27 | apply q28); focus (simp (disch := omega) only [go_sem, simprocAttr, setE]; first | with_reducible exact rfl | (rw [if_pos (by first | omega | (constructor <;> omega) | (simp; done) | assumption)]; first | with_reducible exact rfl | (try simp (disch := omega) only [go_sem, simprocAttr, setE]; with_reducible exact rfl))))
   with_reducible apply ch7
   ·first | exact rfl | (simp (disch := omega) only [go_sem, simprocAttr, setE]; exact rfl)
   ·(simp (disch := omega) only [go_sem, simprocAttr, setE]; exact rfl)
   ·exact hg _ _ _ (hx _) (hy _)
   ·exact fun _ => rfl
   repeat' first | (with_reducible first | apply qa | apply qb | apply qc | apply qd | apply qe | apply qf | apply qg | apply qh | apply qi | apply qj | apply qk | apply ql | apply qm | apply qn | apply qo | apply qp | apply qq | apply qr | apply qs | apply qt | apply qu | exact af2 | exact af1) | (with_reducible refine aa6 ?_ ?_; decide) | ((with_reducible refine ah7 ?_); exact rfl) | ((with_reducible first | apply qv | apply qw | apply qx); focus (simp (disch := omega) only [go_sem, simprocAttr, setE]; with_reducible first | exact bf0 | exact bf1)) | ((with_reducible first | apply qy | apply qz); focus (simp (disch := omega) only [go_sem, simprocAttr, setE]; done)) | ((with_reducible first | apply q26 | apply q27 | apply q28); focus (simp (disch := omega) only [go_sem, simprocAttr, setE]; first | with_reducible exact rfl | (rw [if_pos (by first | omega | (constructor <;> omega) | (simp; done) | assumption)]; first | with_reducible exact rfl | (try simp (disch := omega) only [go_sem, simprocAttr, setE]; with_reducible exact rfl))))
   refine hK (i + 1) _ _ [] (by omega) (by omega) ?_ ?_
   ·have e := sweep (κ := .u64) (a := fun j => op (x j) (y j)) (b := x) (i := i)
    simp only [setE, e, Int.natCast_zero, List.append_nil]
   ·(repeat' (first | exact trivial | refine And.intro (And.intro ?_ ?_) ?_)) <;> first | exact rfl | (simp (disch := omega) only [go_sem, simprocAttr, EV.ok, ad1, ad5, ar3, okL, decide_eq_true_eq, EV.int.injEq]; done) | (simp (disch := omega) only [go_sem, simprocAttr, EV.ok, ad1, ad5, ar3, okL, decide_eq_true_eq, EV.int.injEq] <;> first | exact rfl | omega)
  ·have hi4 : i = 4 := by have := of_decide_eq_false ht; omega
   subst hi4
   repeat' first | (with_reducible first | apply qa | apply qb | apply qc | apply qd | apply qe | apply qf | apply qg | apply qh | apply qi | apply qj | apply qk | apply ql | apply qm | apply qn | apply qo | apply qp | apply qq | apply qr | apply qs | apply qt | apply qu | exact af2 | exact af1) | (with_reducible refine aa6 ?_ ?_; decide) | ((with_reducible refine ah7 ?_); exact rfl) | ((with_reducible first | apply qv | apply qw | apply qx); focus (simp (disch := omega) only [go_sem, simprocAttr]; with_reducible first | exact bf0 | exact bf1)) | ((with_reducible first | apply qy | apply qz); focus (simp (disch := omega) only [go_sem, simprocAttr]; done)) | ((with_reducible first | apply q26 | apply q27 | apply q28); focus (simp (disch := omega) only [go_sem, simprocAttr]; first | with_reducible exact rfl | (rw [if_pos (by first | omega | (constructor <;> omega) | (simp; done) | assumption)]; first | with_reducible exact rfl | (try simp (disch := omega) only [go_sem, simprocAttr]; with_reducible exact rfl))))
   refine hQ' _ _ _ ?_
   repeat' first | (with_reducible first | apply qa | apply qb | apply qc | apply qd | apply qe | apply qf | apply qg | apply qh | apply qi | apply qj | apply qk | apply ql | apply qm | apply qn | apply qo | apply qp | apply qq | apply qr | apply qs | apply qt | apply qu | exact af2 | exact af1) | (with_reducible refine aa6 ?_ ?_; decide) | ((with_reducible refine ah7 ?_); exact rfl) | ((with_reducible first | apply qv | apply qw | apply qx); focus (simp (disch := omega) only [go_sem, simprocAttr, setE]; with_reducible first | exact bf0 | exact bf1)) | ((with_reducible first | apply qy | apply qz); focus (simp (disch := omega) only [go_sem, simprocAttr, setE]; done)) | ((with_reducible first | apply q26 | apply q27 | apply q28); focus (simp (disch := omega) only [go_sem, simprocAttr, setE]; first | with_reducible exact rfl | (rw [if_pos (by first | omega | (constructor <;> omega) | (simp; done) | assumption)]; first | with_reducible exact rfl | (try simp (disch := omega) only [go_sem, simprocAttr, setE]; with_reducible exact rfl))))
   refine bs8 hok (r := setE fun i => op (x i) (y i)) ?_ ?_ ⟨rfl, rfl⟩
   ·first | (simp (disch := omega) only [go_sem, simprocAttr, ab0, ba4, bp1, av2, setE]; done) | (simp (disch := omega) only [go_sem, simprocAttr, ab0, ba4, bp1, av2, setE]; with_reducible exact rfl) | exact rfl
   ·first | (simp [EV.ok, okL, ad1, ad5, ar3, setE]; done)
theorem eq7 {f fe fc : FuncId} (hb : Body P f (bm2 fc fe) ay5 8) (he : Body P fe bh4 av2 23) (hc : Body P fc aw1 at2 8) (x y : Nat → Nat) (hx : bp9 x) (hy : bp9 y) (H : Heap) :
  CallsA P γ f [setE x, setE y] H fun er H' => er = .ret (setE fun i => x i &&& y i) ∧ H' = H := by
 refine hb.calls (by simp) fun hok => ?_
 unfold bm2
 repeat' first | (with_reducible first | apply qa | apply qb | apply qc | apply qd | apply qe | apply qf | apply qg | apply qh | apply qi | apply qj | apply qk | apply ql | apply qm | apply qn | apply qo | apply qp | apply qq | apply qr | apply qs | apply qt | apply qu | exact af2 | exact af1) | (with_reducible refine aa6 ?_ ?_; decide) | ((with_reducible refine ah7 ?_); exact rfl) | ((with_reducible first | apply qv | apply qw | apply qx); focus (simp (disch := omega) only [go_sem, simprocAttr, setE]; with_reducible first | exact bf0 | exact bf1)) | ((with_reducible first | apply qy | apply qz); focus (simp (disch := omega) only [go_sem, simprocAttr, setE]; done)) | ((with_reducible first | apply q26 | apply q27 | apply q28); focus (simp (disch := omega) only [go_sem, simprocAttr, setE]; first | with_reducible exact rfl | (rw [if_pos (by first | omega | (constructor <;> omega) | (simp; done) | assumption)]; first | with_reducible exact rfl | (try simp (disch := omega) only [go_sem, simprocAttr, setE]; with_reducible exact rfl))))
 with_reducible apply dd5
 ·first | exact rfl | (simp (disch := omega) only [go_sem, simprocAttr, setE]; exact rfl)
 ·(simp (disch := omega) only [go_sem, simprocAttr, setE]; exact rfl)
 ·exact eq2 he (dk4 hc) x y hx hy _
 repeat' first | (with_reducible first | apply qa | apply qb | apply qc | apply qd | apply qe | apply qf | apply qg | apply qh | apply qi | apply qj | apply qk | apply ql | apply qm | apply qn | apply qo | apply qp | apply qq | apply qr | apply qs | apply qt | apply qu | exact af2 | exact af1) | (with_reducible refine aa6 ?_ ?_; decide) | ((with_reducible refine ah7 ?_); exact rfl) | ((with_reducible first | apply qv | apply qw | apply qx); focus (simp (disch := omega) only [go_sem, simprocAttr, setE]; with_reducible first | exact bf0 | exact bf1)) | ((with_reducible first | apply qy | apply qz); focus (simp (disch := omega) only [go_sem, simprocAttr, setE]; done)) | ((with_reducible first | apply q26 | apply q27 | apply q28); focus (simp (disch := omega) only [go_sem, simprocAttr, setE]; first | with_reducible exact rfl | (rw [if_pos (by first | omega | (constructor <;> omega) | (simp; done) | assumption)]; first | with_reducible exact rfl | (try simp (disch := omega) only [go_sem, simprocAttr, setE]; with_reducible exact rfl))))
 refine bs8 hok (r := setE fun i => x i &&& y i) ?_ ?_ ⟨rfl, rfl⟩
 ·first | (simp (disch := omega) only [go_sem, simprocAttr, ab0, ba4, bp1, ay5, setE]; done) | (simp (disch := omega) only [go_sem, simprocAttr, ab0, ba4, bp1, ay5, setE]; with_reducible exact rfl) | exact rfl
 ·first | (simp [EV.ok, okL, ad1, ad5, ar3, setE]; done)
def as7 (bs : List Nat) (i : Nat) : Nat := bs.foldl (fun w b => if i = b / 64 then w ||| 2 ^ (b % 64) else w) 0
theorem db5 (b : Nat) : 2 ^ (b % 64) < 18446744073709551616 := by
 have : (2 : Nat) ^ (b % 64) ≤ 2 ^ 63 := Nat.pow_le_pow_right (by decide) (by omega)
 omega
theorem cd8 (bs : List Nat) : bp9 (as7 bs) := by
 intro i
 unfold as7
 have : ∀ (bs : List Nat) (w : Nat), w < 18446744073709551616 → bs.foldl (fun w b => if i = b / 64 then w ||| 2 ^ (b % 64) else w) w < 18446744073709551616 := by
  intro bs
  induction bs with
  | nil => intro w h; exact h
  | cons b bs ih =>
   intro w h
   rw [List.foldl_cons]
   refine ih _ ?_
   split
   ·exact Nat.or_lt_two_pow (n := 64) h (db5 b)
   ·exact h
 exact this bs 0 (by omega)
def bg2 (bs : List Nat) : EV := .imm 1 (bs.map fun b => EV.int .u8 ((b : Nat) : Int))
theorem bt2 {n : Nat} {bs : List Nat} : (bg2 bs).ok n = true := by
 simp only [bg2, EV.ok, ai2, List.mem_map]
 rintro x ⟨b, _, rfl⟩
 rfl
set_option maxHeartbeats 4000000 in
theorem of_ok {f : FuncId} (hb : Body P f ca7 bh5 23) (bs : List Nat) (h8 : ∀ b ∈ bs, b < 256) (hlen : bs.length < 9223372036854775807) (H : Heap) :
  CallsA P γ f [bg2 bs] H fun er H' => er = .ret (setE (as7 bs)) ∧ H' = H := by
 refine hb.calls (by simp) fun hok => ?_
 unfold ca7
 repeat' first | (with_reducible first | apply qa | apply qb | apply qc | apply qd | apply qe | apply qf | apply qg | apply qh | apply qi | apply qj | apply qk | apply ql | apply qm | apply qn | apply qo | apply qp | apply qq | apply qr | apply qs | apply qt | apply qu | exact af2 | exact af1) | (with_reducible refine aa6 ?_ ?_; decide) | ((with_reducible refine ah7 ?_); exact rfl) | ((with_reducible first | apply qv | apply qw | apply qx); focus (simp (disch := omega) only [go_sem, simprocAttr, bg2, List.length_map]; with_reducible first | exact bf0 | exact bf1)) | ((with_reducible first | apply qy | apply qz); focus (simp (disch := omega) only [go_sem, simprocAttr, bg2, List.length_map]; done)) | ((with_reducible first | apply q26 | apply q27 | apply q28); focus (simp (disch := omega) only [go_sem, simprocAttr, bg2, List.length_map]; first | with_reducible exact rfl | (rw [if_pos (by first | omega | (constructor <;> omega) | (simp; done) | assumption)]; first | with_reducible exact rfl | (try simp (disch := omega) only [go_sem, simprocAttr, bg2, List.length_map]; with_reducible exact rfl))))
 refine by3 (ι := Nat) (fun i => i ≤ bs.length) (fun i => bs.length - i) (fun i => [(2, .ptr H.length 4 0 0), (3, .ptr (H.length + 1) 4 0 0), (6, bg2 bs), (7, .int .i64 bs.length), (8, .int .i64 i)])
  (fun i => H ++ [some (.row 4 [setE fun _ => 0]), some (.row 4 [setE (as7 (bs.take i))])]) 0 (by omega) ?_ ?_ ?_ ?_ ?_
 ·(repeat' (first | exact trivial | refine And.intro (And.intro ?_ ?_) ?_)) <;> first | exact rfl | (simp (disch := omega) only [go_sem, simprocAttr, bt2, EV.ok, ad1, ad5, ar3, okL, decide_eq_true_eq, EV.int.injEq]; done) | (simp (disch := omega) only [go_sem, simprocAttr, bt2, EV.ok, ad1, ad5, ar3, okL, decide_eq_true_eq, EV.int.injEq] <;> first | exact rfl | omega)
 ·simp [setE, as7]
 ·exact fun i _ => cv4 hok (by simp [okG, EB.ok, okL, setE, EV.ok, ad1])
 ·simp
 ·intro i hi K Q' hK hQ'
  repeat' first | (with_reducible first | apply qa | apply qb | apply qc | apply qd | apply qe | apply qf | apply qg | apply qh | apply qi | apply qj | apply qk | apply ql | apply qm | apply qn | apply qo | apply qp | apply qq | apply qr | apply qs | apply qt | apply qu | exact af2 | exact af1) | (with_reducible refine aa6 ?_ ?_; decide) | ((with_reducible refine ah7 ?_); exact rfl) | ((with_reducible first | apply qv | apply qw | apply qx); focus (simp (disch := omega) only [go_sem, simprocAttr]; with_reducible first | exact bf0 | exact bf1)) | ((with_reducible first | apply qy | apply qz); focus (simp (disch := omega) only [go_sem, simprocAttr]; done)) | ((with_reducible first | apply q26 | apply q27 | apply q28); focus (simp (disch := omega) only [go_sem, simprocAttr]; first | with_reducible exact rfl | (rw [if_pos (by first | omega | (constructor <;> omega) | (simp; done) | assumption)]; first | with_reducible exact rfl | (try simp (disch := omega) only [go_sem, simprocAttr]; with_reducible exact rfl))))
  refine bx1 (t := decide ((i : Int) < bs.length)) (by simp (disch := omega) only [go_sem, simprocAttr]) (fun ht => ?_) (fun ht => ?_)
  ·have hil : i < bs.length := by have := of_decide_eq_true ht; omega
   obtain ⟨b, hbi⟩ : ∃ b, bs[i]? = some b := ⟨bs[i], by simp [hil]⟩
   have hb8 := h8 b (List.mem_of_getElem? hbi)
   have hw := cd8 (bs.take i) (b / 64)
   have hp := db5 b
   repeat' first | (with_reducible first | apply qa | apply qb | apply qc | apply qd | apply qe | apply qf | apply qg | apply qh | apply qi | apply qj | apply qk | apply ql | apply qm | apply qn | apply qo | apply qp | apply qq | apply qr | apply qs | apply qt | apply qu | exact af2 | exact af1) | (with_reducible refine aa6 ?_ ?_; decide) | ((with_reducible refine ah7 ?_); exact rfl) | ((with_reducible first | apply qv | apply qw | apply qx); focus (simp (disch := omega) only [go_sem, simprocAttr, setE, bg2, List.getElem?_map, hbi, ck7]; with_reducible first | exact bf0 | exact bf1)) | ((with_reducible first | apply qy | apply qz); focus (simp (disch := omega) only [go_sem, simprocAttr, setE, bg2, List.getElem?_map, hbi, ck7]; done)) | ((with_reducible first | apply q26 | apply q27 | apply q28); focus (simp (disch := omega) only [go_sem, simprocAttr, setE, bg2, List.getElem?_map, hbi, ck7]; first | with_reducible exact rfl | (rw [if_pos (by first | omega | (constructor <;> omega) | (simp; done) | assumption)]; first | with_reducible exact rfl | (try simp (disch := omega) only [go_sem, simprocAttr, setE, bg2, List.getElem?_map, hbi, ck7]; with_reducible exact rfl))))
   refine hK (i + 1) _ _ [] (by omega) (by omega) ?_ ?_
   ·have e : ∀ j, as7 (bs.take (i + 1)) j = if j = b / 64 then as7 (bs.take i) (b / 64) ||| 2 ^ (b % 64) else as7 (bs.take i) j := by
     intro j
     rw [List.take_add_one, hbi]
     simp only [as7, List.foldl_append, Option.toList_some, List.foldl_cons, List.foldl_nil]
     by_cases h : j = b / 64
     ·subst h; simp
     ·rw [if_neg h, if_neg h]
    simp only [setE, e, Int.natCast_zero, List.append_nil]
   ·(repeat' (first | exact trivial | refine And.intro (And.intro ?_ ?_) ?_)) <;> first | exact rfl | (simp (disch := omega) only [go_sem, simprocAttr, bt2, EV.ok, ad1, ad5, ar3, okL, decide_eq_true_eq, EV.int.injEq]; done) | (simp (disch := omega) only [go_sem, simprocAttr, bt2, EV.ok, ad1, ad5, ar3, okL, decide_eq_true_eq, EV.int.injEq] <;> first | exact rfl | omega)
  ·have hi4 : i = bs.length := by have := of_decide_eq_false ht; omega
   subst hi4
   repeat' first | (with_reducible first | apply qa | apply qb | apply qc | apply qd | apply qe | apply qf | apply qg | apply qh | apply qi | apply qj | apply qk | apply ql | apply qm | apply qn | apply qo | apply qp | apply qq | apply qr | apply qs | apply qt | apply qu | exact af2 | exact af1) | (with_reducible refine aa6 ?_ ?_; decide) | ((with_reducible refine ah7 ?_); exact rfl) | ((with_reducible first | apply qv | apply qw | apply qx); focus (simp (disch := omega) only [go_sem, simprocAttr]; with_reducible first | exact bf0 | exact bf1)) | ((with_reducible first | apply qy | apply qz); focus (simp (disch := omega) only [go_sem, simprocAttr]; done)) | ((with_reducible first | apply q26 | apply q27 | apply q28); focus (simp (disch := omega) only [go_sem, simprocAttr]; first | with_reducible exact rfl | (rw [if_pos (by first | omega | (constructor <;> omega) | (simp; done) | assumption)]; first | with_reducible exact rfl | (try simp (disch := omega) only [go_sem, simprocAttr]; with_reducible exact rfl))))
   refine hQ' _ _ _ ?_
   repeat' first | (with_reducible first | apply qa | apply qb | apply qc | apply qd | apply qe | apply qf | apply qg | apply qh | apply qi | apply qj | apply qk | apply ql | apply qm | apply qn | apply qo | apply qp | apply qq | apply qr | apply qs | apply qt | apply qu | exact af2 | exact af1) | (with_reducible refine aa6 ?_ ?_; decide) | ((with_reducible refine ah7 ?_); exact rfl) | ((with_reducible first | apply qv | apply qw | apply qx); focus (simp (disch := omega) only [go_sem, simprocAttr, setE]; with_reducible first | exact bf0 | exact bf1)) | ((with_reducible first | apply qy | apply qz); focus (simp (disch := omega) only [go_sem, simprocAttr, setE]; done)) | ((with_reducible first | apply q26 | apply q27 | apply q28); focus (simp (disch := omega) only [go_sem, simprocAttr, setE]; first | with_reducible exact rfl | (rw [if_pos (by first | omega | (constructor <;> omega) | (simp; done) | assumption)]; first | with_reducible exact rfl | (try simp (disch := omega) only [go_sem, simprocAttr, setE]; with_reducible exact rfl))))
   refine bs8 hok (r := setE (as7 bs)) ?_ ?_ ⟨rfl, rfl⟩
   ·first | (simp (disch := omega) only [go_sem, simprocAttr, ab0, ba4, bp1, bh5, setE, List.take_length]; done) | (simp (disch := omega) only [go_sem, simprocAttr, ab0, ba4, bp1, bh5, setE, List.take_length]; with_reducible exact rfl) | exact rfl
   ·first | (simp [EV.ok, okL, ad1, ad5, ar3, setE, List.take_length]; done)
def bd8 (w : Nat → Nat) (b : Nat) : Bool := (w (b / 64)).testBit (b % 64)
theorem dz7 {x m : Nat} : x &&& 2 ^ m = 0 ↔ x.testBit m = false := by
 constructor
 ·intro h
  have := congrArg (fun z => z.testBit m) h
  simpa [Nat.testBit_and, Nat.testBit_two_pow_self] using this
 ·intro h
  apply Nat.eq_of_testBit_eq
  intro j
  rw [Nat.testBit_and, Nat.testBit_two_pow]
  by_cases e : m = j
  ·subst e; simp [h]
  ·simp [e]
theorem cb3 (x : Nat → Nat) (b : Nat) (hb : b < 256) : (!cs7 4 (fun i => ((x i &&& as7 [b] i : Nat) : Int)) fun _ => 0) = bd8 x b := by
 have hw : ∀ i, as7 [b] i = if i = b / 64 then 2 ^ (b % 64) else 0 := by
  intro i
  simp [as7]
 have key : (∀ i, i < 4 → (((x i &&& as7 [b] i : Nat) : Int)) = 0) ↔ bd8 x b = false := by
  unfold bd8
  constructor
  ·intro h
   have h1 := h (b / 64) (by omega)
   rw [hw, if_pos rfl] at h1
   exact dz7.1 (by omega)
  ·intro h i _
   rw [hw]
   by_cases e : i = b / 64
   ·subst e; rw [if_pos rfl, dz7.2 h]; rfl
   ·rw [if_neg e]; simp
 cases hx : bd8 x b with
 | false => rw [cs6.2 (key.2 hx)]; rfl
 | true =>
  cases ha : cs7 4 (fun i => ((x i &&& as7 [b] i : Nat) : Int)) fun _ => 0 with
  | false => rfl
  | true => rw [key.1 (cs6.1 ha)] at hx; simp at hx
def er9 (P : Program) (γ : Nat → EV) (f : FuncId) (κ : IntKind) : Prop :=
 ∀ (x : Nat → Nat) (b : Nat) (H : Heap), bp9 x → b < 256 → CallsA P γ f [setE x, .int κ b] H fun er H' => er = .ret (.bool (bd8 x b)) ∧ H' = H
theorem ev1 {f fb fo fe fc : FuncId} (hb : Body P f (bx8 fb fo) bh6 12) (hB : Body P fb (bm2 fc fe) ay5 8) (hO : Body P fo ca7 bh5 23) (he : Body P fe bh4 av2 23)
  (hc : Body P fc aw1 at2 8) : er9 P γ f .u8 := by
 intro x b H hx hb8
 refine hb.calls (by simp) fun hok => ?_
 unfold bx8
 repeat' first | (with_reducible first | apply qa | apply qb | apply qc | apply qd | apply qe | apply qf | apply qg | apply qh | apply qi | apply qj | apply qk | apply ql | apply qm | apply qn | apply qo | apply qp | apply qq | apply qr | apply qs | apply qt | apply qu | exact af2 | exact af1) | (with_reducible refine aa6 ?_ ?_; decide) | ((with_reducible refine ah7 ?_); exact rfl) | ((with_reducible first | apply qv | apply qw | apply qx); focus (simp (disch := omega) only [go_sem, simprocAttr, setE]; with_reducible first | exact bf0 | exact bf1)) | ((with_reducible first | apply qy | apply qz); focus (simp (disch := omega) only [go_sem, simprocAttr, setE]; done)) | ((with_reducible first | apply q26 | apply q27 | apply q28); focus (simp (disch := omega) only [go_sem, simprocAttr, setE]; first | with_reducible exact rfl | (rw [if_pos (by first | omega | (constructor <;> omega) | (simp; done) | assumption)]; first | with_reducible exact rfl | (try simp (disch := omega) only [go_sem, simprocAttr, setE]; with_reducible exact rfl))))
 with_reducible apply ch7
 ·first | exact rfl | (simp (disch := omega) only [go_sem, simprocAttr, bg2]; exact rfl)
 ·(simp (disch := omega) only [go_sem, simprocAttr, bg2]; exact rfl)
 ·exact of_ok hO [b] (by simpa using hb8) (by simp) _
 ·exact fun _ => rfl
 repeat' first | (with_reducible first | apply qa | apply qb | apply qc | apply qd | apply qe | apply qf | apply qg | apply qh | apply qi | apply qj | apply qk | apply ql | apply qm | apply qn | apply qo | apply qp | apply qq | apply qr | apply qs | apply qt | apply qu | exact af2 | exact af1) | (with_reducible refine aa6 ?_ ?_; decide) | ((with_reducible refine ah7 ?_); exact rfl) | ((with_reducible first | apply qv | apply qw | apply qx); focus (simp (disch := omega) only [go_sem, simprocAttr, setE]; with_reducible first | exact bf0 | exact bf1)) | ((with_reducible first | apply qy | apply qz); focus (simp (disch := omega) only [go_sem, simprocAttr, setE]; done)) | ((with_reducible first | apply q26 | apply q27 | apply q28); focus (simp (disch := omega) only [go_sem, simprocAttr, setE]; first | with_reducible exact rfl | (rw [if_pos (by first | omega | (constructor <;> omega) | (simp; done) | assumption)]; first | with_reducible exact rfl | (try simp (disch := omega) only [go_sem, simprocAttr, setE]; with_reducible exact rfl))))
 with_reducible apply ch7
 ·first | exact rfl | (simp (disch := omega) only [go_sem, simprocAttr, setE]; exact rfl)
 ·(simp (disch := omega) only [go_sem, simprocAttr, setE]; exact rfl)
 ·exact eq7 hB he hc x (as7 [b]) hx (cd8 _) _
 ·exact fun _ => rfl
 repeat' first | (with_reducible first | apply qa | apply qb | apply qc | apply qd | apply qe | apply qf | apply qg | apply qh | apply qi | apply qj | apply qk | apply ql | apply qm | apply qn | apply qo | apply qp | apply qq | apply qr | apply qs | apply qt | apply qu | exact af2 | exact af1) | (with_reducible refine aa6 ?_ ?_; decide) | ((with_reducible refine ah7 ?_); exact rfl) | ((with_reducible first | apply qv | apply qw | apply qx); focus (simp (disch := omega) only [go_sem, simprocAttr, setE]; with_reducible first | exact bf0 | exact bf1)) | ((with_reducible first | apply qy | apply qz); focus (simp (disch := omega) only [go_sem, simprocAttr, setE]; done)) | ((with_reducible first | apply q26 | apply q27 | apply q28); focus (simp (disch := omega) only [go_sem, simprocAttr, setE]; first | with_reducible exact rfl | (rw [if_pos (by first | omega | (constructor <;> omega) | (simp; done) | assumption)]; first | with_reducible exact rfl | (try simp (disch := omega) only [go_sem, simprocAttr, setE]; with_reducible exact rfl))))
 refine bs8 hok (r := .bool (bd8 x b)) ?_ ?_ ⟨rfl, rfl⟩
 ·first | (simp (disch := omega) only [go_sem, simprocAttr, ab0, ba4, bp1, bh6, cb3, hb8]; done) | (simp (disch := omega) only [go_sem, simprocAttr, ab0, ba4, bp1, bh6, cb3, hb8]; with_reducible exact rfl) | exact rfl
 ·first | (simp [EV.ok, okL, ad1, ad5, ar3, cb3, hb8]; done)
theorem cz6 {w m : Nat} : (((w / 2 ^ m % 2 : Nat) : Int) == 1) = w.testBit m := by
 rw [Nat.testBit_eq_decide_div_mod_eq, Bool.eq_iff_iff]
 simp only [beq_iff_eq, decide_eq_true_eq]
 omega
theorem do6 {f : FuncId} (hb : Body P f ax1 an8 22) : er9 P γ f .i64 := by
 intro x b H hx hb8
 refine hb.calls (by simp) fun hok => ?_
 unfold ax1
 repeat' first | (with_reducible first | apply qa | apply qb | apply qc | apply qd | apply qe | apply qf | apply qg | apply qh | apply qi | apply qj | apply qk | apply ql | apply qm | apply qn | apply qo | apply qp | apply qq | apply qr | apply qs | apply qt | apply qu | exact af2 | exact af1) | (with_reducible refine aa6 ?_ ?_; decide) | ((with_reducible refine ah7 ?_); exact rfl) | ((with_reducible first | apply qv | apply qw | apply qx); focus (simp (disch := omega) only [go_sem, simprocAttr, setE]; with_reducible first | exact bf0 | exact bf1)) | ((with_reducible first | apply qy | apply qz); focus (simp (disch := omega) only [go_sem, simprocAttr, setE]; done)) | ((with_reducible first | apply q26 | apply q27 | apply q28); focus (simp (disch := omega) only [go_sem, simprocAttr, setE]; first | with_reducible exact rfl | (rw [if_pos (by first | omega | (constructor <;> omega) | (simp; done) | assumption)]; first | with_reducible exact rfl | (try simp (disch := omega) only [go_sem, simprocAttr, setE]; with_reducible exact rfl))))
 refine by3 (ι := Nat) (fun i => i ≤ b % 64) (fun i => b % 64 - i) (fun i => [(1, .int .i64 b), (5, .int .u64 ((x (b / 64) / 2 ^ i : Nat) : Int)), (6, .int .i64 i)]) (fun _ => H ++ [some (.row 4 [setE x])]) 0 (by omega) ?_ ?_ ?_ ?_ ?_
 ·(repeat' (first | exact trivial | refine And.intro (And.intro ?_ ?_) ?_)) <;> first | exact rfl | (simp (disch := omega) only [go_sem, simprocAttr, Nat.pow_zero, Nat.div_one, EV.ok, ad1, ad5, ar3, okL, decide_eq_true_eq, EV.int.injEq]; done) | (simp (disch := omega) only [go_sem, simprocAttr, Nat.pow_zero, Nat.div_one, EV.ok, ad1, ad5, ar3, okL, decide_eq_true_eq, EV.int.injEq] <;> first | exact rfl | omega)
 ·rfl
 ·exact fun i _ => cv4 hok (by simp [okG, EB.ok, okL, setE, EV.ok, ad1])
 ·simp
 ·intro i hi K Q' hK hQ'
  have h1 := hx (b / 64)
  have h2 : x (b / 64) / 2 ^ i ≤ x (b / 64) := Nat.div_le_self _ _
  obtain ⟨q, hq⟩ : ∃ q, x (b / 64) / 2 ^ i = q := ⟨_, rfl⟩
  rw [hq] at h2
  repeat' first | (with_reducible first | apply qa | apply qb | apply qc | apply qd | apply qe | apply qf | apply qg | apply qh | apply qi | apply qj | apply qk | apply ql | apply qm | apply qn | apply qo | apply qp | apply qq | apply qr | apply qs | apply qt | apply qu | exact af2 | exact af1) | (with_reducible refine aa6 ?_ ?_; decide) | ((with_reducible refine ah7 ?_); exact rfl) | ((with_reducible first | apply qv | apply qw | apply qx); focus (simp (disch := omega) only [go_sem, simprocAttr]; with_reducible first | exact bf0 | exact bf1)) | ((with_reducible first | apply qy | apply qz); focus (simp (disch := omega) only [go_sem, simprocAttr]; done)) | ((with_reducible first | apply q26 | apply q27 | apply q28); focus (simp (disch := omega) only [go_sem, simprocAttr]; first | with_reducible exact rfl | (rw [if_pos (by first | omega | (constructor <;> omega) | (simp; done) | assumption)]; first | with_reducible exact rfl | (try simp (disch := omega) only [go_sem, simprocAttr]; with_reducible exact rfl))))
  refine bx1 (t := decide ((i : Int) < (b % 64 : Nat))) (by simp (disch := omega) only [go_sem, simprocAttr]) (fun ht => ?_) (fun ht => ?_)
  ·have hil : i < b % 64 := by have := of_decide_eq_true ht; omega
   repeat' first | (with_reducible first | apply qa | apply qb | apply qc | apply qd | apply qe | apply qf | apply qg | apply qh | apply qi | apply qj | apply qk | apply ql | apply qm | apply qn | apply qo | apply qp | apply qq | apply qr | apply qs | apply qt | apply qu | exact af2 | exact af1) | (with_reducible refine aa6 ?_ ?_; decide) | ((with_reducible refine ah7 ?_); exact rfl) | ((with_reducible first | apply qv | apply qw | apply qx); focus (simp (disch := omega) only [go_sem, simprocAttr, hq]; with_reducible first | exact bf0 | exact bf1)) | ((with_reducible first | apply qy | apply qz); focus (simp (disch := omega) only [go_sem, simprocAttr, hq]; done)) | ((with_reducible first | apply q26 | apply q27 | apply q28); focus (simp (disch := omega) only [go_sem, simprocAttr, hq]; first | with_reducible exact rfl | (rw [if_pos (by first | omega | (constructor <;> omega) | (simp; done) | assumption)]; first | with_reducible exact rfl | (try simp (disch := omega) only [go_sem, simprocAttr, hq]; with_reducible exact rfl))))
   have e : x (b / 64) / 2 ^ (i + 1) = q / 2 := by rw [Nat.pow_succ, ← Nat.div_div_eq_div_mul, hq]
   refine hK (i + 1) _ _ [] (by omega) (by omega) (by simp) ?_
   (repeat' (first | exact trivial | refine And.intro (And.intro ?_ ?_) ?_)) <;> first | exact rfl | (simp (disch := omega) only [go_sem, simprocAttr, e, EV.ok, ad1, ad5, ar3, okL, decide_eq_true_eq, EV.int.injEq]; done) | (simp (disch := omega) only [go_sem, simprocAttr, e, EV.ok, ad1, ad5, ar3, okL, decide_eq_true_eq, EV.int.injEq] <;> first | exact rfl | omega)
  ·have hi4 : i = b % 64 := by have := of_decide_eq_false ht; omega
   subst hi4
   repeat' first | (with_reducible first | apply qa | apply qb | apply qc | apply qd | apply qe | apply qf | apply qg | apply qh | apply qi | apply qj | apply qk | apply ql | apply qm | apply qn | apply qo | apply qp | apply qq | apply qr | apply qs | apply qt | apply qu | exact af2 | exact af1) | (with_reducible refine aa6 ?_ ?_; decide) | ((with_reducible refine ah7 ?_); exact rfl) | ((with_reducible first | apply qv | apply qw | apply qx); focus (simp (disch := omega) only [go_sem, simprocAttr]; with_reducible first | exact bf0 | exact bf1)) | ((with_reducible first | apply qy | apply qz); focus (simp (disch := omega) only [go_sem, simprocAttr]; done)) | ((with_reducible first | apply q26 | apply q27 | apply q28); focus (simp (disch := omega) only [go_sem, simprocAttr]; first | with_reducible exact rfl | (rw [if_pos (by first | omega | (constructor <;> omega) | (simp; done) | assumption)]; first | with_reducible exact rfl | (try simp (disch := omega) only [go_sem, simprocAttr]; with_reducible exact rfl))))
   refine hQ' _ _ _ ?_
   repeat' first | (with_reducible first | apply qa | apply qb | apply qc | apply qd | apply qe | apply qf | apply qg | apply qh | apply qi | apply qj | apply qk | apply ql | apply qm | apply qn | apply qo | apply qp | apply qq | apply qr | apply qs | apply qt | apply qu | exact af2 | exact af1) | (with_reducible refine aa6 ?_ ?_; decide) | ((with_reducible refine ah7 ?_); exact rfl) | ((with_reducible first | apply qv | apply qw | apply qx); focus (simp (disch := omega) only [go_sem, simprocAttr]; with_reducible first | exact bf0 | exact bf1)) | ((with_reducible first | apply qy | apply qz); focus (simp (disch := omega) only [go_sem, simprocAttr]; done)) | ((with_reducible first | apply q26 | apply q27 | apply q28); focus (simp (disch := omega) only [go_sem, simprocAttr]; first | with_reducible exact rfl | (rw [if_pos (by first | omega | (constructor <;> omega) | (simp; done) | assumption)]; first | with_reducible exact rfl | (try simp (disch := omega) only [go_sem, simprocAttr]; with_reducible exact rfl))))
   refine bs8 hok (r := .bool (bd8 x b)) ?_ ?_ ⟨rfl, rfl⟩
   ·first | (simp (disch := omega) only [go_sem, simprocAttr, ab0, ba4, bp1, an8, bd8, cz6]; done) | (simp (disch := omega) only [go_sem, simprocAttr, ab0, ba4, bp1, an8, bd8, cz6]; with_reducible exact rfl) | exact rfl
   ·first | (simp [EV.ok, okL, ad1, ad5, ar3, bd8, cz6]; done)
end
end Abs
