/- A part. -/
import Derived.Test.YtdcjkdgjlljodaaGnO
set_option linter.all false
namespace Abs
open Go Gn
set_option linter.unusedSimpArgs false
section
variable {P : Program} {γ : Nat → EV}
def dy4 (P : Program) (γ : Nat → EV) (f : FuncId) (g : Nat → Nat → Nat) : Prop :=
 ∀ (H : Heap) (x y : Nat), x < 18446744073709551616 → y < 18446744073709551616 → CallsA P γ f [.int .u64 x, .int .u64 y] H fun er H' => er = .ret (.int .u64 (g x y)) ∧ H' = H
theorem dj3 {f : FuncId} (hb : Body P f au4 ar9 8) : dy4 P γ f (· &&& ·) := by
 intro H x y hx hy
 refine hb.calls (by simp) fun hok => ?_
 unfold au4
 repeat' first | (with_reducible first | apply qa | apply qb | apply qc | apply qd | apply qe | apply qf | apply qg | apply qh | apply qi | apply qj | apply qk | apply ql | apply qm | apply qn | apply qo | apply qp | apply qq | apply qr | apply qs | apply qt | apply qu | exact ae9 | exact ae8) | (with_reducible refine aa5 ?_ ?_; decide) | ((with_reducible refine ah1 ?_); exact rfl) | ((with_reducible first | apply qv | apply qw | apply qx); focus (simp (disch := omega) only [go_sem, simprocAttr]; with_reducible first | exact bd7 | exact bd8)) | ((with_reducible first | apply qy | apply qz); focus (simp (disch := omega) only [go_sem, simprocAttr]; done)) | ((with_reducible first | apply q26 | apply q27 | apply q28); focus (simp (disch := omega) only [go_sem, simprocAttr]; first | with_reducible exact rfl | (rw [if_pos (by first | omega | (constructor <;> omega) | (simp; done) | assumption)]; first | with_reducible exact rfl | (try simp (disch := omega) only [go_sem, simprocAttr]; with_reducible exact rfl))))
 exact eg0 hok (r := .int .u64 (cb8 .and .u64 x y)) rfl rfl ⟨by rw [eh0 hx hy], rfl⟩
def setE (w : Nat → Nat) : EV := .agg (tab 4 fun i => .int .u64 (w i))
def bp1 (w : Nat → Nat) : Prop := ∀ i, w i < 18446744073709551616
set_option maxHeartbeats 4000000 in
theorem en9 {f g : FuncId} {op : Nat → Nat → Nat} (hb : Body P f bg5 at6 23) (hg : dy4 P γ g op) (x y : Nat → Nat) (hx : bp1 x) (hy : bp1 y) (H : Heap) :
  CallsA P γ f [setE x, setE y, .func (.func g) [] []] H fun er H' => er = .ret (setE fun i => op (x i) (y i)) ∧ H' = H := by
 refine hb.calls (by simp) fun hok => ?_
 unfold bg5
 repeat' first | (with_reducible first | apply qa | apply qb | apply qc | apply qd | apply qe | apply qf | apply qg | apply qh | apply qi | apply qj | apply qk | apply ql | apply qm | apply qn | apply qo | apply qp | apply qq | apply qr | apply qs | apply qt | apply qu | exact ae9 | exact ae8) | (with_reducible refine aa5 ?_ ?_; decide) | ((with_reducible refine ah1 ?_); exact rfl) | ((with_reducible first | apply qv | apply qw | apply qx); focus (simp (disch := omega) only [go_sem, simprocAttr, setE]; with_reducible first | exact bd7 | exact bd8)) | ((with_reducible first | apply qy | apply qz); focus (simp (disch := omega) only [go_sem, simprocAttr, setE]; done)) | ((with_reducible first | apply q26 | apply q27 | apply q28); focus (simp (disch := omega) only [go_sem, simprocAttr, setE]; first | with_reducible exact rfl | (rw [if_pos (by first | omega | (constructor <;> omega) | (simp; done) | assumption)]; first | with_reducible exact rfl | (try simp (disch := omega) only [go_sem, simprocAttr, setE]; with_reducible exact rfl))))
 refine bx1 (ι := Nat) (fun i => i ≤ 4) (fun i => 4 - i) (fun i => [(2, .func (.func g) [] []), (3, .ptr H.length 4 0 0), (4, .ptr (H.length + 1) 4 0 0), (6, .ptr (H.length + 2) 4 0 0), (8, .int .i64 i)])
  (fun i => H ++ [some (.row 4 [setE fun j => if j < i then op (x j) (y j) else x j]), some (.row 4 [setE y]), some (.row 4 [setE fun _ => 0])]) 0 (by omega) ?_ ?_ ?_ ?_ ?_
 ·(repeat' (first | exact trivial | refine And.intro (And.intro ?_ ?_) ?_)) <;> first | exact rfl | (simp (disch := omega) only [go_sem, simprocAttr, EV.ok, ad1, ad5, aq4, okL, decide_eq_true_eq, EV.int.injEq]; done) | (simp (disch := omega) only [go_sem, simprocAttr, EV.ok, ad1, ad5, aq4, okL, decide_eq_true_eq, EV.int.injEq] <;> first | exact rfl | omega)
 ·simp [setE]
 ·exact fun i _ => cu3 hok (by simp [okG, EB.ok, okL, setE, EV.ok, ad1])
 ·simp
 ·intro i hi K Q' hK hQ'
  repeat' first | (with_reducible first | apply qa | apply qb | apply qc | apply qd | apply qe | apply qf | apply qg | apply qh | apply qi | apply qj | apply qk | apply ql | apply qm | apply qn | apply qo | apply qp | apply qq | apply qr | apply qs | apply qt | apply qu | exact ae9 | exact ae8) | (with_reducible refine aa5 ?_ ?_; decide) | ((with_reducible refine ah1 ?_); exact rfl) | ((with_reducible first | apply qv | apply qw | apply qx); focus (simp (disch := omega) only [go_sem, simprocAttr, setE]; with_reducible first | exact bd7 | exact bd8)) | ((with_reducible first | apply qy | apply qz); focus (simp (disch := omega) only [go_sem, simprocAttr, setE]; done)) | ((with_reducible first | apply q26 | apply q27 | apply q28); focus (simp (disch := omega) only [go_sem, simprocAttr, setE]; first | with_reducible exact rfl | (rw [if_pos (by first | omega | (constructor <;> omega) | (simp; done) | assumption)]; first | with_reducible exact rfl | (try simp (disch := omega) only [go_sem, simprocAttr, setE]; with_reducible exact rfl))))
  refine bw0 (t := decide ((i : Int) < 4)) (by simp (disch := omega) only [go_sem, simprocAttr]) (fun ht => ?_) (fun ht => ?_)
  ·have hi4 : i < 4 := by have := of_decide_eq_true ht; omega
   repeat' first | (with_reducible first | apply qa | apply qb | apply qc | apply qd | apply qe | apply qf | apply qg | apply qh | apply qi | apply qj | apply qk | apply ql | apply qm | apply qn | apply qo | apply qp | apply qq | apply qr | apply qs | apply qt | apply qu | exact ae9 | exact ae8) | (with_reducible refine aa5 ?_ ?_; decide) | ((with_reducible refine ah1 ?_); exact rfl) | ((with_reducible first | apply qv | apply qw | apply qx); focus (simp (disch := omega) only [go_sem, simprocAttr, setE]; with_reducible first | exact bd7 | exact bd8)) | ((with_reducible first | apply qy | apply qz); focus (simp (disch := omega) only [go_sem, simprocAttr, setE]; done)) | ((with_reducible first | apply q26 | apply q27 | apply q28); focus (simp (disch := omega) only [go_sem, simprocAttr, setE]; first | with_reducible exact rfl | (rw [if_pos (by first | omega | (constructor <;> omega) | (simp; done) | assumption)]; first | with_reducible exact rfl | (try simp (disch := omega) only [go_sem, simprocAttr, setE]; with_reducible exact rfl))))
   with_reducible apply cg8
   ·first | exact rfl | (simp (disch := omega) only [go_sem, simprocAttr, setE]; exact rfl)
   ·(simp (disch := omega) only [go_sem, simprocAttr, setE]; exact rfl)
   ·exact hg _ _ _ (hx _) (hy _)
   ·exact fun _ => rfl
   repeat' first | (with_reducible first | apply qa | apply qb | apply qc | apply qd | apply qe | apply qf | apply qg | apply qh | apply qi | apply qj | apply qk | apply ql | apply qm | apply qn | apply qo | apply qp | apply qq | apply qr | apply qs | apply qt | apply qu | exact ae9 | exact ae8) | (with_reducible refine aa5 ?_ ?_; decide) | ((with_reducible refine ah1 ?_); exact rfl) | ((with_reducible first | apply qv | apply qw | apply qx); focus (simp (disch := omega) only [go_sem, simprocAttr, setE]; with_reducible first | exact bd7 | exact bd8)) | ((with_reducible first | apply qy | apply qz); focus (simp (disch := omega) only [go_sem, simprocAttr, setE]; done)) | ((with_reducible first | apply q26 | apply q27 | apply q28); focus (simp (disch := omega) only [go_sem, simprocAttr, setE]; first | with_reducible exact rfl | (rw [if_pos (by first | omega | (constructor <;> omega) | (simp; done) | assumption)]; first | with_reducible exact rfl | (try simp (disch := omega) only [go_sem, simprocAttr, setE]; with_reducible exact rfl))))
   refine hK (i + 1) _ _ [] (by omega) (by omega) ?_ ?_
   ·have e := sweep (κ := .u64) (a := fun j => op (x j) (y j)) (b := x) (i := i)
    simp only [setE, e, Int.natCast_zero, List.append_nil]
   ·(repeat' (first | exact trivial | refine And.intro (And.intro ?_ ?_) ?_)) <;> first | exact rfl | (simp (disch := omega) only [go_sem, simprocAttr, EV.ok, ad1, ad5, aq4, okL, decide_eq_true_eq, EV.int.injEq]; done) | (simp (disch := omega) only [go_sem, simprocAttr, EV.ok, ad1, ad5, aq4, okL, decide_eq_true_eq, EV.int.injEq] <;> first | exact rfl | omega)
  ·have hi4 : i = 4 := by have := of_decide_eq_false ht; omega
   subst hi4
   repeat' first | (with_reducible first | apply qa | apply qb | apply qc | apply qd | apply qe | apply qf | apply qg | apply qh | apply qi | apply qj | apply qk | apply ql | apply qm | apply qn | apply qo | apply qp | apply qq | apply qr | apply qs | apply qt | apply qu | exact ae9 | exact ae8) | (with_reducible refine aa5 ?_ ?_; decide) | ((with_reducible refine ah1 ?_); exact rfl) | ((with_reducible first | apply qv | apply qw | apply qx); focus (simp (disch := omega) only [go_sem, simprocAttr]; with_reducible first | exact bd7 | exact bd8)) | ((with_reducible first | apply qy | apply qz); focus (simp (disch := omega) only [go_sem, simprocAttr]; done)) | ((with_reducible first | apply q26 | apply q27 | apply q28); focus (simp (disch := omega) only [go_sem, simprocAttr]; first | with_reducible exact rfl | (rw [if_pos (by first | omega | (constructor <;> omega) | (simp; done) | assumption)]; first | with_reducible exact rfl | (try simp (disch := omega) only [go_sem, simprocAttr]; with_reducible exact rfl))))
   refine hQ' _ _ _ ?_
   repeat' first | (with_reducible first | apply qa | apply qb | apply qc | apply qd | apply qe | apply qf | apply qg | apply qh | apply qi | apply qj | apply qk | apply ql | apply qm | apply qn | apply qo | apply qp | apply qq | apply qr | apply qs | apply qt | apply qu | exact ae9 | exact ae8) | (with_reducible refine aa5 ?_ ?_; decide) | ((with_reducible refine ah1 ?_); exact rfl) | ((with_reducible first | apply qv | apply qw | apply qx); focus (simp (disch := omega) only [go_sem, simprocAttr, setE]; with_reducible first | exact bd7 | exact bd8)) | ((with_reducible first | apply qy | apply qz); focus (simp (disch := omega) only [go_sem, simprocAttr, setE]; done)) | ((with_reducible first | apply q26 | apply q27 | apply q28); focus (simp (disch := omega) only [go_sem, simprocAttr, setE]; first | with_reducible exact rfl | (rw [if_pos (by first | omega | (constructor <;> omega) | (simp; done) | assumption)]; first | with_reducible exact rfl | (try simp (disch := omega) only [go_sem, simprocAttr, setE]; with_reducible exact rfl))))
   refine br7 hok (r := setE fun i => op (x i) (y i)) ?_ ?_ ⟨rfl, rfl⟩
   ·first | (simp (disch := omega) only [go_sem, simprocAttr, ab0, az5, bo4, at6, setE]; done) | (simp (disch := omega) only [go_sem, simprocAttr, ab0, az5, bo4, at6, setE]; with_reducible exact rfl) | exact rfl
   ·first | (simp [EV.ok, okL, ad1, ad5, aq4, setE]; done)
theorem eo4 {f fe fc : FuncId} (hb : Body P f (bl3 fc fe) ax3 8) (he : Body P fe bg5 at6 23) (hc : Body P fc au4 ar9 8) (x y : Nat → Nat) (hx : bp1 x) (hy : bp1 y) (H : Heap) :
  CallsA P γ f [setE x, setE y] H fun er H' => er = .ret (setE fun i => x i &&& y i) ∧ H' = H := by
 refine hb.calls (by simp) fun hok => ?_
 unfold bl3
 repeat' first | (with_reducible first | apply qa | apply qb | apply qc | apply qd | apply qe | apply qf | apply qg | apply qh | apply qi | apply qj | apply qk | apply ql | apply qm | apply qn | apply qo | apply qp | apply qq | apply qr | apply qs | apply qt | apply qu | exact ae9 | exact ae8) | (with_reducible refine aa5 ?_ ?_; decide) | ((with_reducible refine ah1 ?_); exact rfl) | ((with_reducible first | apply qv | apply qw | apply qx); focus (simp (disch := omega) only [go_sem, simprocAttr, setE]; with_reducible first | exact bd7 | exact bd8)) | ((with_reducible first | apply qy | apply qz); focus (simp (disch := omega) only [go_sem, simprocAttr, setE]; done)) | ((with_reducible first | apply q26 | apply q27 | apply q28); focus (simp (disch := omega) only [go_sem, simprocAttr, setE]; first | with_reducible exact rfl | (rw [if_pos (by first | omega | (constructor <;> omega) | (simp; done) | assumption)]; first | with_reducible exact rfl | (try simp (disch := omega) only [go_sem, simprocAttr, setE]; with_reducible exact rfl))))
 with_reducible apply dc3
 ·first | exact rfl | (simp (disch := omega) only [go_sem, simprocAttr, setE]; exact rfl)
 ·(simp (disch := omega) only [go_sem, simprocAttr, setE]; exact rfl)
 ·exact en9 he (dj3 hc) x y hx hy _
 repeat' first | (with_reducible first | apply qa | apply qb | apply qc | apply qd | apply qe | apply qf | apply qg | apply qh | apply qi | apply qj | apply qk | apply ql | apply qm | apply qn | apply qo | apply qp | apply qq | apply qr | apply qs | apply qt | apply qu | exact ae9 | exact ae8) | (with_reducible refine aa5 ?_ ?_; decide) | ((with_reducible refine ah1 ?_); exact rfl) | ((with_reducible first | apply qv | apply qw | apply qx); focus (simp (disch := omega) only [go_sem, simprocAttr, setE]; with_reducible first | exact bd7 | exact bd8)) | ((with_reducible first | apply qy | apply qz); focus (simp (disch := omega) only [go_sem, simprocAttr, setE]; done)) | ((with_reducible first | apply q26 | apply q27 | apply q28); focus (simp (disch := omega) only [go_sem, simprocAttr, setE]; first | with_reducible exact rfl | (rw [if_pos (by first | omega | (constructor <;> omega) | (simp; done) | assumption)]; first | with_reducible exact rfl | (try simp (disch := omega) only [go_sem, simprocAttr, setE]; with_reducible exact rfl))))
 refine br7 hok (r := setE fun i => x i &&& y i) ?_ ?_ ⟨rfl, rfl⟩
 ·first | (simp (disch := omega) only [go_sem, simprocAttr, ab0, az5, bo4, ax3, setE]; done) | (simp (disch := omega) only [go_sem, simprocAttr, ab0, az5, bo4, ax3, setE]; with_reducible exact rfl) | exact rfl
 ·first | (simp [EV.ok, okL, ad1, ad5, aq4, setE]; done)
def ar5 (bs : List Nat) (i : Nat) : Nat := bs.foldl (fun w b => if i = b / 64 then w ||| 2 ^ (b % 64) else w) 0
theorem da3 (b : Nat) : 2 ^ (b % 64) < 18446744073709551616 := by
 have : (2 : Nat) ^ (b % 64) ≤ 2 ^ 63 := Nat.pow_le_pow_right (by decide) (by omega)
 omega
theorem cc7 (bs : List Nat) : bp1 (ar5 bs) := by
 intro i
 unfold ar5
 have : ∀ (bs : List Nat) (w : Nat), w < 18446744073709551616 → bs.foldl (fun w b => if i = b / 64 then w ||| 2 ^ (b % 64) else w) w < 18446744073709551616 := by
  intro bs
  induction bs with
  | nil => intro w h; exact h
  | cons b bs ih =>
   intro w h
   rw [List.foldl_cons]
   refine ih _ ?_
   split
   ·exact Nat.or_lt_two_pow (n := 64) h (da3 b)
   ·exact h
 exact this bs 0 (by omega)
def be8 (bs : List Nat) : EV := .imm 1 (bs.map fun b => EV.int .u8 ((b : Nat) : Int))
theorem bs1 {n : Nat} {bs : List Nat} : (be8 bs).ok n = true := by
 simp only [be8, EV.ok, ah6, List.mem_map]
 rintro x ⟨b, _, rfl⟩
 rfl
set_option maxHeartbeats 4000000 in
theorem of_ok {f : FuncId} (hb : Body P f bz2 bg6 23) (bs : List Nat) (h8 : ∀ b ∈ bs, b < 256) (hlen : bs.length < 9223372036854775807) (H : Heap) :
  CallsA P γ f [be8 bs] H fun er H' => er = .ret (setE (ar5 bs)) ∧ H' = H := by
 refine hb.calls (by simp) fun hok => ?_
 unfold bz2
 repeat' first | (with_reducible first | apply qa | apply qb | apply qc | apply qd | apply qe | apply qf | apply qg | apply qh | apply qi | apply qj | apply qk | apply ql | apply qm | apply qn | apply qo | apply qp | apply qq | apply qr | apply qs | apply qt | apply qu | exact ae9 | exact ae8) | (with_reducible refine aa5 ?_ ?_; decide) | ((with_reducible refine ah1 ?_); exact rfl) | ((with_reducible first | apply qv | apply qw | apply qx); focus (simp (disch := omega) only [go_sem, simprocAttr, be8, List.length_map]; with_reducible first | exact bd7 | exact bd8)) | ((with_reducible first | apply qy | apply qz); focus (simp (disch := omega) only [go_sem, simprocAttr, be8, List.length_map]; done)) | ((with_reducible first | apply q26 | apply q27 | apply q28); focus (simp (disch := omega) only [go_sem, simprocAttr, be8, List.length_map]; first | with_reducible exact rfl | (rw [if_pos (by first | omega | (constructor <;> omega) | (simp; done) | assumption)]; first | with_reducible exact rfl | (try simp (disch := omega) only [go_sem, simprocAttr, be8, List.length_map]; with_reducible exact rfl))))
 refine bx1 (ι := Nat) (fun i => i ≤ bs.length) (fun i => bs.length - i) (fun i => [(2, .ptr H.length 4 0 0), (3, .ptr (H.length + 1) 4 0 0), (6, be8 bs), (7, .int .i64 bs.length), (8, .int .i64 i)])
  (fun i => H ++ [some (.row 4 [setE fun _ => 0]), some (.row 4 [setE (ar5 (bs.take i))])]) 0 (by omega) ?_ ?_ ?_ ?_ ?_
 ·(repeat' (first | exact trivial | refine And.intro (And.intro ?_ ?_) ?_)) <;> first | exact rfl | (simp (disch := omega) only [go_sem, simprocAttr, bs1, EV.ok, ad1, ad5, aq4, okL, decide_eq_true_eq, EV.int.injEq]; done) | (simp (disch := omega) only [go_sem, simprocAttr, bs1, EV.ok, ad1, ad5, aq4, okL, decide_eq_true_eq, EV.int.injEq] <;> first | exact rfl | omega)
 ·simp [setE, ar5]
 ·exact fun i _ => cu3 hok (by simp [okG, EB.ok, okL, setE, EV.ok, ad1])
 ·simp
 ·intro i hi K Q' hK hQ'
  repeat' first | (with_reducible first | apply qa | apply qb | apply qc | apply qd | apply qe | apply qf | apply qg | apply qh | apply qi | apply qj | apply qk | apply ql | apply qm | apply qn | apply qo | apply qp | apply qq | apply qr | apply qs | apply qt | apply qu | exact ae9 | exact ae8) | (with_reducible refine aa5 ?_ ?_; decide) | ((with_reducible refine ah1 ?_); exact rfl) | ((with_reducible first | apply qv | apply qw | apply qx); focus (simp (disch := omega) only [go_sem, simprocAttr]; with_reducible first | exact bd7 | exact bd8)) | ((with_reducible first | apply qy | apply qz); focus (simp (disch := omega) only [go_sem, simprocAttr]; done)) | ((with_reducible first | apply q26 | apply q27 | apply q28); focus (simp (disch := omega) only [go_sem, simprocAttr]; first | with_reducible exact rfl | (rw [if_pos (by first | omega | (constructor <;> omega) | (simp; done) | assumption)]; first | with_reducible exact rfl | (try simp (disch := omega) only [go_sem, simprocAttr]; with_reducible exact rfl))))
  refine bw0 (t := decide ((i : Int) < bs.length)) (by simp (disch := omega) only [go_sem, simprocAttr]) (fun ht => ?_) (fun ht => ?_)
  ·have hil : i < bs.length := by have := of_decide_eq_true ht; omega
   obtain ⟨b, hbi⟩ : ∃ b, bs[i]? = some b := ⟨bs[i], by simp [hil]⟩
   have hb8 := h8 b (List.mem_of_getElem? hbi)
   have hw := cc7 (bs.take i) (b / 64)
   have hp := da3 b
   repeat' first | (with_reducible first | apply qa | apply qb | apply qc | apply qd | apply qe | apply qf | apply qg | apply qh | apply qi | apply qj | apply qk | apply ql | apply qm | apply qn | apply qo | apply qp | apply qq | apply qr | apply qs | apply qt | apply qu | exact ae9 | exact ae8) | (with_reducible refine aa5 ?_ ?_; decide) | ((with_reducible refine ah1 ?_); exact rfl) | ((with_reducible first | apply qv | apply qw | apply qx); focus (simp (disch := omega) only [go_sem, simprocAttr, setE, be8, List.getElem?_map, hbi, cj5]; with_reducible first | exact bd7 | exact bd8)) | ((with_reducible first | apply qy | apply qz); focus (simp (disch := omega) only [go_sem, simprocAttr, setE, be8, List.getElem?_map, hbi, cj5]; done)) | ((with_reducible first | apply q26 | apply q27 | apply q28); focus (simp (disch := omega) only [go_sem, simprocAttr, setE, be8, List.getElem?_map, hbi, cj5]; first | with_reducible exact rfl | (rw [if_pos (by first | omega | (constructor <;> omega) | (simp; done) | assumption)]; first | with_reducible exact rfl | (try simp (disch := omega) only [go_sem, simprocAttr, setE, be8, List.getElem?_map, hbi, cj5]; with_reducible exact rfl))))
   refine hK (i + 1) _ _ [] (by omega) (by omega) ?_ ?_
   ·have e : ∀ j, ar5 (bs.take (i + 1)) j = if j = b / 64 then ar5 (bs.take i) (b / 64) ||| 2 ^ (b % 64) else ar5 (bs.take i) j := by
     intro j
     rw [List.take_add_one, hbi]
     simp only [ar5, List.foldl_append, Option.toList_some, List.foldl_cons, List.foldl_nil]
     by_cases h : j = b / 64
     ·subst h; simp
     ·rw [if_neg h, if_neg h]
    simp only [setE, e, Int.natCast_zero, List.append_nil]
   ·(repeat' (first | exact trivial | refine And.intro (And.intro ?_ ?_) ?_)) <;> first | exact rfl | (simp (disch := omega) only [go_sem, simprocAttr, bs1, EV.ok, ad1, ad5, aq4, okL, decide_eq_true_eq, EV.int.injEq]; done) | (simp (disch := omega) only [go_sem, simprocAttr, bs1, EV.ok, ad1, ad5, aq4, okL, decide_eq_true_eq, EV.int.injEq] <;> first | exact rfl | omega)
  ·have hi4 : i = bs.length := by have := of_decide_eq_false ht; omega
   subst hi4
   repeat' first | (with_reducible first | apply qa | apply qb | apply qc | apply qd | apply qe | apply qf | apply qg | apply qh | apply qi | apply qj | apply qk | apply ql | apply qm | apply qn | apply qo | apply qp | apply qq | apply qr | apply qs | apply qt | apply qu | exact ae9 | exact ae8) | (with_reducible refine aa5 ?_ ?_; decide) | ((with_reducible refine ah1 ?_); exact rfl) | ((with_reducible first | apply qv | apply qw | apply qx); focus (simp (disch := omega) only [go_sem, simprocAttr]; with_reducible first | exact bd7 | exact bd8)) | ((with_reducible first | apply qy | apply qz); focus (simp (disch := omega) only [go_sem, simprocAttr]; done)) | ((with_reducible first | apply q26 | apply q27 | apply q28); focus (simp (disch := omega) only [go_sem, simprocAttr]; first | with_reducible exact rfl | (rw [if_pos (by first | omega | (constructor <;> omega) | (simp; done) | assumption)]; first | with_reducible exact rfl | (try simp (disch := omega) only [go_sem, simprocAttr]; with_reducible exact rfl))))
   refine hQ' _ _ _ ?_
   repeat' first | (with_reducible first | apply qa | apply qb | apply qc | apply qd | apply qe | apply qf | apply qg | apply qh | apply qi | apply qj | apply qk | apply ql | apply qm | apply qn | apply qo | apply qp | apply qq | apply qr | apply qs | apply qt | apply qu | exact ae9 | exact ae8) | (with_reducible refine aa5 ?_ ?_; decide) | ((with_reducible refine ah1 ?_); exact rfl) | ((with_reducible first | apply qv | apply qw | apply qx); focus (simp (disch := omega) only [go_sem, simprocAttr, setE]; with_reducible first | exact bd7 | exact bd8)) | ((with_reducible first | apply qy | apply qz); focus (simp (disch := omega) only [go_sem, simprocAttr, setE]; done)) | ((with_reducible first | apply q26 | apply q27 | apply q28); focus (simp (disch := omega) only [go_sem, simprocAttr, setE]; first | with_reducible exact rfl | (rw [if_pos (by first | omega | (constructor <;> omega) | (simp; done) | assumption)]; first | with_reducible exact rfl | (try simp (disch := omega) only [go_sem, simprocAttr, setE]; with_reducible exact rfl))))
   refine br7 hok (r := setE (ar5 bs)) ?_ ?_ ⟨rfl, rfl⟩
   ·first | (simp (disch := omega) only [go_sem, simprocAttr, ab0, az5, bo4, bg6, setE, List.take_length]; done) | (simp (disch := omega) only [go_sem, simprocAttr, ab0, az5, bo4, bg6, setE, List.take_length]; with_reducible exact rfl) | exact rfl
   ·first | (simp [EV.ok, okL, ad1, ad5, aq4, setE, List.take_length]; done)
def bf5 (w : Nat → Nat) (b : Nat) : Bool := (w (b / 64)).testBit (b % 64)
theorem dy2 {x m : Nat} : x &&& 2 ^ m = 0 ↔ x.testBit m = false := by
 constructor
 ·intro h
  have := congrArg (fun z => z.testBit m) h
  simpa [Nat.testBit_and, Nat.testBit_two_pow_self] using this
 ·intro h
  apply Nat.eq_of_testBit_eq
  intro j
  rw [Nat.testBit_and, Nat.testBit_two_pow]
  by_cases e : m = j
  ·subst e; simp [h]
  ·simp [e]
theorem bz9 (x : Nat → Nat) (b : Nat) (hb : b < 256) : (!cr5 4 (fun i => ((x i &&& ar5 [b] i : Nat) : Int)) fun _ => 0) = bf5 x b := by
 have hw : ∀ i, ar5 [b] i = if i = b / 64 then 2 ^ (b % 64) else 0 := by
  intro i
  simp [ar5]
 have key : (∀ i, i < 4 → (((x i &&& ar5 [b] i : Nat) : Int)) = 0) ↔ bf5 x b = false := by
  unfold bf5
  constructor
  ·intro h
   have h1 := h (b / 64) (by omega)
   rw [hw, if_pos rfl] at h1
   exact dy2.1 (by omega)
  ·intro h i _
   rw [hw]
   by_cases e : i = b / 64
   ·subst e; rw [if_pos rfl, dy2.2 h]; rfl
   ·rw [if_neg e]; simp
 cases hx : bf5 x b with
 | false => rw [cr4.2 (key.2 hx)]; rfl
 | true =>
  cases ha : cr5 4 (fun i => ((x i &&& ar5 [b] i : Nat) : Int)) fun _ => 0 with
  | false => rfl
  | true => rw [key.1 (cr4.1 ha)] at hx; simp at hx
def ep4 (P : Program) (γ : Nat → EV) (f : FuncId) (κ : IntKind) : Prop :=
 ∀ (x : Nat → Nat) (b : Nat) (H : Heap), bp1 x → b < 256 → CallsA P γ f [setE x, .int κ b] H fun er H' => er = .ret (.bool (bf5 x b)) ∧ H' = H
theorem es8 {f fb fo fe fc : FuncId} (hb : Body P f (bw7 fb fo) bg7 12) (hB : Body P fb (bl3 fc fe) ax3 8) (hO : Body P fo bz2 bg6 23) (he : Body P fe bg5 at6 23)
  (hc : Body P fc au4 ar9 8) : ep4 P γ f .u8 := by
 intro x b H hx hb8
 refine hb.calls (by simp) fun hok => ?_
 unfold bw7
 repeat' first | (with_reducible first | apply qa | apply qb | apply qc | apply qd | apply qe | apply qf | apply qg | apply qh | apply qi | apply qj | apply qk | apply ql | apply qm | apply qn | apply qo | apply qp | apply qq | apply qr | apply qs | apply qt | apply qu | exact ae9 | exact ae8) | (with_reducible refine aa5 ?_ ?_; decide) | ((with_reducible refine ah1 ?_); exact rfl) | ((with_reducible first | apply qv | apply qw | apply qx); focus (simp (disch := omega) only [go_sem, simprocAttr, setE]; with_reducible first | exact bd7 | exact bd8)) | ((with_reducible first | apply qy | apply qz); focus (simp (disch := omega) only [go_sem, simprocAttr, setE]; done)) | ((with_reducible first | apply q26 | apply q27 | apply q28); focus (simp (disch := omega) only [go_sem, simprocAttr, setE]; first | with_reducible exact rfl | (rw [if_pos (by first | omega | (constructor <;> omega) | (simp; done) | assumption)]; first | with_reducible exact rfl | (try simp (disch := omega) only [go_sem, simprocAttr, setE]; with_reducible exact rfl))))
 with_reducible apply cg8
 ·first | exact rfl | (simp (disch := omega) only [go_sem, simprocAttr, be8]; exact rfl)
 ·(simp (disch := omega) only [go_sem, simprocAttr, be8]; exact rfl)
 ·exact of_ok hO [b] (by simpa using hb8) (by simp) _
 ·exact fun _ => rfl
 repeat' first | (with_reducible first | apply qa | apply qb | apply qc | apply qd | apply qe | apply qf | apply qg | apply qh | apply qi | apply qj | apply qk | apply ql | apply qm | apply qn | apply qo | apply qp | apply qq | apply qr | apply qs | apply qt | apply qu | exact ae9 | exact ae8) | (with_reducible refine aa5 ?_ ?_; decide) | ((with_reducible refine ah1 ?_); exact rfl) | ((with_reducible first | apply qv | apply qw | apply qx); focus (simp (disch := omega) only [go_sem, simprocAttr, setE]; with_reducible first | exact bd7 | exact bd8)) | ((with_reducible first | apply qy | apply qz); focus (simp (disch := omega) only [go_sem, simprocAttr, setE]; done)) | ((with_reducible first | apply q26 | apply q27 | apply q28); focus (simp (disch := omega) only [go_sem, simprocAttr, setE]; first | with_reducible exact rfl | (rw [if_pos (by first | omega | (constructor <;> omega) | (simp; done) | assumption)]; first | with_reducible exact rfl | (try simp (disch := omega) only [go_sem, simprocAttr, setE]; with_reducible exact rfl))))
 with_reducible apply cg8
 ·first | exact rfl | (simp (disch := omega) only [go_sem, simprocAttr, setE]; exact rfl)
 ·(simp (disch := omega) only [go_sem, simprocAttr, setE]; exact rfl)
 ·exact eo4 hB he hc x (ar5 [b]) hx (cc7 _) _
 ·exact fun _ => rfl
 repeat' first | (with_reducible first | apply qa | apply qb | apply qc | apply qd | apply qe | apply qf | apply qg | apply qh | apply qi | apply qj | apply qk | apply ql | apply qm | apply qn | apply qo | apply qp | apply qq | apply qr | apply qs | apply qt | apply qu | exact ae9 | exact ae8) | (with_reducible refine aa5 ?_ ?_; decide) | ((with_reducible refine ah1 ?_); exact rfl) | ((with_reducible first | apply qv | apply qw | apply qx); focus (simp (disch := omega) only [go_sem, simprocAttr, setE]; with_reducible first | exact bd7 | exact bd8)) | ((with_reducible first | apply qy | apply qz); focus (simp (disch := omega) only [go_sem, simprocAttr, setE]; done)) | ((with_reducible first | apply q26 | apply q27 | apply q28); focus (simp (disch := omega) only [go_sem, simprocAttr, setE]; first | with_reducible exact rfl | (rw [if_pos (by first | omega | (constructor <;> omega) | (simp; done) | assumption)]; first | with_reducible exact rfl | (try simp (disch := omega) only [go_sem, simprocAttr, setE]; with_reducible exact rfl))))
 refine br7 hok (r := .bool (bf5 x b)) ?_ ?_ ⟨rfl, rfl⟩
 ·first | (simp (disch := omega) only [go_sem, simprocAttr, ab0, az5, bo4, bg7, bz9, hb8]; done) | (simp (disch := omega) only [go_sem, simprocAttr, ab0, az5, bo4, bg7, bz9, hb8]; with_reducible exact rfl) | exact rfl
 ·first | (simp [EV.ok, okL, ad1, ad5, aq4, bz9, hb8]; done)
theorem cy2 {w m : Nat} : (((w / 2 ^ m % 2 : Nat) : Int) == 1) = w.testBit m := by
 rw [Nat.testBit_eq_decide_div_mod_eq, Bool.eq_iff_iff]
 simp only [beq_iff_eq, decide_eq_true_eq]
 omega
theorem dn2 {f : FuncId} (hb : Body P f av7 an1 22) : ep4 P γ f .i64 := by
 intro x b H hx hb8
 refine hb.calls (by simp) fun hok => ?_
 unfold av7
 repeat' first | (with_reducible first | apply qa | apply qb | apply qc | apply qd | apply qe | apply qf | apply qg | apply qh | apply qi | apply qj | apply qk | apply ql | apply qm | apply qn | apply qo | apply qp | apply qq | apply qr | apply qs | apply qt | apply qu | exact ae9 | exact ae8) | (with_reducible refine aa5 ?_ ?_; decide) | ((with_reducible refine ah1 ?_); exact rfl) | ((with_reducible first | apply qv | apply qw | apply qx); focus (simp (disch := omega) only [go_sem, simprocAttr, setE]; with_reducible first | exact bd7 | exact bd8)) | ((with_reducible first | apply qy | apply qz); focus (simp (disch := omega) only [go_sem, simprocAttr, setE]; done)) | ((with_reducible first | apply q26 | apply q27 | apply q28); focus (simp (disch := omega) only [go_sem, simprocAttr, setE]; first | with_reducible exact rfl | (rw [if_pos (by first | omega | (constructor <;> omega) | (simp; done) | assumption)]; first | with_reducible exact rfl | (try simp (disch := omega) only [go_sem, simprocAttr, setE]; with_reducible exact rfl))))
 refine bx1 (ι := Nat) (fun i => i ≤ b % 64) (fun i => b % 64 - i) (fun i => [(1, .int .i64 b), (5, .int .u64 ((x (b / 64) / 2 ^ i : Nat) : Int)), (6, .int .i64 i)]) (fun _ => H ++ [some (.row 4 [setE x])]) 0 (by omega) ?_ ?_ ?_ ?_ ?_
 ·(repeat' (first | exact trivial | refine And.intro (And.intro ?_ ?_) ?_)) <;> first | exact rfl | (simp (disch := omega) only [go_sem, simprocAttr, Nat.pow_zero, Nat.div_one, EV.ok, ad1, ad5, aq4, okL, decide_eq_true_eq, EV.int.injEq]; done) | (simp (disch := omega) only [go_sem, simprocAttr, Nat.pow_zero, Nat.div_one, EV.ok, ad1, ad5, aq4, okL, decide_eq_true_eq, EV.int.injEq] <;> first | exact rfl | omega)
 ·rfl
 ·exact fun i _ => cu3 hok (by simp [okG, EB.ok, okL, setE, EV.ok, ad1])
 ·simp
 ·intro i hi K Q' hK hQ'
  have h1 := hx (b / 64)
  have h2 : x (b / 64) / 2 ^ i ≤ x (b / 64) := Nat.div_le_self _ _
  obtain ⟨q, hq⟩ : ∃ q, x (b / 64) / 2 ^ i = q := ⟨_, rfl⟩
  rw [hq] at h2
  repeat' first | (with_reducible first | apply qa | apply qb | apply qc | apply qd | apply qe | apply qf | apply qg | apply qh | apply qi | apply qj | apply qk | apply ql | apply qm | apply qn | apply qo | apply qp | apply qq | apply qr | apply qs | apply qt | apply qu | exact ae9 | exact ae8) | (with_reducible refine aa5 ?_ ?_; decide) | ((with_reducible refine ah1 ?_); exact rfl) | ((with_reducible first | apply qv | apply qw | apply qx); focus (simp (disch := omega) only [go_sem, simprocAttr]; with_reducible first | exact bd7 | exact bd8)) | ((with_reducible first | apply qy | apply qz); focus (simp (disch := omega) only [go_sem, simprocAttr]; done)) | ((with_reducible first | apply q26 | apply q27 | apply q28); focus (simp (disch := omega) only [go_sem, simprocAttr]; first | with_reducible exact rfl | (rw [if_pos (by first | omega | (constructor <;> omega) | (simp; done) | assumption)]; first | with_reducible exact rfl | (try simp (disch := omega) only [go_sem, simprocAttr]; with_reducible exact rfl))))
  refine bw0 (t := decide ((i : Int) < (b % 64 : Nat))) (by simp (disch := omega) only [go_sem, simprocAttr]) (fun ht => ?_) (fun ht => ?_)
  ·have hil : i < b % 64 := by have := of_decide_eq_true ht; omega
   repeat' first | (with_reducible first | apply qa | apply qb | apply qc | apply qd | apply qe | apply qf | apply qg | apply qh | apply qi | apply qj | apply qk | apply ql | apply qm | apply qn | apply qo | apply qp | apply qq | apply qr | apply qs | apply qt | apply qu | exact ae9 | exact ae8) | (with_reducible refine aa5 ?_ ?_; decide) | ((with_reducible refine ah1 ?_); exact rfl) | ((with_reducible first | apply qv | apply qw | apply qx); focus (simp (disch := omega) only [go_sem, simprocAttr, hq]; with_reducible first | exact bd7 | exact bd8)) | ((with_reducible first | apply qy | apply qz); focus (simp (disch := omega) only [go_sem, simprocAttr, hq]; done)) | ((with_reducible first | apply q26 | apply q27 | apply q28); focus (simp (disch := omega) only [go_sem, simprocAttr, hq]; first | with_reducible exact rfl | (rw [if_pos (by first | omega | (constructor <;> omega) | (simp; done) | assumption)]; first | with_reducible exact rfl | (try simp (disch := omega) only [go_sem, simprocAttr, hq]; with_reducible exact rfl))))
   have e : x (b / 64) / 2 ^ (i + 1) = q / 2 := by rw [Nat.pow_succ, ← Nat.div_div_eq_div_mul, hq]
   refine hK (i + 1) _ _ [] (by omega) (by omega) (by simp) ?_
   (repeat' (first | exact trivial | refine And.intro (And.intro ?_ ?_) ?_)) <;> first | exact rfl | (simp (disch := omega) only [go_sem, simprocAttr, e, EV.ok, ad1, ad5, aq4, okL, decide_eq_true_eq, EV.int.injEq]; done) | (simp (disch := omega) only [go_sem, simprocAttr, e, EV.ok, ad1, ad5, aq4, okL, decide_eq_true_eq, EV.int.injEq] <;> first | exact rfl | omega)
  ·have hi4 : i = b % 64 := by have := of_decide_eq_false ht; omega
   subst hi4
   repeat' first | (with_reducible first | apply qa | apply qb | apply qc | apply qd | apply qe | apply qf | apply qg | apply qh | apply qi | apply qj | apply qk | apply ql | apply qm | apply qn | apply qo | apply qp | apply qq | apply qr | apply qs | apply qt | apply qu | exact ae9 | exact ae8) | (with_reducible refine aa5 ?_ ?_; decide) | ((with_reducible refine ah1 ?_); exact rfl) | ((with_reducible first | apply qv | apply qw | apply qx); focus (simp (disch := omega) only [go_sem, simprocAttr]; with_reducible first | exact bd7 | exact bd8)) | ((with_reducible first | apply qy | apply qz); focus (simp (disch := omega) only [go_sem, simprocAttr]; done)) | ((with_reducible first | apply q26 | apply q27 | apply q28); focus (simp (disch := omega) only [go_sem, simprocAttr]; first | with_reducible exact rfl | (rw [if_pos (by first | omega | (constructor <;> omega) | (simp; done) | assumption)]; first | with_reducible exact rfl | (try simp (disch := omega) only [go_sem, simprocAttr]; with_reducible exact rfl))))
   refine hQ' _ _ _ ?_
   repeat' first | (with_reducible first | apply qa | apply qb | apply qc | apply qd | apply qe | apply qf | apply qg | apply qh | apply qi | apply qj | apply qk | apply ql | apply qm | apply qn | apply qo | apply qp | apply qq | apply qr | apply qs | apply qt | apply qu | exact ae9 | exact ae8) | (with_reducible refine aa5 ?_ ?_; decide) | ((with_reducible refine ah1 ?_); exact rfl) | ((with_reducible first | apply qv | apply qw | apply qx); focus (simp (disch := omega) only [go_sem, simprocAttr]; with_reducible first | exact bd7 | exact bd8)) | ((with_reducible first | apply qy | apply qz); focus (simp (disch := omega) only [go_sem, simprocAttr]; done)) | ((with_reducible first | apply q26 | apply q27 | apply q28); focus (simp (disch := omega) only [go_sem, simprocAttr]; first | with_reducible exact rfl | (rw [if_pos (by first | omega | (constructor <;> omega) | (simp; done) | assumption)]; first | with_reducible exact rfl | (try simp (disch := omega) only [go_sem, simprocAttr]; with_reducible exact rfl))))
   refine br7 hok (r := .bool (bf5 x b)) ?_ ?_ ⟨rfl, rfl⟩
   ·first | (simp (disch := omega) only [go_sem, simprocAttr, ab0, az5, bo4, an1, bf5, cy2]; done) | (simp (disch := omega) only [go_sem, simprocAttr, ab0, az5, bo4, an1, bf5, cy2]; with_reducible exact rfl) | exact rfl
   ·first | (simp [EV.ok, okL, ad1, ad5, aq4, bf5, cy2]; done)
end
end Abs
