/- A part. -/
import Derived.Test.YtddgppmcbjjliaaGreatDoorOctsA
set_option linter.all false
namespace Abs
open Go Gn
set_option linter.unusedSimpArgs false
set_option maxRecDepth 20000
def aa1 (of : Nat → Nat) (n : Int) : EV := .agg (tab 256 (fun i => .int .u8 ((of i : Nat) : Int)) ++ [.int .i64 n])
def af0 (name : Nat → Nat × Nat) : Nat → List (Nat × Nat)
 | 0 => []
 | b + 1 => if name b ∈ af0 name b then af0 name b else af0 name b ++ [name b]
def clsN (name : Nat → Nat × Nat) (b : Nat) : Nat := (af0 name (b + 1)).idxOf (name b)
theorem ce8 (name : Nat → Nat × Nat) (b : Nat) : (af0 name b).length ≤ b := by
 induction b with
 | zero => simp [af0]
 | succ b ih =>
  simp only [af0]
  split
  ·omega
  ·simp; omega
def az8 (p : Nat × Nat) : EV := .agg [.int .i64 ((p.1 : Nat) : Int), .int .i64 ((p.2 : Nat) : Int)]
def mapE : List (Nat × Nat) → Nat → List (EV × EV)
 | [], _ => []
 | p :: l, o => (az8 p, .int .u8 ((o : Nat) : Int)) :: mapE l (o + 1)
theorem dm1 (p q : Nat × Nat) : eqL (az8 p).cells (az8 q).cells = (p == q) := by
 obtain ⟨a, b⟩ := p
 obtain ⟨c, d⟩ := q
 simp only [az8, EV.cells, eqL, sceq, Bool.and_true]
 rw [Bool.eq_iff_iff]
 simp [Bool.and_eq_true]
 omega
theorem ar7 (p : Nat × Nat) : ∀ (l : List (Nat × Nat)) (o : Nat), bg2 (az8 p) (mapE l o) = if p ∈ l then some (.int .u8 ((o + l.idxOf p : Nat) : Int)) else none
 | [], o => by simp [mapE, bg2]
 | q :: l, o => by
  simp only [mapE, bg2, dm1]
  by_cases h : p = q
  ·subst h; simp
  ·have hb : (p == q) = false := by simpa using h
   rw [hb, ar7 p l (o + 1)]
   have hq : q ≠ p := fun e => h e.symm
   simp only [Bool.false_eq_true, if_false, List.mem_cons, h, false_or]
   split
   ·rw [List.idxOf_cons, show (q == p) = false by simpa using hq]
    simp only [cond_false]
    congr 2
    omega
   ·rfl
theorem bm8 {p : Nat × Nat} {v : EV} : ∀ {l : List (Nat × Nat)} {o : Nat}, p ∉ l → putE (az8 p) v (mapE l o) = mapE l o ++ [(az8 p, v)]
 | [], o, _ => rfl
 | q :: l, o, h => by
  simp only [List.mem_cons, not_or] at h
  have hb : (p == q) = false := by simpa using h.1
  simp only [mapE, putE, dm1, hb, Bool.false_eq_true, if_false, List.cons_append]
  rw [bm8 h.2]
theorem dl2 (p : Nat × Nat) : ∀ (l : List (Nat × Nat)) (o : Nat), mapE (l ++ [p]) o = mapE l o ++ [(az8 p, .int .u8 ((o + l.length : Nat) : Int))]
 | [], o => by simp [mapE]
 | q :: l, o => by
  simp only [List.cons_append, mapE, dl2 p l (o + 1), List.length_cons]
  rw [show o + 1 + l.length = o + (l.length + 1) by omega]
theorem ah1 {p : Nat × Nat} : av0 true [.i .i64, .i .i64] (az8 p) = true := rfl
theorem af9 : ∀ {l : List (Nat × Nat)} {o : Nat}, av2 true [.i .i64, .i .i64] (mapE l o) = true
 | [], _ => rfl
 | p :: l, o => by
  have := af9 (l := l) (o := o + 1)
  simp only [av2] at this
  simp [av2, mapE, ah1, this]
theorem ee4 {n : Nat} : ∀ {l : List (Nat × Nat)} {o : Nat}, (EB.map (mapE l o)).ok n = true
 | [], _ => rfl
 | p :: l, o => by
  have := ee4 (n := n) (l := l) (o := o + 1)
  simp only [EB.ok] at this
  simp only [EB.ok, mapE, List.all_cons, this]
  rfl
section
variable {P : Program} {γ : Nat → EV}
set_option maxHeartbeats 4000000 in
theorem cm5 {f g : FuncId} {cap : List EV} {H : Heap} (name : Nat → Nat × Nat) (hb : Body P f ar9 ai7 40) (hcap : okL H.length cap = true)
  (hg : ∀ b, b < 256 → ∀ G, CallsA P γ g ([] ++ [.int .i64 ((b : Nat) : Int)] ++ cap) (H ++ G) fun er H' => er = .ret (az8 (name b)) ∧ H' = H ++ G) :
  CallsA P γ f [.func (.func g) [] cap] H fun er H' => er = .ret (aa1 (clsN name) (af0 name 256).length) ∧ H' = H := by
 refine hb.calls (by simp) fun hok => ?_
 unfold ar9
 repeat' first | (with_reducible first | apply qa | apply qb | apply qc | apply qd | apply qe | apply qf | apply qg | apply qh | apply qi | apply qj | apply qk | apply ql | apply qm | apply qn | apply qo | apply qp | apply qq | apply qr | apply qs | apply qt | apply qu | exact aa8 | exact aa7) | (with_reducible refine aa0 ?_ ?_; decide) | ((with_reducible refine ab0 ?_); exact rfl) | ((with_reducible first | apply qv | apply qw | apply qx); focus (simp (disch := omega) only [go_sem, simprocAttr]; with_reducible first | exact ac1 | exact ac2)) | ((with_reducible first | apply qy | apply qz); focus (simp (disch := omega) only [go_sem, simprocAttr]; done)) | ((with_reducible first | apply q26 | apply q27 | apply q28); focus (simp (disch := omega) only [go_sem, simprocAttr]; first | with_reducible exact rfl | (rw [if_pos (by first | omega | (constructor <;> omega) | (simp; done) | assumption)]; first | with_reducible exact rfl | (try simp (disch := omega) only [go_sem, simprocAttr]; with_reducible exact rfl))))
 refine au0 (ι := Nat) (fun b => b ≤ 256) (fun b => 256 - b) (fun b => [(0, .func (.func g) [] cap), (2, .ptr H.length 257 0 0), (3, .ptr (H.length + 1) 257 0 0), (4, .map (H.length + 2)), (9, .int .i64 b)])
  (fun b => H ++ [some (.row 257 [aa1 (fun _ => 0) 0]), some (.row 257 [aa1 (fun i => if i < b then clsN name i else 0) (af0 name b).length]), some (.map (mapE (af0 name b) 0))]) 0 (by omega) ?_ ?_ ?_ ?_ ?_
 ·(repeat' (first | exact trivial | refine And.intro (And.intro ?_ ?_) ?_)) <;> first | exact rfl | (simp (disch := omega) only [go_sem, simprocAttr, ap7 (Nat.le_add_right _ 3) cap hcap, EV.ok, aa4, aa5, ab2, okL, decide_eq_true_eq, EV.int.injEq]; done) | (simp (disch := omega) only [go_sem, simprocAttr, ap7 (Nat.le_add_right _ 3) cap hcap, EV.ok, aa4, aa5, ab2, okL, decide_eq_true_eq, EV.int.injEq] <;> first | exact rfl | omega)
 ·simp [aa1, af0, mapE]
 ·exact fun i _ => bn2 hok (by simp only [okG, ee4, Bool.and_true, Bool.and_eq_true]; simp [EB.ok, okL, aa1, EV.ok, aa4, ab2])
 ·simp
 ·intro b hb8 K Q' hK hQ'
  repeat' first | (with_reducible first | apply qa | apply qb | apply qc | apply qd | apply qe | apply qf | apply qg | apply qh | apply qi | apply qj | apply qk | apply ql | apply qm | apply qn | apply qo | apply qp | apply qq | apply qr | apply qs | apply qt | apply qu | exact aa8 | exact aa7) | (with_reducible refine aa0 ?_ ?_; decide) | ((with_reducible refine ab0 ?_); exact rfl) | ((with_reducible first | apply qv | apply qw | apply qx); focus (simp (disch := omega) only [go_sem, simprocAttr]; with_reducible first | exact ac1 | exact ac2)) | ((with_reducible first | apply qy | apply qz); focus (simp (disch := omega) only [go_sem, simprocAttr]; done)) | ((with_reducible first | apply q26 | apply q27 | apply q28); focus (simp (disch := omega) only [go_sem, simprocAttr]; first | with_reducible exact rfl | (rw [if_pos (by first | omega | (constructor <;> omega) | (simp; done) | assumption)]; first | with_reducible exact rfl | (try simp (disch := omega) only [go_sem, simprocAttr]; with_reducible exact rfl))))
  refine au1 (t := decide ((b : Int) < 256)) (by simp (disch := omega) only [go_sem, simprocAttr]) (fun ht => ?_) (fun ht => ?_)
  ·have hbl : b < 256 := by have := of_decide_eq_true ht; omega
   have hlen := ce8 name b
   repeat' first | (with_reducible first | apply qa | apply qb | apply qc | apply qd | apply qe | apply qf | apply qg | apply qh | apply qi | apply qj | apply qk | apply ql | apply qm | apply qn | apply qo | apply qp | apply qq | apply qr | apply qs | apply qt | apply qu | exact aa8 | exact aa7) | (with_reducible refine aa0 ?_ ?_; decide) | ((with_reducible refine ab0 ?_); exact rfl) | ((with_reducible first | apply qv | apply qw | apply qx); focus (simp (disch := omega) only [go_sem, simprocAttr]; with_reducible first | exact ac1 | exact ac2)) | ((with_reducible first | apply qy | apply qz); focus (simp (disch := omega) only [go_sem, simprocAttr]; done)) | ((with_reducible first | apply q26 | apply q27 | apply q28); focus (simp (disch := omega) only [go_sem, simprocAttr]; first | with_reducible exact rfl | (rw [if_pos (by first | omega | (constructor <;> omega) | (simp; done) | assumption)]; first | with_reducible exact rfl | (try simp (disch := omega) only [go_sem, simprocAttr]; with_reducible exact rfl))))
   with_reducible apply am4
   ·first | exact rfl | (simp (disch := omega) only [go_sem, simprocAttr]; exact rfl)
   ·(simp (disch := omega) only [go_sem, simprocAttr]; exact rfl)
   ·exact hg b hbl _
   by_cases hm : name b ∈ af0 name b
   ·have hs : af0 name (b + 1) = af0 name b := by simp [af0, hm]
    have hc : clsN name b = (af0 name b).idxOf (name b) := by rw [clsN, hs]
    repeat' first | (with_reducible first | apply qa | apply qb | apply qc | apply qd | apply qe | apply qf | apply qg | apply qh | apply qi | apply qj | apply qk | apply ql | apply qm | apply qn | apply qo | apply qp | apply qq | apply qr | apply qs | apply qt | apply qu | exact aa8 | exact aa7) | (with_reducible refine aa0 ?_ ?_; decide) | ((with_reducible refine ab0 ?_); exact rfl) | ((with_reducible first | apply qv | apply qw | apply qx); focus (simp (disch := omega) only [go_sem, simprocAttr, an7, ah1, af9, ar7, hm, aa1]; with_reducible first | exact ac1 | exact ac2)) | ((with_reducible first | apply qy | apply qz); focus (simp (disch := omega) only [go_sem, simprocAttr, an7, ah1, af9, ar7, hm, aa1]; done)) | ((with_reducible first | apply q26 | apply q27 | apply q28); focus (simp (disch := omega) only [go_sem, simprocAttr, an7, ah1, af9, ar7, hm, aa1]; first | with_reducible exact rfl | (rw [if_pos (by first | omega | (constructor <;> omega) | (simp; done) | assumption)]; first | with_reducible exact rfl | (try simp (disch := omega) only [go_sem, simprocAttr, an7, ah1, af9, ar7, hm, aa1]; with_reducible exact rfl))))
    refine hK (b + 1) _ _ [] (by omega) (by omega) ?_ ?_
    ·have e := ez8 (κ := .u8) (a := clsN name) (b := fun _ => 0) (i := b)
     rw [hc] at e
     simp only [aa1, e, hs, List.append_nil, Int.natCast_zero]
    ·(repeat' (first | exact trivial | refine And.intro (And.intro ?_ ?_) ?_)) <;> first | exact rfl | (simp (disch := omega) only [go_sem, simprocAttr, ap7 (Nat.le_add_right _ 3) cap hcap, EV.ok, aa4, aa5, ab2, okL, decide_eq_true_eq, EV.int.injEq]; done) | (simp (disch := omega) only [go_sem, simprocAttr, ap7 (Nat.le_add_right _ 3) cap hcap, EV.ok, aa4, aa5, ab2, okL, decide_eq_true_eq, EV.int.injEq] <;> first | exact rfl | omega)
   ·have hs : af0 name (b + 1) = af0 name b ++ [name b] := by simp [af0, hm]
    have hc : clsN name b = (af0 name b).length := by rw [clsN, hs]; simp [List.idxOf_append, hm]
    repeat' first | (with_reducible first | apply qa | apply qb | apply qc | apply qd | apply qe | apply qf | apply qg | apply qh | apply qi | apply qj | apply qk | apply ql | apply qm | apply qn | apply qo | apply qp | apply qq | apply qr | apply qs | apply qt | apply qu | exact aa8 | exact aa7) | (with_reducible refine aa0 ?_ ?_; decide) | ((with_reducible refine ab0 ?_); exact rfl) | ((with_reducible first | apply qv | apply qw | apply qx); focus (simp (disch := omega) only [go_sem, simprocAttr, an7, ah1, af9, ar7, hm, aa1]; with_reducible first | exact ac1 | exact ac2)) | ((with_reducible first | apply qy | apply qz); focus (simp (disch := omega) only [go_sem, simprocAttr, an7, ah1, af9, ar7, hm, aa1]; done)) | ((with_reducible first | apply q26 | apply q27 | apply q28); focus (simp (disch := omega) only [go_sem, simprocAttr, an7, ah1, af9, ar7, hm, aa1]; first | with_reducible exact rfl | (rw [if_pos (by first | omega | (constructor <;> omega) | (simp; done) | assumption)]; first | with_reducible exact rfl | (try simp (disch := omega) only [go_sem, simprocAttr, an7, ah1, af9, ar7, hm, aa1]; with_reducible exact rfl))))
    with_reducible apply am4
    ·first | exact rfl | (simp (disch := omega) only [go_sem, simprocAttr]; exact rfl)
    ·(simp (disch := omega) only [go_sem, simprocAttr]; exact rfl)
    ·exact hg b hbl _
    repeat' first | (with_reducible first | apply qa | apply qb | apply qc | apply qd | apply qe | apply qf | apply qg | apply qh | apply qi | apply qj | apply qk | apply ql | apply qm | apply qn | apply qo | apply qp | apply qq | apply qr | apply qs | apply qt | apply qu | exact aa8 | exact aa7) | (with_reducible refine aa0 ?_ ?_; decide) | ((with_reducible refine ab0 ?_); exact rfl) | ((with_reducible first | apply qv | apply qw | apply qx); focus (simp (disch := omega) only [go_sem, simprocAttr, ba3, ah1, af9, bm8 hm, hm, aa1]; with_reducible first | exact ac1 | exact ac2)) | ((with_reducible first | apply qy | apply qz); focus (simp (disch := omega) only [go_sem, simprocAttr, ba3, ah1, af9, bm8 hm, hm, aa1]; done)) | ((with_reducible first | apply q26 | apply q27 | apply q28); focus (simp (disch := omega) only [go_sem, simprocAttr, ba3, ah1, af9, bm8 hm, hm, aa1]; first | with_reducible exact rfl | (rw [if_pos (by first | omega | (constructor <;> omega) | (simp; done) | assumption)]; first | with_reducible exact rfl | (try simp (disch := omega) only [go_sem, simprocAttr, ba3, ah1, af9, bm8 hm, hm, aa1]; with_reducible exact rfl))))
    refine hK (b + 1) _ _ [] (by omega) (by omega) ?_ ?_
    ·have e := ez8 (κ := .u8) (a := clsN name) (b := fun _ => 0) (i := b)
     rw [hc] at e
     simp only [aa1, e, hs, List.append_nil, Int.natCast_zero, dl2, List.length_append, List.length_cons, List.length_nil, Nat.zero_add, Int.natCast_add, Int.natCast_one]
    ·(repeat' (first | exact trivial | refine And.intro (And.intro ?_ ?_) ?_)) <;> first | exact rfl | (simp (disch := omega) only [go_sem, simprocAttr, ap7 (Nat.le_add_right _ 3) cap hcap, EV.ok, aa4, aa5, ab2, okL, decide_eq_true_eq, EV.int.injEq]; done) | (simp (disch := omega) only [go_sem, simprocAttr, ap7 (Nat.le_add_right _ 3) cap hcap, EV.ok, aa4, aa5, ab2, okL, decide_eq_true_eq, EV.int.injEq] <;> first | exact rfl | omega)
  ·have hi4 : b = 256 := by have := of_decide_eq_false ht; omega
   subst hi4
   repeat' first | (with_reducible first | apply qa | apply qb | apply qc | apply qd | apply qe | apply qf | apply qg | apply qh | apply qi | apply qj | apply qk | apply ql | apply qm | apply qn | apply qo | apply qp | apply qq | apply qr | apply qs | apply qt | apply qu | exact aa8 | exact aa7) | (with_reducible refine aa0 ?_ ?_; decide) | ((with_reducible refine ab0 ?_); exact rfl) | ((with_reducible first | apply qv | apply qw | apply qx); focus (simp (disch := omega) only [go_sem, simprocAttr]; with_reducible first | exact ac1 | exact ac2)) | ((with_reducible first | apply qy | apply qz); focus (simp (disch := omega) only [go_sem, simprocAttr]; done)) | ((with_reducible first | apply q26 | apply q27 | apply q28); focus (simp (disch := omega) only [go_sem, simprocAttr]; first | with_reducible exact rfl | (rw [if_pos (by first | omega | (constructor <;> omega) | (simp; done) | assumption)]; first | with_reducible exact rfl | (try simp (disch := omega) only [go_sem, simprocAttr]; with_reducible exact rfl))))
   refine hQ' _ _ _ ?_
   repeat' first | (with_reducible first | apply qa | apply qb | apply qc | apply qd | apply qe | apply qf | apply qg | apply qh | apply qi | apply qj | apply qk | apply ql | apply qm | apply qn | apply qo | apply qp | apply qq | apply qr | apply qs | apply qt | apply qu | exact aa8 | exact aa7) | (with_reducible refine aa0 ?_ ?_; decide) | ((with_reducible refine ab0 ?_); exact rfl) | ((with_reducible first | apply qv | apply qw | apply qx); focus (simp (disch := omega) only [go_sem, simprocAttr, aa1]; with_reducible first | exact ac1 | exact ac2)) | ((with_reducible first | apply qy | apply qz); focus (simp (disch := omega) only [go_sem, simprocAttr, aa1]; done)) | ((with_reducible first | apply q26 | apply q27 | apply q28); focus (simp (disch := omega) only [go_sem, simprocAttr, aa1]; first | with_reducible exact rfl | (rw [if_pos (by first | omega | (constructor <;> omega) | (simp; done) | assumption)]; first | with_reducible exact rfl | (try simp (disch := omega) only [go_sem, simprocAttr, aa1]; with_reducible exact rfl))))
   refine aj1 hok (r := aa1 (clsN name) (af0 name 256).length) ?_ ?_ ⟨rfl, rfl⟩
   ·first | (simp (disch := omega) only [go_sem, simprocAttr, ab1, ae1, aj2, ai7, aa1]; done) | (simp (disch := omega) only [go_sem, simprocAttr, ab1, ae1, aj2, ai7, aa1]; with_reducible exact rfl) | exact rfl
   ·first | (simp [EV.ok, okL, aa4, aa5, ab2, aa1]; done)
end
open Gn
set_option maxRecDepth 20000
section
variable {P : Program} {γ : Nat → EV}
def hasN (x : Nat → Nat) (of : Nat → Nat) (b : Nat) : Nat × Nat := (of b, if ag6 x b then 1 else 0)
set_option maxHeartbeats 4000000 in
theorem dq1 {f fh : FuncId} (hb : Body P f (av3 fh) ah5 21) (hh : db3 P γ fh .u8) {H : Heap} {p q : Nat} {x of : Nat → Nat} {n : Int} (hp : H[p]? = some (some (.row 4 [setE x])))
  (hq : H[q]? = some (some (.row 257 [aa1 of n]))) (hx : av8 x) {b : Nat} (hof : of b < 256) (hb8 : b < 256) :
  CallsA P γ f [.int .i64 b, .ptr p 4 0 0, .ptr q 257 0 0] H fun er H' => er = .ret (az8 (hasN x of b)) ∧ H' = H := by
 refine hb.calls (by simp) fun hok => ?_
 unfold av3
 repeat' first | (with_reducible first | apply qa | apply qb | apply qc | apply qd | apply qe | apply qf | apply qg | apply qh | apply qi | apply qj | apply qk | apply ql | apply qm | apply qn | apply qo | apply qp | apply qq | apply qr | apply qs | apply qt | apply qu | exact aa8 | exact aa7) | (with_reducible refine aa0 ?_ ?_; decide) | ((with_reducible refine ab0 ?_); exact rfl) | ((with_reducible first | apply qv | apply qw | apply qx); focus (simp (disch := omega) only [go_sem, simprocAttr, af7 hp, af7 hq, setE, aa1]; with_reducible first | exact ac1 | exact ac2)) | ((with_reducible first | apply qy | apply qz); focus (simp (disch := omega) only [go_sem, simprocAttr, af7 hp, af7 hq, setE, aa1]; done)) | ((with_reducible first | apply q26 | apply q27 | apply q28); focus (simp (disch := omega) only [go_sem, simprocAttr, af7 hp, af7 hq, setE, aa1]; first | with_reducible exact rfl | (rw [if_pos (by first | omega | (constructor <;> omega) | (simp; done) | assumption)]; first | with_reducible exact rfl | (try simp (disch := omega) only [go_sem, simprocAttr, af7 hp, af7 hq, setE, aa1]; with_reducible exact rfl))))
 with_reducible apply am4
 ·first | exact rfl | (simp (disch := omega) only [go_sem, simprocAttr, setE]; exact rfl)
 ·(simp (disch := omega) only [go_sem, simprocAttr, setE]; exact rfl)
 ·exact hh x b _ hx hb8
 cases hs : ag6 x b
 ·repeat' first | (with_reducible first | apply qa | apply qb | apply qc | apply qd | apply qe | apply qf | apply qg | apply qh | apply qi | apply qj | apply qk | apply ql | apply qm | apply qn | apply qo | apply qp | apply qq | apply qr | apply qs | apply qt | apply qu | exact aa8 | exact aa7) | (with_reducible refine aa0 ?_ ?_; decide) | ((with_reducible refine ab0 ?_); exact rfl) | ((with_reducible first | apply qv | apply qw | apply qx); focus (simp (disch := omega) only [go_sem, simprocAttr, hs, af7 hp, af7 hq, setE, aa1]; with_reducible first | exact ac1 | exact ac2)) | ((with_reducible first | apply qy | apply qz); focus (simp (disch := omega) only [go_sem, simprocAttr, hs, af7 hp, af7 hq, setE, aa1]; done)) | ((with_reducible first | apply q26 | apply q27 | apply q28); focus (simp (disch := omega) only [go_sem, simprocAttr, hs, af7 hp, af7 hq, setE, aa1]; first | with_reducible exact rfl | (rw [if_pos (by first | omega | (constructor <;> omega) | (simp; done) | assumption)]; first | with_reducible exact rfl | (try simp (disch := omega) only [go_sem, simprocAttr, hs, af7 hp, af7 hq, setE, aa1]; with_reducible exact rfl))))
  refine aj1 hok (r := az8 (hasN x of b)) ?_ ?_ ⟨rfl, rfl⟩
  ·first | (simp (disch := omega) only [go_sem, simprocAttr, ab1, ae1, aj2, ah5, az8, hasN, hs, Int.natCast_one]; done) | (simp (disch := omega) only [go_sem, simprocAttr, ab1, ae1, aj2, ah5, az8, hasN, hs, Int.natCast_one]; with_reducible exact rfl) | exact rfl
  ·first | (simp [EV.ok, okL, aa4, aa5, ab2, az8, hasN, hs, Int.natCast_one]; done)
 ·repeat' first | (with_reducible first | apply qa | apply qb | apply qc | apply qd | apply qe | apply qf | apply qg | apply qh | apply qi | apply qj | apply qk | apply ql | apply qm | apply qn | apply qo | apply qp | apply qq | apply qr | apply qs | apply qt | apply qu | exact aa8 | exact aa7) | (with_reducible refine aa0 ?_ ?_; decide) | ((with_reducible refine ab0 ?_); exact rfl) | ((with_reducible first | apply qv | apply qw | apply qx); focus (simp (disch := omega) only [go_sem, simprocAttr, hs, af7 hp, af7 hq, setE, aa1]; with_reducible first | exact ac1 | exact ac2)) | ((with_reducible first | apply qy | apply qz); focus (simp (disch := omega) only [go_sem, simprocAttr, hs, af7 hp, af7 hq, setE, aa1]; done)) | ((with_reducible first | apply q26 | apply q27 | apply q28); focus (simp (disch := omega) only [go_sem, simprocAttr, hs, af7 hp, af7 hq, setE, aa1]; first | with_reducible exact rfl | (rw [if_pos (by first | omega | (constructor <;> omega) | (simp; done) | assumption)]; first | with_reducible exact rfl | (try simp (disch := omega) only [go_sem, simprocAttr, hs, af7 hp, af7 hq, setE, aa1]; with_reducible exact rfl))))
  refine aj1 hok (r := az8 (hasN x of b)) ?_ ?_ ⟨rfl, rfl⟩
  ·first | (simp (disch := omega) only [go_sem, simprocAttr, ab1, ae1, aj2, ah5, az8, hasN, hs, Int.natCast_one]; done) | (simp (disch := omega) only [go_sem, simprocAttr, ab1, ae1, aj2, ah5, az8, hasN, hs, Int.natCast_one]; with_reducible exact rfl) | exact rfl
  ·first | (simp [EV.ok, okL, aa4, aa5, ab2, az8, hasN, hs, Int.natCast_one]; done)
structure cs8 (sz : Nat) (v : EV) (es : List EV) : Prop where
 len : bd7 false v = some es.length
 elem : ∀ (i : Nat) (e : EV), es[i]? = some e → ar2 sz (i : Int) v = some (.iptr e.cells 0)
 ok : v.ok 0 = true
theorem fe8 (name : Nat → Nat × Nat) (b : Nat) : clsN name b < b + 1 := by
 have h1 := ce8 name (b + 1)
 have h2 : name b ∈ af0 name (b + 1) := by
  simp only [af0]
  split
  ·assumption
  ·simp
 have h3 := List.idxOf_lt_length_of_mem h2
 unfold clsN
 omega
def ap6 (p : (Nat → Nat) × Nat) (x : Nat → Nat) : (Nat → Nat) × Nat := (clsN (hasN x p.1), (af0 (hasN x p.1) 256).length)
def af1 (xs : List (Nat → Nat)) : (Nat → Nat) × Nat := xs.foldl ap6 (fun _ => 0, 1)
theorem cq1 (xs : List (Nat → Nat)) (b : Nat) (hb : b < 256) : (af1 xs).1 b < 256 := by
 have : ∀ (xs : List (Nat → Nat)) (p : (Nat → Nat) × Nat), p.1 b < 256 → (xs.foldl ap6 p).1 b < 256 := by
  intro xs
  induction xs with
  | nil => intro p h; exact h
  | cons x xs ih =>
   intro p h
   rw [List.foldl_cons]
   refine ih _ ?_
   have := fe8 (hasN x p.1) b
   simp only [ap6]
   omega
 exact this xs _ (by simp)
set_option maxHeartbeats 4000000 in
theorem eb3 {f fc fr fh : FuncId} (hb : Body P f (bq3 fc fr) ay7 19) (hc : Body P fc (av3 fh) ah5 21) (hr : Body P fr ar9 ai7 40) (hh : db3 P γ fh .u8)
  {v : EV} {xs : List (Nat → Nat)} (hv : cs8 4 v (xs.map setE)) (hx : ∀ x ∈ xs, av8 x) (hlen : xs.length ≤ 9223372036854775807) (H : Heap) :
  CallsA P γ f [v] H fun er H' => er = .ret (aa1 (af1 xs).1 (af1 xs).2) ∧ H' = H := by
 refine hb.calls (by simp) fun hok => ?_
 have hvl := hv.len
 rw [List.length_map] at hvl
 have hvok : ∀ n, v.ok n = true := fun n => EV.ok_mono (Nat.zero_le n) v hv.ok
 unfold bq3
 repeat' first | (with_reducible first | apply qa | apply qb | apply qc | apply qd | apply qe | apply qf | apply qg | apply qh | apply qi | apply qj | apply qk | apply ql | apply qm | apply qn | apply qo | apply qp | apply qq | apply qr | apply qs | apply qt | apply qu | exact aa8 | exact aa7) | (with_reducible refine aa0 ?_ ?_; decide) | ((with_reducible refine ab0 ?_); exact rfl) | ((with_reducible first | apply qv | apply qw | apply qx); focus (simp (disch := omega) only [go_sem, simprocAttr, hvl]; with_reducible first | exact ac1 | exact ac2)) | ((with_reducible first | apply qy | apply qz); focus (simp (disch := omega) only [go_sem, simprocAttr, hvl]; done)) | ((with_reducible first | apply q26 | apply q27 | apply q28); focus (simp (disch := omega) only [go_sem, simprocAttr, hvl]; first | with_reducible exact rfl | (rw [if_pos (by first | omega | (constructor <;> omega) | (simp; done) | assumption)]; first | with_reducible exact rfl | (try simp (disch := omega) only [go_sem, simprocAttr, hvl]; with_reducible exact rfl))))
 refine au0 (ι := Nat) (fun i => i ≤ xs.length) (fun i => xs.length - i) (fun i => [(2, .ptr H.length 257 0 0), (3, .ptr (H.length + 1) 257 0 0), (8, v), (9, .int .i64 xs.length), (10, .int .i64 i)])
  (fun i => H ++ [some (.row 257 [aa1 (fun _ => 0) 0]), some (.row 257 [aa1 (af1 (xs.take i)).1 (af1 (xs.take i)).2])]) 0 (by omega) ?_ ?_ ?_ ?_ ?_
 ·(repeat' (first | exact trivial | refine And.intro (And.intro ?_ ?_) ?_)) <;> first | exact rfl | (simp (disch := omega) only [go_sem, simprocAttr, hvok, EV.ok, aa4, aa5, ab2, okL, decide_eq_true_eq, EV.int.injEq]; done) | (simp (disch := omega) only [go_sem, simprocAttr, hvok, EV.ok, aa4, aa5, ab2, okL, decide_eq_true_eq, EV.int.injEq] <;> first | exact rfl | omega)
 ·simp [aa1, af1]
 ·exact fun i _ => bn2 hok (by simp [EB.ok, okG, okL, aa1, EV.ok, aa4, ab2])
 ·simp
 ·intro i hi K Q' hK hQ'
  repeat' first | (with_reducible first | apply qa | apply qb | apply qc | apply qd | apply qe | apply qf | apply qg | apply qh | apply qi | apply qj | apply qk | apply ql | apply qm | apply qn | apply qo | apply qp | apply qq | apply qr | apply qs | apply qt | apply qu | exact aa8 | exact aa7) | (with_reducible refine aa0 ?_ ?_; decide) | ((with_reducible refine ab0 ?_); exact rfl) | ((with_reducible first | apply qv | apply qw | apply qx); focus (simp (disch := omega) only [go_sem, simprocAttr]; with_reducible first | exact ac1 | exact ac2)) | ((with_reducible first | apply qy | apply qz); focus (simp (disch := omega) only [go_sem, simprocAttr]; done)) | ((with_reducible first | apply q26 | apply q27 | apply q28); focus (simp (disch := omega) only [go_sem, simprocAttr]; first | with_reducible exact rfl | (rw [if_pos (by first | omega | (constructor <;> omega) | (simp; done) | assumption)]; first | with_reducible exact rfl | (try simp (disch := omega) only [go_sem, simprocAttr]; with_reducible exact rfl))))
  refine au1 (t := decide ((i : Int) < xs.length)) (by simp (disch := omega) only [go_sem, simprocAttr]) (fun ht => ?_) (fun ht => ?_)
  ·have hil : i < xs.length := by have := of_decide_eq_true ht; omega
   obtain ⟨x, hxi⟩ : ∃ x, xs[i]? = some x := ⟨xs[i], by simp [hil]⟩
   have hw := hx x (List.mem_of_getElem? hxi)
   have hel := hv.elem i (setE x) (by rw [List.getElem?_map, hxi]; rfl)
   repeat' first | (with_reducible first | apply qa | apply qb | apply qc | apply qd | apply qe | apply qf | apply qg | apply qh | apply qi | apply qj | apply qk | apply ql | apply qm | apply qn | apply qo | apply qp | apply qq | apply qr | apply qs | apply qt | apply qu | exact aa8 | exact aa7) | (with_reducible refine aa0 ?_ ?_; decide) | ((with_reducible refine ab0 ?_); exact rfl) | ((with_reducible first | apply qv | apply qw | apply qx); focus (simp (disch := omega) only [go_sem, simprocAttr, hel, setE, aa1]; with_reducible first | exact ac1 | exact ac2)) | ((with_reducible first | apply qy | apply qz); focus (simp (disch := omega) only [go_sem, simprocAttr, hel, setE, aa1]; done)) | ((with_reducible first | apply q26 | apply q27 | apply q28); focus (simp (disch := omega) only [go_sem, simprocAttr, hel, setE, aa1]; first | with_reducible exact rfl | (rw [if_pos (by first | omega | (constructor <;> omega) | (simp; done) | assumption)]; first | with_reducible exact rfl | (try simp (disch := omega) only [go_sem, simprocAttr, hel, setE, aa1]; with_reducible exact rfl))))
   with_reducible apply am4
   ·first | exact rfl | (simp (disch := omega) only [go_sem, simprocAttr]; exact rfl)
   ·(simp (disch := omega) only [go_sem, simprocAttr]; exact rfl)
   ·exact cm5 (hasN x (af1 (xs.take i)).1) hr (by simp [okL, EV.ok]) fun b hb8 G => dq1 (x := x) (of := (af1 (xs.take i)).1) (n := (af1 (xs.take i)).2) hc hh (af7 (by rw [cs4]; rfl)) (af7 (by rw [cs4]; rfl)) hw (cq1 _ b hb8) hb8
   repeat' first | (with_reducible first | apply qa | apply qb | apply qc | apply qd | apply qe | apply qf | apply qg | apply qh | apply qi | apply qj | apply qk | apply ql | apply qm | apply qn | apply qo | apply qp | apply qq | apply qr | apply qs | apply qt | apply qu | exact aa8 | exact aa7) | (with_reducible refine aa0 ?_ ?_; decide) | ((with_reducible refine ab0 ?_); exact rfl) | ((with_reducible first | apply qv | apply qw | apply qx); focus (simp (disch := omega) only [go_sem, simprocAttr, aa1]; with_reducible first | exact ac1 | exact ac2)) | ((with_reducible first | apply qy | apply qz); focus (simp (disch := omega) only [go_sem, simprocAttr, aa1]; done)) | ((with_reducible first | apply q26 | apply q27 | apply q28); focus (simp (disch := omega) only [go_sem, simprocAttr, aa1]; first | with_reducible exact rfl | (rw [if_pos (by first | omega | (constructor <;> omega) | (simp; done) | assumption)]; first | with_reducible exact rfl | (try simp (disch := omega) only [go_sem, simprocAttr, aa1]; with_reducible exact rfl))))
   have e : af1 (xs.take (i + 1)) = ap6 (af1 (xs.take i)) x := by rw [List.take_add_one, hxi]; simp [af1, List.foldl_append]
   refine hK (i + 1) _ _ [some (.row 4 [setE x]), some (.row 257 [aa1 (af1 (xs.take i)).1 (af1 (xs.take i)).2])] (by omega) (by omega) ?_ ?_
   ·rw [e]
    simp only [ap6, aa1, setE, List.append_assoc, List.cons_append, List.nil_append, Int.natCast_zero]
   ·(repeat' (first | exact trivial | refine And.intro (And.intro ?_ ?_) ?_)) <;> first | exact rfl | (simp (disch := omega) only [go_sem, simprocAttr, hvok, EV.ok, aa4, aa5, ab2, okL, decide_eq_true_eq, EV.int.injEq]; done) | (simp (disch := omega) only [go_sem, simprocAttr, hvok, EV.ok, aa4, aa5, ab2, okL, decide_eq_true_eq, EV.int.injEq] <;> first | exact rfl | omega)
  ·have hi4 : i = xs.length := by have := of_decide_eq_false ht; omega
   subst hi4
   repeat' first | (with_reducible first | apply qa | apply qb | apply qc | apply qd | apply qe | apply qf | apply qg | apply qh | apply qi | apply qj | apply qk | apply ql | apply qm | apply qn | apply qo | apply qp | apply qq | apply qr | apply qs | apply qt | apply qu | exact aa8 | exact aa7) | (with_reducible refine aa0 ?_ ?_; decide) | ((with_reducible refine ab0 ?_); exact rfl) | ((with_reducible first | apply qv | apply qw | apply qx); focus (simp (disch := omega) only [go_sem, simprocAttr]; with_reducible first | exact ac1 | exact ac2)) | ((with_reducible first | apply qy | apply qz); focus (simp (disch := omega) only [go_sem, simprocAttr]; done)) | ((with_reducible first | apply q26 | apply q27 | apply q28); focus (simp (disch := omega) only [go_sem, simprocAttr]; first | with_reducible exact rfl | (rw [if_pos (by first | omega | (constructor <;> omega) | (simp; done) | assumption)]; first | with_reducible exact rfl | (try simp (disch := omega) only [go_sem, simprocAttr]; with_reducible exact rfl))))
   refine hQ' _ _ _ ?_
   repeat' first | (with_reducible first | apply qa | apply qb | apply qc | apply qd | apply qe | apply qf | apply qg | apply qh | apply qi | apply qj | apply qk | apply ql | apply qm | apply qn | apply qo | apply qp | apply qq | apply qr | apply qs | apply qt | apply qu | exact aa8 | exact aa7) | (with_reducible refine aa0 ?_ ?_; decide) | ((with_reducible refine ab0 ?_); exact rfl) | ((with_reducible first | apply qv | apply qw | apply qx); focus (simp (disch := omega) only [go_sem, simprocAttr, aa1]; with_reducible first | exact ac1 | exact ac2)) | ((with_reducible first | apply qy | apply qz); focus (simp (disch := omega) only [go_sem, simprocAttr, aa1]; done)) | ((with_reducible first | apply q26 | apply q27 | apply q28); focus (simp (disch := omega) only [go_sem, simprocAttr, aa1]; first | with_reducible exact rfl | (rw [if_pos (by first | omega | (constructor <;> omega) | (simp; done) | assumption)]; first | with_reducible exact rfl | (try simp (disch := omega) only [go_sem, simprocAttr, aa1]; with_reducible exact rfl))))
   refine aj1 hok (r := aa1 (af1 xs).1 (af1 xs).2) ?_ ?_ ⟨rfl, rfl⟩
   ·first | (simp (disch := omega) only [go_sem, simprocAttr, ab1, ae1, aj2, ay7, aa1, List.take_length]; done) | (simp (disch := omega) only [go_sem, simprocAttr, ab1, ae1, aj2, ay7, aa1, List.take_length]; with_reducible exact rfl) | exact rfl
   ·first | (simp [EV.ok, okL, aa4, aa5, ab2, aa1, List.take_length]; done)
end
open Gn
set_option maxRecDepth 20000
section
variable {P : Program} {γ : Nat → EV}
def mayN (of : Nat → Nat) : Nat → Option Nat
 | 0 => some 0
 | b + 1 =>
  match mayN of b with
  | none => none
  | some n => if n < of b then none else if of b = n then some (n + 1) else some n
def mayC (of : Nat → Nat) (n : Int) : Bool :=
 match mayN of 256 with
 | none => false
 | some m => n == (m : Int)
end
open Gn
set_option maxRecDepth 20000
section
variable {P : Program} {γ : Nat → EV}
def ea8 (lo hi : Nat) (i : Nat) : Bool := decide (lo ≤ i) && decide (i ≤ hi)
end
open Gn
set_option maxRecDepth 20000
def fa1 (name : Nat → Nat × Nat) (n : Nat) : List (Nat × Nat) := (List.range n).foldl (fun l b => if l.contains (name b) then l else l ++ [name b]) []
theorem dy8 (name : Nat → Nat × Nat) : ∀ n, af0 name n = fa1 name n
 | 0 => rfl
 | n + 1 => by
  have ih := dy8 name n
  simp only [af0, fa1, List.range_succ, List.foldl_append, List.foldl_cons, List.foldl_nil]
  rw [ih]
  unfold fa1
  simp only [List.contains_iff_mem]
theorem bz7 (name : Nat → Nat × Nat) (n : Nat) : ∀ m, n ≤ m → ∃ l, af0 name m = af0 name n ++ l
 | m, h => by
  induction m with
  | zero => obtain rfl : n = 0 := by omega
            exact ⟨[], by simp⟩
  | succ m ih =>
   by_cases e : n = m + 1
   ·subst e; exact ⟨[], by simp⟩
   ·obtain ⟨l, hl⟩ := ih (by omega)
    simp only [af0]
    split
    ·exact ⟨l, hl⟩
    ·exact ⟨l ++ [name m], by rw [hl, List.append_assoc]⟩
theorem bb7 (name : Nat → Nat × Nat) {b n : Nat} (h : b < n) : name b ∈ af0 name n := by
 have h2 : name b ∈ af0 name (b + 1) := by
  simp only [af0]
  split
  ·assumption
  ·simp
 obtain ⟨l, hl⟩ := bz7 name (b + 1) n (by omega)
 rw [hl]
 exact List.mem_append_left _ h2
theorem az3 (name : Nat → Nat × Nat) {b n : Nat} (h : b < n) : clsN name b = (af0 name n).idxOf (name b) := by
 have h2 := bb7 name (show b < b + 1 by omega)
 obtain ⟨l, hl⟩ := bz7 name (b + 1) n (by omega)
 rw [hl, List.idxOf_append, if_pos h2]
 rfl
def g1 (b : Nat) : Nat × Nat := (0, if ea8 97 99 b then 1 else 0)
def g2 (b : Nat) : Nat × Nat := (if ea8 97 99 b then 1 else 0, if ea8 98 98 b then 1 else 0)
open Gn
set_option maxRecDepth 20000
theorem br7 (name : Nat → Nat × Nat) : ∀ n, (af0 name n).Nodup
 | 0 => List.nodup_nil
 | n + 1 => by
  simp only [af0]
  split
  ·exact br7 name n
  ·rename_i h
   rw [List.nodup_append]
   refine ⟨br7 name n, by simp, ?_⟩
   intro a ha b hb e
   simp at hb
   subst hb e
   exact h ha
theorem cd0 (name : Nat → Nat × Nat) : ∀ n p, p ∈ af0 name n → ∃ b, b < n ∧ name b = p
 | 0, p, h => by simp [af0] at h
 | n + 1, p, h => by
  simp only [af0] at h
  split at h
  ·obtain ⟨b, hb, e⟩ := cd0 name n p h
   exact ⟨b, by omega, e⟩
  ·rcases List.mem_append.1 h with h | h
   ·obtain ⟨b, hb, e⟩ := cd0 name n p h
    exact ⟨b, by omega, e⟩
   ·simp at h
    exact ⟨n, by omega, h.symm⟩
attribute [local irreducible] af0 clsN
theorem ca2 (p : (Nat → Nat) × Nat) (x : Nat → Nat) : (ap6 p x).1 = clsN (hasN x p.1) := rfl
theorem cw3 (p : (Nat → Nat) × Nat) (x : Nat → Nat) : (ap6 p x).2 = (af0 (hasN x p.1) 256).length := rfl
theorem dd9 (xs : List (Nat → Nat)) (a b : Nat) (ha : a < 256) (hb : b < 256) (h : ∀ x ∈ xs, ag6 x a = ag6 x b) : (af1 xs).1 a = (af1 xs).1 b := by
 have : ∀ (xs : List (Nat → Nat)) (p : (Nat → Nat) × Nat), (∀ x ∈ xs, ag6 x a = ag6 x b) → p.1 a = p.1 b → (xs.foldl ap6 p).1 a = (xs.foldl ap6 p).1 b := by
  intro xs
  induction xs with
  | nil => intro p _ h; exact h
  | cons x xs ih =>
   intro p hx h
   rw [List.foldl_cons]
   refine ih _ (fun y hy => hx y (by simp [hy])) ?_
   have e : hasN x p.1 a = hasN x p.1 b := by simp only [hasN, h, hx x (by simp)]
   simp only [ap6]
   rw [az3 _ ha, az3 _ hb, e]
 exact this xs _ h rfl
end Abs

namespace Abs
open Go Gn
set_option maxRecDepth 20000
section
variable {P : Program} {γ : Nat → EV}
def al7 (of : Nat → Nat) (b : Nat) : Nat × Nat := (of b, 0)
def ax2 (of : Nat → Nat) (n : Int) : Bool := cj6 256 (fun i => ((of i : Nat) : Int)) (fun i => ((clsN (al7 of) i : Nat) : Int)) && (n == ((af0 (al7 of) 256).length : Int))
set_option maxHeartbeats 4000000 in
theorem ed8 {f : FuncId} (hb : Body P f ay8 ap2 10) {H : Heap} {q : Nat} {of : Nat → Nat} {n : Int}
  (hq : H[q]? = some (some (.row 257 [aa1 of n]))) {b : Nat} (hof : of b < 256) (hb8 : b < 256) :
  CallsA P γ f [.int .i64 b, .ptr q 257 0 0] H fun er H' => er = .ret (az8 (al7 of b)) ∧ H' = H := by
 refine hb.calls (by simp) fun hok => ?_
 unfold ay8
 repeat' first | (with_reducible first | apply qa | apply qb | apply qc | apply qd | apply qe | apply qf | apply qg | apply qh | apply qi | apply qj | apply qk | apply ql | apply qm | apply qn | apply qo | apply qp | apply qq | apply qr | apply qs | apply qt | apply qu | exact aa8 | exact aa7) | (with_reducible refine aa0 ?_ ?_; decide) | ((with_reducible refine ab0 ?_); exact rfl) | ((with_reducible first | apply qv | apply qw | apply qx); focus (simp (disch := omega) only [go_sem, simprocAttr, af7 hq, aa1]; with_reducible first | exact ac1 | exact ac2)) | ((with_reducible first | apply qy | apply qz); focus (simp (disch := omega) only [go_sem, simprocAttr, af7 hq, aa1]; done)) | ((with_reducible first | apply q26 | apply q27 | apply q28); focus (simp (disch := omega) only [go_sem, simprocAttr, af7 hq, aa1]; first | with_reducible exact rfl | (rw [if_pos (by first | omega | (constructor <;> omega) | (simp; done) | assumption)]; first | with_reducible exact rfl | (try simp (disch := omega) only [go_sem, simprocAttr, af7 hq, aa1]; with_reducible exact rfl))))
 refine aj1 hok (r := az8 (al7 of b)) ?_ ?_ ⟨rfl, rfl⟩
 ·first | (simp (disch := omega) only [go_sem, simprocAttr, ab1, ae1, aj2, ap2, az8, al7, Int.natCast_zero]; done) | (simp (disch := omega) only [go_sem, simprocAttr, ab1, ae1, aj2, ap2, az8, al7, Int.natCast_zero]; with_reducible exact rfl) | exact rfl
 ·first | (simp [EV.ok, okL, aa4, aa5, ab2, az8, al7, Int.natCast_zero]; done)
set_option maxHeartbeats 4000000 in
theorem fj0 {f fc fr : FuncId} (hb : Body P f (bx3 fc fr) be2 7) (hc : Body P fc ay8 ap2 10) (hr : Body P fr ar9 ai7 40) (of : Nat → Nat) (n : Int) (hof : ∀ b, b < 256 → of b < 256) (H : Heap) :
  CallsA P γ f [aa1 of n] H fun er H' => er = .ret (.bool (ax2 of n)) ∧ H' = H := by
 refine hb.calls (by simp) fun hok => ?_
 unfold bx3
 repeat' first | (with_reducible first | apply qa | apply qb | apply qc | apply qd | apply qe | apply qf | apply qg | apply qh | apply qi | apply qj | apply qk | apply ql | apply qm | apply qn | apply qo | apply qp | apply qq | apply qr | apply qs | apply qt | apply qu | exact aa8 | exact aa7) | (with_reducible refine aa0 ?_ ?_; decide) | ((with_reducible refine ab0 ?_); exact rfl) | ((with_reducible first | apply qv | apply qw | apply qx); focus (simp (disch := omega) only [go_sem, simprocAttr, aa1]; with_reducible first | exact ac1 | exact ac2)) | ((with_reducible first | apply qy | apply qz); focus (simp (disch := omega) only [go_sem, simprocAttr, aa1]; done)) | ((with_reducible first | apply q26 | apply q27 | apply q28); focus (simp (disch := omega) only [go_sem, simprocAttr, aa1]; first | with_reducible exact rfl | (rw [if_pos (by first | omega | (constructor <;> omega) | (simp; done) | assumption)]; first | with_reducible exact rfl | (try simp (disch := omega) only [go_sem, simprocAttr, aa1]; with_reducible exact rfl))))
 with_reducible apply be4
 ·first | exact rfl | (simp (disch := omega) only [go_sem, simprocAttr, aa1]; exact rfl)
 ·(simp (disch := omega) only [go_sem, simprocAttr, aa1]; exact rfl)
 ·exact cm5 (al7 of) hr (by simp [okL, EV.ok]) fun b hb8 G => ed8 (of := of) (n := n) hc (af7 (by rw [dn9]; rfl)) (hof b hb8) hb8
 ·exact fun _ => rfl
 repeat' first | (with_reducible first | apply qa | apply qb | apply qc | apply qd | apply qe | apply qf | apply qg | apply qh | apply qi | apply qj | apply qk | apply ql | apply qm | apply qn | apply qo | apply qp | apply qq | apply qr | apply qs | apply qt | apply qu | exact aa8 | exact aa7) | (with_reducible refine aa0 ?_ ?_; decide) | ((with_reducible refine ab0 ?_); exact rfl) | ((with_reducible first | apply qv | apply qw | apply qx); focus (simp (disch := omega) only [go_sem, simprocAttr, aa1]; with_reducible first | exact ac1 | exact ac2)) | ((with_reducible first | apply qy | apply qz); focus (simp (disch := omega) only [go_sem, simprocAttr, aa1]; done)) | ((with_reducible first | apply q26 | apply q27 | apply q28); focus (simp (disch := omega) only [go_sem, simprocAttr, aa1]; first | with_reducible exact rfl | (rw [if_pos (by first | omega | (constructor <;> omega) | (simp; done) | assumption)]; first | with_reducible exact rfl | (try simp (disch := omega) only [go_sem, simprocAttr, aa1]; with_reducible exact rfl))))
 refine aj1 hok (r := .bool (ax2 of n)) ?_ ?_ ⟨rfl, rfl⟩
 ·first | (simp (disch := omega) only [go_sem, simprocAttr, ab1, ae1, aj2, be2, ax2]; done) | (simp (disch := omega) only [go_sem, simprocAttr, ab1, ae1, aj2, be2, ax2]; with_reducible exact rfl) | exact rfl
 ·first | (simp [EV.ok, okL, aa4, aa5, ab2, ax2]; done)
end
open Gn
set_option maxRecDepth 20000
section
variable {P : Program} {γ : Nat → EV}
def aw0 (xs : List (Nat → Nat)) (a b : Nat) : Bool := xs.all fun x => ag6 x a == ag6 x b
set_option maxHeartbeats 4000000 in
theorem ew4 {f fh : FuncId} (hb : Body P f (ar8 fh) af6 27) (hh : db3 P γ fh .i64) {v : EV} {xs : List (Nat → Nat)} (hv : cs8 4 v (xs.map setE)) (hx : ∀ x ∈ xs, av8 x)
  (hlen : xs.length ≤ 9223372036854775807) (a b : Nat) (ha : a < 256) (hb8 : b < 256) (H : Heap) :
  CallsA P γ f [v, .int .i64 a, .int .i64 b] H fun er H' => er = .ret (.bool (aw0 xs a b)) ∧ H' = H := by
 refine hb.calls (by simp) fun hok => ?_
 have hvl := hv.len
 rw [List.length_map] at hvl
 have hvok : ∀ n, v.ok n = true := fun n => EV.ok_mono (Nat.zero_le n) v hv.ok
 unfold ar8
 repeat' first | (with_reducible first | apply qa | apply qb | apply qc | apply qd | apply qe | apply qf | apply qg | apply qh | apply qi | apply qj | apply qk | apply ql | apply qm | apply qn | apply qo | apply qp | apply qq | apply qr | apply qs | apply qt | apply qu | exact aa8 | exact aa7) | (with_reducible refine aa0 ?_ ?_; decide) | ((with_reducible refine ab0 ?_); exact rfl) | ((with_reducible first | apply qv | apply qw | apply qx); focus (simp (disch := omega) only [go_sem, simprocAttr]; with_reducible first | exact ac1 | exact ac2)) | ((with_reducible first | apply qy | apply qz); focus (simp (disch := omega) only [go_sem, simprocAttr]; done)) | ((with_reducible first | apply q26 | apply q27 | apply q28); focus (simp (disch := omega) only [go_sem, simprocAttr]; first | with_reducible exact rfl | (rw [if_pos (by first | omega | (constructor <;> omega) | (simp; done) | assumption)]; first | with_reducible exact rfl | (try simp (disch := omega) only [go_sem, simprocAttr]; with_reducible exact rfl))))
 refine au0 (ι := Nat) (fun i => i ≤ xs.length ∧ ∀ j x, j < i → xs[j]? = some x → ag6 x a = ag6 x b) (fun i => xs.length - i) (fun i => [(0, v), (1, .int .i64 a), (2, .int .i64 b), (7, .int .i64 i)])
  (fun _ => H) 0 (by constructor; omega; intro j x h; omega) ?_ ?_ ?_ ?_ ?_
 ·(repeat' (first | exact trivial | refine And.intro (And.intro ?_ ?_) ?_)) <;> first | exact rfl | (simp (disch := omega) only [go_sem, simprocAttr, hvok, EV.ok, aa4, aa5, ab2, okL, decide_eq_true_eq, EV.int.injEq]; done) | (simp (disch := omega) only [go_sem, simprocAttr, hvok, EV.ok, aa4, aa5, ab2, okL, decide_eq_true_eq, EV.int.injEq] <;> first | exact rfl | omega)
 ·rfl
 ·exact fun i _ => hok
 ·simp
 ·rintro i ⟨hi, hall⟩ K Q' hK hQ'
  repeat' first | (with_reducible first | apply qa | apply qb | apply qc | apply qd | apply qe | apply qf | apply qg | apply qh | apply qi | apply qj | apply qk | apply ql | apply qm | apply qn | apply qo | apply qp | apply qq | apply qr | apply qs | apply qt | apply qu | exact aa8 | exact aa7) | (with_reducible refine aa0 ?_ ?_; decide) | ((with_reducible refine ab0 ?_); exact rfl) | ((with_reducible first | apply qv | apply qw | apply qx); focus (simp (disch := omega) only [go_sem, simprocAttr, hvl]; with_reducible first | exact ac1 | exact ac2)) | ((with_reducible first | apply qy | apply qz); focus (simp (disch := omega) only [go_sem, simprocAttr, hvl]; done)) | ((with_reducible first | apply q26 | apply q27 | apply q28); focus (simp (disch := omega) only [go_sem, simprocAttr, hvl]; first | with_reducible exact rfl | (rw [if_pos (by first | omega | (constructor <;> omega) | (simp; done) | assumption)]; first | with_reducible exact rfl | (try simp (disch := omega) only [go_sem, simprocAttr, hvl]; with_reducible exact rfl))))
  refine au1 (t := decide ((i : Int) < xs.length)) (by simp (disch := omega) only [go_sem, simprocAttr]) (fun ht => ?_) (fun ht => ?_)
  ·have hil : i < xs.length := by have := of_decide_eq_true ht; omega
   obtain ⟨x, hxi⟩ : ∃ x, xs[i]? = some x := ⟨xs[i], by simp [hil]⟩
   have hxm := List.mem_of_getElem? hxi
   have hw := hx x hxm
   have hel := hv.elem i (setE x) (by rw [List.getElem?_map, hxi]; rfl)
   repeat' first | (with_reducible first | apply qa | apply qb | apply qc | apply qd | apply qe | apply qf | apply qg | apply qh | apply qi | apply qj | apply qk | apply ql | apply qm | apply qn | apply qo | apply qp | apply qq | apply qr | apply qs | apply qt | apply qu | exact aa8 | exact aa7) | (with_reducible refine aa0 ?_ ?_; decide) | ((with_reducible refine ab0 ?_); exact rfl) | ((with_reducible first | apply qv | apply qw | apply qx); focus (simp (disch := omega) only [go_sem, simprocAttr, hel, setE]; with_reducible first | exact ac1 | exact ac2)) | ((with_reducible first | apply qy | apply qz); focus (simp (disch := omega) only [go_sem, simprocAttr, hel, setE]; done)) | ((with_reducible first | apply q26 | apply q27 | apply q28); focus (simp (disch := omega) only [go_sem, simprocAttr, hel, setE]; first | with_reducible exact rfl | (rw [if_pos (by first | omega | (constructor <;> omega) | (simp; done) | assumption)]; first | with_reducible exact rfl | (try simp (disch := omega) only [go_sem, simprocAttr, hel, setE]; with_reducible exact rfl))))
   with_reducible apply be4
   ·first | exact rfl | (simp (disch := omega) only [go_sem, simprocAttr, setE]; exact rfl)
   ·(simp (disch := omega) only [go_sem, simprocAttr, setE]; exact rfl)
   ·exact hh x a _ hw ha
   ·exact fun _ => rfl
   repeat' first | (with_reducible first | apply qa | apply qb | apply qc | apply qd | apply qe | apply qf | apply qg | apply qh | apply qi | apply qj | apply qk | apply ql | apply qm | apply qn | apply qo | apply qp | apply qq | apply qr | apply qs | apply qt | apply qu | exact aa8 | exact aa7) | (with_reducible refine aa0 ?_ ?_; decide) | ((with_reducible refine ab0 ?_); exact rfl) | ((with_reducible first | apply qv | apply qw | apply qx); focus (simp (disch := omega) only [go_sem, simprocAttr, hel, setE]; with_reducible first | exact ac1 | exact ac2)) | ((with_reducible first | apply qy | apply qz); focus (simp (disch := omega) only [go_sem, simprocAttr, hel, setE]; done)) | ((with_reducible first | apply q26 | apply q27 | apply q28); focus (simp (disch := omega) only [go_sem, simprocAttr, hel, setE]; first | with_reducible exact rfl | (rw [if_pos (by first | omega | (constructor <;> omega) | (simp; done) | assumption)]; first | with_reducible exact rfl | (try simp (disch := omega) only [go_sem, simprocAttr, hel, setE]; with_reducible exact rfl))))
   with_reducible apply be4
   ·first | exact rfl | (simp (disch := omega) only [go_sem, simprocAttr, setE]; exact rfl)
   ·(simp (disch := omega) only [go_sem, simprocAttr, setE]; exact rfl)
   ·exact hh x b _ hw hb8
   ·exact fun _ => rfl
   repeat' first | (with_reducible first | apply qa | apply qb | apply qc | apply qd | apply qe | apply qf | apply qg | apply qh | apply qi | apply qj | apply qk | apply ql | apply qm | apply qn | apply qo | apply qp | apply qq | apply qr | apply qs | apply qt | apply qu | exact aa8 | exact aa7) | (with_reducible refine aa0 ?_ ?_; decide) | ((with_reducible refine ab0 ?_); exact rfl) | ((with_reducible first | apply qv | apply qw | apply qx); focus (simp (disch := omega) only [go_sem, simprocAttr, hel, setE]; with_reducible first | exact ac1 | exact ac2)) | ((with_reducible first | apply qy | apply qz); focus (simp (disch := omega) only [go_sem, simprocAttr, hel, setE]; done)) | ((with_reducible first | apply q26 | apply q27 | apply q28); focus (simp (disch := omega) only [go_sem, simprocAttr, hel, setE]; first | with_reducible exact rfl | (rw [if_pos (by first | omega | (constructor <;> omega) | (simp; done) | assumption)]; first | with_reducible exact rfl | (try simp (disch := omega) only [go_sem, simprocAttr, hel, setE]; with_reducible exact rfl))))
   cases he : ag6 x a == ag6 x b
   ·repeat' first | (with_reducible first | apply qa | apply qb | apply qc | apply qd | apply qe | apply qf | apply qg | apply qh | apply qi | apply qj | apply qk | apply ql | apply qm | apply qn | apply qo | apply qp | apply qq | apply qr | apply qs | apply qt | apply qu | exact aa8 | exact aa7) | (with_reducible refine aa0 ?_ ?_; decide) | ((with_reducible refine ab0 ?_); exact rfl) | ((with_reducible first | apply qv | apply qw | apply qx); focus (simp (disch := omega) only [go_sem, simprocAttr, he]; with_reducible first | exact ac1 | exact ac2)) | ((with_reducible first | apply qy | apply qz); focus (simp (disch := omega) only [go_sem, simprocAttr, he]; done)) | ((with_reducible first | apply q26 | apply q27 | apply q28); focus (simp (disch := omega) only [go_sem, simprocAttr, he]; first | with_reducible exact rfl | (rw [if_pos (by first | omega | (constructor <;> omega) | (simp; done) | assumption)]; first | with_reducible exact rfl | (try simp (disch := omega) only [go_sem, simprocAttr, he]; with_reducible exact rfl))))
    refine hQ' _ _ _ ?_
    repeat' first | (with_reducible first | apply qa | apply qb | apply qc | apply qd | apply qe | apply qf | apply qg | apply qh | apply qi | apply qj | apply qk | apply ql | apply qm | apply qn | apply qo | apply qp | apply qq | apply qr | apply qs | apply qt | apply qu | exact aa8 | exact aa7) | (with_reducible refine aa0 ?_ ?_; decide) | ((with_reducible refine ab0 ?_); exact rfl) | ((with_reducible first | apply qv | apply qw | apply qx); focus (simp (disch := omega) only [go_sem, simprocAttr]; with_reducible first | exact ac1 | exact ac2)) | ((with_reducible first | apply qy | apply qz); focus (simp (disch := omega) only [go_sem, simprocAttr]; done)) | ((with_reducible first | apply q26 | apply q27 | apply q28); focus (simp (disch := omega) only [go_sem, simprocAttr]; first | with_reducible exact rfl | (rw [if_pos (by first | omega | (constructor <;> omega) | (simp; done) | assumption)]; first | with_reducible exact rfl | (try simp (disch := omega) only [go_sem, simprocAttr]; with_reducible exact rfl))))
    have h4 : aw0 xs a b = false := by
     unfold aw0
     rw [List.all_eq_false]
     exact ⟨x, hxm, by simp [he]⟩
    refine bw6 hok (r := .bool (aw0 xs a b)) ?_ ?_ ⟨rfl, rfl⟩
    ·first | (simp (disch := omega) only [go_sem, simprocAttr, ab1, ae1, aj2, af6, h4]; done) | (simp (disch := omega) only [go_sem, simprocAttr, ab1, ae1, aj2, af6, h4]; with_reducible exact rfl) | exact rfl
    ·first | (simp [EV.ok, okL, aa4, aa5, ab2, h4]; done)
   ·repeat' first | (with_reducible first | apply qa | apply qb | apply qc | apply qd | apply qe | apply qf | apply qg | apply qh | apply qi | apply qj | apply qk | apply ql | apply qm | apply qn | apply qo | apply qp | apply qq | apply qr | apply qs | apply qt | apply qu | exact aa8 | exact aa7) | (with_reducible refine aa0 ?_ ?_; decide) | ((with_reducible refine ab0 ?_); exact rfl) | ((with_reducible first | apply qv | apply qw | apply qx); focus (simp (disch := omega) only [go_sem, simprocAttr, he]; with_reducible first | exact ac1 | exact ac2)) | ((with_reducible first | apply qy | apply qz); focus (simp (disch := omega) only [go_sem, simprocAttr, he]; done)) | ((with_reducible first | apply q26 | apply q27 | apply q28); focus (simp (disch := omega) only [go_sem, simprocAttr, he]; first | with_reducible exact rfl | (rw [if_pos (by first | omega | (constructor <;> omega) | (simp; done) | assumption)]; first | with_reducible exact rfl | (try simp (disch := omega) only [go_sem, simprocAttr, he]; with_reducible exact rfl))))
    refine hK (i + 1) _ _ [] ⟨by omega, fun j y hj hy => ?_⟩ (by omega) (by simp) ?_
    ·by_cases e : j = i
     ·subst e; rw [hxi] at hy; simp at hy; subst hy; simpa using he
     ·exact hall j y (by omega) hy
    ·(repeat' (first | exact trivial | refine And.intro (And.intro ?_ ?_) ?_)) <;> first | exact rfl | (simp (disch := omega) only [go_sem, simprocAttr, hvok, EV.ok, aa4, aa5, ab2, okL, decide_eq_true_eq, EV.int.injEq]; done) | (simp (disch := omega) only [go_sem, simprocAttr, hvok, EV.ok, aa4, aa5, ab2, okL, decide_eq_true_eq, EV.int.injEq] <;> first | exact rfl | omega)
  ·have hi4 : i = xs.length := by have := of_decide_eq_false ht; omega
   repeat' first | (with_reducible first | apply qa | apply qb | apply qc | apply qd | apply qe | apply qf | apply qg | apply qh | apply qi | apply qj | apply qk | apply ql | apply qm | apply qn | apply qo | apply qp | apply qq | apply qr | apply qs | apply qt | apply qu | exact aa8 | exact aa7) | (with_reducible refine aa0 ?_ ?_; decide) | ((with_reducible refine ab0 ?_); exact rfl) | ((with_reducible first | apply qv | apply qw | apply qx); focus (simp (disch := omega) only [go_sem, simprocAttr]; with_reducible first | exact ac1 | exact ac2)) | ((with_reducible first | apply qy | apply qz); focus (simp (disch := omega) only [go_sem, simprocAttr]; done)) | ((with_reducible first | apply q26 | apply q27 | apply q28); focus (simp (disch := omega) only [go_sem, simprocAttr]; first | with_reducible exact rfl | (rw [if_pos (by first | omega | (constructor <;> omega) | (simp; done) | assumption)]; first | with_reducible exact rfl | (try simp (disch := omega) only [go_sem, simprocAttr]; with_reducible exact rfl))))
   refine hQ' _ _ _ ?_
   repeat' first | (with_reducible first | apply qa | apply qb | apply qc | apply qd | apply qe | apply qf | apply qg | apply qh | apply qi | apply qj | apply qk | apply ql | apply qm | apply qn | apply qo | apply qp | apply qq | apply qr | apply qs | apply qt | apply qu | exact aa8 | exact aa7) | (with_reducible refine aa0 ?_ ?_; decide) | ((with_reducible refine ab0 ?_); exact rfl) | ((with_reducible first | apply qv | apply qw | apply qx); focus (simp (disch := omega) only [go_sem, simprocAttr]; with_reducible first | exact ac1 | exact ac2)) | ((with_reducible first | apply qy | apply qz); focus (simp (disch := omega) only [go_sem, simprocAttr]; done)) | ((with_reducible first | apply q26 | apply q27 | apply q28); focus (simp (disch := omega) only [go_sem, simprocAttr]; first | with_reducible exact rfl | (rw [if_pos (by first | omega | (constructor <;> omega) | (simp; done) | assumption)]; first | with_reducible exact rfl | (try simp (disch := omega) only [go_sem, simprocAttr]; with_reducible exact rfl))))
   have h4 : aw0 xs a b = true := by
    unfold aw0
    rw [List.all_eq_true]
    intro x hxm
    obtain ⟨j, hj⟩ := List.mem_iff_getElem?.1 hxm
    simpa using hall j x (by have := aa9 hj; omega) hj
   refine bw6 hok (r := .bool (aw0 xs a b)) ?_ ?_ ⟨rfl, rfl⟩
   ·first | (simp (disch := omega) only [go_sem, simprocAttr, ab1, ae1, aj2, af6, h4]; done) | (simp (disch := omega) only [go_sem, simprocAttr, ab1, ae1, aj2, af6, h4]; with_reducible exact rfl) | exact rfl
   ·first | (simp [EV.ok, okL, aa4, aa5, ab2, h4]; done)
end
open Gn
set_option maxRecDepth 20000
theorem bm4 (name : Nat → Nat × Nat) (n : Nat) (p : Nat × Nat) : p ∈ af0 name n ↔ ∃ b, b < n ∧ name b = p :=
 ⟨cd0 name n p, by rintro ⟨b, hb, rfl⟩; exact bb7 name hb⟩
theorem cu9 {f g : Nat → Nat × Nat} {N : Nat} (h : ∀ a b, a < N → b < N → (f a = f b ↔ g a = g b)) :
  ∀ n, n ≤ N → (af0 f n).length = (af0 g n).length ∧ ∀ i, i < n → (af0 f n).idxOf (f i) = (af0 g n).idxOf (g i)
 | 0, _ => ⟨rfl, fun i hi => by omega⟩
 | n + 1, hn => by
  obtain ⟨h1, h2⟩ := cu9 h n (by omega)
  have h3 : f n ∈ af0 f n ↔ g n ∈ af0 g n := by
   rw [bm4, bm4]
   exact ⟨fun ⟨b, hb, e⟩ => ⟨b, hb, (h b n (by omega) (by omega)).1 e⟩, fun ⟨b, hb, e⟩ => ⟨b, hb, (h b n (by omega) (by omega)).2 e⟩⟩
  simp only [af0]
  by_cases e : f n ∈ af0 f n
  ·rw [if_pos e, if_pos (h3.1 e)]
   refine ⟨h1, fun i hi => ?_⟩
   by_cases ei : i = n
   ·subst ei
    obtain ⟨b, hb, eb⟩ := (bm4 f i _).1 e
    have := h2 b hb
    rw [eb, (h b i (by omega) (by omega)).1 eb] at this
    exact this
   ·exact h2 i (by omega)
  ·rw [if_neg e, if_neg fun hg => e (h3.2 hg)]
   refine ⟨by simp [h1], fun i hi => ?_⟩
   rw [List.idxOf_append, List.idxOf_append]
   by_cases ei : i = n
   ·subst ei
    rw [if_neg e, if_neg fun hg => e (h3.2 hg), h1]
    simp
   ·rw [if_pos (bb7 f (by omega)), if_pos (bb7 g (by omega))]
    exact h2 i (by omega)
theorem dn3 {name : Nat → Nat × Nat} {a b N : Nat} (ha : a < N) (hb : b < N) (h : clsN name a = clsN name b) : name a = name b := by
 rw [az3 name ha, az3 name hb] at h
 have h1 := bb7 name ha
 have h2 := bb7 name hb
 have e1 := List.getElem_idxOf (List.idxOf_lt_length_of_mem h1)
 have e2 := List.getElem_idxOf (List.idxOf_lt_length_of_mem h2)
 rw [← e1, ← e2]
 congr 1
theorem dn4 {name : Nat → Nat × Nat} {a b N : Nat} (ha : a < N) (hb : b < N) : clsN name a = clsN name b ↔ name a = name b :=
 ⟨dn3 ha hb, fun h => by rw [az3 name ha, az3 name hb, h]⟩
theorem nameN_iff {of : Nat → Nat} {a b : Nat} : al7 of a = al7 of b ↔ of a = of b := by simp [al7]
theorem cl4 : af0 (al7 fun _ => 0) 256 = [(0, 0)] := by
 rw [dy8]
 decide +kernel
theorem ek8 (b : Nat) (hb : b < 256) : clsN (al7 fun _ => 0) b = 0 := by
 rw [az3 _ hb, cl4]
 rfl
attribute [local irreducible] af0 clsN
theorem el2 (g : Nat → Nat × Nat) : (af0 (al7 (clsN g)) 256).length = (af0 g 256).length ∧ ∀ i, i < 256 → clsN (al7 (clsN g)) i = clsN g i := by
 have h := cu9 (f := al7 (clsN g)) (g := g) (N := 256) (fun a b ha hb => nameN_iff.trans (dn4 ha hb)) 256 (by omega)
 refine ⟨h.1, fun i hi => ?_⟩
 have := h.2 i hi
 rw [az3 _ hi, az3 g hi, this]
def dv8 (p : (Nat → Nat) × Nat) : Prop := p.2 = (af0 (al7 p.1) 256).length ∧ ∀ i, i < 256 → clsN (al7 p.1) i = p.1 i
theorem du9 (p : (Nat → Nat) × Nat) (x : Nat → Nat) : dv8 (ap6 p x) := by
 have h := el2 (hasN x p.1)
 unfold dv8
 rw [ca2, cw3]
 exact ⟨h.1.symm, h.2⟩
theorem aq6 (xs : List (Nat → Nat)) : dv8 (af1 xs) := by
 have : ∀ (xs : List (Nat → Nat)) (p : (Nat → Nat) × Nat), dv8 p → dv8 (xs.foldl ap6 p) := by
  intro xs
  induction xs with
  | nil => intro p h; exact h
  | cons x xs ih => intro p _; rw [List.foldl_cons]; exact ih _ (du9 p x)
 refine this xs _ ⟨?_, ek8⟩
 show 1 = (af0 (al7 fun _ => 0) 256).length
 rw [cl4]
 rfl
theorem dv7 {xs : List (Nat → Nat)} {a b : Nat} : aw0 xs a b = true ↔ ∀ x ∈ xs, ag6 x a = ag6 x b := by
 simp [aw0, List.all_eq_true]
theorem bu2 (xs : List (Nat → Nat)) {a b : Nat} (ha : a < 256) (hb : b < 256) : (af1 xs).1 a = (af1 xs).1 b ↔ aw0 xs a b = true := by
 rw [dv7]
 refine ⟨?_, dd9 xs a b ha hb⟩
 have : ∀ (xs : List (Nat → Nat)) (p : (Nat → Nat) × Nat), (xs.foldl ap6 p).1 a = (xs.foldl ap6 p).1 b → p.1 a = p.1 b ∧ ∀ x ∈ xs, ag6 x a = ag6 x b := by
  intro xs
  induction xs with
  | nil => intro p h; exact ⟨h, by simp⟩
  | cons x xs ih =>
   intro p h
   rw [List.foldl_cons] at h
   obtain ⟨h1, h2⟩ := ih _ h
   rw [ca2] at h1
   have h3 := dn3 ha hb h1
   simp only [hasN, Prod.mk.injEq] at h3
   refine ⟨h3.1, fun y hy => ?_⟩
   rcases List.mem_cons.1 hy with rfl | hy
   ·have h4 := h3.2
    cases e1 : ag6 y a <;> cases e2 : ag6 y b <;> simp [e1, e2] at h4 ⊢
   ·exact h2 y hy
 exact fun h => (this xs _ h).2
theorem eb7 (xs : List (Nat → Nat)) : ax2 (af1 xs).1 (af1 xs).2 = true := by
 obtain ⟨h1, h2⟩ := aq6 xs
 unfold ax2
 rw [Bool.and_eq_true, bp5]
 refine ⟨fun i hi => by rw [h2 i hi], ?_⟩
 rw [h1]
 simp
def cntN (of : Nat → Nat) (b : Nat) : Nat := (af0 (al7 of) b).length
theorem bj4 (of : Nat → Nat) : cntN of 0 = 0 := by unfold cntN; rw [af0]; rfl
theorem fe6 (of : Nat → Nat) (b : Nat) : cntN of b ≤ b := ce8 _ b
theorem bf6 {of : Nat → Nat} {a b : Nat} (h : a < b) (e : of a = of b) : cntN of (b + 1) = cntN of b := by
 unfold cntN
 rw [af0, if_pos ((bm4 _ _ _).2 ⟨a, h, nameN_iff.2 e⟩)]
theorem bf7 {of : Nat → Nat} {b : Nat} (h : ∀ a, a < b → ¬ of a = of b) : cntN of (b + 1) = cntN of b + 1 ∧ clsN (al7 of) b = cntN of b := by
 have h1 : ¬ al7 of b ∈ af0 (al7 of) b := fun hm => by
  obtain ⟨a, ha, e⟩ := (bm4 _ _ _).1 hm
  exact h a ha (nameN_iff.1 e)
 have h2 : af0 (al7 of) (b + 1) = af0 (al7 of) b ++ [al7 of b] := by rw [af0, if_neg h1]
 refine ⟨by unfold cntN; rw [h2]; simp, ?_⟩
 rw [az3 _ (Nat.lt_succ_self b), h2, List.idxOf_append, if_neg h1]
 simp [cntN]
end Abs

namespace Abs
open Go Gn
set_option maxRecDepth 20000
attribute [local irreducible] cntN clsN
theorem fe7 {of : Nat → Nat} {a b : Nat} (hab : a < b) (e : of a = of b) : clsN (al7 of) a = clsN (al7 of) b :=
 (dn4 (N := b + 1) (by omega) (by omega)).2 (nameN_iff.2 e)
theorem dv0 {of : Nat → Nat} {b : Nat} (hc : ∀ i, i < b → of i = clsN (al7 of) i) {k : Nat} (hk : k < cntN of b) : ∃ a, a < b ∧ of a = k := by
 have hk' : k < (af0 (al7 of) b).length := by unfold cntN at hk; exact hk
 obtain ⟨a, ha, e⟩ := cd0 (al7 of) b (af0 (al7 of) b)[k] (List.getElem_mem hk')
 refine ⟨a, ha, ?_⟩
 rw [hc a ha, az3 _ ha, e]
 exact List.Nodup.idxOf_getElem (br7 (al7 of) b) k hk'
theorem dn5 {of : Nat → Nat} {b : Nat} (hc : ∀ i, i < b → of i = clsN (al7 of) i) {a : Nat} (ha : a < b) : of a < cntN of b := by
 rw [hc a ha, az3 _ ha]
 unfold cntN
 exact List.idxOf_lt_length_of_mem (bb7 (al7 of) ha)
theorem cq4 (of : Nat → Nat) : ∀ (b m : Nat), mayN of b = some m ↔ (∀ i, i < b → of i = clsN (al7 of) i) ∧ m = cntN of b
 | 0, m => by
  simp only [mayN, bj4, Option.some.injEq]
  exact ⟨fun h => ⟨fun i hi => absurd hi (Nat.not_lt_zero i), h.symm⟩, fun h => h.2.symm⟩
 | b + 1, m => by
  have ih := cq4 of b
  simp only [mayN]
  constructor
  ·intro h
   cases hm : mayN of b with
   | none => rw [hm] at h; simp at h
   | some k =>
    rw [hm] at h
    simp only at h
    obtain ⟨hc, rfl⟩ := (ih k).1 hm
    by_cases hgt : cntN of b < of b
    ·rw [if_pos hgt] at h; simp at h
    ·rw [if_neg hgt] at h
     by_cases heq : of b = cntN of b
     ·rw [if_pos heq] at h
      have hnew : ∀ a, a < b → ¬ of a = of b := fun a ha e => by have := dn5 hc ha; omega
      obtain ⟨n1, n2⟩ := bf7 hnew
      refine ⟨fun i hi => ?_, by rw [n1]; simpa using h.symm⟩
      by_cases e : i = b
      ·subst e; rw [n2]; exact heq
      ·exact hc i (by omega)
     ·rw [if_neg heq] at h
      obtain ⟨a, ha, e⟩ := dv0 hc (k := of b) (by omega)
      refine ⟨fun i hi => ?_, by rw [bf6 ha e]; simpa using h.symm⟩
      by_cases e2 : i = b
      ·subst e2; rw [← fe7 ha e, ← hc a ha, e]
      ·exact hc i (by omega)
  ·rintro ⟨hc, rfl⟩
   have hc' : ∀ i, i < b → of i = clsN (al7 of) i := fun i hi => hc i (by omega)
   rw [(ih (cntN of b)).2 ⟨hc', rfl⟩]
   simp only
   by_cases hold : ∃ a, a < b ∧ of a = of b
   ·obtain ⟨a, ha, e⟩ := hold
    have := dn5 hc' ha
    rw [if_neg (by omega), if_neg (by omega), bf6 ha e]
   ·obtain ⟨n1, n2⟩ := bf7 (of := of) (b := b) fun a ha e => hold ⟨a, ha, e⟩
    have hb := hc b (by omega)
    rw [n2] at hb
    rw [if_neg (by omega), if_pos hb, n1]
theorem ed9 (of : Nat → Nat) (n : Int) : ax2 of n = mayC of n := by
 unfold ax2 mayC
 cases hm : mayN of 256 with
 | none =>
  simp only
  rw [Bool.and_eq_false_iff]
  refine .inl ?_
  cases hall : cj6 256 (fun i => ((of i : Nat) : Int)) (fun i => ((clsN (al7 of) i : Nat) : Int)) with
  | false => rfl
  | true =>
   rw [bp5] at hall
   have := (cq4 of 256 (cntN of 256)).2 ⟨fun i hi => by have := hall i hi; omega, rfl⟩
   rw [hm] at this
   simp at this
 | some m =>
  obtain ⟨h1, h2⟩ := (cq4 of 256 m).1 hm
  have hall : cj6 256 (fun i => ((of i : Nat) : Int)) (fun i => ((clsN (al7 of) i : Nat) : Int)) = true := by
   rw [bp5]
   intro i hi
   rw [← h1 i hi]
  rw [hall, Bool.true_and, h2]
  unfold cntN
  rfl
end Abs

namespace Abs
open Go Gn
set_option maxRecDepth 20000
attribute [local irreducible] af0 clsN cntN
def cut (of : Nat → Nat) (m : Nat) (i : Nat) : Nat := if i < m then of i else 0
theorem ek7 {of : Nat → Nat} {b v : Nat} (h : v = of b) : (fun i => EV.int .u8 ((if i = b then v else cut of b i : Nat) : Int)) = fun i => EV.int .u8 ((cut of (b + 1) i : Nat) : Int) := by
 funext i
 subst h
 unfold cut
 by_cases h1 : i = b
 ·subst h1; simp
 ·rw [if_neg h1]
  by_cases h2 : i < b
  ·rw [if_pos h2, if_pos (by omega)]
  ·rw [if_neg h2, if_neg (by omega)]
theorem ey3 {of : Nat → Nat} {m i : Nat} (h : i < m) : cut of m i = of i := if_pos h
section
variable {P : Program} {γ : Nat → EV}
set_option maxHeartbeats 8000000 in
theorem dp6 {f fa : FuncId} (hb : Body P f (as7 fa) al3 44) {v : EV} {xs : List (Nat → Nat)}
  (ha : ∀ (a b : Nat) (H : Heap), a < 256 → b < 256 → CallsA P γ fa [v, .int .i64 a, .int .i64 b] H fun er H' => er = .ret (.bool (aw0 xs a b)) ∧ H' = H) (hvok : ∀ n, v.ok n = true) (H : Heap) :
  CallsA P γ f [v] H fun er H' => er = .ret (aa1 (af1 xs).1 (af1 xs).2) ∧ H' = H := by
 refine hb.calls (by simp) fun hok => ?_
 obtain ⟨of, hof⟩ : ∃ of, of = (af1 xs).1 := ⟨_, rfl⟩
 have hiff : ∀ a b, a < 256 → b < 256 → (of a = of b ↔ aw0 xs a b = true) := fun a b h1 h2 => by rw [hof]; exact bu2 xs h1 h2
 have hlt : ∀ b, b < 256 → of b < 256 := fun b hb => by rw [hof]; exact cq1 xs b hb
 have hcan : dv8 (af1 xs) := aq6 xs
 have hn : (af1 xs).2 = cntN of 256 := by rw [hof]; unfold cntN; exact hcan.1
 have hcl : ∀ b, b < 256 → clsN (al7 of) b = of b := by rw [hof]; exact hcan.2
 rw [← hof, hn]
 clear hcan hn hof
 unfold as7
 repeat' first | (with_reducible first | apply qa | apply qb | apply qc | apply qd | apply qe | apply qf | apply qg | apply qh | apply qi | apply qj | apply qk | apply ql | apply qm | apply qn | apply qo | apply qp | apply qq | apply qr | apply qs | apply qt | apply qu | exact aa8 | exact aa7) | (with_reducible refine aa0 ?_ ?_; decide) | ((with_reducible refine ab0 ?_); exact rfl) | ((with_reducible first | apply qv | apply qw | apply qx); focus (simp (disch := omega) only [go_sem, simprocAttr]; with_reducible first | exact ac1 | exact ac2)) | ((with_reducible first | apply qy | apply qz); focus (simp (disch := omega) only [go_sem, simprocAttr]; done)) | ((with_reducible first | apply q26 | apply q27 | apply q28); focus (simp (disch := omega) only [go_sem, simprocAttr]; first | with_reducible exact rfl | (rw [if_pos (by first | omega | (constructor <;> omega) | (simp; done) | assumption)]; first | with_reducible exact rfl | (try simp (disch := omega) only [go_sem, simprocAttr]; with_reducible exact rfl))))
 refine au0 (ι := Nat) (fun b => b ≤ 256) (fun b => 256 - b) (fun b => [(0, v), (2, .ptr H.length 257 0 0), (3, .ptr (H.length + 1) 257 0 0), (4, .int .i64 b)])
  (fun b => H ++ [some (.row 257 [aa1 (fun _ => 0) 0]), some (.row 257 [aa1 (cut of b) (cntN of b)])]) 0 (by omega) ?_ ?_ ?_ ?_ ?_
 ·(repeat' (first | exact trivial | refine And.intro (And.intro ?_ ?_) ?_)) <;> first | exact rfl | (simp (disch := omega) only [go_sem, simprocAttr, hvok, EV.ok, aa4, aa5, ab2, okL, decide_eq_true_eq, EV.int.injEq]; done) | (simp (disch := omega) only [go_sem, simprocAttr, hvok, EV.ok, aa4, aa5, ab2, okL, decide_eq_true_eq, EV.int.injEq] <;> first | exact rfl | omega)
 ·simp [aa1, bj4, cut]
 ·exact fun i _ => bn2 hok (by simp [EB.ok, okG, okL, aa1, EV.ok, aa4, ab2])
 ·simp
 ·rintro b hb8 K Q' hK hQ'
  repeat' first | (with_reducible first | apply qa | apply qb | apply qc | apply qd | apply qe | apply qf | apply qg | apply qh | apply qi | apply qj | apply qk | apply ql | apply qm | apply qn | apply qo | apply qp | apply qq | apply qr | apply qs | apply qt | apply qu | exact aa8 | exact aa7) | (with_reducible refine aa0 ?_ ?_; decide) | ((with_reducible refine ab0 ?_); exact rfl) | ((with_reducible first | apply qv | apply qw | apply qx); focus (simp (disch := omega) only [go_sem, simprocAttr]; with_reducible first | exact ac1 | exact ac2)) | ((with_reducible first | apply qy | apply qz); focus (simp (disch := omega) only [go_sem, simprocAttr]; done)) | ((with_reducible first | apply q26 | apply q27 | apply q28); focus (simp (disch := omega) only [go_sem, simprocAttr]; first | with_reducible exact rfl | (rw [if_pos (by first | omega | (constructor <;> omega) | (simp; done) | assumption)]; first | with_reducible exact rfl | (try simp (disch := omega) only [go_sem, simprocAttr]; with_reducible exact rfl))))
  refine au1 (t := decide ((b : Int) < 256)) (by simp (disch := omega) only [go_sem, simprocAttr]) (fun ht => ?_) (fun ht => ?_)
  ·have hbl : b < 256 := by have := of_decide_eq_true ht; omega
   have hcb := fe6 of b
   repeat' first | (with_reducible first | apply qa | apply qb | apply qc | apply qd | apply qe | apply qf | apply qg | apply qh | apply qi | apply qj | apply qk | apply ql | apply qm | apply qn | apply qo | apply qp | apply qq | apply qr | apply qs | apply qt | apply qu | exact aa8 | exact aa7) | (with_reducible refine aa0 ?_ ?_; decide) | ((with_reducible refine ab0 ?_); exact rfl) | ((with_reducible first | apply qv | apply qw | apply qx); focus (simp (disch := omega) only [go_sem, simprocAttr]; with_reducible first | exact ac1 | exact ac2)) | ((with_reducible first | apply qy | apply qz); focus (simp (disch := omega) only [go_sem, simprocAttr]; done)) | ((with_reducible first | apply q26 | apply q27 | apply q28); focus (simp (disch := omega) only [go_sem, simprocAttr]; first | with_reducible exact rfl | (rw [if_pos (by first | omega | (constructor <;> omega) | (simp; done) | assumption)]; first | with_reducible exact rfl | (try simp (disch := omega) only [go_sem, simprocAttr]; with_reducible exact rfl))))
   refine au0 (ι := Nat × Bool) (fun p => p.1 ≤ b ∧ (p.2 = false → ∀ a, a < p.1 → ¬ of a = of b) ∧ (p.2 = true → ∃ a, a < b ∧ of a = of b)) (fun p => b - p.1)
    (fun p => [(0, v), (2, .ptr H.length 257 0 0), (3, .ptr (H.length + 1) 257 0 0), (4, .int .i64 b), (5, .bool p.2), (6, .int .i64 p.1)])
    (fun p => H ++ [some (.row 257 [aa1 (fun _ => 0) 0]), some (.row 257 [aa1 (cut of (if p.2 then b + 1 else b)) (cntN of b)])]) (0, false) (by simp) ?_ ?_ ?_ ?_ ?_
   ·(repeat' (first | exact trivial | refine And.intro (And.intro ?_ ?_) ?_)) <;> first | exact rfl | (simp (disch := omega) only [go_sem, simprocAttr, hvok, EV.ok, aa4, aa5, ab2, okL, decide_eq_true_eq, EV.int.injEq]; done) | (simp (disch := omega) only [go_sem, simprocAttr, hvok, EV.ok, aa4, aa5, ab2, okL, decide_eq_true_eq, EV.int.injEq] <;> first | exact rfl | omega)
   ·rfl
   ·exact fun i _ => bn2 hok (by simp [EB.ok, okG, okL, aa1, EV.ok, aa4, ab2])
   ·simp
   ·rintro ⟨a, fd⟩ ⟨ha8, hno, hyes⟩ K2 Q2 hK2 hQ2
    simp only at ha8 hno hyes
    cases hc : decide ((a : Int) < (b : Int))
    ·have hab : a = b := by have := of_decide_eq_false hc; omega
     subst hab
     repeat' first | (with_reducible first | apply qa | apply qb | apply qc | apply qd | apply qe | apply qf | apply qg | apply qh | apply qi | apply qj | apply qk | apply ql | apply qm | apply qn | apply qo | apply qp | apply qq | apply qr | apply qs | apply qt | apply qu | exact aa8 | exact aa7) | (with_reducible refine aa0 ?_ ?_; decide) | ((with_reducible refine ab0 ?_); exact rfl) | ((with_reducible first | apply qv | apply qw | apply qx); focus (simp (disch := omega) only [go_sem, simprocAttr, hc]; with_reducible first | exact ac1 | exact ac2)) | ((with_reducible first | apply qy | apply qz); focus (simp (disch := omega) only [go_sem, simprocAttr, hc]; done)) | ((with_reducible first | apply q26 | apply q27 | apply q28); focus (simp (disch := omega) only [go_sem, simprocAttr, hc]; first | with_reducible exact rfl | (rw [if_pos (by first | omega | (constructor <;> omega) | (simp; done) | assumption)]; first | with_reducible exact rfl | (try simp (disch := omega) only [go_sem, simprocAttr, hc]; with_reducible exact rfl))))
     refine hQ2 _ _ _ ?_
     repeat' first | (with_reducible first | apply qa | apply qb | apply qc | apply qd | apply qe | apply qf | apply qg | apply qh | apply qi | apply qj | apply qk | apply ql | apply qm | apply qn | apply qo | apply qp | apply qq | apply qr | apply qs | apply qt | apply qu | exact aa8 | exact aa7) | (with_reducible refine aa0 ?_ ?_; decide) | ((with_reducible refine ab0 ?_); exact rfl) | ((with_reducible first | apply qv | apply qw | apply qx); focus (simp (disch := omega) only [go_sem, simprocAttr]; with_reducible first | exact ac1 | exact ac2)) | ((with_reducible first | apply qy | apply qz); focus (simp (disch := omega) only [go_sem, simprocAttr]; done)) | ((with_reducible first | apply q26 | apply q27 | apply q28); focus (simp (disch := omega) only [go_sem, simprocAttr]; first | with_reducible exact rfl | (rw [if_pos (by first | omega | (constructor <;> omega) | (simp; done) | assumption)]; first | with_reducible exact rfl | (try simp (disch := omega) only [go_sem, simprocAttr]; with_reducible exact rfl))))
     cases fd
     ·have h5 := bf7 (hno rfl)
      have h6 := hcl a hbl
      repeat' first | (with_reducible first | apply qa | apply qb | apply qc | apply qd | apply qe | apply qf | apply qg | apply qh | apply qi | apply qj | apply qk | apply ql | apply qm | apply qn | apply qo | apply qp | apply qq | apply qr | apply qs | apply qt | apply qu | exact aa8 | exact aa7) | (with_reducible refine aa0 ?_ ?_; decide) | ((with_reducible refine ab0 ?_); exact rfl) | ((with_reducible first | apply qv | apply qw | apply qx); focus (simp (disch := omega) only [go_sem, simprocAttr, aa1]; with_reducible first | exact ac1 | exact ac2)) | ((with_reducible first | apply qy | apply qz); focus (simp (disch := omega) only [go_sem, simprocAttr, aa1]; done)) | ((with_reducible first | apply q26 | apply q27 | apply q28); focus (simp (disch := omega) only [go_sem, simprocAttr, aa1]; first | with_reducible exact rfl | (rw [if_pos (by first | omega | (constructor <;> omega) | (simp; done) | assumption)]; first | with_reducible exact rfl | (try simp (disch := omega) only [go_sem, simprocAttr, aa1]; with_reducible exact rfl))))
      refine hK (a + 1) _ _ [] (by omega) (by omega) ?_ ?_
      ·have e := ek7 (of := of) (b := a) (h5.2.symm.trans h6)
       simp only [aa1, List.append_nil, Int.natCast_zero, h5.1, ← e, Int.natCast_add, Int.natCast_one]
      ·(repeat' (first | exact trivial | refine And.intro (And.intro ?_ ?_) ?_)) <;> first | exact rfl | (simp (disch := omega) only [go_sem, simprocAttr, hvok, EV.ok, aa4, aa5, ab2, okL, decide_eq_true_eq, EV.int.injEq]; done) | (simp (disch := omega) only [go_sem, simprocAttr, hvok, EV.ok, aa4, aa5, ab2, okL, decide_eq_true_eq, EV.int.injEq] <;> first | exact rfl | omega)
     ·obtain ⟨a', h1, h2⟩ := hyes rfl
      repeat' first | (with_reducible first | apply qa | apply qb | apply qc | apply qd | apply qe | apply qf | apply qg | apply qh | apply qi | apply qj | apply qk | apply ql | apply qm | apply qn | apply qo | apply qp | apply qq | apply qr | apply qs | apply qt | apply qu | exact aa8 | exact aa7) | (with_reducible refine aa0 ?_ ?_; decide) | ((with_reducible refine ab0 ?_); exact rfl) | ((with_reducible first | apply qv | apply qw | apply qx); focus (simp (disch := omega) only [go_sem, simprocAttr]; with_reducible first | exact ac1 | exact ac2)) | ((with_reducible first | apply qy | apply qz); focus (simp (disch := omega) only [go_sem, simprocAttr]; done)) | ((with_reducible first | apply q26 | apply q27 | apply q28); focus (simp (disch := omega) only [go_sem, simprocAttr]; first | with_reducible exact rfl | (rw [if_pos (by first | omega | (constructor <;> omega) | (simp; done) | assumption)]; first | with_reducible exact rfl | (try simp (disch := omega) only [go_sem, simprocAttr]; with_reducible exact rfl))))
      refine hK (a + 1) _ _ [] (by omega) (by omega) ?_ ?_
      ·rw [bf6 h1 h2]
       simp only [aa1, List.append_nil, ↓reduceIte, Int.natCast_zero]
      ·(repeat' (first | exact trivial | refine And.intro (And.intro ?_ ?_) ?_)) <;> first | exact rfl | (simp (disch := omega) only [go_sem, simprocAttr, hvok, EV.ok, aa4, aa5, ab2, okL, decide_eq_true_eq, EV.int.injEq]; done) | (simp (disch := omega) only [go_sem, simprocAttr, hvok, EV.ok, aa4, aa5, ab2, okL, decide_eq_true_eq, EV.int.injEq] <;> first | exact rfl | omega)
    ·have hab : a < b := by have := of_decide_eq_true hc; omega
     cases fd
     ·repeat' first | (with_reducible first | apply qa | apply qb | apply qc | apply qd | apply qe | apply qf | apply qg | apply qh | apply qi | apply qj | apply qk | apply ql | apply qm | apply qn | apply qo | apply qp | apply qq | apply qr | apply qs | apply qt | apply qu | exact aa8 | exact aa7) | (with_reducible refine aa0 ?_ ?_; decide) | ((with_reducible refine ab0 ?_); exact rfl) | ((with_reducible first | apply qv | apply qw | apply qx); focus (simp (disch := omega) only [go_sem, simprocAttr, hc]; with_reducible first | exact ac1 | exact ac2)) | ((with_reducible first | apply qy | apply qz); focus (simp (disch := omega) only [go_sem, simprocAttr, hc]; done)) | ((with_reducible first | apply q26 | apply q27 | apply q28); focus (simp (disch := omega) only [go_sem, simprocAttr, hc]; first | with_reducible exact rfl | (rw [if_pos (by first | omega | (constructor <;> omega) | (simp; done) | assumption)]; first | with_reducible exact rfl | (try simp (disch := omega) only [go_sem, simprocAttr, hc]; with_reducible exact rfl))))
      with_reducible apply am4
      ·first | exact rfl | (simp (disch := omega) only [go_sem, simprocAttr]; exact rfl)
      ·(simp (disch := omega) only [go_sem, simprocAttr]; exact rfl)
      ·exact ha a b _ (by omega) hbl
      repeat' first | (with_reducible first | apply qa | apply qb | apply qc | apply qd | apply qe | apply qf | apply qg | apply qh | apply qi | apply qj | apply qk | apply ql | apply qm | apply qn | apply qo | apply qp | apply qq | apply qr | apply qs | apply qt | apply qu | exact aa8 | exact aa7) | (with_reducible refine aa0 ?_ ?_; decide) | ((with_reducible refine ab0 ?_); exact rfl) | ((with_reducible first | apply qv | apply qw | apply qx); focus (simp (disch := omega) only [go_sem, simprocAttr, hc]; with_reducible first | exact ac1 | exact ac2)) | ((with_reducible first | apply qy | apply qz); focus (simp (disch := omega) only [go_sem, simprocAttr, hc]; done)) | ((with_reducible first | apply q26 | apply q27 | apply q28); focus (simp (disch := omega) only [go_sem, simprocAttr, hc]; first | with_reducible exact rfl | (rw [if_pos (by first | omega | (constructor <;> omega) | (simp; done) | assumption)]; first | with_reducible exact rfl | (try simp (disch := omega) only [go_sem, simprocAttr, hc]; with_reducible exact rfl))))
      cases hal : aw0 xs a b
      ·repeat' first | (with_reducible first | apply qa | apply qb | apply qc | apply qd | apply qe | apply qf | apply qg | apply qh | apply qi | apply qj | apply qk | apply ql | apply qm | apply qn | apply qo | apply qp | apply qq | apply qr | apply qs | apply qt | apply qu | exact aa8 | exact aa7) | (with_reducible refine aa0 ?_ ?_; decide) | ((with_reducible refine ab0 ?_); exact rfl) | ((with_reducible first | apply qv | apply qw | apply qx); focus (simp (disch := omega) only [go_sem, simprocAttr, hal]; with_reducible first | exact ac1 | exact ac2)) | ((with_reducible first | apply qy | apply qz); focus (simp (disch := omega) only [go_sem, simprocAttr, hal]; done)) | ((with_reducible first | apply q26 | apply q27 | apply q28); focus (simp (disch := omega) only [go_sem, simprocAttr, hal]; first | with_reducible exact rfl | (rw [if_pos (by first | omega | (constructor <;> omega) | (simp; done) | assumption)]; first | with_reducible exact rfl | (try simp (disch := omega) only [go_sem, simprocAttr, hal]; with_reducible exact rfl))))
       refine hK2 (a + 1, false) _ _ [] ⟨by simp only; omega, fun _ a' ha' => ?_, by simp⟩ (by simp only; omega) (by simp [aa1]) ?_
       ·simp only at ha'
        by_cases e : a' = a
        ·subst e
         intro he
         rw [(hiff a' b (by omega) hbl).1 he] at hal
         simp at hal
        ·exact hno rfl a' (by omega)
       ·(repeat' (first | exact trivial | refine And.intro (And.intro ?_ ?_) ?_)) <;> first | exact rfl | (simp (disch := omega) only [go_sem, simprocAttr, hvok, EV.ok, aa4, aa5, ab2, okL, decide_eq_true_eq, EV.int.injEq]; done) | (simp (disch := omega) only [go_sem, simprocAttr, hvok, EV.ok, aa4, aa5, ab2, okL, decide_eq_true_eq, EV.int.injEq] <;> first | exact rfl | omega)
      ·have he := (hiff a b (by omega) hbl).2 hal
       have hoa := hlt a (by omega)
       repeat' first | (with_reducible first | apply qa | apply qb | apply qc | apply qd | apply qe | apply qf | apply qg | apply qh | apply qi | apply qj | apply qk | apply ql | apply qm | apply qn | apply qo | apply qp | apply qq | apply qr | apply qs | apply qt | apply qu | exact aa8 | exact aa7) | (with_reducible refine aa0 ?_ ?_; decide) | ((with_reducible refine ab0 ?_); exact rfl) | ((with_reducible first | apply qv | apply qw | apply qx); focus (simp (disch := omega) only [go_sem, simprocAttr, hal, aa1]; with_reducible first | exact ac1 | exact ac2)) | ((with_reducible first | apply qy | apply qz); focus (simp (disch := omega) only [go_sem, simprocAttr, hal, aa1]; done)) | ((with_reducible first | apply q26 | apply q27 | apply q28); focus (simp (disch := omega) only [go_sem, simprocAttr, hal, aa1]; first | with_reducible exact rfl | (rw [if_pos (by first | omega | (constructor <;> omega) | (simp; done) | assumption)]; first | with_reducible exact rfl | (try simp (disch := omega) only [go_sem, simprocAttr, hal, aa1]; with_reducible exact rfl))))
       refine hK2 (a + 1, true) _ _ [] ⟨by simp only; omega, by simp, fun _ => ⟨a, hab, he⟩⟩ (by simp only; omega) ?_ ?_
       ·have e := ek7 (of := of) (b := b) (v := of a) he
        simp only [aa1, List.append_nil, ↓reduceIte, Int.natCast_zero, ey3 hab, ← e]
       ·(repeat' (first | exact trivial | refine And.intro (And.intro ?_ ?_) ?_)) <;> first | exact rfl | (simp (disch := omega) only [go_sem, simprocAttr, hvok, EV.ok, aa4, aa5, ab2, okL, decide_eq_true_eq, EV.int.injEq]; done) | (simp (disch := omega) only [go_sem, simprocAttr, hvok, EV.ok, aa4, aa5, ab2, okL, decide_eq_true_eq, EV.int.injEq] <;> first | exact rfl | omega)
     ·repeat' first | (with_reducible first | apply qa | apply qb | apply qc | apply qd | apply qe | apply qf | apply qg | apply qh | apply qi | apply qj | apply qk | apply ql | apply qm | apply qn | apply qo | apply qp | apply qq | apply qr | apply qs | apply qt | apply qu | exact aa8 | exact aa7) | (with_reducible refine aa0 ?_ ?_; decide) | ((with_reducible refine ab0 ?_); exact rfl) | ((with_reducible first | apply qv | apply qw | apply qx); focus (simp (disch := omega) only [go_sem, simprocAttr, hc]; with_reducible first | exact ac1 | exact ac2)) | ((with_reducible first | apply qy | apply qz); focus (simp (disch := omega) only [go_sem, simprocAttr, hc]; done)) | ((with_reducible first | apply q26 | apply q27 | apply q28); focus (simp (disch := omega) only [go_sem, simprocAttr, hc]; first | with_reducible exact rfl | (rw [if_pos (by first | omega | (constructor <;> omega) | (simp; done) | assumption)]; first | with_reducible exact rfl | (try simp (disch := omega) only [go_sem, simprocAttr, hc]; with_reducible exact rfl))))
      refine hQ2 _ _ _ ?_
      repeat' first | (with_reducible first | apply qa | apply qb | apply qc | apply qd | apply qe | apply qf | apply qg | apply qh | apply qi | apply qj | apply qk | apply ql | apply qm | apply qn | apply qo | apply qp | apply qq | apply qr | apply qs | apply qt | apply qu | exact aa8 | exact aa7) | (with_reducible refine aa0 ?_ ?_; decide) | ((with_reducible refine ab0 ?_); exact rfl) | ((with_reducible first | apply qv | apply qw | apply qx); focus (simp (disch := omega) only [go_sem, simprocAttr]; with_reducible first | exact ac1 | exact ac2)) | ((with_reducible first | apply qy | apply qz); focus (simp (disch := omega) only [go_sem, simprocAttr]; done)) | ((with_reducible first | apply q26 | apply q27 | apply q28); focus (simp (disch := omega) only [go_sem, simprocAttr]; first | with_reducible exact rfl | (rw [if_pos (by first | omega | (constructor <;> omega) | (simp; done) | assumption)]; first | with_reducible exact rfl | (try simp (disch := omega) only [go_sem, simprocAttr]; with_reducible exact rfl))))
      obtain ⟨a', h1, h2⟩ := hyes rfl
      refine hK (b + 1) _ _ [] (by omega) (by omega) ?_ ?_
      ·rw [bf6 h1 h2]
       simp only [aa1, List.append_nil, ↓reduceIte, Int.natCast_zero]
      ·(repeat' (first | exact trivial | refine And.intro (And.intro ?_ ?_) ?_)) <;> first | exact rfl | (simp (disch := omega) only [go_sem, simprocAttr, hvok, EV.ok, aa4, aa5, ab2, okL, decide_eq_true_eq, EV.int.injEq]; done) | (simp (disch := omega) only [go_sem, simprocAttr, hvok, EV.ok, aa4, aa5, ab2, okL, decide_eq_true_eq, EV.int.injEq] <;> first | exact rfl | omega)
  ·have hi4 : b = 256 := by have := of_decide_eq_false ht; omega
   subst hi4
   repeat' first | (with_reducible first | apply qa | apply qb | apply qc | apply qd | apply qe | apply qf | apply qg | apply qh | apply qi | apply qj | apply qk | apply ql | apply qm | apply qn | apply qo | apply qp | apply qq | apply qr | apply qs | apply qt | apply qu | exact aa8 | exact aa7) | (with_reducible refine aa0 ?_ ?_; decide) | ((with_reducible refine ab0 ?_); exact rfl) | ((with_reducible first | apply qv | apply qw | apply qx); focus (simp (disch := omega) only [go_sem, simprocAttr]; with_reducible first | exact ac1 | exact ac2)) | ((with_reducible first | apply qy | apply qz); focus (simp (disch := omega) only [go_sem, simprocAttr]; done)) | ((with_reducible first | apply q26 | apply q27 | apply q28); focus (simp (disch := omega) only [go_sem, simprocAttr]; first | with_reducible exact rfl | (rw [if_pos (by first | omega | (constructor <;> omega) | (simp; done) | assumption)]; first | with_reducible exact rfl | (try simp (disch := omega) only [go_sem, simprocAttr]; with_reducible exact rfl))))
   refine hQ' _ _ _ ?_
   have e : aa1 (cut of 256) (cntN of 256) = aa1 of (cntN of 256) := by
    have h : (tab 256 fun i => EV.int .u8 ((cut of 256 i : Nat) : Int)) = tab 256 fun i => EV.int .u8 ((of i : Nat) : Int) := ce6 fun i hi => by rw [ey3 hi]
    unfold aa1
    rw [h]
   rw [e]
   repeat' first | (with_reducible first | apply qa | apply qb | apply qc | apply qd | apply qe | apply qf | apply qg | apply qh | apply qi | apply qj | apply qk | apply ql | apply qm | apply qn | apply qo | apply qp | apply qq | apply qr | apply qs | apply qt | apply qu | exact aa8 | exact aa7) | (with_reducible refine aa0 ?_ ?_; decide) | ((with_reducible refine ab0 ?_); exact rfl) | ((with_reducible first | apply qv | apply qw | apply qx); focus (simp (disch := omega) only [go_sem, simprocAttr, aa1]; with_reducible first | exact ac1 | exact ac2)) | ((with_reducible first | apply qy | apply qz); focus (simp (disch := omega) only [go_sem, simprocAttr, aa1]; done)) | ((with_reducible first | apply q26 | apply q27 | apply q28); focus (simp (disch := omega) only [go_sem, simprocAttr, aa1]; first | with_reducible exact rfl | (rw [if_pos (by first | omega | (constructor <;> omega) | (simp; done) | assumption)]; first | with_reducible exact rfl | (try simp (disch := omega) only [go_sem, simprocAttr, aa1]; with_reducible exact rfl))))
   refine aj1 hok (r := aa1 of (cntN of 256)) ?_ ?_ ⟨rfl, rfl⟩
   ·first | (simp (disch := omega) only [go_sem, simprocAttr, ab1, ae1, aj2, al3, aa1]; done) | (simp (disch := omega) only [go_sem, simprocAttr, ab1, ae1, aj2, al3, aa1]; with_reducible exact rfl) | exact rfl
   ·first | (simp [EV.ok, okL, aa4, aa5, ab2, aa1]; done)
end
end Abs
