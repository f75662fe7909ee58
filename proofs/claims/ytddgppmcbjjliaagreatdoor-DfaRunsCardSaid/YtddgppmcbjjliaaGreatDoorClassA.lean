/- A part. -/
import Derived.Test.YtddgppmcbjjliaaGreatDoorOctsA
set_option linter.all false
namespace Abs
open Go Gn
set_option linter.unusedSimpArgs false
set_option maxRecDepth 20000
def classesE (of : Nat → Nat) (n : Int) : EV := .agg (tab 256 (fun i => .int .u8 ((of i : Nat) : Int)) ++ [.int .i64 n])
def seenN (name : Nat → Nat × Nat) : Nat → List (Nat × Nat)
 | 0 => []
 | b + 1 => if name b ∈ seenN name b then seenN name b else seenN name b ++ [name b]
def clsN (name : Nat → Nat × Nat) (b : Nat) : Nat := (seenN name (b + 1)).idxOf (name b)
theorem seenN_len (name : Nat → Nat × Nat) (b : Nat) : (seenN name b).length ≤ b := by
 induction b with
 | zero => simp [seenN]
 | succ b ih =>
  simp only [seenN]
  split
  ·omega
  ·simp; omega
def pairE (p : Nat × Nat) : EV := .agg [.int .i64 ((p.1 : Nat) : Int), .int .i64 ((p.2 : Nat) : Int)]
def mapE : List (Nat × Nat) → Nat → List (EV × EV)
 | [], _ => []
 | p :: l, o => (pairE p, .int .u8 ((o : Nat) : Int)) :: mapE l (o + 1)
theorem eqL_pair (p q : Nat × Nat) : eqL (pairE p).cells (pairE q).cells = (p == q) := by
 obtain ⟨a, b⟩ := p
 obtain ⟨c, d⟩ := q
 simp only [pairE, EV.cells, eqL, sceq, Bool.and_true]
 rw [Bool.eq_iff_iff]
 simp [Bool.and_eq_true]
 omega
theorem lookE_mapE (p : Nat × Nat) : ∀ (l : List (Nat × Nat)) (o : Nat), lookE (pairE p) (mapE l o) = if p ∈ l then some (.int .u8 ((o + l.idxOf p : Nat) : Int)) else none
 | [], o => by simp [mapE, lookE]
 | q :: l, o => by
  simp only [mapE, lookE, eqL_pair]
  by_cases h : p = q
  ·subst h; simp
  ·have hb : (p == q) = false := by simpa using h
   rw [hb, lookE_mapE p l (o + 1)]
   have hq : q ≠ p := fun e => h e.symm
   simp only [Bool.false_eq_true, if_false, List.mem_cons, h, false_or]
   split
   ·rw [List.idxOf_cons, show (q == p) = false by simpa using hq]
    simp only [cond_false]
    congr 2
    omega
   ·rfl
theorem putE_mapE {p : Nat × Nat} {v : EV} : ∀ {l : List (Nat × Nat)} {o : Nat}, p ∉ l → putE (pairE p) v (mapE l o) = mapE l o ++ [(pairE p, v)]
 | [], o, _ => rfl
 | q :: l, o, h => by
  simp only [List.mem_cons, not_or] at h
  have hb : (p == q) = false := by simpa using h.1
  simp only [mapE, putE, eqL_pair, hb, Bool.false_eq_true, if_false, List.cons_append]
  rw [putE_mapE h.2]
theorem mapE_app (p : Nat × Nat) : ∀ (l : List (Nat × Nat)) (o : Nat), mapE (l ++ [p]) o = mapE l o ++ [(pairE p, .int .u8 ((o + l.length : Nat) : Int))]
 | [], o => by simp [mapE]
 | q :: l, o => by
  simp only [List.cons_append, mapE, mapE_app p l (o + 1), List.length_cons]
  rw [show o + 1 + l.length = o + (l.length + 1) by omega]
theorem keyFit_pair {p : Nat × Nat} : keyFit true [.i .i64, .i .i64] (pairE p) = true := rfl
theorem fitsAll_mapE : ∀ {l : List (Nat × Nat)} {o : Nat}, fitsAll true [.i .i64, .i .i64] (mapE l o) = true
 | [], _ => rfl
 | p :: l, o => by
  have := fitsAll_mapE (l := l) (o := o + 1)
  simp only [fitsAll] at this
  simp [fitsAll, mapE, keyFit_pair, this]
theorem mapE_ok {n : Nat} : ∀ {l : List (Nat × Nat)} {o : Nat}, (EB.map (mapE l o)).ok n = true
 | [], _ => rfl
 | p :: l, o => by
  have := mapE_ok (n := n) (l := l) (o := o + 1)
  simp only [EB.ok] at this
  simp only [EB.ok, mapE, List.all_cons, this]
  rfl
section
variable {P : Program} {γ : Nat → EV}
set_option maxHeartbeats 4000000 in
theorem renamed_ok {f g : FuncId} {cap : List EV} {H : Heap} (name : Nat → Nat × Nat) (hb : Body P f class_renamed class_renamed_r 40) (hcap : okL H.length cap = true)
  (hg : ∀ b, b < 256 → ∀ G, CallsA P γ g ([] ++ [.int .i64 ((b : Nat) : Int)] ++ cap) (H ++ G) fun er H' => er = .ret (pairE (name b)) ∧ H' = H ++ G) :
  CallsA P γ f [.func (.func g) [] cap] H fun er H' => er = .ret (classesE (clsN name) (seenN name 256).length) ∧ H' = H := by
 refine hb.calls (by simp) fun hok => ?_
 unfold class_renamed
 repeat' first | (with_reducible first | apply qa | apply qb | apply qc | apply qd | apply qe | apply qf | apply qg | apply qh | apply qi | apply qj | apply qk | apply ql | apply qm | apply qn | apply qo | apply qp | apply qq | apply qr | apply qs | apply qt | apply qu | exact keep_same | exact keep_true) | (with_reducible refine block_exit_other ?_ ?_; decide) | ((with_reducible refine keep_rfl ?_); exact rfl) | ((with_reducible first | apply qv | apply qw | apply qx); focus (simp (disch := omega) only [go_sem, ↓reduceIte, simprocAttr]; with_reducible first | exact lit_t | exact lit_f)) | ((with_reducible first | apply qy | apply qz); focus (simp (disch := omega) only [go_sem, ↓reduceIte, simprocAttr]; done)) | ((with_reducible first | apply q26 | apply q27 | apply q28); focus (simp (disch := omega) only [go_sem, ↓reduceIte, simprocAttr]; first | with_reducible exact rfl | (rw [if_pos (by first | omega | (constructor <;> omega) | (simp; done) | assumption)]; first | with_reducible exact rfl | (try simp (disch := omega) only [go_sem, ↓reduceIte, simprocAttr]; with_reducible exact rfl))))
 refine wpc_while (ι := Nat) (fun b => b ≤ 256) (fun b => 256 - b) (fun b => [(0, .func (.func g) [] cap), (2, .ptr H.length 257 0 0), (3, .ptr (H.length + 1) 257 0 0), (4, .map (H.length + 2)), (9, .int .i64 b)])
  (fun b => H ++ [some (.row 257 [classesE (fun _ => 0) 0]), some (.row 257 [classesE (fun i => if i < b then clsN name i else 0) (seenN name b).length]), some (.map (mapE (seenN name b) 0))]) 0 (by omega) ?_ ?_ ?_ ?_ ?_
 ·(repeat' (first | exact trivial | refine And.intro (And.intro ?_ ?_) ?_)) <;> first | exact rfl | (simp (disch := omega) only [go_sem, ↓reduceIte, simprocAttr, okL_mono (Nat.le_add_right _ 3) cap hcap, EV.ok, okL_tab_int, okL_tab_bool, okL_app, okL, decide_eq_true_eq, EV.int.injEq]; done) | (simp (disch := omega) only [go_sem, ↓reduceIte, simprocAttr, okL_mono (Nat.le_add_right _ 3) cap hcap, EV.ok, okL_tab_int, okL_tab_bool, okL_app, okL, decide_eq_true_eq, EV.int.injEq] <;> first | exact rfl | omega)
 ·simp [classesE, seenN, mapE]
 ·exact fun i _ => okH_app hok (by simp only [okG, mapE_ok, Bool.and_true, Bool.and_eq_true]; simp [EB.ok, okL, classesE, EV.ok, okL_tab_int, okL_app])
 ·simp
 ·intro b hb8 K Q' hK hQ'
  repeat' first | (with_reducible first | apply qa | apply qb | apply qc | apply qd | apply qe | apply qf | apply qg | apply qh | apply qi | apply qj | apply qk | apply ql | apply qm | apply qn | apply qo | apply qp | apply qq | apply qr | apply qs | apply qt | apply qu | exact keep_same | exact keep_true) | (with_reducible refine block_exit_other ?_ ?_; decide) | ((with_reducible refine keep_rfl ?_); exact rfl) | ((with_reducible first | apply qv | apply qw | apply qx); focus (simp (disch := omega) only [go_sem, ↓reduceIte, simprocAttr]; with_reducible first | exact lit_t | exact lit_f)) | ((with_reducible first | apply qy | apply qz); focus (simp (disch := omega) only [go_sem, ↓reduceIte, simprocAttr]; done)) | ((with_reducible first | apply q26 | apply q27 | apply q28); focus (simp (disch := omega) only [go_sem, ↓reduceIte, simprocAttr]; first | with_reducible exact rfl | (rw [if_pos (by first | omega | (constructor <;> omega) | (simp; done) | assumption)]; first | with_reducible exact rfl | (try simp (disch := omega) only [go_sem, ↓reduceIte, simprocAttr]; with_reducible exact rfl))))
  refine wpc_cond (t := decide ((b : Int) < 256)) (by simp (disch := omega) only [go_sem, ↓reduceIte, simprocAttr]) (fun ht => ?_) (fun ht => ?_)
  ·have hbl : b < 256 := by have := of_decide_eq_true ht; omega
   have hlen := seenN_len name b
   repeat' first | (with_reducible first | apply qa | apply qb | apply qc | apply qd | apply qe | apply qf | apply qg | apply qh | apply qi | apply qj | apply qk | apply ql | apply qm | apply qn | apply qo | apply qp | apply qq | apply qr | apply qs | apply qt | apply qu | exact keep_same | exact keep_true) | (with_reducible refine block_exit_other ?_ ?_; decide) | ((with_reducible refine keep_rfl ?_); exact rfl) | ((with_reducible first | apply qv | apply qw | apply qx); focus (simp (disch := omega) only [go_sem, ↓reduceIte, simprocAttr]; with_reducible first | exact lit_t | exact lit_f)) | ((with_reducible first | apply qy | apply qz); focus (simp (disch := omega) only [go_sem, ↓reduceIte, simprocAttr]; done)) | ((with_reducible first | apply q26 | apply q27 | apply q28); focus (simp (disch := omega) only [go_sem, ↓reduceIte, simprocAttr]; first | with_reducible exact rfl | (rw [if_pos (by first | omega | (constructor <;> omega) | (simp; done) | assumption)]; first | with_reducible exact rfl | (try simp (disch := omega) only [go_sem, ↓reduceIte, simprocAttr]; with_reducible exact rfl))))
   with_reducible apply wops_call1
   ·first | exact rfl | (simp (disch := omega) only [go_sem, ↓reduceIte, simprocAttr]; exact rfl)
   ·(simp (disch := omega) only [go_sem, ↓reduceIte, simprocAttr]; exact rfl)
   ·exact hg b hbl _
   by_cases hm : name b ∈ seenN name b
   ·have hs : seenN name (b + 1) = seenN name b := by simp [seenN, hm]
    have hc : clsN name b = (seenN name b).idxOf (name b) := by rw [clsN, hs]
    repeat' first | (with_reducible first | apply qa | apply qb | apply qc | apply qd | apply qe | apply qf | apply qg | apply qh | apply qi | apply qj | apply qk | apply ql | apply qm | apply qn | apply qo | apply qp | apply qq | apply qr | apply qs | apply qt | apply qu | exact keep_same | exact keep_true) | (with_reducible refine block_exit_other ?_ ?_; decide) | ((with_reducible refine keep_rfl ?_); exact rfl) | ((with_reducible first | apply qv | apply qw | apply qx); focus (simp (disch := omega) only [go_sem, ↓reduceIte, simprocAttr, evLookup, keyFit_pair, fitsAll_mapE, lookE_mapE, hm, classesE]; with_reducible first | exact lit_t | exact lit_f)) | ((with_reducible first | apply qy | apply qz); focus (simp (disch := omega) only [go_sem, ↓reduceIte, simprocAttr, evLookup, keyFit_pair, fitsAll_mapE, lookE_mapE, hm, classesE]; done)) | ((with_reducible first | apply q26 | apply q27 | apply q28); focus (simp (disch := omega) only [go_sem, ↓reduceIte, simprocAttr, evLookup, keyFit_pair, fitsAll_mapE, lookE_mapE, hm, classesE]; first | with_reducible exact rfl | (rw [if_pos (by first | omega | (constructor <;> omega) | (simp; done) | assumption)]; first | with_reducible exact rfl | (try simp (disch := omega) only [go_sem, ↓reduceIte, simprocAttr, evLookup, keyFit_pair, fitsAll_mapE, lookE_mapE, hm, classesE]; with_reducible exact rfl))))
    refine hK (b + 1) _ _ [] (by omega) (by omega) ?_ ?_
    ·have e := sweep (κ := .u8) (a := clsN name) (b := fun _ => 0) (i := b)
     rw [hc] at e
     simp only [classesE, e, hs, List.append_nil, Int.natCast_zero]
    ·(repeat' (first | exact trivial | refine And.intro (And.intro ?_ ?_) ?_)) <;> first | exact rfl | (simp (disch := omega) only [go_sem, ↓reduceIte, simprocAttr, okL_mono (Nat.le_add_right _ 3) cap hcap, EV.ok, okL_tab_int, okL_tab_bool, okL_app, okL, decide_eq_true_eq, EV.int.injEq]; done) | (simp (disch := omega) only [go_sem, ↓reduceIte, simprocAttr, okL_mono (Nat.le_add_right _ 3) cap hcap, EV.ok, okL_tab_int, okL_tab_bool, okL_app, okL, decide_eq_true_eq, EV.int.injEq] <;> first | exact rfl | omega)
   ·have hs : seenN name (b + 1) = seenN name b ++ [name b] := by simp [seenN, hm]
    have hc : clsN name b = (seenN name b).length := by rw [clsN, hs]; simp [List.idxOf_append, hm]
    repeat' first | (with_reducible first | apply qa | apply qb | apply qc | apply qd | apply qe | apply qf | apply qg | apply qh | apply qi | apply qj | apply qk | apply ql | apply qm | apply qn | apply qo | apply qp | apply qq | apply qr | apply qs | apply qt | apply qu | exact keep_same | exact keep_true) | (with_reducible refine block_exit_other ?_ ?_; decide) | ((with_reducible refine keep_rfl ?_); exact rfl) | ((with_reducible first | apply qv | apply qw | apply qx); focus (simp (disch := omega) only [go_sem, ↓reduceIte, simprocAttr, evLookup, keyFit_pair, fitsAll_mapE, lookE_mapE, hm, classesE]; with_reducible first | exact lit_t | exact lit_f)) | ((with_reducible first | apply qy | apply qz); focus (simp (disch := omega) only [go_sem, ↓reduceIte, simprocAttr, evLookup, keyFit_pair, fitsAll_mapE, lookE_mapE, hm, classesE]; done)) | ((with_reducible first | apply q26 | apply q27 | apply q28); focus (simp (disch := omega) only [go_sem, ↓reduceIte, simprocAttr, evLookup, keyFit_pair, fitsAll_mapE, lookE_mapE, hm, classesE]; first | with_reducible exact rfl | (rw [if_pos (by first | omega | (constructor <;> omega) | (simp; done) | assumption)]; first | with_reducible exact rfl | (try simp (disch := omega) only [go_sem, ↓reduceIte, simprocAttr, evLookup, keyFit_pair, fitsAll_mapE, lookE_mapE, hm, classesE]; with_reducible exact rfl))))
    with_reducible apply wops_call1
    ·first | exact rfl | (simp (disch := omega) only [go_sem, ↓reduceIte, simprocAttr]; exact rfl)
    ·(simp (disch := omega) only [go_sem, ↓reduceIte, simprocAttr]; exact rfl)
    ·exact hg b hbl _
    repeat' first | (with_reducible first | apply qa | apply qb | apply qc | apply qd | apply qe | apply qf | apply qg | apply qh | apply qi | apply qj | apply qk | apply ql | apply qm | apply qn | apply qo | apply qp | apply qq | apply qr | apply qs | apply qt | apply qu | exact keep_same | exact keep_true) | (with_reducible refine block_exit_other ?_ ?_; decide) | ((with_reducible refine keep_rfl ?_); exact rfl) | ((with_reducible first | apply qv | apply qw | apply qx); focus (simp (disch := omega) only [go_sem, ↓reduceIte, simprocAttr, evMapset, keyFit_pair, fitsAll_mapE, putE_mapE hm, hm, classesE]; with_reducible first | exact lit_t | exact lit_f)) | ((with_reducible first | apply qy | apply qz); focus (simp (disch := omega) only [go_sem, ↓reduceIte, simprocAttr, evMapset, keyFit_pair, fitsAll_mapE, putE_mapE hm, hm, classesE]; done)) | ((with_reducible first | apply q26 | apply q27 | apply q28); focus (simp (disch := omega) only [go_sem, ↓reduceIte, simprocAttr, evMapset, keyFit_pair, fitsAll_mapE, putE_mapE hm, hm, classesE]; first | with_reducible exact rfl | (rw [if_pos (by first | omega | (constructor <;> omega) | (simp; done) | assumption)]; first | with_reducible exact rfl | (try simp (disch := omega) only [go_sem, ↓reduceIte, simprocAttr, evMapset, keyFit_pair, fitsAll_mapE, putE_mapE hm, hm, classesE]; with_reducible exact rfl))))
    refine hK (b + 1) _ _ [] (by omega) (by omega) ?_ ?_
    ·have e := sweep (κ := .u8) (a := clsN name) (b := fun _ => 0) (i := b)
     rw [hc] at e
     simp only [classesE, e, hs, List.append_nil, Int.natCast_zero, mapE_app, List.length_append, List.length_cons, List.length_nil, Nat.zero_add, Int.natCast_add, Int.natCast_one]
    ·(repeat' (first | exact trivial | refine And.intro (And.intro ?_ ?_) ?_)) <;> first | exact rfl | (simp (disch := omega) only [go_sem, ↓reduceIte, simprocAttr, okL_mono (Nat.le_add_right _ 3) cap hcap, EV.ok, okL_tab_int, okL_tab_bool, okL_app, okL, decide_eq_true_eq, EV.int.injEq]; done) | (simp (disch := omega) only [go_sem, ↓reduceIte, simprocAttr, okL_mono (Nat.le_add_right _ 3) cap hcap, EV.ok, okL_tab_int, okL_tab_bool, okL_app, okL, decide_eq_true_eq, EV.int.injEq] <;> first | exact rfl | omega)
  ·have hi4 : b = 256 := by have := of_decide_eq_false ht; omega
   subst hi4
   repeat' first | (with_reducible first | apply qa | apply qb | apply qc | apply qd | apply qe | apply qf | apply qg | apply qh | apply qi | apply qj | apply qk | apply ql | apply qm | apply qn | apply qo | apply qp | apply qq | apply qr | apply qs | apply qt | apply qu | exact keep_same | exact keep_true) | (with_reducible refine block_exit_other ?_ ?_; decide) | ((with_reducible refine keep_rfl ?_); exact rfl) | ((with_reducible first | apply qv | apply qw | apply qx); focus (simp (disch := omega) only [go_sem, ↓reduceIte, simprocAttr]; with_reducible first | exact lit_t | exact lit_f)) | ((with_reducible first | apply qy | apply qz); focus (simp (disch := omega) only [go_sem, ↓reduceIte, simprocAttr]; done)) | ((with_reducible first | apply q26 | apply q27 | apply q28); focus (simp (disch := omega) only [go_sem, ↓reduceIte, simprocAttr]; first | with_reducible exact rfl | (rw [if_pos (by first | omega | (constructor <;> omega) | (simp; done) | assumption)]; first | with_reducible exact rfl | (try simp (disch := omega) only [go_sem, ↓reduceIte, simprocAttr]; with_reducible exact rfl))))
   refine hQ' _ _ _ ?_
   repeat' first | (with_reducible first | apply qa | apply qb | apply qc | apply qd | apply qe | apply qf | apply qg | apply qh | apply qi | apply qj | apply qk | apply ql | apply qm | apply qn | apply qo | apply qp | apply qq | apply qr | apply qs | apply qt | apply qu | exact keep_same | exact keep_true) | (with_reducible refine block_exit_other ?_ ?_; decide) | ((with_reducible refine keep_rfl ?_); exact rfl) | ((with_reducible first | apply qv | apply qw | apply qx); focus (simp (disch := omega) only [go_sem, ↓reduceIte, simprocAttr, classesE]; with_reducible first | exact lit_t | exact lit_f)) | ((with_reducible first | apply qy | apply qz); focus (simp (disch := omega) only [go_sem, ↓reduceIte, simprocAttr, classesE]; done)) | ((with_reducible first | apply q26 | apply q27 | apply q28); focus (simp (disch := omega) only [go_sem, ↓reduceIte, simprocAttr, classesE]; first | with_reducible exact rfl | (rw [if_pos (by first | omega | (constructor <;> omega) | (simp; done) | assumption)]; first | with_reducible exact rfl | (try simp (disch := omega) only [go_sem, ↓reduceIte, simprocAttr, classesE]; with_reducible exact rfl))))
   refine end_drop hok (r := classesE (clsN name) (seenN name 256).length) ?_ ?_ ⟨rfl, rfl⟩
   ·first | (simp (disch := omega) only [go_sem, ↓reduceIte, simprocAttr, evResults, evResL, evRes, class_renamed_r, classesE]; done) | (simp (disch := omega) only [go_sem, ↓reduceIte, simprocAttr, evResults, evResL, evRes, class_renamed_r, classesE]; with_reducible exact rfl) | exact rfl
   ·first | (simp [EV.ok, okL, okL_tab_int, okL_tab_bool, okL_app, classesE]; done)
end
open Gn
set_option maxRecDepth 20000
section
variable {P : Program} {γ : Nat → EV}
def hasN (x : Nat → Nat) (of : Nat → Nat) (b : Nat) : Nat × Nat := (of b, if inSet x b then 1 else 0)
set_option maxHeartbeats 4000000 in
theorem part_c1_ok {f fh : FuncId} (hb : Body P f (class_Part_c1 fh) class_Part_c1_r 21) (hh : HasOk P γ fh .u8) {H : Heap} {p q : Nat} {x of : Nat → Nat} {n : Int} (hp : H[p]? = some (some (.row 4 [setE x])))
  (hq : H[q]? = some (some (.row 257 [classesE of n]))) (hx : Words x) {b : Nat} (hof : of b < 256) (hb8 : b < 256) :
  CallsA P γ f [.int .i64 b, .ptr p 4 0 0, .ptr q 257 0 0] H fun er H' => er = .ret (pairE (hasN x of b)) ∧ H' = H := by
 refine hb.calls (by simp) fun hok => ?_
 unfold class_Part_c1
 repeat' first | (with_reducible first | apply qa | apply qb | apply qc | apply qd | apply qe | apply qf | apply qg | apply qh | apply qi | apply qj | apply qk | apply ql | apply qm | apply qn | apply qo | apply qp | apply qq | apply qr | apply qs | apply qt | apply qu | exact keep_same | exact keep_true) | (with_reducible refine block_exit_other ?_ ?_; decide) | ((with_reducible refine keep_rfl ?_); exact rfl) | ((with_reducible first | apply qv | apply qw | apply qx); focus (simp (disch := omega) only [go_sem, ↓reduceIte, simprocAttr, app_old hp, app_old hq, setE, classesE]; with_reducible first | exact lit_t | exact lit_f)) | ((with_reducible first | apply qy | apply qz); focus (simp (disch := omega) only [go_sem, ↓reduceIte, simprocAttr, app_old hp, app_old hq, setE, classesE]; done)) | ((with_reducible first | apply q26 | apply q27 | apply q28); focus (simp (disch := omega) only [go_sem, ↓reduceIte, simprocAttr, app_old hp, app_old hq, setE, classesE]; first | with_reducible exact rfl | (rw [if_pos (by first | omega | (constructor <;> omega) | (simp; done) | assumption)]; first | with_reducible exact rfl | (try simp (disch := omega) only [go_sem, ↓reduceIte, simprocAttr, app_old hp, app_old hq, setE, classesE]; with_reducible exact rfl))))
 with_reducible apply wops_call1
 ·first | exact rfl | (simp (disch := omega) only [go_sem, ↓reduceIte, simprocAttr, setE]; exact rfl)
 ·(simp (disch := omega) only [go_sem, ↓reduceIte, simprocAttr, setE]; exact rfl)
 ·exact hh x b _ hx hb8
 cases hs : inSet x b
 ·repeat' first | (with_reducible first | apply qa | apply qb | apply qc | apply qd | apply qe | apply qf | apply qg | apply qh | apply qi | apply qj | apply qk | apply ql | apply qm | apply qn | apply qo | apply qp | apply qq | apply qr | apply qs | apply qt | apply qu | exact keep_same | exact keep_true) | (with_reducible refine block_exit_other ?_ ?_; decide) | ((with_reducible refine keep_rfl ?_); exact rfl) | ((with_reducible first | apply qv | apply qw | apply qx); focus (simp (disch := omega) only [go_sem, ↓reduceIte, simprocAttr, hs, app_old hp, app_old hq, setE, classesE]; with_reducible first | exact lit_t | exact lit_f)) | ((with_reducible first | apply qy | apply qz); focus (simp (disch := omega) only [go_sem, ↓reduceIte, simprocAttr, hs, app_old hp, app_old hq, setE, classesE]; done)) | ((with_reducible first | apply q26 | apply q27 | apply q28); focus (simp (disch := omega) only [go_sem, ↓reduceIte, simprocAttr, hs, app_old hp, app_old hq, setE, classesE]; first | with_reducible exact rfl | (rw [if_pos (by first | omega | (constructor <;> omega) | (simp; done) | assumption)]; first | with_reducible exact rfl | (try simp (disch := omega) only [go_sem, ↓reduceIte, simprocAttr, hs, app_old hp, app_old hq, setE, classesE]; with_reducible exact rfl))))
  refine end_drop hok (r := pairE (hasN x of b)) ?_ ?_ ⟨rfl, rfl⟩
  ·first | (simp (disch := omega) only [go_sem, ↓reduceIte, simprocAttr, evResults, evResL, evRes, class_Part_c1_r, pairE, hasN, hs, Int.natCast_one]; done) | (simp (disch := omega) only [go_sem, ↓reduceIte, simprocAttr, evResults, evResL, evRes, class_Part_c1_r, pairE, hasN, hs, Int.natCast_one]; with_reducible exact rfl) | exact rfl
  ·first | (simp [EV.ok, okL, okL_tab_int, okL_tab_bool, okL_app, pairE, hasN, hs, Int.natCast_one]; done)
 ·repeat' first | (with_reducible first | apply qa | apply qb | apply qc | apply qd | apply qe | apply qf | apply qg | apply qh | apply qi | apply qj | apply qk | apply ql | apply qm | apply qn | apply qo | apply qp | apply qq | apply qr | apply qs | apply qt | apply qu | exact keep_same | exact keep_true) | (with_reducible refine block_exit_other ?_ ?_; decide) | ((with_reducible refine keep_rfl ?_); exact rfl) | ((with_reducible first | apply qv | apply qw | apply qx); focus (simp (disch := omega) only [go_sem, ↓reduceIte, simprocAttr, hs, app_old hp, app_old hq, setE, classesE]; with_reducible first | exact lit_t | exact lit_f)) | ((with_reducible first | apply qy | apply qz); focus (simp (disch := omega) only [go_sem, ↓reduceIte, simprocAttr, hs, app_old hp, app_old hq, setE, classesE]; done)) | ((with_reducible first | apply q26 | apply q27 | apply q28); focus (simp (disch := omega) only [go_sem, ↓reduceIte, simprocAttr, hs, app_old hp, app_old hq, setE, classesE]; first | with_reducible exact rfl | (rw [if_pos (by first | omega | (constructor <;> omega) | (simp; done) | assumption)]; first | with_reducible exact rfl | (try simp (disch := omega) only [go_sem, ↓reduceIte, simprocAttr, hs, app_old hp, app_old hq, setE, classesE]; with_reducible exact rfl))))
  refine end_drop hok (r := pairE (hasN x of b)) ?_ ?_ ⟨rfl, rfl⟩
  ·first | (simp (disch := omega) only [go_sem, ↓reduceIte, simprocAttr, evResults, evResL, evRes, class_Part_c1_r, pairE, hasN, hs, Int.natCast_one]; done) | (simp (disch := omega) only [go_sem, ↓reduceIte, simprocAttr, evResults, evResL, evRes, class_Part_c1_r, pairE, hasN, hs, Int.natCast_one]; with_reducible exact rfl) | exact rfl
  ·first | (simp [EV.ok, okL, okL_tab_int, okL_tab_bool, okL_app, pairE, hasN, hs, Int.natCast_one]; done)
structure SliceOf (sz : Nat) (v : EV) (es : List EV) : Prop where
 len : evLen false v = some es.length
 elem : ∀ (i : Nat) (e : EV), es[i]? = some e → evElem sz (i : Int) v = some (.iptr e.cells 0)
 ok : v.ok 0 = true
theorem clsN_lt (name : Nat → Nat × Nat) (b : Nat) : clsN name b < b + 1 := by
 have h1 := seenN_len name (b + 1)
 have h2 : name b ∈ seenN name (b + 1) := by
  simp only [seenN]
  split
  ·assumption
  ·simp
 have h3 := List.idxOf_lt_length_of_mem h2
 unfold clsN
 omega
def partStep (p : (Nat → Nat) × Nat) (x : Nat → Nat) : (Nat → Nat) × Nat := (clsN (hasN x p.1), (seenN (hasN x p.1) 256).length)
def partF (xs : List (Nat → Nat)) : (Nat → Nat) × Nat := xs.foldl partStep (fun _ => 0, 1)
theorem partF_lt (xs : List (Nat → Nat)) (b : Nat) (hb : b < 256) : (partF xs).1 b < 256 := by
 have : ∀ (xs : List (Nat → Nat)) (p : (Nat → Nat) × Nat), p.1 b < 256 → (xs.foldl partStep p).1 b < 256 := by
  intro xs
  induction xs with
  | nil => intro p h; exact h
  | cons x xs ih =>
   intro p h
   rw [List.foldl_cons]
   refine ih _ ?_
   have := clsN_lt (hasN x p.1) b
   simp only [partStep]
   omega
 exact this xs _ (by simp)
set_option maxHeartbeats 4000000 in
theorem part_ok {f fc fr fh : FuncId} (hb : Body P f (class_Part fc fr) class_Part_r 19) (hc : Body P fc (class_Part_c1 fh) class_Part_c1_r 21) (hr : Body P fr class_renamed class_renamed_r 40) (hh : HasOk P γ fh .u8)
  {v : EV} {xs : List (Nat → Nat)} (hv : SliceOf 4 v (xs.map setE)) (hx : ∀ x ∈ xs, Words x) (hlen : xs.length ≤ 9223372036854775807) (H : Heap) :
  CallsA P γ f [v] H fun er H' => er = .ret (classesE (partF xs).1 (partF xs).2) ∧ H' = H := by
 refine hb.calls (by simp) fun hok => ?_
 have hvl := hv.len
 rw [List.length_map] at hvl
 have hvok : ∀ n, v.ok n = true := fun n => EV.ok_mono (Nat.zero_le n) v hv.ok
 unfold class_Part
 repeat' first | (with_reducible first | apply qa | apply qb | apply qc | apply qd | apply qe | apply qf | apply qg | apply qh | apply qi | apply qj | apply qk | apply ql | apply qm | apply qn | apply qo | apply qp | apply qq | apply qr | apply qs | apply qt | apply qu | exact keep_same | exact keep_true) | (with_reducible refine block_exit_other ?_ ?_; decide) | ((with_reducible refine keep_rfl ?_); exact rfl) | ((with_reducible first | apply qv | apply qw | apply qx); focus (simp (disch := omega) only [go_sem, ↓reduceIte, simprocAttr, hvl]; with_reducible first | exact lit_t | exact lit_f)) | ((with_reducible first | apply qy | apply qz); focus (simp (disch := omega) only [go_sem, ↓reduceIte, simprocAttr, hvl]; done)) | ((with_reducible first | apply q26 | apply q27 | apply q28); focus (simp (disch := omega) only [go_sem, ↓reduceIte, simprocAttr, hvl]; first | with_reducible exact rfl | (rw [if_pos (by first | omega | (constructor <;> omega) | (simp; done) | assumption)]; first | with_reducible exact rfl | (try simp (disch := omega) only [go_sem, ↓reduceIte, simprocAttr, hvl]; with_reducible exact rfl))))
 refine wpc_while (ι := Nat) (fun i => i ≤ xs.length) (fun i => xs.length - i) (fun i => [(2, .ptr H.length 257 0 0), (3, .ptr (H.length + 1) 257 0 0), (8, v), (9, .int .i64 xs.length), (10, .int .i64 i)])
  (fun i => H ++ [some (.row 257 [classesE (fun _ => 0) 0]), some (.row 257 [classesE (partF (xs.take i)).1 (partF (xs.take i)).2])]) 0 (by omega) ?_ ?_ ?_ ?_ ?_
 ·(repeat' (first | exact trivial | refine And.intro (And.intro ?_ ?_) ?_)) <;> first | exact rfl | (simp (disch := omega) only [go_sem, ↓reduceIte, simprocAttr, hvok, EV.ok, okL_tab_int, okL_tab_bool, okL_app, okL, decide_eq_true_eq, EV.int.injEq]; done) | (simp (disch := omega) only [go_sem, ↓reduceIte, simprocAttr, hvok, EV.ok, okL_tab_int, okL_tab_bool, okL_app, okL, decide_eq_true_eq, EV.int.injEq] <;> first | exact rfl | omega)
 ·simp [classesE, partF]
 ·exact fun i _ => okH_app hok (by simp [EB.ok, okG, okL, classesE, EV.ok, okL_tab_int, okL_app])
 ·simp
 ·intro i hi K Q' hK hQ'
  repeat' first | (with_reducible first | apply qa | apply qb | apply qc | apply qd | apply qe | apply qf | apply qg | apply qh | apply qi | apply qj | apply qk | apply ql | apply qm | apply qn | apply qo | apply qp | apply qq | apply qr | apply qs | apply qt | apply qu | exact keep_same | exact keep_true) | (with_reducible refine block_exit_other ?_ ?_; decide) | ((with_reducible refine keep_rfl ?_); exact rfl) | ((with_reducible first | apply qv | apply qw | apply qx); focus (simp (disch := omega) only [go_sem, ↓reduceIte, simprocAttr]; with_reducible first | exact lit_t | exact lit_f)) | ((with_reducible first | apply qy | apply qz); focus (simp (disch := omega) only [go_sem, ↓reduceIte, simprocAttr]; done)) | ((with_reducible first | apply q26 | apply q27 | apply q28); focus (simp (disch := omega) only [go_sem, ↓reduceIte, simprocAttr]; first | with_reducible exact rfl | (rw [if_pos (by first | omega | (constructor <;> omega) | (simp; done) | assumption)]; first | with_reducible exact rfl | (try simp (disch := omega) only [go_sem, ↓reduceIte, simprocAttr]; with_reducible exact rfl))))
  refine wpc_cond (t := decide ((i : Int) < xs.length)) (by simp (disch := omega) only [go_sem, ↓reduceIte, simprocAttr]) (fun ht => ?_) (fun ht => ?_)
  ·have hil : i < xs.length := by have := of_decide_eq_true ht; omega
   obtain ⟨x, hxi⟩ : ∃ x, xs[i]? = some x := ⟨xs[i], by simp [hil]⟩
   have hw := hx x (List.mem_of_getElem? hxi)
   have hel := hv.elem i (setE x) (by rw [List.getElem?_map, hxi]; rfl)
   repeat' first | (with_reducible first | apply qa | apply qb | apply qc | apply qd | apply qe | apply qf | apply qg | apply qh | apply qi | apply qj | apply qk | apply ql | apply qm | apply qn | apply qo | apply qp | apply qq | apply qr | apply qs | apply qt | apply qu | exact keep_same | exact keep_true) | (with_reducible refine block_exit_other ?_ ?_; decide) | ((with_reducible refine keep_rfl ?_); exact rfl) | ((with_reducible first | apply qv | apply qw | apply qx); focus (simp (disch := omega) only [go_sem, ↓reduceIte, simprocAttr, hel, setE, classesE]; with_reducible first | exact lit_t | exact lit_f)) | ((with_reducible first | apply qy | apply qz); focus (simp (disch := omega) only [go_sem, ↓reduceIte, simprocAttr, hel, setE, classesE]; done)) | ((with_reducible first | apply q26 | apply q27 | apply q28); focus (simp (disch := omega) only [go_sem, ↓reduceIte, simprocAttr, hel, setE, classesE]; first | with_reducible exact rfl | (rw [if_pos (by first | omega | (constructor <;> omega) | (simp; done) | assumption)]; first | with_reducible exact rfl | (try simp (disch := omega) only [go_sem, ↓reduceIte, simprocAttr, hel, setE, classesE]; with_reducible exact rfl))))
   with_reducible apply wops_call1
   ·first | exact rfl | (simp (disch := omega) only [go_sem, ↓reduceIte, simprocAttr]; exact rfl)
   ·(simp (disch := omega) only [go_sem, ↓reduceIte, simprocAttr]; exact rfl)
   ·exact renamed_ok (hasN x (partF (xs.take i)).1) hr (by simp [okL, EV.ok]) fun b hb8 G => part_c1_ok (x := x) (of := (partF (xs.take i)).1) (n := (partF (xs.take i)).2) hc hh (app_old (by rw [app_get]; rfl)) (app_old (by rw [app_get]; rfl)) hw (partF_lt _ b hb8) hb8
   repeat' first | (with_reducible first | apply qa | apply qb | apply qc | apply qd | apply qe | apply qf | apply qg | apply qh | apply qi | apply qj | apply qk | apply ql | apply qm | apply qn | apply qo | apply qp | apply qq | apply qr | apply qs | apply qt | apply qu | exact keep_same | exact keep_true) | (with_reducible refine block_exit_other ?_ ?_; decide) | ((with_reducible refine keep_rfl ?_); exact rfl) | ((with_reducible first | apply qv | apply qw | apply qx); focus (simp (disch := omega) only [go_sem, ↓reduceIte, simprocAttr, classesE]; with_reducible first | exact lit_t | exact lit_f)) | ((with_reducible first | apply qy | apply qz); focus (simp (disch := omega) only [go_sem, ↓reduceIte, simprocAttr, classesE]; done)) | ((with_reducible first | apply q26 | apply q27 | apply q28); focus (simp (disch := omega) only [go_sem, ↓reduceIte, simprocAttr, classesE]; first | with_reducible exact rfl | (rw [if_pos (by first | omega | (constructor <;> omega) | (simp; done) | assumption)]; first | with_reducible exact rfl | (try simp (disch := omega) only [go_sem, ↓reduceIte, simprocAttr, classesE]; with_reducible exact rfl))))
   have e : partF (xs.take (i + 1)) = partStep (partF (xs.take i)) x := by rw [List.take_add_one, hxi]; simp [partF, List.foldl_append]
   refine hK (i + 1) _ _ [some (.row 4 [setE x]), some (.row 257 [classesE (partF (xs.take i)).1 (partF (xs.take i)).2])] (by omega) (by omega) ?_ ?_
   ·rw [e]
    simp only [partStep, classesE, setE, List.append_assoc, List.cons_append, List.nil_append, Int.natCast_zero]
   ·(repeat' (first | exact trivial | refine And.intro (And.intro ?_ ?_) ?_)) <;> first | exact rfl | (simp (disch := omega) only [go_sem, ↓reduceIte, simprocAttr, hvok, EV.ok, okL_tab_int, okL_tab_bool, okL_app, okL, decide_eq_true_eq, EV.int.injEq]; done) | (simp (disch := omega) only [go_sem, ↓reduceIte, simprocAttr, hvok, EV.ok, okL_tab_int, okL_tab_bool, okL_app, okL, decide_eq_true_eq, EV.int.injEq] <;> first | exact rfl | omega)
  ·have hi4 : i = xs.length := by have := of_decide_eq_false ht; omega
   subst hi4
   repeat' first | (with_reducible first | apply qa | apply qb | apply qc | apply qd | apply qe | apply qf | apply qg | apply qh | apply qi | apply qj | apply qk | apply ql | apply qm | apply qn | apply qo | apply qp | apply qq | apply qr | apply qs | apply qt | apply qu | exact keep_same | exact keep_true) | (with_reducible refine block_exit_other ?_ ?_; decide) | ((with_reducible refine keep_rfl ?_); exact rfl) | ((with_reducible first | apply qv | apply qw | apply qx); focus (simp (disch := omega) only [go_sem, ↓reduceIte, simprocAttr]; with_reducible first | exact lit_t | exact lit_f)) | ((with_reducible first | apply qy | apply qz); focus (simp (disch := omega) only [go_sem, ↓reduceIte, simprocAttr]; done)) | ((with_reducible first | apply q26 | apply q27 | apply q28); focus (simp (disch := omega) only [go_sem, ↓reduceIte, simprocAttr]; first | with_reducible exact rfl | (rw [if_pos (by first | omega | (constructor <;> omega) | (simp; done) | assumption)]; first | with_reducible exact rfl | (try simp (disch := omega) only [go_sem, ↓reduceIte, simprocAttr]; with_reducible exact rfl))))
   refine hQ' _ _ _ ?_
   repeat' first | (with_reducible first | apply qa | apply qb | apply qc | apply qd | apply qe | apply qf | apply qg | apply qh | apply qi | apply qj | apply qk | apply ql | apply qm | apply qn | apply qo | apply qp | apply qq | apply qr | apply qs | apply qt | apply qu | exact keep_same | exact keep_true) | (with_reducible refine block_exit_other ?_ ?_; decide) | ((with_reducible refine keep_rfl ?_); exact rfl) | ((with_reducible first | apply qv | apply qw | apply qx); focus (simp (disch := omega) only [go_sem, ↓reduceIte, simprocAttr, classesE]; with_reducible first | exact lit_t | exact lit_f)) | ((with_reducible first | apply qy | apply qz); focus (simp (disch := omega) only [go_sem, ↓reduceIte, simprocAttr, classesE]; done)) | ((with_reducible first | apply q26 | apply q27 | apply q28); focus (simp (disch := omega) only [go_sem, ↓reduceIte, simprocAttr, classesE]; first | with_reducible exact rfl | (rw [if_pos (by first | omega | (constructor <;> omega) | (simp; done) | assumption)]; first | with_reducible exact rfl | (try simp (disch := omega) only [go_sem, ↓reduceIte, simprocAttr, classesE]; with_reducible exact rfl))))
   refine end_drop hok (r := classesE (partF xs).1 (partF xs).2) ?_ ?_ ⟨rfl, rfl⟩
   ·first | (simp (disch := omega) only [go_sem, ↓reduceIte, simprocAttr, evResults, evResL, evRes, class_Part_r, classesE, List.take_length]; done) | (simp (disch := omega) only [go_sem, ↓reduceIte, simprocAttr, evResults, evResL, evRes, class_Part_r, classesE, List.take_length]; with_reducible exact rfl) | exact rfl
   ·first | (simp [EV.ok, okL, okL_tab_int, okL_tab_bool, okL_app, classesE, List.take_length]; done)
end
open Gn
set_option maxRecDepth 20000
section
variable {P : Program} {γ : Nat → EV}
def mayN (of : Nat → Nat) : Nat → Option Nat
 | 0 => some 0
 | b + 1 =>
  match mayN of b with
  | none => none
  | some n => if n < of b then none else if of b = n then some (n + 1) else some n
def mayC (of : Nat → Nat) (n : Int) : Bool :=
 match mayN of 256 with
 | none => false
 | some m => n == (m : Int)
theorem mayN_none {of : Nat → Nat} {b : Nat} (h : mayN of b = none) : ∀ c, b ≤ c → mayN of c = none := by
 intro c hc
 induction c with
 | zero => obtain rfl : b = 0 := by omega
           exact h
 | succ c ih =>
  by_cases e : b = c + 1
  ·subst e; exact h
  ·simp only [mayN, ih (by omega)]
theorem mayN_le {of : Nat → Nat} : ∀ {b n : Nat}, mayN of b = some n → n ≤ b
 | 0, n, h => by simp [mayN] at h; omega
 | b + 1, n, h => by
  simp only [mayN] at h
  split at h
  ·simp at h
  ·rename_i m hm
   have := mayN_le hm
   split at h
   ·simp at h
   ·split at h <;> simp at h <;> omega
set_option maxHeartbeats 4000000 in
theorem refMay_ok {f : FuncId} (hb : Body P f hackleref02_May hackleref02_May_r 29) (of : Nat → Nat) (n : Int) (hof : ∀ b, b < 256 → of b < 256) (H : Heap) :
  CallsA P γ f [classesE of n] H fun er H' => er = .ret (.bool (mayC of n)) ∧ H' = H := by
 refine hb.calls (by simp) fun hok => ?_
 unfold hackleref02_May
 repeat' first | (with_reducible first | apply qa | apply qb | apply qc | apply qd | apply qe | apply qf | apply qg | apply qh | apply qi | apply qj | apply qk | apply ql | apply qm | apply qn | apply qo | apply qp | apply qq | apply qr | apply qs | apply qt | apply qu | exact keep_same | exact keep_true) | (with_reducible refine block_exit_other ?_ ?_; decide) | ((with_reducible refine keep_rfl ?_); exact rfl) | ((with_reducible first | apply qv | apply qw | apply qx); focus (simp (disch := omega) only [go_sem, ↓reduceIte, simprocAttr, classesE]; with_reducible first | exact lit_t | exact lit_f)) | ((with_reducible first | apply qy | apply qz); focus (simp (disch := omega) only [go_sem, ↓reduceIte, simprocAttr, classesE]; done)) | ((with_reducible first | apply q26 | apply q27 | apply q28); focus (simp (disch := omega) only [go_sem, ↓reduceIte, simprocAttr, classesE]; first | with_reducible exact rfl | (rw [if_pos (by first | omega | (constructor <;> omega) | (simp; done) | assumption)]; first | with_reducible exact rfl | (try simp (disch := omega) only [go_sem, ↓reduceIte, simprocAttr, classesE]; with_reducible exact rfl))))
 refine wpc_while (ι := Nat × Nat) (fun p => p.1 ≤ 256 ∧ mayN of p.1 = some p.2) (fun p => 256 - p.1) (fun p => [(1, .ptr H.length 257 0 0), (3, .int .i64 p.2), (4, .int .i64 p.1)])
  (fun p => H ++ [some (.row 257 [classesE of n])]) (0, 0) (by simp [mayN]) ?_ ?_ ?_ ?_ ?_
 ·(repeat' (first | exact trivial | refine And.intro (And.intro ?_ ?_) ?_)) <;> first | exact rfl | (simp (disch := omega) only [go_sem, ↓reduceIte, simprocAttr, EV.ok, okL_tab_int, okL_tab_bool, okL_app, okL, decide_eq_true_eq, EV.int.injEq]; done) | (simp (disch := omega) only [go_sem, ↓reduceIte, simprocAttr, EV.ok, okL_tab_int, okL_tab_bool, okL_app, okL, decide_eq_true_eq, EV.int.injEq] <;> first | exact rfl | omega)
 ·rfl
 ·exact fun i _ => okH_app hok (by simp [EB.ok, okG, okL, classesE, EV.ok, okL_tab_int, okL_app])
 ·simp
 ·rintro ⟨b, m⟩ ⟨hb8, hm⟩ K Q' hK hQ'
  simp only at hb8 hm
  have hml := mayN_le hm
  repeat' first | (with_reducible first | apply qa | apply qb | apply qc | apply qd | apply qe | apply qf | apply qg | apply qh | apply qi | apply qj | apply qk | apply ql | apply qm | apply qn | apply qo | apply qp | apply qq | apply qr | apply qs | apply qt | apply qu | exact keep_same | exact keep_true) | (with_reducible refine block_exit_other ?_ ?_; decide) | ((with_reducible refine keep_rfl ?_); exact rfl) | ((with_reducible first | apply qv | apply qw | apply qx); focus (simp (disch := omega) only [go_sem, ↓reduceIte, simprocAttr]; with_reducible first | exact lit_t | exact lit_f)) | ((with_reducible first | apply qy | apply qz); focus (simp (disch := omega) only [go_sem, ↓reduceIte, simprocAttr]; done)) | ((with_reducible first | apply q26 | apply q27 | apply q28); focus (simp (disch := omega) only [go_sem, ↓reduceIte, simprocAttr]; first | with_reducible exact rfl | (rw [if_pos (by first | omega | (constructor <;> omega) | (simp; done) | assumption)]; first | with_reducible exact rfl | (try simp (disch := omega) only [go_sem, ↓reduceIte, simprocAttr]; with_reducible exact rfl))))
  refine wpc_cond (t := decide ((b : Int) < 256)) (by simp (disch := omega) only [go_sem, ↓reduceIte, simprocAttr]) (fun ht => ?_) (fun ht => ?_)
  ·have hbl : b < 256 := by have := of_decide_eq_true ht; omega
   have ho := hof b hbl
   repeat' first | (with_reducible first | apply qa | apply qb | apply qc | apply qd | apply qe | apply qf | apply qg | apply qh | apply qi | apply qj | apply qk | apply ql | apply qm | apply qn | apply qo | apply qp | apply qq | apply qr | apply qs | apply qt | apply qu | exact keep_same | exact keep_true) | (with_reducible refine block_exit_other ?_ ?_; decide) | ((with_reducible refine keep_rfl ?_); exact rfl) | ((with_reducible first | apply qv | apply qw | apply qx); focus (simp (disch := omega) only [go_sem, ↓reduceIte, simprocAttr, classesE]; with_reducible first | exact lit_t | exact lit_f)) | ((with_reducible first | apply qy | apply qz); focus (simp (disch := omega) only [go_sem, ↓reduceIte, simprocAttr, classesE]; done)) | ((with_reducible first | apply q26 | apply q27 | apply q28); focus (simp (disch := omega) only [go_sem, ↓reduceIte, simprocAttr, classesE]; first | with_reducible exact rfl | (rw [if_pos (by first | omega | (constructor <;> omega) | (simp; done) | assumption)]; first | with_reducible exact rfl | (try simp (disch := omega) only [go_sem, ↓reduceIte, simprocAttr, classesE]; with_reducible exact rfl))))
   refine wpc_cond (t := decide ((of b : Int) > (m : Int))) (by simp (disch := omega) only [go_sem, ↓reduceIte, simprocAttr]) (fun ht2 => ?_) (fun ht2 => ?_)
   ·have h2 : m < of b := by have := of_decide_eq_true ht2; omega
    have h3 : mayN of (b + 1) = none := by simp [mayN, hm, h2]
    repeat' first | (with_reducible first | apply qa | apply qb | apply qc | apply qd | apply qe | apply qf | apply qg | apply qh | apply qi | apply qj | apply qk | apply ql | apply qm | apply qn | apply qo | apply qp | apply qq | apply qr | apply qs | apply qt | apply qu | exact keep_same | exact keep_true) | (with_reducible refine block_exit_other ?_ ?_; decide) | ((with_reducible refine keep_rfl ?_); exact rfl) | ((with_reducible first | apply qv | apply qw | apply qx); focus (simp (disch := omega) only [go_sem, ↓reduceIte, simprocAttr]; with_reducible first | exact lit_t | exact lit_f)) | ((with_reducible first | apply qy | apply qz); focus (simp (disch := omega) only [go_sem, ↓reduceIte, simprocAttr]; done)) | ((with_reducible first | apply q26 | apply q27 | apply q28); focus (simp (disch := omega) only [go_sem, ↓reduceIte, simprocAttr]; first | with_reducible exact rfl | (rw [if_pos (by first | omega | (constructor <;> omega) | (simp; done) | assumption)]; first | with_reducible exact rfl | (try simp (disch := omega) only [go_sem, ↓reduceIte, simprocAttr]; with_reducible exact rfl))))
    refine hQ' _ _ _ ?_
    repeat' first | (with_reducible first | apply qa | apply qb | apply qc | apply qd | apply qe | apply qf | apply qg | apply qh | apply qi | apply qj | apply qk | apply ql | apply qm | apply qn | apply qo | apply qp | apply qq | apply qr | apply qs | apply qt | apply qu | exact keep_same | exact keep_true) | (with_reducible refine block_exit_other ?_ ?_; decide) | ((with_reducible refine keep_rfl ?_); exact rfl) | ((with_reducible first | apply qv | apply qw | apply qx); focus (simp (disch := omega) only [go_sem, ↓reduceIte, simprocAttr]; with_reducible first | exact lit_t | exact lit_f)) | ((with_reducible first | apply qy | apply qz); focus (simp (disch := omega) only [go_sem, ↓reduceIte, simprocAttr]; done)) | ((with_reducible first | apply q26 | apply q27 | apply q28); focus (simp (disch := omega) only [go_sem, ↓reduceIte, simprocAttr]; first | with_reducible exact rfl | (rw [if_pos (by first | omega | (constructor <;> omega) | (simp; done) | assumption)]; first | with_reducible exact rfl | (try simp (disch := omega) only [go_sem, ↓reduceIte, simprocAttr]; with_reducible exact rfl))))
    have h4 : mayC of n = false := by unfold mayC; rw [mayN_none h3 256 (by omega)]
    refine end_drop hok (r := .bool (mayC of n)) ?_ ?_ ⟨rfl, rfl⟩
    ·first | (simp (disch := omega) only [go_sem, ↓reduceIte, simprocAttr, evResults, evResL, evRes, hackleref02_May_r, h4]; done) | (simp (disch := omega) only [go_sem, ↓reduceIte, simprocAttr, evResults, evResL, evRes, hackleref02_May_r, h4]; with_reducible exact rfl) | exact rfl
    ·first | (simp [EV.ok, okL, okL_tab_int, okL_tab_bool, okL_app, h4]; done)
   ·have h2 : ¬ m < of b := by have := of_decide_eq_false ht2; omega
    repeat' first | (with_reducible first | apply qa | apply qb | apply qc | apply qd | apply qe | apply qf | apply qg | apply qh | apply qi | apply qj | apply qk | apply ql | apply qm | apply qn | apply qo | apply qp | apply qq | apply qr | apply qs | apply qt | apply qu | exact keep_same | exact keep_true) | (with_reducible refine block_exit_other ?_ ?_; decide) | ((with_reducible refine keep_rfl ?_); exact rfl) | ((with_reducible first | apply qv | apply qw | apply qx); focus (simp (disch := omega) only [go_sem, ↓reduceIte, simprocAttr, classesE]; with_reducible first | exact lit_t | exact lit_f)) | ((with_reducible first | apply qy | apply qz); focus (simp (disch := omega) only [go_sem, ↓reduceIte, simprocAttr, classesE]; done)) | ((with_reducible first | apply q26 | apply q27 | apply q28); focus (simp (disch := omega) only [go_sem, ↓reduceIte, simprocAttr, classesE]; first | with_reducible exact rfl | (rw [if_pos (by first | omega | (constructor <;> omega) | (simp; done) | assumption)]; first | with_reducible exact rfl | (try simp (disch := omega) only [go_sem, ↓reduceIte, simprocAttr, classesE]; with_reducible exact rfl))))
    refine wpc_cond (t := (of b : Int) == (m : Int)) (by simp (disch := omega) only [go_sem, ↓reduceIte, simprocAttr]) (fun ht3 => ?_) (fun ht3 => ?_)
    ·have h3 : of b = m := by have : (of b : Int) = (m : Int) := by simpa using ht3
                              omega
     repeat' first | (with_reducible first | apply qa | apply qb | apply qc | apply qd | apply qe | apply qf | apply qg | apply qh | apply qi | apply qj | apply qk | apply ql | apply qm | apply qn | apply qo | apply qp | apply qq | apply qr | apply qs | apply qt | apply qu | exact keep_same | exact keep_true) | (with_reducible refine block_exit_other ?_ ?_; decide) | ((with_reducible refine keep_rfl ?_); exact rfl) | ((with_reducible first | apply qv | apply qw | apply qx); focus (simp (disch := omega) only [go_sem, ↓reduceIte, simprocAttr, classesE]; with_reducible first | exact lit_t | exact lit_f)) | ((with_reducible first | apply qy | apply qz); focus (simp (disch := omega) only [go_sem, ↓reduceIte, simprocAttr, classesE]; done)) | ((with_reducible first | apply q26 | apply q27 | apply q28); focus (simp (disch := omega) only [go_sem, ↓reduceIte, simprocAttr, classesE]; first | with_reducible exact rfl | (rw [if_pos (by first | omega | (constructor <;> omega) | (simp; done) | assumption)]; first | with_reducible exact rfl | (try simp (disch := omega) only [go_sem, ↓reduceIte, simprocAttr, classesE]; with_reducible exact rfl))))
     refine hK (b + 1, m + 1) _ _ [] ⟨by simp only; omega, by simp [mayN, hm, h2, h3]⟩ (by simp only; omega) (by simp [classesE]) ?_
     (repeat' (first | exact trivial | refine And.intro (And.intro ?_ ?_) ?_)) <;> first | exact rfl | (simp (disch := omega) only [go_sem, ↓reduceIte, simprocAttr, EV.ok, okL_tab_int, okL_tab_bool, okL_app, okL, decide_eq_true_eq, EV.int.injEq]; done) | (simp (disch := omega) only [go_sem, ↓reduceIte, simprocAttr, EV.ok, okL_tab_int, okL_tab_bool, okL_app, okL, decide_eq_true_eq, EV.int.injEq] <;> first | exact rfl | omega)
    ·have h3 : ¬ of b = m := by intro e; subst e; simp at ht3
     repeat' first | (with_reducible first | apply qa | apply qb | apply qc | apply qd | apply qe | apply qf | apply qg | apply qh | apply qi | apply qj | apply qk | apply ql | apply qm | apply qn | apply qo | apply qp | apply qq | apply qr | apply qs | apply qt | apply qu | exact keep_same | exact keep_true) | (with_reducible refine block_exit_other ?_ ?_; decide) | ((with_reducible refine keep_rfl ?_); exact rfl) | ((with_reducible first | apply qv | apply qw | apply qx); focus (simp (disch := omega) only [go_sem, ↓reduceIte, simprocAttr, classesE]; with_reducible first | exact lit_t | exact lit_f)) | ((with_reducible first | apply qy | apply qz); focus (simp (disch := omega) only [go_sem, ↓reduceIte, simprocAttr, classesE]; done)) | ((with_reducible first | apply q26 | apply q27 | apply q28); focus (simp (disch := omega) only [go_sem, ↓reduceIte, simprocAttr, classesE]; first | with_reducible exact rfl | (rw [if_pos (by first | omega | (constructor <;> omega) | (simp; done) | assumption)]; first | with_reducible exact rfl | (try simp (disch := omega) only [go_sem, ↓reduceIte, simprocAttr, classesE]; with_reducible exact rfl))))
     refine hK (b + 1, m) _ _ [] ⟨by simp only; omega, by simp [mayN, hm, h2, h3]⟩ (by simp only; omega) (by simp [classesE]) ?_
     (repeat' (first | exact trivial | refine And.intro (And.intro ?_ ?_) ?_)) <;> first | exact rfl | (simp (disch := omega) only [go_sem, ↓reduceIte, simprocAttr, EV.ok, okL_tab_int, okL_tab_bool, okL_app, okL, decide_eq_true_eq, EV.int.injEq]; done) | (simp (disch := omega) only [go_sem, ↓reduceIte, simprocAttr, EV.ok, okL_tab_int, okL_tab_bool, okL_app, okL, decide_eq_true_eq, EV.int.injEq] <;> first | exact rfl | omega)
  ·have hi4 : b = 256 := by have := of_decide_eq_false ht; omega
   subst hi4
   repeat' first | (with_reducible first | apply qa | apply qb | apply qc | apply qd | apply qe | apply qf | apply qg | apply qh | apply qi | apply qj | apply qk | apply ql | apply qm | apply qn | apply qo | apply qp | apply qq | apply qr | apply qs | apply qt | apply qu | exact keep_same | exact keep_true) | (with_reducible refine block_exit_other ?_ ?_; decide) | ((with_reducible refine keep_rfl ?_); exact rfl) | ((with_reducible first | apply qv | apply qw | apply qx); focus (simp (disch := omega) only [go_sem, ↓reduceIte, simprocAttr]; with_reducible first | exact lit_t | exact lit_f)) | ((with_reducible first | apply qy | apply qz); focus (simp (disch := omega) only [go_sem, ↓reduceIte, simprocAttr]; done)) | ((with_reducible first | apply q26 | apply q27 | apply q28); focus (simp (disch := omega) only [go_sem, ↓reduceIte, simprocAttr]; first | with_reducible exact rfl | (rw [if_pos (by first | omega | (constructor <;> omega) | (simp; done) | assumption)]; first | with_reducible exact rfl | (try simp (disch := omega) only [go_sem, ↓reduceIte, simprocAttr]; with_reducible exact rfl))))
   refine hQ' _ _ _ ?_
   repeat' first | (with_reducible first | apply qa | apply qb | apply qc | apply qd | apply qe | apply qf | apply qg | apply qh | apply qi | apply qj | apply qk | apply ql | apply qm | apply qn | apply qo | apply qp | apply qq | apply qr | apply qs | apply qt | apply qu | exact keep_same | exact keep_true) | (with_reducible refine block_exit_other ?_ ?_; decide) | ((with_reducible refine keep_rfl ?_); exact rfl) | ((with_reducible first | apply qv | apply qw | apply qx); focus (simp (disch := omega) only [go_sem, ↓reduceIte, simprocAttr, classesE]; with_reducible first | exact lit_t | exact lit_f)) | ((with_reducible first | apply qy | apply qz); focus (simp (disch := omega) only [go_sem, ↓reduceIte, simprocAttr, classesE]; done)) | ((with_reducible first | apply q26 | apply q27 | apply q28); focus (simp (disch := omega) only [go_sem, ↓reduceIte, simprocAttr, classesE]; first | with_reducible exact rfl | (rw [if_pos (by first | omega | (constructor <;> omega) | (simp; done) | assumption)]; first | with_reducible exact rfl | (try simp (disch := omega) only [go_sem, ↓reduceIte, simprocAttr, classesE]; with_reducible exact rfl))))
   have h4 : mayC of n = (n == (m : Int)) := by unfold mayC; rw [hm]
   refine end_drop hok (r := .bool (mayC of n)) ?_ ?_ ⟨rfl, rfl⟩
   ·first | (simp (disch := omega) only [go_sem, ↓reduceIte, simprocAttr, evResults, evResL, evRes, hackleref02_May_r, h4]; done) | (simp (disch := omega) only [go_sem, ↓reduceIte, simprocAttr, evResults, evResL, evRes, hackleref02_May_r, h4]; with_reducible exact rfl) | exact rfl
   ·first | (simp [EV.ok, okL, okL_tab_int, okL_tab_bool, okL_app, h4]; done)
end
open Gn
set_option maxRecDepth 20000
section
variable {P : Program} {γ : Nat → EV}
def rangeM (lo hi : Nat) (i : Nat) : Bool := decide (lo ≤ i) && decide (i ≤ hi)
end
open Gn
set_option maxRecDepth 20000
def seenF (name : Nat → Nat × Nat) (n : Nat) : List (Nat × Nat) := (List.range n).foldl (fun l b => if l.contains (name b) then l else l ++ [name b]) []
theorem seenN_F (name : Nat → Nat × Nat) : ∀ n, seenN name n = seenF name n
 | 0 => rfl
 | n + 1 => by
  have ih := seenN_F name n
  simp only [seenN, seenF, List.range_succ, List.foldl_append, List.foldl_cons, List.foldl_nil]
  rw [ih]
  unfold seenF
  simp only [List.contains_iff_mem]
theorem seenN_prefix (name : Nat → Nat × Nat) (n : Nat) : ∀ m, n ≤ m → ∃ l, seenN name m = seenN name n ++ l
 | m, h => by
  induction m with
  | zero => obtain rfl : n = 0 := by omega
            exact ⟨[], by simp⟩
  | succ m ih =>
   by_cases e : n = m + 1
   ·subst e; exact ⟨[], by simp⟩
   ·obtain ⟨l, hl⟩ := ih (by omega)
    simp only [seenN]
    split
    ·exact ⟨l, hl⟩
    ·exact ⟨l ++ [name m], by rw [hl, List.append_assoc]⟩
theorem seenN_mem (name : Nat → Nat × Nat) {b n : Nat} (h : b < n) : name b ∈ seenN name n := by
 have h2 : name b ∈ seenN name (b + 1) := by
  simp only [seenN]
  split
  ·assumption
  ·simp
 obtain ⟨l, hl⟩ := seenN_prefix name (b + 1) n (by omega)
 rw [hl]
 exact List.mem_append_left _ h2
theorem clsN_eq (name : Nat → Nat × Nat) {b n : Nat} (h : b < n) : clsN name b = (seenN name n).idxOf (name b) := by
 have h2 := seenN_mem name (show b < b + 1 by omega)
 obtain ⟨l, hl⟩ := seenN_prefix name (b + 1) n (by omega)
 rw [hl, List.idxOf_append, if_pos h2]
 rfl
def g1 (b : Nat) : Nat × Nat := (0, if rangeM 97 99 b then 1 else 0)
def g2 (b : Nat) : Nat × Nat := (if rangeM 97 99 b then 1 else 0, if rangeM 98 98 b then 1 else 0)
open Gn
set_option maxRecDepth 20000
theorem seenN_nodup (name : Nat → Nat × Nat) : ∀ n, (seenN name n).Nodup
 | 0 => List.nodup_nil
 | n + 1 => by
  simp only [seenN]
  split
  ·exact seenN_nodup name n
  ·rename_i h
   rw [List.nodup_append]
   refine ⟨seenN_nodup name n, by simp, ?_⟩
   intro a ha b hb e
   simp at hb
   subst hb e
   exact h ha
theorem seenN_of (name : Nat → Nat × Nat) : ∀ n p, p ∈ seenN name n → ∃ b, b < n ∧ name b = p
 | 0, p, h => by simp [seenN] at h
 | n + 1, p, h => by
  simp only [seenN] at h
  split at h
  ·obtain ⟨b, hb, e⟩ := seenN_of name n p h
   exact ⟨b, by omega, e⟩
  ·rcases List.mem_append.1 h with h | h
   ·obtain ⟨b, hb, e⟩ := seenN_of name n p h
    exact ⟨b, by omega, e⟩
   ·simp at h
    exact ⟨n, by omega, h.symm⟩
attribute [local irreducible] seenN clsN
theorem partStep_fst (p : (Nat → Nat) × Nat) (x : Nat → Nat) : (partStep p x).1 = clsN (hasN x p.1) := rfl
theorem partStep_snd (p : (Nat → Nat) × Nat) (x : Nat → Nat) : (partStep p x).2 = (seenN (hasN x p.1) 256).length := rfl
theorem partF_alike (xs : List (Nat → Nat)) (a b : Nat) (ha : a < 256) (hb : b < 256) (h : ∀ x ∈ xs, inSet x a = inSet x b) : (partF xs).1 a = (partF xs).1 b := by
 have : ∀ (xs : List (Nat → Nat)) (p : (Nat → Nat) × Nat), (∀ x ∈ xs, inSet x a = inSet x b) → p.1 a = p.1 b → (xs.foldl partStep p).1 a = (xs.foldl partStep p).1 b := by
  intro xs
  induction xs with
  | nil => intro p _ h; exact h
  | cons x xs ih =>
   intro p hx h
   rw [List.foldl_cons]
   refine ih _ (fun y hy => hx y (by simp [hy])) ?_
   have e : hasN x p.1 a = hasN x p.1 b := by simp only [hasN, h, hx x (by simp)]
   simp only [partStep]
   rw [clsN_eq _ ha, clsN_eq _ hb, e]
 exact this xs _ h rfl
end Abs

namespace Abs
open Go Gn
set_option maxRecDepth 20000
section
variable {P : Program} {γ : Nat → EV}
def nameN (of : Nat → Nat) (b : Nat) : Nat × Nat := (of b, 0)
def classMay (of : Nat → Nat) (n : Int) : Bool := allEq 256 (fun i => ((of i : Nat) : Int)) (fun i => ((clsN (nameN of) i : Nat) : Int)) && (n == ((seenN (nameN of) 256).length : Int))
set_option maxHeartbeats 4000000 in
theorem may_c1_ok {f : FuncId} (hb : Body P f class_May_c1 class_May_c1_r 10) {H : Heap} {q : Nat} {of : Nat → Nat} {n : Int}
  (hq : H[q]? = some (some (.row 257 [classesE of n]))) {b : Nat} (hof : of b < 256) (hb8 : b < 256) :
  CallsA P γ f [.int .i64 b, .ptr q 257 0 0] H fun er H' => er = .ret (pairE (nameN of b)) ∧ H' = H := by
 refine hb.calls (by simp) fun hok => ?_
 unfold class_May_c1
 repeat' first | (with_reducible first | apply qa | apply qb | apply qc | apply qd | apply qe | apply qf | apply qg | apply qh | apply qi | apply qj | apply qk | apply ql | apply qm | apply qn | apply qo | apply qp | apply qq | apply qr | apply qs | apply qt | apply qu | exact keep_same | exact keep_true) | (with_reducible refine block_exit_other ?_ ?_; decide) | ((with_reducible refine keep_rfl ?_); exact rfl) | ((with_reducible first | apply qv | apply qw | apply qx); focus (simp (disch := omega) only [go_sem, ↓reduceIte, simprocAttr, app_old hq, classesE]; with_reducible first | exact lit_t | exact lit_f)) | ((with_reducible first | apply qy | apply qz); focus (simp (disch := omega) only [go_sem, ↓reduceIte, simprocAttr, app_old hq, classesE]; done)) | ((with_reducible first | apply q26 | apply q27 | apply q28); focus (simp (disch := omega) only [go_sem, ↓reduceIte, simprocAttr, app_old hq, classesE]; first | with_reducible exact rfl | (rw [if_pos (by first | omega | (constructor <;> omega) | (simp; done) | assumption)]; first | with_reducible exact rfl | (try simp (disch := omega) only [go_sem, ↓reduceIte, simprocAttr, app_old hq, classesE]; with_reducible exact rfl))))
 refine end_drop hok (r := pairE (nameN of b)) ?_ ?_ ⟨rfl, rfl⟩
 ·first | (simp (disch := omega) only [go_sem, ↓reduceIte, simprocAttr, evResults, evResL, evRes, class_May_c1_r, pairE, nameN, Int.natCast_zero]; done) | (simp (disch := omega) only [go_sem, ↓reduceIte, simprocAttr, evResults, evResL, evRes, class_May_c1_r, pairE, nameN, Int.natCast_zero]; with_reducible exact rfl) | exact rfl
 ·first | (simp [EV.ok, okL, okL_tab_int, okL_tab_bool, okL_app, pairE, nameN, Int.natCast_zero]; done)
set_option maxHeartbeats 4000000 in
theorem may_ok {f fc fr : FuncId} (hb : Body P f (class_May fc fr) class_May_r 7) (hc : Body P fc class_May_c1 class_May_c1_r 10) (hr : Body P fr class_renamed class_renamed_r 40) (of : Nat → Nat) (n : Int) (hof : ∀ b, b < 256 → of b < 256) (H : Heap) :
  CallsA P γ f [classesE of n] H fun er H' => er = .ret (.bool (classMay of n)) ∧ H' = H := by
 refine hb.calls (by simp) fun hok => ?_
 unfold class_May
 repeat' first | (with_reducible first | apply qa | apply qb | apply qc | apply qd | apply qe | apply qf | apply qg | apply qh | apply qi | apply qj | apply qk | apply ql | apply qm | apply qn | apply qo | apply qp | apply qq | apply qr | apply qs | apply qt | apply qu | exact keep_same | exact keep_true) | (with_reducible refine block_exit_other ?_ ?_; decide) | ((with_reducible refine keep_rfl ?_); exact rfl) | ((with_reducible first | apply qv | apply qw | apply qx); focus (simp (disch := omega) only [go_sem, ↓reduceIte, simprocAttr, classesE]; with_reducible first | exact lit_t | exact lit_f)) | ((with_reducible first | apply qy | apply qz); focus (simp (disch := omega) only [go_sem, ↓reduceIte, simprocAttr, classesE]; done)) | ((with_reducible first | apply q26 | apply q27 | apply q28); focus (simp (disch := omega) only [go_sem, ↓reduceIte, simprocAttr, classesE]; first | with_reducible exact rfl | (rw [if_pos (by first | omega | (constructor <;> omega) | (simp; done) | assumption)]; first | with_reducible exact rfl | (try simp (disch := omega) only [go_sem, ↓reduceIte, simprocAttr, classesE]; with_reducible exact rfl))))
 with_reducible apply wdr_call
 ·first | exact rfl | (simp (disch := omega) only [go_sem, ↓reduceIte, simprocAttr, classesE]; exact rfl)
 ·(simp (disch := omega) only [go_sem, ↓reduceIte, simprocAttr, classesE]; exact rfl)
 ·exact renamed_ok (nameN of) hr (by simp [okL, EV.ok]) fun b hb8 G => may_c1_ok (of := of) (n := n) hc (app_old (by rw [app_get0]; rfl)) (hof b hb8) hb8
 ·exact fun _ => rfl
 repeat' first | (with_reducible first | apply qa | apply qb | apply qc | apply qd | apply qe | apply qf | apply qg | apply qh | apply qi | apply qj | apply qk | apply ql | apply qm | apply qn | apply qo | apply qp | apply qq | apply qr | apply qs | apply qt | apply qu | exact keep_same | exact keep_true) | (with_reducible refine block_exit_other ?_ ?_; decide) | ((with_reducible refine keep_rfl ?_); exact rfl) | ((with_reducible first | apply qv | apply qw | apply qx); focus (simp (disch := omega) only [go_sem, ↓reduceIte, simprocAttr, classesE]; with_reducible first | exact lit_t | exact lit_f)) | ((with_reducible first | apply qy | apply qz); focus (simp (disch := omega) only [go_sem, ↓reduceIte, simprocAttr, classesE]; done)) | ((with_reducible first | apply q26 | apply q27 | apply q28); focus (simp (disch := omega) only [go_sem, ↓reduceIte, simprocAttr, classesE]; first | with_reducible exact rfl | (rw [if_pos (by first | omega | (constructor <;> omega) | (simp; done) | assumption)]; first | with_reducible exact rfl | (try simp (disch := omega) only [go_sem, ↓reduceIte, simprocAttr, classesE]; with_reducible exact rfl))))
 refine end_drop hok (r := .bool (classMay of n)) ?_ ?_ ⟨rfl, rfl⟩
 ·first | (simp (disch := omega) only [go_sem, ↓reduceIte, simprocAttr, evResults, evResL, evRes, class_May_r, classMay]; done) | (simp (disch := omega) only [go_sem, ↓reduceIte, simprocAttr, evResults, evResL, evRes, class_May_r, classMay]; with_reducible exact rfl) | exact rfl
 ·first | (simp [EV.ok, okL, okL_tab_int, okL_tab_bool, okL_app, classMay]; done)
end
open Gn
set_option maxRecDepth 20000
section
variable {P : Program} {γ : Nat → EV}
def alikeC (xs : List (Nat → Nat)) (a b : Nat) : Bool := xs.all fun x => inSet x a == inSet x b
end
open Gn
set_option maxRecDepth 20000
theorem seenN_iff (name : Nat → Nat × Nat) (n : Nat) (p : Nat × Nat) : p ∈ seenN name n ↔ ∃ b, b < n ∧ name b = p :=
 ⟨seenN_of name n p, by rintro ⟨b, hb, rfl⟩; exact seenN_mem name hb⟩
theorem seen_same {f g : Nat → Nat × Nat} {N : Nat} (h : ∀ a b, a < N → b < N → (f a = f b ↔ g a = g b)) :
  ∀ n, n ≤ N → (seenN f n).length = (seenN g n).length ∧ ∀ i, i < n → (seenN f n).idxOf (f i) = (seenN g n).idxOf (g i)
 | 0, _ => ⟨rfl, fun i hi => by omega⟩
 | n + 1, hn => by
  obtain ⟨h1, h2⟩ := seen_same h n (by omega)
  have h3 : f n ∈ seenN f n ↔ g n ∈ seenN g n := by
   rw [seenN_iff, seenN_iff]
   exact ⟨fun ⟨b, hb, e⟩ => ⟨b, hb, (h b n (by omega) (by omega)).1 e⟩, fun ⟨b, hb, e⟩ => ⟨b, hb, (h b n (by omega) (by omega)).2 e⟩⟩
  simp only [seenN]
  by_cases e : f n ∈ seenN f n
  ·rw [if_pos e, if_pos (h3.1 e)]
   refine ⟨h1, fun i hi => ?_⟩
   by_cases ei : i = n
   ·subst ei
    obtain ⟨b, hb, eb⟩ := (seenN_iff f i _).1 e
    have := h2 b hb
    rw [eb, (h b i (by omega) (by omega)).1 eb] at this
    exact this
   ·exact h2 i (by omega)
  ·rw [if_neg e, if_neg fun hg => e (h3.2 hg)]
   refine ⟨by simp [h1], fun i hi => ?_⟩
   rw [List.idxOf_append, List.idxOf_append]
   by_cases ei : i = n
   ·subst ei
    rw [if_neg e, if_neg fun hg => e (h3.2 hg), h1]
    simp
   ·rw [if_pos (seenN_mem f (by omega)), if_pos (seenN_mem g (by omega))]
    exact h2 i (by omega)
theorem clsN_inj {name : Nat → Nat × Nat} {a b N : Nat} (ha : a < N) (hb : b < N) (h : clsN name a = clsN name b) : name a = name b := by
 rw [clsN_eq name ha, clsN_eq name hb] at h
 have h1 := seenN_mem name ha
 have h2 := seenN_mem name hb
 have e1 := List.getElem_idxOf (List.idxOf_lt_length_of_mem h1)
 have e2 := List.getElem_idxOf (List.idxOf_lt_length_of_mem h2)
 rw [← e1, ← e2]
 congr 1
theorem clsN_iff {name : Nat → Nat × Nat} {a b N : Nat} (ha : a < N) (hb : b < N) : clsN name a = clsN name b ↔ name a = name b :=
 ⟨clsN_inj ha hb, fun h => by rw [clsN_eq name ha, clsN_eq name hb, h]⟩
theorem nameN_iff {of : Nat → Nat} {a b : Nat} : nameN of a = nameN of b ↔ of a = of b := by simp [nameN]
theorem seen_const : seenN (nameN fun _ => 0) 256 = [(0, 0)] := by
 rw [seenN_F]
 decide +kernel
theorem cls_const (b : Nat) (hb : b < 256) : clsN (nameN fun _ => 0) b = 0 := by
 rw [clsN_eq _ hb, seen_const]
 rfl
attribute [local irreducible] seenN clsN
theorem canon_cls (g : Nat → Nat × Nat) : (seenN (nameN (clsN g)) 256).length = (seenN g 256).length ∧ ∀ i, i < 256 → clsN (nameN (clsN g)) i = clsN g i := by
 have h := seen_same (f := nameN (clsN g)) (g := g) (N := 256) (fun a b ha hb => nameN_iff.trans (clsN_iff ha hb)) 256 (by omega)
 refine ⟨h.1, fun i hi => ?_⟩
 have := h.2 i hi
 rw [clsN_eq _ hi, clsN_eq g hi, this]
def Canon (p : (Nat → Nat) × Nat) : Prop := p.2 = (seenN (nameN p.1) 256).length ∧ ∀ i, i < 256 → clsN (nameN p.1) i = p.1 i
theorem canon_step (p : (Nat → Nat) × Nat) (x : Nat → Nat) : Canon (partStep p x) := by
 have h := canon_cls (hasN x p.1)
 unfold Canon
 rw [partStep_fst, partStep_snd]
 exact ⟨h.1.symm, h.2⟩
theorem partF_canon (xs : List (Nat → Nat)) : Canon (partF xs) := by
 have : ∀ (xs : List (Nat → Nat)) (p : (Nat → Nat) × Nat), Canon p → Canon (xs.foldl partStep p) := by
  intro xs
  induction xs with
  | nil => intro p h; exact h
  | cons x xs ih => intro p _; rw [List.foldl_cons]; exact ih _ (canon_step p x)
 refine this xs _ ⟨?_, cls_const⟩
 show 1 = (seenN (nameN fun _ => 0) 256).length
 rw [seen_const]
 rfl
theorem alikeC_iff {xs : List (Nat → Nat)} {a b : Nat} : alikeC xs a b = true ↔ ∀ x ∈ xs, inSet x a = inSet x b := by
 simp [alikeC, List.all_eq_true]
theorem partF_iff (xs : List (Nat → Nat)) {a b : Nat} (ha : a < 256) (hb : b < 256) : (partF xs).1 a = (partF xs).1 b ↔ alikeC xs a b = true := by
 rw [alikeC_iff]
 refine ⟨?_, partF_alike xs a b ha hb⟩
 have : ∀ (xs : List (Nat → Nat)) (p : (Nat → Nat) × Nat), (xs.foldl partStep p).1 a = (xs.foldl partStep p).1 b → p.1 a = p.1 b ∧ ∀ x ∈ xs, inSet x a = inSet x b := by
  intro xs
  induction xs with
  | nil => intro p h; exact ⟨h, by simp⟩
  | cons x xs ih =>
   intro p h
   rw [List.foldl_cons] at h
   obtain ⟨h1, h2⟩ := ih _ h
   rw [partStep_fst] at h1
   have h3 := clsN_inj ha hb h1
   simp only [hasN, Prod.mk.injEq] at h3
   refine ⟨h3.1, fun y hy => ?_⟩
   rcases List.mem_cons.1 hy with rfl | hy
   ·have h4 := h3.2
    cases e1 : inSet y a <;> cases e2 : inSet y b <;> simp [e1, e2] at h4 ⊢
   ·exact h2 y hy
 exact fun h => (this xs _ h).2
def cntN (of : Nat → Nat) (b : Nat) : Nat := (seenN (nameN of) b).length
theorem cntN_zero (of : Nat → Nat) : cntN of 0 = 0 := by unfold cntN; rw [seenN]; rfl
theorem cntN_old {of : Nat → Nat} {a b : Nat} (h : a < b) (e : of a = of b) : cntN of (b + 1) = cntN of b := by
 unfold cntN
 rw [seenN, if_pos ((seenN_iff _ _ _).2 ⟨a, h, nameN_iff.2 e⟩)]
theorem cntN_new {of : Nat → Nat} {b : Nat} (h : ∀ a, a < b → ¬ of a = of b) : cntN of (b + 1) = cntN of b + 1 ∧ clsN (nameN of) b = cntN of b := by
 have h1 : ¬ nameN of b ∈ seenN (nameN of) b := fun hm => by
  obtain ⟨a, ha, e⟩ := (seenN_iff _ _ _).1 hm
  exact h a ha (nameN_iff.1 e)
 have h2 : seenN (nameN of) (b + 1) = seenN (nameN of) b ++ [nameN of b] := by rw [seenN, if_neg h1]
 refine ⟨by unfold cntN; rw [h2]; simp, ?_⟩
 rw [clsN_eq _ (Nat.lt_succ_self b), h2, List.idxOf_append, if_neg h1]
 simp [cntN]
end Abs

namespace Abs
open Go Gn
set_option maxRecDepth 20000
attribute [local irreducible] cntN clsN
theorem cls_old {of : Nat → Nat} {a b : Nat} (hab : a < b) (e : of a = of b) : clsN (nameN of) a = clsN (nameN of) b :=
 (clsN_iff (N := b + 1) (by omega) (by omega)).2 (nameN_iff.2 e)
theorem canon_onto {of : Nat → Nat} {b : Nat} (hc : ∀ i, i < b → of i = clsN (nameN of) i) {k : Nat} (hk : k < cntN of b) : ∃ a, a < b ∧ of a = k := by
 have hk' : k < (seenN (nameN of) b).length := by unfold cntN at hk; exact hk
 obtain ⟨a, ha, e⟩ := seenN_of (nameN of) b (seenN (nameN of) b)[k] (List.getElem_mem hk')
 refine ⟨a, ha, ?_⟩
 rw [hc a ha, clsN_eq _ ha, e]
 exact List.Nodup.idxOf_getElem (seenN_nodup (nameN of) b) k hk'
theorem canon_lt {of : Nat → Nat} {b : Nat} (hc : ∀ i, i < b → of i = clsN (nameN of) i) {a : Nat} (ha : a < b) : of a < cntN of b := by
 rw [hc a ha, clsN_eq _ ha]
 unfold cntN
 exact List.idxOf_lt_length_of_mem (seenN_mem (nameN of) ha)
theorem may_iff (of : Nat → Nat) : ∀ (b m : Nat), mayN of b = some m ↔ (∀ i, i < b → of i = clsN (nameN of) i) ∧ m = cntN of b
 | 0, m => by
  simp only [mayN, cntN_zero, Option.some.injEq]
  exact ⟨fun h => ⟨fun i hi => absurd hi (Nat.not_lt_zero i), h.symm⟩, fun h => h.2.symm⟩
 | b + 1, m => by
  have ih := may_iff of b
  simp only [mayN]
  constructor
  ·intro h
   cases hm : mayN of b with
   | none => rw [hm] at h; simp at h
   | some k =>
    rw [hm] at h
    simp only at h
    obtain ⟨hc, rfl⟩ := (ih k).1 hm
    by_cases hgt : cntN of b < of b
    ·rw [if_pos hgt] at h; simp at h
    ·rw [if_neg hgt] at h
     by_cases heq : of b = cntN of b
     ·rw [if_pos heq] at h
      have hnew : ∀ a, a < b → ¬ of a = of b := fun a ha e => by have := canon_lt hc ha; omega
      obtain ⟨n1, n2⟩ := cntN_new hnew
      refine ⟨fun i hi => ?_, by rw [n1]; simpa using h.symm⟩
      by_cases e : i = b
      ·subst e; rw [n2]; exact heq
      ·exact hc i (by omega)
     ·rw [if_neg heq] at h
      obtain ⟨a, ha, e⟩ := canon_onto hc (k := of b) (by omega)
      refine ⟨fun i hi => ?_, by rw [cntN_old ha e]; simpa using h.symm⟩
      by_cases e2 : i = b
      ·subst e2; rw [← cls_old ha e, ← hc a ha, e]
      ·exact hc i (by omega)
  ·rintro ⟨hc, rfl⟩
   have hc' : ∀ i, i < b → of i = clsN (nameN of) i := fun i hi => hc i (by omega)
   rw [(ih (cntN of b)).2 ⟨hc', rfl⟩]
   simp only
   by_cases hold : ∃ a, a < b ∧ of a = of b
   ·obtain ⟨a, ha, e⟩ := hold
    have := canon_lt hc' ha
    rw [if_neg (by omega), if_neg (by omega), cntN_old ha e]
   ·obtain ⟨n1, n2⟩ := cntN_new (of := of) (b := b) fun a ha e => hold ⟨a, ha, e⟩
    have hb := hc b (by omega)
    rw [n2] at hb
    rw [if_neg (by omega), if_pos hb, n1]
theorem mayC_eq (of : Nat → Nat) (n : Int) : classMay of n = mayC of n := by
 unfold classMay mayC
 cases hm : mayN of 256 with
 | none =>
  simp only
  rw [Bool.and_eq_false_iff]
  refine .inl ?_
  cases hall : allEq 256 (fun i => ((of i : Nat) : Int)) (fun i => ((clsN (nameN of) i : Nat) : Int)) with
  | false => rfl
  | true =>
   rw [allEq_iff] at hall
   have := (may_iff of 256 (cntN of 256)).2 ⟨fun i hi => by have := hall i hi; omega, rfl⟩
   rw [hm] at this
   simp at this
 | some m =>
  obtain ⟨h1, h2⟩ := (may_iff of 256 m).1 hm
  have hall : allEq 256 (fun i => ((of i : Nat) : Int)) (fun i => ((clsN (nameN of) i : Nat) : Int)) = true := by
   rw [allEq_iff]
   intro i hi
   rw [← h1 i hi]
  rw [hall, Bool.true_and, h2]
  unfold cntN
  rfl
end Abs
