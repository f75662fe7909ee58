/- The functions of layer 2. -/
import Derived.Test.YtcjnpmaljfkpgaaDoorOctsA
namespace Abs
open Go
set_option linter.unusedSimpArgs false
set_option linter.all false
set_option maxRecDepth 20000

/-- A partition. -/
def classesE (of : Nat → Nat) (n : Int) : EV := .agg (tab 256 (fun i => .int .u8 ((of i : Nat) : Int)) ++ [.int .i64 n])

theorem classesE_ok {n : Nat} {of : Nat → Nat} {m : Int} : (classesE of m).ok n = true := by simp [classesE, EV.ok, okL_app, okL_tab_int, okL]

/-- The names that came, in their order. -/
def seenN (name : Nat → Nat × Nat) : Nat → List (Nat × Nat)
  | 0 => []
  | b + 1 => if name b ∈ seenN name b then seenN name b else seenN name b ++ [name b]

def clsN (name : Nat → Nat × Nat) (b : Nat) : Nat := (seenN name (b + 1)).idxOf (name b)

theorem seenN_len (name : Nat → Nat × Nat) (b : Nat) : (seenN name b).length ≤ b := by
  induction b with
  | zero => simp [seenN]
  | succ b ih =>
    simp only [seenN]
    split
    · omega
    · simp; omega

def pairE (p : Nat × Nat) : EV := .agg [.int .i64 ((p.1 : Nat) : Int), .int .i64 ((p.2 : Nat) : Int)]

def mapE : List (Nat × Nat) → Nat → List (EV × EV)
  | [], _ => []
  | p :: l, o => (pairE p, .int .u8 ((o : Nat) : Int)) :: mapE l (o + 1)

theorem eqL_pair (p q : Nat × Nat) : eqL (pairE p).cells (pairE q).cells = (p == q) := by
  obtain ⟨a, b⟩ := p
  obtain ⟨c, d⟩ := q
  simp only [pairE, EV.cells, eqL, sceq, Bool.and_true]
  rw [Bool.eq_iff_iff]
  simp [Bool.and_eq_true]
  omega

theorem lookE_mapE (p : Nat × Nat) : ∀ (l : List (Nat × Nat)) (o : Nat), lookE (pairE p) (mapE l o) = if p ∈ l then some (.int .u8 ((o + l.idxOf p : Nat) : Int)) else none
  | [], o => by simp [mapE, lookE]
  | q :: l, o => by
    simp only [mapE, lookE, eqL_pair]
    by_cases h : p = q
    · subst h; simp
    · have hb : (p == q) = false := by simpa using h
      rw [hb, lookE_mapE p l (o + 1)]
      have hq : q ≠ p := fun e => h e.symm
      simp only [Bool.false_eq_true, if_false, List.mem_cons, h, false_or]
      split
      · rw [List.idxOf_cons, show (q == p) = false by simpa using hq]
        simp only [cond_false]
        congr 2
        omega
      · rfl

theorem putE_mapE {p : Nat × Nat} {v : EV} : ∀ {l : List (Nat × Nat)} {o : Nat}, p ∉ l → putE (pairE p) v (mapE l o) = mapE l o ++ [(pairE p, v)]
  | [], o, _ => rfl
  | q :: l, o, h => by
    simp only [List.mem_cons, not_or] at h
    have hb : (p == q) = false := by simpa using h.1
    simp only [mapE, putE, eqL_pair, hb, Bool.false_eq_true, if_false, List.cons_append]
    rw [putE_mapE h.2]

theorem mapE_app (p : Nat × Nat) : ∀ (l : List (Nat × Nat)) (o : Nat), mapE (l ++ [p]) o = mapE l o ++ [(pairE p, .int .u8 ((o + l.length : Nat) : Int))]
  | [], o => by simp [mapE]
  | q :: l, o => by
    simp only [List.cons_append, mapE, mapE_app p l (o + 1), List.length_cons]
    rw [show o + 1 + l.length = o + (l.length + 1) by omega]

theorem keyFit_pair {p : Nat × Nat} : keyFit true [.i .i64, .i .i64] (pairE p) = true := rfl
theorem fitsAll_mapE : ∀ {l : List (Nat × Nat)} {o : Nat}, fitsAll true [.i .i64, .i .i64] (mapE l o) = true
  | [], _ => rfl
  | p :: l, o => by
    have := fitsAll_mapE (l := l) (o := o + 1)
    simp only [fitsAll] at this
    simp [fitsAll, mapE, keyFit_pair, this]

theorem pairE_ok {n : Nat} {p : Nat × Nat} : (pairE p).ok n = true := rfl
theorem mapE_ok {n : Nat} : ∀ {l : List (Nat × Nat)} {o : Nat}, (EB.map (mapE l o)).ok n = true
  | [], _ => rfl
  | p :: l, o => by
    have := mapE_ok (n := n) (l := l) (o := o + 1)
    simp only [EB.ok] at this
    simp only [EB.ok, mapE, List.all_cons, this]
    rfl

section
variable {P : Program} {γ : Nat → EV}

set_option maxHeartbeats 4000000 in
theorem renamed_ok {f g : FuncId} {cap : List EV} {H : Heap} (name : Nat → Nat × Nat) (hb : Body P f class_renamed class_renamed_r 40) (hcap : okL H.length cap = true)
    (hg : ∀ b, b < 256 → ∀ G, CallsA P γ g ([] ++ [.int .i64 ((b : Nat) : Int)] ++ cap) (H ++ G) fun er H' => er = .ret (pairE (name b)) ∧ H' = H ++ G) :
    CallsA P γ f [.func (.func g) [] cap] H fun er H' => er = .ret (classesE (clsN name) (seenN name 256).length) ∧ H' = H := by
  refine hb.calls (by simp) fun hok => ?_
  unfold class_renamed
  repeat' first
    | with_reducible first | refine wpc_seq ?_ | refine wpc_ops ?_ | refine wops_nil ?_ | refine then_normal ?_ | refine wpc_block ?_ | refine block_normal ?_ | refine wpc_skip ?_ | refine wpc_exit ?_ | refine then_exit ?_ | refine block_exit_same ?_ | refine wpc_ret ?_ | refine then_ret ?_ | refine block_ret ?_ | refine wpc_draw ?_ | refine wdr_nil ?_ | refine gate_t ?_ | refine gate_f ?_ | refine gate_tt ?_ | refine gate_ff ?_ | refine gate_tf ?_ | refine gate_ft ?_ | exact keep_same | exact keep_true
    | (with_reducible refine block_exit_other ?_ ?_; decide)
    | ((with_reducible refine keep_rfl ?_); exact rfl)
    | ((with_reducible first | apply wops_guard | apply wdr_guard | apply wpc_test); focus (simp (disch := omega) only [go_sem, ↓reduceIte, simprocAttr, reduceCtorEq]; with_reducible first | exact lit_t | exact lit_f))
    | ((with_reducible first | apply wops_gone | apply wdr_gone); focus (simp (disch := omega) only [go_sem, ↓reduceIte, simprocAttr, reduceCtorEq]; done))
    | ((with_reducible first | apply wops_step | apply wops_do | apply wdr_step); focus (simp (disch := omega) only [go_sem, ↓reduceIte, simprocAttr, reduceCtorEq]; first | with_reducible exact rfl | (rw [if_pos (by first | omega | (constructor <;> omega) | (simp; done) | assumption)]; first | with_reducible exact rfl | (try simp (disch := omega) only [go_sem, ↓reduceIte, simprocAttr, reduceCtorEq]; with_reducible exact rfl))))
  refine wpc_while (ι := Nat) (fun b => b ≤ 256) (fun b => 256 - b) (fun b => [(0, .func (.func g) [] cap), (2, .ptr H.length 257 0 0), (3, .ptr (H.length + 1) 257 0 0), (4, .map (H.length + 2)), (9, .int .i64 b)])
    (fun b => H ++ [some (.row 257 [classesE (fun _ => 0) 0]), some (.row 257 [classesE (fun i => if i < b then clsN name i else 0) (seenN name b).length]), some (.map (mapE (seenN name b) 0))]) 0 (by omega) ?_ ?_ ?_ ?_ ?_
  · (repeat' (first | exact trivial | refine And.intro (And.intro ?_ ?_) ?_)) <;> first | exact rfl | (simp (disch := omega) only [go_sem, ↓reduceIte, simprocAttr, reduceCtorEq, okL_mono (Nat.le_add_right _ 3) cap hcap, EV.ok, okL_tab_int, okL_tab_bool, okL_app, okL, decide_eq_true_eq, EV.int.injEq]; done) | (simp (disch := omega) only [go_sem, ↓reduceIte, simprocAttr, reduceCtorEq, okL_mono (Nat.le_add_right _ 3) cap hcap, EV.ok, okL_tab_int, okL_tab_bool, okL_app, okL, decide_eq_true_eq, EV.int.injEq] <;> first | exact rfl | omega)
  · simp [classesE, seenN, mapE]
  · exact fun i _ => okH_app hok (by simp only [okG, mapE_ok, Bool.and_true, Bool.and_eq_true]; simp [EB.ok, okL, classesE, EV.ok, okL_tab_int, okL_app])
  · simp
  · intro b hb8 K Q' hK hQ'
    repeat' first
      | with_reducible first | refine wpc_seq ?_ | refine wpc_ops ?_ | refine wops_nil ?_ | refine then_normal ?_ | refine wpc_block ?_ | refine block_normal ?_ | refine wpc_skip ?_ | refine wpc_exit ?_ | refine then_exit ?_ | refine block_exit_same ?_ | refine wpc_ret ?_ | refine then_ret ?_ | refine block_ret ?_ | refine wpc_draw ?_ | refine wdr_nil ?_ | refine gate_t ?_ | refine gate_f ?_ | refine gate_tt ?_ | refine gate_ff ?_ | refine gate_tf ?_ | refine gate_ft ?_ | exact keep_same | exact keep_true
      | (with_reducible refine block_exit_other ?_ ?_; decide)
      | ((with_reducible refine keep_rfl ?_); exact rfl)
      | ((with_reducible first | apply wops_guard | apply wdr_guard | apply wpc_test); focus (simp (disch := omega) only [go_sem, ↓reduceIte, simprocAttr, reduceCtorEq]; with_reducible first | exact lit_t | exact lit_f))
      | ((with_reducible first | apply wops_gone | apply wdr_gone); focus (simp (disch := omega) only [go_sem, ↓reduceIte, simprocAttr, reduceCtorEq]; done))
      | ((with_reducible first | apply wops_step | apply wops_do | apply wdr_step); focus (simp (disch := omega) only [go_sem, ↓reduceIte, simprocAttr, reduceCtorEq]; first | with_reducible exact rfl | (rw [if_pos (by first | omega | (constructor <;> omega) | (simp; done) | assumption)]; first | with_reducible exact rfl | (try simp (disch := omega) only [go_sem, ↓reduceIte, simprocAttr, reduceCtorEq]; with_reducible exact rfl))))
    refine wpc_cond (t := decide ((b : Int) < 256)) (by simp (disch := omega) only [go_sem, ↓reduceIte, simprocAttr, reduceCtorEq]) (fun ht => ?_) (fun ht => ?_)
    · have hbl : b < 256 := by have := of_decide_eq_true ht; omega
      have hlen := seenN_len name b
      repeat' first
        | with_reducible first | refine wpc_seq ?_ | refine wpc_ops ?_ | refine wops_nil ?_ | refine then_normal ?_ | refine wpc_block ?_ | refine block_normal ?_ | refine wpc_skip ?_ | refine wpc_exit ?_ | refine then_exit ?_ | refine block_exit_same ?_ | refine wpc_ret ?_ | refine then_ret ?_ | refine block_ret ?_ | refine wpc_draw ?_ | refine wdr_nil ?_ | refine gate_t ?_ | refine gate_f ?_ | refine gate_tt ?_ | refine gate_ff ?_ | refine gate_tf ?_ | refine gate_ft ?_ | exact keep_same | exact keep_true
        | (with_reducible refine block_exit_other ?_ ?_; decide)
        | ((with_reducible refine keep_rfl ?_); exact rfl)
        | ((with_reducible first | apply wops_guard | apply wdr_guard | apply wpc_test); focus (simp (disch := omega) only [go_sem, ↓reduceIte, simprocAttr, reduceCtorEq]; with_reducible first | exact lit_t | exact lit_f))
        | ((with_reducible first | apply wops_gone | apply wdr_gone); focus (simp (disch := omega) only [go_sem, ↓reduceIte, simprocAttr, reduceCtorEq]; done))
        | ((with_reducible first | apply wops_step | apply wops_do | apply wdr_step); focus (simp (disch := omega) only [go_sem, ↓reduceIte, simprocAttr, reduceCtorEq]; first | with_reducible exact rfl | (rw [if_pos (by first | omega | (constructor <;> omega) | (simp; done) | assumption)]; first | with_reducible exact rfl | (try simp (disch := omega) only [go_sem, ↓reduceIte, simprocAttr, reduceCtorEq]; with_reducible exact rfl))))
      with_reducible apply wops_call1
      · first | exact rfl | (simp (disch := omega) only [go_sem, ↓reduceIte, simprocAttr, reduceCtorEq]; exact rfl)
      · (simp (disch := omega) only [go_sem, ↓reduceIte, simprocAttr, reduceCtorEq]; exact rfl)
      · exact hg b hbl _
      by_cases hm : name b ∈ seenN name b
      · have hs : seenN name (b + 1) = seenN name b := by simp [seenN, hm]
        have hc : clsN name b = (seenN name b).idxOf (name b) := by rw [clsN, hs]
        repeat' first
          | with_reducible first | refine wpc_seq ?_ | refine wpc_ops ?_ | refine wops_nil ?_ | refine then_normal ?_ | refine wpc_block ?_ | refine block_normal ?_ | refine wpc_skip ?_ | refine wpc_exit ?_ | refine then_exit ?_ | refine block_exit_same ?_ | refine wpc_ret ?_ | refine then_ret ?_ | refine block_ret ?_ | refine wpc_draw ?_ | refine wdr_nil ?_ | refine gate_t ?_ | refine gate_f ?_ | refine gate_tt ?_ | refine gate_ff ?_ | refine gate_tf ?_ | refine gate_ft ?_ | exact keep_same | exact keep_true
          | (with_reducible refine block_exit_other ?_ ?_; decide)
          | ((with_reducible refine keep_rfl ?_); exact rfl)
          | ((with_reducible first | apply wops_guard | apply wdr_guard | apply wpc_test); focus (simp (disch := omega) only [go_sem, ↓reduceIte, simprocAttr, reduceCtorEq, evLookup, keyFit_pair, fitsAll_mapE, lookE_mapE, hm, classesE]; with_reducible first | exact lit_t | exact lit_f))
          | ((with_reducible first | apply wops_gone | apply wdr_gone); focus (simp (disch := omega) only [go_sem, ↓reduceIte, simprocAttr, reduceCtorEq, evLookup, keyFit_pair, fitsAll_mapE, lookE_mapE, hm, classesE]; done))
          | ((with_reducible first | apply wops_step | apply wops_do | apply wdr_step); focus (simp (disch := omega) only [go_sem, ↓reduceIte, simprocAttr, reduceCtorEq, evLookup, keyFit_pair, fitsAll_mapE, lookE_mapE, hm, classesE]; first | with_reducible exact rfl | (rw [if_pos (by first | omega | (constructor <;> omega) | (simp; done) | assumption)]; first | with_reducible exact rfl | (try simp (disch := omega) only [go_sem, ↓reduceIte, simprocAttr, reduceCtorEq, evLookup, keyFit_pair, fitsAll_mapE, lookE_mapE, hm, classesE]; with_reducible exact rfl))))
        refine hK (b + 1) _ _ [] (by omega) (by omega) ?_ ?_
        · have e := sweep (κ := .u8) (a := clsN name) (b := fun _ => 0) (i := b)
          rw [hc] at e
          simp only [classesE, e, hs, List.append_nil, Int.natCast_zero]
        · (repeat' (first | exact trivial | refine And.intro (And.intro ?_ ?_) ?_)) <;> first | exact rfl | (simp (disch := omega) only [go_sem, ↓reduceIte, simprocAttr, reduceCtorEq, okL_mono (Nat.le_add_right _ 3) cap hcap, EV.ok, okL_tab_int, okL_tab_bool, okL_app, okL, decide_eq_true_eq, EV.int.injEq]; done) | (simp (disch := omega) only [go_sem, ↓reduceIte, simprocAttr, reduceCtorEq, okL_mono (Nat.le_add_right _ 3) cap hcap, EV.ok, okL_tab_int, okL_tab_bool, okL_app, okL, decide_eq_true_eq, EV.int.injEq] <;> first | exact rfl | omega)
      · have hs : seenN name (b + 1) = seenN name b ++ [name b] := by simp [seenN, hm]
        have hc : clsN name b = (seenN name b).length := by rw [clsN, hs]; simp [List.idxOf_append, hm]
        repeat' first
          | with_reducible first | refine wpc_seq ?_ | refine wpc_ops ?_ | refine wops_nil ?_ | refine then_normal ?_ | refine wpc_block ?_ | refine block_normal ?_ | refine wpc_skip ?_ | refine wpc_exit ?_ | refine then_exit ?_ | refine block_exit_same ?_ | refine wpc_ret ?_ | refine then_ret ?_ | refine block_ret ?_ | refine wpc_draw ?_ | refine wdr_nil ?_ | refine gate_t ?_ | refine gate_f ?_ | refine gate_tt ?_ | refine gate_ff ?_ | refine gate_tf ?_ | refine gate_ft ?_ | exact keep_same | exact keep_true
          | (with_reducible refine block_exit_other ?_ ?_; decide)
          | ((with_reducible refine keep_rfl ?_); exact rfl)
          | ((with_reducible first | apply wops_guard | apply wdr_guard | apply wpc_test); focus (simp (disch := omega) only [go_sem, ↓reduceIte, simprocAttr, reduceCtorEq, evLookup, keyFit_pair, fitsAll_mapE, lookE_mapE, hm, classesE]; with_reducible first | exact lit_t | exact lit_f))
          | ((with_reducible first | apply wops_gone | apply wdr_gone); focus (simp (disch := omega) only [go_sem, ↓reduceIte, simprocAttr, reduceCtorEq, evLookup, keyFit_pair, fitsAll_mapE, lookE_mapE, hm, classesE]; done))
          | ((with_reducible first | apply wops_step | apply wops_do | apply wdr_step); focus (simp (disch := omega) only [go_sem, ↓reduceIte, simprocAttr, reduceCtorEq, evLookup, keyFit_pair, fitsAll_mapE, lookE_mapE, hm, classesE]; first | with_reducible exact rfl | (rw [if_pos (by first | omega | (constructor <;> omega) | (simp; done) | assumption)]; first | with_reducible exact rfl | (try simp (disch := omega) only [go_sem, ↓reduceIte, simprocAttr, reduceCtorEq, evLookup, keyFit_pair, fitsAll_mapE, lookE_mapE, hm, classesE]; with_reducible exact rfl))))
        with_reducible apply wops_call1
        · first | exact rfl | (simp (disch := omega) only [go_sem, ↓reduceIte, simprocAttr, reduceCtorEq]; exact rfl)
        · (simp (disch := omega) only [go_sem, ↓reduceIte, simprocAttr, reduceCtorEq]; exact rfl)
        · exact hg b hbl _
        repeat' first
          | with_reducible first | refine wpc_seq ?_ | refine wpc_ops ?_ | refine wops_nil ?_ | refine then_normal ?_ | refine wpc_block ?_ | refine block_normal ?_ | refine wpc_skip ?_ | refine wpc_exit ?_ | refine then_exit ?_ | refine block_exit_same ?_ | refine wpc_ret ?_ | refine then_ret ?_ | refine block_ret ?_ | refine wpc_draw ?_ | refine wdr_nil ?_ | refine gate_t ?_ | refine gate_f ?_ | refine gate_tt ?_ | refine gate_ff ?_ | refine gate_tf ?_ | refine gate_ft ?_ | exact keep_same | exact keep_true
          | (with_reducible refine block_exit_other ?_ ?_; decide)
          | ((with_reducible refine keep_rfl ?_); exact rfl)
          | ((with_reducible first | apply wops_guard | apply wdr_guard | apply wpc_test); focus (simp (disch := omega) only [go_sem, ↓reduceIte, simprocAttr, reduceCtorEq, evMapset, keyFit_pair, fitsAll_mapE, putE_mapE hm, hm, classesE]; with_reducible first | exact lit_t | exact lit_f))
          | ((with_reducible first | apply wops_gone | apply wdr_gone); focus (simp (disch := omega) only [go_sem, ↓reduceIte, simprocAttr, reduceCtorEq, evMapset, keyFit_pair, fitsAll_mapE, putE_mapE hm, hm, classesE]; done))
          | ((with_reducible first | apply wops_step | apply wops_do | apply wdr_step); focus (simp (disch := omega) only [go_sem, ↓reduceIte, simprocAttr, reduceCtorEq, evMapset, keyFit_pair, fitsAll_mapE, putE_mapE hm, hm, classesE]; first | with_reducible exact rfl | (rw [if_pos (by first | omega | (constructor <;> omega) | (simp; done) | assumption)]; first | with_reducible exact rfl | (try simp (disch := omega) only [go_sem, ↓reduceIte, simprocAttr, reduceCtorEq, evMapset, keyFit_pair, fitsAll_mapE, putE_mapE hm, hm, classesE]; with_reducible exact rfl))))
        refine hK (b + 1) _ _ [] (by omega) (by omega) ?_ ?_
        · have e := sweep (κ := .u8) (a := clsN name) (b := fun _ => 0) (i := b)
          rw [hc] at e
          simp only [classesE, e, hs, List.append_nil, Int.natCast_zero, mapE_app, List.length_append, List.length_cons, List.length_nil, Nat.zero_add, Int.natCast_add, Int.natCast_one]
        · (repeat' (first | exact trivial | refine And.intro (And.intro ?_ ?_) ?_)) <;> first | exact rfl | (simp (disch := omega) only [go_sem, ↓reduceIte, simprocAttr, reduceCtorEq, okL_mono (Nat.le_add_right _ 3) cap hcap, EV.ok, okL_tab_int, okL_tab_bool, okL_app, okL, decide_eq_true_eq, EV.int.injEq]; done) | (simp (disch := omega) only [go_sem, ↓reduceIte, simprocAttr, reduceCtorEq, okL_mono (Nat.le_add_right _ 3) cap hcap, EV.ok, okL_tab_int, okL_tab_bool, okL_app, okL, decide_eq_true_eq, EV.int.injEq] <;> first | exact rfl | omega)
    · have hi4 : b = 256 := by have := of_decide_eq_false ht; omega
      subst hi4
      repeat' first
        | with_reducible first | refine wpc_seq ?_ | refine wpc_ops ?_ | refine wops_nil ?_ | refine then_normal ?_ | refine wpc_block ?_ | refine block_normal ?_ | refine wpc_skip ?_ | refine wpc_exit ?_ | refine then_exit ?_ | refine block_exit_same ?_ | refine wpc_ret ?_ | refine then_ret ?_ | refine block_ret ?_ | refine wpc_draw ?_ | refine wdr_nil ?_ | refine gate_t ?_ | refine gate_f ?_ | refine gate_tt ?_ | refine gate_ff ?_ | refine gate_tf ?_ | refine gate_ft ?_ | exact keep_same | exact keep_true
        | (with_reducible refine block_exit_other ?_ ?_; decide)
        | ((with_reducible refine keep_rfl ?_); exact rfl)
        | ((with_reducible first | apply wops_guard | apply wdr_guard | apply wpc_test); focus (simp (disch := omega) only [go_sem, ↓reduceIte, simprocAttr, reduceCtorEq]; with_reducible first | exact lit_t | exact lit_f))
        | ((with_reducible first | apply wops_gone | apply wdr_gone); focus (simp (disch := omega) only [go_sem, ↓reduceIte, simprocAttr, reduceCtorEq]; done))
        | ((with_reducible first | apply wops_step | apply wops_do | apply wdr_step); focus (simp (disch := omega) only [go_sem, ↓reduceIte, simprocAttr, reduceCtorEq]; first | with_reducible exact rfl | (rw [if_pos (by first | omega | (constructor <;> omega) | (simp; done) | assumption)]; first | with_reducible exact rfl | (try simp (disch := omega) only [go_sem, ↓reduceIte, simprocAttr, reduceCtorEq]; with_reducible exact rfl))))
      refine hQ' _ _ _ ?_
      repeat' first
        | with_reducible first | refine wpc_seq ?_ | refine wpc_ops ?_ | refine wops_nil ?_ | refine then_normal ?_ | refine wpc_block ?_ | refine block_normal ?_ | refine wpc_skip ?_ | refine wpc_exit ?_ | refine then_exit ?_ | refine block_exit_same ?_ | refine wpc_ret ?_ | refine then_ret ?_ | refine block_ret ?_ | refine wpc_draw ?_ | refine wdr_nil ?_ | refine gate_t ?_ | refine gate_f ?_ | refine gate_tt ?_ | refine gate_ff ?_ | refine gate_tf ?_ | refine gate_ft ?_ | exact keep_same | exact keep_true
        | (with_reducible refine block_exit_other ?_ ?_; decide)
        | ((with_reducible refine keep_rfl ?_); exact rfl)
        | ((with_reducible first | apply wops_guard | apply wdr_guard | apply wpc_test); focus (simp (disch := omega) only [go_sem, ↓reduceIte, simprocAttr, reduceCtorEq, classesE]; with_reducible first | exact lit_t | exact lit_f))
        | ((with_reducible first | apply wops_gone | apply wdr_gone); focus (simp (disch := omega) only [go_sem, ↓reduceIte, simprocAttr, reduceCtorEq, classesE]; done))
        | ((with_reducible first | apply wops_step | apply wops_do | apply wdr_step); focus (simp (disch := omega) only [go_sem, ↓reduceIte, simprocAttr, reduceCtorEq, classesE]; first | with_reducible exact rfl | (rw [if_pos (by first | omega | (constructor <;> omega) | (simp; done) | assumption)]; first | with_reducible exact rfl | (try simp (disch := omega) only [go_sem, ↓reduceIte, simprocAttr, reduceCtorEq, classesE]; with_reducible exact rfl))))
      refine end_drop hok (r := classesE (clsN name) (seenN name 256).length) ?_ ?_ ⟨rfl, rfl⟩
      · first | (simp (disch := omega) only [go_sem, ↓reduceIte, simprocAttr, reduceCtorEq, evResults, evResL, evRes, class_renamed_r, classesE]; done) | (simp (disch := omega) only [go_sem, ↓reduceIte, simprocAttr, reduceCtorEq, evResults, evResL, evRes, class_renamed_r, classesE]; with_reducible exact rfl) | exact rfl
      · first | (simp [EV.ok, okL, okL_tab_int, okL_tab_bool, okL_app, classesE]; done)

end
end Abs

namespace Abs
open Go
set_option linter.all false
set_option maxRecDepth 20000

section
variable {P : Program} {γ : Nat → EV}

def hasN (x : Nat → Nat) (of : Nat → Nat) (b : Nat) : Nat × Nat := (of b, if inSet x b then 1 else 0)

set_option maxHeartbeats 4000000 in
theorem part_c1_ok {f fh : FuncId} (hb : Body P f (class_Part_c1 fh) class_Part_c1_r 21) (hh : HasOk P γ fh .u8) {H : Heap} {p q : Nat} {x of : Nat → Nat} {n : Int} (hp : H[p]? = some (some (.row 4 [setE x])))
    (hq : H[q]? = some (some (.row 257 [classesE of n]))) (hx : Words x) {b : Nat} (hof : of b < 256) (hb8 : b < 256) :
    CallsA P γ f [.int .i64 b, .ptr p 4 0 0, .ptr q 257 0 0] H fun er H' => er = .ret (pairE (hasN x of b)) ∧ H' = H := by
  refine hb.calls (by simp) fun hok => ?_
  unfold class_Part_c1
  repeat' first
    | with_reducible first | refine wpc_seq ?_ | refine wpc_ops ?_ | refine wops_nil ?_ | refine then_normal ?_ | refine wpc_block ?_ | refine block_normal ?_ | refine wpc_skip ?_ | refine wpc_exit ?_ | refine then_exit ?_ | refine block_exit_same ?_ | refine wpc_ret ?_ | refine then_ret ?_ | refine block_ret ?_ | refine wpc_draw ?_ | refine wdr_nil ?_ | refine gate_t ?_ | refine gate_f ?_ | refine gate_tt ?_ | refine gate_ff ?_ | refine gate_tf ?_ | refine gate_ft ?_ | exact keep_same | exact keep_true
    | (with_reducible refine block_exit_other ?_ ?_; decide)
    | ((with_reducible refine keep_rfl ?_); exact rfl)
    | ((with_reducible first | apply wops_guard | apply wdr_guard | apply wpc_test); focus (simp (disch := omega) only [go_sem, ↓reduceIte, simprocAttr, reduceCtorEq, app_old hp, app_old hq, setE, classesE]; with_reducible first | exact lit_t | exact lit_f))
    | ((with_reducible first | apply wops_gone | apply wdr_gone); focus (simp (disch := omega) only [go_sem, ↓reduceIte, simprocAttr, reduceCtorEq, app_old hp, app_old hq, setE, classesE]; done))
    | ((with_reducible first | apply wops_step | apply wops_do | apply wdr_step); focus (simp (disch := omega) only [go_sem, ↓reduceIte, simprocAttr, reduceCtorEq, app_old hp, app_old hq, setE, classesE]; first | with_reducible exact rfl | (rw [if_pos (by first | omega | (constructor <;> omega) | (simp; done) | assumption)]; first | with_reducible exact rfl | (try simp (disch := omega) only [go_sem, ↓reduceIte, simprocAttr, reduceCtorEq, app_old hp, app_old hq, setE, classesE]; with_reducible exact rfl))))
  with_reducible apply wops_call1
  · first | exact rfl | (simp (disch := omega) only [go_sem, ↓reduceIte, simprocAttr, reduceCtorEq, setE]; exact rfl)
  · (simp (disch := omega) only [go_sem, ↓reduceIte, simprocAttr, reduceCtorEq, setE]; exact rfl)
  · exact hh x b _ hx hb8
  cases hs : inSet x b
  · repeat' first
      | with_reducible first | refine wpc_seq ?_ | refine wpc_ops ?_ | refine wops_nil ?_ | refine then_normal ?_ | refine wpc_block ?_ | refine block_normal ?_ | refine wpc_skip ?_ | refine wpc_exit ?_ | refine then_exit ?_ | refine block_exit_same ?_ | refine wpc_ret ?_ | refine then_ret ?_ | refine block_ret ?_ | refine wpc_draw ?_ | refine wdr_nil ?_ | refine gate_t ?_ | refine gate_f ?_ | refine gate_tt ?_ | refine gate_ff ?_ | refine gate_tf ?_ | refine gate_ft ?_ | exact keep_same | exact keep_true
      | (with_reducible refine block_exit_other ?_ ?_; decide)
      | ((with_reducible refine keep_rfl ?_); exact rfl)
      | ((with_reducible first | apply wops_guard | apply wdr_guard | apply wpc_test); focus (simp (disch := omega) only [go_sem, ↓reduceIte, simprocAttr, reduceCtorEq, hs, app_old hp, app_old hq, setE, classesE]; with_reducible first | exact lit_t | exact lit_f))
      | ((with_reducible first | apply wops_gone | apply wdr_gone); focus (simp (disch := omega) only [go_sem, ↓reduceIte, simprocAttr, reduceCtorEq, hs, app_old hp, app_old hq, setE, classesE]; done))
      | ((with_reducible first | apply wops_step | apply wops_do | apply wdr_step); focus (simp (disch := omega) only [go_sem, ↓reduceIte, simprocAttr, reduceCtorEq, hs, app_old hp, app_old hq, setE, classesE]; first | with_reducible exact rfl | (rw [if_pos (by first | omega | (constructor <;> omega) | (simp; done) | assumption)]; first | with_reducible exact rfl | (try simp (disch := omega) only [go_sem, ↓reduceIte, simprocAttr, reduceCtorEq, hs, app_old hp, app_old hq, setE, classesE]; with_reducible exact rfl))))
    refine end_drop hok (r := pairE (hasN x of b)) ?_ ?_ ⟨rfl, rfl⟩
    · first | (simp (disch := omega) only [go_sem, ↓reduceIte, simprocAttr, reduceCtorEq, evResults, evResL, evRes, class_Part_c1_r, pairE, hasN, hs, Int.natCast_one]; done) | (simp (disch := omega) only [go_sem, ↓reduceIte, simprocAttr, reduceCtorEq, evResults, evResL, evRes, class_Part_c1_r, pairE, hasN, hs, Int.natCast_one]; with_reducible exact rfl) | exact rfl
    · first | (simp [EV.ok, okL, okL_tab_int, okL_tab_bool, okL_app, pairE, hasN, hs, Int.natCast_one]; done)
  · repeat' first
      | with_reducible first | refine wpc_seq ?_ | refine wpc_ops ?_ | refine wops_nil ?_ | refine then_normal ?_ | refine wpc_block ?_ | refine block_normal ?_ | refine wpc_skip ?_ | refine wpc_exit ?_ | refine then_exit ?_ | refine block_exit_same ?_ | refine wpc_ret ?_ | refine then_ret ?_ | refine block_ret ?_ | refine wpc_draw ?_ | refine wdr_nil ?_ | refine gate_t ?_ | refine gate_f ?_ | refine gate_tt ?_ | refine gate_ff ?_ | refine gate_tf ?_ | refine gate_ft ?_ | exact keep_same | exact keep_true
      | (with_reducible refine block_exit_other ?_ ?_; decide)
      | ((with_reducible refine keep_rfl ?_); exact rfl)
      | ((with_reducible first | apply wops_guard | apply wdr_guard | apply wpc_test); focus (simp (disch := omega) only [go_sem, ↓reduceIte, simprocAttr, reduceCtorEq, hs, app_old hp, app_old hq, setE, classesE]; with_reducible first | exact lit_t | exact lit_f))
      | ((with_reducible first | apply wops_gone | apply wdr_gone); focus (simp (disch := omega) only [go_sem, ↓reduceIte, simprocAttr, reduceCtorEq, hs, app_old hp, app_old hq, setE, classesE]; done))
      | ((with_reducible first | apply wops_step | apply wops_do | apply wdr_step); focus (simp (disch := omega) only [go_sem, ↓reduceIte, simprocAttr, reduceCtorEq, hs, app_old hp, app_old hq, setE, classesE]; first | with_reducible exact rfl | (rw [if_pos (by first | omega | (constructor <;> omega) | (simp; done) | assumption)]; first | with_reducible exact rfl | (try simp (disch := omega) only [go_sem, ↓reduceIte, simprocAttr, reduceCtorEq, hs, app_old hp, app_old hq, setE, classesE]; with_reducible exact rfl))))
    refine end_drop hok (r := pairE (hasN x of b)) ?_ ?_ ⟨rfl, rfl⟩
    · first | (simp (disch := omega) only [go_sem, ↓reduceIte, simprocAttr, reduceCtorEq, evResults, evResL, evRes, class_Part_c1_r, pairE, hasN, hs, Int.natCast_one]; done) | (simp (disch := omega) only [go_sem, ↓reduceIte, simprocAttr, reduceCtorEq, evResults, evResL, evRes, class_Part_c1_r, pairE, hasN, hs, Int.natCast_one]; with_reducible exact rfl) | exact rfl
    · first | (simp [EV.ok, okL, okL_tab_int, okL_tab_bool, okL_app, pairE, hasN, hs, Int.natCast_one]; done)

/-- A slice value with given elements that nobody writes. -/
structure SliceOf (sz : Nat) (v : EV) (es : List EV) : Prop where
  len : evLen false v = some es.length
  elem : ∀ (i : Nat) (e : EV), es[i]? = some e → evElem sz (i : Int) v = some (.iptr e.cells 0)
  ok : v.ok 0 = true

theorem sliceOf_imm {sz : Nat} {es : List EV} (h : okL 0 es = true) : SliceOf sz (.imm sz es) es := ⟨rfl, fun i e he => by simp [evElem, he], by simpa [EV.ok] using h⟩
theorem sliceOf_nil {sz : Nat} : SliceOf sz .nilsl [] := ⟨rfl, fun i e he => by simp at he, rfl⟩

theorem clsN_lt (name : Nat → Nat × Nat) (b : Nat) : clsN name b < b + 1 := by
  have h1 := seenN_len name (b + 1)
  have h2 : name b ∈ seenN name (b + 1) := by
    simp only [seenN]
    split
    · assumption
    · simp
  have h3 := List.idxOf_lt_length_of_mem h2
  unfold clsN
  omega

def partStep (p : (Nat → Nat) × Nat) (x : Nat → Nat) : (Nat → Nat) × Nat := (clsN (hasN x p.1), (seenN (hasN x p.1) 256).length)
/-- The partition of sets. -/
def partF (xs : List (Nat → Nat)) : (Nat → Nat) × Nat := xs.foldl partStep (fun _ => 0, 1)

theorem partF_lt (xs : List (Nat → Nat)) (b : Nat) (hb : b < 256) : (partF xs).1 b < 256 := by
  have : ∀ (xs : List (Nat → Nat)) (p : (Nat → Nat) × Nat), p.1 b < 256 → (xs.foldl partStep p).1 b < 256 := by
    intro xs
    induction xs with
    | nil => intro p h; exact h
    | cons x xs ih =>
      intro p h
      rw [List.foldl_cons]
      refine ih _ ?_
      have := clsN_lt (hasN x p.1) b
      simp only [partStep]
      omega
  exact this xs _ (by simp)

theorem classesE_cells {of : Nat → Nat} {n : Int} : classesE of n = .agg (tab 256 (fun i => .int .u8 ((of i : Nat) : Int)) ++ [.int .i64 n]) := rfl

set_option maxHeartbeats 4000000 in
theorem part_ok {f fc fr fh : FuncId} (hb : Body P f (class_Part fc fr) class_Part_r 19) (hc : Body P fc (class_Part_c1 fh) class_Part_c1_r 21) (hr : Body P fr class_renamed class_renamed_r 40) (hh : HasOk P γ fh .u8)
    {v : EV} {xs : List (Nat → Nat)} (hv : SliceOf 4 v (xs.map setE)) (hx : ∀ x ∈ xs, Words x) (hlen : xs.length ≤ 9223372036854775807) (H : Heap) :
    CallsA P γ f [v] H fun er H' => er = .ret (classesE (partF xs).1 (partF xs).2) ∧ H' = H := by
  refine hb.calls (by simp) fun hok => ?_
  have hvl := hv.len
  rw [List.length_map] at hvl
  have hvok : ∀ n, v.ok n = true := fun n => EV.ok_mono (Nat.zero_le n) v hv.ok
  unfold class_Part
  repeat' first
    | with_reducible first | refine wpc_seq ?_ | refine wpc_ops ?_ | refine wops_nil ?_ | refine then_normal ?_ | refine wpc_block ?_ | refine block_normal ?_ | refine wpc_skip ?_ | refine wpc_exit ?_ | refine then_exit ?_ | refine block_exit_same ?_ | refine wpc_ret ?_ | refine then_ret ?_ | refine block_ret ?_ | refine wpc_draw ?_ | refine wdr_nil ?_ | refine gate_t ?_ | refine gate_f ?_ | refine gate_tt ?_ | refine gate_ff ?_ | refine gate_tf ?_ | refine gate_ft ?_ | exact keep_same | exact keep_true
    | (with_reducible refine block_exit_other ?_ ?_; decide)
    | ((with_reducible refine keep_rfl ?_); exact rfl)
    | ((with_reducible first | apply wops_guard | apply wdr_guard | apply wpc_test); focus (simp (disch := omega) only [go_sem, ↓reduceIte, simprocAttr, reduceCtorEq, hvl]; with_reducible first | exact lit_t | exact lit_f))
    | ((with_reducible first | apply wops_gone | apply wdr_gone); focus (simp (disch := omega) only [go_sem, ↓reduceIte, simprocAttr, reduceCtorEq, hvl]; done))
    | ((with_reducible first | apply wops_step | apply wops_do | apply wdr_step); focus (simp (disch := omega) only [go_sem, ↓reduceIte, simprocAttr, reduceCtorEq, hvl]; first | with_reducible exact rfl | (rw [if_pos (by first | omega | (constructor <;> omega) | (simp; done) | assumption)]; first | with_reducible exact rfl | (try simp (disch := omega) only [go_sem, ↓reduceIte, simprocAttr, reduceCtorEq, hvl]; with_reducible exact rfl))))
  refine wpc_while (ι := Nat) (fun i => i ≤ xs.length) (fun i => xs.length - i) (fun i => [(2, .ptr H.length 257 0 0), (3, .ptr (H.length + 1) 257 0 0), (8, v), (9, .int .i64 xs.length), (10, .int .i64 i)])
    (fun i => H ++ [some (.row 257 [classesE (fun _ => 0) 0]), some (.row 257 [classesE (partF (xs.take i)).1 (partF (xs.take i)).2])]) 0 (by omega) ?_ ?_ ?_ ?_ ?_
  · (repeat' (first | exact trivial | refine And.intro (And.intro ?_ ?_) ?_)) <;> first | exact rfl | (simp (disch := omega) only [go_sem, ↓reduceIte, simprocAttr, reduceCtorEq, hvok, EV.ok, okL_tab_int, okL_tab_bool, okL_app, okL, decide_eq_true_eq, EV.int.injEq]; done) | (simp (disch := omega) only [go_sem, ↓reduceIte, simprocAttr, reduceCtorEq, hvok, EV.ok, okL_tab_int, okL_tab_bool, okL_app, okL, decide_eq_true_eq, EV.int.injEq] <;> first | exact rfl | omega)
  · simp [classesE, partF]
  · exact fun i _ => okH_app hok (by simp [EB.ok, okG, okL, classesE, EV.ok, okL_tab_int, okL_app])
  · simp
  · intro i hi K Q' hK hQ'
    repeat' first
      | with_reducible first | refine wpc_seq ?_ | refine wpc_ops ?_ | refine wops_nil ?_ | refine then_normal ?_ | refine wpc_block ?_ | refine block_normal ?_ | refine wpc_skip ?_ | refine wpc_exit ?_ | refine then_exit ?_ | refine block_exit_same ?_ | refine wpc_ret ?_ | refine then_ret ?_ | refine block_ret ?_ | refine wpc_draw ?_ | refine wdr_nil ?_ | refine gate_t ?_ | refine gate_f ?_ | refine gate_tt ?_ | refine gate_ff ?_ | refine gate_tf ?_ | refine gate_ft ?_ | exact keep_same | exact keep_true
      | (with_reducible refine block_exit_other ?_ ?_; decide)
      | ((with_reducible refine keep_rfl ?_); exact rfl)
      | ((with_reducible first | apply wops_guard | apply wdr_guard | apply wpc_test); focus (simp (disch := omega) only [go_sem, ↓reduceIte, simprocAttr, reduceCtorEq]; with_reducible first | exact lit_t | exact lit_f))
      | ((with_reducible first | apply wops_gone | apply wdr_gone); focus (simp (disch := omega) only [go_sem, ↓reduceIte, simprocAttr, reduceCtorEq]; done))
      | ((with_reducible first | apply wops_step | apply wops_do | apply wdr_step); focus (simp (disch := omega) only [go_sem, ↓reduceIte, simprocAttr, reduceCtorEq]; first | with_reducible exact rfl | (rw [if_pos (by first | omega | (constructor <;> omega) | (simp; done) | assumption)]; first | with_reducible exact rfl | (try simp (disch := omega) only [go_sem, ↓reduceIte, simprocAttr, reduceCtorEq]; with_reducible exact rfl))))
    refine wpc_cond (t := decide ((i : Int) < xs.length)) (by simp (disch := omega) only [go_sem, ↓reduceIte, simprocAttr, reduceCtorEq]) (fun ht => ?_) (fun ht => ?_)
    · have hil : i < xs.length := by have := of_decide_eq_true ht; omega
      obtain ⟨x, hxi⟩ : ∃ x, xs[i]? = some x := ⟨xs[i], by simp [hil]⟩
      have hw := hx x (List.mem_of_getElem? hxi)
      have hel := hv.elem i (setE x) (by rw [List.getElem?_map, hxi]; rfl)
      repeat' first
        | with_reducible first | refine wpc_seq ?_ | refine wpc_ops ?_ | refine wops_nil ?_ | refine then_normal ?_ | refine wpc_block ?_ | refine block_normal ?_ | refine wpc_skip ?_ | refine wpc_exit ?_ | refine then_exit ?_ | refine block_exit_same ?_ | refine wpc_ret ?_ | refine then_ret ?_ | refine block_ret ?_ | refine wpc_draw ?_ | refine wdr_nil ?_ | refine gate_t ?_ | refine gate_f ?_ | refine gate_tt ?_ | refine gate_ff ?_ | refine gate_tf ?_ | refine gate_ft ?_ | exact keep_same | exact keep_true
        | (with_reducible refine block_exit_other ?_ ?_; decide)
        | ((with_reducible refine keep_rfl ?_); exact rfl)
        | ((with_reducible first | apply wops_guard | apply wdr_guard | apply wpc_test); focus (simp (disch := omega) only [go_sem, ↓reduceIte, simprocAttr, reduceCtorEq, hel, setE, classesE]; with_reducible first | exact lit_t | exact lit_f))
        | ((with_reducible first | apply wops_gone | apply wdr_gone); focus (simp (disch := omega) only [go_sem, ↓reduceIte, simprocAttr, reduceCtorEq, hel, setE, classesE]; done))
        | ((with_reducible first | apply wops_step | apply wops_do | apply wdr_step); focus (simp (disch := omega) only [go_sem, ↓reduceIte, simprocAttr, reduceCtorEq, hel, setE, classesE]; first | with_reducible exact rfl | (rw [if_pos (by first | omega | (constructor <;> omega) | (simp; done) | assumption)]; first | with_reducible exact rfl | (try simp (disch := omega) only [go_sem, ↓reduceIte, simprocAttr, reduceCtorEq, hel, setE, classesE]; with_reducible exact rfl))))
      with_reducible apply wops_call1
      · first | exact rfl | (simp (disch := omega) only [go_sem, ↓reduceIte, simprocAttr, reduceCtorEq]; exact rfl)
      · (simp (disch := omega) only [go_sem, ↓reduceIte, simprocAttr, reduceCtorEq]; exact rfl)
      · exact renamed_ok (hasN x (partF (xs.take i)).1) hr (by simp [okL, EV.ok]) fun b hb8 G => part_c1_ok (x := x) (of := (partF (xs.take i)).1) (n := (partF (xs.take i)).2) hc hh (app_old (by rw [app_get]; rfl)) (app_old (by rw [app_get]; rfl)) hw (partF_lt _ b hb8) hb8
      repeat' first
        | with_reducible first | refine wpc_seq ?_ | refine wpc_ops ?_ | refine wops_nil ?_ | refine then_normal ?_ | refine wpc_block ?_ | refine block_normal ?_ | refine wpc_skip ?_ | refine wpc_exit ?_ | refine then_exit ?_ | refine block_exit_same ?_ | refine wpc_ret ?_ | refine then_ret ?_ | refine block_ret ?_ | refine wpc_draw ?_ | refine wdr_nil ?_ | refine gate_t ?_ | refine gate_f ?_ | refine gate_tt ?_ | refine gate_ff ?_ | refine gate_tf ?_ | refine gate_ft ?_ | exact keep_same | exact keep_true
        | (with_reducible refine block_exit_other ?_ ?_; decide)
        | ((with_reducible refine keep_rfl ?_); exact rfl)
        | ((with_reducible first | apply wops_guard | apply wdr_guard | apply wpc_test); focus (simp (disch := omega) only [go_sem, ↓reduceIte, simprocAttr, reduceCtorEq, classesE]; with_reducible first | exact lit_t | exact lit_f))
        | ((with_reducible first | apply wops_gone | apply wdr_gone); focus (simp (disch := omega) only [go_sem, ↓reduceIte, simprocAttr, reduceCtorEq, classesE]; done))
        | ((with_reducible first | apply wops_step | apply wops_do | apply wdr_step); focus (simp (disch := omega) only [go_sem, ↓reduceIte, simprocAttr, reduceCtorEq, classesE]; first | with_reducible exact rfl | (rw [if_pos (by first | omega | (constructor <;> omega) | (simp; done) | assumption)]; first | with_reducible exact rfl | (try simp (disch := omega) only [go_sem, ↓reduceIte, simprocAttr, reduceCtorEq, classesE]; with_reducible exact rfl))))
      have e : partF (xs.take (i + 1)) = partStep (partF (xs.take i)) x := by rw [List.take_add_one, hxi]; simp [partF, List.foldl_append]
      refine hK (i + 1) _ _ [some (.row 4 [setE x]), some (.row 257 [classesE (partF (xs.take i)).1 (partF (xs.take i)).2])] (by omega) (by omega) ?_ ?_
      · rw [e]
        simp only [partStep, classesE, setE, List.append_assoc, List.cons_append, List.nil_append, Int.natCast_zero]
      · (repeat' (first | exact trivial | refine And.intro (And.intro ?_ ?_) ?_)) <;> first | exact rfl | (simp (disch := omega) only [go_sem, ↓reduceIte, simprocAttr, reduceCtorEq, hvok, EV.ok, okL_tab_int, okL_tab_bool, okL_app, okL, decide_eq_true_eq, EV.int.injEq]; done) | (simp (disch := omega) only [go_sem, ↓reduceIte, simprocAttr, reduceCtorEq, hvok, EV.ok, okL_tab_int, okL_tab_bool, okL_app, okL, decide_eq_true_eq, EV.int.injEq] <;> first | exact rfl | omega)
    · have hi4 : i = xs.length := by have := of_decide_eq_false ht; omega
      subst hi4
      repeat' first
        | with_reducible first | refine wpc_seq ?_ | refine wpc_ops ?_ | refine wops_nil ?_ | refine then_normal ?_ | refine wpc_block ?_ | refine block_normal ?_ | refine wpc_skip ?_ | refine wpc_exit ?_ | refine then_exit ?_ | refine block_exit_same ?_ | refine wpc_ret ?_ | refine then_ret ?_ | refine block_ret ?_ | refine wpc_draw ?_ | refine wdr_nil ?_ | refine gate_t ?_ | refine gate_f ?_ | refine gate_tt ?_ | refine gate_ff ?_ | refine gate_tf ?_ | refine gate_ft ?_ | exact keep_same | exact keep_true
        | (with_reducible refine block_exit_other ?_ ?_; decide)
        | ((with_reducible refine keep_rfl ?_); exact rfl)
        | ((with_reducible first | apply wops_guard | apply wdr_guard | apply wpc_test); focus (simp (disch := omega) only [go_sem, ↓reduceIte, simprocAttr, reduceCtorEq]; with_reducible first | exact lit_t | exact lit_f))
        | ((with_reducible first | apply wops_gone | apply wdr_gone); focus (simp (disch := omega) only [go_sem, ↓reduceIte, simprocAttr, reduceCtorEq]; done))
        | ((with_reducible first | apply wops_step | apply wops_do | apply wdr_step); focus (simp (disch := omega) only [go_sem, ↓reduceIte, simprocAttr, reduceCtorEq]; first | with_reducible exact rfl | (rw [if_pos (by first | omega | (constructor <;> omega) | (simp; done) | assumption)]; first | with_reducible exact rfl | (try simp (disch := omega) only [go_sem, ↓reduceIte, simprocAttr, reduceCtorEq]; with_reducible exact rfl))))
      refine hQ' _ _ _ ?_
      repeat' first
        | with_reducible first | refine wpc_seq ?_ | refine wpc_ops ?_ | refine wops_nil ?_ | refine then_normal ?_ | refine wpc_block ?_ | refine block_normal ?_ | refine wpc_skip ?_ | refine wpc_exit ?_ | refine then_exit ?_ | refine block_exit_same ?_ | refine wpc_ret ?_ | refine then_ret ?_ | refine block_ret ?_ | refine wpc_draw ?_ | refine wdr_nil ?_ | refine gate_t ?_ | refine gate_f ?_ | refine gate_tt ?_ | refine gate_ff ?_ | refine gate_tf ?_ | refine gate_ft ?_ | exact keep_same | exact keep_true
        | (with_reducible refine block_exit_other ?_ ?_; decide)
        | ((with_reducible refine keep_rfl ?_); exact rfl)
        | ((with_reducible first | apply wops_guard | apply wdr_guard | apply wpc_test); focus (simp (disch := omega) only [go_sem, ↓reduceIte, simprocAttr, reduceCtorEq, classesE]; with_reducible first | exact lit_t | exact lit_f))
        | ((with_reducible first | apply wops_gone | apply wdr_gone); focus (simp (disch := omega) only [go_sem, ↓reduceIte, simprocAttr, reduceCtorEq, classesE]; done))
        | ((with_reducible first | apply wops_step | apply wops_do | apply wdr_step); focus (simp (disch := omega) only [go_sem, ↓reduceIte, simprocAttr, reduceCtorEq, classesE]; first | with_reducible exact rfl | (rw [if_pos (by first | omega | (constructor <;> omega) | (simp; done) | assumption)]; first | with_reducible exact rfl | (try simp (disch := omega) only [go_sem, ↓reduceIte, simprocAttr, reduceCtorEq, classesE]; with_reducible exact rfl))))
      refine end_drop hok (r := classesE (partF xs).1 (partF xs).2) ?_ ?_ ⟨rfl, rfl⟩
      · first | (simp (disch := omega) only [go_sem, ↓reduceIte, simprocAttr, reduceCtorEq, evResults, evResL, evRes, class_Part_r, classesE, List.take_length]; done) | (simp (disch := omega) only [go_sem, ↓reduceIte, simprocAttr, reduceCtorEq, evResults, evResL, evRes, class_Part_r, classesE, List.take_length]; with_reducible exact rfl) | exact rfl
      · first | (simp [EV.ok, okL, okL_tab_int, okL_tab_bool, okL_app, classesE, List.take_length]; done)

end
end Abs
