/- Slices that grow by one; the bytes of a set; the law OctsAsk. -/
import Derived.Test.YtcjnpmaljfkpgaaDoorOctsH
namespace Abs
open Go
set_option linter.all false
set_option maxRecDepth 20000

/-- A slice that was appended to, one by one: its value, and the blocks behind the others. -/
def grow (L : Nat) : List EV → EV
  | [] => .nilsl
  | e :: es => .own (L + es.length) 1 0 (es.length + 1)
def growH : List EV → Heap
  | [] => []
  | e :: es => List.replicate es.length none ++ [some (.row 1 (e :: es))]

theorem growH_len : ∀ {es : List EV}, (growH es).length = es.length
  | [] => rfl
  | _ :: es => by simp [growH]

theorem grow_append {A : Heap} {es : List EV} {e : EV} (he : e.one = true) (hl : es.length < 1000000) : evAppend 1 1 (grow A.length es) (.imm 1 [e]) (A ++ growH es) = some (grow A.length (es ++ [e]), A ++ growH (es ++ [e])) := by
  have hc : e.cells = [e] := one_cells he
  unfold evAppend
  have hel : elems (A ++ growH es) (.imm 1 [e]) = some [e] := rfl
  rw [hel]
  simp only [List.all_cons, List.all_nil, hc, List.length_cons, List.length_nil, he, Bool.and_true, Nat.zero_add, beq_self_eq_true, and_self, if_true, Nat.lt_add_one]
  cases es with
  | nil => simp [grow, growH]
  | cons a es =>
    have hb : (A ++ growH (a :: es))[A.length + es.length]? = some (some (.row 1 (a :: es))) := by
      rw [List.getElem?_append_right (by omega)]
      simp [growH]
    simp only [grow, hb]
    simp only [List.length_cons] at hl
    rw [if_pos (by simp; omega)]
    simp only [List.cons_append, grow, growH]
    refine congrArg some (Prod.ext ?_ ?_)
    · simp [Nat.add_assoc]
    · show (A ++ (List.replicate es.length none ++ [some (EB.row 1 (a :: es))])).set (A.length + es.length) none ++ [some (EB.row 1 ((a :: es).take (es.length + 1) ++ [e]))] = A ++ (List.replicate (es ++ [e]).length none ++ [some (EB.row 1 (a :: (es ++ [e])))])
      rw [List.set_append_right _ _ (by omega), show A.length + es.length - A.length = es.length by omega, List.set_append_right _ _ (by simp), List.length_replicate, Nat.sub_self, List.take_of_length_le (by simp)]
      simp only [List.set_cons_zero, List.length_append, List.length_cons, List.length_nil, Nat.zero_add, List.replicate_succ', List.append_assoc, List.cons_append, List.nil_append]

section
variable {P : Program} {γ : Nat → EV} {s : Slots} {H H' : Heap} {Q : AX → Slots → Heap → Prop} {rest : List EOper} {b d : Nat} {v v' : EV} {x y : EOpd}

theorem wops_load1 (hx : ev γ s x = .ptr b 1 0 0) (hb : H[b]? = some (some (.row 1 [v]))) (hv : v.one = true) (h : wops P γ Q rest (upd s d v) H) : wops P γ Q ({ dst := some d, op := .load false 1 x } :: rest) s H := by
  refine wops_step ?_ h
  have hc := one_cells hv
  simp [evOp, hx, evLoad, hb, hc, pack]
theorem wops_store1 (hx : ev γ s x = .ptr b 1 0 0) (hy : ev γ s y = v') (hb : H[b]? = some (some (.row 1 [v]))) (hv : v.one = true) (hv' : v'.one = true) (h : wops P γ Q rest s (H.set b (some (.row 1 [v'])))) :
    wops P γ Q ({ dst := none, op := .store 1 x y } :: rest) s H := by
  refine wops_do (v := .undef) ?_ h
  have hc := one_cells hv
  have hc' := one_cells hv'
  have hw : withCells v [v'] = v' := by cases v <;> first | rfl | simp [EV.one] at hv
  simp [evOp, hx, hy, evStore, hb, hc, hc', hv', hw]
theorem wops_append {sz bytes : Nat} (hap : evAppend sz bytes (ev γ s x) (ev γ s y) H = some (v, H')) (h : wops P γ Q rest (upd s d v) H') : wops P γ Q ({ dst := some d, op := .append sz bytes x y } :: rest) s H :=
  wops_step hap h
end

theorem okG_app {n : Nat} : ∀ {A B : Heap}, okG n (A ++ B) = (okG n A && okG n B)
  | [], B => by simp [okG]
  | none :: A, B => by simp only [List.cons_append, okG]; exact okG_app
  | some x :: A, B => by simp only [List.cons_append, okG, okG_app, Bool.and_assoc]
theorem okG_none {n : Nat} : ∀ k, okG n (List.replicate k none) = true
  | 0 => rfl
  | k + 1 => by rw [List.replicate_succ]; exact okG_none k
theorem okG_grow {n : Nat} {es : List EV} (h : okL n es = true) : okG n (growH es) = true := by
  cases es with
  | nil => rfl
  | cons e es => simp only [growH, okG_app, okG_none, okG, EB.ok, h, Bool.and_self]
theorem grow_ok {L n : Nat} {es : List EV} (h : L + es.length ≤ n) : (grow L es).ok n = true := by
  cases es with
  | nil => rfl
  | cons e es => simp only [List.length_cons] at h; simp only [grow, EV.ok, decide_eq_true_eq]; omega

theorem nm_app {A B : Heap} (h : NoMaps A) (g : NoMaps B) : NoMaps (A ++ B) := by
  intro b es hb
  by_cases hlt : b < A.length
  · rw [List.getElem?_append_left hlt] at hb; exact h b es hb
  · rw [List.getElem?_append_right (by omega)] at hb; exact g _ es hb
theorem nm_grow {es : List EV} : NoMaps (growH es) := by
  cases es with
  | nil => exact noMaps_of rfl
  | cons e es =>
    refine nm_app (fun b l hb => ?_) (noMaps_of rfl)
    have := List.mem_of_getElem? hb
    simp at this

/-- What is handed back of it. -/
def sliceV : List EV → EV
  | [] => .nilsl
  | e :: es => .imm 1 (e :: es)

theorem grow_fz {H A : Heap} {es : List EV} (hA : H.length ≤ A.length) (ho : okL H.length es = true) : FZ H.length (A ++ growH es) (grow A.length es) (sliceV es) := by
  cases es with
  | nil => exact .same _ rfl
  | cons e es =>
    refine FZ.whole (by omega) (es := e :: es) ?_ rfl (okL_iff.1 ho)
    rw [List.getElem?_append_right (by omega)]
    simp [growH]

theorem sliceV_of {es : List EV} (h : okL 0 es = true) : SliceOf 1 (sliceV es) es := by
  cases es with
  | nil => exact sliceOf_nil
  | cons e es => exact sliceOf_imm h

theorem encF_ok {n : Nat} : ∀ (l : List (Fin 256)), okL n (l.map encF) = true
  | [] => rfl
  | b :: l => by simp only [List.map_cons, okL, encF_ok l]; rfl

theorem len_le (x : Nat → Nat) : (bytesF x).length ≤ 256 := by
  unfold bytesF
  have := List.length_filter_le (fun b : Fin 256 => inSet x b.val) (List.finRange 256)
  simpa using this

theorem bytes_snoc (x : Nat → Nat) {m : Nat} (h : m < 256) : (bytesF x).take (cntF x (m + 1)) = (bytesF x).take (cntF x m) ++ (if inSet x m then [⟨m, h⟩] else []) := by
  rw [cnt_succ x h]
  cases hs : inSet x m
  · simp
  · simp only [if_true]
    rw [List.take_add_one, bytes_get x h hs]
    rfl

attribute [local irreducible] bytesF cntF grow growH evAppend

section
variable {P : Program} {γ : Nat → EV}

def BytesOk (P : Program) (γ : Nat → EV) (f : FuncId) : Prop :=
  ∀ (x : Nat → Nat) (H : Heap), Words x → CallsA P γ f [setE x] H fun er H' => er = .ret (sliceV ((bytesF x).map encF)) ∧ H' = H

set_option maxHeartbeats 8000000 in
theorem bytes_ok {f fa g ft : FuncId} (hb : Body P f (octs_Bytes fa) octs_Bytes_r 13) (ha : AllOk P γ fa g) (hg : Body P g (octs_all_c1 ft) octs_all_c1_r 26) (ht : TzOk P γ ft) : BytesOk P γ f := by
  intro x H hx
  have hvo : ∀ n, (sliceV ((bytesF x).map encF)).ok n = true := fun n => EV.ok_mono (Nat.zero_le n) _ (sliceV_of (encF_ok _)).ok
  refine CallsA.mono (CallsA.pure (H := H) (R := fun er => er = .ret (sliceV ((bytesF x).map encF))) ?_ (by simp [okL, setE_ok, EV.ok]) (by rintro er rfl; exact hvo 0)) fun _ _ h => h
  refine hb.calls (by simp) fun hok => ?_
  unfold octs_Bytes
  repeat' first
    | with_reducible first | refine wpc_seq ?_ | refine wpc_ops ?_ | refine wops_nil ?_ | refine then_normal ?_ | refine wpc_block ?_ | refine block_normal ?_ | refine wpc_skip ?_ | refine wpc_exit ?_ | refine then_exit ?_ | refine block_exit_same ?_ | refine wpc_ret ?_ | refine then_ret ?_ | refine block_ret ?_ | refine wpc_draw ?_ | refine wdr_nil ?_ | refine gate_t ?_ | refine gate_f ?_ | refine gate_tt ?_ | refine gate_ff ?_ | refine gate_tf ?_ | refine gate_ft ?_ | exact keep_same | exact keep_true
    | (with_reducible refine block_exit_other ?_ ?_; decide)
    | ((with_reducible refine keep_rfl ?_); exact rfl)
    | ((with_reducible first | apply wops_guard | apply wdr_guard | apply wpc_test); focus (simp (disch := omega) only [go_sem, ↓reduceIte, Nat.reduceEqDiff, Nat.reduceAdd, Nat.reduceSub, Nat.reduceMul, Nat.reduceLeDiff, Nat.reduceLT, Nat.reduceBEq, Nat.reduceBNe, Int.reduceToNat, Int.reduceLE, Int.reduceLT, Int.reduceNeg, Int.reduceEq, Int.reduceBEq, Int.reduceBNe, Int.reduceAdd, Int.reduceSub, Int.reduceMul, reduceCtorEq, setE]; with_reducible first | exact lit_t | exact lit_f))
    | ((with_reducible first | apply wops_step | apply wops_do | apply wdr_step); focus (simp (disch := omega) only [go_sem, ↓reduceIte, Nat.reduceEqDiff, Nat.reduceAdd, Nat.reduceSub, Nat.reduceMul, Nat.reduceLeDiff, Nat.reduceLT, Nat.reduceBEq, Nat.reduceBNe, Int.reduceToNat, Int.reduceLE, Int.reduceLT, Int.reduceNeg, Int.reduceEq, Int.reduceBEq, Int.reduceBNe, Int.reduceAdd, Int.reduceSub, Int.reduceMul, reduceCtorEq, setE]; first | with_reducible exact rfl | (rw [if_pos (by first | omega | (constructor <;> omega) | (simp; done) | assumption)]; first | with_reducible exact rfl | (try simp (disch := omega) only [go_sem, ↓reduceIte, Nat.reduceEqDiff, Nat.reduceAdd, Nat.reduceSub, Nat.reduceMul, Nat.reduceLeDiff, Nat.reduceLT, Nat.reduceBEq, Nat.reduceBNe, Int.reduceToNat, Int.reduceLE, Int.reduceLT, Int.reduceNeg, Int.reduceEq, Int.reduceBEq, Int.reduceBNe, Int.reduceAdd, Int.reduceSub, Int.reduceMul, reduceCtorEq, setE]; with_reducible exact rfl))))
  with_reducible apply wops_call1
  · first | exact rfl | (simp (disch := omega) only [go_sem, ↓reduceIte, Nat.reduceEqDiff, Nat.reduceAdd, Nat.reduceSub, Nat.reduceMul, Nat.reduceLeDiff, Nat.reduceLT, Nat.reduceBEq, Nat.reduceBNe, Int.reduceToNat, Int.reduceLE, Int.reduceLT, Int.reduceNeg, Int.reduceEq, Int.reduceBEq, Int.reduceBNe, Int.reduceAdd, Int.reduceSub, Int.reduceMul, reduceCtorEq, setE]; exact rfl)
  · (simp (disch := omega) only [go_sem, ↓reduceIte, Nat.reduceEqDiff, Nat.reduceAdd, Nat.reduceSub, Nat.reduceMul, Nat.reduceLeDiff, Nat.reduceLT, Nat.reduceBEq, Nat.reduceBNe, Int.reduceToNat, Int.reduceLE, Int.reduceLT, Int.reduceNeg, Int.reduceEq, Int.reduceBEq, Int.reduceBNe, Int.reduceAdd, Int.reduceSub, Int.reduceMul, reduceCtorEq, setE]; exact rfl)
  · exact ha x _
  repeat' first
    | with_reducible first | refine wpc_seq ?_ | refine wpc_ops ?_ | refine wops_nil ?_ | refine then_normal ?_ | refine wpc_block ?_ | refine block_normal ?_ | refine wpc_skip ?_ | refine wpc_exit ?_ | refine then_exit ?_ | refine block_exit_same ?_ | refine wpc_ret ?_ | refine then_ret ?_ | refine block_ret ?_ | refine wpc_draw ?_ | refine wdr_nil ?_ | refine gate_t ?_ | refine gate_f ?_ | refine gate_tt ?_ | refine gate_ff ?_ | refine gate_tf ?_ | refine gate_ft ?_ | exact keep_same | exact keep_true
    | (with_reducible refine block_exit_other ?_ ?_; decide)
    | ((with_reducible refine keep_rfl ?_); exact rfl)
    | ((with_reducible first | apply wops_guard | apply wdr_guard | apply wpc_test); focus (simp (disch := omega) only [go_sem, ↓reduceIte, Nat.reduceEqDiff, Nat.reduceAdd, Nat.reduceSub, Nat.reduceMul, Nat.reduceLeDiff, Nat.reduceLT, Nat.reduceBEq, Nat.reduceBNe, Int.reduceToNat, Int.reduceLE, Int.reduceLT, Int.reduceNeg, Int.reduceEq, Int.reduceBEq, Int.reduceBNe, Int.reduceAdd, Int.reduceSub, Int.reduceMul, reduceCtorEq, setE]; with_reducible first | exact lit_t | exact lit_f))
    | ((with_reducible first | apply wops_step | apply wops_do | apply wdr_step); focus (simp (disch := omega) only [go_sem, ↓reduceIte, Nat.reduceEqDiff, Nat.reduceAdd, Nat.reduceSub, Nat.reduceMul, Nat.reduceLeDiff, Nat.reduceLT, Nat.reduceBEq, Nat.reduceBNe, Int.reduceToNat, Int.reduceLE, Int.reduceLT, Int.reduceNeg, Int.reduceEq, Int.reduceBEq, Int.reduceBNe, Int.reduceAdd, Int.reduceSub, Int.reduceMul, reduceCtorEq, setE]; first | with_reducible exact rfl | (rw [if_pos (by first | omega | (constructor <;> omega) | (simp; done) | assumption)]; first | with_reducible exact rfl | (try simp (disch := omega) only [go_sem, ↓reduceIte, Nat.reduceEqDiff, Nat.reduceAdd, Nat.reduceSub, Nat.reduceMul, Nat.reduceLeDiff, Nat.reduceLT, Nat.reduceBEq, Nat.reduceBNe, Int.reduceToNat, Int.reduceLE, Int.reduceLT, Int.reduceNeg, Int.reduceEq, Int.reduceBEq, Int.reduceBNe, Int.reduceAdd, Int.reduceSub, Int.reduceMul, reduceCtorEq, setE]; with_reducible exact rfl))))
  have g0 : grow 2 [] = .nilsl := by unfold grow; rfl
  have h0 : growH [] = [] := by unfold growH; rfl
  have hlen := len_le x
  refine wpc_range (α := Fin 256) (enc := encF) (xs := bytesF x) (fun pre => some (.row 4 [setE x]) :: some (.row 1 [grow 2 (pre.map encF)]) :: growH (pre.map encF)) (fun _ => True)
    (by simp (disch := omega) only [go_sem, ↓reduceIte, Nat.reduceEqDiff, Nat.reduceAdd, Nat.reduceSub, Nat.reduceMul, Nat.reduceLeDiff, Nat.reduceLT, Nat.reduceBEq, Nat.reduceBNe, Int.reduceToNat, Int.reduceLE, Int.reduceLT, Int.reduceNeg, Int.reduceEq, Int.reduceBEq, Int.reduceBNe, Int.reduceAdd, Int.reduceSub, Int.reduceMul, reduceCtorEq]) (by simp [okL, EV.ok, okL_tab_int]) (all_iter hg ht x hx) (fun b => rfl) (by simp [setE, g0, h0]) trivial (fun pre => ?_) ?_ ?_
  · exact nm_app (A := [some (.row 4 [setE x]), some (.row 1 [grow 2 (pre.map encF)])]) (noMaps_of rfl) nm_grow
  · intro pre b hl _
    have hap := grow_append (A := [some (.row 4 [setE x]), some (.row 1 [grow 2 (pre.map encF)])]) (es := pre.map encF) (e := encF b) rfl (by simp; omega)
    simp only [List.length_cons, List.length_nil, List.cons_append, List.nil_append, Nat.zero_add, Nat.reduceAdd] at hap
    have hsn : (pre ++ [b]).map encF = pre.map encF ++ [encF b] := by simp
    have hgo : ∀ l, (grow 2 l).one = true := fun l => by unfold grow; cases l <;> rfl
    refine wpc_block ?_
    refine wpc_ops ?_
    refine wops_load1 rfl rfl (hgo _) ?_
    repeat' first
      | with_reducible first | refine wpc_seq ?_ | refine wpc_ops ?_ | refine wops_nil ?_ | refine then_normal ?_ | refine wpc_block ?_ | refine block_normal ?_ | refine wpc_skip ?_ | refine wpc_exit ?_ | refine then_exit ?_ | refine block_exit_same ?_ | refine wpc_ret ?_ | refine then_ret ?_ | refine block_ret ?_ | refine wpc_draw ?_ | refine wdr_nil ?_ | refine gate_t ?_ | refine gate_f ?_ | refine gate_tt ?_ | refine gate_ff ?_ | refine gate_tf ?_ | refine gate_ft ?_ | exact keep_same | exact keep_true
      | (with_reducible refine block_exit_other ?_ ?_; decide)
      | ((with_reducible refine keep_rfl ?_); exact rfl)
      | ((with_reducible first | apply wops_guard | apply wdr_guard | apply wpc_test); focus (simp (disch := omega) only [go_sem, ↓reduceIte, Nat.reduceEqDiff, Nat.reduceAdd, Nat.reduceSub, Nat.reduceMul, Nat.reduceLeDiff, Nat.reduceLT, Nat.reduceBEq, Nat.reduceBNe, Int.reduceToNat, Int.reduceLE, Int.reduceLT, Int.reduceNeg, Int.reduceEq, Int.reduceBEq, Int.reduceBNe, Int.reduceAdd, Int.reduceSub, Int.reduceMul, reduceCtorEq, encF]; with_reducible first | exact lit_t | exact lit_f))
      | ((with_reducible first | apply wops_step | apply wops_do | apply wdr_step); focus (simp (disch := omega) only [go_sem, ↓reduceIte, Nat.reduceEqDiff, Nat.reduceAdd, Nat.reduceSub, Nat.reduceMul, Nat.reduceLeDiff, Nat.reduceLT, Nat.reduceBEq, Nat.reduceBNe, Int.reduceToNat, Int.reduceLE, Int.reduceLT, Int.reduceNeg, Int.reduceEq, Int.reduceBEq, Int.reduceBNe, Int.reduceAdd, Int.reduceSub, Int.reduceMul, reduceCtorEq, encF]; first | with_reducible exact rfl | (rw [if_pos (by first | omega | (constructor <;> omega) | (simp; done) | assumption)]; first | with_reducible exact rfl | (try simp (disch := omega) only [go_sem, ↓reduceIte, Nat.reduceEqDiff, Nat.reduceAdd, Nat.reduceSub, Nat.reduceMul, Nat.reduceLeDiff, Nat.reduceLT, Nat.reduceBEq, Nat.reduceBNe, Int.reduceToNat, Int.reduceLE, Int.reduceLT, Int.reduceNeg, Int.reduceEq, Int.reduceBEq, Int.reduceBNe, Int.reduceAdd, Int.reduceSub, Int.reduceMul, reduceCtorEq, encF]; with_reducible exact rfl))))
    refine wops_append hap ?_
    refine wops_store1 rfl rfl rfl (hgo _) (hgo _) ?_
    repeat' first
      | with_reducible first | refine wpc_seq ?_ | refine wpc_ops ?_ | refine wops_nil ?_ | refine then_normal ?_ | refine wpc_block ?_ | refine block_normal ?_ | refine wpc_skip ?_ | refine wpc_exit ?_ | refine then_exit ?_ | refine block_exit_same ?_ | refine wpc_ret ?_ | refine then_ret ?_ | refine block_ret ?_ | refine wpc_draw ?_ | refine wdr_nil ?_ | refine gate_t ?_ | refine gate_f ?_ | refine gate_tt ?_ | refine gate_ff ?_ | refine gate_tf ?_ | refine gate_ft ?_ | exact keep_same | exact keep_true
      | (with_reducible refine block_exit_other ?_ ?_; decide)
      | ((with_reducible refine keep_rfl ?_); exact rfl)
      | ((with_reducible first | apply wops_guard | apply wdr_guard | apply wpc_test); focus (simp (disch := omega) only [go_sem, ↓reduceIte, Nat.reduceEqDiff, Nat.reduceAdd, Nat.reduceSub, Nat.reduceMul, Nat.reduceLeDiff, Nat.reduceLT, Nat.reduceBEq, Nat.reduceBNe, Int.reduceToNat, Int.reduceLE, Int.reduceLT, Int.reduceNeg, Int.reduceEq, Int.reduceBEq, Int.reduceBNe, Int.reduceAdd, Int.reduceSub, Int.reduceMul, reduceCtorEq]; with_reducible first | exact lit_t | exact lit_f))
      | ((with_reducible first | apply wops_step | apply wops_do | apply wdr_step); focus (simp (disch := omega) only [go_sem, ↓reduceIte, Nat.reduceEqDiff, Nat.reduceAdd, Nat.reduceSub, Nat.reduceMul, Nat.reduceLeDiff, Nat.reduceLT, Nat.reduceBEq, Nat.reduceBNe, Int.reduceToNat, Int.reduceLE, Int.reduceLT, Int.reduceNeg, Int.reduceEq, Int.reduceBEq, Int.reduceBNe, Int.reduceAdd, Int.reduceSub, Int.reduceMul, reduceCtorEq]; first | with_reducible exact rfl | (rw [if_pos (by first | omega | (constructor <;> omega) | (simp; done) | assumption)]; first | with_reducible exact rfl | (try simp (disch := omega) only [go_sem, ↓reduceIte, Nat.reduceEqDiff, Nat.reduceAdd, Nat.reduceSub, Nat.reduceMul, Nat.reduceLeDiff, Nat.reduceLT, Nat.reduceBEq, Nat.reduceBNe, Int.reduceToNat, Int.reduceLE, Int.reduceLT, Int.reduceNeg, Int.reduceEq, Int.reduceBEq, Int.reduceBNe, Int.reduceAdd, Int.reduceSub, Int.reduceMul, reduceCtorEq]; with_reducible exact rfl))))
    exact rangeA_normal (by rw [hsn]; rfl) trivial
  · intro _
    have hgo : ∀ l, (grow 2 l).one = true := fun l => by unfold grow; cases l <;> rfl
    refine block_normal ?_
    refine then_normal ?_
    refine wpc_seq ?_
    refine wpc_ops ?_
    refine wops_load1 rfl rfl (hgo _) ?_
    repeat' first
      | with_reducible first | refine wpc_seq ?_ | refine wpc_ops ?_ | refine wops_nil ?_ | refine then_normal ?_ | refine wpc_block ?_ | refine block_normal ?_ | refine wpc_skip ?_ | refine wpc_exit ?_ | refine then_exit ?_ | refine block_exit_same ?_ | refine wpc_ret ?_ | refine then_ret ?_ | refine block_ret ?_ | refine wpc_draw ?_ | refine wdr_nil ?_ | refine gate_t ?_ | refine gate_f ?_ | refine gate_tt ?_ | refine gate_ff ?_ | refine gate_tf ?_ | refine gate_ft ?_ | exact keep_same | exact keep_true
      | (with_reducible refine block_exit_other ?_ ?_; decide)
      | ((with_reducible refine keep_rfl ?_); exact rfl)
      | ((with_reducible first | apply wops_guard | apply wdr_guard | apply wpc_test); focus (simp (disch := omega) only [go_sem, ↓reduceIte, Nat.reduceEqDiff, Nat.reduceAdd, Nat.reduceSub, Nat.reduceMul, Nat.reduceLeDiff, Nat.reduceLT, Nat.reduceBEq, Nat.reduceBNe, Int.reduceToNat, Int.reduceLE, Int.reduceLT, Int.reduceNeg, Int.reduceEq, Int.reduceBEq, Int.reduceBNe, Int.reduceAdd, Int.reduceSub, Int.reduceMul, reduceCtorEq]; with_reducible first | exact lit_t | exact lit_f))
      | ((with_reducible first | apply wops_step | apply wops_do | apply wdr_step); focus (simp (disch := omega) only [go_sem, ↓reduceIte, Nat.reduceEqDiff, Nat.reduceAdd, Nat.reduceSub, Nat.reduceMul, Nat.reduceLeDiff, Nat.reduceLT, Nat.reduceBEq, Nat.reduceBNe, Int.reduceToNat, Int.reduceLE, Int.reduceLT, Int.reduceNeg, Int.reduceEq, Int.reduceBEq, Int.reduceBNe, Int.reduceAdd, Int.reduceSub, Int.reduceMul, reduceCtorEq]; first | with_reducible exact rfl | (rw [if_pos (by first | omega | (constructor <;> omega) | (simp; done) | assumption)]; first | with_reducible exact rfl | (try simp (disch := omega) only [go_sem, ↓reduceIte, Nat.reduceEqDiff, Nat.reduceAdd, Nat.reduceSub, Nat.reduceMul, Nat.reduceLeDiff, Nat.reduceLT, Nat.reduceBEq, Nat.reduceBNe, Int.reduceToNat, Int.reduceLE, Int.reduceLT, Int.reduceNeg, Int.reduceEq, Int.reduceBEq, Int.reduceBNe, Int.reduceAdd, Int.reduceSub, Int.reduceMul, reduceCtorEq]; with_reducible exact rfl))))
    refine bodyA_fz (H := []) (G := some (.row 4 [setE x]) :: some (.row 1 [grow 2 ((bytesF x).map encF)]) :: growH ((bytesF x).map encF)) hok (r := grow 2 ((bytesF x).map encF)) ?_ ?_ ⟨rfl, rfl⟩
    · (simp (disch := omega) only [go_sem, ↓reduceIte, Nat.reduceEqDiff, Nat.reduceAdd, Nat.reduceSub, Nat.reduceMul, Nat.reduceLeDiff, Nat.reduceLT, Nat.reduceBEq, Nat.reduceBNe, Int.reduceToNat, Int.reduceLE, Int.reduceLT, Int.reduceNeg, Int.reduceEq, Int.reduceBEq, Int.reduceBNe, Int.reduceAdd, Int.reduceSub, Int.reduceMul, reduceCtorEq, evResults, evResL, evRes, octs_Bytes_r])
    · exact grow_fz (H := []) (A := [some (.row 4 [setE x]), some (.row 1 [grow 2 ((bytesF x).map encF)])]) (by simp) (encF_ok _)

set_option maxHeartbeats 8000000 in
theorem refBytes_ok {f fh : FuncId} (hb : Body P f (hackleref01_Bytes fh) hackleref01_Bytes_r 18) (hh : HasOk P γ fh .i64) : BytesOk P γ f := by
  intro x H hx
  refine hb.calls (by simp) fun hok => ?_
  have g0 : ∀ L, grow L [] = .nilsl := fun L => by unfold grow; rfl
  have h0 : growH [] = [] := by unfold growH; rfl
  have hlen := len_le x
  have hc0 := cnt_zero x
  unfold hackleref01_Bytes
  repeat' first
    | with_reducible first | refine wpc_seq ?_ | refine wpc_ops ?_ | refine wops_nil ?_ | refine then_normal ?_ | refine wpc_block ?_ | refine block_normal ?_ | refine wpc_skip ?_ | refine wpc_exit ?_ | refine then_exit ?_ | refine block_exit_same ?_ | refine wpc_ret ?_ | refine then_ret ?_ | refine block_ret ?_ | refine wpc_draw ?_ | refine wdr_nil ?_ | refine gate_t ?_ | refine gate_f ?_ | refine gate_tt ?_ | refine gate_ff ?_ | refine gate_tf ?_ | refine gate_ft ?_ | exact keep_same | exact keep_true
    | (with_reducible refine block_exit_other ?_ ?_; decide)
    | ((with_reducible refine keep_rfl ?_); exact rfl)
    | ((with_reducible first | apply wops_guard | apply wdr_guard | apply wpc_test); focus (simp (disch := omega) only [go_sem, ↓reduceIte, Nat.reduceEqDiff, Nat.reduceAdd, Nat.reduceSub, Nat.reduceMul, Nat.reduceLeDiff, Nat.reduceLT, Nat.reduceBEq, Nat.reduceBNe, Int.reduceToNat, Int.reduceLE, Int.reduceLT, Int.reduceNeg, Int.reduceEq, Int.reduceBEq, Int.reduceBNe, Int.reduceAdd, Int.reduceSub, Int.reduceMul, reduceCtorEq, setE]; with_reducible first | exact lit_t | exact lit_f))
    | ((with_reducible first | apply wops_step | apply wops_do | apply wdr_step); focus (simp (disch := omega) only [go_sem, ↓reduceIte, Nat.reduceEqDiff, Nat.reduceAdd, Nat.reduceSub, Nat.reduceMul, Nat.reduceLeDiff, Nat.reduceLT, Nat.reduceBEq, Nat.reduceBNe, Int.reduceToNat, Int.reduceLE, Int.reduceLT, Int.reduceNeg, Int.reduceEq, Int.reduceBEq, Int.reduceBNe, Int.reduceAdd, Int.reduceSub, Int.reduceMul, reduceCtorEq, setE]; first | with_reducible exact rfl | (rw [if_pos (by first | omega | (constructor <;> omega) | (simp; done) | assumption)]; first | with_reducible exact rfl | (try simp (disch := omega) only [go_sem, ↓reduceIte, Nat.reduceEqDiff, Nat.reduceAdd, Nat.reduceSub, Nat.reduceMul, Nat.reduceLeDiff, Nat.reduceLT, Nat.reduceBEq, Nat.reduceBNe, Int.reduceToNat, Int.reduceLE, Int.reduceLT, Int.reduceNeg, Int.reduceEq, Int.reduceBEq, Int.reduceBNe, Int.reduceAdd, Int.reduceSub, Int.reduceMul, reduceCtorEq, setE]; with_reducible exact rfl))))
  refine wpc_while (ι := Nat) (fun b => b ≤ 256) (fun b => 256 - b) (fun b => [(1, .ptr H.length 4 0 0), (3, grow (H.length + 1) (((bytesF x).take (cntF x b)).map encF)), (4, .int .i64 (b : Int))])
    (fun b => (H ++ [some (.row 4 [setE x])]) ++ growH (((bytesF x).take (cntF x b)).map encF)) 0 (by omega) ?_ ?_ ?_ ?_ ?_
  · (repeat' (first | exact trivial | refine And.intro (And.intro ?_ ?_) ?_)) <;> first | exact rfl | (simp (disch := omega) only [go_sem, ↓reduceIte, Nat.reduceEqDiff, Nat.reduceAdd, Nat.reduceSub, Nat.reduceMul, Nat.reduceLeDiff, Nat.reduceLT, Nat.reduceBEq, Nat.reduceBNe, Int.reduceToNat, Int.reduceLE, Int.reduceLT, Int.reduceNeg, Int.reduceEq, Int.reduceBEq, Int.reduceBNe, Int.reduceAdd, Int.reduceSub, Int.reduceMul, reduceCtorEq, hc0, List.take_zero, List.map_nil, g0, EV.ok, okL_tab_int, okL_tab_bool, okL_app, okL, decide_eq_true_eq, EV.int.injEq]; done) | (simp (disch := omega) only [go_sem, ↓reduceIte, Nat.reduceEqDiff, Nat.reduceAdd, Nat.reduceSub, Nat.reduceMul, Nat.reduceLeDiff, Nat.reduceLT, Nat.reduceBEq, Nat.reduceBNe, Int.reduceToNat, Int.reduceLE, Int.reduceLT, Int.reduceNeg, Int.reduceEq, Int.reduceBEq, Int.reduceBNe, Int.reduceAdd, Int.reduceSub, Int.reduceMul, reduceCtorEq, hc0, List.take_zero, List.map_nil, g0, EV.ok, okL_tab_int, okL_tab_bool, okL_app, okL, decide_eq_true_eq, EV.int.injEq] <;> first | exact rfl | omega)
  · simp [setE, hc0, h0]
  · intro b _
    refine okH_app (okH_app hok (by simp [EB.ok, okG, okL, setE, EV.ok, okL_tab_int])) (okG_grow (encF_ok _))
  · intro j _
    simp only [List.length_append, List.length_cons, List.length_nil]
    omega
  · rintro b hb8 K Q' hK hQ'
    repeat' first
      | with_reducible first | refine wpc_seq ?_ | refine wpc_ops ?_ | refine wops_nil ?_ | refine then_normal ?_ | refine wpc_block ?_ | refine block_normal ?_ | refine wpc_skip ?_ | refine wpc_exit ?_ | refine then_exit ?_ | refine block_exit_same ?_ | refine wpc_ret ?_ | refine then_ret ?_ | refine block_ret ?_ | refine wpc_draw ?_ | refine wdr_nil ?_ | refine gate_t ?_ | refine gate_f ?_ | refine gate_tt ?_ | refine gate_ff ?_ | refine gate_tf ?_ | refine gate_ft ?_ | exact keep_same | exact keep_true
      | (with_reducible refine block_exit_other ?_ ?_; decide)
      | ((with_reducible refine keep_rfl ?_); exact rfl)
      | ((with_reducible first | apply wops_guard | apply wdr_guard | apply wpc_test); focus (simp (disch := omega) only [go_sem, ↓reduceIte, Nat.reduceEqDiff, Nat.reduceAdd, Nat.reduceSub, Nat.reduceMul, Nat.reduceLeDiff, Nat.reduceLT, Nat.reduceBEq, Nat.reduceBNe, Int.reduceToNat, Int.reduceLE, Int.reduceLT, Int.reduceNeg, Int.reduceEq, Int.reduceBEq, Int.reduceBNe, Int.reduceAdd, Int.reduceSub, Int.reduceMul, reduceCtorEq]; with_reducible first | exact lit_t | exact lit_f))
      | ((with_reducible first | apply wops_step | apply wops_do | apply wdr_step); focus (simp (disch := omega) only [go_sem, ↓reduceIte, Nat.reduceEqDiff, Nat.reduceAdd, Nat.reduceSub, Nat.reduceMul, Nat.reduceLeDiff, Nat.reduceLT, Nat.reduceBEq, Nat.reduceBNe, Int.reduceToNat, Int.reduceLE, Int.reduceLT, Int.reduceNeg, Int.reduceEq, Int.reduceBEq, Int.reduceBNe, Int.reduceAdd, Int.reduceSub, Int.reduceMul, reduceCtorEq]; first | with_reducible exact rfl | (rw [if_pos (by first | omega | (constructor <;> omega) | (simp; done) | assumption)]; first | with_reducible exact rfl | (try simp (disch := omega) only [go_sem, ↓reduceIte, Nat.reduceEqDiff, Nat.reduceAdd, Nat.reduceSub, Nat.reduceMul, Nat.reduceLeDiff, Nat.reduceLT, Nat.reduceBEq, Nat.reduceBNe, Int.reduceToNat, Int.reduceLE, Int.reduceLT, Int.reduceNeg, Int.reduceEq, Int.reduceBEq, Int.reduceBNe, Int.reduceAdd, Int.reduceSub, Int.reduceMul, reduceCtorEq]; with_reducible exact rfl))))
    refine wpc_cond (t := decide ((b : Int) < 256)) (by simp (disch := omega) only [go_sem, ↓reduceIte, Nat.reduceEqDiff, Nat.reduceAdd, Nat.reduceSub, Nat.reduceMul, Nat.reduceLeDiff, Nat.reduceLT, Nat.reduceBEq, Nat.reduceBNe, Int.reduceToNat, Int.reduceLE, Int.reduceLT, Int.reduceNeg, Int.reduceEq, Int.reduceBEq, Int.reduceBNe, Int.reduceAdd, Int.reduceSub, Int.reduceMul, reduceCtorEq]) (fun ht => ?_) (fun ht => ?_)
    · have hbl : b < 256 := by have := of_decide_eq_true ht; omega
      have hsn := bytes_snoc x hbl
      simp only [setE]
      repeat' first
        | with_reducible first | refine wpc_seq ?_ | refine wpc_ops ?_ | refine wops_nil ?_ | refine then_normal ?_ | refine wpc_block ?_ | refine block_normal ?_ | refine wpc_skip ?_ | refine wpc_exit ?_ | refine then_exit ?_ | refine block_exit_same ?_ | refine wpc_ret ?_ | refine then_ret ?_ | refine block_ret ?_ | refine wpc_draw ?_ | refine wdr_nil ?_ | refine gate_t ?_ | refine gate_f ?_ | refine gate_tt ?_ | refine gate_ff ?_ | refine gate_tf ?_ | refine gate_ft ?_ | exact keep_same | exact keep_true
        | (with_reducible refine block_exit_other ?_ ?_; decide)
        | ((with_reducible refine keep_rfl ?_); exact rfl)
        | ((with_reducible first | apply wops_guard | apply wdr_guard | apply wpc_test); focus (simp (disch := omega) only [go_sem, ↓reduceIte, Nat.reduceEqDiff, Nat.reduceAdd, Nat.reduceSub, Nat.reduceMul, Nat.reduceLeDiff, Nat.reduceLT, Nat.reduceBEq, Nat.reduceBNe, Int.reduceToNat, Int.reduceLE, Int.reduceLT, Int.reduceNeg, Int.reduceEq, Int.reduceBEq, Int.reduceBNe, Int.reduceAdd, Int.reduceSub, Int.reduceMul, reduceCtorEq]; with_reducible first | exact lit_t | exact lit_f))
        | ((with_reducible first | apply wops_step | apply wops_do | apply wdr_step); focus (simp (disch := omega) only [go_sem, ↓reduceIte, Nat.reduceEqDiff, Nat.reduceAdd, Nat.reduceSub, Nat.reduceMul, Nat.reduceLeDiff, Nat.reduceLT, Nat.reduceBEq, Nat.reduceBNe, Int.reduceToNat, Int.reduceLE, Int.reduceLT, Int.reduceNeg, Int.reduceEq, Int.reduceBEq, Int.reduceBNe, Int.reduceAdd, Int.reduceSub, Int.reduceMul, reduceCtorEq]; first | with_reducible exact rfl | (rw [if_pos (by first | omega | (constructor <;> omega) | (simp; done) | assumption)]; first | with_reducible exact rfl | (try simp (disch := omega) only [go_sem, ↓reduceIte, Nat.reduceEqDiff, Nat.reduceAdd, Nat.reduceSub, Nat.reduceMul, Nat.reduceLeDiff, Nat.reduceLT, Nat.reduceBEq, Nat.reduceBNe, Int.reduceToNat, Int.reduceLE, Int.reduceLT, Int.reduceNeg, Int.reduceEq, Int.reduceBEq, Int.reduceBNe, Int.reduceAdd, Int.reduceSub, Int.reduceMul, reduceCtorEq]; with_reducible exact rfl))))
      with_reducible apply wops_call1
      · first | exact rfl | (simp (disch := omega) only [go_sem, ↓reduceIte, Nat.reduceEqDiff, Nat.reduceAdd, Nat.reduceSub, Nat.reduceMul, Nat.reduceLeDiff, Nat.reduceLT, Nat.reduceBEq, Nat.reduceBNe, Int.reduceToNat, Int.reduceLE, Int.reduceLT, Int.reduceNeg, Int.reduceEq, Int.reduceBEq, Int.reduceBNe, Int.reduceAdd, Int.reduceSub, Int.reduceMul, reduceCtorEq, setE]; exact rfl)
      · (simp (disch := omega) only [go_sem, ↓reduceIte, Nat.reduceEqDiff, Nat.reduceAdd, Nat.reduceSub, Nat.reduceMul, Nat.reduceLeDiff, Nat.reduceLT, Nat.reduceBEq, Nat.reduceBNe, Int.reduceToNat, Int.reduceLE, Int.reduceLT, Int.reduceNeg, Int.reduceEq, Int.reduceBEq, Int.reduceBNe, Int.reduceAdd, Int.reduceSub, Int.reduceMul, reduceCtorEq, setE]; exact rfl)
      · exact hh x b _ hx hbl
      cases hs : inSet x b
      · rw [hs] at hsn
        simp only [Bool.false_eq_true, if_false, List.append_nil] at hsn
        repeat' first
          | with_reducible first | refine wpc_seq ?_ | refine wpc_ops ?_ | refine wops_nil ?_ | refine then_normal ?_ | refine wpc_block ?_ | refine block_normal ?_ | refine wpc_skip ?_ | refine wpc_exit ?_ | refine then_exit ?_ | refine block_exit_same ?_ | refine wpc_ret ?_ | refine then_ret ?_ | refine block_ret ?_ | refine wpc_draw ?_ | refine wdr_nil ?_ | refine gate_t ?_ | refine gate_f ?_ | refine gate_tt ?_ | refine gate_ff ?_ | refine gate_tf ?_ | refine gate_ft ?_ | exact keep_same | exact keep_true
          | (with_reducible refine block_exit_other ?_ ?_; decide)
          | ((with_reducible refine keep_rfl ?_); exact rfl)
          | ((with_reducible first | apply wops_guard | apply wdr_guard | apply wpc_test); focus (simp (disch := omega) only [go_sem, ↓reduceIte, Nat.reduceEqDiff, Nat.reduceAdd, Nat.reduceSub, Nat.reduceMul, Nat.reduceLeDiff, Nat.reduceLT, Nat.reduceBEq, Nat.reduceBNe, Int.reduceToNat, Int.reduceLE, Int.reduceLT, Int.reduceNeg, Int.reduceEq, Int.reduceBEq, Int.reduceBNe, Int.reduceAdd, Int.reduceSub, Int.reduceMul, reduceCtorEq, hs]; with_reducible first | exact lit_t | exact lit_f))
          | ((with_reducible first | apply wops_step | apply wops_do | apply wdr_step); focus (simp (disch := omega) only [go_sem, ↓reduceIte, Nat.reduceEqDiff, Nat.reduceAdd, Nat.reduceSub, Nat.reduceMul, Nat.reduceLeDiff, Nat.reduceLT, Nat.reduceBEq, Nat.reduceBNe, Int.reduceToNat, Int.reduceLE, Int.reduceLT, Int.reduceNeg, Int.reduceEq, Int.reduceBEq, Int.reduceBNe, Int.reduceAdd, Int.reduceSub, Int.reduceMul, reduceCtorEq, hs]; first | with_reducible exact rfl | (rw [if_pos (by first | omega | (constructor <;> omega) | (simp; done) | assumption)]; first | with_reducible exact rfl | (try simp (disch := omega) only [go_sem, ↓reduceIte, Nat.reduceEqDiff, Nat.reduceAdd, Nat.reduceSub, Nat.reduceMul, Nat.reduceLeDiff, Nat.reduceLT, Nat.reduceBEq, Nat.reduceBNe, Int.reduceToNat, Int.reduceLE, Int.reduceLT, Int.reduceNeg, Int.reduceEq, Int.reduceBEq, Int.reduceBNe, Int.reduceAdd, Int.reduceSub, Int.reduceMul, reduceCtorEq, hs]; with_reducible exact rfl))))
        refine hK (b + 1) _ _ [] (by omega) (by omega) ?_ ?_
        · rw [hsn]; simp [setE]
        · rw [hsn]
          refine ⟨⟨by simp (disch := omega) only [go_sem, ↓reduceIte, Nat.reduceEqDiff, Nat.reduceAdd, Nat.reduceSub, Nat.reduceMul, Nat.reduceLeDiff, Nat.reduceLT, Nat.reduceBEq, Nat.reduceBNe, Int.reduceToNat, Int.reduceLE, Int.reduceLT, Int.reduceNeg, Int.reduceEq, Int.reduceBEq, Int.reduceBNe, Int.reduceAdd, Int.reduceSub, Int.reduceMul, reduceCtorEq], by simp [EV.ok] <;> omega⟩, ⟨by simp (disch := omega) only [go_sem, ↓reduceIte, Nat.reduceEqDiff, Nat.reduceAdd, Nat.reduceSub, Nat.reduceMul, Nat.reduceLeDiff, Nat.reduceLT, Nat.reduceBEq, Nat.reduceBNe, Int.reduceToNat, Int.reduceLE, Int.reduceLT, Int.reduceNeg, Int.reduceEq, Int.reduceBEq, Int.reduceBNe, Int.reduceAdd, Int.reduceSub, Int.reduceMul, reduceCtorEq], grow_ok (by simp [growH_len]; omega)⟩, ⟨by simp (disch := omega) only [go_sem, ↓reduceIte, Nat.reduceEqDiff, Nat.reduceAdd, Nat.reduceSub, Nat.reduceMul, Nat.reduceLeDiff, Nat.reduceLT, Nat.reduceBEq, Nat.reduceBNe, Int.reduceToNat, Int.reduceLE, Int.reduceLT, Int.reduceNeg, Int.reduceEq, Int.reduceBEq, Int.reduceBNe, Int.reduceAdd, Int.reduceSub, Int.reduceMul, reduceCtorEq] <;> rfl, rfl⟩, trivial⟩
      · rw [hs] at hsn
        simp only [if_true] at hsn
        have hap := grow_append (A := H ++ [some (.row 4 [setE x])]) (es := ((bytesF x).take (cntF x b)).map encF) (e := encF ⟨b, hbl⟩) rfl (by simp; omega)
        simp only [List.length_append, List.length_cons, List.length_nil, Nat.zero_add, List.append_assoc, List.cons_append, List.nil_append, setE, encF] at hap
        repeat' first
          | with_reducible first | refine wpc_seq ?_ | refine wpc_ops ?_ | refine wops_nil ?_ | refine then_normal ?_ | refine wpc_block ?_ | refine block_normal ?_ | refine wpc_skip ?_ | refine wpc_exit ?_ | refine then_exit ?_ | refine block_exit_same ?_ | refine wpc_ret ?_ | refine then_ret ?_ | refine block_ret ?_ | refine wpc_draw ?_ | refine wdr_nil ?_ | refine gate_t ?_ | refine gate_f ?_ | refine gate_tt ?_ | refine gate_ff ?_ | refine gate_tf ?_ | refine gate_ft ?_ | exact keep_same | exact keep_true
          | (with_reducible refine block_exit_other ?_ ?_; decide)
          | ((with_reducible refine keep_rfl ?_); exact rfl)
          | ((with_reducible first | apply wops_guard | apply wdr_guard | apply wpc_test); focus (simp (disch := omega) only [go_sem, ↓reduceIte, Nat.reduceEqDiff, Nat.reduceAdd, Nat.reduceSub, Nat.reduceMul, Nat.reduceLeDiff, Nat.reduceLT, Nat.reduceBEq, Nat.reduceBNe, Int.reduceToNat, Int.reduceLE, Int.reduceLT, Int.reduceNeg, Int.reduceEq, Int.reduceBEq, Int.reduceBNe, Int.reduceAdd, Int.reduceSub, Int.reduceMul, reduceCtorEq, hs]; with_reducible first | exact lit_t | exact lit_f))
          | ((with_reducible first | apply wops_step | apply wops_do | apply wdr_step); focus (simp (disch := omega) only [go_sem, ↓reduceIte, Nat.reduceEqDiff, Nat.reduceAdd, Nat.reduceSub, Nat.reduceMul, Nat.reduceLeDiff, Nat.reduceLT, Nat.reduceBEq, Nat.reduceBNe, Int.reduceToNat, Int.reduceLE, Int.reduceLT, Int.reduceNeg, Int.reduceEq, Int.reduceBEq, Int.reduceBNe, Int.reduceAdd, Int.reduceSub, Int.reduceMul, reduceCtorEq, hs]; first | with_reducible exact rfl | (rw [if_pos (by first | omega | (constructor <;> omega) | (simp; done) | assumption)]; first | with_reducible exact rfl | (try simp (disch := omega) only [go_sem, ↓reduceIte, Nat.reduceEqDiff, Nat.reduceAdd, Nat.reduceSub, Nat.reduceMul, Nat.reduceLeDiff, Nat.reduceLT, Nat.reduceBEq, Nat.reduceBNe, Int.reduceToNat, Int.reduceLE, Int.reduceLT, Int.reduceNeg, Int.reduceEq, Int.reduceBEq, Int.reduceBNe, Int.reduceAdd, Int.reduceSub, Int.reduceMul, reduceCtorEq, hs]; with_reducible exact rfl))))
        refine wops_append hap ?_
        repeat' first
          | with_reducible first | refine wpc_seq ?_ | refine wpc_ops ?_ | refine wops_nil ?_ | refine then_normal ?_ | refine wpc_block ?_ | refine block_normal ?_ | refine wpc_skip ?_ | refine wpc_exit ?_ | refine then_exit ?_ | refine block_exit_same ?_ | refine wpc_ret ?_ | refine then_ret ?_ | refine block_ret ?_ | refine wpc_draw ?_ | refine wdr_nil ?_ | refine gate_t ?_ | refine gate_f ?_ | refine gate_tt ?_ | refine gate_ff ?_ | refine gate_tf ?_ | refine gate_ft ?_ | exact keep_same | exact keep_true
          | (with_reducible refine block_exit_other ?_ ?_; decide)
          | ((with_reducible refine keep_rfl ?_); exact rfl)
          | ((with_reducible first | apply wops_guard | apply wdr_guard | apply wpc_test); focus (simp (disch := omega) only [go_sem, ↓reduceIte, Nat.reduceEqDiff, Nat.reduceAdd, Nat.reduceSub, Nat.reduceMul, Nat.reduceLeDiff, Nat.reduceLT, Nat.reduceBEq, Nat.reduceBNe, Int.reduceToNat, Int.reduceLE, Int.reduceLT, Int.reduceNeg, Int.reduceEq, Int.reduceBEq, Int.reduceBNe, Int.reduceAdd, Int.reduceSub, Int.reduceMul, reduceCtorEq]; with_reducible first | exact lit_t | exact lit_f))
          | ((with_reducible first | apply wops_step | apply wops_do | apply wdr_step); focus (simp (disch := omega) only [go_sem, ↓reduceIte, Nat.reduceEqDiff, Nat.reduceAdd, Nat.reduceSub, Nat.reduceMul, Nat.reduceLeDiff, Nat.reduceLT, Nat.reduceBEq, Nat.reduceBNe, Int.reduceToNat, Int.reduceLE, Int.reduceLT, Int.reduceNeg, Int.reduceEq, Int.reduceBEq, Int.reduceBNe, Int.reduceAdd, Int.reduceSub, Int.reduceMul, reduceCtorEq]; first | with_reducible exact rfl | (rw [if_pos (by first | omega | (constructor <;> omega) | (simp; done) | assumption)]; first | with_reducible exact rfl | (try simp (disch := omega) only [go_sem, ↓reduceIte, Nat.reduceEqDiff, Nat.reduceAdd, Nat.reduceSub, Nat.reduceMul, Nat.reduceLeDiff, Nat.reduceLT, Nat.reduceBEq, Nat.reduceBNe, Int.reduceToNat, Int.reduceLE, Int.reduceLT, Int.reduceNeg, Int.reduceEq, Int.reduceBEq, Int.reduceBNe, Int.reduceAdd, Int.reduceSub, Int.reduceMul, reduceCtorEq]; with_reducible exact rfl))))
        refine hK (b + 1) _ _ [] (by omega) (by omega) ?_ ?_
        · rw [hsn]; simp [setE, encF]
        · rw [hsn, List.map_append]
          refine ⟨⟨by simp (disch := omega) only [go_sem, ↓reduceIte, Nat.reduceEqDiff, Nat.reduceAdd, Nat.reduceSub, Nat.reduceMul, Nat.reduceLeDiff, Nat.reduceLT, Nat.reduceBEq, Nat.reduceBNe, Int.reduceToNat, Int.reduceLE, Int.reduceLT, Int.reduceNeg, Int.reduceEq, Int.reduceBEq, Int.reduceBNe, Int.reduceAdd, Int.reduceSub, Int.reduceMul, reduceCtorEq], by simp [EV.ok] <;> omega⟩, ⟨by simp (disch := omega) only [go_sem, ↓reduceIte, Nat.reduceEqDiff, Nat.reduceAdd, Nat.reduceSub, Nat.reduceMul, Nat.reduceLeDiff, Nat.reduceLT, Nat.reduceBEq, Nat.reduceBNe, Int.reduceToNat, Int.reduceLE, Int.reduceLT, Int.reduceNeg, Int.reduceEq, Int.reduceBEq, Int.reduceBNe, Int.reduceAdd, Int.reduceSub, Int.reduceMul, reduceCtorEq, encF, List.map_cons, List.map_nil], grow_ok (by simp [growH_len]; omega)⟩, ⟨by simp (disch := omega) only [go_sem, ↓reduceIte, Nat.reduceEqDiff, Nat.reduceAdd, Nat.reduceSub, Nat.reduceMul, Nat.reduceLeDiff, Nat.reduceLT, Nat.reduceBEq, Nat.reduceBNe, Int.reduceToNat, Int.reduceLE, Int.reduceLT, Int.reduceNeg, Int.reduceEq, Int.reduceBEq, Int.reduceBNe, Int.reduceAdd, Int.reduceSub, Int.reduceMul, reduceCtorEq] <;> rfl, rfl⟩, trivial⟩
    · have hi4 : b = 256 := by have := of_decide_eq_false ht; omega
      subst hi4
      have hca := cnt_all x
      repeat' first
        | with_reducible first | refine wpc_seq ?_ | refine wpc_ops ?_ | refine wops_nil ?_ | refine then_normal ?_ | refine wpc_block ?_ | refine block_normal ?_ | refine wpc_skip ?_ | refine wpc_exit ?_ | refine then_exit ?_ | refine block_exit_same ?_ | refine wpc_ret ?_ | refine then_ret ?_ | refine block_ret ?_ | refine wpc_draw ?_ | refine wdr_nil ?_ | refine gate_t ?_ | refine gate_f ?_ | refine gate_tt ?_ | refine gate_ff ?_ | refine gate_tf ?_ | refine gate_ft ?_ | exact keep_same | exact keep_true
        | (with_reducible refine block_exit_other ?_ ?_; decide)
        | ((with_reducible refine keep_rfl ?_); exact rfl)
        | ((with_reducible first | apply wops_guard | apply wdr_guard | apply wpc_test); focus (simp (disch := omega) only [go_sem, ↓reduceIte, Nat.reduceEqDiff, Nat.reduceAdd, Nat.reduceSub, Nat.reduceMul, Nat.reduceLeDiff, Nat.reduceLT, Nat.reduceBEq, Nat.reduceBNe, Int.reduceToNat, Int.reduceLE, Int.reduceLT, Int.reduceNeg, Int.reduceEq, Int.reduceBEq, Int.reduceBNe, Int.reduceAdd, Int.reduceSub, Int.reduceMul, reduceCtorEq]; with_reducible first | exact lit_t | exact lit_f))
        | ((with_reducible first | apply wops_step | apply wops_do | apply wdr_step); focus (simp (disch := omega) only [go_sem, ↓reduceIte, Nat.reduceEqDiff, Nat.reduceAdd, Nat.reduceSub, Nat.reduceMul, Nat.reduceLeDiff, Nat.reduceLT, Nat.reduceBEq, Nat.reduceBNe, Int.reduceToNat, Int.reduceLE, Int.reduceLT, Int.reduceNeg, Int.reduceEq, Int.reduceBEq, Int.reduceBNe, Int.reduceAdd, Int.reduceSub, Int.reduceMul, reduceCtorEq]; first | with_reducible exact rfl | (rw [if_pos (by first | omega | (constructor <;> omega) | (simp; done) | assumption)]; first | with_reducible exact rfl | (try simp (disch := omega) only [go_sem, ↓reduceIte, Nat.reduceEqDiff, Nat.reduceAdd, Nat.reduceSub, Nat.reduceMul, Nat.reduceLeDiff, Nat.reduceLT, Nat.reduceBEq, Nat.reduceBNe, Int.reduceToNat, Int.reduceLE, Int.reduceLT, Int.reduceNeg, Int.reduceEq, Int.reduceBEq, Int.reduceBNe, Int.reduceAdd, Int.reduceSub, Int.reduceMul, reduceCtorEq]; with_reducible exact rfl))))
      refine hQ' _ _ _ ?_
      rw [hca, List.take_length]
      repeat' first
        | with_reducible first | refine wpc_seq ?_ | refine wpc_ops ?_ | refine wops_nil ?_ | refine then_normal ?_ | refine wpc_block ?_ | refine block_normal ?_ | refine wpc_skip ?_ | refine wpc_exit ?_ | refine then_exit ?_ | refine block_exit_same ?_ | refine wpc_ret ?_ | refine then_ret ?_ | refine block_ret ?_ | refine wpc_draw ?_ | refine wdr_nil ?_ | refine gate_t ?_ | refine gate_f ?_ | refine gate_tt ?_ | refine gate_ff ?_ | refine gate_tf ?_ | refine gate_ft ?_ | exact keep_same | exact keep_true
        | (with_reducible refine block_exit_other ?_ ?_; decide)
        | ((with_reducible refine keep_rfl ?_); exact rfl)
        | ((with_reducible first | apply wops_guard | apply wdr_guard | apply wpc_test); focus (simp (disch := omega) only [go_sem, ↓reduceIte, Nat.reduceEqDiff, Nat.reduceAdd, Nat.reduceSub, Nat.reduceMul, Nat.reduceLeDiff, Nat.reduceLT, Nat.reduceBEq, Nat.reduceBNe, Int.reduceToNat, Int.reduceLE, Int.reduceLT, Int.reduceNeg, Int.reduceEq, Int.reduceBEq, Int.reduceBNe, Int.reduceAdd, Int.reduceSub, Int.reduceMul, reduceCtorEq]; with_reducible first | exact lit_t | exact lit_f))
        | ((with_reducible first | apply wops_step | apply wops_do | apply wdr_step); focus (simp (disch := omega) only [go_sem, ↓reduceIte, Nat.reduceEqDiff, Nat.reduceAdd, Nat.reduceSub, Nat.reduceMul, Nat.reduceLeDiff, Nat.reduceLT, Nat.reduceBEq, Nat.reduceBNe, Int.reduceToNat, Int.reduceLE, Int.reduceLT, Int.reduceNeg, Int.reduceEq, Int.reduceBEq, Int.reduceBNe, Int.reduceAdd, Int.reduceSub, Int.reduceMul, reduceCtorEq]; first | with_reducible exact rfl | (rw [if_pos (by first | omega | (constructor <;> omega) | (simp; done) | assumption)]; first | with_reducible exact rfl | (try simp (disch := omega) only [go_sem, ↓reduceIte, Nat.reduceEqDiff, Nat.reduceAdd, Nat.reduceSub, Nat.reduceMul, Nat.reduceLeDiff, Nat.reduceLT, Nat.reduceBEq, Nat.reduceBNe, Int.reduceToNat, Int.reduceLE, Int.reduceLT, Int.reduceNeg, Int.reduceEq, Int.reduceBEq, Int.reduceBNe, Int.reduceAdd, Int.reduceSub, Int.reduceMul, reduceCtorEq]; with_reducible exact rfl))))
      refine bodyA_fz hok (r := grow (H.length + 1) ((bytesF x).map encF)) ?_ ?_ ⟨rfl, rfl⟩
      · (simp (disch := omega) only [go_sem, ↓reduceIte, Nat.reduceEqDiff, Nat.reduceAdd, Nat.reduceSub, Nat.reduceMul, Nat.reduceLeDiff, Nat.reduceLT, Nat.reduceBEq, Nat.reduceBNe, Int.reduceToNat, Int.reduceLE, Int.reduceLT, Int.reduceNeg, Int.reduceEq, Int.reduceBEq, Int.reduceBNe, Int.reduceAdd, Int.reduceSub, Int.reduceMul, reduceCtorEq, evResults, evResL, evRes, hackleref01_Bytes_r])
      · have := grow_fz (H := H) (A := H ++ [some (.row 4 [setE x])]) (es := (bytesF x).map encF) (by simp) (encF_ok _)
        simpa using this


theorem nextZ_cons (b : Fin 256) (l : List (Fin 256)) (n : Int) : nextZ (b :: l) n = if n ≤ ((b.val : Nat) : Int) then ((b.val : Nat) : Int) else nextZ l n := by
  unfold nextZ
  by_cases h : n ≤ ((b.val : Nat) : Int)
  · simp [h]
  · simp [h]

theorem nextZ_nil (n : Int) : nextZ [] n = -1 := rfl

attribute [local irreducible] nextZ sliceV

set_option maxHeartbeats 8000000 in
theorem octsAsk_ok {f fa fr fb fc fn : FuncId} (hb : Body P f (hacklelaw01_OctsAsk fa fr fb fc fn) hacklelaw01_OctsAsk_r 60) (ha : ∀ H, CallsA P γ fa [] H fun er H' => er = .ret (.bool true) ∧ H' = H)
    (hr : BytesOk P γ fr) (hB : BytesOk P γ fb) (hc : CountOk P γ fc) (hn : NextOk P γ fn) (x : Nat → Nat) (hx : Words x) (n : Int) (H : Heap) :
    CallsA P γ f [setE x, .int .i64 n] H fun er H' => er = .ret (.bool true) ∧ H' = H := by
  refine hb.calls (by simp) fun hok => ?_
  have hlen := len_le x
  obtain ⟨l, hl⟩ : ∃ l, l = bytesF x := ⟨_, rfl⟩
  obtain ⟨v, hv⟩ : ∃ v, v = sliceV (l.map encF) := ⟨_, rfl⟩
  have hs : SliceOf 1 v (l.map encF) := by rw [hv]; exact sliceV_of (encF_ok l)
  have hvl := hs.len
  rw [List.length_map] at hvl
  have hvok : ∀ n, v.ok n = true := fun n => EV.ok_mono (Nat.zero_le n) v hs.ok
  have hB' := hB x
  have hr' := hr x
  have hc' := hc x
  have hn' := hn x
  rw [← hl] at hB' hr' hc' hn' hlen
  rw [← hv] at hB' hr'
  have ne : (((l.length : Nat) : Int) != ((l.length : Nat) : Int)) = false := by simp
  unfold hacklelaw01_OctsAsk
  repeat' first
    | with_reducible first | refine wpc_seq ?_ | refine wpc_ops ?_ | refine wops_nil ?_ | refine then_normal ?_ | refine wpc_block ?_ | refine block_normal ?_ | refine wpc_skip ?_ | refine wpc_exit ?_ | refine then_exit ?_ | refine block_exit_same ?_ | refine wpc_ret ?_ | refine then_ret ?_ | refine block_ret ?_ | refine wpc_draw ?_ | refine wdr_nil ?_ | refine gate_t ?_ | refine gate_f ?_ | refine gate_tt ?_ | refine gate_ff ?_ | refine gate_tf ?_ | refine gate_ft ?_ | exact keep_same | exact keep_true
    | (with_reducible refine block_exit_other ?_ ?_; decide)
    | ((with_reducible refine keep_rfl ?_); exact rfl)
    | ((with_reducible first | apply wops_guard | apply wdr_guard | apply wpc_test); focus (simp (disch := omega) only [go_sem, ↓reduceIte, Nat.reduceEqDiff, Nat.reduceAdd, Nat.reduceSub, Nat.reduceMul, Nat.reduceLeDiff, Nat.reduceLT, Nat.reduceBEq, Nat.reduceBNe, Int.reduceToNat, Int.reduceLE, Int.reduceLT, Int.reduceNeg, Int.reduceEq, Int.reduceBEq, Int.reduceBNe, Int.reduceAdd, Int.reduceSub, Int.reduceMul, reduceCtorEq, setE]; with_reducible first | exact lit_t | exact lit_f))
    | ((with_reducible first | apply wops_step | apply wops_do | apply wdr_step); focus (simp (disch := omega) only [go_sem, ↓reduceIte, Nat.reduceEqDiff, Nat.reduceAdd, Nat.reduceSub, Nat.reduceMul, Nat.reduceLeDiff, Nat.reduceLT, Nat.reduceBEq, Nat.reduceBNe, Int.reduceToNat, Int.reduceLE, Int.reduceLT, Int.reduceNeg, Int.reduceEq, Int.reduceBEq, Int.reduceBNe, Int.reduceAdd, Int.reduceSub, Int.reduceMul, reduceCtorEq, setE]; first | with_reducible exact rfl | (rw [if_pos (by first | omega | (constructor <;> omega) | (simp; done) | assumption)]; first | with_reducible exact rfl | (try simp (disch := omega) only [go_sem, ↓reduceIte, Nat.reduceEqDiff, Nat.reduceAdd, Nat.reduceSub, Nat.reduceMul, Nat.reduceLeDiff, Nat.reduceLT, Nat.reduceBEq, Nat.reduceBNe, Int.reduceToNat, Int.reduceLE, Int.reduceLT, Int.reduceNeg, Int.reduceEq, Int.reduceBEq, Int.reduceBNe, Int.reduceAdd, Int.reduceSub, Int.reduceMul, reduceCtorEq, setE]; with_reducible exact rfl))))
  with_reducible apply wops_call1
  · first | exact rfl | (simp (disch := omega) only [go_sem, ↓reduceIte, Nat.reduceEqDiff, Nat.reduceAdd, Nat.reduceSub, Nat.reduceMul, Nat.reduceLeDiff, Nat.reduceLT, Nat.reduceBEq, Nat.reduceBNe, Int.reduceToNat, Int.reduceLE, Int.reduceLT, Int.reduceNeg, Int.reduceEq, Int.reduceBEq, Int.reduceBNe, Int.reduceAdd, Int.reduceSub, Int.reduceMul, reduceCtorEq]; exact rfl)
  · (simp (disch := omega) only [go_sem, ↓reduceIte, Nat.reduceEqDiff, Nat.reduceAdd, Nat.reduceSub, Nat.reduceMul, Nat.reduceLeDiff, Nat.reduceLT, Nat.reduceBEq, Nat.reduceBNe, Int.reduceToNat, Int.reduceLE, Int.reduceLT, Int.reduceNeg, Int.reduceEq, Int.reduceBEq, Int.reduceBNe, Int.reduceAdd, Int.reduceSub, Int.reduceMul, reduceCtorEq]; exact rfl)
  · exact ha _
  repeat' first
    | with_reducible first | refine wpc_seq ?_ | refine wpc_ops ?_ | refine wops_nil ?_ | refine then_normal ?_ | refine wpc_block ?_ | refine block_normal ?_ | refine wpc_skip ?_ | refine wpc_exit ?_ | refine then_exit ?_ | refine block_exit_same ?_ | refine wpc_ret ?_ | refine then_ret ?_ | refine block_ret ?_ | refine wpc_draw ?_ | refine wdr_nil ?_ | refine gate_t ?_ | refine gate_f ?_ | refine gate_tt ?_ | refine gate_ff ?_ | refine gate_tf ?_ | refine gate_ft ?_ | exact keep_same | exact keep_true
    | (with_reducible refine block_exit_other ?_ ?_; decide)
    | ((with_reducible refine keep_rfl ?_); exact rfl)
    | ((with_reducible first | apply wops_guard | apply wdr_guard | apply wpc_test); focus (simp (disch := omega) only [go_sem, ↓reduceIte, Nat.reduceEqDiff, Nat.reduceAdd, Nat.reduceSub, Nat.reduceMul, Nat.reduceLeDiff, Nat.reduceLT, Nat.reduceBEq, Nat.reduceBNe, Int.reduceToNat, Int.reduceLE, Int.reduceLT, Int.reduceNeg, Int.reduceEq, Int.reduceBEq, Int.reduceBNe, Int.reduceAdd, Int.reduceSub, Int.reduceMul, reduceCtorEq, setE]; with_reducible first | exact lit_t | exact lit_f))
    | ((with_reducible first | apply wops_step | apply wops_do | apply wdr_step); focus (simp (disch := omega) only [go_sem, ↓reduceIte, Nat.reduceEqDiff, Nat.reduceAdd, Nat.reduceSub, Nat.reduceMul, Nat.reduceLeDiff, Nat.reduceLT, Nat.reduceBEq, Nat.reduceBNe, Int.reduceToNat, Int.reduceLE, Int.reduceLT, Int.reduceNeg, Int.reduceEq, Int.reduceBEq, Int.reduceBNe, Int.reduceAdd, Int.reduceSub, Int.reduceMul, reduceCtorEq, setE]; first | with_reducible exact rfl | (rw [if_pos (by first | omega | (constructor <;> omega) | (simp; done) | assumption)]; first | with_reducible exact rfl | (try simp (disch := omega) only [go_sem, ↓reduceIte, Nat.reduceEqDiff, Nat.reduceAdd, Nat.reduceSub, Nat.reduceMul, Nat.reduceLeDiff, Nat.reduceLT, Nat.reduceBEq, Nat.reduceBNe, Int.reduceToNat, Int.reduceLE, Int.reduceLT, Int.reduceNeg, Int.reduceEq, Int.reduceBEq, Int.reduceBNe, Int.reduceAdd, Int.reduceSub, Int.reduceMul, reduceCtorEq, setE]; with_reducible exact rfl))))
  with_reducible apply wdr_call
  · first | exact rfl | (simp (disch := omega) only [go_sem, ↓reduceIte, Nat.reduceEqDiff, Nat.reduceAdd, Nat.reduceSub, Nat.reduceMul, Nat.reduceLeDiff, Nat.reduceLT, Nat.reduceBEq, Nat.reduceBNe, Int.reduceToNat, Int.reduceLE, Int.reduceLT, Int.reduceNeg, Int.reduceEq, Int.reduceBEq, Int.reduceBNe, Int.reduceAdd, Int.reduceSub, Int.reduceMul, reduceCtorEq, setE]; exact rfl)
  · (simp (disch := omega) only [go_sem, ↓reduceIte, Nat.reduceEqDiff, Nat.reduceAdd, Nat.reduceSub, Nat.reduceMul, Nat.reduceLeDiff, Nat.reduceLT, Nat.reduceBEq, Nat.reduceBNe, Int.reduceToNat, Int.reduceLE, Int.reduceLT, Int.reduceNeg, Int.reduceEq, Int.reduceBEq, Int.reduceBNe, Int.reduceAdd, Int.reduceSub, Int.reduceMul, reduceCtorEq, setE]; exact rfl)
  · exact hB' _ hx
  · exact fun _ => rfl
  repeat' first
    | with_reducible first | refine wpc_seq ?_ | refine wpc_ops ?_ | refine wops_nil ?_ | refine then_normal ?_ | refine wpc_block ?_ | refine block_normal ?_ | refine wpc_skip ?_ | refine wpc_exit ?_ | refine then_exit ?_ | refine block_exit_same ?_ | refine wpc_ret ?_ | refine then_ret ?_ | refine block_ret ?_ | refine wpc_draw ?_ | refine wdr_nil ?_ | refine gate_t ?_ | refine gate_f ?_ | refine gate_tt ?_ | refine gate_ff ?_ | refine gate_tf ?_ | refine gate_ft ?_ | exact keep_same | exact keep_true
    | (with_reducible refine block_exit_other ?_ ?_; decide)
    | ((with_reducible refine keep_rfl ?_); exact rfl)
    | ((with_reducible first | apply wops_guard | apply wdr_guard | apply wpc_test); focus (simp (disch := omega) only [go_sem, ↓reduceIte, Nat.reduceEqDiff, Nat.reduceAdd, Nat.reduceSub, Nat.reduceMul, Nat.reduceLeDiff, Nat.reduceLT, Nat.reduceBEq, Nat.reduceBNe, Int.reduceToNat, Int.reduceLE, Int.reduceLT, Int.reduceNeg, Int.reduceEq, Int.reduceBEq, Int.reduceBNe, Int.reduceAdd, Int.reduceSub, Int.reduceMul, reduceCtorEq, setE]; with_reducible first | exact lit_t | exact lit_f))
    | ((with_reducible first | apply wops_step | apply wops_do | apply wdr_step); focus (simp (disch := omega) only [go_sem, ↓reduceIte, Nat.reduceEqDiff, Nat.reduceAdd, Nat.reduceSub, Nat.reduceMul, Nat.reduceLeDiff, Nat.reduceLT, Nat.reduceBEq, Nat.reduceBNe, Int.reduceToNat, Int.reduceLE, Int.reduceLT, Int.reduceNeg, Int.reduceEq, Int.reduceBEq, Int.reduceBNe, Int.reduceAdd, Int.reduceSub, Int.reduceMul, reduceCtorEq, setE]; first | with_reducible exact rfl | (rw [if_pos (by first | omega | (constructor <;> omega) | (simp; done) | assumption)]; first | with_reducible exact rfl | (try simp (disch := omega) only [go_sem, ↓reduceIte, Nat.reduceEqDiff, Nat.reduceAdd, Nat.reduceSub, Nat.reduceMul, Nat.reduceLeDiff, Nat.reduceLT, Nat.reduceBEq, Nat.reduceBNe, Int.reduceToNat, Int.reduceLE, Int.reduceLT, Int.reduceNeg, Int.reduceEq, Int.reduceBEq, Int.reduceBNe, Int.reduceAdd, Int.reduceSub, Int.reduceMul, reduceCtorEq, setE]; with_reducible exact rfl))))
  with_reducible apply wdr_call
  · first | exact rfl | (simp (disch := omega) only [go_sem, ↓reduceIte, Nat.reduceEqDiff, Nat.reduceAdd, Nat.reduceSub, Nat.reduceMul, Nat.reduceLeDiff, Nat.reduceLT, Nat.reduceBEq, Nat.reduceBNe, Int.reduceToNat, Int.reduceLE, Int.reduceLT, Int.reduceNeg, Int.reduceEq, Int.reduceBEq, Int.reduceBNe, Int.reduceAdd, Int.reduceSub, Int.reduceMul, reduceCtorEq, setE]; exact rfl)
  · (simp (disch := omega) only [go_sem, ↓reduceIte, Nat.reduceEqDiff, Nat.reduceAdd, Nat.reduceSub, Nat.reduceMul, Nat.reduceLeDiff, Nat.reduceLT, Nat.reduceBEq, Nat.reduceBNe, Int.reduceToNat, Int.reduceLE, Int.reduceLT, Int.reduceNeg, Int.reduceEq, Int.reduceBEq, Int.reduceBNe, Int.reduceAdd, Int.reduceSub, Int.reduceMul, reduceCtorEq, setE]; exact rfl)
  · exact hr' _ hx
  · exact fun _ => rfl
  repeat' first
    | with_reducible first | refine wpc_seq ?_ | refine wpc_ops ?_ | refine wops_nil ?_ | refine then_normal ?_ | refine wpc_block ?_ | refine block_normal ?_ | refine wpc_skip ?_ | refine wpc_exit ?_ | refine then_exit ?_ | refine block_exit_same ?_ | refine wpc_ret ?_ | refine then_ret ?_ | refine block_ret ?_ | refine wpc_draw ?_ | refine wdr_nil ?_ | refine gate_t ?_ | refine gate_f ?_ | refine gate_tt ?_ | refine gate_ff ?_ | refine gate_tf ?_ | refine gate_ft ?_ | exact keep_same | exact keep_true
    | (with_reducible refine block_exit_other ?_ ?_; decide)
    | ((with_reducible refine keep_rfl ?_); exact rfl)
    | ((with_reducible first | apply wops_guard | apply wdr_guard | apply wpc_test); focus (simp (disch := omega) only [go_sem, ↓reduceIte, Nat.reduceEqDiff, Nat.reduceAdd, Nat.reduceSub, Nat.reduceMul, Nat.reduceLeDiff, Nat.reduceLT, Nat.reduceBEq, Nat.reduceBNe, Int.reduceToNat, Int.reduceLE, Int.reduceLT, Int.reduceNeg, Int.reduceEq, Int.reduceBEq, Int.reduceBNe, Int.reduceAdd, Int.reduceSub, Int.reduceMul, reduceCtorEq, hvl, ne, setE]; with_reducible first | exact lit_t | exact lit_f))
    | ((with_reducible first | apply wops_step | apply wops_do | apply wdr_step); focus (simp (disch := omega) only [go_sem, ↓reduceIte, Nat.reduceEqDiff, Nat.reduceAdd, Nat.reduceSub, Nat.reduceMul, Nat.reduceLeDiff, Nat.reduceLT, Nat.reduceBEq, Nat.reduceBNe, Int.reduceToNat, Int.reduceLE, Int.reduceLT, Int.reduceNeg, Int.reduceEq, Int.reduceBEq, Int.reduceBNe, Int.reduceAdd, Int.reduceSub, Int.reduceMul, reduceCtorEq, hvl, ne, setE]; first | with_reducible exact rfl | (rw [if_pos (by first | omega | (constructor <;> omega) | (simp; done) | assumption)]; first | with_reducible exact rfl | (try simp (disch := omega) only [go_sem, ↓reduceIte, Nat.reduceEqDiff, Nat.reduceAdd, Nat.reduceSub, Nat.reduceMul, Nat.reduceLeDiff, Nat.reduceLT, Nat.reduceBEq, Nat.reduceBNe, Int.reduceToNat, Int.reduceLE, Int.reduceLT, Int.reduceNeg, Int.reduceEq, Int.reduceBEq, Int.reduceBNe, Int.reduceAdd, Int.reduceSub, Int.reduceMul, reduceCtorEq, hvl, ne, setE]; with_reducible exact rfl))))
  with_reducible apply wops_call1
  · first | exact rfl | (simp (disch := omega) only [go_sem, ↓reduceIte, Nat.reduceEqDiff, Nat.reduceAdd, Nat.reduceSub, Nat.reduceMul, Nat.reduceLeDiff, Nat.reduceLT, Nat.reduceBEq, Nat.reduceBNe, Int.reduceToNat, Int.reduceLE, Int.reduceLT, Int.reduceNeg, Int.reduceEq, Int.reduceBEq, Int.reduceBNe, Int.reduceAdd, Int.reduceSub, Int.reduceMul, reduceCtorEq, setE]; exact rfl)
  · (simp (disch := omega) only [go_sem, ↓reduceIte, Nat.reduceEqDiff, Nat.reduceAdd, Nat.reduceSub, Nat.reduceMul, Nat.reduceLeDiff, Nat.reduceLT, Nat.reduceBEq, Nat.reduceBNe, Int.reduceToNat, Int.reduceLE, Int.reduceLT, Int.reduceNeg, Int.reduceEq, Int.reduceBEq, Int.reduceBNe, Int.reduceAdd, Int.reduceSub, Int.reduceMul, reduceCtorEq, setE]; exact rfl)
  · exact hc' _ hx
  repeat' first
    | with_reducible first | refine wpc_seq ?_ | refine wpc_ops ?_ | refine wops_nil ?_ | refine then_normal ?_ | refine wpc_block ?_ | refine block_normal ?_ | refine wpc_skip ?_ | refine wpc_exit ?_ | refine then_exit ?_ | refine block_exit_same ?_ | refine wpc_ret ?_ | refine then_ret ?_ | refine block_ret ?_ | refine wpc_draw ?_ | refine wdr_nil ?_ | refine gate_t ?_ | refine gate_f ?_ | refine gate_tt ?_ | refine gate_ff ?_ | refine gate_tf ?_ | refine gate_ft ?_ | exact keep_same | exact keep_true
    | (with_reducible refine block_exit_other ?_ ?_; decide)
    | ((with_reducible refine keep_rfl ?_); exact rfl)
    | ((with_reducible first | apply wops_guard | apply wdr_guard | apply wpc_test); focus (simp (disch := omega) only [go_sem, ↓reduceIte, Nat.reduceEqDiff, Nat.reduceAdd, Nat.reduceSub, Nat.reduceMul, Nat.reduceLeDiff, Nat.reduceLT, Nat.reduceBEq, Nat.reduceBNe, Int.reduceToNat, Int.reduceLE, Int.reduceLT, Int.reduceNeg, Int.reduceEq, Int.reduceBEq, Int.reduceBNe, Int.reduceAdd, Int.reduceSub, Int.reduceMul, reduceCtorEq, hvl, ne, setE]; with_reducible first | exact lit_t | exact lit_f))
    | ((with_reducible first | apply wops_step | apply wops_do | apply wdr_step); focus (simp (disch := omega) only [go_sem, ↓reduceIte, Nat.reduceEqDiff, Nat.reduceAdd, Nat.reduceSub, Nat.reduceMul, Nat.reduceLeDiff, Nat.reduceLT, Nat.reduceBEq, Nat.reduceBNe, Int.reduceToNat, Int.reduceLE, Int.reduceLT, Int.reduceNeg, Int.reduceEq, Int.reduceBEq, Int.reduceBNe, Int.reduceAdd, Int.reduceSub, Int.reduceMul, reduceCtorEq, hvl, ne, setE]; first | with_reducible exact rfl | (rw [if_pos (by first | omega | (constructor <;> omega) | (simp; done) | assumption)]; first | with_reducible exact rfl | (try simp (disch := omega) only [go_sem, ↓reduceIte, Nat.reduceEqDiff, Nat.reduceAdd, Nat.reduceSub, Nat.reduceMul, Nat.reduceLeDiff, Nat.reduceLT, Nat.reduceBEq, Nat.reduceBNe, Int.reduceToNat, Int.reduceLE, Int.reduceLT, Int.reduceNeg, Int.reduceEq, Int.reduceBEq, Int.reduceBNe, Int.reduceAdd, Int.reduceSub, Int.reduceMul, reduceCtorEq, hvl, ne, setE]; with_reducible exact rfl))))
  refine wpc_while (ι := Nat) (fun t => t ≤ l.length) (fun t => l.length - t) (fun t => [(1, .int .i64 n), (2, .ptr H.length 4 0 0), (5, v), (6, v), (7, .int .i64 (nextZ (l.drop (l.length - t)) n)), (8, .int .i64 ((l.length : Int) - 1 - (t : Int)))])
    (fun _ => H ++ [some (.row 4 [setE x])]) 0 (by omega) ?_ ?_ ?_ ?_ ?_
  · have e0 : nextZ (l.drop (l.length - 0)) n = -1 := by rw [Nat.sub_zero, List.drop_length, nextZ_nil]
    (repeat' (first | exact trivial | refine And.intro (And.intro ?_ ?_) ?_)) <;> first | exact rfl | (simp (disch := omega) only [go_sem, ↓reduceIte, Nat.reduceEqDiff, Nat.reduceAdd, Nat.reduceSub, Nat.reduceMul, Nat.reduceLeDiff, Nat.reduceLT, Nat.reduceBEq, Nat.reduceBNe, Int.reduceToNat, Int.reduceLE, Int.reduceLT, Int.reduceNeg, Int.reduceEq, Int.reduceBEq, Int.reduceBNe, Int.reduceAdd, Int.reduceSub, Int.reduceMul, reduceCtorEq, hvok, e0, Int.sub_zero, EV.ok, okL_tab_int, okL_tab_bool, okL_app, okL, decide_eq_true_eq, EV.int.injEq]; done) | (simp (disch := omega) only [go_sem, ↓reduceIte, Nat.reduceEqDiff, Nat.reduceAdd, Nat.reduceSub, Nat.reduceMul, Nat.reduceLeDiff, Nat.reduceLT, Nat.reduceBEq, Nat.reduceBNe, Int.reduceToNat, Int.reduceLE, Int.reduceLT, Int.reduceNeg, Int.reduceEq, Int.reduceBEq, Int.reduceBNe, Int.reduceAdd, Int.reduceSub, Int.reduceMul, reduceCtorEq, hvok, e0, Int.sub_zero, EV.ok, okL_tab_int, okL_tab_bool, okL_app, okL, decide_eq_true_eq, EV.int.injEq] <;> first | exact rfl | omega)
  · simp [setE]
  · exact fun i _ => okH_app hok (by simp [EB.ok, okG, okL, setE, EV.ok, okL_tab_int])
  · simp
  · intro t ht K Q' hK hQ'
    repeat' first
      | with_reducible first | refine wpc_seq ?_ | refine wpc_ops ?_ | refine wops_nil ?_ | refine then_normal ?_ | refine wpc_block ?_ | refine block_normal ?_ | refine wpc_skip ?_ | refine wpc_exit ?_ | refine then_exit ?_ | refine block_exit_same ?_ | refine wpc_ret ?_ | refine then_ret ?_ | refine block_ret ?_ | refine wpc_draw ?_ | refine wdr_nil ?_ | refine gate_t ?_ | refine gate_f ?_ | refine gate_tt ?_ | refine gate_ff ?_ | refine gate_tf ?_ | refine gate_ft ?_ | exact keep_same | exact keep_true
      | (with_reducible refine block_exit_other ?_ ?_; decide)
      | ((with_reducible refine keep_rfl ?_); exact rfl)
      | ((with_reducible first | apply wops_guard | apply wdr_guard | apply wpc_test); focus (simp (disch := omega) only [go_sem, ↓reduceIte, Nat.reduceEqDiff, Nat.reduceAdd, Nat.reduceSub, Nat.reduceMul, Nat.reduceLeDiff, Nat.reduceLT, Nat.reduceBEq, Nat.reduceBNe, Int.reduceToNat, Int.reduceLE, Int.reduceLT, Int.reduceNeg, Int.reduceEq, Int.reduceBEq, Int.reduceBNe, Int.reduceAdd, Int.reduceSub, Int.reduceMul, reduceCtorEq]; with_reducible first | exact lit_t | exact lit_f))
      | ((with_reducible first | apply wops_step | apply wops_do | apply wdr_step); focus (simp (disch := omega) only [go_sem, ↓reduceIte, Nat.reduceEqDiff, Nat.reduceAdd, Nat.reduceSub, Nat.reduceMul, Nat.reduceLeDiff, Nat.reduceLT, Nat.reduceBEq, Nat.reduceBNe, Int.reduceToNat, Int.reduceLE, Int.reduceLT, Int.reduceNeg, Int.reduceEq, Int.reduceBEq, Int.reduceBNe, Int.reduceAdd, Int.reduceSub, Int.reduceMul, reduceCtorEq]; first | with_reducible exact rfl | (rw [if_pos (by first | omega | (constructor <;> omega) | (simp; done) | assumption)]; first | with_reducible exact rfl | (try simp (disch := omega) only [go_sem, ↓reduceIte, Nat.reduceEqDiff, Nat.reduceAdd, Nat.reduceSub, Nat.reduceMul, Nat.reduceLeDiff, Nat.reduceLT, Nat.reduceBEq, Nat.reduceBNe, Int.reduceToNat, Int.reduceLE, Int.reduceLT, Int.reduceNeg, Int.reduceEq, Int.reduceBEq, Int.reduceBNe, Int.reduceAdd, Int.reduceSub, Int.reduceMul, reduceCtorEq]; with_reducible exact rfl))))
    refine wpc_cond (t := decide (((l.length : Int) - 1 - (t : Int)) ≥ 0)) (by simp (disch := omega) only [go_sem, ↓reduceIte, Nat.reduceEqDiff, Nat.reduceAdd, Nat.reduceSub, Nat.reduceMul, Nat.reduceLeDiff, Nat.reduceLT, Nat.reduceBEq, Nat.reduceBNe, Int.reduceToNat, Int.reduceLE, Int.reduceLT, Int.reduceNeg, Int.reduceEq, Int.reduceBEq, Int.reduceBNe, Int.reduceAdd, Int.reduceSub, Int.reduceMul, reduceCtorEq]) (fun hcc => ?_) (fun hcc => ?_)
    · have htl : t < l.length := by have := of_decide_eq_true hcc; omega
      obtain ⟨i, hi⟩ : ∃ i : Nat, i = l.length - 1 - t := ⟨_, rfl⟩
      have hit : ((l.length : Int) - 1 - (t : Int)) = ((i : Nat) : Int) := by omega
      have hil : i < l.length := by omega
      obtain ⟨b, hbi⟩ : ∃ b, l[i]? = some b := ⟨l[i], by simp [hil]⟩
      have hb8 := b.isLt
      have hel := hs.elem i (encF b) (by rw [List.getElem?_map, hbi]; rfl)
      have hdrop : l.drop (l.length - (t + 1)) = b :: l.drop (l.length - t) := by
        rw [show l.length - (t + 1) = i by omega, show l.length - t = i + 1 by omega, List.drop_eq_getElem_cons hil]
        congr 1
        rw [List.getElem?_eq_getElem hil] at hbi
        exact Option.some.inj hbi
      have hnx := nextZ_cons b (l.drop (l.length - t)) n
      rw [← hdrop] at hnx
      have nb : (((b.val : Nat) : Int) != ((b.val : Nat) : Int)) = false := by simp
      simp only [hit, encF] at hel ⊢
      repeat' first
        | with_reducible first | refine wpc_seq ?_ | refine wpc_ops ?_ | refine wops_nil ?_ | refine then_normal ?_ | refine wpc_block ?_ | refine block_normal ?_ | refine wpc_skip ?_ | refine wpc_exit ?_ | refine then_exit ?_ | refine block_exit_same ?_ | refine wpc_ret ?_ | refine then_ret ?_ | refine block_ret ?_ | refine wpc_draw ?_ | refine wdr_nil ?_ | refine gate_t ?_ | refine gate_f ?_ | refine gate_tt ?_ | refine gate_ff ?_ | refine gate_tf ?_ | refine gate_ft ?_ | exact keep_same | exact keep_true
        | (with_reducible refine block_exit_other ?_ ?_; decide)
        | ((with_reducible refine keep_rfl ?_); exact rfl)
        | ((with_reducible first | apply wops_guard | apply wdr_guard | apply wpc_test); focus (simp (disch := omega) only [go_sem, ↓reduceIte, Nat.reduceEqDiff, Nat.reduceAdd, Nat.reduceSub, Nat.reduceMul, Nat.reduceLeDiff, Nat.reduceLT, Nat.reduceBEq, Nat.reduceBNe, Int.reduceToNat, Int.reduceLE, Int.reduceLT, Int.reduceNeg, Int.reduceEq, Int.reduceBEq, Int.reduceBNe, Int.reduceAdd, Int.reduceSub, Int.reduceMul, reduceCtorEq, hel, nb]; with_reducible first | exact lit_t | exact lit_f))
        | ((with_reducible first | apply wops_step | apply wops_do | apply wdr_step); focus (simp (disch := omega) only [go_sem, ↓reduceIte, Nat.reduceEqDiff, Nat.reduceAdd, Nat.reduceSub, Nat.reduceMul, Nat.reduceLeDiff, Nat.reduceLT, Nat.reduceBEq, Nat.reduceBNe, Int.reduceToNat, Int.reduceLE, Int.reduceLT, Int.reduceNeg, Int.reduceEq, Int.reduceBEq, Int.reduceBNe, Int.reduceAdd, Int.reduceSub, Int.reduceMul, reduceCtorEq, hel, nb]; first | with_reducible exact rfl | (rw [if_pos (by first | omega | (constructor <;> omega) | (simp; done) | assumption)]; first | with_reducible exact rfl | (try simp (disch := omega) only [go_sem, ↓reduceIte, Nat.reduceEqDiff, Nat.reduceAdd, Nat.reduceSub, Nat.reduceMul, Nat.reduceLeDiff, Nat.reduceLT, Nat.reduceBEq, Nat.reduceBNe, Int.reduceToNat, Int.reduceLE, Int.reduceLT, Int.reduceNeg, Int.reduceEq, Int.reduceBEq, Int.reduceBNe, Int.reduceAdd, Int.reduceSub, Int.reduceMul, reduceCtorEq, hel, nb]; with_reducible exact rfl))))
      refine wpc_cond (t := decide (((b.val : Nat) : Int) ≥ n)) (by simp (disch := omega) only [go_sem, ↓reduceIte, Nat.reduceEqDiff, Nat.reduceAdd, Nat.reduceSub, Nat.reduceMul, Nat.reduceLeDiff, Nat.reduceLT, Nat.reduceBEq, Nat.reduceBNe, Int.reduceToNat, Int.reduceLE, Int.reduceLT, Int.reduceNeg, Int.reduceEq, Int.reduceBEq, Int.reduceBNe, Int.reduceAdd, Int.reduceSub, Int.reduceMul, reduceCtorEq]) (fun hc2 => ?_) (fun hc2 => ?_)
      · have hge : n ≤ ((b.val : Nat) : Int) := of_decide_eq_true hc2
        rw [if_pos hge] at hnx
        repeat' first
          | with_reducible first | refine wpc_seq ?_ | refine wpc_ops ?_ | refine wops_nil ?_ | refine then_normal ?_ | refine wpc_block ?_ | refine block_normal ?_ | refine wpc_skip ?_ | refine wpc_exit ?_ | refine then_exit ?_ | refine block_exit_same ?_ | refine wpc_ret ?_ | refine then_ret ?_ | refine block_ret ?_ | refine wpc_draw ?_ | refine wdr_nil ?_ | refine gate_t ?_ | refine gate_f ?_ | refine gate_tt ?_ | refine gate_ff ?_ | refine gate_tf ?_ | refine gate_ft ?_ | exact keep_same | exact keep_true
          | (with_reducible refine block_exit_other ?_ ?_; decide)
          | ((with_reducible refine keep_rfl ?_); exact rfl)
          | ((with_reducible first | apply wops_guard | apply wdr_guard | apply wpc_test); focus (simp (disch := omega) only [go_sem, ↓reduceIte, Nat.reduceEqDiff, Nat.reduceAdd, Nat.reduceSub, Nat.reduceMul, Nat.reduceLeDiff, Nat.reduceLT, Nat.reduceBEq, Nat.reduceBNe, Int.reduceToNat, Int.reduceLE, Int.reduceLT, Int.reduceNeg, Int.reduceEq, Int.reduceBEq, Int.reduceBNe, Int.reduceAdd, Int.reduceSub, Int.reduceMul, reduceCtorEq, hel]; with_reducible first | exact lit_t | exact lit_f))
          | ((with_reducible first | apply wops_step | apply wops_do | apply wdr_step); focus (simp (disch := omega) only [go_sem, ↓reduceIte, Nat.reduceEqDiff, Nat.reduceAdd, Nat.reduceSub, Nat.reduceMul, Nat.reduceLeDiff, Nat.reduceLT, Nat.reduceBEq, Nat.reduceBNe, Int.reduceToNat, Int.reduceLE, Int.reduceLT, Int.reduceNeg, Int.reduceEq, Int.reduceBEq, Int.reduceBNe, Int.reduceAdd, Int.reduceSub, Int.reduceMul, reduceCtorEq, hel]; first | with_reducible exact rfl | (rw [if_pos (by first | omega | (constructor <;> omega) | (simp; done) | assumption)]; first | with_reducible exact rfl | (try simp (disch := omega) only [go_sem, ↓reduceIte, Nat.reduceEqDiff, Nat.reduceAdd, Nat.reduceSub, Nat.reduceMul, Nat.reduceLeDiff, Nat.reduceLT, Nat.reduceBEq, Nat.reduceBNe, Int.reduceToNat, Int.reduceLE, Int.reduceLT, Int.reduceNeg, Int.reduceEq, Int.reduceBEq, Int.reduceBNe, Int.reduceAdd, Int.reduceSub, Int.reduceMul, reduceCtorEq, hel]; with_reducible exact rfl))))
        refine hK (t + 1) _ _ [] (by omega) (by omega) (by simp) ?_
        rw [hnx]
        (repeat' (first | exact trivial | refine And.intro (And.intro ?_ ?_) ?_)) <;> first | exact rfl | (simp (disch := omega) only [go_sem, ↓reduceIte, Nat.reduceEqDiff, Nat.reduceAdd, Nat.reduceSub, Nat.reduceMul, Nat.reduceLeDiff, Nat.reduceLT, Nat.reduceBEq, Nat.reduceBNe, Int.reduceToNat, Int.reduceLE, Int.reduceLT, Int.reduceNeg, Int.reduceEq, Int.reduceBEq, Int.reduceBNe, Int.reduceAdd, Int.reduceSub, Int.reduceMul, reduceCtorEq, hvok, EV.ok, okL_tab_int, okL_tab_bool, okL_app, okL, decide_eq_true_eq, EV.int.injEq]; done) | (simp (disch := omega) only [go_sem, ↓reduceIte, Nat.reduceEqDiff, Nat.reduceAdd, Nat.reduceSub, Nat.reduceMul, Nat.reduceLeDiff, Nat.reduceLT, Nat.reduceBEq, Nat.reduceBNe, Int.reduceToNat, Int.reduceLE, Int.reduceLT, Int.reduceNeg, Int.reduceEq, Int.reduceBEq, Int.reduceBNe, Int.reduceAdd, Int.reduceSub, Int.reduceMul, reduceCtorEq, hvok, EV.ok, okL_tab_int, okL_tab_bool, okL_app, okL, decide_eq_true_eq, EV.int.injEq] <;> first | exact rfl | omega)
      · have hlt : ¬ n ≤ ((b.val : Nat) : Int) := by have := of_decide_eq_false hc2; omega
        rw [if_neg hlt] at hnx
        repeat' first
          | with_reducible first | refine wpc_seq ?_ | refine wpc_ops ?_ | refine wops_nil ?_ | refine then_normal ?_ | refine wpc_block ?_ | refine block_normal ?_ | refine wpc_skip ?_ | refine wpc_exit ?_ | refine then_exit ?_ | refine block_exit_same ?_ | refine wpc_ret ?_ | refine then_ret ?_ | refine block_ret ?_ | refine wpc_draw ?_ | refine wdr_nil ?_ | refine gate_t ?_ | refine gate_f ?_ | refine gate_tt ?_ | refine gate_ff ?_ | refine gate_tf ?_ | refine gate_ft ?_ | exact keep_same | exact keep_true
          | (with_reducible refine block_exit_other ?_ ?_; decide)
          | ((with_reducible refine keep_rfl ?_); exact rfl)
          | ((with_reducible first | apply wops_guard | apply wdr_guard | apply wpc_test); focus (simp (disch := omega) only [go_sem, ↓reduceIte, Nat.reduceEqDiff, Nat.reduceAdd, Nat.reduceSub, Nat.reduceMul, Nat.reduceLeDiff, Nat.reduceLT, Nat.reduceBEq, Nat.reduceBNe, Int.reduceToNat, Int.reduceLE, Int.reduceLT, Int.reduceNeg, Int.reduceEq, Int.reduceBEq, Int.reduceBNe, Int.reduceAdd, Int.reduceSub, Int.reduceMul, reduceCtorEq]; with_reducible first | exact lit_t | exact lit_f))
          | ((with_reducible first | apply wops_step | apply wops_do | apply wdr_step); focus (simp (disch := omega) only [go_sem, ↓reduceIte, Nat.reduceEqDiff, Nat.reduceAdd, Nat.reduceSub, Nat.reduceMul, Nat.reduceLeDiff, Nat.reduceLT, Nat.reduceBEq, Nat.reduceBNe, Int.reduceToNat, Int.reduceLE, Int.reduceLT, Int.reduceNeg, Int.reduceEq, Int.reduceBEq, Int.reduceBNe, Int.reduceAdd, Int.reduceSub, Int.reduceMul, reduceCtorEq]; first | with_reducible exact rfl | (rw [if_pos (by first | omega | (constructor <;> omega) | (simp; done) | assumption)]; first | with_reducible exact rfl | (try simp (disch := omega) only [go_sem, ↓reduceIte, Nat.reduceEqDiff, Nat.reduceAdd, Nat.reduceSub, Nat.reduceMul, Nat.reduceLeDiff, Nat.reduceLT, Nat.reduceBEq, Nat.reduceBNe, Int.reduceToNat, Int.reduceLE, Int.reduceLT, Int.reduceNeg, Int.reduceEq, Int.reduceBEq, Int.reduceBNe, Int.reduceAdd, Int.reduceSub, Int.reduceMul, reduceCtorEq]; with_reducible exact rfl))))
        refine hK (t + 1) _ _ [] (by omega) (by omega) (by simp) ?_
        rw [hnx]
        (repeat' (first | exact trivial | refine And.intro (And.intro ?_ ?_) ?_)) <;> first | exact rfl | (simp (disch := omega) only [go_sem, ↓reduceIte, Nat.reduceEqDiff, Nat.reduceAdd, Nat.reduceSub, Nat.reduceMul, Nat.reduceLeDiff, Nat.reduceLT, Nat.reduceBEq, Nat.reduceBNe, Int.reduceToNat, Int.reduceLE, Int.reduceLT, Int.reduceNeg, Int.reduceEq, Int.reduceBEq, Int.reduceBNe, Int.reduceAdd, Int.reduceSub, Int.reduceMul, reduceCtorEq, hvok, EV.ok, okL_tab_int, okL_tab_bool, okL_app, okL, decide_eq_true_eq, EV.int.injEq]; done) | (simp (disch := omega) only [go_sem, ↓reduceIte, Nat.reduceEqDiff, Nat.reduceAdd, Nat.reduceSub, Nat.reduceMul, Nat.reduceLeDiff, Nat.reduceLT, Nat.reduceBEq, Nat.reduceBNe, Int.reduceToNat, Int.reduceLE, Int.reduceLT, Int.reduceNeg, Int.reduceEq, Int.reduceBEq, Int.reduceBNe, Int.reduceAdd, Int.reduceSub, Int.reduceMul, reduceCtorEq, hvok, EV.ok, okL_tab_int, okL_tab_bool, okL_app, okL, decide_eq_true_eq, EV.int.injEq] <;> first | exact rfl | omega)
    · have hi4 : t = l.length := by have := of_decide_eq_false hcc; omega
      subst hi4
      repeat' first
        | with_reducible first | refine wpc_seq ?_ | refine wpc_ops ?_ | refine wops_nil ?_ | refine then_normal ?_ | refine wpc_block ?_ | refine block_normal ?_ | refine wpc_skip ?_ | refine wpc_exit ?_ | refine then_exit ?_ | refine block_exit_same ?_ | refine wpc_ret ?_ | refine then_ret ?_ | refine block_ret ?_ | refine wpc_draw ?_ | refine wdr_nil ?_ | refine gate_t ?_ | refine gate_f ?_ | refine gate_tt ?_ | refine gate_ff ?_ | refine gate_tf ?_ | refine gate_ft ?_ | exact keep_same | exact keep_true
        | (with_reducible refine block_exit_other ?_ ?_; decide)
        | ((with_reducible refine keep_rfl ?_); exact rfl)
        | ((with_reducible first | apply wops_guard | apply wdr_guard | apply wpc_test); focus (simp (disch := omega) only [go_sem, ↓reduceIte, Nat.reduceEqDiff, Nat.reduceAdd, Nat.reduceSub, Nat.reduceMul, Nat.reduceLeDiff, Nat.reduceLT, Nat.reduceBEq, Nat.reduceBNe, Int.reduceToNat, Int.reduceLE, Int.reduceLT, Int.reduceNeg, Int.reduceEq, Int.reduceBEq, Int.reduceBNe, Int.reduceAdd, Int.reduceSub, Int.reduceMul, reduceCtorEq]; with_reducible first | exact lit_t | exact lit_f))
        | ((with_reducible first | apply wops_step | apply wops_do | apply wdr_step); focus (simp (disch := omega) only [go_sem, ↓reduceIte, Nat.reduceEqDiff, Nat.reduceAdd, Nat.reduceSub, Nat.reduceMul, Nat.reduceLeDiff, Nat.reduceLT, Nat.reduceBEq, Nat.reduceBNe, Int.reduceToNat, Int.reduceLE, Int.reduceLT, Int.reduceNeg, Int.reduceEq, Int.reduceBEq, Int.reduceBNe, Int.reduceAdd, Int.reduceSub, Int.reduceMul, reduceCtorEq]; first | with_reducible exact rfl | (rw [if_pos (by first | omega | (constructor <;> omega) | (simp; done) | assumption)]; first | with_reducible exact rfl | (try simp (disch := omega) only [go_sem, ↓reduceIte, Nat.reduceEqDiff, Nat.reduceAdd, Nat.reduceSub, Nat.reduceMul, Nat.reduceLeDiff, Nat.reduceLT, Nat.reduceBEq, Nat.reduceBNe, Int.reduceToNat, Int.reduceLE, Int.reduceLT, Int.reduceNeg, Int.reduceEq, Int.reduceBEq, Int.reduceBNe, Int.reduceAdd, Int.reduceSub, Int.reduceMul, reduceCtorEq]; with_reducible exact rfl))))
      refine hQ' _ _ _ ?_
      rw [Nat.sub_self, List.drop_zero]
      repeat' first
        | with_reducible first | refine wpc_seq ?_ | refine wpc_ops ?_ | refine wops_nil ?_ | refine then_normal ?_ | refine wpc_block ?_ | refine block_normal ?_ | refine wpc_skip ?_ | refine wpc_exit ?_ | refine then_exit ?_ | refine block_exit_same ?_ | refine wpc_ret ?_ | refine then_ret ?_ | refine block_ret ?_ | refine wpc_draw ?_ | refine wdr_nil ?_ | refine gate_t ?_ | refine gate_f ?_ | refine gate_tt ?_ | refine gate_ff ?_ | refine gate_tf ?_ | refine gate_ft ?_ | exact keep_same | exact keep_true
        | (with_reducible refine block_exit_other ?_ ?_; decide)
        | ((with_reducible refine keep_rfl ?_); exact rfl)
        | ((with_reducible first | apply wops_guard | apply wdr_guard | apply wpc_test); focus (simp (disch := omega) only [go_sem, ↓reduceIte, Nat.reduceEqDiff, Nat.reduceAdd, Nat.reduceSub, Nat.reduceMul, Nat.reduceLeDiff, Nat.reduceLT, Nat.reduceBEq, Nat.reduceBNe, Int.reduceToNat, Int.reduceLE, Int.reduceLT, Int.reduceNeg, Int.reduceEq, Int.reduceBEq, Int.reduceBNe, Int.reduceAdd, Int.reduceSub, Int.reduceMul, reduceCtorEq, setE]; with_reducible first | exact lit_t | exact lit_f))
        | ((with_reducible first | apply wops_step | apply wops_do | apply wdr_step); focus (simp (disch := omega) only [go_sem, ↓reduceIte, Nat.reduceEqDiff, Nat.reduceAdd, Nat.reduceSub, Nat.reduceMul, Nat.reduceLeDiff, Nat.reduceLT, Nat.reduceBEq, Nat.reduceBNe, Int.reduceToNat, Int.reduceLE, Int.reduceLT, Int.reduceNeg, Int.reduceEq, Int.reduceBEq, Int.reduceBNe, Int.reduceAdd, Int.reduceSub, Int.reduceMul, reduceCtorEq, setE]; first | with_reducible exact rfl | (rw [if_pos (by first | omega | (constructor <;> omega) | (simp; done) | assumption)]; first | with_reducible exact rfl | (try simp (disch := omega) only [go_sem, ↓reduceIte, Nat.reduceEqDiff, Nat.reduceAdd, Nat.reduceSub, Nat.reduceMul, Nat.reduceLeDiff, Nat.reduceLT, Nat.reduceBEq, Nat.reduceBNe, Int.reduceToNat, Int.reduceLE, Int.reduceLT, Int.reduceNeg, Int.reduceEq, Int.reduceBEq, Int.reduceBNe, Int.reduceAdd, Int.reduceSub, Int.reduceMul, reduceCtorEq, setE]; with_reducible exact rfl))))
      with_reducible apply wops_call1
      · first | exact rfl | (simp (disch := omega) only [go_sem, ↓reduceIte, Nat.reduceEqDiff, Nat.reduceAdd, Nat.reduceSub, Nat.reduceMul, Nat.reduceLeDiff, Nat.reduceLT, Nat.reduceBEq, Nat.reduceBNe, Int.reduceToNat, Int.reduceLE, Int.reduceLT, Int.reduceNeg, Int.reduceEq, Int.reduceBEq, Int.reduceBNe, Int.reduceAdd, Int.reduceSub, Int.reduceMul, reduceCtorEq, setE]; exact rfl)
      · (simp (disch := omega) only [go_sem, ↓reduceIte, Nat.reduceEqDiff, Nat.reduceAdd, Nat.reduceSub, Nat.reduceMul, Nat.reduceLeDiff, Nat.reduceLT, Nat.reduceBEq, Nat.reduceBNe, Int.reduceToNat, Int.reduceLE, Int.reduceLT, Int.reduceNeg, Int.reduceEq, Int.reduceBEq, Int.reduceBNe, Int.reduceAdd, Int.reduceSub, Int.reduceMul, reduceCtorEq, setE]; exact rfl)
      · exact hn' n _ hx
      repeat' first
        | with_reducible first | refine wpc_seq ?_ | refine wpc_ops ?_ | refine wops_nil ?_ | refine then_normal ?_ | refine wpc_block ?_ | refine block_normal ?_ | refine wpc_skip ?_ | refine wpc_exit ?_ | refine then_exit ?_ | refine block_exit_same ?_ | refine wpc_ret ?_ | refine then_ret ?_ | refine block_ret ?_ | refine wpc_draw ?_ | refine wdr_nil ?_ | refine gate_t ?_ | refine gate_f ?_ | refine gate_tt ?_ | refine gate_ff ?_ | refine gate_tf ?_ | refine gate_ft ?_ | exact keep_same | exact keep_true
        | (with_reducible refine block_exit_other ?_ ?_; decide)
        | ((with_reducible refine keep_rfl ?_); exact rfl)
        | ((with_reducible first | apply wops_guard | apply wdr_guard | apply wpc_test); focus (simp (disch := omega) only [go_sem, ↓reduceIte, Nat.reduceEqDiff, Nat.reduceAdd, Nat.reduceSub, Nat.reduceMul, Nat.reduceLeDiff, Nat.reduceLT, Nat.reduceBEq, Nat.reduceBNe, Int.reduceToNat, Int.reduceLE, Int.reduceLT, Int.reduceNeg, Int.reduceEq, Int.reduceBEq, Int.reduceBNe, Int.reduceAdd, Int.reduceSub, Int.reduceMul, reduceCtorEq]; with_reducible first | exact lit_t | exact lit_f))
        | ((with_reducible first | apply wops_step | apply wops_do | apply wdr_step); focus (simp (disch := omega) only [go_sem, ↓reduceIte, Nat.reduceEqDiff, Nat.reduceAdd, Nat.reduceSub, Nat.reduceMul, Nat.reduceLeDiff, Nat.reduceLT, Nat.reduceBEq, Nat.reduceBNe, Int.reduceToNat, Int.reduceLE, Int.reduceLT, Int.reduceNeg, Int.reduceEq, Int.reduceBEq, Int.reduceBNe, Int.reduceAdd, Int.reduceSub, Int.reduceMul, reduceCtorEq]; first | with_reducible exact rfl | (rw [if_pos (by first | omega | (constructor <;> omega) | (simp; done) | assumption)]; first | with_reducible exact rfl | (try simp (disch := omega) only [go_sem, ↓reduceIte, Nat.reduceEqDiff, Nat.reduceAdd, Nat.reduceSub, Nat.reduceMul, Nat.reduceLeDiff, Nat.reduceLT, Nat.reduceBEq, Nat.reduceBNe, Int.reduceToNat, Int.reduceLE, Int.reduceLT, Int.reduceNeg, Int.reduceEq, Int.reduceBEq, Int.reduceBNe, Int.reduceAdd, Int.reduceSub, Int.reduceMul, reduceCtorEq]; with_reducible exact rfl))))
      refine end_drop hok (r := .bool true) ?_ ?_ ⟨rfl, rfl⟩
      · first | (simp (disch := omega) only [go_sem, ↓reduceIte, Nat.reduceEqDiff, Nat.reduceAdd, Nat.reduceSub, Nat.reduceMul, Nat.reduceLeDiff, Nat.reduceLT, Nat.reduceBEq, Nat.reduceBNe, Int.reduceToNat, Int.reduceLE, Int.reduceLT, Int.reduceNeg, Int.reduceEq, Int.reduceBEq, Int.reduceBNe, Int.reduceAdd, Int.reduceSub, Int.reduceMul, reduceCtorEq, evResults, evResL, evRes, hacklelaw01_OctsAsk_r]; done) | (simp (disch := omega) only [go_sem, ↓reduceIte, Nat.reduceEqDiff, Nat.reduceAdd, Nat.reduceSub, Nat.reduceMul, Nat.reduceLeDiff, Nat.reduceLT, Nat.reduceBEq, Nat.reduceBNe, Int.reduceToNat, Int.reduceLE, Int.reduceLT, Int.reduceNeg, Int.reduceEq, Int.reduceBEq, Int.reduceBNe, Int.reduceAdd, Int.reduceSub, Int.reduceMul, reduceCtorEq, evResults, evResL, evRes, hacklelaw01_OctsAsk_r]; with_reducible exact rfl) | exact rfl
      · first | (simp [EV.ok, okL, okL_tab_int, okL_tab_bool, okL_app]; done)

end
end Abs
