/- Marks, and lists of them. -/
import Derived.Test.YtbilmalnlkileaaNfD
set_option linter.all false

namespace Abs
open Go
set_option linter.all false
set_option maxRecDepth 20000

/-- A slice that grows, behind so many other blocks. -/
def OutE (d sz : Nat) (x : EV) (es : List EV) (G : Heap) : Prop := (x = .nilsl ∧ es = [] ∧ G = []) ∨ ∃ k, G = List.replicate k none ++ [some (.row sz es)] ∧ x = .own (k + d) sz 0 es.length ∧ es ≠ []
/-- A slice that grew, handed back. -/
def slE (sz : Nat) (es : List EV) : EV := if es = [] then .nilsl else .imm sz es
theorem OutE.start {d sz : Nat} : OutE d sz .nilsl [] [] := .inl ⟨rfl, rfl, rfl⟩
theorem OutE.append {d sz : Nat} {x : EV} {es : List EV} {G : Heap} (h : OutE d sz x es G) (e : EV) (bytes : Nat) (P : Heap) (hP : P.length = d) (hs : 0 < sz) (he : e.cells.length = sz) (ho : e.cells.all EV.one = true) (hl : es.length ≤ 1000000) (hb : bytes ≤ 1000000) :
    ∃ x' G', evAppend sz bytes x (.imm sz [e]) (P ++ G) = some (x', P ++ G') ∧ OutE d sz x' (es ++ [e]) G' := by
  have hall : ([e].all fun e => e.cells.length == sz && e.cells.all EV.one) = true := by simp only [List.all_cons, List.all_nil, Bool.and_true, he, beq_self_eq_true, Bool.true_and]; exact ho
  have hbb : (es.length + 1) * bytes ≤ 140737488355328 := by
    have : (es.length + 1) * bytes ≤ 1000001 * 1000000 := Nat.mul_le_mul (by omega) hb
    omega
  rcases h with ⟨rfl, rfl, rfl⟩ | ⟨k, rfl, rfl, hne⟩
  · refine ⟨.own d sz 0 1, [some (.row sz [e])], ?_, .inr ⟨0, rfl, by simp, by simp⟩⟩
    unfold evAppend
    simp only [elems]
    rw [if_pos ⟨hs, hall⟩]
    simp only [List.length_cons, List.length_nil, Nat.zero_add, List.append_nil]
    rw [if_neg (by omega), if_pos ⟨by omega, by simpa using hbb⟩, hP]
  · refine ⟨.own (k + 1 + d) sz 0 (es.length + 1), List.replicate (k + 1) none ++ [some (.row sz (es ++ [e]))], ?_, .inr ⟨k + 1, rfl, by simp, by simp⟩⟩
    have hg : (P ++ (List.replicate k (none : Option EB) ++ [some (EB.row sz es)]))[k + d]? = some (some (.row sz es)) := by
      rw [List.getElem?_append_right (by omega), hP, Nat.add_sub_cancel]; simp
    have hst : (P ++ (List.replicate k (none : Option EB) ++ [some (EB.row sz es)])).set (k + d) none = P ++ List.replicate (k + 1) none := by
      rw [List.set_append_right _ _ (by omega), hP, Nat.add_sub_cancel, List.set_append_right _ _ (by simp)]
      simp [List.replicate_succ']
    unfold evAppend
    simp only [elems]
    rw [if_pos ⟨hs, hall⟩]
    simp only [hg]
    rw [if_pos ⟨trivial, trivial, trivial, Nat.le_refl _, by simp; omega, by simpa using hbb⟩, hst]
    simp [hP]
    omega
theorem OutE.fin {d sz : Nat} {x : EV} {es : List EV} {G : Heap} (h : OutE d sz x es G) (H P : Heap) (hP : P.length = d) (hL : ∃ G', P = H ++ G') (ho : okL H.length es = true) : finV H x ER.ret (P ++ G) = some (.ret (slE sz es), H) := by
  obtain ⟨G', rfl⟩ := hL
  rw [List.append_assoc]
  rcases h with ⟨rfl, rfl, rfl⟩ | ⟨k, rfl, rfl, hne⟩
  · exact finV_drop rfl rfl
  · have hg : ((H ++ G') ++ (List.replicate k (none : Option EB) ++ [some (EB.row sz es)]))[k + d]? = some (some (.row sz es)) := by
      rw [List.getElem?_append_right (by omega), hP, Nat.add_sub_cancel]; simp
    rw [List.append_assoc] at hg
    refine finV_fz rfl (fz_own (n := 7) (es := es) (by rw [← hP]; simp; omega) hg (by omega) ho) ?_
    unfold slE
    rw [if_neg hne]
    simp
theorem ints_slE {l : List Int} (hl : l.length ≤ 9223372036854775807) : IntsV (slE 1 (intsE l)) l := by
  unfold slE
  split
  · rename_i h
    have : l = [] := by cases l with
      | nil => rfl
      | cons v r => simp [intsE] at h
    subst this
    exact .nil
  · exact ints_imm hl

def boolsE (M : List Bool) : List EV := M.map EV.bool
theorem boolsE_len (M : List Bool) : (boolsE M).length = M.length := by simp [boolsE]
theorem boolsE_get {M : List Bool} {i : Nat} {v : Bool} (h : M[i]? = some v) : (boolsE M)[i]? = some (.bool v) := by simp [boolsE, h]

/-- The places that are marked. -/
def listM : List Bool → Int → List Int
  | [], _ => []
  | b :: M, i => (if b then [i] else []) ++ listM M (i + 1)
theorem listM_snoc {M : List Bool} {j : Nat} {v : Bool} (hv : M[j]? = some v) : ∀ {i : Int}, listM (M.take (j + 1)) i = listM (M.take j) i ++ (if v then [i + j] else []) := by
  induction M generalizing j with
  | nil => simp at hv
  | cons b M ih =>
    intro i
    cases j with
    | zero => simp at hv; subst hv; simp [listM]
    | succ j =>
      simp only [List.getElem?_cons_succ] at hv
      rw [List.take_succ_cons, List.take_succ_cons]
      simp only [listM]
      rw [ih hv, List.append_assoc]
      congr 2
      split
      · congr 1; push_cast; omega
      · rfl
theorem listM_len (M : List Bool) : ∀ i, (listM M i).length ≤ M.length := by
  induction M with
  | nil => intro i; simp [listM]
  | cons b M ih => intro i; simp only [listM, List.length_append, List.length_cons]; have := ih (i + 1); split <;> simp <;> omega
theorem listM_in (M : List Bool) : ∀ i : Int, ∀ p ∈ listM M i, i ≤ p ∧ p < i + M.length := by
  induction M with
  | nil => intro i p hp; simp [listM] at hp
  | cons b M ih =>
    intro i p hp
    simp only [listM, List.mem_append] at hp
    rcases hp with hp | hp
    · split at hp
      · simp at hp; simp; omega
      · simp at hp
    · have := ih (i + 1) p hp
      simp; omega

section
variable {E : Env} [R : NfaR E]

theorem list_den (b : Nat) (M : List Bool) (hM : M.length ≤ 100000) (H : Heap) (hb : H[b]? = some (some (.row 1 (boolsE M)))) : den E R.n_hackleref08_List [.own b 1 0 M.length] H = some (.ret (slE 1 (intsE (listM M 0))), H) := by
  have hbl := (List.getElem?_eq_some_iff.1 hb).1
  refine den_of R.d_hackleref08_List (by simp) ?_
  unfold Gn.hackleref08_List Gn.hackleref08_List_r
  simp (disch := omega) only [go_sem, ↓reduceIte, simprocAttr, reduceCtorEq]
  refine while_of (ι := Nat × EV × Heap) (fun i => i.1 ≤ M.length ∧ OutE H.length 1 i.2.1 (intsE (listM (M.take i.1) 0)) i.2.2) (fun i => M.length - i.1) (fun i => [(0, .own b 1 0 M.length), (3, i.2.1), (4, .int .i64 i.1)]) (fun i => H ++ i.2.2) (0, .nilsl, []) ⟨by omega, .start⟩ ?_ (by simp) ?_
  · simp (disch := omega) only [go_sem, ↓reduceIte, simprocAttr, reduceCtorEq, Sl]
  · rintro ⟨i, x, G⟩ t ⟨hi, ho⟩ ht K hK
    simp only at hi ho
    simp (disch := omega) only [go_sem, ↓reduceIte, simprocAttr, reduceCtorEq, Sl] at ht
    by_cases hlt : i < M.length
    · obtain ⟨v, hv⟩ := get_some hlt
      have hg := boolsE_get hv
      have hgb : (H ++ G)[b]? = some (some (.row 1 (boolsE M))) := by rw [List.getElem?_append_left hbl]; exact hb
      have hs := listM_snoc hv (i := 0)
      have hlen := listM_len (M.take i) 0
      rw [List.length_take] at hlen
      cases v with
      | true =>
        obtain ⟨x', G', hap, ho'⟩ := ho.append (.int .i64 i) 8 H rfl (by omega) rfl rfl (by rw [intsE_len]; omega) (by omega)
        have hk := hK (i + 1, x', G')
        simp only [hs, if_true, Int.zero_add] at hk
        rw [intsE_app] at hk
        clear hs hK
        show @Hd E ⟨_⟩ ⟨_⟩ ⟨H ++ G⟩ ⟨_⟩
        repeat' first
          | (simp (disch := first | omega | assumption) only [go_sem, ↓reduceIte, simprocAttr, reduceCtorEq, *])
          | (refine HG_split (fun hb => ?_) (fun hb => ?_))
          | (refine HC_split (fun hb => ?_) (fun hb => ?_))
        all_goals (try simp only [decide_eq_true_eq, decide_eq_false_iff_not, beq_iff_eq, beq_eq_false_iff_ne, bne_iff_ne, bne_eq_false_iff_eq, ne_eq, Bool.not_eq_true', Bool.not_eq_false', Bool.not_eq_true, Bool.not_eq_false, Decidable.not_not, Bool.and_eq_true, Bool.or_eq_true] at *)
        all_goals first
          | omega
          | skip
        refine hk _ _ ⟨by omega, ho'⟩ (by omega) ?_ rfl
        simp (disch := omega) only [go_sem, ↓reduceIte, simprocAttr, reduceCtorEq, Sl, ht, and_self, cast_succ]
      | false =>
        have hk := hK (i + 1, x, G)
        simp only [hs, Bool.false_eq_true, if_false, List.append_nil] at hk
        clear hs hK
        show @Hd E ⟨_⟩ ⟨_⟩ ⟨H ++ G⟩ ⟨_⟩
        repeat' first
          | (simp (disch := first | omega | assumption) only [go_sem, ↓reduceIte, simprocAttr, reduceCtorEq, *])
          | (refine HG_split (fun hb => ?_) (fun hb => ?_))
          | (refine HC_split (fun hb => ?_) (fun hb => ?_))
        all_goals (try simp only [decide_eq_true_eq, decide_eq_false_iff_not, beq_iff_eq, beq_eq_false_iff_ne, bne_iff_ne, bne_eq_false_iff_eq, ne_eq, Bool.not_eq_true', Bool.not_eq_false', Bool.not_eq_true, Bool.not_eq_false, Decidable.not_not, Bool.and_eq_true, Bool.or_eq_true] at *)
        all_goals first
          | omega
          | skip
        refine hk _ _ ⟨by omega, ho⟩ (by omega) ?_ rfl
        simp (disch := omega) only [go_sem, ↓reduceIte, simprocAttr, reduceCtorEq, Sl, ht, and_self, cast_succ]
    · have : i = M.length := by omega
      subst this
      rw [List.take_length] at ho
      have hfin := ho.fin H H rfl ⟨[], by simp⟩ (okL_ints _ _)
      clear hK
      show @Hd E ⟨_⟩ ⟨_⟩ ⟨H ++ G⟩ ⟨_⟩
      repeat' first
        | (simp (disch := first | omega | assumption) only [go_sem, ↓reduceIte, simprocAttr, reduceCtorEq, *])
        | (refine HG_split (fun hb => ?_) (fun hb => ?_))
        | (refine HC_split (fun hb => ?_) (fun hb => ?_))
      all_goals (try simp only [decide_eq_true_eq, decide_eq_false_iff_not, beq_iff_eq, beq_eq_false_iff_ne, bne_iff_ne, bne_eq_false_iff_eq, ne_eq, Bool.not_eq_true', Bool.not_eq_false', Bool.not_eq_true, Bool.not_eq_false, Decidable.not_not, Bool.and_eq_true, Bool.or_eq_true] at *)
      all_goals first | omega | exact hfin

/-- Marks at places. -/
def markF (M : List Bool) (l : List Int) : List Bool := l.foldl (fun M q => M.set q.toNat true) M
theorem markF_len : ∀ (l : List Int) (M : List Bool), (markF M l).length = M.length
  | [], M => rfl
  | q :: l, M => by show (markF (M.set q.toNat true) l).length = _; rw [markF_len l]; simp
theorem markF_snoc {l : List Int} {i : Nat} {v : Int} (hv : l[i]? = some v) (M : List Bool) : markF M (l.take (i + 1)) = (markF M (l.take i)).set v.toNat true := by
  unfold markF
  rw [List.take_add_one, hv, List.foldl_append]; rfl
end
end Abs
