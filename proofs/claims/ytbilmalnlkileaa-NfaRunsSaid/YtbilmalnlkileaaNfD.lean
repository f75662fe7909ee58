/- Places with a byte. -/
import Derived.Test.YtbilmalnlkileaaNfC
set_option linter.all false

namespace Abs
open Go
set_option linter.all false
set_option maxRecDepth 20000

theorem SlV.shape {sz : Nat} {x : EV} {es : List EV} (h : SlV sz x es) : (x = .nilsl ∧ es = []) ∨ (x = .zsl ∧ es = []) ∨ ∃ s, x = .imm s es := by
  have h1 := h.els []
  have h2 := h.len
  cases x <;> simp [elems, evLen] at h1 h2
  · exact .inl ⟨rfl, h1⟩
  · exact .inr (.inl ⟨rfl, h1⟩)
  · exact .inr (.inr ⟨_, by rw [h1]⟩)

/-- Numbers that are handed on: of a slice that nobody writes, or of one of the heap. -/
def ArgI (H : Heap) (x : EV) (l : List Int) : Prop := (x = .nilsl ∧ l = []) ∨ (x = .zsl ∧ l = []) ∨ (∃ s, x = .imm s (intsE l)) ∨ ∃ b, x = .own b 1 0 l.length ∧ H[b]? = some (some (.row 1 (intsE l)))
theorem intsE_nil {l : List Int} (h : intsE l = []) : l = [] := by
  cases l with
  | nil => rfl
  | cons v r => simp [intsE] at h
theorem SlV.arg {x : EV} {l : List Int} (h : IntsV x l) (H : Heap) : ArgI H x l := by
  rcases h.shape with ⟨rfl, he⟩ | ⟨rfl, he⟩ | ⟨s, rfl⟩
  · exact .inl ⟨rfl, intsE_nil he⟩
  · exact .inr (.inl ⟨rfl, intsE_nil he⟩)
  · exact .inr (.inr (.inl ⟨s, rfl⟩))
theorem ArgI.app {H G : Heap} {x : EV} {l : List Int} (h : ArgI H x l) : ArgI (H ++ G) x l := by
  rcases h with h | h | h | ⟨b, rfl, hb⟩
  · exact .inl h
  · exact .inr (.inl h)
  · exact .inr (.inr (.inl h))
  · exact .inr (.inr (.inr ⟨b, rfl, by rw [List.getElem?_append_left (List.getElem?_eq_some_iff.1 hb).1]; exact hb⟩))
theorem ArgI.els {H : Heap} {x : EV} {l : List Int} (h : ArgI H x l) : elems H x = some (intsE l) := by
  rcases h with ⟨rfl, rfl⟩ | ⟨rfl, rfl⟩ | ⟨s, rfl⟩ | ⟨b, rfl, hb⟩
  · rfl
  · rfl
  · rfl
  · simp only [elems, hb]
    rw [if_pos ⟨trivial, by rw [intsE_len]; omega⟩, List.drop_zero, List.take_of_length_le (by rw [intsE_len]; exact Nat.le_refl _)]

/-- Has a place's set a byte? -/
def hasP (n : NF) (b : Nat) (p : Int) : Bool := inSet (n.sets.getD p.toNat fun _ => 0) b
/-- Are these places? -/
def InP (k : Nat) (l : List Int) : Prop := ∀ p ∈ l, 0 ≤ p ∧ p < k
theorem InP.ris {k : Nat} : ∀ {l : List Int} {a : Int}, -1 ≤ a → risF k a l = true → InP k l
  | [], _, _, _ => fun p hp => by simp at hp
  | x :: l, a, ha, h => by
    simp only [risF, Bool.and_eq_true, decide_eq_true_eq] at h
    intro p hp
    rcases List.mem_cons.1 hp with rfl | hp
    · omega
    · exact InP.ris (by omega) h.2.2 p hp

/-- What is known of the bytes of sets. -/
def HasDen (E : Env) (f : FuncId) (κ : IntKind) : Prop := ∀ (w : Nat → Nat) (b : Nat) (H : Heap), Words w → b < 256 → den E f [setE w, .int κ b] H = some (.ret (.bool (inSet w b)), H)

section
variable {E : Env} [R : NfaR E]

theorem clone_den (x : EV) (l : List Int) (H : Heap) (hx : ArgI H x l) (hl : l.length ≤ 1000000) : (l = [] ∧ ∃ y, den E R.n_slices_Clone_int_int [x] H = some (.ret y, H) ∧ (y = .nilsl ∨ y = .zsl)) ∨ (l ≠ [] ∧ den E R.n_slices_Clone_int_int [x] H = some (.ret (.own H.length 1 0 l.length), H ++ [some (.row 1 (intsE l))])) := by
  have hels := hx.els
  have hall : (intsE l).all (fun e => e.cells.length == 1 && e.cells.all EV.one) = true := by
    rw [List.all_eq_true]
    intro e he
    obtain ⟨v, _, rfl⟩ := List.mem_map.1 he
    rfl
  rcases hx with ⟨rfl, this⟩ | ⟨rfl, this⟩ | ⟨s, rfl⟩ | ⟨b, rfl, hb⟩
  · refine .inl ⟨this, .nilsl, ?_, .inl rfl⟩
    refine den_ofK R.d_slices_Clone_int_int (by simp) ?_
    unfold Gn.slices_Clone_int_int Gn.slices_Clone_int_int_r
    repeat' first
      | (simp (disch := first | omega | assumption) only [go_sem, ↓reduceIte, simprocAttr, reduceCtorEq, *])
      | (refine HG_split (fun hb => ?_) (fun hb => ?_))
      | (refine HC_split (fun hb => ?_) (fun hb => ?_))
  · refine .inl ⟨this, .zsl, ?_, .inr rfl⟩
    have hap : evAppend 1 8 .zsl .zsl H = some (.zsl, H) := by unfold evAppend; rw [hels, this]; simp [intsE]
    refine den_ofK R.d_slices_Clone_int_int (by simp) ?_
    unfold Gn.slices_Clone_int_int Gn.slices_Clone_int_int_r
    repeat' first
      | (simp (disch := first | omega | assumption) only [go_sem, ↓reduceIte, simprocAttr, reduceCtorEq, *])
      | (refine HG_split (fun hb => ?_) (fun hb => ?_))
      | (refine HC_split (fun hb => ?_) (fun hb => ?_))
  · cases hl0 : l with
    | nil =>
      subst hl0
      refine .inl ⟨rfl, .zsl, ?_, .inr rfl⟩
      have hap : evAppend 1 8 .zsl (.imm s (intsE [])) H = some (.zsl, H) := by unfold evAppend; rw [hels]; simp [intsE]
      refine den_ofK R.d_slices_Clone_int_int (by simp) ?_
      unfold Gn.slices_Clone_int_int Gn.slices_Clone_int_int_r
      repeat' first
        | (simp (disch := first | omega | assumption) only [go_sem, ↓reduceIte, simprocAttr, reduceCtorEq, *])
        | (refine HG_split (fun hb => ?_) (fun hb => ?_))
        | (refine HC_split (fun hb => ?_) (fun hb => ?_))
    | cons v r =>
      refine .inr ⟨by simp, ?_⟩
      rw [← hl0]
      have hne : ¬ (intsE l).length = 0 := by rw [intsE_len, hl0]; simp
      have hap : evAppend 1 8 .zsl (.imm s (intsE l)) H = some (.own H.length 1 0 l.length, H ++ [some (.row 1 (intsE l))]) := by
        unfold evAppend
        rw [hels]
        simp only [hall, and_true]
        rw [if_pos (by omega), if_neg hne, intsE_len, if_pos ⟨by omega, by omega⟩]
      clear hl0 hne
      refine den_ofK R.d_slices_Clone_int_int (by simp) ?_
      unfold Gn.slices_Clone_int_int Gn.slices_Clone_int_int_r
      repeat' first
        | (simp (disch := first | omega | assumption) only [go_sem, ↓reduceIte, simprocAttr, reduceCtorEq, *])
        | (refine HG_split (fun hb => ?_) (fun hb => ?_))
        | (refine HC_split (fun hb => ?_) (fun hb => ?_))
  · cases hl0 : l with
    | nil =>
      subst hl0
      refine .inl ⟨rfl, .zsl, ?_, .inr rfl⟩
      have hap : evAppend 1 8 .zsl (.own b 1 0 0) H = some (.zsl, H) := by unfold evAppend; rw [show elems H (.own b 1 0 0) = some (intsE []) from hels]; simp [intsE]
      refine den_ofK R.d_slices_Clone_int_int (by simp) ?_
      unfold Gn.slices_Clone_int_int Gn.slices_Clone_int_int_r
      repeat' first
        | (simp (disch := first | omega | assumption) only [go_sem, ↓reduceIte, simprocAttr, reduceCtorEq, *])
        | (refine HG_split (fun hb => ?_) (fun hb => ?_))
        | (refine HC_split (fun hb => ?_) (fun hb => ?_))
    | cons v r =>
      refine .inr ⟨by simp, ?_⟩
      rw [← hl0]
      have hne : ¬ (intsE l).length = 0 := by rw [intsE_len, hl0]; simp
      have hap : evAppend 1 8 .zsl (.own b 1 0 l.length) H = some (.own H.length 1 0 l.length, H ++ [some (.row 1 (intsE l))]) := by
        unfold evAppend
        rw [hels]
        simp only [hall, and_true]
        rw [if_pos (by omega), if_neg hne, intsE_len, if_pos ⟨by omega, by omega⟩]
      clear hl0 hne
      refine den_ofK R.d_slices_Clone_int_int (by simp) ?_
      unfold Gn.slices_Clone_int_int Gn.slices_Clone_int_int_r
      repeat' first
        | (simp (disch := first | omega | assumption) only [go_sem, ↓reduceIte, simprocAttr, reduceCtorEq, *])
        | (refine HG_split (fun hb => ?_) (fun hb => ?_))
        | (refine HC_split (fun hb => ?_) (fun hb => ?_))

theorem with_c1_den (hH : HasDen E R.n_octs_Has .u8) (n : NF) (b : Nat) (hb : b < 256) (p : Int) (hp : 0 ≤ p ∧ p < n.sets.length) (i j : Nat) (H : Heap) (hi : H[i]? = some (some (.row 6 [n.E]))) (hj : H[j]? = some (some (.row 1 [.int .u8 b]))) :
    den E R.n_nfa_Nfa_with_c1 [.int .i64 p, .ptr i 6 0 0, .ptr j 1 0 0] H = some (.ret (.bool (!hasP n b p)), H) := by
  obtain ⟨w, hw⟩ := get_some (l := n.sets) (i := p.toNat) (by omega)
  have he : evElem 4 p n.x0 = some (.iptr (setE w).cells 0) := n.h0.elemI hp.1 (by rw [List.getElem?_map, hw]; rfl)
  have hc := hH w b H (n.hw w (List.mem_of_getElem? hw)) hb
  have hs : hasP n b p = inSet w b := by unfold hasP; rw [List.getD, hw]; rfl
  rw [hs]
  refine den_of R.d_nfa_Nfa_with_c1 (by simp) ?_
  unfold Gn.nfa_Nfa_with_c1 Gn.nfa_Nfa_with_c1_r
  unfold NF.E at hi
  have he' : evElem 4 p n.x0 = some (.iptr (tab 4 fun i => .int .u64 ((w i : Nat) : Int)) 0) := he
  have hl4 : (tab 4 fun i => EV.int .u64 ((w i : Nat) : Int)).length = 4 := rfl
  have ht4 : List.take 4 (tab 4 fun i => EV.int .u64 ((w i : Nat) : Int)) = tab 4 fun i => EV.int .u64 ((w i : Nat) : Int) := rfl
  clear he
  unfold setE at hc
  obtain ⟨o0, o1, o2, o3, o4⟩ := n.one
  unfold EV.one at o0 o1 o2 o3 o4
  repeat' first
    | (simp (disch := first | omega | assumption) only [go_sem, ↓reduceIte, simprocAttr, reduceCtorEq, *])
    | (refine HG_split (fun hb => ?_) (fun hb => ?_))
    | (refine HC_split (fun hb => ?_) (fun hb => ?_))
  exact finV_same rfl rfl

theorem with_den (hH : HasDen E R.n_octs_Has .u8) (n : NF) (x : EV) (l : List Int) (H : Heap) (hx : ArgI H x l) (hl : l.length ≤ 1000000) (hin : InP n.sets.length l) (b : Nat) (hb : b < 256) :
    ∃ y, den E R.n_nfa_Nfa_with [n.E, x, .int .u8 b] H = some (.ret y, H) ∧ IntsV y (l.filter (hasP n b)) := by
  let H2 : Heap := H ++ [some (.row 6 [n.E]), some (.row 1 [.int .u8 b])]
  have hcl := clone_den (E := E) x l H2 hx.app hl
  obtain ⟨o0, o1, o2, o3, o4⟩ := n.one
  have hz : ∀ (y : EV), y = .nilsl ∨ y = .zsl → ∀ f H, den E R.n_slices_DeleteFunc_int_int [y, f] H = some (.ret y, H) := by
    intro y hy f H
    have h1 : den E R.n_slices_IndexFunc_int_int [y, f] H = some (.ret (.int .i64 (-1)), H) := by
      refine den_of R.d_slices_IndexFunc_int_int (by simp) ?_
      unfold Gn.slices_IndexFunc_int_int Gn.slices_IndexFunc_int_int_r
      rcases hy with rfl | rfl
      · simp (disch := omega) only [go_sem, ↓reduceIte, simprocAttr, reduceCtorEq]
        refine Hd_loop8 ?_
        repeat' first
          | (simp (disch := first | omega | assumption) only [go_sem, ↓reduceIte, simprocAttr, reduceCtorEq, *])
          | (refine HG_split (fun hb => ?_) (fun hb => ?_))
          | (refine HC_split (fun hb => ?_) (fun hb => ?_))
        exact finV_same rfl rfl
      · simp (disch := omega) only [go_sem, ↓reduceIte, simprocAttr, reduceCtorEq]
        refine Hd_loop8 ?_
        repeat' first
          | (simp (disch := first | omega | assumption) only [go_sem, ↓reduceIte, simprocAttr, reduceCtorEq, *])
          | (refine HG_split (fun hb => ?_) (fun hb => ?_))
          | (refine HC_split (fun hb => ?_) (fun hb => ?_))
        exact finV_same rfl rfl
    refine den_of R.d_slices_DeleteFunc_int_int (by simp) ?_
    unfold Gn.slices_DeleteFunc_int_int Gn.slices_DeleteFunc_int_int_r
    rcases hy with rfl | rfl
    · repeat' first
        | (simp (disch := first | omega | assumption) only [go_sem, ↓reduceIte, simprocAttr, reduceCtorEq, *])
        | (refine HG_split (fun hb => ?_) (fun hb => ?_))
        | (refine HC_split (fun hb => ?_) (fun hb => ?_))
      exact finV_same rfl rfl
    · repeat' first
        | (simp (disch := first | omega | assumption) only [go_sem, ↓reduceIte, simprocAttr, reduceCtorEq, *])
        | (refine HG_split (fun hb => ?_) (fun hb => ?_))
        | (refine HC_split (fun hb => ?_) (fun hb => ?_))
      exact finV_same rfl rfl
  rcases hcl with ⟨rfl, y, hcl, hy⟩ | ⟨hne, hcl⟩
  · refine ⟨y, ?_, by rcases hy with rfl | rfl; exact .nil; exact .zsl⟩
    have hd := hz y hy
    have hyo : y.ok H.length = true := by rcases hy with rfl | rfl <;> rfl
    refine den_of R.d_nfa_Nfa_with (by simp) ?_
    unfold Gn.nfa_Nfa_with Gn.nfa_Nfa_with_r
    simp only [H2] at hcl
    unfold NF.E at hcl ⊢
    unfold EV.one at o0 o1 o2 o3 o4
    clear hz
    repeat' first
      | (simp (disch := first | omega | assumption) only [go_sem, ↓reduceIte, simprocAttr, reduceCtorEq, *])
      | (refine HG_split (fun hb => ?_) (fun hb => ?_))
      | (refine HC_split (fun hb => ?_) (fun hb => ?_))
    exact finV_drop hyo rfl
  · let q : Int → Bool := hasP n b
    let H3 : Heap := H2 ++ [some (.row 1 (intsE l))]
    have hb3 : H3[H.length + 2]? = some (some (.row 1 (intsE l))) := by
      simp only [H3, H2]
      rw [List.getElem?_append_right (by simp)]
      simp
    have hdel := deleteFunc_den (E := E) (.func (.func R.n_nfa_Nfa_with_c1) [] [.ptr H.length 6 0 0, .ptr (H.length + 1) 1 0 0]) (fun v => !q v) (H.length + 2) l H3 hb3 (fun r v hv => by
      have hset : H3.set (H.length + 2) (some (.row 1 r)) = H2 ++ [some (.row 1 r)] := by
        simp only [H3, H2]
        rw [List.set_append_right _ _ (by simp)]
        simp
      rw [hset]
      have := with_c1_den (E := E) hH n b hb v (hin v hv) H.length (H.length + 1) (H2 ++ [some (.row 1 r)]) (by simp [H2]) (by simp [H2])
      simpa [callD] using this) (by omega)
    have hlen3 : H2.length = H.length + 2 := by simp [H2]
    have hnot : (fun v => !(fun v => !q v) v) = q := by funext v; simp
    rw [hnot] at hdel
    have hset : ∀ r, H3.set (H.length + 2) (some (.row 1 r)) = H2 ++ [some (.row 1 r)] := fun r => by
      simp only [H3]
      rw [List.set_append_right _ _ (by omega), hlen3]
      simp
    rw [hset] at hdel
    rw [hlen3] at hcl
    have hfr : ∃ es, (if idxI (fun v => !q v) l 0 = -1 then l else rowD q l) = es ∧ es.take (l.filter q).length = l.filter q ∧ (l.filter q).length ≤ es.length := by
      by_cases hi : idxI (fun v => !q v) l 0 = -1
      · rw [if_pos hi]
        have := (idxI_some (p := fun v => !q v) (l := l) (i := 0)).1 ⟨hi, by omega⟩
        rw [hnot] at this
        exact ⟨l, rfl, by rw [this]; simp, by rw [this]; exact Nat.le_refl _⟩
      · rw [if_neg hi]
        exact ⟨_, rfl, by unfold rowD; simp, by unfold rowD; simp⟩
    obtain ⟨es, hes, htk, hle⟩ := hfr
    rw [hes] at hdel
    refine ⟨.imm 1 (intsE (l.filter q)), ?_, ints_imm (by have := List.length_filter_le q l; omega)⟩
    have hfin : finV H (.own (H.length + 2) 1 0 (l.filter q).length) ER.ret (H2 ++ [some (.row 1 (intsE es))]) = some (.ret (.imm 1 (intsE (l.filter q))), H) := by
      have hH2 : H2 ++ [some (EB.row 1 (intsE es))] = H ++ [some (.row 6 [n.E]), some (.row 1 [.int .u8 b]), some (.row 1 (intsE es))] := by simp [H2]
      rw [hH2]
      refine finV_fz rfl (v' := .imm 1 (intsE (l.filter q))) ?_ rfl
      have := fz_own (L := H.length) (H := H ++ [some (.row 6 [n.E]), some (.row 1 [.int .u8 b]), some (.row 1 (intsE es))]) (n := 7) (b := H.length + 2) (sz := 1) (off := 0) (len := (l.filter q).length) (es := intsE es) (by omega) (by rw [List.getElem?_append_right (by omega)]; simp) (by rw [intsE_len]; omega) (okL_ints _ _)
      rw [this]
      simp only [List.drop_zero]
      unfold intsE
      rw [← List.map_take, htk]
    simp only [H2, H3] at hcl hdel hfin
    simp only [List.append_assoc, List.cons_append, List.nil_append] at hcl hdel hfin
    clear hz hb3 hset hes htk
    refine den_of R.d_nfa_Nfa_with (by simp) ?_
    unfold Gn.nfa_Nfa_with Gn.nfa_Nfa_with_r
    unfold NF.E at hcl hdel hfin ⊢
    unfold EV.one at o0 o1 o2 o3 o4
    repeat' first
      | (simp (disch := first | omega | assumption) only [go_sem, ↓reduceIte, simprocAttr, reduceCtorEq, *])
      | (refine HG_split (fun hb => ?_) (fun hb => ?_))
      | (refine HC_split (fun hb => ?_) (fun hb => ?_))
end
end Abs
