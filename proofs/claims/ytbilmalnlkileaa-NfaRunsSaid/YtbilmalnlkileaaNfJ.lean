/- Runs of automata by places: the law. -/
import Derived.Test.YtbilmalnlkileaaNfI
set_option linter.all false

namespace Abs
open Go
set_option linter.all false
set_option maxRecDepth 20000

theorem runL_snoc (n : NF) {s : List UInt8} {i : Nat} {b : UInt8} (hi : 1 ≤ i) (hb : s[i]? = some b) : runL n (s.take (i + 1)) = stepL n (runL n (s.take i)) b.toNat := by
  obtain ⟨c, r, rfl⟩ : ∃ c r, s = c :: r := by
    cases s with
    | nil => simp at hb
    | cons c r => exact ⟨c, r, rfl⟩
  obtain ⟨j, rfl⟩ : ∃ j, i = j + 1 := ⟨i - 1, by omega⟩
  simp only [List.getElem?_cons_succ] at hb
  rw [List.take_succ_cons, List.take_succ_cons]
  simp only [runL]
  rw [List.take_add_one, hb, List.foldl_append]; rfl
theorem runL_in {n : NF} (g : n.Good) (s : List UInt8) : InP n.sets.length (runL n s) := by
  have key : ∀ (r : List UInt8) (l : List Int), InP n.sets.length l → InP n.sets.length (r.foldl (fun l b => stepL n l b.toNat) l) := by
    intro r
    induction r with
    | nil => intro l h; exact h
    | cons b r ih => intro l _; exact ih _ (stepL_in n l b.toNat)
  cases s with
  | nil => intro p hp; simp [runL] at hp
  | cons b r => exact key r _ (begL_in g b.toNat)

section
variable {E : Env} [R : NfaR E] (hH : HasDen E R.n_octs_Has .u8) (hR : HasDen E R.n_hackleref01_Has .i64)

include hH in
theorem run_den (n : NF) (hm : mayB n = true) (hf : n.first.length ≤ 1000000) (s : List UInt8) (hs : s.length ≤ 1000000) (h0 : s ≠ []) (H : Heap) : ∃ y, den E R.n_nfa_Run [n.E, .str s] H = some (.ret (.tup [y, .int .i64 (tagF n (runL n s))]), H) ∧ IntsV y (runL n s) := by
  have g := mayB_good hm
  have hmay := fun H => may_den (E := E) n H
  rw [hm] at hmay
  obtain ⟨o0, o1, o2, o3, o4⟩ := n.one
  obtain ⟨b0, r0, rfl⟩ : ∃ b r, s = b :: r := by
    cases s with
    | nil => exact absurd rfl h0
    | cons b r => exact ⟨b, r, rfl⟩
  generalize hse : b0 :: r0 = s at hs
  have hs0 : s[0]? = some b0 := by rw [← hse]; rfl
  have hse0 : (s == ([] : List UInt8)) = false := by rw [← hse]; rfl
  obtain ⟨y0, hw, hy0⟩ := with_den hH n n.x2 n.first (H ++ [some (.row 6 [n.E])]) (n.h2.arg _) hf g.fi b0.toNat b0.toNat_lt
  have hr1 : runL n (s.take 1) = begL n b0.toNat := by rw [← hse]; rfl
  suffices h : ∃ r, den E R.n_nfa_Run [n.E, .str s] H = some r ∧ ∃ y, r = (ER.ret (.tup [y, .int .i64 (tagF n (runL n s))]), H) ∧ IntsV y (runL n s) by
    obtain ⟨r, h1, y, h2, h3⟩ := h
    exact ⟨y, by rw [h1, h2], h3⟩
  have hlen1 : 1 ≤ s.length := by rw [← hse]; simp
  clear hse h0
  refine den_ex R.d_nfa_Run (by simp) ?_
  unfold Gn.nfa_Run Gn.nfa_Run_r
  unfold EV.one at o0 o1 o2 o3 o4
  have hgo := fun (x : EV) l hx hin b hb => goOn_den (E := E) hH n g x l hx hin b hb (H ++ [some (.row 6 [n.E])])
  have htag := fun (x : EV) l hx hin => tag_den (E := E) n g x l hx hin (H ++ [some (.row 6 [n.E])])
  unfold NF.E at hw hmay hgo htag
  show @Hd E ⟨_⟩ ⟨slots0 [n.E, .str s]⟩ ⟨H⟩ ⟨_⟩
  unfold NF.E
  repeat' first
    | (simp (disch := first | omega | assumption) only [go_sem, ↓reduceIte, simprocAttr, reduceCtorEq, *])
    | (refine HG_split (fun hb => ?_) (fun hb => ?_))
    | (refine HC_split (fun hb => ?_) (fun hb => ?_))
  refine while_of (ι := Nat × EV) (fun i => 1 ≤ i.1 ∧ i.1 ≤ s.length ∧ IntsV i.2 (runL n (s.take i.1))) (fun i => s.length - i.1) (fun i => [(1, .str s), (2, .ptr H.length 6 0 0), (6, i.2), (7, .int .i64 i.1)]) (fun _ => H ++ [some (.row 6 [.agg [n.x0, n.x1, n.x2, n.x3, n.x4, .int .i64 n.m]])]) (1, y0) ⟨by omega, by omega, by rw [hr1]; exact hy0⟩ ?_ rfl ?_
  · simp (disch := omega) only [go_sem, ↓reduceIte, simprocAttr, reduceCtorEq, Sl]
  · rintro ⟨i, y⟩ t ⟨hi1, hi2, hy⟩ ht K hK
    simp only at hi1 hi2 hy
    simp (disch := omega) only [go_sem, ↓reduceIte, simprocAttr, reduceCtorEq, Sl] at ht
    by_cases hlt : i < s.length
    · obtain ⟨b, hb⟩ := get_some hlt
      obtain ⟨y', hg', hy'⟩ := hgo y _ hy (runL_in g _) b.toNat b.toNat_lt
      have hk := hK (i + 1, y')
      have hsn := runL_snoc n hi1 hb
      clear hgo htag hK hw
      repeat' first
        | (simp (disch := first | omega | assumption) only [go_sem, ↓reduceIte, simprocAttr, reduceCtorEq, *])
        | (refine HG_split (fun hb => ?_) (fun hb => ?_))
        | (refine HC_split (fun hb => ?_) (fun hb => ?_))
      all_goals (try simp only [decide_eq_true_eq, decide_eq_false_iff_not, beq_iff_eq, beq_eq_false_iff_ne, bne_iff_ne, bne_eq_false_iff_eq, ne_eq, Bool.not_eq_true', Bool.not_eq_false', Bool.not_eq_true, Bool.not_eq_false, Decidable.not_not, Bool.and_eq_true, Bool.or_eq_true] at *)
      all_goals first | omega | skip
      refine hk _ _ ⟨by omega, by omega, by rw [hsn]; exact hy'⟩ (by omega) ?_ rfl
      simp (disch := omega) only [go_sem, ↓reduceIte, simprocAttr, reduceCtorEq, Sl, ht, and_self, cast_succ]
    · have hie : i = s.length := by omega
      rw [hie, List.take_length] at hy
      have htg := htag y _ hy (runL_in g _)
      have hyo := hy.ok H.length
      clear hgo htag hK hw
      repeat' first
        | (simp (disch := first | omega | assumption) only [go_sem, ↓reduceIte, simprocAttr, reduceCtorEq, *])
        | (refine HG_split (fun hb => ?_) (fun hb => ?_))
        | (refine HC_split (fun hb => ?_) (fun hb => ?_))
      all_goals (try simp only [decide_eq_true_eq, decide_eq_false_iff_not, beq_iff_eq, beq_eq_false_iff_ne, bne_iff_ne, bne_eq_false_iff_eq, ne_eq, Bool.not_eq_true', Bool.not_eq_false', Bool.not_eq_true, Bool.not_eq_false, Decidable.not_not, Bool.and_eq_true, Bool.or_eq_true] at *)
      all_goals first | omega | skip
      exact ⟨_, finV_drop (by simp [EV.ok, okL, hyo]) rfl, y, rfl, hy⟩

theorem run_empty (n : NF) (hm : mayB n = true) (H : Heap) : den E R.n_nfa_Run [n.E, .str []] H = some (.ret (.tup [.nilsl, .int .i64 n.m]), H) := by
  have hmay := fun H => may_den (E := E) n H
  rw [hm] at hmay
  obtain ⟨o0, o1, o2, o3, o4⟩ := n.one
  have hse0 : (([] : List UInt8) == ([] : List UInt8)) = true := rfl
  refine den_of R.d_nfa_Run (by simp) ?_
  unfold Gn.nfa_Run Gn.nfa_Run_r
  unfold EV.one at o0 o1 o2 o3 o4
  unfold NF.E at hmay ⊢
  repeat' first
    | (simp (disch := first | omega | assumption) only [go_sem, ↓reduceIte, simprocAttr, reduceCtorEq, *])
    | (refine HG_split (fun hb => ?_) (fun hb => ?_))
    | (refine HC_split (fun hb => ?_) (fun hb => ?_))
  exact finV_drop rfl rfl

theorem run_no (n : NF) (hm : mayB n = false) (s : List UInt8) (H : Heap) : den E R.n_nfa_Run [n.E, .str s] H = some (.ret (.tup [.nilsl, .int .i64 (-1)]), H) := by
  have hmay := fun H => may_den (E := E) n H
  rw [hm] at hmay
  obtain ⟨o0, o1, o2, o3, o4⟩ := n.one
  refine den_of R.d_nfa_Run (by simp) ?_
  unfold Gn.nfa_Run Gn.nfa_Run_r
  unfold EV.one at o0 o1 o2 o3 o4
  unfold NF.E at hmay ⊢
  repeat' first
    | (simp (disch := first | omega | assumption) only [go_sem, ↓reduceIte, simprocAttr, reduceCtorEq, *])
    | (refine HG_split (fun hb => ?_) (fun hb => ?_))
    | (refine HC_split (fun hb => ?_) (fun hb => ?_))
  exact finV_drop rfl rfl

include hR in
theorem step0_den (n : NF) (hm : mayB n = true) (b : Nat) (hb : b < 256) (H : Heap) : den E R.n_hackleref08_Step [n.E, .nilsl, .bool true, .int .u8 b] H = some (.ret (slE 1 (intsE (begL n b))), H) := by
  have h := step_den hR n (mayB_good hm) .nilsl [] .nil (fun p hp => by simp at hp) true b hb H
  rw [h]
  have hr : ris n.sets.length n.first = true := by
    unfold mayB at hm
    simp only [Bool.and_eq_true, decide_eq_true_eq] at hm
    exact hm.1.2.2.2.2.2.2
  simp only [if_true]
  rw [show markA n (markF (falses n.sets.length) n.first) [] = markF (falses n.sets.length) n.first from rfl, listM_first hr]
  rfl
include hR in
theorem stepN_den (n : NF) (hm : mayB n = true) (x : EV) (l : List Int) (hx : IntsV x l) (hin : InP n.sets.length l) (b : Nat) (hb : b < 256) (H : Heap) : den E R.n_hackleref08_Step [n.E, x, .bool false, .int .u8 b] H = some (.ret (slE 1 (intsE (stepL n l b))), H) := by
  have h := step_den hR n (mayB_good hm) x l hx hin false b hb H
  rw [h]; rfl
end
end Abs
