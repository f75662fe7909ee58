/- Runs of automata by places. -/
import Derived.Test.YtbilmalnlkileaaNfH
set_option linter.all false

namespace Abs
open Go
set_option linter.all false
set_option maxRecDepth 20000

def stepL (n : NF) (l : List Int) (b : Nat) : List Int := (listM (markA n (falses n.sets.length) l) 0).filter (hasP n b)
def begL (n : NF) (b : Nat) : List Int := n.first.filter (hasP n b)
def runL (n : NF) : List UInt8 → List Int
  | [] => []
  | b :: r => r.foldl (fun l b => stepL n l b.toNat) (begL n b.toNat)

theorem markF_get {l : List Int} {k : Nat} : ∀ {M : List Bool}, InP k l → ∀ (j : Nat) (v : Bool), M[j]? = some v → (markF M l)[j]? = some (v || decide ((j : Int) ∈ l)) := by
  induction l with
  | nil => intro M _ j v h; simpa [markF] using h
  | cons q l ih =>
    intro M hin j v hv
    have hq := hin q (by simp)
    show (markF (M.set q.toNat true) l)[j]? = _
    by_cases hj : q.toNat = j
    · have hjl := (List.getElem?_eq_some_iff.1 hv).1
      rw [ih (fun p hp => hin p (List.mem_cons_of_mem _ hp)) j true (by rw [hj]; exact List.getElem?_set_self hjl)]
      have : ((j : Nat) : Int) = q := by omega
      simp [this]
    · rw [ih (fun p hp => hin p (List.mem_cons_of_mem _ hp)) j v (by rw [List.getElem?_set_ne hj]; exact hv)]
      have : ¬ ((j : Nat) : Int) = q := by omega
      simp [this]
theorem risF_gt {K : Int} : ∀ {l : List Int} {a : Int}, risF K a l = true → ∀ p ∈ l, a < p
  | [], _, _, p, hp => by simp at hp
  | x :: l, a, h, p, hp => by
    simp only [risF, Bool.and_eq_true, decide_eq_true_eq] at h
    rcases List.mem_cons.1 hp with rfl | hp
    · exact h.1
    · have := risF_gt h.2.2 p hp; omega
theorem listM_char : ∀ (M : List Bool) (i : Int) (l : List Int), risF (i + M.length) (i - 1) l = true → (∀ j : Nat, j < M.length → M[j]? = some (decide (i + j ∈ l))) → listM M i = l
  | [], i, l, h, _ => by
    cases l with
    | nil => rfl
    | cons x l => simp [risF] at h; omega
  | b :: M, i, l, h, hm => by
    have h0 := hm 0 (by simp)
    simp only [List.getElem?_cons_zero, Option.some.injEq, Int.ofNat_eq_natCast, Int.natCast_zero, Int.add_zero] at h0
    have hrest : ∀ l' : List Int, (∀ p : Int, i < p → (p ∈ l ↔ p ∈ l')) → ∀ j : Nat, j < M.length → M[j]? = some (decide (i + 1 + j ∈ l')) := fun l' he j hj => by
      have := hm (j + 1) (by simpa using hj)
      simp only [List.getElem?_cons_succ] at this
      rw [this]
      have e : i + ((j + 1 : Nat) : Int) = i + 1 + (j : Int) := by push_cast; omega
      rw [e]
      congr 2
      exact propext (he _ (by omega))
    have hlen : i + ((b :: M).length : Int) = i + 1 + (M.length : Int) := by simp; omega
    rw [hlen] at h
    cases hb : b with
    | true =>
      rw [hb] at h0
      have hi : i ∈ l := by simpa using h0.symm
      cases l with
      | nil => simp at hi
      | cons x l' =>
        have h' := h
        simp only [risF, Bool.and_eq_true, decide_eq_true_eq] at h'
        have hx : x = i := by
          rcases List.mem_cons.1 hi with e | e
          · exact e.symm
          · have := risF_gt h'.2.2 i e; omega
        subst hx
        have ih := listM_char M (x + 1) l' (by rw [show x + 1 - 1 = x by omega]; exact h'.2.2) (hrest l' fun p hp => by simp; omega)
        simp [listM, ih]
    | false =>
      rw [hb] at h0
      have hi : i ∉ l := by
        intro hc
        rw [decide_eq_true hc] at h0
        simp at h0
      have ih := listM_char M (i + 1) l (by
        rw [show i + 1 - 1 = i by omega]
        cases l with
        | nil => rfl
        | cons x l' =>
          simp only [risF, Bool.and_eq_true, decide_eq_true_eq] at h ⊢
          have : x ≠ i := fun e => hi (by simp [e])
          exact ⟨by omega, h.2⟩) (hrest l fun p _ => Iff.rfl)
      simp [listM, ih]
theorem listM_first {k : Nat} {l : List Int} (h : ris k l = true) : listM (markF (falses k) l) 0 = l := by
  have hin := InP.ris (by omega) h
  have hl : (markF (falses k) l).length = k := by rw [markF_len]; simp [falses]
  refine listM_char _ 0 l (by rw [hl]; simpa [ris] using h) fun j hj => ?_
  rw [hl] at hj
  have := markF_get (M := falses k) hin j false (by simp [falses, hj])
  simpa using this

theorem stepL_in (n : NF) (l : List Int) (b : Nat) : InP n.sets.length (stepL n l b) := fun p hp => by
  have := listM_in _ 0 p (List.mem_filter.1 hp).1
  rw [markA_len] at this
  simp [falses] at this
  omega
theorem begL_in {n : NF} (g : n.Good) (b : Nat) : InP n.sets.length (begL n b) := fun p hp => g.fi p (List.mem_filter.1 hp).1

section
variable {E : Env} [R : NfaR E] (hH : HasDen E R.n_octs_Has .u8) (hR : HasDen E R.n_hackleref01_Has .i64)

theorem of_den (n : NF) (H : Heap) : den E R.n_hacklelaw08_Of [n.E] H = some (.ret n.E, H) := by
  obtain ⟨o0, o1, o2, o3, o4⟩ := n.one
  have c0 := n.h0.one.1
  have c1 := n.h1.one.1
  have c2 := n.h2.one.1
  have c3 := n.h3.one.1
  have c4 := n.h4.one.1
  have hok : n.E.ok H.length = true := by
    unfold NF.E
    simp [EV.ok, okL, n.h0.ok, n.h1.ok, n.h2.ok, n.h3.ok, n.h4.ok]
  refine den_of R.d_hacklelaw08_Of (by simp) ?_
  unfold Gn.hacklelaw08_Of Gn.hacklelaw08_Of_r
  unfold EV.one at o0 o1 o2 o3 o4
  unfold EV.cells at c0 c1 c2 c3 c4
  unfold NF.E at hok ⊢
  repeat' first
    | (simp (disch := first | omega | assumption) only [go_sem, ↓reduceIte, simprocAttr, reduceCtorEq, *])
    | (refine HG_split (fun hb => ?_) (fun hb => ?_))
    | (refine HC_split (fun hb => ?_) (fun hb => ?_))
  exact finV_drop hok rfl

include hH in
theorem begin_den (n : NF) (hm : mayB n = true) (hf : n.first.length ≤ 1000000) (b : Nat) (hb : b < 256) (H : Heap) : ∃ y, den E R.n_nfa_Begin [n.E, .int .u8 b] H = some (.ret y, H) ∧ IntsV y (begL n b) := by
  have g := mayB_good hm
  obtain ⟨y, hw, hy⟩ := with_den hH n n.x2 n.first (H ++ [some (.row 6 [n.E])]) (n.h2.arg _) hf g.fi b hb
  refine ⟨y, ?_, hy⟩
  have hmay := fun H => may_den (E := E) n H
  rw [hm] at hmay
  obtain ⟨o0, o1, o2, o3, o4⟩ := n.one
  refine den_of R.d_nfa_Begin (by simp) ?_
  unfold Gn.nfa_Begin Gn.nfa_Begin_r
  unfold EV.one at o0 o1 o2 o3 o4
  unfold NF.E at hw hmay ⊢
  repeat' first
    | (simp (disch := first | omega | assumption) only [go_sem, ↓reduceIte, simprocAttr, reduceCtorEq, *])
    | (refine HG_split (fun hb => ?_) (fun hb => ?_))
    | (refine HC_split (fun hb => ?_) (fun hb => ?_))
  exact finV_drop (hy.ok _) rfl

theorem begin_no (n : NF) (hm : mayB n = false) (b : Nat) (H : Heap) : den E R.n_nfa_Begin [n.E, .int .u8 b] H = some (.ret .nilsl, H) := by
  have hmay := fun H => may_den (E := E) n H
  rw [hm] at hmay
  obtain ⟨o0, o1, o2, o3, o4⟩ := n.one
  refine den_of R.d_nfa_Begin (by simp) ?_
  unfold Gn.nfa_Begin Gn.nfa_Begin_r
  unfold EV.one at o0 o1 o2 o3 o4
  unfold NF.E at hmay ⊢
  repeat' first
    | (simp (disch := first | omega | assumption) only [go_sem, ↓reduceIte, simprocAttr, reduceCtorEq, *])
    | (refine HG_split (fun hb => ?_) (fun hb => ?_))
    | (refine HC_split (fun hb => ?_) (fun hb => ?_))
  exact finV_drop rfl rfl

include hH in
theorem go_den (n : NF) (hm : mayB n = true) (x : EV) (l : List Int) (hx : IntsV x l) (hr : ris n.sets.length l = true) (b : Nat) (hb : b < 256) (H : Heap) : ∃ y, den E R.n_nfa_Go [n.E, x, .int .u8 b] H = some (.ret y, H) ∧ IntsV y (stepL n l b) := by
  have g := mayB_good hm
  obtain ⟨y, hw, hy⟩ := goOn_den hH n g x l hx (InP.ris (by omega) hr) b hb (H ++ [some (.row 6 [n.E])])
  refine ⟨y, ?_, hy⟩
  have hmay := fun H => may_den (E := E) n H
  have hris := fun H => ris_den (E := E) n x l hx H
  rw [hm] at hmay
  rw [hr] at hris
  obtain ⟨o0, o1, o2, o3, o4⟩ := n.one
  refine den_of R.d_nfa_Go (by simp) ?_
  unfold Gn.nfa_Go Gn.nfa_Go_r
  unfold EV.one at o0 o1 o2 o3 o4
  unfold NF.E at hw hmay hris ⊢
  repeat' first
    | (simp (disch := first | omega | assumption) only [go_sem, ↓reduceIte, simprocAttr, reduceCtorEq, *])
    | (refine HG_split (fun hb => ?_) (fun hb => ?_))
    | (refine HC_split (fun hb => ?_) (fun hb => ?_))
  exact finV_drop (hy.ok _) rfl

theorem go_no (n : NF) (x : EV) (l : List Int) (hx : IntsV x l) (hno : mayB n = false ∨ ris n.sets.length l = false) (b : Nat) (H : Heap) : den E R.n_nfa_Go [n.E, x, .int .u8 b] H = some (.ret .nilsl, H) := by
  have hmay := fun H => may_den (E := E) n H
  have hris := fun H => ris_den (E := E) n x l hx H
  obtain ⟨o0, o1, o2, o3, o4⟩ := n.one
  refine den_of R.d_nfa_Go (by simp) ?_
  unfold Gn.nfa_Go Gn.nfa_Go_r
  unfold EV.one at o0 o1 o2 o3 o4
  unfold NF.E at hmay hris ⊢
  rcases hno with h | h
  · rw [h] at hmay
    repeat' first
      | (simp (disch := first | omega | assumption) only [go_sem, ↓reduceIte, simprocAttr, reduceCtorEq, *])
      | (refine HG_split (fun hb => ?_) (fun hb => ?_))
      | (refine HC_split (fun hb => ?_) (fun hb => ?_))
    all_goals exact finV_drop rfl rfl
  · rw [h] at hris
    cases hm : mayB n <;> rw [hm] at hmay
    · repeat' first
        | (simp (disch := first | omega | assumption) only [go_sem, ↓reduceIte, simprocAttr, reduceCtorEq, *])
        | (refine HG_split (fun hb => ?_) (fun hb => ?_))
        | (refine HC_split (fun hb => ?_) (fun hb => ?_))
      all_goals exact finV_drop rfl rfl
    · repeat' first
        | (simp (disch := first | omega | assumption) only [go_sem, ↓reduceIte, simprocAttr, reduceCtorEq, *])
        | (refine HG_split (fun hb => ?_) (fun hb => ?_))
        | (refine HC_split (fun hb => ?_) (fun hb => ?_))
      all_goals exact finV_drop rfl rfl

theorem tagP_den (n : NF) (x : EV) (l : List Int) (hx : IntsV x l) (H : Heap) : den E R.n_nfa_Tag [n.E, x] H = some (.ret (.int .i64 (if mayB n = true ∧ ris n.sets.length l = true then tagF n l else -1)), H) := by
  have hmay := fun H => may_den (E := E) n H
  have hris := fun H => ris_den (E := E) n x l hx H
  obtain ⟨o0, o1, o2, o3, o4⟩ := n.one
  by_cases hm : mayB n = true
  · by_cases hr : ris n.sets.length l = true
    · rw [if_pos ⟨hm, hr⟩]
      have ht := fun H => tag_den (E := E) n (mayB_good hm) x l hx (InP.ris (by omega) hr) H
      rw [hm] at hmay
      rw [hr] at hris
      clear hm hr
      refine den_of R.d_nfa_Tag (by simp) ?_
      unfold Gn.nfa_Tag Gn.nfa_Tag_r
      unfold EV.one at o0 o1 o2 o3 o4
      unfold NF.E at hmay hris ht ⊢
      repeat' first
        | (simp (disch := first | omega | assumption) only [go_sem, ↓reduceIte, simprocAttr, reduceCtorEq, *])
        | (refine HG_split (fun hb => ?_) (fun hb => ?_))
        | (refine HC_split (fun hb => ?_) (fun hb => ?_))
      exact finV_drop rfl rfl
    · rw [if_neg (fun h => hr h.2)]
      rw [hm] at hmay
      rw [Bool.not_eq_true] at hr
      rw [hr] at hris
      clear hm hr
      refine den_of R.d_nfa_Tag (by simp) ?_
      unfold Gn.nfa_Tag Gn.nfa_Tag_r
      unfold EV.one at o0 o1 o2 o3 o4
      unfold NF.E at hmay hris ⊢
      repeat' first
        | (simp (disch := first | omega | assumption) only [go_sem, ↓reduceIte, simprocAttr, reduceCtorEq, *])
        | (refine HG_split (fun hb => ?_) (fun hb => ?_))
        | (refine HC_split (fun hb => ?_) (fun hb => ?_))
      exact finV_drop rfl rfl
  · rw [if_neg (fun h => hm h.1)]
    rw [Bool.not_eq_true] at hm
    rw [hm] at hmay
    clear hm
    refine den_of R.d_nfa_Tag (by simp) ?_
    unfold Gn.nfa_Tag Gn.nfa_Tag_r
    unfold EV.one at o0 o1 o2 o3 o4
    unfold NF.E at hmay hris ⊢
    repeat' first
      | (simp (disch := first | omega | assumption) only [go_sem, ↓reduceIte, simprocAttr, reduceCtorEq, *])
      | (refine HG_split (fun hb => ?_) (fun hb => ?_))
      | (refine HC_split (fun hb => ?_) (fun hb => ?_))
    exact finV_drop rfl rfl
end
end Abs
