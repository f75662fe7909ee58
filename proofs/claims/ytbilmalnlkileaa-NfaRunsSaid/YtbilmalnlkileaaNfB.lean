/- Automata by places: may they be? -/
import Derived.Test.YtbilmalnlkileaaNfA
set_option linter.all false

namespace Abs
open Go
set_option linter.all false
set_option maxRecDepth 20000

def okAtB (n : NF) (i : Nat) : Bool :=
  match n.rules[i]?, n.follow[i]? with
  | some r, some l => decide (0 ≤ r) && (decide (r ≤ 39) && ris n.sets.length l)
  | _, _ => false
def mayB (n : NF) : Bool :=
  decide (n.sets.length ≤ 2000 ∧ n.rules.length = n.sets.length ∧ n.follow.length = n.sets.length ∧ n.ends.length = n.sets.length ∧ -1 ≤ n.m ∧ n.m ≤ 39 ∧ ris n.sets.length n.first = true) && (List.range n.sets.length).all (okAtB n)
theorem mayB_no {n : NF} (h : ¬ (n.sets.length ≤ 2000 ∧ n.rules.length = n.sets.length ∧ n.follow.length = n.sets.length ∧ n.ends.length = n.sets.length ∧ -1 ≤ n.m ∧ n.m ≤ 39 ∧ ris n.sets.length n.first = true)) : mayB n = false := by
  unfold mayB; rw [decide_eq_false h]; rfl
theorem mayB_at {n : NF} {i : Nat} (hi : i < n.sets.length) (h : okAtB n i = false) : mayB n = false := by
  unfold mayB
  have : (List.range n.sets.length).all (okAtB n) = false := by
    rw [Bool.eq_false_iff]
    intro ha
    have := List.all_eq_true.1 ha i (by simpa using hi)
    rw [h] at this
    simp at this
  rw [this, Bool.and_false]
theorem mayB_yes {n : NF} (h : n.sets.length ≤ 2000 ∧ n.rules.length = n.sets.length ∧ n.follow.length = n.sets.length ∧ n.ends.length = n.sets.length ∧ -1 ≤ n.m ∧ n.m ≤ 39 ∧ ris n.sets.length n.first = true) (g : ∀ j, j < n.sets.length → okAtB n j = true) : mayB n = true := by
  unfold mayB
  rw [decide_eq_true h, Bool.true_and]
  exact List.all_eq_true.2 fun j hj => g j (by simpa using hj)

section
variable {E : Env} [R : NfaR E]

theorem refRis_den (n : NF) (x : EV) (l : List Int) (hx : IntsV x l) (H : Heap) : den E R.n_hackleref08_rising [n.E, x] H = some (.ret (.bool (ris n.sets.length l)), H) := by
  have k := n.k
  have lx := hx.lenI
  have lle := hx.leI
  obtain ⟨o0, o1, o2, o3, o4⟩ := n.one
  refine den_of R.d_hackleref08_rising (by simp) ?_
  unfold Gn.hackleref08_rising Gn.hackleref08_rising_r NF.E
  unfold EV.one at o0 o1 o2 o3 o4
  simp (disch := omega) only [go_sem, ↓reduceIte, simprocAttr, reduceCtorEq, *]
  refine while_of (ι := Nat × Int) (fun i => i.1 ≤ l.length ∧ -1 ≤ i.2 ∧ ris n.sets.length l = risF n.sets.length i.2 (l.drop i.1)) (fun i => l.length - i.1)
    (fun i => [(1, x), (2, .ptr H.length 6 0 0), (5, .int .i64 i.2), (6, .int .i64 i.1)]) (fun _ => H ++ [some (.row 6 [.agg [n.x0, n.x1, n.x2, n.x3, n.x4, .int .i64 n.m]])]) (0, -1) ⟨by omega, by simp, rfl⟩ ?_ rfl ?_
  · simp (disch := omega) only [go_sem, ↓reduceIte, simprocAttr, reduceCtorEq, Sl]
  · rintro ⟨i, a⟩ t ⟨hi, ha, hr⟩ ht K hK
    simp only at hi ha hr
    simp (disch := omega) only [go_sem, ↓reduceIte, simprocAttr, reduceCtorEq, Sl] at ht
    by_cases hlt : i < l.length
    · obtain ⟨v, hv⟩ := get_some hlt
      have hat := hx.at hv
      rw [drop_get hv] at hr
      have go : a < v → v < n.sets.length → _ := fun h1 h2 s' H' => hK (i + 1, v) s' H' ⟨by omega, by omega, by rw [hr]; simp [risF, h1, h2]⟩ (by omega)
      have stop : ¬ (a < v ∧ v < n.sets.length) → ris n.sets.length l = false := fun h => by
        rw [hr]
        simp only [risF, Bool.and_eq_false_iff, decide_eq_false_iff_not]
        by_cases h1 : a < v
        · exact .inr (.inl fun h2 => h ⟨h1, h2⟩)
        · exact .inl h1
      clear hr
      repeat' first
        | (simp (disch := first | omega | assumption) only [go_sem, ↓reduceIte, simprocAttr, reduceCtorEq, *])
        | (refine HG_split (fun hb => ?_) (fun hb => ?_))
        | (refine HC_split (fun hb => ?_) (fun hb => ?_))
      all_goals (try simp only [decide_eq_true_eq, decide_eq_false_iff_not, beq_iff_eq, beq_eq_false_iff_ne, bne_iff_ne, bne_eq_false_iff_eq, ne_eq, Bool.not_eq_true', Bool.not_eq_false', Bool.not_eq_true, Bool.not_eq_false, Decidable.not_not, Bool.and_eq_true, Bool.or_eq_true] at *)
      all_goals first
        | omega
        | (rw [stop (by omega)]; exact finV_drop rfl rfl)
        | (refine go (by omega) (by omega) _ _ ?_ rfl; simp (disch := omega) only [go_sem, ↓reduceIte, simprocAttr, reduceCtorEq, Sl, ht, and_self, cast_succ])
    · have : i = l.length := by omega
      subst this
      have he : ris n.sets.length l = true := by rw [hr]; simp [risF]
      rw [he]
      repeat' first
        | (simp (disch := first | omega | assumption) only [go_sem, ↓reduceIte, simprocAttr, reduceCtorEq, *])
        | (refine HG_split (fun hb => ?_) (fun hb => ?_))
        | (refine HC_split (fun hb => ?_) (fun hb => ?_))
      all_goals (try simp only [decide_eq_true_eq, decide_eq_false_iff_not, beq_iff_eq, beq_eq_false_iff_ne, bne_iff_ne, bne_eq_false_iff_eq, ne_eq, Bool.not_eq_true', Bool.not_eq_false', Bool.not_eq_true, Bool.not_eq_false, Decidable.not_not, Bool.and_eq_true, Bool.or_eq_true] at *)
      all_goals first | omega | exact finV_drop rfl rfl

theorem refRising_den (n : NF) (x : EV) (l : List Int) (hx : IntsV x l) (H : Heap) : den E R.n_hackleref08_Rising [n.E, x] H = some (.ret (.bool (ris n.sets.length l)), H) := by
  have h := fun H => refRis_den (E := E) n x l hx H
  obtain ⟨o0, o1, o2, o3, o4⟩ := n.one
  refine den_of R.d_hackleref08_Rising (by simp) ?_
  unfold Gn.hackleref08_Rising Gn.hackleref08_Rising_r
  unfold NF.E at h ⊢
  unfold EV.one at o0 o1 o2 o3 o4
  repeat' first
    | (simp (disch := first | omega | assumption) only [go_sem, ↓reduceIte, simprocAttr, reduceCtorEq, *])
    | (refine HG_split (fun hb => ?_) (fun hb => ?_))
    | (refine HC_split (fun hb => ?_) (fun hb => ?_))
  exact finV_drop rfl rfl

theorem may_den (n : NF) (H : Heap) : den E R.n_nfa_May [n.E] H = some (.ret (.bool (mayB n)), H) := by
  have h0 := fun H => ris_den (E := E) n n.x2 n.first n.h2 H
  obtain ⟨o0, o1, o2, o3, o4⟩ := n.one
  have k0 := n.k
  have k1 := n.k1
  have k3 := n.k3
  have k4 := n.k4
  refine den_of R.d_nfa_May (by simp) ?_
  unfold Gn.nfa_May Gn.nfa_May_r
  unfold NF.E at h0 ⊢
  unfold EV.one at o0 o1 o2 o3 o4
  cases hr : ris n.sets.length n.first with
  | false =>
    rw [mayB_no (fun h => by rw [hr] at h; exact absurd h.2.2.2.2.2.2 (by simp)), ]
    rw [hr] at h0
    clear hr
    repeat' first
      | (simp (disch := first | omega | assumption) only [go_sem, ↓reduceIte, simprocAttr, reduceCtorEq, *])
      | (refine HG_split (fun hb => ?_) (fun hb => ?_))
      | (refine HC_split (fun hb => ?_) (fun hb => ?_))
    all_goals (try simp only [decide_eq_true_eq, decide_eq_false_iff_not, beq_iff_eq, beq_eq_false_iff_ne, bne_iff_ne, bne_eq_false_iff_eq, ne_eq, Bool.not_eq_true', Bool.not_eq_false', Bool.not_eq_true, Bool.not_eq_false, Decidable.not_not, Bool.and_eq_true, Bool.or_eq_true] at *)
    all_goals first | omega | exact finV_drop rfl rfl
  | true =>
    rw [hr] at h0
    by_cases hb : n.sets.length ≤ 2000 ∧ n.rules.length = n.sets.length ∧ n.follow.length = n.sets.length ∧ n.ends.length = n.sets.length ∧ -1 ≤ n.m ∧ n.m ≤ 39
    · obtain ⟨b1, b2, b3, b4, b5, b6⟩ := hb
      have hall : (∀ j, j < n.sets.length → okAtB n j = true) → mayB n = true := fun g => mayB_yes ⟨b1, b2, b3, b4, b5, b6, hr⟩ g
      clear hr
      repeat' first
        | (simp (disch := first | omega | assumption) only [go_sem, ↓reduceIte, simprocAttr, reduceCtorEq, *])
        | (refine HG_split (fun hb => ?_) (fun hb => ?_))
        | (refine HC_split (fun hb => ?_) (fun hb => ?_))
      all_goals (try simp only [decide_eq_true_eq, decide_eq_false_iff_not, beq_iff_eq, beq_eq_false_iff_ne, bne_iff_ne, bne_eq_false_iff_eq, ne_eq, Bool.not_eq_true', Bool.not_eq_false', Bool.not_eq_true, Bool.not_eq_false, Decidable.not_not, Bool.and_eq_true, Bool.or_eq_true] at *)
      all_goals first | omega | (exact absurd trivial (by assumption)) | skip
      refine while_of (ι := Nat) (fun i => i ≤ n.sets.length ∧ ∀ j, j < i → okAtB n j = true) (fun i => n.sets.length - i) (fun i => [(1, .ptr H.length 6 0 0), (48, .int .i64 n.sets.length), (49, .int .i64 i)]) (fun _ => H ++ [some (.row 6 [.agg [n.x0, n.x1, n.x2, n.x3, n.x4, .int .i64 n.m]])]) 0 ⟨by omega, by omega⟩ ?_ rfl ?_
      · simp (disch := omega) only [go_sem, ↓reduceIte, simprocAttr, reduceCtorEq, Sl]
      · rintro i t ⟨hi, hdone⟩ ht K hK
        simp (disch := omega) only [go_sem, ↓reduceIte, simprocAttr, reduceCtorEq, Sl] at ht
        by_cases hlt : i < n.sets.length
        · obtain ⟨r, hr⟩ := get_some (l := n.rules) (i := i) (by omega)
          obtain ⟨l, hl⟩ := get_some (l := n.follow) (i := i) (by omega)
          obtain ⟨y, hy, hyv, hye⟩ := n.fol hl
          have hre := n.h1.at hr
          have hc := fun H => ris_den (E := E) n y l hyv H
          unfold NF.E at hc
          have hok : okAtB n i = (decide (0 ≤ r) && (decide (r ≤ 39) && ris n.sets.length l)) := by unfold okAtB; rw [hr, hl]
          have go : okAtB n i = true → _ := fun h s' H' => hK (i + 1) s' H' ⟨by omega, fun j hj => by
            rcases Nat.lt_or_ge j i with h' | h'
            · exact hdone j h'
            · obtain rfl : j = i := by omega
              exact h⟩ (by omega)
          have stop := fun h => mayB_at (n := n) hlt h
          rw [hok] at go stop
          clear hok hall hdone hK
          cases hrl : ris n.sets.length l with
          | true =>
            rw [hrl] at hc go stop
            repeat' first
              | (simp (disch := first | omega | assumption) only [go_sem, ↓reduceIte, simprocAttr, reduceCtorEq, *])
              | (refine HG_split (fun hb => ?_) (fun hb => ?_))
              | (refine HC_split (fun hb => ?_) (fun hb => ?_))
            all_goals (try simp only [decide_eq_true_eq, decide_eq_false_iff_not, beq_iff_eq, beq_eq_false_iff_ne, bne_iff_ne, bne_eq_false_iff_eq, ne_eq, Bool.not_eq_true', Bool.not_eq_false', Bool.not_eq_true, Bool.not_eq_false, Decidable.not_not, Bool.and_eq_true, Bool.or_eq_true] at *)
            all_goals first
              | omega
              | (rw [stop (by rw [Bool.and_eq_false_iff]; simp; omega)]; exact finV_drop rfl rfl)
              | (refine go (by simp; omega) _ _ ?_ rfl; simp (disch := omega) only [go_sem, ↓reduceIte, simprocAttr, reduceCtorEq, Sl, ht, and_self, cast_succ])
          | false =>
            rw [hrl] at hc go stop
            repeat' first
              | (simp (disch := first | omega | assumption) only [go_sem, ↓reduceIte, simprocAttr, reduceCtorEq, *])
              | (refine HG_split (fun hb => ?_) (fun hb => ?_))
              | (refine HC_split (fun hb => ?_) (fun hb => ?_))
            all_goals (try simp only [decide_eq_true_eq, decide_eq_false_iff_not, beq_iff_eq, beq_eq_false_iff_ne, bne_iff_ne, bne_eq_false_iff_eq, ne_eq, Bool.not_eq_true', Bool.not_eq_false', Bool.not_eq_true, Bool.not_eq_false, Decidable.not_not, Bool.and_eq_true, Bool.or_eq_true] at *)
            all_goals first
              | omega
              | (rw [stop (by simp)]; exact finV_drop rfl rfl)
        · have : i = n.sets.length := by omega
          subst this
          rw [hall hdone]
          clear hall hdone
          repeat' first
            | (simp (disch := first | omega | assumption) only [go_sem, ↓reduceIte, simprocAttr, reduceCtorEq, *])
            | (refine HG_split (fun hb => ?_) (fun hb => ?_))
            | (refine HC_split (fun hb => ?_) (fun hb => ?_))
          all_goals (try simp only [decide_eq_true_eq, decide_eq_false_iff_not, beq_iff_eq, beq_eq_false_iff_ne, bne_iff_ne, bne_eq_false_iff_eq, ne_eq, Bool.not_eq_true', Bool.not_eq_false', Bool.not_eq_true, Bool.not_eq_false, Decidable.not_not, Bool.and_eq_true, Bool.or_eq_true] at *)
          all_goals first | omega | exact finV_drop rfl rfl
    · rw [mayB_no (fun h => hb ⟨h.1, h.2.1, h.2.2.1, h.2.2.2.1, h.2.2.2.2.1, h.2.2.2.2.2.1⟩)]
      clear hr
      repeat' first
        | (simp (disch := first | omega | assumption) only [go_sem, ↓reduceIte, simprocAttr, reduceCtorEq, *])
        | (refine HG_split (fun hb => ?_) (fun hb => ?_))
        | (refine HC_split (fun hb => ?_) (fun hb => ?_))
      all_goals (try simp only [decide_eq_true_eq, decide_eq_false_iff_not, beq_iff_eq, beq_eq_false_iff_ne, bne_iff_ne, bne_eq_false_iff_eq, ne_eq, Bool.not_eq_true', Bool.not_eq_false', Bool.not_eq_true, Bool.not_eq_false, Decidable.not_not, Bool.and_eq_true, Bool.or_eq_true] at *)
      all_goals first | omega | exact finV_drop rfl rfl

theorem refMay_den (n : NF) (H : Heap) : den E R.n_hackleref08_May [n.E] H = some (.ret (.bool (mayB n)), H) := by
  have h0 := fun H => refRis_den (E := E) n n.x2 n.first n.h2 H
  obtain ⟨o0, o1, o2, o3, o4⟩ := n.one
  have k0 := n.k
  have k1 := n.k1
  have k3 := n.k3
  have k4 := n.k4
  refine den_of R.d_hackleref08_May (by simp) ?_
  unfold Gn.hackleref08_May Gn.hackleref08_May_r
  unfold NF.E at h0 ⊢
  unfold EV.one at o0 o1 o2 o3 o4
  cases hr : ris n.sets.length n.first with
  | false =>
    rw [mayB_no (fun h => by rw [hr] at h; exact absurd h.2.2.2.2.2.2 (by simp)), ]
    rw [hr] at h0
    clear hr
    repeat' first
      | (simp (disch := first | omega | assumption) only [go_sem, ↓reduceIte, simprocAttr, reduceCtorEq, *])
      | (refine HG_split (fun hb => ?_) (fun hb => ?_))
      | (refine HC_split (fun hb => ?_) (fun hb => ?_))
    all_goals (try simp only [decide_eq_true_eq, decide_eq_false_iff_not, beq_iff_eq, beq_eq_false_iff_ne, bne_iff_ne, bne_eq_false_iff_eq, ne_eq, Bool.not_eq_true', Bool.not_eq_false', Bool.not_eq_true, Bool.not_eq_false, Decidable.not_not, Bool.and_eq_true, Bool.or_eq_true] at *)
    all_goals first | omega | exact finV_drop rfl rfl
  | true =>
    rw [hr] at h0
    by_cases hb : n.sets.length ≤ 2000 ∧ n.rules.length = n.sets.length ∧ n.follow.length = n.sets.length ∧ n.ends.length = n.sets.length ∧ -1 ≤ n.m ∧ n.m ≤ 39
    · obtain ⟨b1, b2, b3, b4, b5, b6⟩ := hb
      have hall : (∀ j, j < n.sets.length → okAtB n j = true) → mayB n = true := fun g => mayB_yes ⟨b1, b2, b3, b4, b5, b6, hr⟩ g
      clear hr
      repeat' first
        | (simp (disch := first | omega | assumption) only [go_sem, ↓reduceIte, simprocAttr, reduceCtorEq, *])
        | (refine HG_split (fun hb => ?_) (fun hb => ?_))
        | (refine HC_split (fun hb => ?_) (fun hb => ?_))
      all_goals (try simp only [decide_eq_true_eq, decide_eq_false_iff_not, beq_iff_eq, beq_eq_false_iff_ne, bne_iff_ne, bne_eq_false_iff_eq, ne_eq, Bool.not_eq_true', Bool.not_eq_false', Bool.not_eq_true, Bool.not_eq_false, Decidable.not_not, Bool.and_eq_true, Bool.or_eq_true] at *)
      all_goals first | omega | (exact absurd trivial (by assumption)) | skip
      refine while_of (ι := Nat) (fun i => i ≤ n.sets.length ∧ ∀ j, j < i → okAtB n j = true) (fun i => n.sets.length - i) (fun i => [(1, .ptr H.length 6 0 0), (3, .int .i64 n.sets.length), (4, .int .i64 i)]) (fun _ => H ++ [some (.row 6 [.agg [n.x0, n.x1, n.x2, n.x3, n.x4, .int .i64 n.m]])]) 0 ⟨by omega, by omega⟩ ?_ rfl ?_
      · simp (disch := omega) only [go_sem, ↓reduceIte, simprocAttr, reduceCtorEq, Sl]
      · rintro i t ⟨hi, hdone⟩ ht K hK
        simp (disch := omega) only [go_sem, ↓reduceIte, simprocAttr, reduceCtorEq, Sl] at ht
        by_cases hlt : i < n.sets.length
        · obtain ⟨r, hr⟩ := get_some (l := n.rules) (i := i) (by omega)
          obtain ⟨l, hl⟩ := get_some (l := n.follow) (i := i) (by omega)
          obtain ⟨y, hy, hyv, hye⟩ := n.fol hl
          have hre := n.h1.at hr
          have hc := fun H => refRis_den (E := E) n y l hyv H
          unfold NF.E at hc
          have hok : okAtB n i = (decide (0 ≤ r) && (decide (r ≤ 39) && ris n.sets.length l)) := by unfold okAtB; rw [hr, hl]
          have go : okAtB n i = true → _ := fun h s' H' => hK (i + 1) s' H' ⟨by omega, fun j hj => by
            rcases Nat.lt_or_ge j i with h' | h'
            · exact hdone j h'
            · obtain rfl : j = i := by omega
              exact h⟩ (by omega)
          have stop := fun h => mayB_at (n := n) hlt h
          rw [hok] at go stop
          clear hok hall hdone hK
          cases hrl : ris n.sets.length l with
          | true =>
            rw [hrl] at hc go stop
            repeat' first
              | (simp (disch := first | omega | assumption) only [go_sem, ↓reduceIte, simprocAttr, reduceCtorEq, *])
              | (refine HG_split (fun hb => ?_) (fun hb => ?_))
              | (refine HC_split (fun hb => ?_) (fun hb => ?_))
            all_goals (try simp only [decide_eq_true_eq, decide_eq_false_iff_not, beq_iff_eq, beq_eq_false_iff_ne, bne_iff_ne, bne_eq_false_iff_eq, ne_eq, Bool.not_eq_true', Bool.not_eq_false', Bool.not_eq_true, Bool.not_eq_false, Decidable.not_not, Bool.and_eq_true, Bool.or_eq_true] at *)
            all_goals first
              | omega
              | (rw [stop (by rw [Bool.and_eq_false_iff]; simp; omega)]; exact finV_drop rfl rfl)
              | (refine go (by simp; omega) _ _ ?_ rfl; simp (disch := omega) only [go_sem, ↓reduceIte, simprocAttr, reduceCtorEq, Sl, ht, and_self, cast_succ])
          | false =>
            rw [hrl] at hc go stop
            repeat' first
              | (simp (disch := first | omega | assumption) only [go_sem, ↓reduceIte, simprocAttr, reduceCtorEq, *])
              | (refine HG_split (fun hb => ?_) (fun hb => ?_))
              | (refine HC_split (fun hb => ?_) (fun hb => ?_))
            all_goals (try simp only [decide_eq_true_eq, decide_eq_false_iff_not, beq_iff_eq, beq_eq_false_iff_ne, bne_iff_ne, bne_eq_false_iff_eq, ne_eq, Bool.not_eq_true', Bool.not_eq_false', Bool.not_eq_true, Bool.not_eq_false, Decidable.not_not, Bool.and_eq_true, Bool.or_eq_true] at *)
            all_goals first
              | omega
              | (rw [stop (by simp)]; exact finV_drop rfl rfl)
        · have : i = n.sets.length := by omega
          subst this
          rw [hall hdone]
          clear hall hdone
          repeat' first
            | (simp (disch := first | omega | assumption) only [go_sem, ↓reduceIte, simprocAttr, reduceCtorEq, *])
            | (refine HG_split (fun hb => ?_) (fun hb => ?_))
            | (refine HC_split (fun hb => ?_) (fun hb => ?_))
          all_goals (try simp only [decide_eq_true_eq, decide_eq_false_iff_not, beq_iff_eq, beq_eq_false_iff_ne, bne_iff_ne, bne_eq_false_iff_eq, ne_eq, Bool.not_eq_true', Bool.not_eq_false', Bool.not_eq_true, Bool.not_eq_false, Decidable.not_not, Bool.and_eq_true, Bool.or_eq_true] at *)
          all_goals first | omega | exact finV_drop rfl rfl
    · rw [mayB_no (fun h => hb ⟨h.1, h.2.1, h.2.2.1, h.2.2.2.1, h.2.2.2.2.1, h.2.2.2.2.2.1⟩)]
      clear hr
      repeat' first
        | (simp (disch := first | omega | assumption) only [go_sem, ↓reduceIte, simprocAttr, reduceCtorEq, *])
        | (refine HG_split (fun hb => ?_) (fun hb => ?_))
        | (refine HC_split (fun hb => ?_) (fun hb => ?_))
      all_goals (try simp only [decide_eq_true_eq, decide_eq_false_iff_not, beq_iff_eq, beq_eq_false_iff_ne, bne_iff_ne, bne_eq_false_iff_eq, ne_eq, Bool.not_eq_true', Bool.not_eq_false', Bool.not_eq_true, Bool.not_eq_false, Decidable.not_not, Bool.and_eq_true, Bool.or_eq_true] at *)
      all_goals first | omega | exact finV_drop rfl rfl
end
end Abs
