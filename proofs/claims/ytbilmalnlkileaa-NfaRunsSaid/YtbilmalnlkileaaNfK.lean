/- Runs of automata by places: the statement's function. -/
import Derived.Test.YtbilmalnlkileaaNfJ
set_option linter.all false

namespace Abs
open Go
set_option linter.all false
set_option maxRecDepth 20000

section
variable {E : Env} [R : NfaR E]

set_option maxHeartbeats 8000000 in
theorem nfaRuns_den (hH : HasDen E R.n_octs_Has .u8) (hR : HasDen E R.n_hackleref01_Has .i64) (ha : ∀ H, den E R.n_hacklelaw08_alive [] H = some (.ret (.bool true), H)) (n : NF) (x : EV) (l : List Int) (hx : IntsV x l) (s : List UInt8) (hs0 : s.length ≤ 9223372036854775807) :
    den E R.n_hacklelaw08_NfaRuns [n.E, x, .str s] [] = some (.ret (.bool true), []) := by
  obtain ⟨o0, o1, o2, o3, o4⟩ := n.one
  have hE1 : n.E.cells.all EV.one = true := by simp [NF.E, EV.cells, EV.one, o0, o1, o2, o3, o4] at *; simp_all [EV.one]
  have k0 := n.k
  have k1 := n.k1
  have k2 := n.k2
  have k3 := n.k3
  have k4 := n.k4
  have lx := hx.lenI
  have al := ha [some (.row 6 [n.E])]
  refine den_of R.d_hacklelaw08_NfaRuns (by simp) ?_
  unfold Gn.hacklelaw08_NfaRuns Gn.hacklelaw08_NfaRuns_r
  unfold EV.one at o0 o1 o2 o3 o4
  unfold NF.E at al ⊢
  refine Hd_cut (fun t H' => Sl t [(1, x), (2, .str s), (3, .ptr 0 6 0 0)] ∧ H' = [some (.row 6 [.agg [n.x0, n.x1, n.x2, n.x3, n.x4, .int .i64 n.m]])]) ?_ ?_
  · simp (disch := omega) only [go_sem, ↓reduceIte, simprocAttr, reduceCtorEq, o0, o1, o2, o3, o4, Sl]
  rintro t _ ⟨ht, rfl⟩
  simp (disch := omega) only [go_sem, ↓reduceIte, simprocAttr, reduceCtorEq, Sl] at ht
  let EE : Option EB := some (.row 6 [.agg [n.x0, n.x1, n.x2, n.x3, n.x4, .int .i64 n.m]])
  -- the example
  refine Hd_cut2 (fun t H' => Sl t [(1, x), (2, .str s), (3, .ptr 0 6 0 0)] ∧ H' = [some (.row 6 [.agg [n.x0, n.x1, n.x2, n.x3, n.x4, .int .i64 n.m]])]) ?_ ?_
  · repeat' first
      | (simp (disch := first | omega | assumption) only [go_sem, ↓reduceIte, simprocAttr, reduceCtorEq, Sl, *])
      | (refine HG_split (fun hb => ?_) (fun hb => ?_))
      | (refine HC_split (fun hb => ?_) (fun hb => ?_))
  rintro t _ ⟨ht, rfl⟩
  simp (disch := omega) only [go_sem, ↓reduceIte, simprocAttr, reduceCtorEq, Sl] at ht
  clear al
  by_cases hsm : ¬ (n.sets.length ≤ 60 ∧ l.length ≤ 100 ∧ s.length ≤ 60 ∧ n.follow.length ≤ 80 ∧ n.first.length ≤ 100 ∧ n.rules.length ≤ 100 ∧ n.ends.length ≤ 100)
  · repeat' first
      | (simp (disch := first | omega | assumption) only [go_sem, ↓reduceIte, simprocAttr, reduceCtorEq, *])
      | (refine HG_split (fun hb => ?_) (fun hb => ?_))
      | (refine HC_split (fun hb => ?_) (fun hb => ?_))
    all_goals (try simp only [decide_eq_true_eq, decide_eq_false_iff_not, beq_iff_eq, beq_eq_false_iff_ne, bne_iff_ne, bne_eq_false_iff_eq, ne_eq, Bool.not_eq_true', Bool.not_eq_false', Bool.not_eq_true, Bool.not_eq_false, Decidable.not_not, Bool.and_eq_true, Bool.or_eq_true] at *)
    all_goals first | omega | (exact finV_drop (H := []) rfl rfl)
  replace hsm := Classical.not_not.1 hsm
  refine Hd_cut2 (fun t H' => Sl t [(1, x), (2, .str s), (3, .ptr 0 6 0 0)] ∧ H' = [some (.row 6 [.agg [n.x0, n.x1, n.x2, n.x3, n.x4, .int .i64 n.m]])]) ?_ ?_
  · repeat' first
      | (simp (disch := first | omega | assumption) only [go_sem, ↓reduceIte, simprocAttr, reduceCtorEq, Sl, *])
      | (refine HG_split (fun hb => ?_) (fun hb => ?_))
      | (refine HC_split (fun hb => ?_) (fun hb => ?_))
    all_goals (try simp only [decide_eq_true_eq, decide_eq_false_iff_not, beq_iff_eq, beq_eq_false_iff_ne, bne_iff_ne, bne_eq_false_iff_eq, ne_eq, Bool.not_eq_true', Bool.not_eq_false', Bool.not_eq_true, Bool.not_eq_false, Decidable.not_not, Bool.and_eq_true, Bool.or_eq_true] at *)
    all_goals first | omega | skip
    all_goals simp [ht]
  rintro t _ ⟨ht, rfl⟩
  simp (disch := omega) only [go_sem, ↓reduceIte, simprocAttr, reduceCtorEq, Sl] at ht
  refine Hd_cut2 (fun t H' => Sl t [(1, x), (2, .str s), (3, .ptr 0 6 0 0)] ∧ H' = [some (.row 6 [.agg [n.x0, n.x1, n.x2, n.x3, n.x4, .int .i64 n.m]])]) ?_ ?_
  · repeat' first
      | (simp (disch := first | omega | assumption) only [go_sem, ↓reduceIte, simprocAttr, reduceCtorEq, *])
      | (refine HG_split (fun hb => ?_) (fun hb => ?_))
      | (refine HC_split (fun hb => ?_) (fun hb => ?_))
    refine while_of (ι := Nat) (fun i => i ≤ n.follow.length) (fun i => n.follow.length - i) (fun i => [(1, x), (2, .str s), (3, .ptr 0 6 0 0), (7, .int .i64 i)]) (fun _ => [some (.row 6 [.agg [n.x0, n.x1, n.x2, n.x3, n.x4, .int .i64 n.m]])]) 0 (by omega) ?_ rfl ?_
    · simp (disch := omega) only [go_sem, ↓reduceIte, simprocAttr, reduceCtorEq, Sl, ht, and_self]
    · intro i t2 hi ht2 K hK
      simp (disch := omega) only [go_sem, ↓reduceIte, simprocAttr, reduceCtorEq, Sl] at ht2
      by_cases hlt : i < n.follow.length
      · obtain ⟨fl, hfl⟩ := get_some hlt
        obtain ⟨y, hy, hyv, hye⟩ := n.fol hfl
        have ly := hyv.lenI
        have hyo := hyv.one.2
        unfold EV.one at hyo
        have hk := hK (i + 1)
        clear hK
        repeat' first
          | (simp (disch := first | omega | assumption) only [go_sem, ↓reduceIte, simprocAttr, reduceCtorEq, *])
          | (refine HG_split (fun hb => ?_) (fun hb => ?_))
          | (refine HC_split (fun hb => ?_) (fun hb => ?_))
        all_goals (try simp only [decide_eq_true_eq, decide_eq_false_iff_not, beq_iff_eq, beq_eq_false_iff_ne, bne_iff_ne, bne_eq_false_iff_eq, ne_eq, Bool.not_eq_true', Bool.not_eq_false', Bool.not_eq_true, Bool.not_eq_false, Decidable.not_not, Bool.and_eq_true, Bool.or_eq_true] at *)
        all_goals first
          | omega
          | exact finV_drop (H := []) rfl rfl
          | (refine hk _ _ (by omega) (by omega) ?_ rfl; simp (disch := omega) only [go_sem, ↓reduceIte, simprocAttr, reduceCtorEq, Sl, ht2, and_self, cast_succ])
      · clear hK
        repeat' first
          | (simp (disch := first | omega | assumption) only [go_sem, ↓reduceIte, simprocAttr, reduceCtorEq, Sl, *])
          | (refine HG_split (fun hb => ?_) (fun hb => ?_))
          | (refine HC_split (fun hb => ?_) (fun hb => ?_))
        all_goals (try simp only [decide_eq_true_eq, decide_eq_false_iff_not, beq_iff_eq, beq_eq_false_iff_ne, bne_iff_ne, bne_eq_false_iff_eq, ne_eq, Bool.not_eq_true', Bool.not_eq_false', Bool.not_eq_true, Bool.not_eq_false, Decidable.not_not, Bool.and_eq_true, Bool.or_eq_true] at *)
        all_goals first | omega | skip
        all_goals simp [ht2]
  rintro t _ ⟨ht, rfl⟩
  simp (disch := omega) only [go_sem, ↓reduceIte, simprocAttr, reduceCtorEq, Sl] at ht
  -- the automaton, as the program has it
  have hof := fun H => of_den (E := E) n H
  unfold NF.E at hof
  have c0 := n.h0.one.1
  have c1 := n.h1.one.1
  have c2 := n.h2.one.1
  have c3 := n.h3.one.1
  have c4 := n.h4.one.1
  unfold EV.cells at c0 c1 c2 c3 c4
  refine Hd_cut2 (fun t H' => Sl t [(1, x), (2, .str s), (3, .ptr 0 6 0 0), (8, .ptr 1 6 0 0)] ∧ H' = [some (.row 6 [.agg [n.x0, n.x1, n.x2, n.x3, n.x4, .int .i64 n.m]]), some (.row 6 [.agg [n.x0, n.x1, n.x2, n.x3, n.x4, .int .i64 n.m]])]) ?_ ?_
  · repeat' first
      | (simp (disch := first | omega | assumption) only [go_sem, ↓reduceIte, simprocAttr, reduceCtorEq, Sl, *])
      | (refine HG_split (fun hb => ?_) (fun hb => ?_))
      | (refine HC_split (fun hb => ?_) (fun hb => ?_))
  rintro t _ ⟨ht, rfl⟩
  simp (disch := omega) only [go_sem, ↓reduceIte, simprocAttr, reduceCtorEq, Sl] at ht
  clear hof
  have hmay := fun H => may_den (E := E) n H
  have hrmay := fun H => refMay_den (E := E) n H
  unfold NF.E at hmay hrmay
  have hbb : (mayB n == mayB n) = true := by simp
  refine Hd_cut2 (fun t H' => Sl t [(1, x), (2, .str s), (3, .ptr 0 6 0 0), (8, .ptr 1 6 0 0)] ∧ H' = [some (.row 6 [.agg [n.x0, n.x1, n.x2, n.x3, n.x4, .int .i64 n.m]]), some (.row 6 [.agg [n.x0, n.x1, n.x2, n.x3, n.x4, .int .i64 n.m]])]) ?_ ?_
  · clear hE1
    repeat' first
      | (simp (disch := first | omega | assumption) only [go_sem, ↓reduceIte, simprocAttr, reduceCtorEq, Sl, Bool.not_true, *])
      | (refine HG_split (fun hb => ?_) (fun hb => ?_))
      | (refine HC_split (fun hb => ?_) (fun hb => ?_))
  rintro t _ ⟨ht, rfl⟩
  simp (disch := omega) only [go_sem, ↓reduceIte, simprocAttr, reduceCtorEq, Sl] at ht
  clear hbb
  cases hm : mayB n with
  | false =>
    rw [hm] at hrmay
    have h1 := fun H => run_no (E := E) n hm s H
    have h2 : ∀ H, den E R.n_nfa_Begin [n.E, .int .u8 97] H = some (.ret .nilsl, H) := fun H => begin_no (E := E) n hm 97 H
    have h3 : ∀ H, den E R.n_nfa_Go [n.E, x, .int .u8 97] H = some (.ret .nilsl, H) := fun H => go_no (E := E) n x l hx (.inl hm) 97 H
    have h4 := fun H => tagP_den (E := E) n x l hx H
    rw [if_neg (fun h => by rw [hm] at h; simp at h)] at h4
    unfold NF.E at h1 h2 h3 h4
    have hfin := fun r => finV_drop (H := []) (G := [some (.row 6 [.agg [n.x0, n.x1, n.x2, n.x3, n.x4, .int .i64 n.m]]), some (.row 6 [.agg [n.x0, n.x1, n.x2, n.x3, n.x4, .int .i64 n.m]])]) (v := .bool true) (K := .ret) (r := r) rfl
    clear hmay hm hE1 c0 c1 c2 c3 c4
    repeat' first
      | (simp (disch := first | omega | assumption) only [go_sem, ↓reduceIte, simprocAttr, reduceCtorEq, *])
      | (refine HG_split (fun hb => ?_) (fun hb => ?_))
      | (refine HC_split (fun hb => ?_) (fun hb => ?_))
    all_goals exact hfin _ rfl
  | true =>
    rw [hm] at hrmay
    have g := mayB_good hm
    let tagOf : List UInt8 → Int := fun s => if s = [] then n.m else tagF n (runL n s)
    let HE : Heap := [some (.row 6 [.agg [n.x0, n.x1, n.x2, n.x3, n.x4, .int .i64 n.m]]), some (.row 6 [.agg [n.x0, n.x1, n.x2, n.x3, n.x4, .int .i64 n.m]])]
    have hrun : ∃ y, den E R.n_nfa_Run [.agg [n.x0, n.x1, n.x2, n.x3, n.x4, .int .i64 n.m], .str s] HE = some (.ret (.tup [y, .int .i64 (tagOf s)]), HE) ∧ IntsV y (runL n s) := by
      by_cases h0 : s = []
      · refine ⟨.nilsl, ?_, by rw [h0]; exact .nil⟩
        have := run_empty (E := E) n hm HE
        simp only [tagOf, if_pos h0]
        rw [h0]; exact this
      · obtain ⟨y, h1, h2⟩ := run_den (E := E) hH n hm (by omega) s (by omega) h0 HE
        refine ⟨y, ?_, h2⟩
        simp only [tagOf, if_neg h0]
        exact h1
    obtain ⟨y, hrun, hy⟩ := hrun
    refine Hd_cut2 (fun t H' => Sl t [(1, x), (2, .str s), (3, .ptr 0 6 0 0), (8, .ptr 1 6 0 0), (9, y), (10, .int .i64 (tagOf s))] ∧ H' = HE) ?_ ?_
    · clear hmay hm hE1 c0 c1 c2 c3 c4
      simp only [HE] at hrun ⊢
      repeat' first
        | (simp (disch := first | omega | assumption) only [go_sem, ↓reduceIte, simprocAttr, reduceCtorEq, Sl, *])
        | (refine HG_split (fun hb => ?_) (fun hb => ?_))
        | (refine HC_split (fun hb => ?_) (fun hb => ?_))
      rfl
    rintro t _ ⟨ht, rfl⟩
    simp (disch := omega) only [go_sem, ↓reduceIte, simprocAttr, reduceCtorEq, Sl] at ht
    clear hrun
    refine Hd_cut2 (fun t H' => Sl t [(1, x), (2, .str s), (3, .ptr 0 6 0 0), (8, .ptr 1 6 0 0), (9, y), (10, .int .i64 (tagOf s))] ∧ H' = HE) ?_ ?_
    · clear hmay hm hE1 c0 c1 c2 c3 c4
      show @Hd E ⟨_⟩ ⟨t⟩ ⟨[some (.row 6 [.agg [n.x0, n.x1, n.x2, n.x3, n.x4, .int .i64 n.m]]), some (.row 6 [.agg [n.x0, n.x1, n.x2, n.x3, n.x4, .int .i64 n.m]])]⟩ ⟨_⟩
      repeat' first
        | (simp (disch := first | omega | assumption) only [go_sem, ↓reduceIte, simprocAttr, reduceCtorEq, Sl, *])
        | (refine HG_split (fun hb => ?_) (fun hb => ?_))
        | (refine HC_split (fun hb => ?_) (fun hb => ?_))
      rfl
    rintro t _ ⟨ht, rfl⟩
    simp (disch := omega) only [go_sem, ↓reduceIte, simprocAttr, reduceCtorEq, Sl] at ht
    clear hrmay
    refine Hd_cut2 (fun t H' => Sl t [(1, x), (2, .str s), (3, .ptr 0 6 0 0), (8, .ptr 1 6 0 0), (9, y), (10, .int .i64 (tagOf s)), (11, .nilsl)] ∧ H' = HE) ?_ ?_
    · simp (disch := omega) only [go_sem, ↓reduceIte, simprocAttr, reduceCtorEq, Sl, ht, and_self]
    rintro t _ ⟨ht, rfl⟩
    simp (disch := omega) only [go_sem, ↓reduceIte, simprocAttr, reduceCtorEq, Sl] at ht
    refine Hd_cut2 (fun t H' => Sl t [(1, x), (2, .str s), (3, .ptr 0 6 0 0), (8, .ptr 1 6 0 0), (9, y), (10, .int .i64 (tagOf s)), (11, .nilsl), (12, .int .i64 n.m)] ∧ H' = HE) ?_ ?_
    · show @Hd E ⟨_⟩ ⟨t⟩ ⟨[some (.row 6 [.agg [n.x0, n.x1, n.x2, n.x3, n.x4, .int .i64 n.m]]), some (.row 6 [.agg [n.x0, n.x1, n.x2, n.x3, n.x4, .int .i64 n.m]])]⟩ ⟨_⟩
      simp (disch := omega) only [go_sem, ↓reduceIte, simprocAttr, reduceCtorEq, Sl, ht, and_self]
      try rfl
    rintro t _ ⟨ht, rfl⟩
    simp (disch := omega) only [go_sem, ↓reduceIte, simprocAttr, reduceCtorEq, Sl] at ht
    -- step by step
    refine Hd_cut2 (fun t H' => (∃ z, IntsV z (runL n s) ∧ Sl t [(1, x), (2, .str s), (3, .ptr 0 6 0 0), (8, .ptr 1 6 0 0), (9, y), (10, .int .i64 (tagOf s)), (11, z), (12, .int .i64 (tagOf s))]) ∧ H' = HE) ?_ ?_
    · simp (disch := omega) only [go_sem, ↓reduceIte, simprocAttr, reduceCtorEq, ht]
      refine while_of (ι := Nat × EV) (fun i => i.1 ≤ s.length ∧ IntsV i.2 (runL n (s.take i.1)) ∧ (i.1 = 0 → i.2 = .nilsl)) (fun i => s.length - i.1) (fun i => [(1, x), (2, .str s), (3, .ptr 0 6 0 0), (8, .ptr 1 6 0 0), (9, y), (10, .int .i64 (tagOf s)), (11, i.2), (12, .int .i64 (tagOf (s.take i.1))), (13, .int .i64 i.1)]) (fun _ => HE) (0, .nilsl) ⟨by omega, .nil, fun _ => rfl⟩ ?_ rfl ?_
      · simp (disch := omega) only [go_sem, ↓reduceIte, simprocAttr, reduceCtorEq, Sl, ht, and_self]
        simp [tagOf]
      · rintro ⟨i, z⟩ t2 ⟨hi, hz, hz0⟩ ht2 K hK
        simp only at hi hz hz0
        simp (disch := omega) only [go_sem, ↓reduceIte, simprocAttr, reduceCtorEq, Sl] at ht2
        show @Hd E ⟨_⟩ ⟨t2⟩ ⟨[some (.row 6 [.agg [n.x0, n.x1, n.x2, n.x3, n.x4, .int .i64 n.m]]), some (.row 6 [.agg [n.x0, n.x1, n.x2, n.x3, n.x4, .int .i64 n.m]])]⟩ ⟨_⟩
        by_cases hlt : i < s.length
        · obtain ⟨b, hb⟩ := get_some hlt
          have htk : s.take (i + 1) ≠ [] := by
            intro h
            have := congrArg List.length h
            rw [List.length_take, List.length_nil] at this
            omega
          have htg : tagOf (s.take (i + 1)) = tagF n (runL n (s.take (i + 1))) := by simp only [tagOf]; rw [if_neg htk]
          by_cases hi0 : i = 0
          · subst hi0
            have hb0 : s[0]? = some b := hb
            obtain rfl := hz0 rfl
            have hr1 : runL n (s.take (0 + 1)) = begL n b.toNat := by
              cases s with
              | nil => simp at hb
              | cons c r => simp at hb; subst hb; rfl
            obtain ⟨yb, hbg, hyb⟩ := begin_den (E := E) hH n hm (by omega) b.toNat b.toNat_lt [some (.row 6 [.agg [n.x0, n.x1, n.x2, n.x3, n.x4, .int .i64 n.m]]), some (.row 6 [.agg [n.x0, n.x1, n.x2, n.x3, n.x4, .int .i64 n.m]])]
            have hst := step0_den (E := E) hR n hm b.toNat b.toNat_lt [some (.row 6 [.agg [n.x0, n.x1, n.x2, n.x3, n.x4, .int .i64 n.m]]), some (.row 6 [.agg [n.x0, n.x1, n.x2, n.x3, n.x4, .int .i64 n.m]])]
            have hsv : IntsV (slE 1 (intsE (begL n b.toNat))) (begL n b.toNat) := ints_slE (by have := List.length_filter_le (hasP n b.toNat) n.first; unfold begL; omega)
            have hin := ints_den (E := E) yb _ _ _ hyb hsv [some (.row 6 [.agg [n.x0, n.x1, n.x2, n.x3, n.x4, .int .i64 n.m]]), some (.row 6 [.agg [n.x0, n.x1, n.x2, n.x3, n.x4, .int .i64 n.m]])]
            rw [decide_eq_true rfl] at hin
            have htagr := refTag_den (E := E) n g _ _ hsv (begL_in g b.toNat) [some (.row 6 [.agg [n.x0, n.x1, n.x2, n.x3, n.x4, .int .i64 n.m]]), some (.row 6 [.agg [n.x0, n.x1, n.x2, n.x3, n.x4, .int .i64 n.m]])]
            unfold NF.E at hbg hst htagr
            have hk := hK (0 + 1, slE 1 (intsE (begL n b.toNat)))
            simp only [htg, hr1] at hk
            have h00 : (((0 : Nat) : Int) == 0) = true := rfl
            have h01 : ((0 : Int) == 0) = true := rfl
            clear hmay hE1 c0 c1 c2 c3 c4 hK htg hm
            repeat' first
              | (simp (disch := first | omega | assumption) only [go_sem, ↓reduceIte, simprocAttr, reduceCtorEq, *])
              | (refine HG_split (fun hb => ?_) (fun hb => ?_))
              | (refine HC_split (fun hb => ?_) (fun hb => ?_))
            all_goals (try simp only [decide_eq_true_eq, decide_eq_false_iff_not, beq_iff_eq, beq_eq_false_iff_ne, bne_iff_ne, bne_eq_false_iff_eq, ne_eq, Bool.not_eq_true', Bool.not_eq_false', Bool.not_eq_true, Bool.not_eq_false, Decidable.not_not, Bool.and_eq_true, Bool.or_eq_true] at *)
            all_goals first | omega | skip
            refine hk _ _ ⟨by omega, hsv, by omega⟩ (by omega) ?_ rfl
            simp (disch := omega) only [go_sem, ↓reduceIte, simprocAttr, reduceCtorEq, Sl, ht2, and_self, cast_succ]
          · have hsn := runL_snoc n (by omega : 1 ≤ i) hb
            have hst := stepN_den (E := E) hR n hm z _ hz (runL_in g _) b.toNat b.toNat_lt [some (.row 6 [.agg [n.x0, n.x1, n.x2, n.x3, n.x4, .int .i64 n.m]]), some (.row 6 [.agg [n.x0, n.x1, n.x2, n.x3, n.x4, .int .i64 n.m]])]
            have hsl : (stepL n (runL n (s.take i)) b.toNat).length ≤ 60 := by
              have := List.length_filter_le (hasP n b.toNat) (listM (markA n (falses n.sets.length) (runL n (s.take i))) 0)
              have h2 := listM_len (markA n (falses n.sets.length) (runL n (s.take i))) 0
              rw [markA_len, show (falses n.sets.length).length = n.sets.length by simp [falses]] at h2
              unfold stepL
              omega
            have hsv : IntsV (slE 1 (intsE (stepL n (runL n (s.take i)) b.toNat))) (stepL n (runL n (s.take i)) b.toNat) := ints_slE (by omega)
            have htagr := refTag_den (E := E) n g _ _ hsv (stepL_in n _ b.toNat) [some (.row 6 [.agg [n.x0, n.x1, n.x2, n.x3, n.x4, .int .i64 n.m]]), some (.row 6 [.agg [n.x0, n.x1, n.x2, n.x3, n.x4, .int .i64 n.m]])]
            unfold NF.E at hst htagr
            have hk := hK (i + 1, slE 1 (intsE (stepL n (runL n (s.take i)) b.toNat)))
            simp only [htg, hsn] at hk
            have h00 : ((i : Int) == 0) = false := by rw [beq_eq_false_iff_ne]; omega
            clear hmay hE1 c0 c1 c2 c3 c4 hK htg hsn hm
            repeat' first
              | (simp (disch := first | omega | assumption) only [go_sem, ↓reduceIte, simprocAttr, reduceCtorEq, *])
              | (refine HG_split (fun hb => ?_) (fun hb => ?_))
              | (refine HC_split (fun hb => ?_) (fun hb => ?_))
            all_goals (try simp only [decide_eq_true_eq, decide_eq_false_iff_not, beq_iff_eq, beq_eq_false_iff_ne, bne_iff_ne, bne_eq_false_iff_eq, ne_eq, Bool.not_eq_true', Bool.not_eq_false', Bool.not_eq_true, Bool.not_eq_false, Decidable.not_not, Bool.and_eq_true, Bool.or_eq_true] at *)
            all_goals first | omega | skip
            refine hk _ _ ⟨by omega, hsv, by omega⟩ (by omega) ?_ rfl
            simp (disch := omega) only [go_sem, ↓reduceIte, simprocAttr, reduceCtorEq, Sl, ht2, and_self, cast_succ]
        · have hie : i = s.length := by omega
          rw [hie, List.take_length] at hz ht2
          clear hmay hE1 c0 c1 c2 c3 c4 hK hm
          repeat' first
            | (simp (disch := first | omega | assumption) only [go_sem, ↓reduceIte, simprocAttr, reduceCtorEq, *])
            | (refine HG_split (fun hb => ?_) (fun hb => ?_))
            | (refine HC_split (fun hb => ?_) (fun hb => ?_))
          all_goals (try simp only [decide_eq_true_eq, decide_eq_false_iff_not, beq_iff_eq, beq_eq_false_iff_ne, bne_iff_ne, bne_eq_false_iff_eq, ne_eq, Bool.not_eq_true', Bool.not_eq_false', Bool.not_eq_true, Bool.not_eq_false, Decidable.not_not, Bool.and_eq_true, Bool.or_eq_true] at *)
          all_goals first | omega | skip
          refine ⟨⟨z, hz, ?_⟩, rfl⟩
          simp (disch := omega) only [go_sem, ↓reduceIte, simprocAttr, reduceCtorEq, Sl, ht2, and_self, cast_succ]
    rintro t _ ⟨⟨z, hz, ht⟩, rfl⟩
    simp (disch := omega) only [go_sem, ↓reduceIte, simprocAttr, reduceCtorEq, Sl] at ht
    show @Hd E ⟨_⟩ ⟨t⟩ ⟨[some (.row 6 [.agg [n.x0, n.x1, n.x2, n.x3, n.x4, .int .i64 n.m]]), some (.row 6 [.agg [n.x0, n.x1, n.x2, n.x3, n.x4, .int .i64 n.m]])]⟩ ⟨_⟩
    have hin := ints_den (E := E) y z _ _ hy hz [some (.row 6 [.agg [n.x0, n.x1, n.x2, n.x3, n.x4, .int .i64 n.m]]), some (.row 6 [.agg [n.x0, n.x1, n.x2, n.x3, n.x4, .int .i64 n.m]])]
    rw [decide_eq_true rfl] at hin
    have hne : (tagOf s != tagOf s) = false := by simp
    have hrs := refRising_den (E := E) n x l hx [some (.row 6 [.agg [n.x0, n.x1, n.x2, n.x3, n.x4, .int .i64 n.m]]), some (.row 6 [.agg [n.x0, n.x1, n.x2, n.x3, n.x4, .int .i64 n.m]])]
    unfold NF.E at hrs
    have hfin := fun r => finV_drop (H := []) (G := [some (.row 6 [.agg [n.x0, n.x1, n.x2, n.x3, n.x4, .int .i64 n.m]]), some (.row 6 [.agg [n.x0, n.x1, n.x2, n.x3, n.x4, .int .i64 n.m]])]) (v := .bool true) (K := .ret) (r := r) rfl
    have h4 := tagP_den (E := E) n x l hx [some (.row 6 [.agg [n.x0, n.x1, n.x2, n.x3, n.x4, .int .i64 n.m]]), some (.row 6 [.agg [n.x0, n.x1, n.x2, n.x3, n.x4, .int .i64 n.m]])]
    cases hri : ris n.sets.length l with
    | false =>
      have h3 : den E R.n_nfa_Go [n.E, x, .int .u8 97] [some (.row 6 [.agg [n.x0, n.x1, n.x2, n.x3, n.x4, .int .i64 n.m]]), some (.row 6 [.agg [n.x0, n.x1, n.x2, n.x3, n.x4, .int .i64 n.m]])] = some (.ret .nilsl, [some (.row 6 [.agg [n.x0, n.x1, n.x2, n.x3, n.x4, .int .i64 n.m]]), some (.row 6 [.agg [n.x0, n.x1, n.x2, n.x3, n.x4, .int .i64 n.m]])]) := go_no (E := E) n x l hx (.inr hri) 97 [some (.row 6 [.agg [n.x0, n.x1, n.x2, n.x3, n.x4, .int .i64 n.m]]), some (.row 6 [.agg [n.x0, n.x1, n.x2, n.x3, n.x4, .int .i64 n.m]])]
      rw [if_neg (fun h => by rw [hri] at h; simp at h)] at h4
      rw [hri] at hrs
      unfold NF.E at h3 h4
      clear hmay hE1 c0 c1 c2 c3 c4 hm hri hsm
      repeat' first
        | (simp (disch := first | omega | assumption) only [go_sem, ↓reduceIte, simprocAttr, reduceCtorEq, *])
        | (refine HG_split (fun hb => ?_) (fun hb => ?_))
        | (refine HC_split (fun hb => ?_) (fun hb => ?_))
      all_goals exact hfin _ rfl
    | true =>
      have hinl := InP.ris (by omega) hri
      obtain ⟨yg, h3, hyg⟩ := go_den (E := E) hH n hm x l hx hri 97 (by omega) [some (.row 6 [.agg [n.x0, n.x1, n.x2, n.x3, n.x4, .int .i64 n.m]]), some (.row 6 [.agg [n.x0, n.x1, n.x2, n.x3, n.x4, .int .i64 n.m]])]
      have hst := stepN_den (E := E) hR n hm x l hx hinl 97 (by omega) [some (.row 6 [.agg [n.x0, n.x1, n.x2, n.x3, n.x4, .int .i64 n.m]]), some (.row 6 [.agg [n.x0, n.x1, n.x2, n.x3, n.x4, .int .i64 n.m]])]
      have hsl : (stepL n l 97).length ≤ 60 := by
        have := List.length_filter_le (hasP n 97) (listM (markA n (falses n.sets.length) l) 0)
        have h2 := listM_len (markA n (falses n.sets.length) l) 0
        rw [markA_len, show (falses n.sets.length).length = n.sets.length by simp [falses]] at h2
        unfold stepL
        omega
      have hsv : IntsV (slE 1 (intsE (stepL n l 97))) (stepL n l 97) := ints_slE (by omega)
      have hi2 := ints_den (E := E) yg _ _ _ hyg hsv [some (.row 6 [.agg [n.x0, n.x1, n.x2, n.x3, n.x4, .int .i64 n.m]]), some (.row 6 [.agg [n.x0, n.x1, n.x2, n.x3, n.x4, .int .i64 n.m]])]
      rw [decide_eq_true rfl] at hi2
      have htr := refTag_den (E := E) n g x l hx hinl [some (.row 6 [.agg [n.x0, n.x1, n.x2, n.x3, n.x4, .int .i64 n.m]]), some (.row 6 [.agg [n.x0, n.x1, n.x2, n.x3, n.x4, .int .i64 n.m]])]
      rw [if_pos ⟨hm, hri⟩] at h4
      rw [hri] at hrs
      unfold NF.E at h3 h4 hst htr
      have h3' : den E R.n_nfa_Go [.agg [n.x0, n.x1, n.x2, n.x3, n.x4, .int .i64 n.m], x, .int .u8 97] [some (.row 6 [.agg [n.x0, n.x1, n.x2, n.x3, n.x4, .int .i64 n.m]]), some (.row 6 [.agg [n.x0, n.x1, n.x2, n.x3, n.x4, .int .i64 n.m]])] = some (.ret yg, [some (.row 6 [.agg [n.x0, n.x1, n.x2, n.x3, n.x4, .int .i64 n.m]]), some (.row 6 [.agg [n.x0, n.x1, n.x2, n.x3, n.x4, .int .i64 n.m]])]) := h3
      have hst' : den E R.n_hackleref08_Step [.agg [n.x0, n.x1, n.x2, n.x3, n.x4, .int .i64 n.m], x, .bool false, .int .u8 97] [some (.row 6 [.agg [n.x0, n.x1, n.x2, n.x3, n.x4, .int .i64 n.m]]), some (.row 6 [.agg [n.x0, n.x1, n.x2, n.x3, n.x4, .int .i64 n.m]])] = some (.ret (slE 1 (intsE (stepL n l 97))), [some (.row 6 [.agg [n.x0, n.x1, n.x2, n.x3, n.x4, .int .i64 n.m]]), some (.row 6 [.agg [n.x0, n.x1, n.x2, n.x3, n.x4, .int .i64 n.m]])]) := hst
      have htt : (tagF n l == tagF n l) = true := by simp
      clear hmay hE1 c0 c1 c2 c3 c4 hm hri hsm h3 hst
      repeat' first
        | (simp (disch := first | omega | assumption) only [go_sem, ↓reduceIte, simprocAttr, reduceCtorEq, *])
        | (refine HG_split (fun hb => ?_) (fun hb => ?_))
        | (refine HC_split (fun hb => ?_) (fun hb => ?_))
      all_goals exact hfin _ rfl
end
end Abs
