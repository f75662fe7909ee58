/- Quoted texts: the program's and the document's are one. -/
import Derived.Test.YtbilmalnlkileaaDyH
set_option linter.all false

namespace Abs
open Go
set_option linter.all false
set_option maxRecDepth 20000

theorem okB_fin {x : EV} {out : List UInt8} {G : Heap} (h : OutIs x out G) (S : List UInt8) (P p e : Int) (n : Nat) : okB n (Zc p :: Zc e :: RR S P :: G) = true := by
  have all : (Zc p :: Zc e :: RR S P :: G).all (fun x => match x with | some y => y.ok n | none => true) = true := by
    rcases h with ⟨rfl, rfl, rfl⟩ | ⟨k, rfl, rfl⟩
    · simp [Zc, RR, EB.ok, okL, EV.ok]
    · simp [Zc, RR, EB.ok, okL, EV.ok, okL_u8s]
  unfold okB
  exact List.all_eq_true.2 fun y hy => List.all_eq_true.1 all y (List.mem_of_mem_take hy)

section
variable {E : Env} [R : RulQ E]

set_option maxHeartbeats 4000000 in
theorem quoted_den (S : List UInt8) (hS : S.length ≤ 900000) : den E R.n_rules_quoted [.str S] [] = some (.ret (tellQ (qText S)), []) := by
  have fl : OutIs .nilsl [] [] := .inl ⟨rfl, rfl, rfl⟩
  refine den_ofE R.d_rules_quoted (by simp) ?_
  unfold Gn.rules_quoted
  refine HE_pre ?_
  simp (disch := omega) only [go_sem, ↓reduceIte, simprocAttr, reduceCtorEq]
  refine HE_dfr ?_
  simp (disch := omega) only [go_sem, ↓reduceIte, simprocAttr, reduceCtorEq]
  refine ⟨_, _, _, rfl, ?_⟩
  by_cases hno : ∀ b, S[0]? = some b → b.toNat ≠ 34
  · have hm := rmust_no (E := E) S hno hS
    have hend : qText S = .er 0 := by
      unfold qText
      cases S with
      | nil => rfl
      | cons b r => simp only; rw [if_neg (hno b rfl)]
    have hq := fun s h2 h3 h4 => finQ_pan (E := E) S 0 0 [] (okB_fin fl S 0 0 2 _) s h2 h3 h4
    rw [hend]
    unfold HH RR Zc at hm hq
    unfold tellQ
    repeat' first
      | (simp (disch := first | omega | assumption) only [go_sem, ↓reduceIte, simprocAttr, reduceCtorEq, *])
      | (refine HG_split (fun hb => ?_) (fun hb => ?_))
      | (refine HC_split (fun hb => ?_) (fun hb => ?_))
    exact hq _ rfl rfl rfl
  · obtain ⟨b, hb, h34⟩ : ∃ b, S[0]? = some b ∧ b.toNat = 34 := by
      cases hb : S[0]? with
      | none => exact absurd (fun b h => by rw [hb] at h; simp at h) hno
      | some b =>
        refine ⟨b, rfl, ?_⟩
        apply Classical.byContradiction
        intro h
        exact hno fun c hc => by rw [hb] at hc; obtain rfl := Option.some.inj hc; exact h
    have hm := rmust_quote (E := E) S b hb h34 hS
    have hq0 : qText S = qAt S 1 [] := by
      unfold qText
      cases S with
      | nil => simp at hb
      | cons c r => simp at hb; subst hb; simp only; rw [if_pos h34]
    have hl0 : 0 < S.length := (List.getElem?_eq_some_iff.1 hb).1
    rw [hq0]
    unfold HH RR Zc at hm
    simp (disch := omega) only [go_sem, ↓reduceIte, simprocAttr, reduceCtorEq, hm]
    refine while_of (ι := Nat × List UInt8 × EV × Heap) (fun i => OutAt 3 i.2.2.1 i.2.1 i.2.2.2 ∧ 1 ≤ i.1 ∧ i.1 ≤ S.length ∧ i.2.1.length ≤ i.1 ∧ qAt S i.1 i.2.1 = qAt S 1 []) (fun i => S.length - i.1) (fun i => [(2, .str []), (3, .ptr 0 1 0 0), (4, .ptr 1 1 0 0), (5, .ptr 2 5 0 0), (6, i.2.2.1)]) (fun i => HH S i.1 i.2.2.2) (1, [], .nilsl, []) ⟨.inl ⟨rfl, rfl, rfl⟩, by omega, by simp only; omega, by simp, rfl⟩ ?_ rfl ?_
    · simp (disch := omega) only [go_sem, ↓reduceIte, simprocAttr, reduceCtorEq, Sl]
    · rintro ⟨p, out, x, G⟩ t ⟨ho, h1, h2, h3, hq⟩ ht K hK
      simp only at ho h1 h2 h3 hq
      simp (disch := omega) only [go_sem, ↓reduceIte, simprocAttr, reduceCtorEq, Sl] at ht
      obtain ⟨ht2, ht3, ht4, ht5, ht6, _⟩ := ht
      obtain ⟨x0, ho'⟩ := ho.is
      have pan := fun (P p : Int) s h2 h3 h4 => finQ_pan (E := E) S P p G (okB_fin ho' S P p 2 _) s h2 h3 h4
      have hfl := fun (n : Int) H => rfail_den (E := E) n H
      have hp1 : (p : Int) + 1 = ((p + 1 : Nat) : Int) := rfl
      by_cases hq34 : ∃ c, S[p]? = some c ∧ c.toNat = 34
      · obtain ⟨c, hc, c34⟩ := hq34
        have hend : qAt S 1 [] = .ok out (p + 1) := by rw [← hq]; exact qAt_quote hc c34
        rw [hend]
        have htk := rtake_yes (E := E) S p G c hc c34 hS (okB_HH ho' S _ _)
        have hts := ho.toStr [some (EB.row 1 [EV.int IntKind.i64 0]), some (EB.row 1 [EV.int IntKind.i64 0]), some (EB.row 5 [EV.agg [EV.str S, EV.int IntKind.i64 ((p + 1 : Nat) : Int), EV.nilsl, EV.nilsl, EV.nilsl]])] rfl
        simp only [List.cons_append, List.nil_append] at hts
        clear hq hK hm hfl pan
        unfold HH RR Zc at htk ⊢
        repeat' first
          | (simp (disch := first | omega | assumption) only [go_sem, ↓reduceIte, simprocAttr, reduceCtorEq, *])
          | (refine HG_split (fun hb => ?_) (fun hb => ?_))
          | (refine HC_split (fun hb => ?_) (fun hb => ?_))
        refine caught_none S ((p + 1 : Nat) : Int) ((p + 1 : Nat) : Int) 0 G _ ?_
        unfold Gn.rules_quoted_r Zc tellQ
        repeat' first
          | (simp (disch := first | omega | assumption) only [go_sem, ↓reduceIte, simprocAttr, reduceCtorEq, *])
          | (refine HG_split (fun hb => ?_) (fun hb => ?_))
          | (refine HC_split (fun hb => ?_) (fun hb => ?_))
        exact finV_drop (H := []) rfl rfl
      · have hn34 : ∀ b, S[p]? = some b → b.toNat ≠ 34 := fun b hb h => hq34 ⟨b, hb, h⟩
        have htk := rtake_no (E := E) S p G hn34 hS h2
        by_cases hz : ∀ b, S[p]? = some b → ¬ okQ b
        · have hend : qAt S 1 [] = .er p := by
            rw [← hq]
            cases hc : S[p]? with
            | none => exact qAt_none hc
            | some c => exact qAt_bad hc (hz c hc)
          rw [hend]
          have pp := pan p p
          clear hq hK hm pan
          unfold tellQ
          rcases not_ok hz with h | ⟨c, hc, hcb, h10⟩
          · have hn := rnext_end (E := E) S p G h hS h2
            unfold HH RR Zc at htk hn pp ⊢
            repeat' first
              | (simp (disch := first | omega | assumption) only [go_sem, ↓reduceIte, simprocAttr, reduceCtorEq, *])
              | (refine HG_split (fun hb => ?_) (fun hb => ?_))
              | (refine HC_split (fun hb => ?_) (fun hb => ?_))
            exact pp _ ht2 ht3 ht4
          · have hn := rnext_bad (E := E) S p G c hc hcb h10 hS
            unfold HH RR Zc at htk hn pp ⊢
            repeat' first
              | (simp (disch := first | omega | assumption) only [go_sem, ↓reduceIte, simprocAttr, reduceCtorEq, *])
              | (refine HG_split (fun hb => ?_) (fun hb => ?_))
              | (refine HC_split (fun hb => ?_) (fun hb => ?_))
            exact pp _ ht2 ht3 ht4
        · obtain ⟨c, hc, hcok⟩ := is_ok hz
          have hpl : p < S.length := (List.getElem?_eq_some_iff.1 hc).1
          have hn := rnext_ok (E := E) S p G c hc hcok hS
          have c34 := hn34 c hc
          have ok1 := hcok.1
          have ok2 := hcok.2
          by_cases c92 : c.toNat = 92
          · rw [c92] at hn
            simp only [Int.cast_ofNat_Int] at hn
            by_cases hz1 : ∀ b, S[p + 1]? = some b → ¬ okQ b
            · have hend : qAt S 1 [] = .er (p + 1) := by
                rw [← hq]
                cases he : S[p + 1]? with
                | none => exact qAt_esc0 hc c92 he
                | some e =>
                  have := hz1 e he
                  exact qAt_escbad hc c92 he (by
                    unfold escB
                    rw [if_neg, if_neg, if_neg, if_neg, if_neg] <;> (intro h; apply this; unfold okQ; omega)) (by intro h; apply this; unfold okQ; omega)
              rw [hend]
              have he := esc_bad0 (E := E) S (p + 1) ho' hS (by omega) hz1
              have pp := pan ((p + 1 : Nat) : Int) ((p + 1 : Nat) : Int)
              clear hq hK hm pan
              unfold tellQ
              unfold HH RR Zc at htk hn pp he ⊢
              repeat' first
                | (simp (disch := first | omega | assumption) only [go_sem, ↓reduceIte, simprocAttr, reduceCtorEq, *])
                | (refine HG_split (fun hb => ?_) (fun hb => ?_))
                | (refine HC_split (fun hb => ?_) (fun hb => ?_))
              exact pp _ ht2 ht3 ht4
            · obtain ⟨e, he, heok⟩ := is_ok hz1
              have hpl1 : p + 1 < S.length := (List.getElem?_eq_some_iff.1 he).1
              by_cases e120 : e.toNat = 120
              · have hes := esc_x (E := E) S (p + 1) ho' hS e he e120
                cases hxx : hexAt S (p + 1 + 1) with
                | er k =>
                  rw [hxx] at hes
                  simp only at hes
                  have hend : qAt S 1 [] = .er (p + 1 + 1 + k) := by
                    rw [← hq]
                    unfold hexAt at hxx
                    cases h1 : (S[p + 2]?).bind hexV with
                    | none =>
                      rw [show p + 1 + 1 = p + 2 from rfl, h1] at hxx
                      simp only [HexR.er.injEq] at hxx
                      subst hxx
                      cases hh : S[p + 2]? with
                      | none => exact qAt_x0 hc c92 he e120 hh
                      | some h => rw [hh] at h1; exact qAt_x0bad hc c92 he e120 hh h1
                    | some hv =>
                      rw [show p + 1 + 1 = p + 2 from rfl, h1] at hxx
                      simp only at hxx
                      obtain ⟨h, hh, hhv⟩ : ∃ c, S[p + 2]? = some c ∧ hexV c = some hv := by simpa [Option.bind_eq_some_iff] using h1
                      cases h2 : (S[p + 3]?).bind hexV with
                      | none =>
                        rw [show p + 2 + 1 = p + 3 from rfl, h2] at hxx
                        simp only [HexR.er.injEq] at hxx
                        subst hxx
                        cases hl : S[p + 3]? with
                        | none => exact qAt_x1 hc c92 he e120 hh hhv hl
                        | some l => rw [hl] at h2; exact qAt_x1bad hc c92 he e120 hh hhv hl h2
                      | some lv =>
                        rw [show p + 2 + 1 = p + 3 from rfl, h2] at hxx
                        simp at hxx
                  rw [hend]
                  have pp := pan ((p + 1 + 1 + k : Nat) : Int) ((p + 1 + 1 + k : Nat) : Int)
                  clear hq hK hm pan
                  unfold tellQ
                  unfold HH RR Zc at htk hn pp hes ⊢
                  repeat' first
                    | (simp (disch := first | omega | assumption) only [go_sem, ↓reduceIte, simprocAttr, reduceCtorEq, *])
                    | (refine HG_split (fun hb => ?_) (fun hb => ?_))
                    | (refine HC_split (fun hb => ?_) (fun hb => ?_))
                  exact pp _ ht2 ht3 ht4
                | ok v =>
                  rw [hxx] at hes
                  simp only at hes
                  have hgo : qAt S (p + 4) (out ++ [v]) = qAt S 1 [] ∧ p + 4 ≤ S.length := by
                    rw [← hq]
                    unfold hexAt at hxx
                    cases h1 : (S[p + 2]?).bind hexV with
                    | none =>
                      rw [show p + 1 + 1 = p + 2 from rfl, h1] at hxx
                      simp at hxx
                    | some hv =>
                      rw [show p + 1 + 1 = p + 2 from rfl, h1] at hxx
                      simp only at hxx
                      obtain ⟨h, hh, hhv⟩ : ∃ c, S[p + 2]? = some c ∧ hexV c = some hv := by simpa [Option.bind_eq_some_iff] using h1
                      cases h2 : (S[p + 3]?).bind hexV with
                      | none =>
                        rw [show p + 2 + 1 = p + 3 from rfl, h2] at hxx
                        simp at hxx
                      | some lv =>
                        rw [show p + 2 + 1 = p + 3 from rfl, h2] at hxx
                        simp only [HexR.ok.injEq] at hxx
                        obtain ⟨l, hl, hlv⟩ : ∃ c, S[p + 3]? = some c ∧ hexV c = some lv := by simpa [Option.bind_eq_some_iff] using h2
                        rw [← hxx]
                        exact ⟨(qAt_x hc c92 he e120 hh hhv hl hlv).symm, (List.getElem?_eq_some_iff.1 hl).1⟩
                  obtain ⟨x', G', hap, ho2⟩ := ho.append v [some (EB.row 1 [EV.int IntKind.i64 0]), some (EB.row 1 [EV.int IntKind.i64 0]), some (EB.row 5 [EV.agg [EV.str S, EV.int IntKind.i64 ((p + 1 + 3 : Nat) : Int), EV.nilsl, EV.nilsl, EV.nilsl]])] rfl (by omega)
                  simp only [List.cons_append, List.nil_append] at hap
                  have hk := hK (p + 1 + 3, out ++ [v], x', G')
                  clear hq hK hm pan hfl hz hz1
                  unfold HH RR Zc at htk hn hk hes ⊢
                  repeat' first
                    | (simp (disch := first | omega | assumption) only [go_sem, ↓reduceIte, simprocAttr, reduceCtorEq, *])
                    | (refine HG_split (fun hb => ?_) (fun hb => ?_))
                    | (refine HC_split (fun hb => ?_) (fun hb => ?_))
                  refine hk _ _ ⟨ho2, by omega, hgo.2, by simp; omega, hgo.1⟩ (by omega) ?_ rfl
                  simp (disch := omega) only [go_sem, ↓reduceIte, simprocAttr, reduceCtorEq, Sl, ht2, ht3, ht4, ht5, and_self]
              · cases hv : escB e with
                | none =>
                  have hend : qAt S 1 [] = .er (p + 1) := by rw [← hq]; exact qAt_escbad hc c92 he hv e120
                  rw [hend]
                  have hes := esc_bad1 (E := E) S (p + 1) ho' hS e he heok hv e120
                  have pp := pan ((p + 1 : Nat) : Int) ((p + 1 : Nat) : Int)
                  clear hq hK hm pan
                  unfold tellQ
                  unfold HH RR Zc at htk hn pp hes ⊢
                  repeat' first
                    | (simp (disch := first | omega | assumption) only [go_sem, ↓reduceIte, simprocAttr, reduceCtorEq, *])
                    | (refine HG_split (fun hb => ?_) (fun hb => ?_))
                    | (refine HC_split (fun hb => ?_) (fun hb => ?_))
                  exact pp _ ht2 ht3 ht4
                | some v =>
                  have hgo : qAt S (p + 2) (out ++ [v]) = qAt S 1 [] := by rw [← hq]; exact (qAt_esc hc c92 he hv).symm
                  have hes := esc_one (E := E) S (p + 1) ho' hS e v he heok hv
                  obtain ⟨x', G', hap, ho2⟩ := ho.append v [some (EB.row 1 [EV.int IntKind.i64 0]), some (EB.row 1 [EV.int IntKind.i64 0]), some (EB.row 5 [EV.agg [EV.str S, EV.int IntKind.i64 ((p + 1 + 1 : Nat) : Int), EV.nilsl, EV.nilsl, EV.nilsl]])] rfl (by omega)
                  simp only [List.cons_append, List.nil_append] at hap
                  have hk := hK (p + 1 + 1, out ++ [v], x', G')
                  clear hq hK hm pan hfl hz hz1
                  unfold HH RR Zc at htk hn hk hes ⊢
                  repeat' first
                    | (simp (disch := first | omega | assumption) only [go_sem, ↓reduceIte, simprocAttr, reduceCtorEq, *])
                    | (refine HG_split (fun hb => ?_) (fun hb => ?_))
                    | (refine HC_split (fun hb => ?_) (fun hb => ?_))
                  refine hk _ _ ⟨ho2, by omega, by omega, by simp; omega, hgo⟩ (by omega) ?_ rfl
                  simp (disch := omega) only [go_sem, ↓reduceIte, simprocAttr, reduceCtorEq, Sl, ht2, ht3, ht4, ht5, and_self]
          · have hgo : qAt S (p + 1) (out ++ [c]) = qAt S 1 [] := by rw [← hq]; exact (qAt_plain hc c34 c92 hcok.1 hcok.2).symm
            obtain ⟨x', G', hap, ho2⟩ := ho.append c [some (EB.row 1 [EV.int IntKind.i64 0]), some (EB.row 1 [EV.int IntKind.i64 0]), some (EB.row 5 [EV.agg [EV.str S, EV.int IntKind.i64 p, EV.nilsl, EV.nilsl, EV.nilsl]])] rfl (by omega)
            simp only [List.cons_append, List.nil_append] at hap
            have hk := hK (p + 1, out ++ [c], x', G')
            clear hq hK hm pan hfl hz
            unfold HH RR Zc at htk hn hk ⊢
            repeat' first
              | (simp (disch := first | omega | assumption) only [go_sem, ↓reduceIte, simprocAttr, reduceCtorEq, *])
              | (refine HG_split (fun hb => ?_) (fun hb => ?_))
              | (refine HC_split (fun hb => ?_) (fun hb => ?_))
            all_goals (try simp only [decide_eq_true_eq, decide_eq_false_iff_not, beq_iff_eq, beq_eq_false_iff_ne, bne_iff_ne, bne_eq_false_iff_eq, ne_eq, Bool.not_eq_true', Bool.not_eq_false', Bool.not_eq_true, Bool.not_eq_false, Decidable.not_not, Bool.and_eq_true, Bool.or_eq_true] at *)
            all_goals first | omega | skip
            refine hk _ _ ⟨ho2, by omega, by omega, by simp; omega, hgo⟩ (by omega) ?_ rfl
            simp (disch := omega) only [go_sem, ↓reduceIte, simprocAttr, reduceCtorEq, Sl, ht2, ht3, ht4, ht5, and_self]
end
end Abs
