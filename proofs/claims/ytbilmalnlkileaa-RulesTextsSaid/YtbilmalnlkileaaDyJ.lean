/- Quoted texts: the law. -/
import Derived.Test.YtbilmalnlkileaaDyI
set_option linter.all false

namespace Abs
open Go
set_option linter.all false
set_option maxRecDepth 20000
section
variable {E : Env} [R : RulQ E]

theorem text_den (S : List UInt8) (hS : S.length ≤ 900000) : den E R.n_rules_Text [.str S] [] = some (.ret (tellQ (qText S)), []) := by
  have hq := quoted_den (E := E) S hS
  refine den_of R.d_rules_Text (by simp) ?_
  unfold Gn.rules_Text Gn.rules_Text_r
  cases hr : qText S with
  | ok out p =>
    rw [hr] at hq
    unfold tellQ at hq ⊢
    repeat' first
      | (simp (disch := first | omega | assumption) only [go_sem, ↓reduceIte, simprocAttr, reduceCtorEq, *])
      | (refine HG_split (fun hb => ?_) (fun hb => ?_))
      | (refine HC_split (fun hb => ?_) (fun hb => ?_))
    exact finV_same rfl rfl
  | er p =>
    rw [hr] at hq
    unfold tellQ at hq ⊢
    repeat' first
      | (simp (disch := first | omega | assumption) only [go_sem, ↓reduceIte, simprocAttr, reduceCtorEq, *])
      | (refine HG_split (fun hb => ?_) (fun hb => ?_))
      | (refine HC_split (fun hb => ?_) (fun hb => ?_))
    exact finV_same rfl rfl

theorem rulesTexts_den (ha : den E R.n_hacklelaw13_alive [] [] = some (.ret (.bool true), [])) (S : List UInt8) (hS : S.length ≤ 9223372036854775807) : den E R.n_hacklelaw13_RulesTexts [.str S] [] = some (.ret (.bool true), []) := by
  refine den_of R.d_hacklelaw13_RulesTexts (by simp) ?_
  unfold Gn.hacklelaw13_RulesTexts Gn.hacklelaw13_RulesTexts_r
  by_cases hl : S.length ≤ 2000
  · have h1 := text_den (E := E) S (by omega)
    have h2 := text13_den (E := E) S (by omega)
    cases hr : qText S with
    | ok out p =>
      rw [hr] at h1 h2
      unfold tellQ at h1 h2
      repeat' first
        | (simp (disch := first | omega | assumption) only [go_sem, ↓reduceIte, simprocAttr, reduceCtorEq, *])
        | (refine HG_split (fun hb => ?_) (fun hb => ?_))
        | (refine HC_split (fun hb => ?_) (fun hb => ?_))
      all_goals (try simp only [decide_eq_true_eq, decide_eq_false_iff_not, beq_iff_eq, beq_eq_false_iff_ne, bne_iff_ne, bne_eq_false_iff_eq, ne_eq, Bool.not_eq_true', Bool.not_eq_false', Bool.not_eq_true, Bool.not_eq_false, Decidable.not_not, Bool.and_eq_true, Bool.or_eq_true] at *)
      all_goals first | omega | exact finV_same rfl rfl | skip
      all_goals simp_all
      all_goals exact finV_same rfl rfl
    | er p =>
      rw [hr] at h1 h2
      unfold tellQ at h1 h2
      repeat' first
        | (simp (disch := first | omega | assumption) only [go_sem, ↓reduceIte, simprocAttr, reduceCtorEq, *])
        | (refine HG_split (fun hb => ?_) (fun hb => ?_))
        | (refine HC_split (fun hb => ?_) (fun hb => ?_))
      all_goals (try simp only [decide_eq_true_eq, decide_eq_false_iff_not, beq_iff_eq, beq_eq_false_iff_ne, bne_iff_ne, bne_eq_false_iff_eq, ne_eq, Bool.not_eq_true', Bool.not_eq_false', Bool.not_eq_true, Bool.not_eq_false, Decidable.not_not, Bool.and_eq_true, Bool.or_eq_true] at *)
      all_goals first | omega | exact finV_same rfl rfl | skip
      all_goals simp_all
      all_goals exact finV_same rfl rfl
  · repeat' first
      | (simp (disch := first | omega | assumption) only [go_sem, ↓reduceIte, simprocAttr, reduceCtorEq, *])
      | (refine HG_split (fun hb => ?_) (fun hb => ?_))
      | (refine HC_split (fun hb => ?_) (fun hb => ?_))
    all_goals (try simp only [decide_eq_true_eq, decide_eq_false_iff_not, beq_iff_eq, beq_eq_false_iff_ne, bne_iff_ne, bne_eq_false_iff_eq, ne_eq, Bool.not_eq_true', Bool.not_eq_false', Bool.not_eq_true, Bool.not_eq_false, Decidable.not_not, Bool.and_eq_true, Bool.or_eq_true] at *)
    all_goals first | omega | exact finV_same rfl rfl
end
end Abs
