/- Quoted texts, read by the document and by the program: the texts. -/
import Derived.Test.YtbilmalnlkileaaDyC
import Derived.Test.YtbilmalnlkileaaCqB
set_option linter.all false

namespace Abs
open Go
set_option linter.all false
set_option maxRecDepth 20000
section
variable {E : Env} [R : RefQ E]

theorem must13_no (S : List UInt8) (P : Nat) (A : Int) (G : Heap) (hS : S.length ≤ 900000) (hb : ∀ b, S[P]? = some b → b.toNat ≠ 34) (hG : okB (G.length + 1) (RD S P P 2 :: G) = true) :
    den E R.n_hackleref13_Reader_must [.ptr 0 4 0 0, .str [34]] (RD S P A 0 :: G) = some (.ret (.tup []), RD S P P 2 :: G) := by
  have hnf := fail13_den R.d_hackleref13_Reader_Fail S P A P 2 G hG
  have hna : A = A → den E R.n_hackleref13_Reader_Fail [.ptr 0 4 0 0, .int .i64 P, .int .i64 2] (RD S P P 2 :: G) = some (.ret (.tup []), RD S P P 2 :: G) := fun _ => fail13_again R.d_hackleref13_Reader_Fail S P P 2 P 2 G (by decide)
  replace hna := hna rfl
  by_cases hz : ∀ b, S[P]? = some b → ¬ okQ b
  · have hbz := byte13_zero R.d_hackleref13_Reader_byte R.d_hackleref13_Reader_Fail S P P A rfl G hz hG
    refine den_of R.d_hackleref13_Reader_must (by simp) ?_
    unfold Gn.hackleref13_Reader_must Gn.hackleref13_Reader_must_r
    unfold RD at hbz hnf hna hG ⊢
    rcases hbz with hbz | hbz
    · simp (disch := omega) only [go_sem, ↓reduceIte, simprocAttr, reduceCtorEq]
      refine Hd_loop ?_
      repeat' first
        | (simp (disch := first | omega | assumption) only [go_sem, ↓reduceIte, simprocAttr, reduceCtorEq, *])
        | (refine HG_split (fun hb => ?_) (fun hb => ?_))
        | (refine HC_split (fun hb => ?_) (fun hb => ?_))
      exact finV_cons rfl hG rfl
    · simp (disch := omega) only [go_sem, ↓reduceIte, simprocAttr, reduceCtorEq]
      refine Hd_loop ?_
      repeat' first
        | (simp (disch := first | omega | assumption) only [go_sem, ↓reduceIte, simprocAttr, reduceCtorEq, *])
        | (refine HG_split (fun hb => ?_) (fun hb => ?_))
        | (refine HC_split (fun hb => ?_) (fun hb => ?_))
      exact finV_cons rfl hG rfl
  · obtain ⟨c, hc, hcok⟩ : ∃ c, S[P]? = some c ∧ okQ c := by
      cases hc : S[P]? with
      | none => exact absurd (fun b hb => by rw [hc] at hb; simp at hb) hz
      | some c =>
        refine ⟨c, rfl, ?_⟩
        apply Classical.byContradiction
        intro h
        exact hz fun b hb => by rw [hc] at hb; obtain rfl := Option.some.inj hb; exact h
    have hbc := byte13_at R.d_hackleref13_Reader_byte S P P A rfl G c hc hcok hS
    have h34 := hb c hc
    refine den_of R.d_hackleref13_Reader_must (by simp) ?_
    unfold Gn.hackleref13_Reader_must Gn.hackleref13_Reader_must_r
    unfold RD at hbc hnf hna hG ⊢
    simp (disch := omega) only [go_sem, ↓reduceIte, simprocAttr, reduceCtorEq]
    refine Hd_loop ?_
    repeat' first
      | (simp (disch := first | omega | assumption) only [go_sem, ↓reduceIte, simprocAttr, reduceCtorEq, *])
      | (refine HG_split (fun hb => ?_) (fun hb => ?_))
      | (refine HC_split (fun hb => ?_) (fun hb => ?_))
    all_goals (try simp only [decide_eq_true_eq, decide_eq_false_iff_not, beq_iff_eq, beq_eq_false_iff_ne, bne_iff_ne, bne_eq_false_iff_eq, ne_eq, Bool.not_eq_true', Bool.not_eq_false', Bool.not_eq_true, Bool.not_eq_false, Decidable.not_not, Bool.and_eq_true, Bool.or_eq_true] at *)
    all_goals first | omega | exact finV_cons rfl hG rfl

theorem quoted13_no (S : List UInt8) (hS : S.length ≤ 900000) (hb : ∀ b, S[0]? = some b → b.toNat ≠ 34) : den E R.n_hackleref13_Reader_Quoted [.ptr 0 4 0 0] [RD S 0 0 0] = some (.ret (.str []), [RD S 0 0 2]) := by
  have hm : den E R.n_hackleref13_Reader_must [.ptr 0 4 0 0, .str [34]] [RD S 0 0 0] = some (.ret (.tup []), [RD S 0 0 2]) := must13_no S 0 0 [] hS hb rfl
  have hm2 : den E R.n_hackleref13_Reader_must [.ptr 0 4 0 0, .str [34]] [RD S 0 0 2] = some (.ret (.tup []), [RD S 0 0 2]) := must13_err R.d_hackleref13_Reader_must S 0 0 2 [] (by decide)
  refine den_of R.d_hackleref13_Reader_Quoted (by simp) ?_
  unfold Gn.hackleref13_Reader_Quoted Gn.hackleref13_Reader_Quoted_r
  unfold RD at hm hm2 ⊢
  have hts : evToStr .nilsl [some (EB.row 4 [EV.agg [EV.str S, EV.int IntKind.i64 0, EV.int IntKind.i64 0, EV.int IntKind.i64 2]])] = some (.str []) := rfl
  simp (disch := omega) only [go_sem, ↓reduceIte, simprocAttr, reduceCtorEq, hm]
  refine Hd_loop ?_
  repeat' first
    | (simp (disch := first | omega | assumption) only [go_sem, ↓reduceIte, simprocAttr, reduceCtorEq, *])
    | (refine HG_split (fun hb => ?_) (fun hb => ?_))
    | (refine HC_split (fun hb => ?_) (fun hb => ?_))
  exact finV_cons (G := []) (v := .str []) rfl (okB_out (out := []) (.inl ⟨rfl, rfl, rfl⟩) S 0 0 2 _) rfl

/-- What is told of a quoted text. -/
def tellQ : QR → EV
  | .ok out p => .tup [.str out, .int .i64 p, .int .i64 0]
  | .er p => .tup [.str [], .int .i64 p, .int .i64 2]

theorem quoted13_all (S : List UInt8) (hS : S.length ≤ 900000) : den E R.n_hackleref13_Reader_Quoted [.ptr 0 4 0 0] [RD S 0 0 0] = some (resQ S (qText S)) := by
  cases hb : S[0]? with
  | none =>
    have : S = [] := by simpa using hb
    subst this
    exact quoted13_no [] (by simp) (by simp)
  | some b =>
    obtain ⟨r, rfl⟩ : ∃ r, S = b :: r := by
      cases S with
      | nil => simp at hb
      | cons x r => simp at hb; exact ⟨r, by rw [hb]⟩
    by_cases h34 : b.toNat = 34
    · rw [quoted13_den R.d_hackleref13_Reader_Quoted R.d_hackleref13_Reader_must R.d_hackleref13_Reader_byte R.d_hackleref13_Reader_Fail R.d_hackleref03_Digit _ hS b hb h34]
      simp only [qText, if_pos h34]
    · rw [quoted13_no _ hS (fun c hc => by rw [hb] at hc; obtain rfl := Option.some.inj hc; exact h34)]
      simp only [qText, if_neg h34]; rfl

theorem text13_den (S : List UInt8) (hS : S.length ≤ 900000) : den E R.n_hackleref13_Text [.str S] [] = some (.ret (tellQ (qText S)), []) := by
  have hq := quoted13_all (E := E) S hS
  refine den_of R.d_hackleref13_Text (by simp) ?_
  unfold Gn.hackleref13_Text Gn.hackleref13_Text_r
  cases hr : qText S with
  | ok out p =>
    rw [hr] at hq
    unfold resQ RD at hq
    unfold tellQ
    repeat' first
      | (simp (disch := first | omega | assumption) only [go_sem, ↓reduceIte, simprocAttr, reduceCtorEq, *])
      | (refine HG_split (fun hb => ?_) (fun hb => ?_))
      | (refine HC_split (fun hb => ?_) (fun hb => ?_))
    exact finV_drop (H := []) rfl rfl
  | er p =>
    rw [hr] at hq
    unfold resQ RD at hq
    unfold tellQ
    repeat' first
      | (simp (disch := first | omega | assumption) only [go_sem, ↓reduceIte, simprocAttr, reduceCtorEq, *])
      | (refine HG_split (fun hb => ?_) (fun hb => ?_))
      | (refine HC_split (fun hb => ?_) (fun hb => ?_))
    exact finV_drop (H := []) rfl rfl
end
end Abs
