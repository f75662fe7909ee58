/- Quoted texts, read by the document: the loop. -/
import Derived.Test.YtbilmalnlkileaaDyB
set_option linter.all false

namespace Abs
open Go
set_option linter.all false
set_option maxRecDepth 20000
section
variable {E : Env}

/-- A byte that may stand somewhere. -/
def okQ (b : UInt8) : Prop := 32 ≤ b.toNat ∧ b.toNat ≤ 126

theorem fail13_again {f : FuncId} (hT : Def E f Gn.hackleref13_Reader_Fail Gn.hackleref13_Reader_Fail_r 19) (S : List UInt8) (P A e0 p e : Int) (G : Heap) (he : e0 ≠ 0) :
    den E f [.ptr 0 4 0 0, .int .i64 p, .int .i64 e] (RD S P A e0 :: G) = some (.ret (.tup []), RD S P A e0 :: G) := by
  refine den_of hT (by simp) ?_
  unfold Gn.hackleref13_Reader_Fail Gn.hackleref13_Reader_Fail_r RD
  repeat' first
    | (simp (disch := first | omega | assumption) only [go_sem, ↓reduceIte, simprocAttr, reduceCtorEq, *])
    | (refine HG_split (fun hb => ?_) (fun hb => ?_))
    | (refine HC_split (fun hb => ?_) (fun hb => ?_))
  all_goals (try simp only [decide_eq_true_eq, decide_eq_false_iff_not, beq_iff_eq, beq_eq_false_iff_ne, bne_iff_ne, bne_eq_false_iff_eq, ne_eq, Bool.not_eq_true', Bool.not_eq_false', Bool.not_eq_true, Bool.not_eq_false, Decidable.not_not, Bool.and_eq_true, Bool.or_eq_true] at *)
  all_goals first | omega | exact finV_same rfl rfl

theorem byte13_at {f ff : FuncId} (hT : Def E f (Gn.hackleref13_Reader_byte ff) Gn.hackleref13_Reader_byte_r 69) (S : List UInt8) (P : Nat) (Pi A : Int) (hPi : Pi = P) (G : Heap) (b : UInt8) (hb : S[P]? = some b) (h1 : okQ b) (hP : S.length ≤ 900000) :
    den E f [.ptr 0 4 0 0] (RD S Pi A 0 :: G) = some (.ret (.int .u8 b.toNat), RD S Pi A 0 :: G) := by
  subst hPi; exact byte13_plain hT S P A G b hb h1.1 h1.2 (by omega)

theorem byte13_zero {f ff : FuncId} (hT : Def E f (Gn.hackleref13_Reader_byte ff) Gn.hackleref13_Reader_byte_r 69) (hF : Def E ff Gn.hackleref13_Reader_Fail Gn.hackleref13_Reader_Fail_r 19) (S : List UInt8) (P : Nat) (Pi A : Int) (hPi : Pi = P) (G : Heap) (hb : ∀ b, S[P]? = some b → ¬ okQ b)
    (hG : okB (G.length + 1) (RD S P P 2 :: G) = true) : den E f [.ptr 0 4 0 0] (RD S Pi A 0 :: G) = some (.ret (.int .u8 0), RD S Pi A 0 :: G) ∨ den E f [.ptr 0 4 0 0] (RD S Pi A 0 :: G) = some (.ret (.int .u8 0), RD S Pi Pi 2 :: G) := by
  subst hPi
  cases hc : S[P]? with
  | none => exact .inl (byte13_none hT S P A G (List.getElem?_eq_none_iff.1 hc))
  | some b =>
    have := hb b hc
    by_cases h10 : b.toNat = 10
    · exact .inl (byte13_line hT S P A G b hc h10)
    · exact .inr (byte13_bad hT hF S P A G b hc h10 this hG)

set_option maxHeartbeats 8000000 in
theorem quoted13_den {f fD fF fB fM : FuncId} (hT : Def E f (Gn.hackleref13_Reader_Quoted fD fF fB fM) Gn.hackleref13_Reader_Quoted_r 118) (hM : Def E fM (Gn.hackleref13_Reader_must fF fB) Gn.hackleref13_Reader_must_r 37) (hB : Def E fB (Gn.hackleref13_Reader_byte fF) Gn.hackleref13_Reader_byte_r 69)
    (hF : Def E fF Gn.hackleref13_Reader_Fail Gn.hackleref13_Reader_Fail_r 19) (hD : Def E fD Gn.hackleref03_Digit Gn.hackleref03_Digit_r 45) (S : List UInt8) (hS : S.length ≤ 900000) (b : UInt8) (hb : S[0]? = some b) (h34 : b.toNat = 34) :
    den E f [.ptr 0 4 0 0] [RD S 0 0 0] = some (resQ S (qAt S 1 [])) := by
  have hm : den E fM [.ptr 0 4 0 0, .str [34]] [RD S 0 0 0] = some (.ret (.tup []), [RD S 1 0 0]) := must13_quote hM hB S 0 0 [] b hb h34 (by omega) rfl
  refine den_of hT (by simp) ?_
  unfold Gn.hackleref13_Reader_Quoted Gn.hackleref13_Reader_Quoted_r
  simp (disch := omega) only [go_sem, ↓reduceIte, simprocAttr, reduceCtorEq, hm]
  refine while_of (ι := Nat × List UInt8 × EV × Heap) (fun i => OutIs i.2.2.1 i.2.1 i.2.2.2 ∧ 1 ≤ i.1 ∧ i.1 ≤ S.length ∧ i.2.1.length ≤ i.1 ∧ qAt S i.1 i.2.1 = qAt S 1 []) (fun i => S.length - i.1) (fun i => [(0, .ptr 0 4 0 0), (3, i.2.2.1)]) (fun i => RD S i.1 0 0 :: i.2.2.2) (1, [], .nilsl, []) ⟨.inl ⟨rfl, rfl, rfl⟩, by omega, ?_, by simp, rfl⟩ ?_ rfl ?_
  · have := (List.getElem?_eq_some_iff.1 hb).1; simp only; omega
  · simp (disch := omega) only [go_sem, ↓reduceIte, simprocAttr, reduceCtorEq, Sl]
  · rintro ⟨p, out, x, G⟩ t ⟨ho, h1, h2, h3, hq⟩ ht K hK
    simp only at ho h1 h2 h3 hq
    simp (disch := omega) only [go_sem, ↓reduceIte, simprocAttr, reduceCtorEq, Sl] at ht
    have fin : ∀ (P' A' e' : Int), finV [RD S 0 0 0] (EV.str []) ER.ret (RD S P' A' e' :: G) = some (.ret (.str []), [RD S P' A' e']) := fun P' A' e' =>
      finV_turn (H := [RD S 0 0 0]) (H1 := [RD S P' A' e']) (G := G) rfl rfl rfl (okB_out ho S P' A' e' 1) rfl
    have dig : ∀ b H, den E fD [.int .u8 b.toNat, .int .i64 16] H = some (.ret (.int .i64 (hexI b)), H) := fun b H => digit03_den hD b H
    have dig0 : ∀ H, den E fD [.int .u8 0, .int .i64 16] H = some (.ret (.int .i64 (-1)), H) := fun H => digit03_den hD 0 H
    have okG : ∀ (P' A' e' : Int) n, okB n (RD S P' A' e' :: G) = true := fun P' A' e' n => okB_out ho S P' A' e' n
    have nf : ∀ P' : Int, den E fF [.ptr 0 4 0 0, .int .i64 P', .int .i64 2] (RD S P' 0 0 :: G) = some (.ret (.tup []), RD S P' P' 2 :: G) := fun P' => fail13_den hF S P' 0 P' 2 G (okG P' P' 2 _)
    have na : ∀ P' : Int, den E fF [.ptr 0 4 0 0, .int .i64 P', .int .i64 2] (RD S P' P' 2 :: G) = some (.ret (.tup []), RD S P' P' 2 :: G) := fun P' => fail13_again hF S P' P' 2 P' 2 G (by decide)
    have zero : ∀ (P : Nat) (Pi : Int), Pi = P → (∀ b, S[P]? = some b → ¬ okQ b) → _ := fun P Pi hPi hb => byte13_zero hB hF S P Pi 0 hPi G hb (okG P P 2 _)
    have good : ∀ (P : Nat) (Pi : Int) (b : UInt8), Pi = P → S[P]? = some b → okQ b → _ := fun P Pi b hPi hb h1 => byte13_at hB S P Pi 0 hPi G b hb h1 hS
    have put := append_out ho
    by_cases hz : ∀ b, S[p]? = some b → ¬ okQ b
    · have hbz := zero p p rfl hz
      have hend : qAt S 1 [] = .er p := by
        rw [← hq]
        cases hc : S[p]? with
        | none => exact qAt_none hc
        | some c => exact qAt_bad hc (hz c hc)
      rw [hend]
      have hnf := nf p
      have hna := na p
      have e1 : den E fB [.ptr 0 4 0 0] (RD S p p 2 :: G) = some (.ret (.int .u8 0), RD S p p 2 :: G) := byte13_err hB S p p 2 G (by decide)
      clear nf na zero good put dig dig0 hq hK hM hB hF hD hT hm okG
      unfold resQ
      simp (disch := omega) only [go_sem, ↓reduceIte, simprocAttr, reduceCtorEq, RD]
      unfold RD at hbz hnf hna fin e1
      rcases hbz with hbz | hbz
      · repeat' first
          | (simp (disch := first | omega | assumption) only [go_sem, ↓reduceIte, simprocAttr, reduceCtorEq, *])
          | (refine HG_split (fun hb => ?_) (fun hb => ?_))
          | (refine HC_split (fun hb => ?_) (fun hb => ?_))
        exact fin p p 2
      · repeat' first
          | (simp (disch := first | omega | assumption) only [go_sem, ↓reduceIte, simprocAttr, reduceCtorEq, *])
          | (refine HG_split (fun hb => ?_) (fun hb => ?_))
          | (refine HC_split (fun hb => ?_) (fun hb => ?_))
        exact fin p p 2
    · obtain ⟨c, hc, hcok⟩ : ∃ c, S[p]? = some c ∧ okQ c := by
        cases hc : S[p]? with
        | none => exact absurd (fun b hb => by rw [hc] at hb; simp at hb) hz
        | some c =>
          refine ⟨c, rfl, ?_⟩
          apply Classical.byContradiction
          intro h
          exact hz fun b hb => by rw [hc] at hb; obtain rfl := Option.some.inj hb; exact h
      have hpl : p < S.length := (List.getElem?_eq_some_iff.1 hc).1
      have hbc := good p p c rfl hc hcok
      have ok1 := hcok.1
      have ok2 := hcok.2
      by_cases c34 : c.toNat = 34
      · have hend : qAt S 1 [] = .ok out (p + 1) := by rw [← hq]; exact qAt_quote hc c34
        rw [hend]
        have hmm : den E fM [.ptr 0 4 0 0, .str [34]] (RD S p 0 0 :: G) = some (.ret (.tup []), RD S ((p + 1 : Nat) : Int) 0 0 :: G) := must13_quote hM hB S p 0 G c hc c34 (by omega) (okG _ _ _ _)
        have hts := toStr_out ho (RD S ((p + 1 : Nat) : Int) 0 0)
        have hfin : finV [RD S 0 0 0] (EV.str out) ER.ret (RD S ((p + 1 : Nat) : Int) 0 0 :: G) = some (.ret (.str out), [RD S ((p + 1 : Nat) : Int) 0 0]) :=
          finV_turn (H := [RD S 0 0 0]) (H1 := [RD S ((p + 1 : Nat) : Int) 0 0]) (G := G) rfl rfl rfl (okG _ _ _ 1) rfl
        rw [c34] at hbc
        clear nf na zero good put dig dig0 hq hK hM hB hF hD hT hm okG fin hz
        unfold resQ
        simp (disch := omega) only [go_sem, ↓reduceIte, simprocAttr, reduceCtorEq, RD]
        unfold RD at hbc hmm hts hfin
        repeat' first
          | (simp (disch := first | omega | assumption) only [go_sem, ↓reduceIte, simprocAttr, reduceCtorEq, *])
          | (refine HG_split (fun hb => ?_) (fun hb => ?_))
          | (refine HC_split (fun hb => ?_) (fun hb => ?_))
        exact hfin
      · by_cases c92 : c.toNat = 92
        · rw [c92] at hbc
          by_cases hz1 : ∀ b, S[p + 1]? = some b → ¬ okQ b
          · have hbz := zero (p + 1) ((p : Int) + 1) (by simp) hz1
            have hend : qAt S 1 [] = .er (p + 1) := by
              rw [← hq]
              cases he : S[p + 1]? with
              | none => exact qAt_esc0 hc c92 he
              | some e =>
                have := hz1 e he
                exact qAt_escbad hc c92 he (by
                  unfold escB
                  rw [if_neg, if_neg, if_neg, if_neg, if_neg] <;> (intro h; apply this; unfold okQ; omega)) (by intro h; apply this; unfold okQ; omega)
            rw [hend]
            have hnf := nf (p + 1)
            have hna := na (p + 1)
            clear nf na zero good put dig dig0 hq hK hM hB hF hD hT hm okG
            unfold resQ
            simp (disch := omega) only [go_sem, ↓reduceIte, simprocAttr, reduceCtorEq, RD]
            unfold RD at hbz hnf hna fin hbc
            push_cast at hbz hnf hna
            rcases hbz with hbz | hbz
            · repeat' first
                | (simp (disch := first | omega | assumption) only [go_sem, ↓reduceIte, simprocAttr, reduceCtorEq, *])
                | (refine HG_split (fun hb => ?_) (fun hb => ?_))
                | (refine HC_split (fun hb => ?_) (fun hb => ?_))
              exact fin (p + 1) (p + 1) 2
            · repeat' first
                | (simp (disch := first | omega | assumption) only [go_sem, ↓reduceIte, simprocAttr, reduceCtorEq, *])
                | (refine HG_split (fun hb => ?_) (fun hb => ?_))
                | (refine HC_split (fun hb => ?_) (fun hb => ?_))
              exact fin (p + 1) (p + 1) 2
          · obtain ⟨e, he, heok⟩ : ∃ c, S[p + 1]? = some c ∧ okQ c := by
              cases hc : S[p + 1]? with
              | none => exact absurd (fun b hb => by rw [hc] at hb; simp at hb) hz1
              | some c =>
                refine ⟨c, rfl, ?_⟩
                apply Classical.byContradiction
                intro h
                exact hz1 fun b hb => by rw [hc] at hb; obtain rfl := Option.some.inj hb; exact h
            have hpl1 : p + 1 < S.length := (List.getElem?_eq_some_iff.1 he).1
            have hbe := good (p + 1) ((p : Int) + 1) e (by simp) he heok
            have ek1 := heok.1
            have ek2 := heok.2
            by_cases e120 : e.toNat = 120
            · rw [e120] at hbe
              have p2 : ((p : Int) + 1 + 1) = ((p + 2 : Nat) : Int) := by omega
              by_cases hz2 : ∀ b, S[p + 2]? = some b → ¬ okQ b
              · have hbz := zero (p + 2) ((p + 2 : Nat) : Int) rfl hz2
                have hend : qAt S 1 [] = .er (p + 2) := by
                  rw [← hq]
                  cases hh : S[p + 2]? with
                  | none => exact qAt_x0 hc c92 he e120 hh
                  | some h =>
                    have := hz2 h hh
                    exact qAt_x0bad hc c92 he e120 hh (by
                      unfold hexV
                      rw [if_neg, if_neg, if_neg] <;> (intro h; apply this; unfold okQ; omega))
                rw [hend]
                have hnf := nf ((p + 2 : Nat) : Int)
                have hna := na ((p + 2 : Nat) : Int)
                clear nf na zero good put dig hq hK hM hB hF hD hT hm okG hz hz1 hz2
                unfold resQ
                simp (disch := omega) only [go_sem, ↓reduceIte, simprocAttr, reduceCtorEq, RD]
                unfold RD at hbz hnf hna fin hbc hbe
                rcases hbz with hbz | hbz
                · repeat' first
                    | (simp (disch := first | omega | assumption) only [go_sem, ↓reduceIte, simprocAttr, reduceCtorEq, *])
                    | (refine HG_split (fun hb => ?_) (fun hb => ?_))
                    | (refine HC_split (fun hb => ?_) (fun hb => ?_))
                  exact fin ((p + 2 : Nat) : Int) ((p + 2 : Nat) : Int) 2
                · repeat' first
                    | (simp (disch := first | omega | assumption) only [go_sem, ↓reduceIte, simprocAttr, reduceCtorEq, *])
                    | (refine HG_split (fun hb => ?_) (fun hb => ?_))
                    | (refine HC_split (fun hb => ?_) (fun hb => ?_))
                  exact fin ((p + 2 : Nat) : Int) ((p + 2 : Nat) : Int) 2
              · obtain ⟨h, hh, hhok⟩ : ∃ c, S[p + 2]? = some c ∧ okQ c := by
                  cases hc : S[p + 2]? with
                  | none => exact absurd (fun b hb => by rw [hc] at hb; simp at hb) hz2
                  | some c =>
                    refine ⟨c, rfl, ?_⟩
                    apply Classical.byContradiction
                    intro h
                    exact hz2 fun b hb => by rw [hc] at hb; obtain rfl := Option.some.inj hb; exact h
                have hpl2 : p + 2 < S.length := (List.getElem?_eq_some_iff.1 hh).1
                have hbh := good (p + 2) ((p + 2 : Nat) : Int) h rfl hh hhok
                have hdh := dig h
                have hh256 : h.toNat < 256 := h.toNat_lt
                cases hx : hexV h with
                | none =>
                  have hend : qAt S 1 [] = .er (p + 2) := by rw [← hq]; exact qAt_x0bad hc c92 he e120 hh hx
                  rw [hend]
                  have hnf := nf ((p + 2 : Nat) : Int)
                  simp only [hexI, hx] at hdh
                  clear nf na zero good put dig hq hK hM hB hF hD hT hm okG hz hz1 hz2
                  unfold resQ
                  simp (disch := omega) only [go_sem, ↓reduceIte, simprocAttr, reduceCtorEq, RD]
                  unfold RD at hbh hnf fin hbc hbe
                  repeat' first
                    | (simp (disch := first | omega | assumption) only [go_sem, ↓reduceIte, simprocAttr, reduceCtorEq, *])
                    | (refine HG_split (fun hb => ?_) (fun hb => ?_))
                    | (refine HC_split (fun hb => ?_) (fun hb => ?_))
                  exact fin ((p + 2 : Nat) : Int) ((p + 2 : Nat) : Int) 2
                | some hv =>
                  have hv16 : hv < 16 := by
                    unfold hexV at hx
                    split at hx
                    · obtain rfl := Option.some.inj hx; omega
                    · split at hx
                      · obtain rfl := Option.some.inj hx; omega
                      · split at hx
                        · obtain rfl := Option.some.inj hx; omega
                        · simp at hx
                  simp only [hexI, hx] at hdh
                  have p3 : (((p + 2 : Nat) : Int) + 1) = ((p + 3 : Nat) : Int) := by omega
                  by_cases hz3 : ∀ b, S[p + 3]? = some b → ¬ okQ b
                  · have hbz := zero (p + 3) ((p + 3 : Nat) : Int) rfl hz3
                    have hend : qAt S 1 [] = .er (p + 3) := by
                      rw [← hq]
                      cases hl : S[p + 3]? with
                      | none => exact qAt_x1 hc c92 he e120 hh hx hl
                      | some l =>
                        have := hz3 l hl
                        exact qAt_x1bad hc c92 he e120 hh hx hl (by
                          unfold hexV
                          rw [if_neg, if_neg, if_neg] <;> (intro h; apply this; unfold okQ; omega))
                    rw [hend]
                    have hnf := nf ((p + 3 : Nat) : Int)
                    have hna := na ((p + 3 : Nat) : Int)
                    clear nf na zero good put dig hq hK hM hB hF hD hT hm okG hz hz1 hz2 hz3
                    unfold resQ
                    simp (disch := omega) only [go_sem, ↓reduceIte, simprocAttr, reduceCtorEq, RD]
                    unfold RD at hbz hnf hna fin hbc hbe hbh
                    rcases hbz with hbz | hbz
                    · repeat' first
                        | (simp (disch := first | omega | assumption) only [go_sem, ↓reduceIte, simprocAttr, reduceCtorEq, *])
                        | (refine HG_split (fun hb => ?_) (fun hb => ?_))
                        | (refine HC_split (fun hb => ?_) (fun hb => ?_))
                      all_goals (try simp only [decide_eq_true_eq, decide_eq_false_iff_not, beq_iff_eq, beq_eq_false_iff_ne, bne_iff_ne, bne_eq_false_iff_eq, ne_eq, Bool.not_eq_true', Bool.not_eq_false', Bool.not_eq_true, Bool.not_eq_false, Decidable.not_not, Bool.and_eq_true, Bool.or_eq_true] at *)
                      all_goals first | omega | exact fin ((p + 3 : Nat) : Int) ((p + 3 : Nat) : Int) 2
                    · repeat' first
                        | (simp (disch := first | omega | assumption) only [go_sem, ↓reduceIte, simprocAttr, reduceCtorEq, *])
                        | (refine HG_split (fun hb => ?_) (fun hb => ?_))
                        | (refine HC_split (fun hb => ?_) (fun hb => ?_))
                      all_goals (try simp only [decide_eq_true_eq, decide_eq_false_iff_not, beq_iff_eq, beq_eq_false_iff_ne, bne_iff_ne, bne_eq_false_iff_eq, ne_eq, Bool.not_eq_true', Bool.not_eq_false', Bool.not_eq_true, Bool.not_eq_false, Decidable.not_not, Bool.and_eq_true, Bool.or_eq_true] at *)
                      all_goals first | omega | exact fin ((p + 3 : Nat) : Int) ((p + 3 : Nat) : Int) 2
                  · obtain ⟨l, hl, hlok⟩ : ∃ c, S[p + 3]? = some c ∧ okQ c := by
                      cases hc : S[p + 3]? with
                      | none => exact absurd (fun b hb => by rw [hc] at hb; simp at hb) hz3
                      | some c =>
                        refine ⟨c, rfl, ?_⟩
                        apply Classical.byContradiction
                        intro h
                        exact hz3 fun b hb => by rw [hc] at hb; obtain rfl := Option.some.inj hb; exact h
                    have hpl3 : p + 3 < S.length := (List.getElem?_eq_some_iff.1 hl).1
                    have hbl := good (p + 3) ((p + 3 : Nat) : Int) l rfl hl hlok
                    have hdl := dig l
                    have hl256 : l.toNat < 256 := l.toNat_lt
                    cases hy : hexV l with
                    | none =>
                      have hend : qAt S 1 [] = .er (p + 3) := by rw [← hq]; exact qAt_x1bad hc c92 he e120 hh hx hl hy
                      rw [hend]
                      have hnf := nf ((p + 3 : Nat) : Int)
                      simp only [hexI, hy] at hdl
                      clear nf na zero good put dig hq hK hM hB hF hD hT hm okG hz hz1 hz2 hz3
                      unfold resQ
                      simp (disch := omega) only [go_sem, ↓reduceIte, simprocAttr, reduceCtorEq, RD]
                      unfold RD at hbh hbl hnf fin hbc hbe
                      repeat' first
                        | (simp (disch := first | omega | assumption) only [go_sem, ↓reduceIte, simprocAttr, reduceCtorEq, *])
                        | (refine HG_split (fun hb => ?_) (fun hb => ?_))
                        | (refine HC_split (fun hb => ?_) (fun hb => ?_))
                      all_goals (try simp only [decide_eq_true_eq, decide_eq_false_iff_not, beq_iff_eq, beq_eq_false_iff_ne, bne_iff_ne, bne_eq_false_iff_eq, ne_eq, Bool.not_eq_true', Bool.not_eq_false', Bool.not_eq_true, Bool.not_eq_false, Decidable.not_not, Bool.and_eq_true, Bool.or_eq_true] at *)
                      all_goals first | omega | exact fin ((p + 3 : Nat) : Int) ((p + 3 : Nat) : Int) 2
                    | some lv =>
                      have lv16 : lv < 16 := by
                        unfold hexV at hy
                        split at hy
                        · obtain rfl := Option.some.inj hy; omega
                        · split at hy
                          · obtain rfl := Option.some.inj hy; omega
                          · split at hy
                            · obtain rfl := Option.some.inj hy; omega
                            · simp at hy
                      simp only [hexI, hy] at hdl
                      have hgo : qAt S (p + 4) (out ++ [UInt8.ofNat (16 * hv + lv)]) = qAt S 1 [] := by rw [← hq]; exact (qAt_x hc c92 he e120 hh hx hl hy).symm
                      obtain ⟨x', G', hap, ho'⟩ := put (UInt8.ofNat (16 * hv + lv)) (RD S ((p + 3 : Nat) : Int) 0 0) (by omega)
                      have hk := hK (p + 4, out ++ [UInt8.ofNat (16 * hv + lv)], x', G')
                      have hval : ((UInt8.ofNat (16 * hv + lv)).toNat : Int) = 16 * (hv : Int) + (lv : Int) := by
                        rw [UInt8.toNat_ofNat']; omega
                      rw [hval] at hap
                      have hw1 : IntKind.i64.wrap (16 * (hv : Int)) = 16 * (hv : Int) := wrap_i64 (by omega) (by omega)
                      have hw2 : IntKind.i64.wrap (16 * (hv : Int) + lv) = 16 * (hv : Int) + lv := wrap_i64 (by omega) (by omega)
                      have hw3 : IntKind.u8.wrap (16 * (hv : Int) + lv) = 16 * (hv : Int) + lv := by simp [IntKind.wrap, IntKind.signed, IntKind.bits]; omega
                      clear nf na zero good put dig hq hK hM hB hF hD hT hm okG fin hz hz1 hz2 hz3
                      simp (disch := omega) only [go_sem, ↓reduceIte, simprocAttr, reduceCtorEq, RD]
                      unfold RD at hbc hbe hbh hbl hap hk
                      have p4 : (((p + 3 : Nat) : Int) + 1) = ((p + 4 : Nat) : Int) := by omega
                      repeat' first
                        | (simp (disch := first | omega | assumption) only [go_sem, ↓reduceIte, simprocAttr, reduceCtorEq, *])
                        | (refine HG_split (fun hb => ?_) (fun hb => ?_))
                        | (refine HC_split (fun hb => ?_) (fun hb => ?_))
                      all_goals (try simp only [decide_eq_true_eq, decide_eq_false_iff_not, beq_iff_eq, beq_eq_false_iff_ne, bne_iff_ne, bne_eq_false_iff_eq, ne_eq, Bool.not_eq_true', Bool.not_eq_false', Bool.not_eq_true, Bool.not_eq_false, Decidable.not_not, Bool.and_eq_true, Bool.or_eq_true] at *)
                      all_goals first | omega | skip
                      refine hk _ _ ⟨ho', by omega, by omega, by simp; omega, hgo⟩ (by omega) ?_ rfl
                      simp (disch := omega) only [go_sem, ↓reduceIte, simprocAttr, reduceCtorEq, Sl, ht, and_self]
            · cases hv : escB e with
              | none =>
                have hend : qAt S 1 [] = .er (p + 1) := by rw [← hq]; exact qAt_escbad hc c92 he hv e120
                have hnv : e.toNat ≠ 34 ∧ e.toNat ≠ 92 ∧ e.toNat ≠ 110 ∧ e.toNat ≠ 114 ∧ e.toNat ≠ 116 := by
                  unfold escB at hv
                  refine ⟨?_, ?_, ?_, ?_, ?_⟩ <;> (intro h; simp [h] at hv)
                rw [hend]
                have hnf := nf (p + 1)
                clear nf na zero good put dig dig0 hq hK hM hB hF hD hT hm okG hz hz1
                unfold resQ
                simp (disch := omega) only [go_sem, ↓reduceIte, simprocAttr, reduceCtorEq, RD]
                unfold RD at hbe hnf fin hbc
                push_cast at hnf
                repeat' first
                  | (simp (disch := first | omega | assumption) only [go_sem, ↓reduceIte, simprocAttr, reduceCtorEq, *])
                  | (refine HG_split (fun hb => ?_) (fun hb => ?_))
                  | (refine HC_split (fun hb => ?_) (fun hb => ?_))
                all_goals (try simp only [decide_eq_true_eq, decide_eq_false_iff_not, beq_iff_eq, beq_eq_false_iff_ne, bne_iff_ne, bne_eq_false_iff_eq, ne_eq, Bool.not_eq_true', Bool.not_eq_false', Bool.not_eq_true, Bool.not_eq_false, Decidable.not_not, Bool.and_eq_true, Bool.or_eq_true] at *)
                all_goals first | omega | exact fin (p + 1) (p + 1) 2
              | some v =>
                have hgo : qAt S (p + 2) (out ++ [v]) = qAt S 1 [] := by rw [← hq]; exact (qAt_esc hc c92 he hv).symm
                obtain ⟨x', G', hap, ho'⟩ := put v (RD S ((p : Int) + 1) 0 0) (by omega)
                have hk := hK (p + 2, out ++ [v], x', G')
                have hvv : (e.toNat = 34 ∨ e.toNat = 92) ∧ v.toNat = e.toNat ∨ e.toNat = 110 ∧ v.toNat = 10 ∨ e.toNat = 114 ∧ v.toNat = 13 ∨ e.toNat = 116 ∧ v.toNat = 9 := by
                  unfold escB at hv
                  split at hv
                  · rename_i h; obtain rfl := Option.some.inj hv; left; exact ⟨.inl h, by rw [h]; rfl⟩
                  · split at hv
                    · rename_i h; obtain rfl := Option.some.inj hv; left; exact ⟨.inr h, by rw [h]; rfl⟩
                    · split at hv
                      · rename_i h; obtain rfl := Option.some.inj hv; right; left; exact ⟨h, rfl⟩
                      · split at hv
                        · rename_i h; obtain rfl := Option.some.inj hv; right; right; left; exact ⟨h, rfl⟩
                        · split at hv
                          · rename_i h; obtain rfl := Option.some.inj hv; right; right; right; exact ⟨h, rfl⟩
                          · simp at hv
                clear nf na zero good put dig dig0 hq hK hM hB hF hD hT hm okG fin hz hz1
                simp (disch := omega) only [go_sem, ↓reduceIte, simprocAttr, reduceCtorEq, RD]
                unfold RD at hbc hbe hap hk
                have e2 : ((p + 2 : Nat) : Int) = (p : Int) + 1 + 1 := by omega
                simp only [e2] at hk
                rcases hvv with ⟨h | h, g⟩ | ⟨h, g⟩ | ⟨h, g⟩ | ⟨h, g⟩ <;> (first | rw [g, h] at hap | rw [g] at hap) <;> rw [h] at hbe
                all_goals (try simp only [Int.cast_ofNat_Int] at hap hbe)
                · repeat' first
                    | (simp (disch := first | omega | assumption) only [go_sem, ↓reduceIte, simprocAttr, reduceCtorEq, *])
                    | (refine HG_split (fun hb => ?_) (fun hb => ?_))
                    | (refine HC_split (fun hb => ?_) (fun hb => ?_))
                  refine hk _ _ ⟨ho', by omega, by omega, by simp; omega, hgo⟩ (by omega) ?_ rfl
                  simp (disch := omega) only [go_sem, ↓reduceIte, simprocAttr, reduceCtorEq, Sl, ht, and_self]
                · repeat' first
                    | (simp (disch := first | omega | assumption) only [go_sem, ↓reduceIte, simprocAttr, reduceCtorEq, *])
                    | (refine HG_split (fun hb => ?_) (fun hb => ?_))
                    | (refine HC_split (fun hb => ?_) (fun hb => ?_))
                  refine hk _ _ ⟨ho', by omega, by omega, by simp; omega, hgo⟩ (by omega) ?_ rfl
                  simp (disch := omega) only [go_sem, ↓reduceIte, simprocAttr, reduceCtorEq, Sl, ht, and_self]
                · repeat' first
                    | (simp (disch := first | omega | assumption) only [go_sem, ↓reduceIte, simprocAttr, reduceCtorEq, *])
                    | (refine HG_split (fun hb => ?_) (fun hb => ?_))
                    | (refine HC_split (fun hb => ?_) (fun hb => ?_))
                  refine hk _ _ ⟨ho', by omega, by omega, by simp; omega, hgo⟩ (by omega) ?_ rfl
                  simp (disch := omega) only [go_sem, ↓reduceIte, simprocAttr, reduceCtorEq, Sl, ht, and_self]
                · repeat' first
                    | (simp (disch := first | omega | assumption) only [go_sem, ↓reduceIte, simprocAttr, reduceCtorEq, *])
                    | (refine HG_split (fun hb => ?_) (fun hb => ?_))
                    | (refine HC_split (fun hb => ?_) (fun hb => ?_))
                  refine hk _ _ ⟨ho', by omega, by omega, by simp; omega, hgo⟩ (by omega) ?_ rfl
                  simp (disch := omega) only [go_sem, ↓reduceIte, simprocAttr, reduceCtorEq, Sl, ht, and_self]
                · repeat' first
                    | (simp (disch := first | omega | assumption) only [go_sem, ↓reduceIte, simprocAttr, reduceCtorEq, *])
                    | (refine HG_split (fun hb => ?_) (fun hb => ?_))
                    | (refine HC_split (fun hb => ?_) (fun hb => ?_))
                  refine hk _ _ ⟨ho', by omega, by omega, by simp; omega, hgo⟩ (by omega) ?_ rfl
                  simp (disch := omega) only [go_sem, ↓reduceIte, simprocAttr, reduceCtorEq, Sl, ht, and_self]
        · have hgo : qAt S (p + 1) (out ++ [c]) = qAt S 1 [] := by rw [← hq]; exact (qAt_plain hc c34 c92 hcok.1 hcok.2).symm
          have hc256 : c.toNat < 256 := c.toNat_lt
          obtain ⟨x', G', hap, ho'⟩ := put c (RD S ((p + 1 : Nat) : Int) 0 0) (by omega)
          have hk := hK (p + 1, out ++ [c], x', G')
          clear nf na zero good put dig dig0 hq hK hM hB hF hD hT hm okG fin hz
          simp (disch := omega) only [go_sem, ↓reduceIte, simprocAttr, reduceCtorEq, RD]
          unfold RD at hbc hap hk
          push_cast at hap hk
          repeat' first
            | (simp (disch := first | omega | assumption) only [go_sem, ↓reduceIte, simprocAttr, reduceCtorEq, *])
            | (refine HG_split (fun hb => ?_) (fun hb => ?_))
            | (refine HC_split (fun hb => ?_) (fun hb => ?_))
          all_goals (try simp only [decide_eq_true_eq, decide_eq_false_iff_not, beq_iff_eq, beq_eq_false_iff_ne, bne_iff_ne, bne_eq_false_iff_eq, ne_eq, Bool.not_eq_true', Bool.not_eq_false', Bool.not_eq_true, Bool.not_eq_false, Decidable.not_not, Bool.and_eq_true, Bool.or_eq_true] at *)
          all_goals first | omega | skip
          refine hk _ _ ⟨ho', trivial, by omega, by simp; omega, hgo⟩ (by omega) ?_ rfl
          simp (disch := omega) only [go_sem, ↓reduceIte, simprocAttr, reduceCtorEq, Sl, ht, and_self]
end
end Abs
