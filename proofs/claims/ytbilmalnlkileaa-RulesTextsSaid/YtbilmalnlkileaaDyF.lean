/- Quoted texts, read by the program: escapes. -/
import Derived.Test.YtbilmalnlkileaaDyE
set_option linter.all false

namespace Abs
open Go
set_option linter.all false
set_option maxRecDepth 20000

section
variable {E : Env} [R : RulQ E]

theorem okB_HH {x : EV} {out : List UInt8} {G : Heap} (h : OutIs x out G) (S : List UInt8) (P : Int) (n : Nat) : okB n (HH S P G) = true := by
  have all : (HH S P G).all (fun x => match x with | some y => y.ok n | none => true) = true := by
    rcases h with ⟨rfl, rfl, rfl⟩ | ⟨k, rfl, rfl⟩
    · simp [HH, Zc, RR, EB.ok, okL, EV.ok]
    · simp [HH, Zc, RR, EB.ok, okL, EV.ok, okL_u8s]
  unfold okB
  exact List.all_eq_true.2 fun y hy => List.all_eq_true.1 all y (List.mem_of_mem_take hy)

theorem rtake_no (S : List UInt8) (P : Nat) (G : Heap) (hb : ∀ b, S[P]? = some b → b.toNat ≠ 34) (hS : S.length ≤ 900000) (hP : P ≤ S.length) : den E R.n_rules_reader_take [.ptr 2 5 0 0, .str [34]] (HH S P G) = some (.ret (.bool false), HH S P G) := by
  have hp : ∀ H, den E R.n_strings_HasPrefix [.str (S.drop P), .str [34]] H = some (.ret (.bool ((S.drop P).take 1 == [34])), H) := fun H => hasPrefix_den (S.drop P) [34] (by simp; omega) (by simp) H
  have hf : ((S.drop P).take 1 == [(34 : UInt8)]) = false := by
    cases hc : S[P]? with
    | none => rw [drop_none hc]; rfl
    | some b =>
      rw [drop_at hc]
      have := hb b hc
      simp only [List.take_succ_cons, List.take_zero, beq_eq_false_iff_ne, ne_eq, List.cons.injEq, and_true]
      intro e; rw [e] at this; exact this rfl
  rw [hf] at hp
  refine den_of R.d_rules_reader_take (by simp) ?_
  unfold Gn.rules_reader_take Gn.rules_reader_take_r HH RR
  have ht : (S.drop P).take (S.length - P) = S.drop P := List.take_of_length_le (by simp)
  repeat' first
    | (simp (disch := first | omega | assumption) only [go_sem, ↓reduceIte, simprocAttr, reduceCtorEq, *])
    | (refine HG_split (fun hb => ?_) (fun hb => ?_))
    | (refine HC_split (fun hb => ?_) (fun hb => ?_))
  exact finV_same rfl rfl

theorem rtake_yes (S : List UInt8) (P : Nat) (G : Heap) (b : UInt8) (hc : S[P]? = some b) (hb : b.toNat = 34) (hS : S.length ≤ 900000) (hG : okB (G.length + 3) (HH S ((P + 1 : Nat) : Int) G) = true) :
    den E R.n_rules_reader_take [.ptr 2 5 0 0, .str [34]] (HH S P G) = some (.ret (.bool true), HH S ((P + 1 : Nat) : Int) G) := by
  have hlt : P < S.length := (List.getElem?_eq_some_iff.1 hc).1
  have hp : ∀ H, den E R.n_strings_HasPrefix [.str (S.drop P), .str [34]] H = some (.ret (.bool ((S.drop P).take 1 == [34])), H) := fun H => hasPrefix_den (S.drop P) [34] (by simp; omega) (by simp) H
  have hf : ((S.drop P).take 1 == [(34 : UInt8)]) = true := by
    rw [drop_at hc]
    have : b = 34 := UInt8.toNat_inj.1 (by rw [hb]; rfl)
    subst this
    simp
  rw [hf] at hp
  have hfin := finV_read (S := S) (P := P) (P' := ((P + 1 : Nat) : Int)) (G := G) (G' := G) (v := .bool true) (K := .ret) rfl rfl hG rfl
  refine den_of R.d_rules_reader_take (by simp) ?_
  unfold Gn.rules_reader_take Gn.rules_reader_take_r
  unfold HH RR at hfin ⊢
  have ht : (S.drop P).take (S.length - P) = S.drop P := List.take_of_length_le (by simp)
  have hP1 : (P : Int) + 1 = ((P + 1 : Nat) : Int) := rfl
  repeat' first
    | (simp (disch := first | omega | assumption) only [go_sem, ↓reduceIte, simprocAttr, reduceCtorEq, *])
    | (refine HG_split (fun hb => ?_) (fun hb => ?_))
    | (refine HC_split (fun hb => ?_) (fun hb => ?_))

theorem rmust_quote (S : List UInt8) (b : UInt8) (hc : S[0]? = some b) (hb : b.toNat = 34) (hS : S.length ≤ 900000) : den E R.n_rules_reader_must [.ptr 2 5 0 0, .str [34]] (HH S 0 []) = some (.ret (.tup []), HH S 1 []) := by
  have hlt : 0 < S.length := (List.getElem?_eq_some_iff.1 hc).1
  have hn : den E R.n_rules_reader_next [.ptr 2 5 0 0] (HH S 0 []) = some (.ret (.int .u8 b.toNat), HH S 0 []) := rnext_ok S 0 [] b hc ⟨by omega, by omega⟩ hS
  have hfin := finV_read (S := S) (P := 0) (P' := 1) (G := []) (G' := []) (v := .tup []) (K := .ret) rfl rfl (okB_HH (.inl ⟨rfl, rfl, rfl⟩) S 1 3) rfl
  rw [hb] at hn
  refine den_of R.d_rules_reader_must (by simp) ?_
  unfold Gn.rules_reader_must Gn.rules_reader_must_r
  unfold HH RR at hn hfin ⊢
  simp (disch := omega) only [go_sem, ↓reduceIte, simprocAttr, reduceCtorEq]
  refine Hd_loop ?_
  repeat' first
    | (simp (disch := first | omega | assumption) only [go_sem, ↓reduceIte, simprocAttr, reduceCtorEq, *])
    | (refine HG_split (fun hb => ?_) (fun hb => ?_))
    | (refine HC_split (fun hb => ?_) (fun hb => ?_))
  refine Hd_loop ?_
  repeat' first
    | (simp (disch := first | omega | assumption) only [go_sem, ↓reduceIte, simprocAttr, reduceCtorEq, *])
    | (refine HG_split (fun hb => ?_) (fun hb => ?_))
    | (refine HC_split (fun hb => ?_) (fun hb => ?_))

theorem rmust_no (S : List UInt8) (hb : ∀ b, S[0]? = some b → b.toNat ≠ 34) (hS : S.length ≤ 900000) : den E R.n_rules_reader_must [.ptr 2 5 0 0, .str [34]] (HH S 0 []) = some (.pan (faultE R 0), HH S 0 []) := by
  have hf := fun H => rfail_den (E := E) 0 H
  refine den_of R.d_rules_reader_must (by simp) ?_
  unfold Gn.rules_reader_must Gn.rules_reader_must_r
  by_cases hend : ∀ b, S[0]? = some b → b.toNat = 10
  · have hn : den E R.n_rules_reader_next [.ptr 2 5 0 0] (HH S 0 []) = some (.ret (.int .u8 0), HH S 0 []) := rnext_end S 0 [] hend hS (by omega)
    unfold HH RR at hn ⊢
    simp (disch := omega) only [go_sem, ↓reduceIte, simprocAttr, reduceCtorEq]
    refine Hd_loop ?_
    repeat' first
      | (simp (disch := first | omega | assumption) only [go_sem, ↓reduceIte, simprocAttr, reduceCtorEq, *])
      | (refine HG_split (fun hb => ?_) (fun hb => ?_))
      | (refine HC_split (fun hb => ?_) (fun hb => ?_))
    exact finV_same rfl rfl
  · obtain ⟨c, hc, h10⟩ : ∃ c, S[0]? = some c ∧ c.toNat ≠ 10 := by
      cases hc : S[0]? with
      | none => exact absurd (fun b hb => by rw [hc] at hb; simp at hb) hend
      | some c => exact ⟨c, rfl, fun h => hend fun b hb => by rw [hc] at hb; obtain rfl := Option.some.inj hb; exact h⟩
    by_cases hok : okQ c
    · have hn : den E R.n_rules_reader_next [.ptr 2 5 0 0] (HH S 0 []) = some (.ret (.int .u8 c.toNat), HH S 0 []) := rnext_ok S 0 [] c hc hok hS
      have h34 := hb c hc
      unfold HH RR at hn ⊢
      simp (disch := omega) only [go_sem, ↓reduceIte, simprocAttr, reduceCtorEq]
      refine Hd_loop ?_
      repeat' first
        | (simp (disch := first | omega | assumption) only [go_sem, ↓reduceIte, simprocAttr, reduceCtorEq, *])
        | (refine HG_split (fun hb => ?_) (fun hb => ?_))
        | (refine HC_split (fun hb => ?_) (fun hb => ?_))
      all_goals (try simp only [decide_eq_true_eq, decide_eq_false_iff_not, beq_iff_eq, beq_eq_false_iff_ne, bne_iff_ne, bne_eq_false_iff_eq, ne_eq, Bool.not_eq_true', Bool.not_eq_false', Bool.not_eq_true, Bool.not_eq_false, Decidable.not_not, Bool.and_eq_true, Bool.or_eq_true] at *)
      all_goals first | omega | exact finV_same rfl rfl
    · have hn : den E R.n_rules_reader_next [.ptr 2 5 0 0] (HH S 0 []) = some (.pan (faultE R 0), HH S 0 []) := rnext_bad S 0 [] c hc hok h10 hS
      unfold HH RR at hn ⊢
      simp (disch := omega) only [go_sem, ↓reduceIte, simprocAttr, reduceCtorEq]
      refine Hd_loop ?_
      repeat' first
        | (simp (disch := first | omega | assumption) only [go_sem, ↓reduceIte, simprocAttr, reduceCtorEq, *])
        | (refine HG_split (fun hb => ?_) (fun hb => ?_))
        | (refine HC_split (fun hb => ?_) (fun hb => ?_))
      refine ⟨?_, finV_same rfl rfl⟩
      obtain ⟨r, rfl⟩ : ∃ r, S = c :: r := by
        cases S with
        | nil => simp at hc
        | cons x r => simp at hc; exact ⟨r, by rw [hc]⟩
      simp [aloneF, isCallOp, opF, evOp, ev, upd, putA, retSame, sameH_self, slots0]

theorem idx_esc : ∀ n, n < 256 → Go.Lib.indexByte [34, 92, 110, 114, 116, 120] (UInt8.ofNat n) = if n = 34 then 0 else if n = 92 then 1 else if n = 110 then 2 else if n = 114 then 3 else if n = 116 then 4 else if n = 120 then 5 else -1 := by decide +kernel

theorem indexByte_den (s : List UInt8) (b : Nat) (hb : b < 256) (H : Heap) : den E R.n_strings_IndexByte [.str s, .int .u8 b] H = some (.ret (.int .i64 (Go.Lib.indexByte s (UInt8.ofNat b))), H) := by
  have h1 : den E R.n_internal_stringslite_IndexByte [.str s, .int .u8 b] H = some (.ret (.int .i64 (Go.Lib.indexByte s (UInt8.ofNat b))), H) := by
    refine den_of R.d_internal_stringslite_IndexByte (by simp) ?_
    unfold Gn.internal_stringslite_IndexByte Gn.internal_stringslite_IndexByte_r
    have he : evIdxB (.str s) (.int .u8 b) = some (.int .i64 (Go.Lib.indexByte s (UInt8.ofNat b))) := rfl
    repeat' first
      | (simp (disch := first | omega | assumption) only [go_sem, ↓reduceIte, simprocAttr, reduceCtorEq, *])
      | (refine HG_split (fun hb => ?_) (fun hb => ?_))
      | (refine HC_split (fun hb => ?_) (fun hb => ?_))
    exact finV_same rfl rfl
  refine den_of R.d_strings_IndexByte (by simp) ?_
  unfold Gn.strings_IndexByte Gn.strings_IndexByte_r
  repeat' first
    | (simp (disch := first | omega | assumption) only [go_sem, ↓reduceIte, simprocAttr, reduceCtorEq, *])
    | (refine HG_split (fun hb => ?_) (fun hb => ?_))
    | (refine HC_split (fun hb => ?_) (fun hb => ?_))
  exact finV_same rfl rfl

theorem digit_den (b : UInt8) (H : Heap) : den E R.n_digits_Digit [.int .u8 b.toNat, .int .i64 16] H = some (.ret (.int .i64 (hexI b)), H) := by
  have hb : b.toNat < 256 := b.toNat_lt
  have h1 : ∃ n : Int, den E R.n_digits_value [.int .u8 b.toNat] H = some (.ret (.int .i64 n), H) ∧ hexI b = if n < 16 then n else -1 := by
    rw [hexI_eq]
    by_cases h1 : 97 ≤ b.toNat ∧ b.toNat ≤ 102
    · refine ⟨(b.toNat : Int) - 87, ?_, by rw [if_neg (by omega), if_pos (by omega), if_pos (by omega)]⟩
      have w1 : IntKind.u8.wrap ((b.toNat : Int) - 32) = (b.toNat : Int) - 32 := by simp [IntKind.wrap, IntKind.signed, IntKind.bits]; omega
      have w2 : IntKind.u8.wrap ((b.toNat : Int) - 32 - 65) = (b.toNat : Int) - 97 := by simp [IntKind.wrap, IntKind.signed, IntKind.bits]; omega
      have w3 : (b.toNat : Int) - 97 + 10 = (b.toNat : Int) - 87 := by omega
      refine den_of R.d_digits_value (by simp) ?_
      unfold Gn.digits_value Gn.digits_value_r
      repeat' first
        | (simp (disch := first | omega | assumption) only [go_sem, ↓reduceIte, simprocAttr, reduceCtorEq, *])
        | (refine HG_split (fun hb => ?_) (fun hb => ?_))
        | (refine HC_split (fun hb => ?_) (fun hb => ?_))
      all_goals (try simp only [decide_eq_true_eq, decide_eq_false_iff_not, beq_iff_eq, beq_eq_false_iff_ne, bne_iff_ne, bne_eq_false_iff_eq, ne_eq, Bool.not_eq_true', Bool.not_eq_false', Bool.not_eq_true, Bool.not_eq_false, Decidable.not_not, Bool.and_eq_true, Bool.or_eq_true] at *)
      all_goals first | omega | exact finV_same rfl rfl
    · by_cases h2 : 65 ≤ b.toNat ∧ b.toNat ≤ 70
      · refine ⟨(b.toNat : Int) - 55, ?_, by rw [if_neg (by omega), if_neg (by omega), if_pos (by omega), if_pos (by omega)]⟩
        have w2 : IntKind.u8.wrap ((b.toNat : Int) - 65) = (b.toNat : Int) - 65 := by simp [IntKind.wrap, IntKind.signed, IntKind.bits]; omega
        have w3 : (b.toNat : Int) - 65 + 10 = (b.toNat : Int) - 55 := by omega
        refine den_of R.d_digits_value (by simp) ?_
        unfold Gn.digits_value Gn.digits_value_r
        repeat' first
          | (simp (disch := first | omega | assumption) only [go_sem, ↓reduceIte, simprocAttr, reduceCtorEq, *])
          | (refine HG_split (fun hb => ?_) (fun hb => ?_))
          | (refine HC_split (fun hb => ?_) (fun hb => ?_))
        all_goals (try simp only [decide_eq_true_eq, decide_eq_false_iff_not, beq_iff_eq, beq_eq_false_iff_ne, bne_iff_ne, bne_eq_false_iff_eq, ne_eq, Bool.not_eq_true', Bool.not_eq_false', Bool.not_eq_true, Bool.not_eq_false, Decidable.not_not, Bool.and_eq_true, Bool.or_eq_true] at *)
        all_goals first | omega | exact finV_same rfl rfl
      · by_cases h3 : 48 ≤ b.toNat ∧ b.toNat ≤ 57
        · refine ⟨(b.toNat : Int) - 48, ?_, by rw [if_pos (by omega), if_pos (by omega)]⟩
          have w2 : IntKind.u8.wrap ((b.toNat : Int) - 48) = (b.toNat : Int) - 48 := by simp [IntKind.wrap, IntKind.signed, IntKind.bits]; omega
          refine den_of R.d_digits_value (by simp) ?_
          unfold Gn.digits_value Gn.digits_value_r
          repeat' first
            | (simp (disch := first | omega | assumption) only [go_sem, ↓reduceIte, simprocAttr, reduceCtorEq, *])
            | (refine HG_split (fun hb => ?_) (fun hb => ?_))
            | (refine HC_split (fun hb => ?_) (fun hb => ?_))
          all_goals (try simp only [decide_eq_true_eq, decide_eq_false_iff_not, beq_iff_eq, beq_eq_false_iff_ne, bne_iff_ne, bne_eq_false_iff_eq, ne_eq, Bool.not_eq_true', Bool.not_eq_false', Bool.not_eq_true, Bool.not_eq_false, Decidable.not_not, Bool.and_eq_true, Bool.or_eq_true] at *)
          all_goals first | omega | exact finV_same rfl rfl
        · refine ⟨16, ?_, by rw [if_neg (by omega), if_neg (by omega), if_neg (by omega)]; rfl⟩
          refine den_of R.d_digits_value (by simp) ?_
          unfold Gn.digits_value Gn.digits_value_r
          repeat' first
            | (simp (disch := first | omega | assumption) only [go_sem, ↓reduceIte, simprocAttr, reduceCtorEq, *])
            | (refine HG_split (fun hb => ?_) (fun hb => ?_))
            | (refine HC_split (fun hb => ?_) (fun hb => ?_))
          all_goals (try simp only [decide_eq_true_eq, decide_eq_false_iff_not, beq_iff_eq, beq_eq_false_iff_ne, bne_iff_ne, bne_eq_false_iff_eq, ne_eq, Bool.not_eq_true', Bool.not_eq_false', Bool.not_eq_true, Bool.not_eq_false, Decidable.not_not, Bool.and_eq_true, Bool.or_eq_true] at *)
          all_goals first | omega | exact finV_same rfl rfl
  obtain ⟨n, h1, h2⟩ := h1
  have h3 : den E R.n_digits_based [.int .i64 16] H = some (.ret (.bool true), H) := by
    refine den_of R.d_digits_based (by simp) ?_
    unfold Gn.digits_based Gn.digits_based_r
    repeat' first
      | (simp (disch := first | omega | assumption) only [go_sem, ↓reduceIte, simprocAttr, reduceCtorEq, *])
      | (refine HG_split (fun hb => ?_) (fun hb => ?_))
      | (refine HC_split (fun hb => ?_) (fun hb => ?_))
    exact finV_same rfl rfl
  rw [h2]
  refine den_of R.d_digits_Digit (by simp) ?_
  unfold Gn.digits_Digit Gn.digits_Digit_r
  repeat' first
    | (simp (disch := first | omega | assumption) only [go_sem, ↓reduceIte, simprocAttr, reduceCtorEq, *])
    | (refine HG_split (fun hb => ?_) (fun hb => ?_))
    | (refine HC_split (fun hb => ?_) (fun hb => ?_))
  all_goals (try simp only [decide_eq_true_eq, decide_eq_false_iff_not, beq_iff_eq, beq_eq_false_iff_ne, bne_iff_ne, bne_eq_false_iff_eq, ne_eq, Bool.not_eq_true', Bool.not_eq_false', Bool.not_eq_true, Bool.not_eq_false, Decidable.not_not, Bool.and_eq_true, Bool.or_eq_true] at *)
  · rw [if_pos (by assumption)]; exact finV_same rfl rfl
  · rw [if_neg (by omega)]; exact finV_same rfl rfl
end
end Abs
