/- Quoted texts, read by the program: escapes, and what is deferred. -/
import Derived.Test.YtbilmalnlkileaaDyF
set_option linter.all false

namespace Abs
open Go
set_option linter.all false
set_option maxRecDepth 20000

section
variable {E : Env} [R : RulQ E]

theorem not_ok {S : List UInt8} {q : Nat} (h : ∀ b, S[q]? = some b → ¬ okQ b) : (∀ b, S[q]? = some b → b.toNat = 10) ∨ ∃ c, S[q]? = some c ∧ ¬ okQ c ∧ c.toNat ≠ 10 := by
  cases hc : S[q]? with
  | none => exact .inl fun b hb => by simp at hb
  | some c =>
    by_cases h10 : c.toNat = 10
    · exact .inl fun b hb => by obtain rfl := Option.some.inj hb; exact h10
    · exact .inr ⟨c, rfl, h c hc, h10⟩
theorem is_ok {S : List UInt8} {q : Nat} (h : ¬ ∀ b, S[q]? = some b → ¬ okQ b) : ∃ c, S[q]? = some c ∧ okQ c := by
  cases hc : S[q]? with
  | none => exact absurd (fun b hb => by rw [hc] at hb; simp at hb) h
  | some c =>
    refine ⟨c, rfl, ?_⟩
    apply Classical.byContradiction
    intro h'
    exact h fun b hb => by rw [hc] at hb; obtain rfl := Option.some.inj hb; exact h'

/-- How two digits end. -/
inductive HexR where
  | ok (v : UInt8)
  | er (k : Nat)
def hexAt (S : List UInt8) (q : Nat) : HexR :=
  match (S[q]?).bind hexV with
  | none => .er 0
  | some h =>
    match (S[q + 1]?).bind hexV with
    | none => .er 1
    | some l => .ok (UInt8.ofNat (16 * h + l))

theorem hexV_ok {c : UInt8} {n : Nat} (h : hexV c = some n) : okQ c ∧ n < 16 := by
  unfold hexV at h
  unfold okQ
  split at h
  · obtain rfl := Option.some.inj h; omega
  · split at h
    · obtain rfl := Option.some.inj h; omega
    · split at h
      · obtain rfl := Option.some.inj h; omega
      · simp at h

theorem idx_at (e : UInt8) : Go.Lib.indexByte [34, 92, 110, 114, 116, 120] (UInt8.ofNat e.toNat) = if e.toNat = 34 then 0 else if e.toNat = 92 then 1 else if e.toNat = 110 then 2 else if e.toNat = 114 then 3 else if e.toNat = 116 then 4 else if e.toNat = 120 then 5 else -1 :=
  idx_esc e.toNat e.toNat_lt

set_option maxHeartbeats 4000000
section
variable (S : List UInt8) (q : Nat) {x : EV} {out : List UInt8} {G : Heap} (ho : OutIs x out G) (hS : S.length ≤ 900000)
include ho hS

/-- No escape stands next. -/
theorem esc_bad0 (hq : q ≤ S.length) (h : ∀ b, S[q]? = some b → ¬ okQ b) : den E R.n_rules_reader_escape [.ptr 2 5 0 0] (HH S q G) = some (.pan (faultE R q), HH S q G) := by
  have hf := fun H => rfail_den (E := E) q H
  have hi : ∀ H, den E R.n_strings_IndexByte [.str [34, 92, 110, 114, 116, 120], .int .u8 0] H = some (.ret (.int .i64 (-1)), H) := fun H => indexByte_den [34, 92, 110, 114, 116, 120] 0 (by omega) H
  refine den_of R.d_rules_reader_escape (by simp) ?_
  unfold Gn.rules_reader_escape Gn.rules_reader_escape_r
  rcases not_ok h with h | ⟨c, hc, hcb, h10⟩
  · have hn := rnext_end (E := E) S q G h hS hq
    unfold HH RR at hn ⊢
    repeat' first
      | (simp (disch := first | omega | assumption) only [go_sem, ↓reduceIte, simprocAttr, reduceCtorEq, *])
      | (refine HG_split (fun hb => ?_) (fun hb => ?_))
      | (refine HC_split (fun hb => ?_) (fun hb => ?_))
    exact finV_same rfl rfl
  · have hn := rnext_bad (E := E) S q G c hc hcb h10 hS
    unfold HH RR at hn ⊢
    repeat' first
      | (simp (disch := first | omega | assumption) only [go_sem, ↓reduceIte, simprocAttr, reduceCtorEq, *])
      | (refine HG_split (fun hb => ?_) (fun hb => ?_))
      | (refine HC_split (fun hb => ?_) (fun hb => ?_))
    exact finV_same rfl rfl

theorem esc_bad1 (e : UInt8) (he : S[q]? = some e) (hok : okQ e) (hv : escB e = none) (h120 : e.toNat ≠ 120) : den E R.n_rules_reader_escape [.ptr 2 5 0 0] (HH S q G) = some (.pan (faultE R q), HH S q G) := by
  have hf := fun H => rfail_den (E := E) q H
  have hi : ∀ H, den E R.n_strings_IndexByte [.str [34, 92, 110, 114, 116, 120], .int .u8 e.toNat] H = some (.ret (.int .i64 (-1)), H) := fun H => by
    rw [indexByte_den [34, 92, 110, 114, 116, 120] e.toNat e.toNat_lt H, idx_at]
    unfold escB at hv
    rw [if_neg, if_neg, if_neg, if_neg, if_neg, if_neg h120] <;> (intro h; simp [h] at hv)
  refine den_of R.d_rules_reader_escape (by simp) ?_
  unfold Gn.rules_reader_escape Gn.rules_reader_escape_r
  have hn := rnext_ok (E := E) S q G e he hok hS
  have h1 := hok.1
  unfold HH RR at hn ⊢
  repeat' first
    | (simp (disch := first | omega | assumption) only [go_sem, ↓reduceIte, simprocAttr, reduceCtorEq, *])
    | (refine HG_split (fun hb => ?_) (fun hb => ?_))
    | (refine HC_split (fun hb => ?_) (fun hb => ?_))
  all_goals (try simp only [decide_eq_true_eq, decide_eq_false_iff_not, beq_iff_eq, beq_eq_false_iff_ne, bne_iff_ne, bne_eq_false_iff_eq, ne_eq, Bool.not_eq_true', Bool.not_eq_false', Bool.not_eq_true, Bool.not_eq_false, Decidable.not_not, Bool.and_eq_true, Bool.or_eq_true] at *)
  all_goals first | omega | exact finV_same rfl rfl

theorem esc_one (e v : UInt8) (he : S[q]? = some e) (hok : okQ e) (hv : escB e = some v) : den E R.n_rules_reader_escape [.ptr 2 5 0 0] (HH S q G) = some (.ret (.int .u8 v.toNat), HH S ((q + 1 : Nat) : Int) G) := by
  have hlt : q < S.length := (List.getElem?_eq_some_iff.1 he).1
  have hvv : e.toNat = 34 ∧ v.toNat = 34 ∨ e.toNat = 92 ∧ v.toNat = 92 ∨ e.toNat = 110 ∧ v.toNat = 10 ∨ e.toNat = 114 ∧ v.toNat = 13 ∨ e.toNat = 116 ∧ v.toNat = 9 := by
    unfold escB at hv
    split at hv
    · rename_i h; obtain rfl := Option.some.inj hv; exact .inl ⟨h, rfl⟩
    · split at hv
      · rename_i h; obtain rfl := Option.some.inj hv; exact .inr (.inl ⟨h, rfl⟩)
      · split at hv
        · rename_i h; obtain rfl := Option.some.inj hv; exact .inr (.inr (.inl ⟨h, rfl⟩))
        · split at hv
          · rename_i h; obtain rfl := Option.some.inj hv; exact .inr (.inr (.inr (.inl ⟨h, rfl⟩)))
          · split at hv
            · rename_i h; obtain rfl := Option.some.inj hv; exact .inr (.inr (.inr (.inr ⟨h, rfl⟩)))
            · simp at hv
  have hn := rnext_ok (E := E) S q G e he hok hS
  have hi := fun H => indexByte_den (E := E) [34, 92, 110, 114, 116, 120] e.toNat e.toNat_lt H
  simp only [idx_at] at hi
  have hfin := finV_read (S := S) (P := q) (P' := ((q + 1 : Nat) : Int)) (G := G) (G' := G) (v := .int .u8 v.toNat) (K := .ret) rfl rfl (okB_HH ho _ _ _) rfl
  have hP1 : (q : Int) + 1 = ((q + 1 : Nat) : Int) := rfl
  refine den_of R.d_rules_reader_escape (by simp) ?_
  unfold Gn.rules_reader_escape Gn.rules_reader_escape_r
  unfold HH RR at hn hfin ⊢
  rcases hvv with ⟨h, g⟩ | ⟨h, g⟩ | ⟨h, g⟩ | ⟨h, g⟩ | ⟨h, g⟩ <;> rw [g] at hfin ⊢ <;> rw [h] at hn hi <;> simp only [Int.cast_ofNat_Int, if_true] at hn hi hfin ⊢
  · repeat' first
      | (simp (disch := first | omega | assumption) only [go_sem, ↓reduceIte, simprocAttr, reduceCtorEq, *])
      | (refine HG_split (fun hb => ?_) (fun hb => ?_))
      | (refine HC_split (fun hb => ?_) (fun hb => ?_))
  · repeat' first
      | (simp (disch := first | omega | assumption) only [go_sem, ↓reduceIte, simprocAttr, reduceCtorEq, *])
      | (refine HG_split (fun hb => ?_) (fun hb => ?_))
      | (refine HC_split (fun hb => ?_) (fun hb => ?_))
  · repeat' first
      | (simp (disch := first | omega | assumption) only [go_sem, ↓reduceIte, simprocAttr, reduceCtorEq, *])
      | (refine HG_split (fun hb => ?_) (fun hb => ?_))
      | (refine HC_split (fun hb => ?_) (fun hb => ?_))
  · repeat' first
      | (simp (disch := first | omega | assumption) only [go_sem, ↓reduceIte, simprocAttr, reduceCtorEq, *])
      | (refine HG_split (fun hb => ?_) (fun hb => ?_))
      | (refine HC_split (fun hb => ?_) (fun hb => ?_))
  · repeat' first
      | (simp (disch := first | omega | assumption) only [go_sem, ↓reduceIte, simprocAttr, reduceCtorEq, *])
      | (refine HG_split (fun hb => ?_) (fun hb => ?_))
      | (refine HC_split (fun hb => ?_) (fun hb => ?_))

theorem esc_x (e : UInt8) (he : S[q]? = some e) (h120 : e.toNat = 120) : den E R.n_rules_reader_escape [.ptr 2 5 0 0] (HH S q G) = some (match hexAt S (q + 1) with
    | .ok v => (.ret (.int .u8 v.toNat), HH S ((q + 3 : Nat) : Int) G)
    | .er k => (.pan (faultE R ((q + 1 + k : Nat) : Int)), HH S ((q + 1 + k : Nat) : Int) G)) := by
  have hlt : q < S.length := (List.getElem?_eq_some_iff.1 he).1
  have hok : okQ e := ⟨by omega, by omega⟩
  have hn := rnext_ok (E := E) S q G e he hok hS
  have hi : ∀ H, den E R.n_strings_IndexByte [.str [34, 92, 110, 114, 116, 120], .int .u8 120] H = some (.ret (.int .i64 5), H) := fun H => by
    have := indexByte_den (E := E) [34, 92, 110, 114, 116, 120] e.toNat e.toNat_lt H
    rw [idx_at, h120] at this
    exact this
  rw [h120] at hn
  simp only [Int.cast_ofNat_Int] at hn
  have hf := fun (p : Int) H => rfail_den (E := E) p H
  have dig0 : ∀ H, den E R.n_digits_Digit [.int .u8 0, .int .i64 16] H = some (.ret (.int .i64 (-1)), H) := fun H => digit_den 0 H
  have hP1 : (q : Int) + 1 = ((q + 1 : Nat) : Int) := rfl
  have hP2 : ((q + 1 : Nat) : Int) + 1 = ((q + 2 : Nat) : Int) := rfl
  have hP3 : ((q + 2 : Nat) : Int) + 1 = ((q + 3 : Nat) : Int) := rfl
  have fin1 := fun v K r hv e => finV_read (S := S) (P := q) (P' := ((q + 1 : Nat) : Int)) (G := G) (G' := G) (v := v) (K := K) (r := r) hv rfl (okB_HH ho _ _ _) e
  have fin2 := fun v K r hv e => finV_read (S := S) (P := q) (P' := ((q + 2 : Nat) : Int)) (G := G) (G' := G) (v := v) (K := K) (r := r) hv rfl (okB_HH ho _ _ _) e
  cases h1 : (S[q + 1]?).bind hexV with
  | none =>
    have hx : hexAt S (q + 1) = .er 0 := by unfold hexAt; rw [h1]
    rw [hx]
    simp only [Nat.add_zero]
    refine den_of R.d_rules_reader_escape (by simp) ?_
    unfold Gn.rules_reader_escape Gn.rules_reader_escape_r
    by_cases hz : ∀ b, S[q + 1]? = some b → ¬ okQ b
    · rcases not_ok hz with h | ⟨c, hc, hcb, h10⟩
      · have hn2 := rnext_end (E := E) S (q + 1) G h hS (by omega)
        unfold HH RR at hn hn2 fin1 ⊢
        simp (disch := omega) only [go_sem, ↓reduceIte, simprocAttr, reduceCtorEq, *]
        refine Hd_loop ?_
        repeat' first
          | (simp (disch := first | omega | assumption) only [go_sem, ↓reduceIte, simprocAttr, reduceCtorEq, *])
          | (refine HG_split (fun hb => ?_) (fun hb => ?_))
          | (refine HC_split (fun hb => ?_) (fun hb => ?_))
        exact fin1 _ _ _ rfl rfl
      · have hn2 := rnext_bad (E := E) S (q + 1) G c hc hcb h10 hS
        unfold HH RR at hn hn2 fin1 ⊢
        simp (disch := omega) only [go_sem, ↓reduceIte, simprocAttr, reduceCtorEq, *]
        refine Hd_loop ?_
        repeat' first
          | (simp (disch := first | omega | assumption) only [go_sem, ↓reduceIte, simprocAttr, reduceCtorEq, *])
          | (refine HG_split (fun hb => ?_) (fun hb => ?_))
          | (refine HC_split (fun hb => ?_) (fun hb => ?_))
        exact fin1 _ _ _ rfl rfl
    · obtain ⟨c, hc, hcok⟩ := is_ok hz
      have hn2 := rnext_ok (E := E) S (q + 1) G c hc hcok hS
      have hd := fun H => digit_den (E := E) c H
      rw [hc] at h1
      simp only [Option.bind_some] at h1
      simp only [hexI, h1] at hd
      unfold HH RR at hn hn2 fin1 ⊢
      simp (disch := omega) only [go_sem, ↓reduceIte, simprocAttr, reduceCtorEq, *]
      refine Hd_loop ?_
      repeat' first
        | (simp (disch := first | omega | assumption) only [go_sem, ↓reduceIte, simprocAttr, reduceCtorEq, *])
        | (refine HG_split (fun hb => ?_) (fun hb => ?_))
        | (refine HC_split (fun hb => ?_) (fun hb => ?_))
      exact fin1 _ _ _ rfl rfl
  | some hv =>
    obtain ⟨c, hc, hcv⟩ : ∃ c, S[q + 1]? = some c ∧ hexV c = some hv := by simpa [Option.bind_eq_some_iff] using h1
    obtain ⟨hcok, hv16⟩ := hexV_ok hcv
    have hlt1 : q + 1 < S.length := (List.getElem?_eq_some_iff.1 hc).1
    have hn2 := rnext_ok (E := E) S (q + 1) G c hc hcok hS
    have hd := fun H => digit_den (E := E) c H
    simp only [hexI, hcv] at hd
    cases h2 : (S[q + 1 + 1]?).bind hexV with
    | none =>
      have hx : hexAt S (q + 1) = .er 1 := by unfold hexAt; rw [h1]; simp only; rw [h2]
      rw [hx]
      simp only
      refine den_of R.d_rules_reader_escape (by simp) ?_
      unfold Gn.rules_reader_escape Gn.rules_reader_escape_r
      by_cases hz : ∀ b, S[q + 2]? = some b → ¬ okQ b
      · rcases not_ok hz with h | ⟨d, hdd, hcb, h10⟩
        · have hn3 := rnext_end (E := E) S (q + 2) G h hS (by omega)
          unfold HH RR at hn hn2 hn3 fin2 ⊢
          simp (disch := omega) only [go_sem, ↓reduceIte, simprocAttr, reduceCtorEq, *]
          refine Hd_loop ?_
          repeat' first
            | (simp (disch := first | omega | assumption) only [go_sem, ↓reduceIte, simprocAttr, reduceCtorEq, *])
            | (refine HG_split (fun hb => ?_) (fun hb => ?_))
            | (refine HC_split (fun hb => ?_) (fun hb => ?_))
          all_goals (try simp only [decide_eq_true_eq, decide_eq_false_iff_not, beq_iff_eq, beq_eq_false_iff_ne, bne_iff_ne, bne_eq_false_iff_eq, ne_eq, Bool.not_eq_true', Bool.not_eq_false', Bool.not_eq_true, Bool.not_eq_false, Decidable.not_not, Bool.and_eq_true, Bool.or_eq_true] at *)
          all_goals first | omega | skip
          refine Hd_loop ?_
          repeat' first
            | (simp (disch := first | omega | assumption) only [go_sem, ↓reduceIte, simprocAttr, reduceCtorEq, *])
            | (refine HG_split (fun hb => ?_) (fun hb => ?_))
            | (refine HC_split (fun hb => ?_) (fun hb => ?_))
          exact fin2 _ _ _ rfl rfl
        · have hn3 := rnext_bad (E := E) S (q + 2) G d hdd hcb h10 hS
          unfold HH RR at hn hn2 hn3 fin2 ⊢
          simp (disch := omega) only [go_sem, ↓reduceIte, simprocAttr, reduceCtorEq, *]
          refine Hd_loop ?_
          repeat' first
            | (simp (disch := first | omega | assumption) only [go_sem, ↓reduceIte, simprocAttr, reduceCtorEq, *])
            | (refine HG_split (fun hb => ?_) (fun hb => ?_))
            | (refine HC_split (fun hb => ?_) (fun hb => ?_))
          all_goals (try simp only [decide_eq_true_eq, decide_eq_false_iff_not, beq_iff_eq, beq_eq_false_iff_ne, bne_iff_ne, bne_eq_false_iff_eq, ne_eq, Bool.not_eq_true', Bool.not_eq_false', Bool.not_eq_true, Bool.not_eq_false, Decidable.not_not, Bool.and_eq_true, Bool.or_eq_true] at *)
          all_goals first | omega | skip
          refine Hd_loop ?_
          repeat' first
            | (simp (disch := first | omega | assumption) only [go_sem, ↓reduceIte, simprocAttr, reduceCtorEq, *])
            | (refine HG_split (fun hb => ?_) (fun hb => ?_))
            | (refine HC_split (fun hb => ?_) (fun hb => ?_))
          exact fin2 _ _ _ rfl rfl
      · obtain ⟨d, hdd, hdok⟩ := is_ok hz
        have hn3 := rnext_ok (E := E) S (q + 2) G d hdd hdok hS
        have hd2 := fun H => digit_den (E := E) d H
        rw [show q + 1 + 1 = q + 2 from rfl, hdd] at h2
        simp only [Option.bind_some] at h2
        simp only [hexI, h2] at hd2
        unfold HH RR at hn hn2 hn3 fin2 ⊢
        simp (disch := omega) only [go_sem, ↓reduceIte, simprocAttr, reduceCtorEq, *]
        refine Hd_loop ?_
        repeat' first
          | (simp (disch := first | omega | assumption) only [go_sem, ↓reduceIte, simprocAttr, reduceCtorEq, *])
          | (refine HG_split (fun hb => ?_) (fun hb => ?_))
          | (refine HC_split (fun hb => ?_) (fun hb => ?_))
        all_goals (try simp only [decide_eq_true_eq, decide_eq_false_iff_not, beq_iff_eq, beq_eq_false_iff_ne, bne_iff_ne, bne_eq_false_iff_eq, ne_eq, Bool.not_eq_true', Bool.not_eq_false', Bool.not_eq_true, Bool.not_eq_false, Decidable.not_not, Bool.and_eq_true, Bool.or_eq_true] at *)
        all_goals first | omega | skip
        refine Hd_loop ?_
        repeat' first
          | (simp (disch := first | omega | assumption) only [go_sem, ↓reduceIte, simprocAttr, reduceCtorEq, *])
          | (refine HG_split (fun hb => ?_) (fun hb => ?_))
          | (refine HC_split (fun hb => ?_) (fun hb => ?_))
        exact fin2 _ _ _ rfl rfl
    | some lv =>
      obtain ⟨d, hdd, hdv⟩ : ∃ c, S[q + 2]? = some c ∧ hexV c = some lv := by simpa [Option.bind_eq_some_iff] using h2
      obtain ⟨hdok, lv16⟩ := hexV_ok hdv
      have hlt2 : q + 2 < S.length := (List.getElem?_eq_some_iff.1 hdd).1
      have hn3 := rnext_ok (E := E) S (q + 2) G d hdd hdok hS
      have hd2 := fun H => digit_den (E := E) d H
      simp only [hexI, hdv] at hd2
      have fin3 := fun v K r hv e => finV_read (S := S) (P := q) (P' := ((q + 3 : Nat) : Int)) (G := G) (G' := G) (v := v) (K := K) (r := r) hv rfl (okB_HH ho _ _ _) e
      have hval : ((UInt8.ofNat (16 * hv + lv)).toNat : Int) = 16 * (hv : Int) + (lv : Int) := by
        rw [UInt8.toNat_ofNat']; omega
      have hw0 : (0 : Int) + (hv : Int) = (hv : Int) := Int.zero_add _
      have hw1 : IntKind.i64.wrap (16 * (hv : Int)) = 16 * (hv : Int) := wrap_i64 (by omega) (by omega)
      have hw2 : IntKind.i64.wrap (16 * (hv : Int) + lv) = 16 * (hv : Int) + lv := wrap_i64 (by omega) (by omega)
      have hw3 : IntKind.u8.wrap (16 * (hv : Int) + lv) = 16 * (hv : Int) + lv := by simp [IntKind.wrap, IntKind.signed, IntKind.bits]; omega
      have hx : hexAt S (q + 1) = .ok (UInt8.ofNat (16 * hv + lv)) := by unfold hexAt; rw [h1]; simp only; rw [h2]
      rw [hx]
      simp only
      refine den_of R.d_rules_reader_escape (by simp) ?_
      unfold Gn.rules_reader_escape Gn.rules_reader_escape_r
      unfold HH RR at hn hn2 hn3 fin3 ⊢
      simp (disch := omega) only [go_sem, ↓reduceIte, simprocAttr, reduceCtorEq, *]
      refine Hd_loop ?_
      repeat' first
        | (simp (disch := first | omega | assumption) only [go_sem, ↓reduceIte, simprocAttr, reduceCtorEq, *])
        | (refine HG_split (fun hb => ?_) (fun hb => ?_))
        | (refine HC_split (fun hb => ?_) (fun hb => ?_))
      all_goals (try simp only [decide_eq_true_eq, decide_eq_false_iff_not, beq_iff_eq, beq_eq_false_iff_ne, bne_iff_ne, bne_eq_false_iff_eq, ne_eq, Bool.not_eq_true', Bool.not_eq_false', Bool.not_eq_true, Bool.not_eq_false, Decidable.not_not, Bool.and_eq_true, Bool.or_eq_true] at *)
      all_goals first | omega | skip
      refine Hd_loop ?_
      repeat' first
        | (simp (disch := first | omega | assumption) only [go_sem, ↓reduceIte, simprocAttr, reduceCtorEq, *])
        | (refine HG_split (fun hb => ?_) (fun hb => ?_))
        | (refine HC_split (fun hb => ?_) (fun hb => ?_))
      all_goals (try simp only [decide_eq_true_eq, decide_eq_false_iff_not, beq_iff_eq, beq_eq_false_iff_ne, bne_iff_ne, bne_eq_false_iff_eq, ne_eq, Bool.not_eq_true', Bool.not_eq_false', Bool.not_eq_true, Bool.not_eq_false, Decidable.not_not, Bool.and_eq_true, Bool.or_eq_true] at *)
      all_goals first | omega | skip
      refine Hd_loop ?_
      repeat' first
        | (simp (disch := first | omega | assumption) only [go_sem, ↓reduceIte, simprocAttr, reduceCtorEq, *])
        | (refine HG_split (fun hb => ?_) (fun hb => ?_))
        | (refine HC_split (fun hb => ?_) (fun hb => ?_))
      exact fin3 _ _ _ rfl rfl
end
end
end Abs
