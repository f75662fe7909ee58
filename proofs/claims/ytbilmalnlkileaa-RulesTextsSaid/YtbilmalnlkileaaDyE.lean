/- Quoted texts, read by the program: the reader's functions. -/
import Derived.Test.YtbilmalnlkileaaDyD
set_option linter.all false

namespace Abs
open Go
set_option linter.all false
set_option maxRecDepth 20000

/-- A cell of a number. -/
def Zc (n : Int) : Option EB := some (.row 1 [.int .i64 n])
/-- A reader of the program's. -/
def RR (S : List UInt8) (P : Int) : Option EB := some (.row 5 [.agg [.str S, .int .i64 P, .nilsl, .nilsl, .nilsl]])
def HH (S : List UInt8) (P : Int) (G : Heap) : Heap := Zc 0 :: Zc 0 :: RR S P :: G

section
variable {E : Env} [R : RulQ E]
def faultE (R : RulQ E) (p : Int) : EV := .iface R.t_rules_fault_rules_fault (.agg [.int .i64 p, .int .i64 2])

theorem rfail_den (p : Int) (H : Heap) : den E R.n_rules_fail [.int .i64 p, .int .i64 2] H = some (.pan (faultE R p), H) := by
  refine den_of R.d_rules_fail (by simp) ?_
  unfold Gn.rules_fail Gn.rules_fail_r faultE
  repeat' first
    | (simp (disch := first | omega | assumption) only [go_sem, ↓reduceIte, simprocAttr, reduceCtorEq, *])
    | (refine HG_split (fun hb => ?_) (fun hb => ?_))
    | (refine HC_split (fun hb => ?_) (fun hb => ?_))
  exact finV_same rfl rfl

/-- An end of a call that turned the reader. -/
theorem finV_read {S : List UInt8} {P P' : Int} {G G' : Heap} {v : EV} {K : EV → ER} {r : ER} (hv : v.ok (G.length + 3) = true) (hl : G'.length = G.length) (ho : okB (G.length + 3) (HH S P' G') = true) (e : K v = r) :
    finV (HH S P G) v K (HH S P' G') = some (r, HH S P' G') := by
  have h := finV_turn (H := HH S P G) (H1 := HH S P' G') (G := []) (v := v) (v' := v) (K := K) (r := r) (newP_ok (by simpa [HH] using hv)) (by rw [fz_ok (by simpa [HH] using hv)]) (by simp [HH, hl]) (by simpa [HH] using ho) e
  simpa using h

theorem rnext_end (S : List UInt8) (P : Nat) (G : Heap) (hb : ∀ b, S[P]? = some b → b.toNat = 10) (hS : S.length ≤ 900000) (hP : P ≤ S.length) : den E R.n_rules_reader_next [.ptr 2 5 0 0] (HH S P G) = some (.ret (.int .u8 0), HH S P G) := by
  refine den_of R.d_rules_reader_next (by simp) ?_
  unfold Gn.rules_reader_next Gn.rules_reader_next_r HH RR
  cases hc : S[P]? with
  | none =>
    have : S.length ≤ P := List.getElem?_eq_none_iff.1 hc
    repeat' first
      | (simp (disch := first | omega | assumption) only [go_sem, ↓reduceIte, simprocAttr, reduceCtorEq, *])
      | (refine HG_split (fun hb => ?_) (fun hb => ?_))
      | (refine HC_split (fun hb => ?_) (fun hb => ?_))
    all_goals (try simp only [decide_eq_true_eq, decide_eq_false_iff_not, beq_iff_eq, beq_eq_false_iff_ne, bne_iff_ne, bne_eq_false_iff_eq, ne_eq, Bool.not_eq_true', Bool.not_eq_false', Bool.not_eq_true, Bool.not_eq_false, Decidable.not_not, Bool.and_eq_true, Bool.or_eq_true] at *)
    all_goals first | omega | exact finV_same rfl rfl
  | some b =>
    have h10 := hb b hc
    have : P < S.length := (List.getElem?_eq_some_iff.1 hc).1
    repeat' first
      | (simp (disch := first | omega | assumption) only [go_sem, ↓reduceIte, simprocAttr, reduceCtorEq, *])
      | (refine HG_split (fun hb => ?_) (fun hb => ?_))
      | (refine HC_split (fun hb => ?_) (fun hb => ?_))
    all_goals (try simp only [decide_eq_true_eq, decide_eq_false_iff_not, beq_iff_eq, beq_eq_false_iff_ne, bne_iff_ne, bne_eq_false_iff_eq, ne_eq, Bool.not_eq_true', Bool.not_eq_false', Bool.not_eq_true, Bool.not_eq_false, Decidable.not_not, Bool.and_eq_true, Bool.or_eq_true] at *)
    all_goals first | omega | exact finV_same rfl rfl

theorem rnext_bad (S : List UInt8) (P : Nat) (G : Heap) (b : UInt8) (hc : S[P]? = some b) (hb : ¬ okQ b) (h10 : b.toNat ≠ 10) (hS : S.length ≤ 900000) : den E R.n_rules_reader_next [.ptr 2 5 0 0] (HH S P G) = some (.pan (faultE R P), HH S P G) := by
  have hf := fun H => rfail_den (E := E) P H
  refine den_of R.d_rules_reader_next (by simp) ?_
  have : P < S.length := (List.getElem?_eq_some_iff.1 hc).1
  unfold okQ at hb
  have hb256 : b.toNat < 256 := b.toNat_lt
  unfold Gn.rules_reader_next Gn.rules_reader_next_r HH RR
  repeat' first
    | (simp (disch := first | omega | assumption) only [go_sem, ↓reduceIte, simprocAttr, reduceCtorEq, *])
    | (refine HG_split (fun hb => ?_) (fun hb => ?_))
    | (refine HC_split (fun hb => ?_) (fun hb => ?_))
  all_goals (try simp only [decide_eq_true_eq, decide_eq_false_iff_not, beq_iff_eq, beq_eq_false_iff_ne, bne_iff_ne, bne_eq_false_iff_eq, ne_eq, Bool.not_eq_true', Bool.not_eq_false', Bool.not_eq_true, Bool.not_eq_false, Decidable.not_not, Bool.and_eq_true, Bool.or_eq_true] at *)
  all_goals first | omega | exact finV_same rfl rfl

theorem rnext_ok (S : List UInt8) (P : Nat) (G : Heap) (b : UInt8) (hc : S[P]? = some b) (hb : okQ b) (hS : S.length ≤ 900000) : den E R.n_rules_reader_next [.ptr 2 5 0 0] (HH S P G) = some (.ret (.int .u8 b.toNat), HH S P G) := by
  refine den_of R.d_rules_reader_next (by simp) ?_
  have : P < S.length := (List.getElem?_eq_some_iff.1 hc).1
  have h1 := hb.1
  have h2 := hb.2
  unfold Gn.rules_reader_next Gn.rules_reader_next_r HH RR
  repeat' first
    | (simp (disch := first | omega | assumption) only [go_sem, ↓reduceIte, simprocAttr, reduceCtorEq, *])
    | (refine HG_split (fun hb => ?_) (fun hb => ?_))
    | (refine HC_split (fun hb => ?_) (fun hb => ?_))
  all_goals (try simp only [decide_eq_true_eq, decide_eq_false_iff_not, beq_iff_eq, beq_eq_false_iff_ne, bne_iff_ne, bne_eq_false_iff_eq, ne_eq, Bool.not_eq_true', Bool.not_eq_false', Bool.not_eq_true, Bool.not_eq_false, Decidable.not_not, Bool.and_eq_true, Bool.or_eq_true] at *)
  all_goals first | omega | exact finV_same rfl rfl

theorem hasPrefix_den (s pre : List UInt8) (hs : s.length ≤ 9223372036854775807) (hp : pre.length ≤ 9223372036854775807) (H : Heap) : den E R.n_strings_HasPrefix [.str s, .str pre] H = some (.ret (.bool (s.take pre.length == pre)), H) := by
  have h1 : den E R.n_internal_stringslite_HasPrefix [.str s, .str pre] H = some (.ret (.bool (s.take pre.length == pre)), H) := by
    refine den_of R.d_internal_stringslite_HasPrefix (by simp) ?_
    unfold Gn.internal_stringslite_HasPrefix Gn.internal_stringslite_HasPrefix_r
    have hlt : ¬ (pre.length ≤ s.length) → (s.take pre.length == pre) = false := fun h => by
      rw [beq_eq_false_iff_ne]
      intro e
      have := congrArg List.length e
      rw [List.length_take] at this
      omega
    by_cases hle : pre.length ≤ s.length
    · repeat' first
        | (simp (disch := first | omega | assumption) only [go_sem, ↓reduceIte, simprocAttr, reduceCtorEq, *])
        | (refine HG_split (fun hb => ?_) (fun hb => ?_))
        | (refine HC_split (fun hb => ?_) (fun hb => ?_))
      all_goals (try simp only [decide_eq_true_eq, decide_eq_false_iff_not, beq_iff_eq, beq_eq_false_iff_ne, bne_iff_ne, bne_eq_false_iff_eq, ne_eq, Bool.not_eq_true', Bool.not_eq_false', Bool.not_eq_true, Bool.not_eq_false, Decidable.not_not, Bool.and_eq_true, Bool.or_eq_true] at *)
      all_goals first | omega | exact finV_same rfl rfl
    · have := hlt hle
      repeat' first
        | (simp (disch := first | omega | assumption) only [go_sem, ↓reduceIte, simprocAttr, reduceCtorEq, *])
        | (refine HG_split (fun hb => ?_) (fun hb => ?_))
        | (refine HC_split (fun hb => ?_) (fun hb => ?_))
      all_goals (try simp only [decide_eq_true_eq, decide_eq_false_iff_not, beq_iff_eq, beq_eq_false_iff_ne, bne_iff_ne, bne_eq_false_iff_eq, ne_eq, Bool.not_eq_true', Bool.not_eq_false', Bool.not_eq_true, Bool.not_eq_false, Decidable.not_not, Bool.and_eq_true, Bool.or_eq_true] at *)
      all_goals first | omega | exact finV_same rfl rfl
  refine den_of R.d_strings_HasPrefix (by simp) ?_
  unfold Gn.strings_HasPrefix Gn.strings_HasPrefix_r
  repeat' first
    | (simp (disch := first | omega | assumption) only [go_sem, ↓reduceIte, simprocAttr, reduceCtorEq, *])
    | (refine HG_split (fun hb => ?_) (fun hb => ?_))
    | (refine HC_split (fun hb => ?_) (fun hb => ?_))
  exact finV_same rfl rfl
end
end Abs
