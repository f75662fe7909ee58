/- Names: rxparse.MayName, and the document's. -/
import Derived.Test.YtihgbhkpjehhcaaGnA
namespace Abs
open Go
set_option linter.all false
set_option maxRecDepth 20000

def nameAt (j : Nat) (b : UInt8) : Bool := (decide (97 ≤ b.toNat) && decide (b.toNat ≤ 122)) || (decide (j ≠ 0) && (decide (48 ≤ b.toNat) && decide (b.toNat ≤ 57)))
def nameB (s : List UInt8) : Bool := decide (s.length ≠ 0) && decide (s.length ≤ 24) && decide (∀ j, j < s.length → nameAt j (s.getD j 0) = true)

theorem nameAt_t {j : Nat} {b : UInt8} (h : (97 ≤ (b.toNat : Int) ∧ (b.toNat : Int) ≤ 122) ∨ (j ≠ 0 ∧ 48 ≤ (b.toNat : Int) ∧ (b.toNat : Int) ≤ 57)) : nameAt j b = true := by
  unfold nameAt
  simp only [Bool.or_eq_true, Bool.and_eq_true, decide_eq_true_eq]
  omega
theorem nameAt_f {j : Nat} {b : UInt8} (h : ¬ (97 ≤ (b.toNat : Int) ∧ (b.toNat : Int) ≤ 122)) (h2 : ¬ (j ≠ 0 ∧ 48 ≤ (b.toNat : Int) ∧ (b.toNat : Int) ≤ 57)) : nameAt j b = false := by
  unfold nameAt
  rw [Bool.eq_false_iff]
  simp only [ne_eq, Bool.or_eq_true, Bool.and_eq_true, decide_eq_true_eq]
  omega

theorem cast_succ (i : Nat) : ((i + 1 : Nat) : Int) = (i : Int) + 1 := rfl

section
variable {E : Env}

set_option maxHeartbeats 4000000 in
theorem mayName_den {f : FuncId} (hT : Def E f Gn.rxparse_MayName Gn.rxparse_MayName_r 46) (s : List UInt8) (hs : s.length ≤ 9223372036854775807) (H : Heap) : den E f [.str s] H = some (.ret (.bool (nameB s)), H) := by
  refine den_of hT (by simp) ?_
  unfold Gn.rxparse_MayName Gn.rxparse_MayName_r
  simp (disch := omega) only [go_sem, ↓reduceIte, simprocAttr, reduceCtorEq]
  refine while_of (ι := Nat) (fun i => i ≤ s.length ∧ ∀ j, j < i → nameAt j (s.getD j 0) = true) (fun i => s.length - i) (fun i => [(0, .str s), (6, .int .i64 s.length), (7, .int .i64 i)]) (fun _ => H) 0 ⟨by omega, by simp⟩ ?_ rfl ?_
  · simp (disch := omega) only [go_sem, ↓reduceIte, simprocAttr, reduceCtorEq, Sl]
  · intro i t hi ht K hK
    simp (disch := omega) only [go_sem, ↓reduceIte, simprocAttr, reduceCtorEq, Sl] at ht
    simp (disch := omega) only [go_sem, ↓reduceIte, simprocAttr, reduceCtorEq, ht]
    refine HC_dec (fun h => ?_) (fun h => ?_)
    · have hlt : i < s.length := by omega
      obtain ⟨b, hb⟩ : ∃ b, s[i]? = some b := ⟨s[i], by simp [hlt]⟩
      have hD : s.getD i 0 = b := by simp [List.getD, hb]
      have hb256 : b.toNat < 256 := b.toNat_lt
      have go : nameAt i b = true → ∀ t' H', Sl t' [(0, .str s), (6, .int .i64 s.length), (7, .int .i64 ((i + 1 : Nat) : Int))] → H' = H → K t' H' := fun hn t' H' h1 h2 => hK (i + 1) t' H' ⟨by omega, fun j hj => by
        rcases Nat.lt_or_ge j i with hji | hji
        · exact hi.2 j hji
        · have : j = i := by omega
          subst this; rw [hD]; exact hn⟩ (by omega) h1 h2
      have stop : nameAt i b = false → nameB s = false := fun hn => by
        unfold nameB
        have : ¬ ∀ j, j < s.length → nameAt j (s.getD j 0) = true := fun hh => by have := hh i hlt; rw [hD, hn] at this; simp at this
        simp only [this, decide_false, Bool.and_false]
      repeat' first
        | (simp (disch := first | omega | assumption) only [go_sem, ↓reduceIte, simprocAttr, reduceCtorEq, hb, *])
        | (refine HG_split (fun hb => ?_) (fun hb => ?_))
        | (refine HC_split (fun hb => ?_) (fun hb => ?_))
      all_goals (try simp only [decide_eq_true_eq, decide_eq_false_iff_not, beq_iff_eq, beq_eq_false_iff_ne, bne_iff_ne, bne_eq_false_iff_eq, ne_eq, Bool.not_eq_true', Bool.not_eq_false', Bool.not_eq_true, Bool.not_eq_false, Decidable.not_not, Bool.and_eq_true, Bool.or_eq_true] at *)
      all_goals first
        | (rw [stop (nameAt_f (by omega) (by omega))]; exact finV_same rfl rfl)
        | (refine go (nameAt_t (by omega)) _ _ ?_ rfl; simp (disch := omega) only [go_sem, ↓reduceIte, simprocAttr, reduceCtorEq, Sl, ht, cast_succ])
    · have hi' : i = s.length := by omega
      subst hi'
      have hall : (∀ j, j < s.length → nameAt j (s.getD j 0) = true) := hi.2
      have hB : nameB s = (decide (s.length ≠ 0) && decide (s.length ≤ 24)) := by
        unfold nameB
        rw [show decide (∀ j, j < s.length → nameAt j (s.getD j 0) = true) = true from decide_eq_true hall, Bool.and_true]
      rw [hB]
      cases s with
      | nil =>
        repeat' first
          | (simp (disch := first | omega | assumption) only [go_sem, ↓reduceIte, simprocAttr, reduceCtorEq, *])
          | (refine HG_split (fun hb => ?_) (fun hb => ?_))
          | (refine HC_split (fun hb => ?_) (fun hb => ?_))
        exact finV_same rfl rfl
      | cons c s =>
        have hne : ((c :: s) == ([] : List UInt8)) = false := rfl
        repeat' first
          | (simp (disch := first | omega | assumption) only [go_sem, ↓reduceIte, simprocAttr, reduceCtorEq, hne, *])
          | (refine HG_split (fun hb => ?_) (fun hb => ?_))
          | (refine HC_split (fun hb => ?_) (fun hb => ?_))
        refine finV_same rfl ?_
        simp only [List.length_cons, ne_eq, Nat.add_eq_zero_iff, Nat.one_ne_zero, and_false, not_false_eq_true, decide_true, Bool.true_and, ER.ret.injEq, EV.bool.injEq, decide_eq_decide]
        omega

set_option maxHeartbeats 4000000 in
theorem refMayName_den {f : FuncId} (hT : Def E f Gn.hackleref06_MayName Gn.hackleref06_MayName_r 51) (s : List UInt8) (hs : s.length ≤ 9223372036854775807) (H : Heap) : den E f [.str s] H = some (.ret (.bool (nameB s)), H) := by
  refine den_of hT (by simp) ?_
  unfold Gn.hackleref06_MayName Gn.hackleref06_MayName_r
  cases s with
  | nil =>
    repeat' first
      | (simp (disch := first | omega | assumption) only [go_sem, ↓reduceIte, simprocAttr, reduceCtorEq, *])
      | (refine HG_split (fun hb => ?_) (fun hb => ?_))
      | (refine HC_split (fun hb => ?_) (fun hb => ?_))
    exact finV_same rfl rfl
  | cons c s =>
    have h0 : (c :: s)[0]? = some c := rfl
    have hc : c.toNat < 256 := c.toNat_lt
    have hl : 1 ≤ (c :: s).length := by simp
    obtain ⟨s', hs'⟩ : ∃ s', s' = c :: s := ⟨_, rfl⟩
    rw [← hs'] at h0 hl hs ⊢
    clear hs'
    have hD0 : s'.getD 0 0 = c := by simp [List.getD, h0]
    have bad : s'.length > 24 ∨ nameAt 0 c = false → nameB s' = false := fun h => by
      unfold nameB
      rcases h with h | h
      · rw [show decide (s'.length ≤ 24) = false from decide_eq_false (by omega)]; simp
      · have : ¬ ∀ j, j < s'.length → nameAt j (s'.getD j 0) = true := fun hh => by have := hh 0 (by omega); rw [hD0, h] at this; simp at this
        simp only [this, decide_false, Bool.and_false]
    repeat' first
      | (simp (disch := first | omega | assumption) only [go_sem, ↓reduceIte, simprocAttr, reduceCtorEq, h0, *])
      | (refine HG_split (fun hb => ?_) (fun hb => ?_))
      | (refine HC_split (fun hb => ?_) (fun hb => ?_))
    all_goals (try simp only [decide_eq_true_eq, decide_eq_false_iff_not, beq_iff_eq, beq_eq_false_iff_ne, bne_iff_ne, bne_eq_false_iff_eq, ne_eq, Bool.not_eq_true', Bool.not_eq_false', Bool.not_eq_true, Bool.not_eq_false, Decidable.not_not, Bool.and_eq_true, Bool.or_eq_true] at *)
    all_goals first
      | omega
      | (rw [bad (.inl (by omega))]; exact finV_same rfl rfl)
      | (rw [bad (.inr (nameAt_f (by omega) (by omega)))]; exact finV_same rfl rfl)
      | skip
    refine while_of (ι := Nat) (fun i => 1 ≤ i ∧ i ≤ s'.length ∧ ∀ j, j < i → nameAt j (s'.getD j 0) = true) (fun i => s'.length - i) (fun i => [(0, .str s'), (3, .int .i64 i)]) (fun _ => H) 1 ⟨by omega, by omega, fun j hj => ?_⟩ ?_ rfl ?_
    · have : j = 0 := by omega
      subst this
      rw [hD0]
      exact nameAt_t (by omega)
    · simp (disch := omega) only [go_sem, ↓reduceIte, simprocAttr, reduceCtorEq, Sl]
    · intro i t hi ht K hK
      simp (disch := omega) only [go_sem, ↓reduceIte, simprocAttr, reduceCtorEq, Sl] at ht
      repeat' first
        | (simp (disch := first | omega | assumption) only [go_sem, ↓reduceIte, simprocAttr, reduceCtorEq, *])
        | (refine HG_split (fun hb => ?_) (fun hb => ?_))
        | (refine HC_split (fun hb => ?_) (fun hb => ?_))
      · have hlt : i < s'.length := by (try simp only [decide_eq_true_eq, decide_eq_false_iff_not, beq_iff_eq, beq_eq_false_iff_ne, bne_iff_ne, bne_eq_false_iff_eq, ne_eq, Bool.not_eq_true', Bool.not_eq_false', Bool.not_eq_true, Bool.not_eq_false, Decidable.not_not, Bool.and_eq_true, Bool.or_eq_true] at *); omega
        obtain ⟨b, hb⟩ : ∃ b, s'[i]? = some b := ⟨s'[i], by simp [hlt]⟩
        have hD : s'.getD i 0 = b := by simp [List.getD, hb]
        have hb256 : b.toNat < 256 := b.toNat_lt
        have go : nameAt i b = true → ∀ t' H', Sl t' [(0, .str s'), (3, .int .i64 ((i + 1 : Nat) : Int))] → H' = H → K t' H' := fun hn t' H' h1 h2 => hK (i + 1) t' H' ⟨by omega, by omega, fun j hj => by
          rcases Nat.lt_or_ge j i with hji | hji
          · exact hi.2.2 j hji
          · have : j = i := by omega
            subst this; rw [hD]; exact hn⟩ (by omega) h1 h2
        have stop : nameAt i b = false → nameB s' = false := fun hn => by
          unfold nameB
          have : ¬ ∀ j, j < s'.length → nameAt j (s'.getD j 0) = true := fun hh => by have := hh i hlt; rw [hD, hn] at this; simp at this
          simp only [this, decide_false, Bool.and_false]
        repeat' first
          | (simp (disch := first | omega | assumption) only [go_sem, ↓reduceIte, simprocAttr, reduceCtorEq, hb, *])
          | (refine HG_split (fun hb => ?_) (fun hb => ?_))
          | (refine HC_split (fun hb => ?_) (fun hb => ?_))
        all_goals (try simp only [decide_eq_true_eq, decide_eq_false_iff_not, beq_iff_eq, beq_eq_false_iff_ne, bne_iff_ne, bne_eq_false_iff_eq, ne_eq, Bool.not_eq_true', Bool.not_eq_false', Bool.not_eq_true, Bool.not_eq_false, Decidable.not_not, Bool.and_eq_true, Bool.or_eq_true] at *)
        all_goals first
          | (rw [stop (nameAt_f (by omega) (by omega))]; exact finV_same rfl rfl)
          | (refine go (nameAt_t (by omega)) _ _ ?_ rfl; simp (disch := omega) only [go_sem, ↓reduceIte, simprocAttr, reduceCtorEq, Sl, ht, cast_succ])
      · have hi' : i = s'.length := by (try simp only [decide_eq_true_eq, decide_eq_false_iff_not, beq_iff_eq, beq_eq_false_iff_ne, bne_iff_ne, bne_eq_false_iff_eq, ne_eq, Bool.not_eq_true', Bool.not_eq_false', Bool.not_eq_true, Bool.not_eq_false, Decidable.not_not, Bool.and_eq_true, Bool.or_eq_true] at *); omega
        subst hi'
        have hB : nameB s' = true := by
          (try simp only [decide_eq_true_eq, decide_eq_false_iff_not, beq_iff_eq, beq_eq_false_iff_ne, bne_iff_ne, bne_eq_false_iff_eq, ne_eq, Bool.not_eq_true', Bool.not_eq_false', Bool.not_eq_true, Bool.not_eq_false, Decidable.not_not, Bool.and_eq_true, Bool.or_eq_true] at *)
          unfold nameB
          simp only [Bool.and_eq_true, decide_eq_true_eq]
          exact ⟨⟨by omega, by omega⟩, hi.2.2⟩
        rw [hB]
        exact finV_same rfl rfl

theorem rxparseNames_den {f fa fr fm : FuncId} (hT : Def E f (Gn.hacklelaw06_RxparseNames fa fr fm) Gn.hacklelaw06_RxparseNames_r 15) (ha : den E fa [] [] = some (.ret (.bool true), []))
    (hm : ∀ (s : List UInt8) (H : Heap), s.length ≤ 9223372036854775807 → den E fm [.str s] H = some (.ret (.bool (nameB s)), H)) (hr : ∀ (s : List UInt8) (H : Heap), s.length ≤ 9223372036854775807 → den E fr [.str s] H = some (.ret (.bool (nameB s)), H))
    (s : List UInt8) (hs : s.length ≤ 9223372036854775807) : den E f [.str s] [] = some (.ret (.bool true), []) := by
  refine den_of hT (by simp) ?_
  unfold Gn.hacklelaw06_RxparseNames Gn.hacklelaw06_RxparseNames_r
  have hself : (nameB s == nameB s) = true := by simp
  repeat' first
    | (simp (disch := first | omega | assumption) only [go_sem, ↓reduceIte, simprocAttr, reduceCtorEq, ha, hm s _ hs, hr s _ hs, *])
    | (refine HG_split (fun hb => ?_) (fun hb => ?_))
    | (refine HC_split (fun hb => ?_) (fun hb => ?_))
  all_goals exact finV_same rfl rfl
end
end Abs
