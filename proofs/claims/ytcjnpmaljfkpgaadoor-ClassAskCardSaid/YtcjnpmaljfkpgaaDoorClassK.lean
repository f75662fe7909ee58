/- The document's Part is the program's; each set is whole. -/
import Derived.Test.YtcjnpmaljfkpgaaDoorClassG
import Derived.Test.YtcjnpmaljfkpgaaDoorClassJ
namespace Abs
open Go
set_option linter.all false
set_option maxRecDepth 20000

theorem seenN_iff (name : Nat → Nat × Nat) (n : Nat) (p : Nat × Nat) : p ∈ seenN name n ↔ ∃ b, b < n ∧ name b = p :=
  ⟨seenN_of name n p, by rintro ⟨b, hb, rfl⟩; exact seenN_mem name hb⟩

theorem seen_same {f g : Nat → Nat × Nat} {N : Nat} (h : ∀ a b, a < N → b < N → (f a = f b ↔ g a = g b)) :
    ∀ n, n ≤ N → (seenN f n).length = (seenN g n).length ∧ ∀ i, i < n → (seenN f n).idxOf (f i) = (seenN g n).idxOf (g i)
  | 0, _ => ⟨rfl, fun i hi => by omega⟩
  | n + 1, hn => by
    obtain ⟨h1, h2⟩ := seen_same h n (by omega)
    have h3 : f n ∈ seenN f n ↔ g n ∈ seenN g n := by
      rw [seenN_iff, seenN_iff]
      exact ⟨fun ⟨b, hb, e⟩ => ⟨b, hb, (h b n (by omega) (by omega)).1 e⟩, fun ⟨b, hb, e⟩ => ⟨b, hb, (h b n (by omega) (by omega)).2 e⟩⟩
    simp only [seenN]
    by_cases e : f n ∈ seenN f n
    · rw [if_pos e, if_pos (h3.1 e)]
      refine ⟨h1, fun i hi => ?_⟩
      by_cases ei : i = n
      · subst ei
        obtain ⟨b, hb, eb⟩ := (seenN_iff f i _).1 e
        have := h2 b hb
        rw [eb, (h b i (by omega) (by omega)).1 eb] at this
        exact this
      · exact h2 i (by omega)
    · rw [if_neg e, if_neg fun hg => e (h3.2 hg)]
      refine ⟨by simp [h1], fun i hi => ?_⟩
      rw [List.idxOf_append, List.idxOf_append]
      by_cases ei : i = n
      · subst ei
        rw [if_neg e, if_neg fun hg => e (h3.2 hg), h1]
        simp
      · rw [if_pos (seenN_mem f (by omega)), if_pos (seenN_mem g (by omega))]
        exact h2 i (by omega)

theorem clsN_inj {name : Nat → Nat × Nat} {a b N : Nat} (ha : a < N) (hb : b < N) (h : clsN name a = clsN name b) : name a = name b := by
  rw [clsN_eq name ha, clsN_eq name hb] at h
  have h1 := seenN_mem name ha
  have h2 := seenN_mem name hb
  have e1 := List.getElem_idxOf (List.idxOf_lt_length_of_mem h1)
  have e2 := List.getElem_idxOf (List.idxOf_lt_length_of_mem h2)
  rw [← e1, ← e2]
  congr 1

theorem clsN_iff {name : Nat → Nat × Nat} {a b N : Nat} (ha : a < N) (hb : b < N) : clsN name a = clsN name b ↔ name a = name b :=
  ⟨clsN_inj ha hb, fun h => by rw [clsN_eq name ha, clsN_eq name hb, h]⟩

theorem nameN_iff {of : Nat → Nat} {a b : Nat} : nameN of a = nameN of b ↔ of a = of b := by simp [nameN]

theorem seen_const : seenN (nameN fun _ => 0) 256 = [(0, 0)] := by
  rw [seenN_F]
  decide +kernel

theorem cls_const (b : Nat) (hb : b < 256) : clsN (nameN fun _ => 0) b = 0 := by
  rw [clsN_eq _ hb, seen_const]
  rfl

attribute [local irreducible] seenN clsN

theorem canon_cls (g : Nat → Nat × Nat) : (seenN (nameN (clsN g)) 256).length = (seenN g 256).length ∧ ∀ i, i < 256 → clsN (nameN (clsN g)) i = clsN g i := by
  have h := seen_same (f := nameN (clsN g)) (g := g) (N := 256) (fun a b ha hb => nameN_iff.trans (clsN_iff ha hb)) 256 (by omega)
  refine ⟨h.1, fun i hi => ?_⟩
  have := h.2 i hi
  rw [clsN_eq _ hi, clsN_eq g hi, this]

def Canon (p : (Nat → Nat) × Nat) : Prop := p.2 = (seenN (nameN p.1) 256).length ∧ ∀ i, i < 256 → clsN (nameN p.1) i = p.1 i

theorem canon_step (p : (Nat → Nat) × Nat) (x : Nat → Nat) : Canon (partStep p x) := by
  have h := canon_cls (hasN x p.1)
  unfold Canon
  rw [partStep_fst, partStep_snd]
  exact ⟨h.1.symm, h.2⟩

theorem partF_canon (xs : List (Nat → Nat)) : Canon (partF xs) := by
  have : ∀ (xs : List (Nat → Nat)) (p : (Nat → Nat) × Nat), Canon p → Canon (xs.foldl partStep p) := by
    intro xs
    induction xs with
    | nil => intro p h; exact h
    | cons x xs ih => intro p _; rw [List.foldl_cons]; exact ih _ (canon_step p x)
  refine this xs _ ⟨?_, cls_const⟩
  show 1 = (seenN (nameN fun _ => 0) 256).length
  rw [seen_const]
  rfl

theorem alikeC_iff {xs : List (Nat → Nat)} {a b : Nat} : alikeC xs a b = true ↔ ∀ x ∈ xs, inSet x a = inSet x b := by
  simp [alikeC, List.all_eq_true]

theorem partF_iff (xs : List (Nat → Nat)) {a b : Nat} (ha : a < 256) (hb : b < 256) : (partF xs).1 a = (partF xs).1 b ↔ alikeC xs a b = true := by
  rw [alikeC_iff]
  refine ⟨?_, partF_alike xs a b ha hb⟩
  have : ∀ (xs : List (Nat → Nat)) (p : (Nat → Nat) × Nat), (xs.foldl partStep p).1 a = (xs.foldl partStep p).1 b → p.1 a = p.1 b ∧ ∀ x ∈ xs, inSet x a = inSet x b := by
    intro xs
    induction xs with
    | nil => intro p h; exact ⟨h, by simp⟩
    | cons x xs ih =>
      intro p h
      rw [List.foldl_cons] at h
      obtain ⟨h1, h2⟩ := ih _ h
      rw [partStep_fst] at h1
      have h3 := clsN_inj ha hb h1
      simp only [hasN, Prod.mk.injEq] at h3
      refine ⟨h3.1, fun y hy => ?_⟩
      rcases List.mem_cons.1 hy with rfl | hy
      · have h4 := h3.2
        cases e1 : inSet y a <;> cases e2 : inSet y b <;> simp [e1, e2] at h4 ⊢
      · exact h2 y hy
  exact fun h => (this xs _ h).2

theorem partF_may (xs : List (Nat → Nat)) : classMay (partF xs).1 (partF xs).2 = true := by
  obtain ⟨h1, h2⟩ := partF_canon xs
  unfold classMay
  rw [Bool.and_eq_true, allEq_iff]
  refine ⟨fun i hi => by rw [h2 i hi], ?_⟩
  rw [h1]
  simp

theorem partF_whole (xs : List (Nat → Nat)) (x : Nat → Nat) (hx : x ∈ xs) : classWhole (partF xs).1 x (partF xs).2 = true := by
  rw [classWhole_iff]
  refine ⟨partF_may xs, fun b hb => ?_⟩
  have h1 := firstN_lt (partF xs).1 256 ((partF xs).1 b)
  have h2 := firstN_of (partF xs).1 256 b (by omega) (by omega) hb
  exact (alikeC_iff.1 ((partF_iff xs h1 hb).1 h2) x hx).symm

def cntN (of : Nat → Nat) (b : Nat) : Nat := (seenN (nameN of) b).length
theorem cntN_zero (of : Nat → Nat) : cntN of 0 = 0 := by unfold cntN; rw [seenN]; rfl
theorem cntN_le (of : Nat → Nat) (b : Nat) : cntN of b ≤ b := seenN_len _ b
theorem cntN_old {of : Nat → Nat} {a b : Nat} (h : a < b) (e : of a = of b) : cntN of (b + 1) = cntN of b := by
  unfold cntN
  rw [seenN, if_pos ((seenN_iff _ _ _).2 ⟨a, h, nameN_iff.2 e⟩)]
theorem cntN_new {of : Nat → Nat} {b : Nat} (h : ∀ a, a < b → ¬ of a = of b) : cntN of (b + 1) = cntN of b + 1 ∧ clsN (nameN of) b = cntN of b := by
  have h1 : ¬ nameN of b ∈ seenN (nameN of) b := fun hm => by
    obtain ⟨a, ha, e⟩ := (seenN_iff _ _ _).1 hm
    exact h a ha (nameN_iff.1 e)
  have h2 : seenN (nameN of) (b + 1) = seenN (nameN of) b ++ [nameN of b] := by rw [seenN, if_neg h1]
  refine ⟨by unfold cntN; rw [h2]; simp, ?_⟩
  rw [clsN_eq _ (Nat.lt_succ_self b), h2, List.idxOf_append, if_neg h1]
  simp [cntN]

end Abs

namespace Abs
open Go
set_option linter.all false
set_option maxRecDepth 20000
attribute [local irreducible] cntN clsN

theorem cls_old {of : Nat → Nat} {a b : Nat} (hab : a < b) (e : of a = of b) : clsN (nameN of) a = clsN (nameN of) b :=
  (clsN_iff (N := b + 1) (by omega) (by omega)).2 (nameN_iff.2 e)

theorem canon_onto {of : Nat → Nat} {b : Nat} (hc : ∀ i, i < b → of i = clsN (nameN of) i) {k : Nat} (hk : k < cntN of b) : ∃ a, a < b ∧ of a = k := by
  have hk' : k < (seenN (nameN of) b).length := by unfold cntN at hk; exact hk
  obtain ⟨a, ha, e⟩ := seenN_of (nameN of) b (seenN (nameN of) b)[k] (List.getElem_mem hk')
  refine ⟨a, ha, ?_⟩
  rw [hc a ha, clsN_eq _ ha, e]
  exact List.Nodup.idxOf_getElem (seenN_nodup (nameN of) b) k hk'

theorem canon_lt {of : Nat → Nat} {b : Nat} (hc : ∀ i, i < b → of i = clsN (nameN of) i) {a : Nat} (ha : a < b) : of a < cntN of b := by
  rw [hc a ha, clsN_eq _ ha]
  unfold cntN
  exact List.idxOf_lt_length_of_mem (seenN_mem (nameN of) ha)

theorem may_iff (of : Nat → Nat) : ∀ (b m : Nat), mayN of b = some m ↔ (∀ i, i < b → of i = clsN (nameN of) i) ∧ m = cntN of b
  | 0, m => by
    simp only [mayN, cntN_zero, Option.some.injEq]
    exact ⟨fun h => ⟨fun i hi => absurd hi (Nat.not_lt_zero i), h.symm⟩, fun h => h.2.symm⟩
  | b + 1, m => by
    have ih := may_iff of b
    simp only [mayN]
    constructor
    · intro h
      cases hm : mayN of b with
      | none => rw [hm] at h; simp at h
      | some k =>
        rw [hm] at h
        simp only at h
        obtain ⟨hc, rfl⟩ := (ih k).1 hm
        by_cases hgt : cntN of b < of b
        · rw [if_pos hgt] at h; simp at h
        · rw [if_neg hgt] at h
          by_cases heq : of b = cntN of b
          · rw [if_pos heq] at h
            have hnew : ∀ a, a < b → ¬ of a = of b := fun a ha e => by have := canon_lt hc ha; omega
            obtain ⟨n1, n2⟩ := cntN_new hnew
            refine ⟨fun i hi => ?_, by rw [n1]; simpa using h.symm⟩
            by_cases e : i = b
            · subst e; rw [n2]; exact heq
            · exact hc i (by omega)
          · rw [if_neg heq] at h
            obtain ⟨a, ha, e⟩ := canon_onto hc (k := of b) (by omega)
            refine ⟨fun i hi => ?_, by rw [cntN_old ha e]; simpa using h.symm⟩
            by_cases e2 : i = b
            · subst e2; rw [← cls_old ha e, ← hc a ha, e]
            · exact hc i (by omega)
    · rintro ⟨hc, rfl⟩
      have hc' : ∀ i, i < b → of i = clsN (nameN of) i := fun i hi => hc i (by omega)
      rw [(ih (cntN of b)).2 ⟨hc', rfl⟩]
      simp only
      by_cases hold : ∃ a, a < b ∧ of a = of b
      · obtain ⟨a, ha, e⟩ := hold
        have := canon_lt hc' ha
        rw [if_neg (by omega), if_neg (by omega), cntN_old ha e]
      · obtain ⟨n1, n2⟩ := cntN_new (of := of) (b := b) fun a ha e => hold ⟨a, ha, e⟩
        have hb := hc b (by omega)
        rw [n2] at hb
        rw [if_neg (by omega), if_pos hb, n1]

theorem mayC_eq (of : Nat → Nat) (n : Int) : classMay of n = mayC of n := by
  unfold classMay mayC
  cases hm : mayN of 256 with
  | none =>
    simp only
    rw [Bool.and_eq_false_iff]
    refine .inl ?_
    cases hall : allEq 256 (fun i => ((of i : Nat) : Int)) (fun i => ((clsN (nameN of) i : Nat) : Int)) with
    | false => rfl
    | true =>
      rw [allEq_iff] at hall
      have := (may_iff of 256 (cntN of 256)).2 ⟨fun i hi => by have := hall i hi; omega, rfl⟩
      rw [hm] at this
      simp at this
  | some m =>
    obtain ⟨h1, h2⟩ := (may_iff of 256 m).1 hm
    have hall : allEq 256 (fun i => ((of i : Nat) : Int)) (fun i => ((clsN (nameN of) i : Nat) : Int)) = true := by
      rw [allEq_iff]
      intro i hi
      rw [← h1 i hi]
    rw [hall, Bool.true_and, h2]
    unfold cntN
    rfl

theorem wholeC_eq (of x : Nat → Nat) (n : Int) (hof : ∀ b, b < 256 → of b < 256) : classWhole of x n = wholeC of x n := by
  rw [Bool.eq_iff_iff, classWhole_iff, wholeC_iff, mayC_eq]
  constructor
  · rintro ⟨h1, h2⟩
    refine ⟨fun a ha b hb e => ?_, h1⟩
    rw [h2 a ha, h2 b (by omega), e]
  · rintro ⟨h1, h2⟩
    refine ⟨h2, fun b hb => ?_⟩
    have k1 := firstN_lt of 256 (of b)
    have k2 := firstN_of of 256 b (by omega) (by omega) hb
    rcases Nat.lt_trichotomy b (firstN of 256 (of b)) with h | h | h
    · exact (h1 _ k1 b h k2).symm
    · rw [← h]
    · exact h1 b hb _ h k2.symm

end Abs
