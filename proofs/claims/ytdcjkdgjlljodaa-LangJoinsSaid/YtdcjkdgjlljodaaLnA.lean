/- A part. -/
import Derived.Test.YtdcjkdgjlljodaaNfA
set_option linter.all false
namespace Abs
open Go
def orL (a b : List Bool) : List Bool := List.zipWith (fun x y => x || y) a b
def av4 (a b : List Bool) : List Bool := List.zipWith (fun x y => x && !y) a b
theorem ah8 {a b : List Bool} (h : a.length = b.length) : (orL a b).length = a.length := by unfold orL; rw [List.length_zipWith, h, Nat.min_self]
theorem az1 {a b : List Bool} (h : a.length = b.length) : (av4 a b).length = a.length := by unfold av4; rw [List.length_zipWith, h, Nat.min_self]
theorem af1 {a b : List Bool} (h : a.length = b.length) (i : Nat) : (orL a b).getD i false = (a.getD i false || b.getD i false) := by
 unfold orL
 rw [List.getD_eq_getElem?_getD, List.getD_eq_getElem?_getD, List.getD_eq_getElem?_getD, List.getElem?_zipWith]
 by_cases hi : i < a.length
 ·rw [List.getElem?_eq_getElem hi, List.getElem?_eq_getElem (by omega)]; rfl
 ·rw [List.getElem?_eq_none (by omega), List.getElem?_eq_none (by omega)]; rfl
theorem bc4 {a b : List Bool} (h : a.length = b.length) (i : Nat) : (av4 a b).getD i false = (a.getD i false && !b.getD i false) := by
 unfold av4
 rw [List.getD_eq_getElem?_getD, List.getD_eq_getElem?_getD, List.getD_eq_getElem?_getD, List.getElem?_zipWith]
 by_cases hi : i < a.length
 ·rw [List.getElem?_eq_getElem hi, List.getElem?_eq_getElem (by omega)]; rfl
 ·rw [List.getElem?_eq_none (by omega), List.getElem?_eq_none (by omega)]; rfl
theorem ay5 {a b : List Bool} (h : a.length = b.length) (hg : ∀ i, a.getD i false = b.getD i false) : a = b := by
 refine List.ext_getElem? fun i => ?_
 by_cases hi : i < a.length
 ·have := hg i
  rw [List.getD_eq_getElem?_getD, List.getD_eq_getElem?_getD, List.getElem?_eq_getElem hi, List.getElem?_eq_getElem (by omega)] at this
  rw [List.getElem?_eq_getElem hi, List.getElem?_eq_getElem (by omega)]
  exact congrArg some this
 ·rw [List.getElem?_eq_none (by omega), List.getElem?_eq_none (by omega)]
theorem an5 (m i : Nat) : (falses m).getD i false = false := by
 unfold falses
 rw [List.getD_eq_getElem?_getD, List.getElem?_replicate]
 split <;> rfl
theorem aj2 (m : Nat) : (falses m).length = m := by simp [falses]
structure Lin (m : Nat) (f : List Bool → List Bool) : Prop where
 len : ∀ a, a.length = m → (f a).length = m
 or : ∀ a b, a.length = m → b.length = m → f (orL a b) = orL (f a) (f b)
 no : f (falses m) = falses m
theorem Lin.id (m : Nat) : Lin m fun a => a := ⟨fun _ h => h, fun _ _ _ _ => rfl, rfl⟩
theorem Lin.comp {m : Nat} {f g : List Bool → List Bool} (hf : Lin m f) (hg : Lin m g) : Lin m fun a => g (f a) :=
 ⟨fun a h => hg.len _ (hf.len a h), fun a b ha hb => by rw [hf.or a b ha hb, hg.or _ _ (hf.len a ha) (hf.len b hb)], by rw [hf.no, hg.no]⟩
theorem Lin.sum {m : Nat} {f g : List Bool → List Bool} (hf : Lin m f) (hg : Lin m g) : Lin m fun a => orL (f a) (g a) := by
 have l : ∀ a, a.length = m → (f a).length = (g a).length := fun a h => by rw [hf.len a h, hg.len a h]
 refine ⟨fun a h => by rw [ah8 (l a h), hf.len a h], fun a b ha hb => ?_, ?_⟩
 ·have e := hf.or a b ha hb
  have e' := hg.or a b ha hb
  rw [e, e']
  have h1 := hf.len a ha
  have h2 := hf.len b hb
  have h3 := hg.len a ha
  have h4 := hg.len b hb
  refine ay5 ?_ fun i => ?_
  ·rw [ah8, ah8, ah8, ah8] <;> simp only [ah8, h1, h2, h3, h4]
  ·rw [af1, af1, af1, af1, af1, af1]
   ·cases (f a).getD i false <;> cases (f b).getD i false <;> cases (g a).getD i false <;> cases (g b).getD i false <;> rfl
   all_goals first | omega | (simp only [ah8, h1, h2, h3, h4])
 ·show orL (f (falses m)) (g (falses m)) = falses m
  rw [hf.no, hg.no]
  exact ay5 (by rw [ah8 rfl]) fun i => by rw [af1 rfl, an5]; rfl
def Sub (a b : List Bool) : Prop := ∀ i, a.getD i false = true → b.getD i false = true
theorem Sub.or {a b : List Bool} (hl : a.length = b.length) (h : Sub a b) : orL b a = b := ay5 (by rw [ah8 hl.symm]) fun i => by
 rw [af1 hl.symm]
 cases hb : b.getD i false with
 | true => rfl
 | false =>
  cases ha : a.getD i false with
  | true => rw [h i ha] at hb; exact absurd hb (by simp)
  | false => rfl
theorem ei8 {a b c : List Bool} (hl : b.length = c.length) : Sub a (orL b c) ↔ ∀ i, a.getD i false = true → b.getD i false = true ∨ c.getD i false = true := by
 unfold Sub
 constructor
 ·intro h i hi
  have := h i hi
  rwa [af1 hl, Bool.or_eq_true] at this
 ·intro h i hi
  rw [af1 hl, Bool.or_eq_true]
  exact h i hi
def sumN (f : List Bool → List Bool) (a : List Bool) : Nat → List Bool
 | 0 => a
 | k + 1 => orL (sumN f a k) (f (sumN f a k))
theorem bi3 {m : Nat} {f : List Bool → List Bool} (hf : Lin m f) {a : List Bool} (ha : a.length = m) : ∀ k, (sumN f a k).length = m
 | 0 => ha
 | k + 1 => by
  have ih := bi3 hf ha k
  rw [sumN, ah8 (by rw [hf.len _ ih, ih]), ih]
theorem bp4 {m : Nat} {f : List Bool → List Bool} (hf : Lin m f) {a : List Bool} (ha : a.length = m) {k : Nat} (h : Sub (f (sumN f a k)) (sumN f a k)) : ∀ j, sumN f a (k + j) = sumN f a k
 | 0 => rfl
 | j + 1 => by
  have ih := bp4 hf ha h j
  have hl := bi3 hf ha k
  rw [show k + (j + 1) = (k + j) + 1 by omega, sumN, ih]
  exact Sub.or (by rw [hf.len _ hl, hl]) h
theorem cm0 {m : Nat} {f : List Bool → List Bool} (hf : Lin m f) {all fresh : List Bool} (ha : all.length = m) (hn : fresh.length = m) (hs : Sub fresh all) (h : Sub (f all) (orL all (f fresh))) : orL all (av4 (f fresh) all) = orL all (f all) := by
 have h1 := hf.len all ha
 have h2 := hf.len fresh hn
 have e : orL all fresh = all := Sub.or (by omega) hs
 have h3 : Sub (f fresh) (f all) := by
  have := hf.or all fresh ha hn
  rw [e] at this
  intro i hi
  rw [this, af1 (by omega), hi, Bool.or_true]
 refine ay5 (by rw [ah8 (by rw [az1 (by omega)]; omega), ah8 (by omega)]) fun i => ?_
 rw [af1 (by rw [az1 (by omega)]; omega), af1 (by omega), bc4 (by omega)]
 have h4 := (ei8 (by omega)).1 h i
 have h5 := h3 i
 revert h4 h5
 cases (f all).getD i false <;> cases all.getD i false <;> cases (f fresh).getD i false <;> simp
theorem dd3 {m : Nat} {f : List Bool → List Bool} (hf : Lin m f) {all fresh : List Bool} (ha : all.length = m) (hn : fresh.length = m) (hs : Sub fresh all) (h : Sub (f all) (orL all (f fresh))) :
  Sub (f (orL all (av4 (f fresh) all))) (orL (orL all (av4 (f fresh) all)) (f (av4 (f fresh) all))) := by
 have h1 := hf.len all ha
 have h2 := hf.len fresh hn
 have l1 : (av4 (f fresh) all).length = m := by rw [az1 (by omega)]; omega
 have l2 := hf.len _ l1
 have l3 : (orL all (av4 (f fresh) all)).length = m := by rw [ah8 (by omega)]; omega
 rw [hf.or _ _ ha l1]
 refine (ei8 (by omega)).2 fun i hi => ?_
 rw [af1 (by omega), Bool.or_eq_true] at hi
 rcases hi with hi | hi
 ·left
  rw [cm0 hf ha hn hs h, af1 (by omega), hi, Bool.or_true]
 ·exact .inr hi
def cntT (a : List Bool) : Nat := a.countP fun b => b
theorem bd5 (a : List Bool) : cntT a ≤ a.length := List.countP_le_length
theorem cb3 : ∀ {a b : List Bool}, a.length = b.length → cntT (orL a (av4 b a)) = cntT a + cntT (av4 b a)
 | [], [], _ => rfl
 | [], _ :: _, h => by simp at h
 | _ :: _, [], h => by simp at h
 | x :: a, y :: b, h => by
  have ih := cb3 (a := a) (b := b) (by simpa using h)
  unfold cntT orL av4 at ih ⊢
  simp only [List.zipWith_cons_cons, List.countP_cons]
  rw [ih]
  cases x <;> cases y <;> simp <;> omega
theorem bs0 : ∀ {a : List Bool}, cntT a = 0 → a = falses a.length
 | [], _ => rfl
 | x :: a, h => by
  unfold cntT at h
  rw [List.countP_cons] at h
  cases x with
  | true => simp at h
  | false =>
   have := bs0 (a := a) (by unfold cntT; simpa using h)
   unfold falses at this ⊢
   rw [List.length_cons, List.replicate_succ, ← this]
theorem bx5 {m : Nat} {f : List Bool → List Bool} (hf : Lin m f) {a : List Bool} (ha : a.length = m) : ∃ k, k ≤ m ∧ Sub (f (sumN f a k)) (sumN f a k) := by
 have key : ∀ k, (∃ j, j ≤ k ∧ Sub (f (sumN f a j)) (sumN f a j)) ∨ k ≤ cntT (sumN f a k) := by
  intro k
  induction k with
  | zero => exact .inr (Nat.zero_le _)
  | succ k ih =>
   rcases ih with ⟨j, h1, h2⟩ | ih
   ·exact .inl ⟨j, by omega, h2⟩
   ·by_cases hs : Sub (f (sumN f a k)) (sumN f a k)
    ·exact .inl ⟨k, by omega, hs⟩
    ·right
     have hl := bi3 hf ha k
     have hl2 := hf.len _ hl
     have e : sumN f a (k + 1) = orL (sumN f a k) (av4 (f (sumN f a k)) (sumN f a k)) := by
      rw [sumN]
      refine ay5 (by rw [ah8 (by omega), ah8 (by rw [az1 (by omega)]; omega)]) fun i => ?_
      rw [af1 (by omega), af1 (by rw [az1 (by omega)]; omega), bc4 (by omega)]
      cases (sumN f a k).getD i false <;> cases (f (sumN f a k)).getD i false <;> rfl
     rw [e, cb3 (by omega)]
     have : cntT (av4 (f (sumN f a k)) (sumN f a k)) ≠ 0 := fun h0 => hs fun i hi => by
      have := bs0 h0
      have hg := bc4 (a := f (sumN f a k)) (b := sumN f a k) (by omega) i
      rw [this, an5, hi] at hg
      cases hb : (sumN f a k).getD i false with
      | true => rfl
      | false => rw [hb] at hg; simp at hg
     omega
 rcases key m with ⟨j, h1, h2⟩ | h
 ·exact ⟨j, h1, h2⟩
 ·refine ⟨m, Nat.le_refl _, fun i hi => ?_⟩
  have hl := bi3 hf ha m
  have hall : cntT (sumN f a m) = (sumN f a m).length := by have := bd5 (sumN f a m); omega
  have : ∀ b ∈ sumN f a m, b = true := by
   have := List.countP_eq_length.1 hall
   simpa using this
  by_cases hi' : i < (sumN f a m).length
  ·rw [List.getD_eq_getElem?_getD, List.getElem?_eq_getElem hi']
   exact this _ (List.getElem_mem hi')
  ·have hl2 := hf.len _ hl
   rw [List.getD_eq_getElem?_getD, List.getElem?_eq_none (by omega)] at hi
   simp at hi
end Abs
