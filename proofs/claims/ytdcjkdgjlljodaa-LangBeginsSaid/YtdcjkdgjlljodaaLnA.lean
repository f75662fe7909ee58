/- A part. -/
import Derived.Test.YtdcjkdgjlljodaaNfA
set_option linter.all false
namespace Abs
open Go
def orL (a b : List Bool) : List Bool := List.zipWith (fun x y => x || y) a b
def av5 (a b : List Bool) : List Bool := List.zipWith (fun x y => x && !y) a b
theorem af9 {a b : List Bool} (h : a.length = b.length) : (orL a b).length = a.length := by unfold orL; rw [List.length_zipWith, h, Nat.min_self]
theorem at4 {a b : List Bool} (h : a.length = b.length) : (av5 a b).length = a.length := by unfold av5; rw [List.length_zipWith, h, Nat.min_self]
theorem ac8 {a b : List Bool} (h : a.length = b.length) (i : Nat) : (orL a b).getD i false = (a.getD i false || b.getD i false) := by
 unfold orL
 rw [List.getD_eq_getElem?_getD, List.getD_eq_getElem?_getD, List.getD_eq_getElem?_getD, List.getElem?_zipWith]
 by_cases hi : i < a.length
 ·rw [List.getElem?_eq_getElem hi, List.getElem?_eq_getElem (by omega)]; rfl
 ·rw [List.getElem?_eq_none (by omega), List.getElem?_eq_none (by omega)]; rfl
theorem aw8 {a b : List Bool} (h : a.length = b.length) (i : Nat) : (av5 a b).getD i false = (a.getD i false && !b.getD i false) := by
 unfold av5
 rw [List.getD_eq_getElem?_getD, List.getD_eq_getElem?_getD, List.getD_eq_getElem?_getD, List.getElem?_zipWith]
 by_cases hi : i < a.length
 ·rw [List.getElem?_eq_getElem hi, List.getElem?_eq_getElem (by omega)]; rfl
 ·rw [List.getElem?_eq_none (by omega), List.getElem?_eq_none (by omega)]; rfl
theorem ao5 {a b : List Bool} (h : a.length = b.length) (hg : ∀ i, a.getD i false = b.getD i false) : a = b := by
 refine List.ext_getElem? fun i => ?_
 by_cases hi : i < a.length
 ·have := hg i
  rw [List.getD_eq_getElem?_getD, List.getD_eq_getElem?_getD, List.getElem?_eq_getElem hi, List.getElem?_eq_getElem (by omega)] at this
  rw [List.getElem?_eq_getElem hi, List.getElem?_eq_getElem (by omega)]
  exact congrArg some this
 ·rw [List.getElem?_eq_none (by omega), List.getElem?_eq_none (by omega)]
theorem ad8 (m i : Nat) : (af4 m).getD i false = false := by
 unfold af4
 rw [List.getD_eq_getElem?_getD, List.getElem?_replicate]
 split <;> rfl
theorem ah3 (m : Nat) : (af4 m).length = m := by simp [af4]
structure Lin (m : Nat) (f : List Bool → List Bool) : Prop where
 len : ∀ a, a.length = m → (f a).length = m
 or : ∀ a b, a.length = m → b.length = m → f (orL a b) = orL (f a) (f b)
 no : f (af4 m) = af4 m
theorem Lin.id (m : Nat) : Lin m fun a => a := ⟨fun _ h => h, fun _ _ _ _ => rfl, rfl⟩
theorem Lin.comp {m : Nat} {f g : List Bool → List Bool} (hf : Lin m f) (hg : Lin m g) : Lin m fun a => g (f a) :=
 ⟨fun a h => hg.len _ (hf.len a h), fun a b ha hb => by rw [hf.or a b ha hb, hg.or _ _ (hf.len a ha) (hf.len b hb)], by rw [hf.no, hg.no]⟩
theorem Lin.sum {m : Nat} {f g : List Bool → List Bool} (hf : Lin m f) (hg : Lin m g) : Lin m fun a => orL (f a) (g a) := by
 have l : ∀ a, a.length = m → (f a).length = (g a).length := fun a h => by rw [hf.len a h, hg.len a h]
 refine ⟨fun a h => by rw [af9 (l a h), hf.len a h], fun a b ha hb => ?_, ?_⟩
 ·have e := hf.or a b ha hb
  have e' := hg.or a b ha hb
  rw [e, e']
  have h1 := hf.len a ha
  have h2 := hf.len b hb
  have h3 := hg.len a ha
  have h4 := hg.len b hb
  refine ao5 ?_ fun i => ?_
  ·rw [af9, af9, af9, af9] <;> simp only [af9, h1, h2, h3, h4]
  ·rw [ac8, ac8, ac8, ac8, ac8, ac8]
   ·cases (f a).getD i false <;> cases (f b).getD i false <;> cases (g a).getD i false <;> cases (g b).getD i false <;> rfl
   all_goals first | omega | (simp only [af9, h1, h2, h3, h4])
 ·show orL (f (af4 m)) (g (af4 m)) = af4 m
  rw [hf.no, hg.no]
  exact ao5 (by rw [af9 rfl]) fun i => by rw [ac8 rfl, ad8]; rfl
def Sub (a b : List Bool) : Prop := ∀ i, a.getD i false = true → b.getD i false = true
theorem Sub.or {a b : List Bool} (hl : a.length = b.length) (h : Sub a b) : orL b a = b := ao5 (by rw [af9 hl.symm]) fun i => by
 rw [ac8 hl.symm]
 cases hb : b.getD i false with
 | true => rfl
 | false =>
  cases ha : a.getD i false with
  | true => rw [h i ha] at hb; exact absurd hb (by simp)
  | false => rfl
theorem ek8 {a b c : List Bool} (hl : b.length = c.length) : Sub a (orL b c) ↔ ∀ i, a.getD i false = true → b.getD i false = true ∨ c.getD i false = true := by
 unfold Sub
 constructor
 ·intro h i hi
  have := h i hi
  rwa [ac8 hl, Bool.or_eq_true] at this
 ·intro h i hi
  rw [ac8 hl, Bool.or_eq_true]
  exact h i hi
def sumN (f : List Bool → List Bool) (a : List Bool) : Nat → List Bool
 | 0 => a
 | k + 1 => orL (sumN f a k) (f (sumN f a k))
theorem au0 {m : Nat} {f : List Bool → List Bool} (hf : Lin m f) {a : List Bool} (ha : a.length = m) : ∀ k, (sumN f a k).length = m
 | 0 => ha
 | k + 1 => by
  have ih := au0 hf ha k
  rw [sumN, af9 (by rw [hf.len _ ih, ih]), ih]
theorem at0 {m : Nat} {f : List Bool → List Bool} (hf : Lin m f) {a : List Bool} (ha : a.length = m) {k : Nat} (h : Sub (f (sumN f a k)) (sumN f a k)) : ∀ j, sumN f a (k + j) = sumN f a k
 | 0 => rfl
 | j + 1 => by
  have ih := at0 hf ha h j
  have hl := au0 hf ha k
  rw [show k + (j + 1) = (k + j) + 1 by omega, sumN, ih]
  exact Sub.or (by rw [hf.len _ hl, hl]) h
theorem cn2 {m : Nat} {f : List Bool → List Bool} (hf : Lin m f) {all fresh : List Bool} (ha : all.length = m) (hn : fresh.length = m) (hs : Sub fresh all) (h : Sub (f all) (orL all (f fresh))) : orL all (av5 (f fresh) all) = orL all (f all) := by
 have h1 := hf.len all ha
 have h2 := hf.len fresh hn
 have e : orL all fresh = all := Sub.or (by omega) hs
 have h3 : Sub (f fresh) (f all) := by
  have := hf.or all fresh ha hn
  rw [e] at this
  intro i hi
  rw [this, ac8 (by omega), hi, Bool.or_true]
 refine ao5 (by rw [af9 (by rw [at4 (by omega)]; omega), af9 (by omega)]) fun i => ?_
 rw [ac8 (by rw [at4 (by omega)]; omega), ac8 (by omega), aw8 (by omega)]
 have h4 := (ek8 (by omega)).1 h i
 have h5 := h3 i
 revert h4 h5
 cases (f all).getD i false <;> cases all.getD i false <;> cases (f fresh).getD i false <;> simp
theorem de6 {m : Nat} {f : List Bool → List Bool} (hf : Lin m f) {all fresh : List Bool} (ha : all.length = m) (hn : fresh.length = m) (hs : Sub fresh all) (h : Sub (f all) (orL all (f fresh))) :
  Sub (f (orL all (av5 (f fresh) all))) (orL (orL all (av5 (f fresh) all)) (f (av5 (f fresh) all))) := by
 have h1 := hf.len all ha
 have h2 := hf.len fresh hn
 have l1 : (av5 (f fresh) all).length = m := by rw [at4 (by omega)]; omega
 have l2 := hf.len _ l1
 have l3 : (orL all (av5 (f fresh) all)).length = m := by rw [af9 (by omega)]; omega
 rw [hf.or _ _ ha l1]
 refine (ek8 (by omega)).2 fun i hi => ?_
 rw [ac8 (by omega), Bool.or_eq_true] at hi
 rcases hi with hi | hi
 ·left
  rw [cn2 hf ha hn hs h, ac8 (by omega), hi, Bool.or_true]
 ·exact .inr hi
def cntT (a : List Bool) : Nat := a.countP fun b => b
theorem bb3 (a : List Bool) : cntT a ≤ a.length := List.countP_le_length
theorem bt1 : ∀ {a b : List Bool}, a.length = b.length → cntT (orL a (av5 b a)) = cntT a + cntT (av5 b a)
 | [], [], _ => rfl
 | [], _ :: _, h => by simp at h
 | _ :: _, [], h => by simp at h
 | x :: a, y :: b, h => by
  have ih := bt1 (a := a) (b := b) (by simpa using h)
  unfold cntT orL av5 at ih ⊢
  simp only [List.zipWith_cons_cons, List.countP_cons]
  rw [ih]
  cases x <;> cases y <;> simp <;> omega
theorem be7 : ∀ {a : List Bool}, cntT a = 0 → a = af4 a.length
 | [], _ => rfl
 | x :: a, h => by
  unfold cntT at h
  rw [List.countP_cons] at h
  cases x with
  | true => simp at h
  | false =>
   have := be7 (a := a) (by unfold cntT; simpa using h)
   unfold af4 at this ⊢
   rw [List.length_cons, List.replicate_succ, ← this]
theorem bj2 {m : Nat} {f : List Bool → List Bool} (hf : Lin m f) {a : List Bool} (ha : a.length = m) : ∃ k, k ≤ m ∧ Sub (f (sumN f a k)) (sumN f a k) := by
 have key : ∀ k, (∃ j, j ≤ k ∧ Sub (f (sumN f a j)) (sumN f a j)) ∨ k ≤ cntT (sumN f a k) := by
  intro k
  induction k with
  | zero => exact .inr (Nat.zero_le _)
  | succ k ih =>
   rcases ih with ⟨j, h1, h2⟩ | ih
   ·exact .inl ⟨j, by omega, h2⟩
   ·by_cases hs : Sub (f (sumN f a k)) (sumN f a k)
    ·exact .inl ⟨k, by omega, hs⟩
    ·right
     have hl := au0 hf ha k
     have hl2 := hf.len _ hl
     have e : sumN f a (k + 1) = orL (sumN f a k) (av5 (f (sumN f a k)) (sumN f a k)) := by
      rw [sumN]
      refine ao5 (by rw [af9 (by omega), af9 (by rw [at4 (by omega)]; omega)]) fun i => ?_
      rw [ac8 (by omega), ac8 (by rw [at4 (by omega)]; omega), aw8 (by omega)]
      cases (sumN f a k).getD i false <;> cases (f (sumN f a k)).getD i false <;> rfl
     rw [e, bt1 (by omega)]
     have : cntT (av5 (f (sumN f a k)) (sumN f a k)) ≠ 0 := fun h0 => hs fun i hi => by
      have := be7 h0
      have hg := aw8 (a := f (sumN f a k)) (b := sumN f a k) (by omega) i
      rw [this, ad8, hi] at hg
      cases hb : (sumN f a k).getD i false with
      | true => rfl
      | false => rw [hb] at hg; simp at hg
     omega
 rcases key m with ⟨j, h1, h2⟩ | h
 ·exact ⟨j, h1, h2⟩
 ·refine ⟨m, Nat.le_refl _, fun i hi => ?_⟩
  have hl := au0 hf ha m
  have hall : cntT (sumN f a m) = (sumN f a m).length := by have := bb3 (sumN f a m); omega
  have : ∀ b ∈ sumN f a m, b = true := by
   have := List.countP_eq_length.1 hall
   simpa using this
  by_cases hi' : i < (sumN f a m).length
  ·rw [List.getD_eq_getElem?_getD, List.getElem?_eq_getElem hi']
   exact this _ (List.getElem_mem hi')
  ·have hl2 := hf.len _ hl
   rw [List.getD_eq_getElem?_getD, List.getElem?_eq_none (by omega)] at hi
   simp at hi
end Abs
