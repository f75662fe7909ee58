/- A part. -/
import Derived.Test.YtaifcggapmdhdaaNfA
set_option linter.all false
namespace Abs
open Go
def orL (a b : List Bool) : List Bool := List.zipWith (fun x y => x || y) a b
theorem orL_len {a b : List Bool} (h : a.length = b.length) : (orL a b).length = a.length := by unfold orL; rw [List.length_zipWith, h, Nat.min_self]
theorem orL_get {a b : List Bool} (h : a.length = b.length) (i : Nat) : (orL a b).getD i false = (a.getD i false || b.getD i false) := by
 unfold orL
 rw [List.getD_eq_getElem?_getD, List.getD_eq_getElem?_getD, List.getD_eq_getElem?_getD, List.getElem?_zipWith]
 by_cases hi : i < a.length
 ·rw [List.getElem?_eq_getElem hi, List.getElem?_eq_getElem (by omega)]; rfl
 ·rw [List.getElem?_eq_none (by omega), List.getElem?_eq_none (by omega)]; rfl
theorem setL_ext {a b : List Bool} (h : a.length = b.length) (hg : ∀ i, a.getD i false = b.getD i false) : a = b := by
 refine List.ext_getElem? fun i => ?_
 by_cases hi : i < a.length
 ·have := hg i
  rw [List.getD_eq_getElem?_getD, List.getD_eq_getElem?_getD, List.getElem?_eq_getElem hi, List.getElem?_eq_getElem (by omega)] at this
  rw [List.getElem?_eq_getElem hi, List.getElem?_eq_getElem (by omega)]
  exact congrArg some this
 ·rw [List.getElem?_eq_none (by omega), List.getElem?_eq_none (by omega)]
theorem falses_get (m i : Nat) : (falses m).getD i false = false := by
 unfold falses
 rw [List.getD_eq_getElem?_getD, List.getElem?_replicate]
 split <;> rfl
theorem falses_len (m : Nat) : (falses m).length = m := by simp [falses]
structure Lin (m : Nat) (f : List Bool → List Bool) : Prop where
 len : ∀ a, a.length = m → (f a).length = m
 or : ∀ a b, a.length = m → b.length = m → f (orL a b) = orL (f a) (f b)
 no : f (falses m) = falses m
theorem Lin.id (m : Nat) : Lin m fun a => a := ⟨fun _ h => h, fun _ _ _ _ => rfl, rfl⟩
theorem Lin.comp {m : Nat} {f g : List Bool → List Bool} (hf : Lin m f) (hg : Lin m g) : Lin m fun a => g (f a) :=
 ⟨fun a h => hg.len _ (hf.len a h), fun a b ha hb => by rw [hf.or a b ha hb, hg.or _ _ (hf.len a ha) (hf.len b hb)], by rw [hf.no, hg.no]⟩
theorem Lin.sum {m : Nat} {f g : List Bool → List Bool} (hf : Lin m f) (hg : Lin m g) : Lin m fun a => orL (f a) (g a) := by
 have l : ∀ a, a.length = m → (f a).length = (g a).length := fun a h => by rw [hf.len a h, hg.len a h]
 refine ⟨fun a h => by rw [orL_len (l a h), hf.len a h], fun a b ha hb => ?_, ?_⟩
 ·have e := hf.or a b ha hb
  have e' := hg.or a b ha hb
  rw [e, e']
  have h1 := hf.len a ha
  have h2 := hf.len b hb
  have h3 := hg.len a ha
  have h4 := hg.len b hb
  refine setL_ext ?_ fun i => ?_
  ·rw [orL_len, orL_len, orL_len, orL_len] <;> simp only [orL_len, h1, h2, h3, h4]
  ·rw [orL_get, orL_get, orL_get, orL_get, orL_get, orL_get]
   ·cases (f a).getD i false <;> cases (f b).getD i false <;> cases (g a).getD i false <;> cases (g b).getD i false <;> rfl
   all_goals first | omega | (simp only [orL_len, h1, h2, h3, h4])
 ·show orL (f (falses m)) (g (falses m)) = falses m
  rw [hf.no, hg.no]
  exact setL_ext (by rw [orL_len rfl]) fun i => by rw [orL_get rfl, falses_get]; rfl
def Sub (a b : List Bool) : Prop := ∀ i, a.getD i false = true → b.getD i false = true
theorem Sub.or {a b : List Bool} (hl : a.length = b.length) (h : Sub a b) : orL b a = b := setL_ext (by rw [orL_len hl.symm]) fun i => by
 rw [orL_get hl.symm]
 cases hb : b.getD i false with
 | true => rfl
 | false =>
  cases ha : a.getD i false with
  | true => rw [h i ha] at hb; exact absurd hb (by simp)
  | false => rfl
def sumN (f : List Bool → List Bool) (a : List Bool) : Nat → List Bool
 | 0 => a
 | k + 1 => orL (sumN f a k) (f (sumN f a k))
theorem sumN_len {m : Nat} {f : List Bool → List Bool} (hf : Lin m f) {a : List Bool} (ha : a.length = m) : ∀ k, (sumN f a k).length = m
 | 0 => ha
 | k + 1 => by
  have ih := sumN_len hf ha k
  rw [sumN, orL_len (by rw [hf.len _ ih, ih]), ih]
end Abs
