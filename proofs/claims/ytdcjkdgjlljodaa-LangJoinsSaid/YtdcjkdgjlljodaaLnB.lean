/- A part. -/
import Derived.Test.YtdcjkdgjlljodaaLnA
import Derived.Test.YtdcjkdgjlljodaaTrA
set_option linter.all false
namespace Abs
open Go
def bs2 (w : Nat → Nat) (s : List UInt8) (a : List Bool) : List Bool := false :: List.zipWith (fun f b => f && bf5 w b.toNat) a s
theorem bi1 {w : Nat → Nat} {s : List UInt8} {a : List Bool} (h : a.length = s.length + 1) : (bs2 w s a).length = s.length + 1 := by unfold bs2; rw [List.length_cons, List.length_zipWith, h, Nat.min_eq_right (by omega)]
theorem bh9 {w : Nat → Nat} {s : List UInt8} {a : List Bool} : (bs2 w s a).getD 0 false = false := rfl
theorem au6 {w : Nat → Nat} {s : List UInt8} {a : List Bool} {i : Nat} {b : UInt8} (hb : s[i]? = some b) : (bs2 w s a).getD (i + 1) false = (a.getD i false && bf5 w b.toNat) := by
 unfold bs2
 rw [List.getD_eq_getElem?_getD, List.getElem?_cons_succ, List.getElem?_zipWith, hb, List.getD_eq_getElem?_getD]
 cases a[i]? <;> rfl
theorem bi0 {w : Nat → Nat} {s : List UInt8} {a : List Bool} {i : Nat} (hi : s.length ≤ i) : (bs2 w s a).getD (i + 1) false = false := by
 unfold bs2
 rw [List.getD_eq_getElem?_getD, List.getElem?_cons_succ, List.getElem?_eq_none (by rw [List.length_zipWith]; omega)]
 rfl
theorem dx2 (w : Nat → Nat) (s : List UInt8) : Lin (s.length + 1) (bs2 w s) := by
 refine ⟨fun a h => bi1 h, fun a b ha hb => ?_, ?_⟩
 ·have l := bi1 (w := w) ha
  have l2 := bi1 (w := w) hb
  refine ay5 (by rw [ah8 (by omega), bi1 (by rw [ah8 (by omega)]; omega), l]) fun i => ?_
  rw [af1 (by omega)]
  cases i with
  | zero => rw [bh9, bh9, bh9]; rfl
  | succ i =>
   by_cases hi : i < s.length
   ·obtain ⟨b', hb'⟩ := ac4 hi
    rw [au6 hb', au6 hb', au6 hb', af1 (by omega)]
    cases a.getD i false <;> cases b.getD i false <;> cases bf5 w b'.toNat <;> rfl
   ·rw [bi0 (by omega), bi0 (by omega), bi0 (by omega)]; rfl
 ·refine ay5 (by rw [bi1 (aj2 _), aj2]) fun i => ?_
  rw [an5]
  cases i with
  | zero => rfl
  | succ i =>
   by_cases hi : i < s.length
   ·obtain ⟨b', hb'⟩ := ac4 hi
    rw [au6 hb', an5]; rfl
   ·rw [bi0 (by omega)]
def powN (f : List Bool → List Bool) : Nat → List Bool → List Bool
 | 0, a => a
 | n + 1, a => f (powN f n a)
theorem bi5 {m : Nat} {f : List Bool → List Bool} (hf : Lin m f) : ∀ n, Lin m (powN f n)
 | 0 => Lin.id m
 | n + 1 => (bi5 hf n).comp hf
theorem cy9 {m : Nat} {f : List Bool → List Bool} (hf : Lin m f) : ∀ k, Lin m fun a => sumN f a k
 | 0 => Lin.id m
 | k + 1 => by
  have ih := cy9 hf k
  exact ih.sum (ih.comp hf)
def au7 (s : List UInt8) (k : Int) (w : Nat → Nat) (lo hi : Int) (fs : List (List Bool → List Bool)) (a : List Bool) : List Bool :=
 if k = 0 then a else if k = 1 then bs2 w s a else if k = 2 then fs.foldl (fun x f => f x) a else if k = 3 then fs.foldl (fun o f => orL o (f a)) (falses (s.length + 1))
 else sumN (fs.headD fun a => a) (powN (fs.headD fun a => a) lo.toNat a) (if hi < 0 then s.length + 1 else (hi - lo).toNat)
mutual
def aa6 (s : List UInt8) : RT → List Bool → List Bool
 | .mk k w _ ts lo hi => au7 s k w lo hi (cf9 s ts)
def cf9 (s : List UInt8) : List RT → List (List Bool → List Bool)
 | [] => []
 | t :: ts => aa6 s t :: cf9 s ts
end
theorem ax8 (s : List UInt8) : ∀ ts : List RT, cf9 s ts = ts.map (aa6 s)
 | [] => by simp [cf9]
 | t :: ts => by simp [cf9, ax8 s ts]
theorem ca1 {m : Nat} : ∀ {fs : List (List Bool → List Bool)}, (∀ f ∈ fs, Lin m f) → Lin m fun a => fs.foldl (fun x f => f x) a
 | [], _ => Lin.id m
 | f :: fs, h => (h f (by simp)).comp (ca1 (fs := fs) fun g hg => h g (by simp [hg]))
theorem ca2 {m : Nat} : ∀ {fs : List (List Bool → List Bool)} {g : List Bool → List Bool}, Lin m g → (∀ f ∈ fs, Lin m f) → Lin m fun a => fs.foldl (fun o f => orL o (f a)) (g a)
 | [], _, hg, _ => hg
 | f :: fs, g, hg, h => ca2 (fs := fs) (g := fun a => orL (g a) (f a)) (hg.sum (h f (by simp))) fun q hq => h q (by simp [hq])
theorem cq3 (m : Nat) : Lin m fun _ => falses m := ⟨fun _ _ => aj2 m, fun _ _ _ _ => by
 exact ay5 (by rw [ah8 rfl]) fun i => by rw [af1 rfl, an5]; rfl, rfl⟩
theorem eg4 {s : List UInt8} {k : Int} {w : Nat → Nat} {lo hi : Int} {fs : List (List Bool → List Bool)} (h : ∀ f ∈ fs, Lin (s.length + 1) f) : Lin (s.length + 1) (au7 s k w lo hi fs) := by
 by_cases k0 : k = 0
 ·have : au7 s k w lo hi fs = fun a => a := by funext a; simp [au7, k0]
  rw [this]; exact Lin.id _
 by_cases k1 : k = 1
 ·have : au7 s k w lo hi fs = bs2 w s := by funext a; simp [au7, k1]
  rw [this]; exact dx2 w s
 by_cases k2 : k = 2
 ·have : au7 s k w lo hi fs = fun a => fs.foldl (fun x f => f x) a := by funext a; simp [au7, k2]
  rw [this]; exact ca1 h
 by_cases k3 : k = 3
 ·have : au7 s k w lo hi fs = fun a => fs.foldl (fun o f => orL o (f a)) (falses (s.length + 1)) := by funext a; simp [au7, k3]
  rw [this]; exact ca2 (g := fun _ => falses (s.length + 1)) (cq3 _) h
 have hh : Lin (s.length + 1) (fs.headD fun a => a) := by
  cases fs with
  | nil => exact Lin.id _
  | cons f fs => exact h f (by simp)
 have : au7 s k w lo hi fs = fun a => sumN (fs.headD fun a => a) (powN (fs.headD fun a => a) lo.toNat a) (if hi < 0 then s.length + 1 else (hi - lo).toNat) := by funext a; simp [au7, k0, k1, k2, k3]
 rw [this]
 exact (bi5 hh _).comp (cy9 hh _)
theorem av8 (s : List UInt8) {t : RT} (ht : t.Ok) : Lin (s.length + 1) (aa6 s t) := by
 induction ht with
 | mk k w x ts lo hi _ _ _ ih =>
  show Lin _ (aa6 s (.mk k w x ts lo hi))
  rw [show aa6 s (.mk k w x ts lo hi) = au7 s k w lo hi (cf9 s ts) by funext a; simp [aa6], ax8]
  exact eg4 fun f hf => by
   obtain ⟨t, h1, rfl⟩ := List.mem_map.1 hf
   exact ih t h1
def atL (n p : Nat) : List Bool := (falses (n + 1)).set p true
theorem ba2 (n p : Nat) : (atL n p).length = n + 1 := by unfold atL; rw [List.length_set, aj2]
theorem cc0 {n p : Nat} (hp : p ≤ n) (i : Nat) : (atL n p).getD i false = decide (i = p) := by
 unfold atL
 rw [List.getD_eq_getElem?_getD]
 by_cases e : i = p
 ·subst e
  rw [List.getElem?_set_self (by rw [aj2]; omega)]; simp
 ·rw [List.getElem?_set_ne (Ne.symm e)]
  have := an5 (n + 1) i
  rw [List.getD_eq_getElem?_getD] at this
  rw [this]; simp [e]
end Abs
