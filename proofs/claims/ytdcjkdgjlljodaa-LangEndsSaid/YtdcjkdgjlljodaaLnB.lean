/- A part. -/
import Derived.Test.YtdcjkdgjlljodaaLnA
import Derived.Test.YtdcjkdgjlljodaaTrA
set_option linter.all false
namespace Abs
open Go
def ba7 (w : Nat → Nat) (s : List UInt8) (a : List Bool) : List Bool := false :: List.zipWith (fun f b => f && bb7 w b.toNat) a s
theorem bf1 {w : Nat → Nat} {s : List UInt8} {a : List Bool} (h : a.length = s.length + 1) : (ba7 w s a).length = s.length + 1 := by unfold ba7; rw [List.length_cons, List.length_zipWith, h, Nat.min_eq_right (by omega)]
theorem bn9 {w : Nat → Nat} {s : List UInt8} {a : List Bool} : (ba7 w s a).getD 0 false = false := rfl
theorem bc4 {w : Nat → Nat} {s : List UInt8} {a : List Bool} {i : Nat} {b : UInt8} (hb : s[i]? = some b) : (ba7 w s a).getD (i + 1) false = (a.getD i false && bb7 w b.toNat) := by
 unfold ba7
 rw [List.getD_eq_getElem?_getD, List.getElem?_cons_succ, List.getElem?_zipWith, hb, List.getD_eq_getElem?_getD]
 cases a[i]? <;> rfl
theorem bm4 {w : Nat → Nat} {s : List UInt8} {a : List Bool} {i : Nat} (hi : s.length ≤ i) : (ba7 w s a).getD (i + 1) false = false := by
 unfold ba7
 rw [List.getD_eq_getElem?_getD, List.getElem?_cons_succ, List.getElem?_eq_none (by rw [List.length_zipWith]; omega)]
 rfl
theorem dx6 (w : Nat → Nat) (s : List UInt8) : Lin (s.length + 1) (ba7 w s) := by
 refine ⟨fun a h => bf1 h, fun a b ha hb => ?_, ?_⟩
 ·have l := bf1 (w := w) ha
  have l2 := bf1 (w := w) hb
  refine au3 (by rw [ah7 (by omega), bf1 (by rw [ah7 (by omega)]; omega), l]) fun i => ?_
  rw [af1 (by omega)]
  cases i with
  | zero => rw [bn9, bn9, bn9]; rfl
  | succ i =>
   by_cases hi : i < s.length
   ·obtain ⟨b', hb'⟩ := ab2 hi
    rw [bc4 hb', bc4 hb', bc4 hb', af1 (by omega)]
    cases a.getD i false <;> cases b.getD i false <;> cases bb7 w b'.toNat <;> rfl
   ·rw [bm4 (by omega), bm4 (by omega), bm4 (by omega)]; rfl
 ·refine au3 (by rw [bf1 (ac9 _), ac9]) fun i => ?_
  rw [ao6]
  cases i with
  | zero => rfl
  | succ i =>
   by_cases hi : i < s.length
   ·obtain ⟨b', hb'⟩ := ab2 hi
    rw [bc4 hb', ao6]; rfl
   ·rw [bm4 (by omega)]
def powN (f : List Bool → List Bool) : Nat → List Bool → List Bool
 | 0, a => a
 | n + 1, a => f (powN f n a)
theorem bm9 {m : Nat} {f : List Bool → List Bool} (hf : Lin m f) : ∀ n, Lin m (powN f n)
 | 0 => Lin.id m
 | n + 1 => (bm9 hf n).comp hf
theorem cz8 {m : Nat} {f : List Bool → List Bool} (hf : Lin m f) : ∀ k, Lin m fun a => sumN f a k
 | 0 => Lin.id m
 | k + 1 => by
  have ih := cz8 hf k
  exact ih.sum (ih.comp hf)
theorem cz7 {m : Nat} {f : List Bool → List Bool} (hf : Lin m f) {a : List Bool} (ha : a.length = m) : ∀ k, sumN f a (k + 1) = orL (sumN f a k) (powN f (k + 1) a)
 | 0 => rfl
 | k + 1 => by
  have ih := cz7 hf ha k
  have l1 := bi7 hf ha k
  have l2 := bi7 hf ha (k + 1)
  have l3 := (bm9 hf (k + 1)).len a ha
  have l4 := (bm9 hf (k + 2)).len a ha
  have l5 := hf.len _ l1
  have l6 := hf.len _ l3
  have l7 : (powN f (k + 1 + 1) a).length = (f (powN f (k + 1) a)).length := rfl
  show orL (sumN f a (k + 1)) (f (sumN f a (k + 1))) = _
  have e : f (sumN f a (k + 1)) = orL (f (sumN f a k)) (f (powN f (k + 1) a)) := by rw [ih, hf.or _ _ l1 l3]
  have hs : Sub (f (sumN f a k)) (sumN f a (k + 1)) := fun i hi => by
   show (orL (sumN f a k) (f (sumN f a k))).getD i false = true
   rw [af1 (by omega), hi, Bool.or_true]
  rw [e]
  refine au3 (by rw [ah7 (by rw [ah7 (by omega)]; omega), ah7 (by omega)]) fun i => ?_
  rw [af1 (by rw [ah7 (by omega)]; omega), af1 (by omega), af1 (by omega)]
  show _ = (_ || (f (powN f (k + 1) a)).getD i false)
  have := hs i
  revert this
  cases (f (sumN f a k)).getD i false <;> cases (sumN f a (k + 1)).getD i false <;> simp
def ar6 (s : List UInt8) (k : Int) (w : Nat → Nat) (lo hi : Int) (fs : List (List Bool → List Bool)) (a : List Bool) : List Bool :=
 if k = 0 then a else if k = 1 then ba7 w s a else if k = 2 then fs.foldl (fun x f => f x) a else if k = 3 then fs.foldl (fun o f => orL o (f a)) (ac3 (s.length + 1))
 else sumN (fs.headD fun a => a) (powN (fs.headD fun a => a) lo.toNat a) (if hi < 0 then s.length + 1 else (hi - lo).toNat)
mutual
def ab5 (s : List UInt8) : RT → List Bool → List Bool
 | .mk k w _ ts lo hi => ar6 s k w lo hi (cf6 s ts)
def cf6 (s : List UInt8) : List RT → List (List Bool → List Bool)
 | [] => []
 | t :: ts => ab5 s t :: cf6 s ts
end
theorem bn8 (s : List UInt8) : ∀ ts : List RT, cf6 s ts = ts.map (ab5 s)
 | [] => by simp [cf6]
 | t :: ts => by simp [cf6, bn8 s ts]
theorem bs0 {m : Nat} : ∀ {fs : List (List Bool → List Bool)}, (∀ f ∈ fs, Lin m f) → Lin m fun a => fs.foldl (fun x f => f x) a
 | [], _ => Lin.id m
 | f :: fs, h => (h f (by simp)).comp (bs0 (fs := fs) fun g hg => h g (by simp [hg]))
theorem bs1 {m : Nat} : ∀ {fs : List (List Bool → List Bool)} {g : List Bool → List Bool}, Lin m g → (∀ f ∈ fs, Lin m f) → Lin m fun a => fs.foldl (fun o f => orL o (f a)) (g a)
 | [], _, hg, _ => hg
 | f :: fs, g, hg, h => bs1 (fs := fs) (g := fun a => orL (g a) (f a)) (hg.sum (h f (by simp))) fun q hq => h q (by simp [hq])
theorem cb0 (m : Nat) : Lin m fun _ => ac3 m := ⟨fun _ _ => ac9 m, fun _ _ _ _ => by
 exact au3 (by rw [ah7 rfl]) fun i => by rw [af1 rfl, ao6]; rfl, rfl⟩
theorem eh1 {s : List UInt8} {k : Int} {w : Nat → Nat} {lo hi : Int} {fs : List (List Bool → List Bool)} (h : ∀ f ∈ fs, Lin (s.length + 1) f) : Lin (s.length + 1) (ar6 s k w lo hi fs) := by
 by_cases k0 : k = 0
 ·have : ar6 s k w lo hi fs = fun a => a := by funext a; simp [ar6, k0]
  rw [this]; exact Lin.id _
 by_cases k1 : k = 1
 ·have : ar6 s k w lo hi fs = ba7 w s := by funext a; simp [ar6, k1]
  rw [this]; exact dx6 w s
 by_cases k2 : k = 2
 ·have : ar6 s k w lo hi fs = fun a => fs.foldl (fun x f => f x) a := by funext a; simp [ar6, k2]
  rw [this]; exact bs0 h
 by_cases k3 : k = 3
 ·have : ar6 s k w lo hi fs = fun a => fs.foldl (fun o f => orL o (f a)) (ac3 (s.length + 1)) := by funext a; simp [ar6, k3]
  rw [this]; exact bs1 (g := fun _ => ac3 (s.length + 1)) (cb0 _) h
 have hh : Lin (s.length + 1) (fs.headD fun a => a) := by
  cases fs with
  | nil => exact Lin.id _
  | cons f fs => exact h f (by simp)
 have : ar6 s k w lo hi fs = fun a => sumN (fs.headD fun a => a) (powN (fs.headD fun a => a) lo.toNat a) (if hi < 0 then s.length + 1 else (hi - lo).toNat) := by funext a; simp [ar6, k0, k1, k2, k3]
 rw [this]
 exact (bm9 hh _).comp (cz8 hh _)
theorem bb8 (s : List UInt8) {t : RT} (ht : t.Ok) : Lin (s.length + 1) (ab5 s t) := by
 induction ht with
 | mk k w x ts lo hi _ _ _ ih =>
  show Lin _ (ab5 s (.mk k w x ts lo hi))
  rw [show ab5 s (.mk k w x ts lo hi) = ar6 s k w lo hi (cf6 s ts) by funext a; simp [ab5], bn8]
  exact eh1 fun f hf => by
   obtain ⟨t, h1, rfl⟩ := List.mem_map.1 hf
   exact ih t h1
def atL (n p : Nat) : List Bool := (ac3 (n + 1)).set p true
theorem bg9 (n p : Nat) : (atL n p).length = n + 1 := by unfold atL; rw [List.length_set, ac9]
theorem dy2 {n p : Nat} (hp : p ≤ n) (i : Nat) : (atL n p).getD i false = decide (i = p) := by
 unfold atL
 rw [List.getD_eq_getElem?_getD]
 by_cases e : i = p
 ·subst e
  rw [List.getElem?_set_self (by rw [ac9]; omega)]; simp
 ·rw [List.getElem?_set_ne (Ne.symm e)]
  have := ao6 (n + 1) i
  rw [List.getD_eq_getElem?_getD] at this
  rw [this]; simp [e]
end Abs
