/- A part. -/
import Derived.Test.YtdcjkdgjlljodaaLnA
import Derived.Test.YtdcjkdgjlljodaaTrA
set_option linter.all false
namespace Abs
open Go
def bp7 (w : Nat → Nat) (s : List UInt8) (a : List Bool) : List Bool := false :: List.zipWith (fun f b => f && bd8 w b.toNat) a s
theorem be8 {w : Nat → Nat} {s : List UInt8} {a : List Bool} (h : a.length = s.length + 1) : (bp7 w s a).length = s.length + 1 := by unfold bp7; rw [List.length_cons, List.length_zipWith, h, Nat.min_eq_right (by omega)]
theorem bi9 {w : Nat → Nat} {s : List UInt8} {a : List Bool} : (bp7 w s a).getD 0 false = false := rfl
theorem aq3 {w : Nat → Nat} {s : List UInt8} {a : List Bool} {i : Nat} {b : UInt8} (hb : s[i]? = some b) : (bp7 w s a).getD (i + 1) false = (a.getD i false && bd8 w b.toNat) := by
 unfold bp7
 rw [List.getD_eq_getElem?_getD, List.getElem?_cons_succ, List.getElem?_zipWith, hb, List.getD_eq_getElem?_getD]
 cases a[i]? <;> rfl
theorem bj0 {w : Nat → Nat} {s : List UInt8} {a : List Bool} {i : Nat} (hi : s.length ≤ i) : (bp7 w s a).getD (i + 1) false = false := by
 unfold bp7
 rw [List.getD_eq_getElem?_getD, List.getElem?_cons_succ, List.getElem?_eq_none (by rw [List.length_zipWith]; omega)]
 rfl
theorem dy7 (w : Nat → Nat) (s : List UInt8) : Lin (s.length + 1) (bp7 w s) := by
 refine ⟨fun a h => be8 h, fun a b ha hb => ?_, ?_⟩
 ·have l := be8 (w := w) ha
  have l2 := be8 (w := w) hb
  refine ao5 (by rw [af9 (by omega), be8 (by rw [af9 (by omega)]; omega), l]) fun i => ?_
  rw [ac8 (by omega)]
  cases i with
  | zero => rw [bi9, bi9, bi9]; rfl
  | succ i =>
   by_cases hi : i < s.length
   ·obtain ⟨b', hb'⟩ := ac0 hi
    rw [aq3 hb', aq3 hb', aq3 hb', ac8 (by omega)]
    cases a.getD i false <;> cases b.getD i false <;> cases bd8 w b'.toNat <;> rfl
   ·rw [bj0 (by omega), bj0 (by omega), bj0 (by omega)]; rfl
 ·refine ao5 (by rw [be8 (ah3 _), ah3]) fun i => ?_
  rw [ad8]
  cases i with
  | zero => rfl
  | succ i =>
   by_cases hi : i < s.length
   ·obtain ⟨b', hb'⟩ := ac0 hi
    rw [aq3 hb', ad8]; rfl
   ·rw [bj0 (by omega)]
def powN (f : List Bool → List Bool) : Nat → List Bool → List Bool
 | 0, a => a
 | n + 1, a => f (powN f n a)
theorem ae8 {m : Nat} {f : List Bool → List Bool} (hf : Lin m f) : ∀ n, Lin m (powN f n)
 | 0 => Lin.id m
 | n + 1 => (ae8 hf n).comp hf
theorem ci1 {m : Nat} {f : List Bool → List Bool} (hf : Lin m f) : ∀ k, Lin m fun a => sumN f a k
 | 0 => Lin.id m
 | k + 1 => by
  have ih := ci1 hf k
  exact ih.sum (ih.comp hf)
theorem da4 {m : Nat} {f : List Bool → List Bool} (hf : Lin m f) {a : List Bool} (ha : a.length = m) : ∀ k, sumN f a (k + 1) = orL (sumN f a k) (powN f (k + 1) a)
 | 0 => rfl
 | k + 1 => by
  have ih := da4 hf ha k
  have l1 := au0 hf ha k
  have l2 := au0 hf ha (k + 1)
  have l3 := (ae8 hf (k + 1)).len a ha
  have l4 := (ae8 hf (k + 2)).len a ha
  have l5 := hf.len _ l1
  have l6 := hf.len _ l3
  have l7 : (powN f (k + 1 + 1) a).length = (f (powN f (k + 1) a)).length := rfl
  show orL (sumN f a (k + 1)) (f (sumN f a (k + 1))) = _
  have e : f (sumN f a (k + 1)) = orL (f (sumN f a k)) (f (powN f (k + 1) a)) := by rw [ih, hf.or _ _ l1 l3]
  have hs : Sub (f (sumN f a k)) (sumN f a (k + 1)) := fun i hi => by
   show (orL (sumN f a k) (f (sumN f a k))).getD i false = true
   rw [ac8 (by omega), hi, Bool.or_true]
  rw [e]
  refine ao5 (by rw [af9 (by rw [af9 (by omega)]; omega), af9 (by omega)]) fun i => ?_
  rw [ac8 (by rw [af9 (by omega)]; omega), ac8 (by omega), ac8 (by omega)]
  show _ = (_ || (f (powN f (k + 1) a)).getD i false)
  have := hs i
  revert this
  cases (f (sumN f a k)).getD i false <;> cases (sumN f a (k + 1)).getD i false <;> simp
def an0 (s : List UInt8) (k : Int) (w : Nat → Nat) (lo hi : Int) (fs : List (List Bool → List Bool)) (a : List Bool) : List Bool :=
 if k = 0 then a else if k = 1 then bp7 w s a else if k = 2 then fs.foldl (fun x f => f x) a else if k = 3 then fs.foldl (fun o f => orL o (f a)) (af4 (s.length + 1))
 else sumN (fs.headD fun a => a) (powN (fs.headD fun a => a) lo.toNat a) (if hi < 0 then s.length + 1 else (hi - lo).toNat)
mutual
def aa5 (s : List UInt8) : RT → List Bool → List Bool
 | .mk k w _ ts lo hi => an0 s k w lo hi (cg8 s ts)
def cg8 (s : List UInt8) : List RT → List (List Bool → List Bool)
 | [] => []
 | t :: ts => aa5 s t :: cg8 s ts
end
theorem aq1 (s : List UInt8) : ∀ ts : List RT, cg8 s ts = ts.map (aa5 s)
 | [] => by simp [cg8]
 | t :: ts => by simp [cg8, aq1 s ts]
theorem bs5 {m : Nat} : ∀ {fs : List (List Bool → List Bool)}, (∀ f ∈ fs, Lin m f) → Lin m fun a => fs.foldl (fun x f => f x) a
 | [], _ => Lin.id m
 | f :: fs, h => (h f (by simp)).comp (bs5 (fs := fs) fun g hg => h g (by simp [hg]))
theorem cb5 {m : Nat} : ∀ {fs : List (List Bool → List Bool)} {g : List Bool → List Bool}, Lin m g → (∀ f ∈ fs, Lin m f) → Lin m fun a => fs.foldl (fun o f => orL o (f a)) (g a)
 | [], _, hg, _ => hg
 | f :: fs, g, hg, h => cb5 (fs := fs) (g := fun a => orL (g a) (f a)) (hg.sum (h f (by simp))) fun q hq => h q (by simp [hq])
theorem cr4 (m : Nat) : Lin m fun _ => af4 m := ⟨fun _ _ => ah3 m, fun _ _ _ _ => by
 exact ao5 (by rw [af9 rfl]) fun i => by rw [ac8 rfl, ad8]; rfl, rfl⟩
theorem ei6 {s : List UInt8} {k : Int} {w : Nat → Nat} {lo hi : Int} {fs : List (List Bool → List Bool)} (h : ∀ f ∈ fs, Lin (s.length + 1) f) : Lin (s.length + 1) (an0 s k w lo hi fs) := by
 by_cases k0 : k = 0
 ·have : an0 s k w lo hi fs = fun a => a := by funext a; simp [an0, k0]
  rw [this]; exact Lin.id _
 by_cases k1 : k = 1
 ·have : an0 s k w lo hi fs = bp7 w s := by funext a; simp [an0, k1]
  rw [this]; exact dy7 w s
 by_cases k2 : k = 2
 ·have : an0 s k w lo hi fs = fun a => fs.foldl (fun x f => f x) a := by funext a; simp [an0, k2]
  rw [this]; exact bs5 h
 by_cases k3 : k = 3
 ·have : an0 s k w lo hi fs = fun a => fs.foldl (fun o f => orL o (f a)) (af4 (s.length + 1)) := by funext a; simp [an0, k3]
  rw [this]; exact cb5 (g := fun _ => af4 (s.length + 1)) (cr4 _) h
 have hh : Lin (s.length + 1) (fs.headD fun a => a) := by
  cases fs with
  | nil => exact Lin.id _
  | cons f fs => exact h f (by simp)
 have : an0 s k w lo hi fs = fun a => sumN (fs.headD fun a => a) (powN (fs.headD fun a => a) lo.toNat a) (if hi < 0 then s.length + 1 else (hi - lo).toNat) := by funext a; simp [an0, k0, k1, k2, k3]
 rw [this]
 exact (ae8 hh _).comp (ci1 hh _)
theorem ak6 (s : List UInt8) {t : RT} (ht : t.Ok) : Lin (s.length + 1) (aa5 s t) := by
 induction ht with
 | mk k w x ts lo hi _ _ _ ih =>
  show Lin _ (aa5 s (.mk k w x ts lo hi))
  rw [show aa5 s (.mk k w x ts lo hi) = an0 s k w lo hi (cg8 s ts) by funext a; simp [aa5], aq1]
  exact ei6 fun f hf => by
   obtain ⟨t, h1, rfl⟩ := List.mem_map.1 hf
   exact ih t h1
def atL (n p : Nat) : List Bool := (af4 (n + 1)).set p true
theorem bg9 (n p : Nat) : (atL n p).length = n + 1 := by unfold atL; rw [List.length_set, ah3]
theorem cd2 {n p : Nat} (hp : p ≤ n) (i : Nat) : (atL n p).getD i false = decide (i = p) := by
 unfold atL
 rw [List.getD_eq_getElem?_getD]
 by_cases e : i = p
 ·subst e
  rw [List.getElem?_set_self (by rw [ah3]; omega)]; simp
 ·rw [List.getElem?_set_ne (Ne.symm e)]
  have := ad8 (n + 1) i
  rw [List.getD_eq_getElem?_getD] at this
  rw [this]; simp [e]
end Abs
