/- A part. -/
import Derived.Test.YtaifcggapmdhdaaLnA
import Derived.Test.YtaifcggapmdhdaaTrA
set_option linter.all false
namespace Abs
open Go
def byteD (w : Nat → Nat) (s : List UInt8) (a : List Bool) : List Bool := false :: List.zipWith (fun f b => f && inSet w b.toNat) a s
theorem byteD_len {w : Nat → Nat} {s : List UInt8} {a : List Bool} (h : a.length = s.length + 1) : (byteD w s a).length = s.length + 1 := by unfold byteD; rw [List.length_cons, List.length_zipWith, h, Nat.min_eq_right (by omega)]
theorem byteD_zero {w : Nat → Nat} {s : List UInt8} {a : List Bool} : (byteD w s a).getD 0 false = false := rfl
theorem byteD_succ {w : Nat → Nat} {s : List UInt8} {a : List Bool} {i : Nat} {b : UInt8} (hb : s[i]? = some b) : (byteD w s a).getD (i + 1) false = (a.getD i false && inSet w b.toNat) := by
 unfold byteD
 rw [List.getD_eq_getElem?_getD, List.getElem?_cons_succ, List.getElem?_zipWith, hb, List.getD_eq_getElem?_getD]
 cases a[i]? <;> rfl
theorem byteD_out {w : Nat → Nat} {s : List UInt8} {a : List Bool} {i : Nat} (hi : s.length ≤ i) : (byteD w s a).getD (i + 1) false = false := by
 unfold byteD
 rw [List.getD_eq_getElem?_getD, List.getElem?_cons_succ, List.getElem?_eq_none (by rw [List.length_zipWith]; omega)]
 rfl
theorem byteD_lin (w : Nat → Nat) (s : List UInt8) : Lin (s.length + 1) (byteD w s) := by
 refine ⟨fun a h => byteD_len h, fun a b ha hb => ?_, ?_⟩
 ·have l := byteD_len (w := w) ha
  have l2 := byteD_len (w := w) hb
  refine setL_ext (by rw [orL_len (by omega), byteD_len (by rw [orL_len (by omega)]; omega), l]) fun i => ?_
  rw [orL_get (by omega)]
  cases i with
  | zero => rw [byteD_zero, byteD_zero, byteD_zero]; rfl
  | succ i =>
   by_cases hi : i < s.length
   ·obtain ⟨b', hb'⟩ := get_some hi
    rw [byteD_succ hb', byteD_succ hb', byteD_succ hb', orL_get (by omega)]
    cases a.getD i false <;> cases b.getD i false <;> cases inSet w b'.toNat <;> rfl
   ·rw [byteD_out (by omega), byteD_out (by omega), byteD_out (by omega)]; rfl
 ·refine setL_ext (by rw [byteD_len (falses_len _), falses_len]) fun i => ?_
  rw [falses_get]
  cases i with
  | zero => rfl
  | succ i =>
   by_cases hi : i < s.length
   ·obtain ⟨b', hb'⟩ := get_some hi
    rw [byteD_succ hb', falses_get]; rfl
   ·rw [byteD_out (by omega)]
def powN (f : List Bool → List Bool) : Nat → List Bool → List Bool
 | 0, a => a
 | n + 1, a => f (powN f n a)
theorem powN_lin {m : Nat} {f : List Bool → List Bool} (hf : Lin m f) : ∀ n, Lin m (powN f n)
 | 0 => Lin.id m
 | n + 1 => (powN_lin hf n).comp hf
theorem sumN_lin {m : Nat} {f : List Bool → List Bool} (hf : Lin m f) : ∀ k, Lin m fun a => sumN f a k
 | 0 => Lin.id m
 | k + 1 => by
  have ih := sumN_lin hf k
  exact ih.sum (ih.comp hf)
theorem sumN_pow {m : Nat} {f : List Bool → List Bool} (hf : Lin m f) {a : List Bool} (ha : a.length = m) : ∀ k, sumN f a (k + 1) = orL (sumN f a k) (powN f (k + 1) a)
 | 0 => rfl
 | k + 1 => by
  have ih := sumN_pow hf ha k
  have l1 := sumN_len hf ha k
  have l2 := sumN_len hf ha (k + 1)
  have l3 := (powN_lin hf (k + 1)).len a ha
  have l4 := (powN_lin hf (k + 2)).len a ha
  have l5 := hf.len _ l1
  have l6 := hf.len _ l3
  have l7 : (powN f (k + 1 + 1) a).length = (f (powN f (k + 1) a)).length := rfl
  show orL (sumN f a (k + 1)) (f (sumN f a (k + 1))) = _
  have e : f (sumN f a (k + 1)) = orL (f (sumN f a k)) (f (powN f (k + 1) a)) := by rw [ih, hf.or _ _ l1 l3]
  have hs : Sub (f (sumN f a k)) (sumN f a (k + 1)) := fun i hi => by
   show (orL (sumN f a k) (f (sumN f a k))).getD i false = true
   rw [orL_get (by omega), hi, Bool.or_true]
  rw [e]
  refine setL_ext (by rw [orL_len (by rw [orL_len (by omega)]; omega), orL_len (by omega)]) fun i => ?_
  rw [orL_get (by rw [orL_len (by omega)]; omega), orL_get (by omega), orL_get (by omega)]
  show _ = (_ || (f (powN f (k + 1) a)).getD i false)
  have := hs i
  revert this
  cases (f (sumN f a k)).getD i false <;> cases (sumN f a (k + 1)).getD i false <;> simp
def combD (s : List UInt8) (k : Int) (w : Nat → Nat) (lo hi : Int) (fs : List (List Bool → List Bool)) (a : List Bool) : List Bool :=
 if k = 0 then a else if k = 1 then byteD w s a else if k = 2 then fs.foldl (fun x f => f x) a else if k = 3 then fs.foldl (fun o f => orL o (f a)) (falses (s.length + 1))
 else sumN (fs.headD fun a => a) (powN (fs.headD fun a => a) lo.toNat a) (if hi < 0 then s.length + 1 else (hi - lo).toNat)
mutual
def endsF (s : List UInt8) : RT → List Bool → List Bool
 | .mk k w _ ts lo hi => combD s k w lo hi (endsFs s ts)
def endsFs (s : List UInt8) : List RT → List (List Bool → List Bool)
 | [] => []
 | t :: ts => endsF s t :: endsFs s ts
end
theorem endsFs_map (s : List UInt8) : ∀ ts : List RT, endsFs s ts = ts.map (endsF s)
 | [] => by simp [endsFs]
 | t :: ts => by simp [endsFs, endsFs_map s ts]
theorem foldC_lin {m : Nat} : ∀ {fs : List (List Bool → List Bool)}, (∀ f ∈ fs, Lin m f) → Lin m fun a => fs.foldl (fun x f => f x) a
 | [], _ => Lin.id m
 | f :: fs, h => (h f (by simp)).comp (foldC_lin (fs := fs) fun g hg => h g (by simp [hg]))
theorem foldA_lin {m : Nat} : ∀ {fs : List (List Bool → List Bool)} {g : List Bool → List Bool}, Lin m g → (∀ f ∈ fs, Lin m f) → Lin m fun a => fs.foldl (fun o f => orL o (f a)) (g a)
 | [], _, hg, _ => hg
 | f :: fs, g, hg, h => foldA_lin (fs := fs) (g := fun a => orL (g a) (f a)) (hg.sum (h f (by simp))) fun q hq => h q (by simp [hq])
theorem const_lin (m : Nat) : Lin m fun _ => falses m := ⟨fun _ _ => falses_len m, fun _ _ _ _ => by
 exact setL_ext (by rw [orL_len rfl]) fun i => by rw [orL_get rfl, falses_get]; rfl, rfl⟩
theorem comb_lin {s : List UInt8} {k : Int} {w : Nat → Nat} {lo hi : Int} {fs : List (List Bool → List Bool)} (h : ∀ f ∈ fs, Lin (s.length + 1) f) : Lin (s.length + 1) (combD s k w lo hi fs) := by
 by_cases k0 : k = 0
 ·have : combD s k w lo hi fs = fun a => a := by funext a; simp [combD, k0]
  rw [this]; exact Lin.id _
 by_cases k1 : k = 1
 ·have : combD s k w lo hi fs = byteD w s := by funext a; simp [combD, k1]
  rw [this]; exact byteD_lin w s
 by_cases k2 : k = 2
 ·have : combD s k w lo hi fs = fun a => fs.foldl (fun x f => f x) a := by funext a; simp [combD, k2]
  rw [this]; exact foldC_lin h
 by_cases k3 : k = 3
 ·have : combD s k w lo hi fs = fun a => fs.foldl (fun o f => orL o (f a)) (falses (s.length + 1)) := by funext a; simp [combD, k3]
  rw [this]; exact foldA_lin (g := fun _ => falses (s.length + 1)) (const_lin _) h
 have hh : Lin (s.length + 1) (fs.headD fun a => a) := by
  cases fs with
  | nil => exact Lin.id _
  | cons f fs => exact h f (by simp)
 have : combD s k w lo hi fs = fun a => sumN (fs.headD fun a => a) (powN (fs.headD fun a => a) lo.toNat a) (if hi < 0 then s.length + 1 else (hi - lo).toNat) := by funext a; simp [combD, k0, k1, k2, k3]
 rw [this]
 exact (powN_lin hh _).comp (sumN_lin hh _)
theorem ends_lin (s : List UInt8) {t : RT} (ht : t.Ok) : Lin (s.length + 1) (endsF s t) := by
 induction ht with
 | mk k w x ts lo hi _ _ _ ih =>
  show Lin _ (endsF s (.mk k w x ts lo hi))
  rw [show endsF s (.mk k w x ts lo hi) = combD s k w lo hi (endsFs s ts) by funext a; simp [endsF], endsFs_map]
  exact comb_lin fun f hf => by
   obtain ⟨t, h1, rfl⟩ := List.mem_map.1 hf
   exact ih t h1
def atL (n p : Nat) : List Bool := (falses (n + 1)).set p true
theorem atL_len (n p : Nat) : (atL n p).length = n + 1 := by unfold atL; rw [List.length_set, falses_len]
theorem atL_get {n p : Nat} (hp : p ≤ n) (i : Nat) : (atL n p).getD i false = decide (i = p) := by
 unfold atL
 rw [List.getD_eq_getElem?_getD]
 by_cases e : i = p
 ·subst e
  rw [List.getElem?_set_self (by rw [falses_len]; omega)]; simp
 ·rw [List.getElem?_set_ne (Ne.symm e)]
  have := falses_get (n + 1) i
  rw [List.getD_eq_getElem?_getD] at this
  rw [this]; simp [e]
end Abs
