/- A part. -/
import Derived.Test.YtddgppmcbjjliaaGreatDoorRows
import Derived.Test.YtddgppmcbjjliaaGreatDoorTdE
import Derived.Test.YtddgppmcbjjliaaGreatDoorDenRow2
import Derived.Test.YtddgppmcbjjliaaGreatDoorClassO
import Derived.LaidMore
import Derived.Stop.Joined
import Derived.Test.YtddgppmcbjjliaaGreatDoorAbsKn
import Derived.Test.YtddgppmcbjjliaaGreatDoorDsA
set_option linter.all false
namespace Go.Proofs.YtddgppmcbjjliaaGreatDoor
open Go Abs Go.ChangeShapes Go.WideShapes Go.ChangeAt Go.RowKit
theorem own : ownKnob Tryz.prog.godebug = none := by kernel_rfl
theorem fc6 : laidOutB Tryz.prog = true := by kernel_rfl
theorem gBr : Tryz.prog.globalNamed "math/bits.deBruijn64tab" = some 0 := by kernel_rfl
theorem tBr : (Tryz.prog.globals[0]?).map (·.type) = some 164 := by kernel_rfl
def ef0 : List (String × DataW Unit) := [("math/bits.deBruijn64tab", Rows.laid_math_bits_deBruijn64tab)]
theorem ev4 (os : Os) (args : Array Value) : laidMetH Tryz.prog ef0 ((World.doorLaid Tryz.prog 400 os).forCall (fun _ _ => 0) ⟨#[], args, []⟩).memory :=
 laidMetH_of_parts3 (fuel := 8) (laidMet_of_run' 8 (by kernel_rfl) (by kernel_rfl)) (by kernel_rfl) (by kernel_rfl)
def gam (g : Nat) : EV := if g = 0 then .iptr (tab 64 fun i => .int .u8 ((brT i : Nat) : Int)) 0 else .undef
theorem start {W : World} (h : laidMetH Tryz.prog ef0 W) : RH gam id (oldI W) [] W := by
 rw [MakeChecks.laidMetH_plain _ _ _ (by kernel_rfl)] at h
 obtain ⟨ps, hlv, _, _⟩ := h
 obtain ⟨c, T, fr, h1, h2, h3⟩ := ds6 (k := .u8) (m := 64) (e := 5) (ns := brL.map fun b => ((b : Nat) : Int)) hlv gBr tBr Tryz.underlying164 Tryz.underlying5 (by kernel_rfl) (by kernel_rfl) rfl rfl
 refine ⟨fun g => ?_, by simp, by simp, fun _ h => h, by simp, by simp⟩
 unfold gam
 split
 ·rename_i e
  subst e
  have hlt : 0 < W.heap.size := (Array.getElem?_eq_some_iff.1 h1).1
  refine .iptr _ 0 0 0 c T fr hlt h1 (by rw [ab9, h2]; omega) fun k x v hx hv => ?_
  have hk := aa9 hx
  rw [ab9] at hk
  rw [bj7 hk] at hx
  simp only [Option.some.injEq] at hx
  subst hx
  rw [Nat.zero_add, h3 k hk] at hv
  have hkl : k < brL.length := hk
  rw [List.getElem?_map, List.getElem?_eq_getElem hkl] at hv
  simp only [Option.map_some, Option.some.injEq] at hv
  subst hv
  have e : brT k = brL[k] := by simp [brT, hkl]
  rw [e]
  exact .int _ _
 ·exact .undef _
set_option maxRecDepth 100000 in
theorem shNfa {es : List EV} (h : ao7 Tryz.prog 5 27 es) : ∃ n : NF, True ∧ at9 Tryz.prog 27 es = n.E :=
 dy7 (D := 1) (u0 := 63) Tryz.underlying27 rfl Tryz.underlying22 (by kernel_rfl) (by kernel_rfl) (by kernel_rfl) (by kernel_rfl) Tryz.underlying23 Tryz.underlying3 (by kernel_rfl) (by kernel_rfl) Tryz.underlying24 (by kernel_rfl) Tryz.underlying25 Tryz.underlying4 (by kernel_rfl) (by kernel_rfl) h
end Go.Proofs.YtddgppmcbjjliaaGreatDoor

namespace Abs
open Go
theorem ch2 {w : Nat → Nat} {b : Nat} (hb : b < 256) (h1 : ag6 w b = true) (h2 : ∀ a, a < b → ag6 w a = false) : bv0 (av5 w) 0 = (b : Int) := by
 unfold bv0 av5
 have : ((List.finRange 256).filter fun b => ag6 w b.val).find? (fun b => decide ((0 : Int) ≤ ((b.val : Nat) : Int))) = some ⟨b, hb⟩ := by
  rw [List.find?_filter, List.find?_eq_some_iff_getElem]
  refine ⟨by simp [h1], b, by simpa using hb, by simp, fun j hj => ?_⟩
  have := h2 j hj
  simp [this]
 rw [this]
end Abs
namespace Go.Proofs.YtddgppmcbjjliaaGreatDoor
open Go Abs
theorem tzOk : TzOk Tryz.prog gam 101 := tz_ok b101 rfl
theorem allOk : fg7 Tryz.prog gam 86 100 := fk9 b86
theorem fi8 : em8 Tryz.prog gam 64 := fc0 b64 allOk b100 tzOk
theorem dk0 : db3 Tryz.prog gam 59 .i64 := ea5 b59
theorem fd0 : db3 Tryz.prog gam 63 .u8 := fj4 b63 b84 b85 b98 b99
theorem fj1 (of : Nat → Nat) (n : Int) (H : Heap) (hof : ∀ b, b < 256 → of b < 256) : CallsA Tryz.prog gam 43 [aa1 of n] H fun er H' => er = .ret (.bool (ax2 of n)) ∧ H' = H := fj0 b43 b70 b61 of n hof H
theorem fc4 : fl2 Tryz.prog gam 43 := fun of n H hof => by
 have := fj1 of n H hof
 rwa [ed9] at this
theorem fi9 : em9 Tryz.prog gam 65 := fc3 b65 fc4 (fun x y H hx hy => fk8 b87 b98 b102 x y hx hy H) b85
theorem eg5 (of : Nat → Nat) (n k : Int) (H : Heap) (hof : ∀ b, b < 256 → of b < 256) : CallsA Tryz.prog gam 34 [aa1 of n, .int .i64 k] H fun er H' => er = .ret (.int .i64 (bv0 (av5 (bq5 of n k)) 0)) ∧ H' = H := eu4 b34 fi9 fi8 of n k hof H
/-! ### The document's example -/
def sA : EV := .agg [.int .u64 0, .int .u64 8589934592, .int .u64 0, .int .u64 0]
def sB : EV := .agg [.int .u64 0, .int .u64 17179869184, .int .u64 0, .int .u64 0]
def sX : EV := .imm 4 [sA, sA, sB]
def ofX (b : Nat) : Nat := if b = 97 then 1 else if b = 98 then 2 else 0
def cX : EV := aa1 ofX 3
theorem ey1 : ∀ b, b < 256 → ofX b < 256 := fun b _ => by
 unfold ofX
 split
 ·omega
 ·split <;> omega
theorem mayX : mayC ofX 3 = true := by kernel_rfl
theorem eg4 (k : Int) (b : Nat) (hb : b < 256) (h1 : ((ofX b : Nat) : Int) = k) (h2 : ∀ a, a < b → ((ofX a : Nat) : Int) ≠ k) (H : Heap) : CallsA Tryz.prog gam 34 [cX, .int .i64 k] H fun er H' => er = .ret (.int .i64 b) ∧ H' = H := by
 have := eg5 ofX 3 k H ey1
 rwa [ch2 hb (by rw [bv4 _ _ _ _ hb, mayX, h1]; simp) fun a ha => by rw [bv4 _ _ _ _ (by omega), decide_eq_false (h2 a ha)]; simp] at this
theorem fk0 (H : Heap) : CallsA Tryz.prog gam 34 [cX, .int .i64 0] H fun er H' => er = .ret (.int .i64 0) ∧ H' = H := eg4 0 0 (by omega) (by decide) (by omega) H
theorem fj9 (H : Heap) : CallsA Tryz.prog gam 34 [cX, .int .i64 1] H fun er H' => er = .ret (.int .i64 97) ∧ H' = H := eg4 1 97 (by omega) (by decide) (by decide) H
theorem fj8 (H : Heap) : CallsA Tryz.prog gam 34 [cX, .int .i64 2] H fun er H' => er = .ret (.int .i64 98) ∧ H' = H := eg4 2 98 (by omega) (by decide) (by decide) H
theorem ds3 (H : Heap) : CallsA Tryz.prog gam 43 [cX] H fun er H' => er = .ret (.bool true) ∧ H' = H := by
 have := fc4 ofX 3 H ey1
 rwa [mayX] at this
end Go.Proofs.YtddgppmcbjjliaaGreatDoor

set_option maxRecDepth 20000
namespace Go.Proofs.YtddgppmcbjjliaaGreatDoor
open Go Abs
def wA (i : Nat) : Nat := if i = 1 then 8589934592 else 0
def wB (i : Nat) : Nat := if i = 1 then 17179869184 else 0
theorem di5 : av8 wA := fun i => by unfold wA; split <;> simp
theorem eo6 : av8 wB := fun i => by unfold wB; split <;> simp
theorem inA : ∀ a, a < 256 → ag6 wA a = decide (a = 97) := by decide +kernel
theorem inB : ∀ a, a < 256 → ag6 wB a = decide (a = 98) := by decide +kernel
theorem fl0 {a b : Nat} (ha : a < 256) (hb : b < 256) : aw0 [wA, wA, wB] a b = true ↔ ofX a = ofX b := by
 unfold aw0 ofX
 simp only [List.all_cons, List.all_nil, Bool.and_true, inA a ha, inA b hb, inB a ha, inB b hb, Bool.and_eq_true, beq_iff_eq, decide_eq_decide]
 by_cases h1 : a = 97 <;> by_cases h2 : b = 97 <;> by_cases h3 : a = 98 <;> by_cases h4 : b = 98 <;> simp [h1, h2, h3, h4] <;> omega
theorem sameCls {of of' : Nat → Nat} (h : ∀ a b, a < 256 → b < 256 → (of a = of b ↔ of' a = of' b)) (hc : ∀ i, i < 256 → clsN (al7 of) i = of i) (hc' : ∀ i, i < 256 → clsN (al7 of') i = of' i) :
  ∀ b, b ≤ 256 → (∀ a, a < b → of a = of' a) ∧ cntN of b = cntN of' b
 | 0, _ => ⟨by omega, by rw [bj4, bj4]⟩
 | b + 1, hb => by
  obtain ⟨h1, h2⟩ := sameCls h hc hc' b (by omega)
  by_cases ho : ∃ a, a < b ∧ of a = of b
  ·obtain ⟨a, ha, e⟩ := ho
   have e' := (h a b (by omega) (by omega)).1 e
   refine ⟨fun c hcb => ?_, by rw [bf6 ha e, bf6 ha e', h2]⟩
   by_cases hcb' : c < b
   ·exact h1 c hcb'
   ·obtain rfl : c = b := by omega
    rw [← e, ← e', h1 a ha]
  ·have hn : ∀ a, a < b → ¬ of a = of b := fun a ha e => ho ⟨a, ha, e⟩
   have hn' : ∀ a, a < b → ¬ of' a = of' b := fun a ha e => hn a ha ((h a b (by omega) (by omega)).2 e)
   obtain ⟨p1, p2⟩ := bf7 hn
   obtain ⟨q1, q2⟩ := bf7 hn'
   refine ⟨fun c hcb => ?_, by rw [p1, q1, h2]⟩
   by_cases hcb' : c < b
   ·exact h1 c hcb'
   ·obtain rfl : c = b := by omega
    rw [← hc c (by omega), ← hc' c (by omega), p2, q2, h2]
theorem classesE_congr {of of' : Nat → Nat} {n : Int} (h : ∀ b, b < 256 → of b = of' b) : aa1 of n = aa1 of' n := by
 unfold aa1
 rw [ce6 (n := 256) (f := fun i => EV.int .u8 ((of i : Nat) : Int)) (g := fun i => EV.int .u8 ((of' i : Nat) : Int)) fun b hb => by rw [h b hb]]
theorem partX : aa1 (af1 [wA, wA, wB]).1 (af1 [wA, wA, wB]).2 = cX := by
 have hcan := aq6 [wA, wA, wB]
 have hm : mayN ofX 256 = some 3 := by
  have := mayX
  unfold mayC at this
  cases h : mayN ofX 256 with
  | none => rw [h] at this; simp at this
  | some m =>
   rw [h] at this
   simp only [beq_iff_eq] at this
   exact congrArg some (by omega)
 obtain ⟨k1, k2⟩ := (cq4 ofX 256 3).1 hm
 obtain ⟨h1, h2⟩ := sameCls (of := (af1 [wA, wA, wB]).1) (of' := ofX) (fun a b ha hb => (bu2 _ ha hb).trans (fl0 ha hb)) hcan.2 (fun i hi => (k1 i hi).symm) 256 (Nat.le_refl _)
 have e2 : (af1 [wA, wA, wB]).2 = 3 := by
  have : (af1 [wA, wA, wB]).2 = cntN (af1 [wA, wA, wB]).1 256 := by unfold cntN; exact hcan.1
  rw [this, h2, ← k2]
 rw [e2]
 exact classesE_congr h1
theorem sX_of : cs8 4 sX ([wA, wA, wB].map setE) := by
 have : [wA, wA, wB].map setE = [sA, sA, sB] := rfl
 rw [this]
 exact ⟨rfl, fun i e he => by simp [ar2, sX, he], by rfl⟩
theorem dd8 (H : Heap) : CallsA Tryz.prog gam 33 [sX] H fun er H' => er = .ret cX ∧ H' = H := by
 have := eb3 b33 b62 b61 fd0 sX_of (by
  intro x hx
  simp only [List.mem_cons, List.not_mem_nil, or_false] at hx
  rcases hx with rfl | rfl | rfl
  ·exact di5
  ·exact di5
  ·exact eo6) (by simp) H
 rwa [partX] at this
end Go.Proofs.YtddgppmcbjjliaaGreatDoor

namespace Go.Proofs.YtddgppmcbjjliaaGreatDoor
open Go Abs
def psi1 (f : FuncId) (xs : List EV) (H : Heap) : Option (ER × Heap) :=
 if f = 33 ∧ beqL xs [sX] = true then some (.ret cX, H)
 else if f = 34 ∧ beqL xs [cX, .int .i64 0] = true then some (.ret (.int .i64 0), H)
 else if f = 34 ∧ beqL xs [cX, .int .i64 1] = true then some (.ret (.int .i64 97), H)
 else if f = 34 ∧ beqL xs [cX, .int .i64 2] = true then some (.ret (.int .i64 98), H)
 else if f = 43 ∧ beqL xs [cX] = true then some (.ret (.bool true), H)
 else none
def E1 : Env := env gam psi1
theorem fh1 : E1.Sound Tryz.prog := cz0 fun f xs H r h => by
 unfold psi1 at h
 split at h
 ·rename_i hc
  obtain ⟨rfl, e⟩ := hc
  rw [aw8 _ _ e]
  obtain rfl := Option.some.inj h
  exact dd8 H
 split at h
 ·rename_i hc
  obtain ⟨rfl, e⟩ := hc
  rw [aw8 _ _ e]
  obtain rfl := Option.some.inj h
  exact fk0 H
 split at h
 ·rename_i hc
  obtain ⟨rfl, e⟩ := hc
  rw [aw8 _ _ e]
  obtain rfl := Option.some.inj h
  exact fj9 H
 split at h
 ·rename_i hc
  obtain ⟨rfl, e⟩ := hc
  rw [aw8 _ _ e]
  obtain rfl := Option.some.inj h
  exact fj8 H
 split at h
 ·rename_i hc
  obtain ⟨rfl, e⟩ := hc
  rw [aw8 _ _ e]
  obtain rfl := Option.some.inj h
  exact ds3 H
 ·simp at h
theorem ff5 : den E1 6 [] [] = some (.ret (.bool true), []) := bs5.2 ⟨600, by kernel_rfl⟩
theorem di1 (H : Heap) : CallsA Tryz.prog gam 6 [] H fun er H' => er = .ret (.bool true) ∧ H' = H := CallsA.frame (cz4 fh1 ff5) rfl H
end Go.Proofs.YtddgppmcbjjliaaGreatDoor

set_option maxRecDepth 20000
namespace Abs
open Go
def PartR (ar : List EV) (H : Heap) (r : ER × Heap) : Prop := ∃ (v : EV) (xs : List (Nat → Nat)), SlV 4 v (xs.map setE) ∧ (∀ w ∈ xs, av8 w) ∧ ar = [v] ∧ r = (.ret (aa1 (af1 xs).1 (af1 xs).2), H)
theorem cn9 {w w' : Nat → Nat} (h : setE w = setE w') {b : Nat} (hb : b < 256) : ag6 w b = ag6 w' b := by
 unfold ag6
 rw [di7 h (show b / 64 < 4 by omega)]
theorem co7 {a b : Nat} (ha : a < 256) (hb : b < 256) : ∀ {xs ys : List (Nat → Nat)}, xs.map setE = ys.map setE → aw0 xs a b = aw0 ys a b
 | [], [], _ => rfl
 | [], _ :: _, h => by simp at h
 | _ :: _, [], h => by simp at h
 | x :: xs, y :: ys, h => by
  simp only [List.map_cons, List.cons.injEq] at h
  have ih := co7 ha hb h.2
  unfold aw0 at ih ⊢
  rw [List.all_cons, List.all_cons, ih, cn9 h.1 ha, cn9 h.1 hb]
theorem PartR.one {ar : List EV} {H : Heap} {r r' : ER × Heap} (h : PartR ar H r) (h' : PartR ar H r') : r' = r := by
 obtain ⟨v, xs, hv, _, rfl, rfl⟩ := h
 obtain ⟨v', ys, hv', _, e, rfl⟩ := h'
 simp only [List.cons.injEq, and_true] at e
 subst e
 have he : xs.map setE = ys.map setE := by
  have h1 := hv.els []
  rw [hv'.els []] at h1
  exact (Option.some.inj h1).symm
 have c1 := aq6 xs
 have c2 := aq6 ys
 obtain ⟨h1, h2⟩ := Go.Proofs.YtddgppmcbjjliaaGreatDoor.sameCls (of := (af1 ys).1) (of' := (af1 xs).1) (fun a b ha hb => ((bu2 ys ha hb).trans (by rw [co7 ha hb he])).trans (bu2 xs ha hb).symm) c2.2 c1.2 256 (Nat.le_refl _)
 have e1 : (af1 xs).2 = cntN (af1 xs).1 256 := by unfold cntN; exact c1.1
 have e2 : (af1 ys).2 = cntN (af1 ys).1 256 := by unfold cntN; exact c2.1
 rw [e1, e2, h2, Go.Proofs.YtddgppmcbjjliaaGreatDoor.classesE_congr h1]
def LeastR (ar : List EV) (H : Heap) (r : ER × Heap) : Prop := ∃ (of : Nat → Nat) (m k : Int) (b : Nat), (∀ b, b < 256 → of b < 256) ∧ mayC of m = true ∧ b < 256 ∧ ((of b : Nat) : Int) = k ∧ (∀ a, a < b → ((of a : Nat) : Int) ≠ k) ∧ ar = [aa1 of m, .int .i64 k] ∧ r = (.ret (.int .i64 b), H)
theorem LeastR.one {ar : List EV} {H : Heap} {r r' : ER × Heap} (h : LeastR ar H r) (h' : LeastR ar H r') : r' = r := by
 obtain ⟨of, m, k, b, _, _, hb, h1, h2, rfl, rfl⟩ := h
 obtain ⟨of', m', k', b', _, _, hb', h1', h2', e, rfl⟩ := h'
 simp only [List.cons.injEq, EV.int.injEq, true_and, and_true] at e
 obtain ⟨e1, e2⟩ := e
 obtain ⟨e3, _⟩ := cb5 e1
 subst e2
 have : b = b' := by
  rcases Nat.lt_trichotomy b b' with h | h | h
  ·exact absurd (by rw [← e3 b hb]; exact h1) (h2' b h)
  ·exact h
  ·exact absurd (by rw [e3 b' hb']; exact h1') (h2 b' h)
 subst this
 rfl
end Abs
namespace Go.Proofs.YtddgppmcbjjliaaGreatDoor
open Go Abs
theorem ex7 {v : EV} {es : List EV} (h : SlV 4 v es) : cs8 4 v es := ⟨h.len, h.elem, h.ok 0⟩
theorem fi0 {v : EV} {xs : List (Nat → Nat)} (hv : SlV 4 v (xs.map setE)) (hx : ∀ w ∈ xs, av8 w) (H : Heap) : CallsA Tryz.prog gam 33 [v] H fun er H' => er = .ret (aa1 (af1 xs).1 (af1 xs).2) ∧ H' = H :=
 eb3 b33 b62 b61 fd0 (ex7 hv) hx (by have := hv.le; rwa [List.length_map] at this) H
theorem ea4 {v : EV} {xs : List (Nat → Nat)} (hv : SlV 4 v (xs.map setE)) (hx : ∀ w ∈ xs, av8 w) (H : Heap) : CallsA Tryz.prog gam 7 [v] H fun er H' => er = .ret (aa1 (af1 xs).1 (af1 xs).2) ∧ H' = H :=
 dp6 b7 (fun a b H ha hb => ew4 b31 dk0 (ex7 hv) hx (by have := hv.le; rwa [List.length_map] at this) a b ha hb H) hv.ok H
theorem fc5 (of : Nat → Nat) (m k : Int) (b : Nat) (hof : ∀ b, b < 256 → of b < 256) (hm : mayC of m = true) (hb : b < 256) (h1 : ((of b : Nat) : Int) = k) (h2 : ∀ a, a < b → ((of a : Nat) : Int) ≠ k) (H : Heap) : CallsA Tryz.prog gam 34 [aa1 of m, .int .i64 k] H fun er H' => er = .ret (.int .i64 b) ∧ H' = H := by
 have := eg5 of m k H hof
 rwa [ch2 hb (by rw [bv4 _ _ _ _ hb, hm, h1]; simp) fun a ha => by rw [bv4 _ _ _ _ (by omega), decide_eq_false (h2 a ha)]; simp] at this
end Go.Proofs.YtddgppmcbjjliaaGreatDoor

namespace Go.Proofs.YtddgppmcbjjliaaGreatDoor
open Go Abs
@[reducible] def iSubR {γ : Nat → EV} {Ψ : FuncId → List EV → Heap → Option (ER × Heap)} (h : ∀ f ∈ [8, 13, 37, 41, 3, 89, 88, 71, 35, 36, 38, 32, 10, 40, 42, 69, 30, 39, 60, 66, 90, 67, 68, 9, 14, 46, 44, 45, 16, 21, 49, 50, 51, 23, 24, 19, 48, 72, 17, 25, 26, 20, 22, 27, 11, 15, 18, 12, 5, 4], ∀ xs H, Ψ f xs H = none) : SubR (env γ Ψ) :=
 { ay0 := 8, au9 := 34, be8 := 33, bv2 := 37, am0 := 13, ak5 := 7, ap8 := 41, am8 := 3, ag7 := 89, ae4 := 88, ab8 := 71, bd0 := 32, as4 := 67, ba1 := 68, ap0 := 66, bk5 := 35, cd6 := 36, aj8 := 60, bv1 := 38, ar6 := 10, am1 := 39, ah8 := 40, ah0 := 59, ak4 := 69, ar5 := 42, ae8 := 30, am7 := 90, ar4 := 63, as6 := 9, bn9 := 14, bk6 := 43, ay1 := 46, ax9 := 44, af4 := 45, ag1 := 11, af5 := 12, at2 := 6, bp0 := d8 (h 8 (by simp)), az4 := d13 (h 13 (by simp)), da1 := d37 (h 37 (by simp)), bf2 := d41 (h 41 (by simp)), at8 := d3 (h 3 (by simp)), ad8 := d89 (h 89 (by simp)), ai6 := d88 (h 88 (by simp)), ae5 := d71 (h 71 (by simp)), ci6 := d35 (h 35 (by simp)), dn1 := d36 (h 36 (by simp)), bx0 := d38 (h 38 (by simp)), da0 := d32 (h 32 (by simp)), bj3 := d10 (h 10 (by simp)), bf4 := d40 (h 40 (by simp)), bj2 := d42 (h 42 (by simp)), bf5 := d69 (h 69 (by simp)), aq2 := d30 (h 30 (by simp)), az5 := d39 (h 39 (by simp)), bl5 := d60 (h 60 (by simp)), bg4 := d66 (h 66 (by simp)), bj1 := d90 (h 90 (by simp)), br2 := d67 (h 67 (by simp)), bx1 := d68 (h 68 (by simp)), bl6 := d9 (h 9 (by simp)), da2 := d14 (h 14 (by simp)), cb3 := d46 (h 46 (by simp)), cb2 := d44 (h 44 (by simp)), ao6 := d45 (h 45 (by simp)), bf3 := d11 (h 11 (by simp)), be0 := d12 (h 12 (by simp)) }
/-! ### What is known -/
def knL : List KnE := [⟨6, ConstR true⟩, ⟨43, MayR⟩, ⟨33, PartR⟩, ⟨7, PartR⟩, ⟨34, LeastR⟩, ⟨63, HasR .u8⟩, ⟨59, HasR .i64⟩]
theorem df2 : (knL.map KnE.f).Nodup := by decide
noncomputable def E0 : Env := env gam (ef3 knL)
theorem fh2 : E0.Sound Tryz.prog := cz0 fun f xs H r h => et1 (fun p hp as' H r hr => by
 simp only [knL, List.mem_cons, List.not_mem_nil, or_false] at hp
 rcases hp with rfl | rfl | rfl | rfl | rfl | rfl | rfl
 ·obtain ⟨rfl, rfl⟩ := hr
  exact di1 H
 ·obtain ⟨of, n, hof, rfl, rfl⟩ := hr
  exact fc4 of n H hof
 ·obtain ⟨v, ys, hv, hw, rfl, rfl⟩ := hr
  exact fi0 hv hw H
 ·obtain ⟨v, ys, hv, hw, rfl, rfl⟩ := hr
  exact ea4 hv hw H
 ·obtain ⟨of, m, k, b, hof, hm, hb, h1, h2, rfl, rfl⟩ := hr
  exact fc5 of m k b hof hm hb h1 h2 H
 ·exact HasR.calls fd0 hr
 ·exact HasR.calls dk0 hr) h
theorem df1 (H : Heap) : den E0 6 [] H = some (.ret (.bool true), H) := bd9 (ch5 df2 (p := ⟨6, ConstR true⟩) (by simp [knL]) ⟨rfl, rfl⟩ fun r' h => ConstR.one ⟨rfl, rfl⟩ h)
theorem ef1 : en4 E0 43 := fun of n H hof => bd9 (ch5 df2 (p := ⟨43, MayR⟩) (by simp [knL]) ⟨of, n, hof, rfl, rfl⟩ fun r' h => MayR.one ⟨of, n, hof, rfl, rfl⟩ h)
theorem ds7 {v : EV} {xs : List (Nat → Nat)} (hv : SlV 4 v (xs.map setE)) (hw : ∀ w ∈ xs, av8 w) (H : Heap) : den E0 33 [v] H = some (.ret (aa1 (af1 xs).1 (af1 xs).2), H) := bd9 (ch5 df2 (p := ⟨33, PartR⟩) (by simp [knL]) ⟨v, xs, hv, hw, rfl, rfl⟩ fun r' h => PartR.one ⟨v, xs, hv, hw, rfl, rfl⟩ h)
theorem cq8 {v : EV} {xs : List (Nat → Nat)} (hv : SlV 4 v (xs.map setE)) (hw : ∀ w ∈ xs, av8 w) (H : Heap) : den E0 7 [v] H = some (.ret (aa1 (af1 xs).1 (af1 xs).2), H) := bd9 (ch5 df2 (p := ⟨7, PartR⟩) (by simp [knL]) ⟨v, xs, hv, hw, rfl, rfl⟩ fun r' h => PartR.one ⟨v, xs, hv, hw, rfl, rfl⟩ h)
theorem df0 (of : Nat → Nat) (m k : Int) (b : Nat) (H : Heap) (hof : ∀ b, b < 256 → of b < 256) (hm : mayC of m = true) (hb : b < 256) (h1 : ((of b : Nat) : Int) = k) (h2 : ∀ a, a < b → ((of a : Nat) : Int) ≠ k) : den E0 34 [aa1 of m, .int .i64 k] H = some (.ret (.int .i64 b), H) :=
 bd9 (ch5 df2 (p := ⟨34, LeastR⟩) (by simp [knL]) ⟨of, m, k, b, hof, hm, hb, h1, h2, rfl, rfl⟩ fun r' h => LeastR.one ⟨of, m, k, b, hof, hm, hb, h1, h2, rfl, rfl⟩ h)
theorem ef2 : bg0 E0 63 .u8 := fun w b H hw hb => bd9 (ch5 df2 (p := ⟨63, HasR .u8⟩) (by simp [knL]) ⟨w, b, hw, hb, rfl, rfl⟩ fun r' h => HasR.one ⟨w, b, hw, hb, rfl, rfl⟩ h)
theorem cx6 : bg0 E0 59 .i64 := fun w b H hw hb => bd9 (ch5 df2 (p := ⟨59, HasR .i64⟩) (by simp [knL]) ⟨w, b, hw, hb, rfl, rfl⟩ fun r' h => HasR.one ⟨w, b, hw, hb, rfl, rfl⟩ h)
noncomputable instance iE0 : SubR E0 := iSubR (γ := gam) (Ψ := ef3 knL) fun f hf xs H => fc7 (by
 have : ∀ f ∈ [8, 13, 37, 41, 3, 89, 88, 71, 35, 36, 38, 32, 10, 40, 42, 69, 30, 39, 60, 66, 90, 67, 68, 9, 14, 46, 44, 45, 16, 21, 49, 50, 51, 23, 24, 19, 48, 72, 17, 25, 26, 20, 22, 27, 11, 15, 18, 12, 5, 4], f ∉ knL.map KnE.f := by decide
 exact this f hf) xs H
theorem cc2 (n : NF) : CallsA Tryz.prog gam 3 [n.E] [] fun er H' => er = .ret (.bool true) ∧ H' = [] :=
 cz4 fh2 (ck2 (R := iE0) ef2 cx6 ef1 df1 n (ds7 n.h0 n.hw) (cq8 n.h0 n.hw) df0)
end Go.Proofs.YtddgppmcbjjliaaGreatDoor
