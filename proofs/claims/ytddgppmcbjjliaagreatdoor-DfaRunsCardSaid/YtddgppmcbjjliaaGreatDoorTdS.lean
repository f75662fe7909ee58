/- A part. -/
import Derived.Test.YtddgppmcbjjliaaGreatDoorRows
import Derived.Test.YtddgppmcbjjliaaGreatDoorTdE
import Derived.Test.YtddgppmcbjjliaaGreatDoorDenRow3
import Derived.Test.YtddgppmcbjjliaaGreatDoorClassO
import Derived.LaidMore
import Derived.Stop.Joined
import Derived.Test.YtddgppmcbjjliaaGreatDoorAbsKn
import Derived.Test.YtddgppmcbjjliaaGreatDoorDtQ
set_option linter.all false
namespace Go.Proofs.YtddgppmcbjjliaaGreatDoor
open Go Abs Go.ChangeShapes Go.WideShapes Go.ChangeAt Go.RowKit
theorem own : ownKnob Tryz.prog.godebug = none := by kernel_rfl
theorem laidOut : laidOutB Tryz.prog = true := by kernel_rfl
theorem gBr : Tryz.prog.globalNamed "math/bits.deBruijn64tab" = some 0 := by kernel_rfl
theorem tBr : (Tryz.prog.globals[0]?).map (·.type) = some 164 := by kernel_rfl
def laidL : List (String × DataW Unit) := [("math/bits.deBruijn64tab", Rows.laid_math_bits_deBruijn64tab)]
theorem door_met (os : Os) (args : Array Value) : laidMetH Tryz.prog laidL ((World.doorLaid Tryz.prog 400 os).forCall (fun _ _ => 0) ⟨#[], args, []⟩).memory :=
 laidMetH_of_parts3 (fuel := 8) (laidMet_of_run' 8 (by kernel_rfl) (by kernel_rfl)) (by kernel_rfl) (by kernel_rfl)
def gam (g : Nat) : EV := if g = 0 then .iptr (tab 64 fun i => .int .u8 ((brT i : Nat) : Int)) 0 else .undef
theorem start {W : World} (h : laidMetH Tryz.prog laidL W) : RH gam id (oldI W) [] W := by
 rw [MakeChecks.laidMetH_plain _ _ _ (by kernel_rfl)] at h
 obtain ⟨ps, hlv, _, _⟩ := h
 obtain ⟨c, T, fr, h1, h2, h3⟩ := laid_table (k := .u8) (m := 64) (e := 5) (ns := brL.map fun b => ((b : Nat) : Int)) hlv gBr tBr Tryz.underlying164 Tryz.underlying5 (by kernel_rfl) (by kernel_rfl) rfl rfl
 refine ⟨fun g => ?_, by simp, by simp, fun _ h => h, by simp, by simp⟩
 unfold gam
 split
 ·rename_i e
  subst e
  have hlt : 0 < W.heap.size := (Array.getElem?_eq_some_iff.1 h1).1
  refine .iptr _ 0 0 0 c T fr hlt h1 (by rw [tab_len, h2]; omega) fun k x v hx hv => ?_
  have hk := get_lt hx
  rw [tab_len] at hk
  rw [tab_get hk] at hx
  simp only [Option.some.injEq] at hx
  subst hx
  rw [Nat.zero_add, h3 k hk] at hv
  have hkl : k < brL.length := hk
  rw [List.getElem?_map, List.getElem?_eq_getElem hkl] at hv
  simp only [Option.map_some, Option.some.injEq] at hv
  subst hv
  have e : brT k = brL[k] := by simp [brT, hkl]
  rw [e]
  exact .int _ _
 ·exact .undef _
set_option maxRecDepth 100000 in
theorem shDfa {es : List EV} (h : Shape Tryz.prog 5 44 es) : ∃ d : DF, True ∧ packT Tryz.prog 44 es = d.E :=
 shape_dfa (D := 1) (u8 := 5) Tryz.underlying44 rfl Tryz.underlying31 rfl Tryz.underlying29 Tryz.underlying5 Tryz.underlying23 Tryz.underlying3 (by kernel_rfl) (by kernel_rfl) Tryz.underlying24 (by kernel_rfl) h
end Go.Proofs.YtddgppmcbjjliaaGreatDoor

namespace Abs
open Go
theorem nextZ_least {w : Nat → Nat} {b : Nat} (hb : b < 256) (h1 : inSet w b = true) (h2 : ∀ a, a < b → inSet w a = false) : nextZ (bytesF w) 0 = (b : Int) := by
 unfold nextZ bytesF
 have : ((List.finRange 256).filter fun b => inSet w b.val).find? (fun b => decide ((0 : Int) ≤ ((b.val : Nat) : Int))) = some ⟨b, hb⟩ := by
  rw [List.find?_filter, List.find?_eq_some_iff_getElem]
  refine ⟨by simp [h1], b, by simpa using hb, by simp, fun j hj => ?_⟩
  have := h2 j hj
  simp [this]
 rw [this]
end Abs
namespace Go.Proofs.YtddgppmcbjjliaaGreatDoor
open Go Abs
theorem tzOk : TzOk Tryz.prog gam 101 := tz_ok b101 rfl
theorem allOk : AllOk Tryz.prog gam 86 100 := all_ok b86
theorem nextOk : NextOk Tryz.prog gam 64 := next_ok b64 allOk b100 tzOk
theorem hasOk : HasOk Tryz.prog gam 63 .u8 := has_ok b63 b84 b85 b98 b99
theorem mayRaw (of : Nat → Nat) (n : Int) (H : Heap) (hof : ∀ b, b < 256 → of b < 256) : CallsA Tryz.prog gam 43 [classesE of n] H fun er H' => er = .ret (.bool (classMay of n)) ∧ H' = H := may_ok b43 b70 b61 of n hof H
theorem mayOk : MayOk Tryz.prog gam 43 := fun of n H hof => by
 have := mayRaw of n H hof
 rwa [mayC_eq] at this
theorem refMayOk : MayOk Tryz.prog gam 47 := fun of n H hof => refMay_ok b47 of n hof H
theorem membOk : MembOk Tryz.prog gam 65 := memb_ok b65 mayOk (fun x y H hx hy => any_ok b87 b98 b102 x y hx hy H) b85
theorem firstOk (of : Nat → Nat) (n k : Int) (H : Heap) (hof : ∀ b, b < 256 → of b < 256) : CallsA Tryz.prog gam 34 [classesE of n, .int .i64 k] H fun er H' => er = .ret (.int .i64 (nextZ (bytesF (membW of n k)) 0)) ∧ H' = H := first_ok b34 membOk nextOk of n k hof H
/-! ### The document's example -/
def sA : EV := .agg [.int .u64 0, .int .u64 8589934592, .int .u64 0, .int .u64 0]
def sB : EV := .agg [.int .u64 0, .int .u64 17179869184, .int .u64 0, .int .u64 0]
def sX : EV := .imm 4 [sA, sA, sB]
def ofX (b : Nat) : Nat := if b = 97 then 1 else if b = 98 then 2 else 0
def cX : EV := classesE ofX 3
theorem ofX_lt : ∀ b, b < 256 → ofX b < 256 := fun b _ => by
 unfold ofX
 split
 ·omega
 ·split <;> omega
theorem mayX : mayC ofX 3 = true := by kernel_rfl
theorem firstX (k : Int) (b : Nat) (hb : b < 256) (h1 : ((ofX b : Nat) : Int) = k) (h2 : ∀ a, a < b → ((ofX a : Nat) : Int) ≠ k) (H : Heap) : CallsA Tryz.prog gam 34 [cX, .int .i64 k] H fun er H' => er = .ret (.int .i64 b) ∧ H' = H := by
 have := firstOk ofX 3 k H ofX_lt
 rwa [nextZ_least hb (by rw [membW_bit _ _ _ _ hb, mayX, h1]; simp) fun a ha => by rw [membW_bit _ _ _ _ (by omega), decide_eq_false (h2 a ha)]; simp] at this
theorem first0 (H : Heap) : CallsA Tryz.prog gam 34 [cX, .int .i64 0] H fun er H' => er = .ret (.int .i64 0) ∧ H' = H := firstX 0 0 (by omega) (by decide) (by omega) H
theorem first1 (H : Heap) : CallsA Tryz.prog gam 34 [cX, .int .i64 1] H fun er H' => er = .ret (.int .i64 97) ∧ H' = H := firstX 1 97 (by omega) (by decide) (by decide) H
theorem first2 (H : Heap) : CallsA Tryz.prog gam 34 [cX, .int .i64 2] H fun er H' => er = .ret (.int .i64 98) ∧ H' = H := firstX 2 98 (by omega) (by decide) (by decide) H
theorem mayX_calls (H : Heap) : CallsA Tryz.prog gam 43 [cX] H fun er H' => er = .ret (.bool true) ∧ H' = H := by
 have := mayOk ofX 3 H ofX_lt
 rwa [mayX] at this
end Go.Proofs.YtddgppmcbjjliaaGreatDoor

set_option maxRecDepth 20000
namespace Go.Proofs.YtddgppmcbjjliaaGreatDoor
open Go Abs
def wA (i : Nat) : Nat := if i = 1 then 8589934592 else 0
def wB (i : Nat) : Nat := if i = 1 then 17179869184 else 0
theorem wA_words : Words wA := fun i => by unfold wA; split <;> simp
theorem wB_words : Words wB := fun i => by unfold wB; split <;> simp
theorem inA : ∀ a, a < 256 → inSet wA a = decide (a = 97) := by decide +kernel
theorem inB : ∀ a, a < 256 → inSet wB a = decide (a = 98) := by decide +kernel
theorem alikeX {a b : Nat} (ha : a < 256) (hb : b < 256) : alikeC [wA, wA, wB] a b = true ↔ ofX a = ofX b := by
 unfold alikeC ofX
 simp only [List.all_cons, List.all_nil, Bool.and_true, inA a ha, inA b hb, inB a ha, inB b hb, Bool.and_eq_true, beq_iff_eq, decide_eq_decide]
 by_cases h1 : a = 97 <;> by_cases h2 : b = 97 <;> by_cases h3 : a = 98 <;> by_cases h4 : b = 98 <;> simp [h1, h2, h3, h4] <;> omega
theorem sameCls {of of' : Nat → Nat} (h : ∀ a b, a < 256 → b < 256 → (of a = of b ↔ of' a = of' b)) (hc : ∀ i, i < 256 → clsN (nameN of) i = of i) (hc' : ∀ i, i < 256 → clsN (nameN of') i = of' i) :
  ∀ b, b ≤ 256 → (∀ a, a < b → of a = of' a) ∧ cntN of b = cntN of' b
 | 0, _ => ⟨by omega, by rw [cntN_zero, cntN_zero]⟩
 | b + 1, hb => by
  obtain ⟨h1, h2⟩ := sameCls h hc hc' b (by omega)
  by_cases ho : ∃ a, a < b ∧ of a = of b
  ·obtain ⟨a, ha, e⟩ := ho
   have e' := (h a b (by omega) (by omega)).1 e
   refine ⟨fun c hcb => ?_, by rw [cntN_old ha e, cntN_old ha e', h2]⟩
   by_cases hcb' : c < b
   ·exact h1 c hcb'
   ·obtain rfl : c = b := by omega
    rw [← e, ← e', h1 a ha]
  ·have hn : ∀ a, a < b → ¬ of a = of b := fun a ha e => ho ⟨a, ha, e⟩
   have hn' : ∀ a, a < b → ¬ of' a = of' b := fun a ha e => hn a ha ((h a b (by omega) (by omega)).2 e)
   obtain ⟨p1, p2⟩ := cntN_new hn
   obtain ⟨q1, q2⟩ := cntN_new hn'
   refine ⟨fun c hcb => ?_, by rw [p1, q1, h2]⟩
   by_cases hcb' : c < b
   ·exact h1 c hcb'
   ·obtain rfl : c = b := by omega
    rw [← hc c (by omega), ← hc' c (by omega), p2, q2, h2]
theorem classesE_congr {of of' : Nat → Nat} {n : Int} (h : ∀ b, b < 256 → of b = of' b) : classesE of n = classesE of' n := by
 unfold classesE
 rw [tab_congr (n := 256) (f := fun i => EV.int .u8 ((of i : Nat) : Int)) (g := fun i => EV.int .u8 ((of' i : Nat) : Int)) fun b hb => by rw [h b hb]]
theorem partX : classesE (partF [wA, wA, wB]).1 (partF [wA, wA, wB]).2 = cX := by
 have hcan := partF_canon [wA, wA, wB]
 have hm : mayN ofX 256 = some 3 := by
  have := mayX
  unfold mayC at this
  cases h : mayN ofX 256 with
  | none => rw [h] at this; simp at this
  | some m =>
   rw [h] at this
   simp only [beq_iff_eq] at this
   exact congrArg some (by omega)
 obtain ⟨k1, k2⟩ := (may_iff ofX 256 3).1 hm
 obtain ⟨h1, h2⟩ := sameCls (of := (partF [wA, wA, wB]).1) (of' := ofX) (fun a b ha hb => (partF_iff _ ha hb).trans (alikeX ha hb)) hcan.2 (fun i hi => (k1 i hi).symm) 256 (Nat.le_refl _)
 have e2 : (partF [wA, wA, wB]).2 = 3 := by
  have : (partF [wA, wA, wB]).2 = cntN (partF [wA, wA, wB]).1 256 := by unfold cntN; exact hcan.1
  rw [this, h2, ← k2]
 rw [e2]
 exact classesE_congr h1
theorem sX_of : SliceOf 4 sX ([wA, wA, wB].map setE) := by
 have : [wA, wA, wB].map setE = [sA, sA, sB] := rfl
 rw [this]
 exact ⟨rfl, fun i e he => by simp [evElem, sX, he], by rfl⟩
theorem partX_calls (H : Heap) : CallsA Tryz.prog gam 33 [sX] H fun er H' => er = .ret cX ∧ H' = H := by
 have := part_ok b33 b62 b61 hasOk sX_of (by
  intro x hx
  simp only [List.mem_cons, List.not_mem_nil, or_false] at hx
  rcases hx with rfl | rfl | rfl
  ·exact wA_words
  ·exact wA_words
  ·exact wB_words) (by simp) H
 rwa [partX] at this
end Go.Proofs.YtddgppmcbjjliaaGreatDoor

namespace Go.Proofs.YtddgppmcbjjliaaGreatDoor
open Go Abs
def psi1 (f : FuncId) (xs : List EV) (H : Heap) : Option (ER × Heap) :=
 if f = 33 ∧ beqL xs [sX] = true then some (.ret cX, H)
 else if f = 34 ∧ beqL xs [cX, .int .i64 0] = true then some (.ret (.int .i64 0), H)
 else if f = 34 ∧ beqL xs [cX, .int .i64 1] = true then some (.ret (.int .i64 97), H)
 else if f = 34 ∧ beqL xs [cX, .int .i64 2] = true then some (.ret (.int .i64 98), H)
 else if f = 43 ∧ beqL xs [cX] = true then some (.ret (.bool true), H)
 else none
def E1 : Env := env gam psi1
theorem sound1 : E1.Sound Tryz.prog := env_sound fun f xs H r h => by
 unfold psi1 at h
 split at h
 ·rename_i hc
  obtain ⟨rfl, e⟩ := hc
  rw [beqL_eq _ _ e]
  obtain rfl := Option.some.inj h
  exact partX_calls H
 split at h
 ·rename_i hc
  obtain ⟨rfl, e⟩ := hc
  rw [beqL_eq _ _ e]
  obtain rfl := Option.some.inj h
  exact first0 H
 split at h
 ·rename_i hc
  obtain ⟨rfl, e⟩ := hc
  rw [beqL_eq _ _ e]
  obtain rfl := Option.some.inj h
  exact first1 H
 split at h
 ·rename_i hc
  obtain ⟨rfl, e⟩ := hc
  rw [beqL_eq _ _ e]
  obtain rfl := Option.some.inj h
  exact first2 H
 split at h
 ·rename_i hc
  obtain ⟨rfl, e⟩ := hc
  rw [beqL_eq _ _ e]
  obtain rfl := Option.some.inj h
  exact mayX_calls H
 ·simp at h
theorem alive09 : den E1 6 [] [] = some (.ret (.bool true), []) := den_iff.2 ⟨600, by kernel_rfl⟩
theorem alive_calls (H : Heap) : CallsA Tryz.prog gam 6 [] H fun er H' => er = .ret (.bool true) ∧ H' = H := CallsA.frame (den_sound sound1 alive09) rfl H
end Go.Proofs.YtddgppmcbjjliaaGreatDoor

namespace Go.Proofs.YtddgppmcbjjliaaGreatDoor
open Go Abs
@[reducible] def iDfaR {γ : Nat → EV} {Ψ : FuncId → List EV → Heap → Option (ER × Heap)} (h : ∀ f ∈ [14, 46, 44, 45, 71, 16, 21, 49, 50, 51, 23, 24, 19, 48, 72, 17, 25, 26, 20, 22, 27, 11, 30, 15, 18, 12, 5, 4], ∀ xs H, Ψ f xs H = none) : DfaR (env γ Ψ) :=
 { n_dfa_May := 14, n_class_May := 43, n_dfa_May_c1 := 46, n_dfa_within := 44, n_slices_ContainsFunc_int_int := 45, n_slices_IndexFunc_int_int := 71, n_hackleref09_May := 16, n_hackleref02_May := 47, n_dfa_Same := 21, n_slices_EqualFunc_int_int_int_int := 50, n_slices_Equal_int_int := 49, n_dfa_Dfa_step := 51, n_dfa_Step := 23, n_dfa_Run := 24, n_dfa_Tag := 19, n_dfa_Dfa_live := 48, n_dfa_Dfa_live_c1 := 72, n_dfa_Trim := 17, n_hackleref09_Step := 25, n_hackleref09_Run := 26, n_hackleref09_Tag := 20, n_hackleref09_Live := 22, n_hackleref09_Trim := 27, n_hackleref09_Same := 11, n_hackleref08_Ints := 30, n_hacklelaw09_Great := 15, n_hacklelaw09_Of := 18, n_hacklelaw09_Plain := 12, n_hacklelaw09_DfaRuns := 5, n_hacklelaw09_alive := 6, d_dfa_May := d14 (h 14 (by simp)), d_dfa_May_c1 := d46 (h 46 (by simp)), d_dfa_within := d44 (h 44 (by simp)), d_slices_ContainsFunc_int_int := d45 (h 45 (by simp)), d_slices_IndexFunc_int_int := d71 (h 71 (by simp)), d_hackleref09_May := d16 (h 16 (by simp)), d_dfa_Same := d21 (h 21 (by simp)), d_slices_Equal_int_int := d49 (h 49 (by simp)), d_slices_EqualFunc_int_int_int_int := d50 (h 50 (by simp)), d_dfa_Dfa_step := d51 (h 51 (by simp)), d_dfa_Step := d23 (h 23 (by simp)), d_dfa_Run := d24 (h 24 (by simp)), d_dfa_Tag := d19 (h 19 (by simp)), d_dfa_Dfa_live := d48 (h 48 (by simp)), d_dfa_Dfa_live_c1 := d72 (h 72 (by simp)), d_dfa_Trim := d17 (h 17 (by simp)), d_hackleref09_Step := d25 (h 25 (by simp)), d_hackleref09_Run := d26 (h 26 (by simp)), d_hackleref09_Tag := d20 (h 20 (by simp)), d_hackleref09_Live := d22 (h 22 (by simp)), d_hackleref09_Trim := d27 (h 27 (by simp)), d_hackleref09_Same := d11 (h 11 (by simp)), d_hackleref08_Ints := d30 (h 30 (by simp)), d_hacklelaw09_Great := d15 (h 15 (by simp)), d_hacklelaw09_Of := d18 (h 18 (by simp)), d_hacklelaw09_Plain := d12 (h 12 (by simp)), d_hacklelaw09_DfaRuns := d5 (h 5 (by simp)) }
/-! ### What is known -/
def knL : List KnE := [⟨6, ConstR true⟩, ⟨43, MayR⟩, ⟨47, MayR⟩]
theorem kn_nd : (knL.map KnE.f).Nodup := by decide
noncomputable def E0 : Env := env gam (knPsi knL)
theorem sound0 : E0.Sound Tryz.prog := env_sound fun f xs H r h => kn_sound (fun p hp as' H r hr => by
 simp only [knL, List.mem_cons, List.not_mem_nil, or_false] at hp
 rcases hp with rfl | rfl | rfl
 ·obtain ⟨rfl, rfl⟩ := hr
  exact alive_calls H
 ·obtain ⟨of, n, hof, rfl, rfl⟩ := hr
  exact mayOk of n H hof
 ·obtain ⟨of, n, hof, rfl, rfl⟩ := hr
  exact refMayOk of n H hof) h
theorem known_alive (H : Heap) : den E0 6 [] H = some (.ret (.bool true), H) := den_known (kn_get kn_nd (p := ⟨6, ConstR true⟩) (by simp [knL]) ⟨rfl, rfl⟩ fun r' h => ConstR.one ⟨rfl, rfl⟩ h)
theorem known_may : ClsDen E0 43 := fun of n H hof => den_known (kn_get kn_nd (p := ⟨43, MayR⟩) (by simp [knL]) ⟨of, n, hof, rfl, rfl⟩ fun r' h => MayR.one ⟨of, n, hof, rfl, rfl⟩ h)
theorem known_refMay : ClsDen E0 47 := fun of n H hof => den_known (kn_get kn_nd (p := ⟨47, MayR⟩) (by simp [knL]) ⟨of, n, hof, rfl, rfl⟩ fun r' h => MayR.one ⟨of, n, hof, rfl, rfl⟩ h)
noncomputable instance iE0 : DfaR E0 := iDfaR (γ := gam) (Ψ := knPsi knL) fun f hf xs H => kn_none (by
 have : ∀ f ∈ [14, 46, 44, 45, 71, 16, 21, 49, 50, 51, 23, 24, 19, 48, 72, 17, 25, 26, 20, 22, 27, 11, 30, 15, 18, 12, 5, 4], f ∉ knL.map KnE.f := by decide
 exact this f hf) xs H
theorem dfaRuns_calls (d : DF) (k : Int) (s : List UInt8) (hs : s.length ≤ maxLen) : CallsA Tryz.prog gam 5 [d.E, .int .i64 k, .str s] [] fun er H' => er = .ret (.bool true) ∧ H' = [] :=
 den_sound sound0 (dfaRuns_den (R := iE0) known_may known_refMay known_alive d k s (by simpa [maxLen] using hs))
end Go.Proofs.YtddgppmcbjjliaaGreatDoor
