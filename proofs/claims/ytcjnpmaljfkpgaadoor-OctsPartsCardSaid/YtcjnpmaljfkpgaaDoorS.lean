/- What the rows of layer 1 share: the library's table, and the contracts of the functions. -/
import Derived.Test.YtcjnpmaljfkpgaaDoorRows
import Derived.Test.YtcjnpmaljfkpgaaDoorB
import Derived.Test.YtcjnpmaljfkpgaaDoorAbsRow
import Derived.Test.YtcjnpmaljfkpgaaDoorOctsH
import Derived.WalkKit
import Derived.ProofKit
import Derived.LaidMore
import Derived.OpenShut
import Derived.Stop.Joined
namespace Go.Proofs.YtcjnpmaljfkpgaaDoor
open Go Abs Go.ChangeShapes Go.WideShapes Go.ChangeAt Go.RowKit

theorem own : ownKnob Tryd.prog.godebug = none := by kernel_rfl
theorem laidOut : laidOutB Tryd.prog = true := by kernel_rfl
theorem gBr : Tryd.prog.globalNamed "math/bits.deBruijn64tab" = some 0 := by kernel_rfl
theorem tBr : (Tryd.prog.globals[0]?).map (·.type) = some 85 := by kernel_rfl

def laidL : List (String × DataW Unit) := [("math/bits.deBruijn64tab", Rows.laid_math_bits_deBruijn64tab)]

/-- The door's own heap meets the condition. -/
theorem door_met (os : Os) (args : Array Value) : laidMetH Tryd.prog laidL ((World.doorLaid Tryd.prog 400 os).forCall (fun _ _ => 0) ⟨#[], args, []⟩).memory :=
  laidMetH_of_parts3 (fuel := 8) (laidMet_of_run' 8 (by kernel_rfl) (by kernel_rfl)) (by kernel_rfl) (by kernel_rfl)

noncomputable def gam (g : Nat) : EV := if g = 0 then .iptr (tab 64 fun i => .int .u8 ((brT i : Nat) : Int)) 0 else .undef

theorem start {W : World} (h : laidMetH Tryd.prog laidL W) : RH gam id (oldI W) [] W := by
  rw [MakeChecks.laidMetH_plain _ _ _ (by kernel_rfl)] at h
  obtain ⟨ps, hlv, _, _⟩ := h
  obtain ⟨c, T, fr, h1, h2, h3⟩ := laid_table (k := .u8) (m := 64) (e := 5) (ns := brL.map fun b => ((b : Nat) : Int)) hlv gBr tBr Tryd.underlying85 Tryd.underlying5 (by kernel_rfl) (by kernel_rfl) rfl rfl
  refine ⟨fun g => ?_, by simp, by simp, fun _ h => h, by simp, by simp⟩
  unfold gam
  split
  · rename_i e
    subst e
    have hlt : 0 < W.heap.size := (Array.getElem?_eq_some_iff.1 h1).1
    refine .iptr _ 0 0 0 c T fr hlt h1 (by rw [tab_len, h2]; omega) fun k x v hx hv => ?_
    have hk := get_lt hx
    rw [tab_len] at hk
    rw [tab_get hk] at hx
    simp only [Option.some.injEq] at hx
    subst hx
    rw [Nat.zero_add, h3 k hk] at hv
    have hkl : k < brL.length := hk
    rw [List.getElem?_map, List.getElem?_eq_getElem hkl] at hv
    simp only [Option.map_some, Option.some.injEq] at hv
    subst hv
    have e : brT k = brL[k] := by simp [brT, hkl]
    rw [e]
    exact .int _ _
  · exact .undef _

theorem tzOk : TzOk Tryd.prog gam 58 := tz_ok b58 rfl
theorem allOk : AllOk Tryd.prog gam 44 57 := all_ok b44
theorem nextOk : NextOk Tryd.prog gam 19 := next_ok b19 allOk b57 tzOk
theorem countOk : CountOk Tryd.prog gam 18 := count_ok b18 (ones_ok b45)
theorem alive (H : Heap) : CallsA Tryd.prog gam 11 [] H fun er H' => er = .ret (.bool true) ∧ H' = H := alive01_ok b11 countOk nextOk b12 b14 H

end Go.Proofs.YtcjnpmaljfkpgaaDoor
