/- What the rows Digits* share: the library's tables, and the contracts of the functions. -/
import Derived.Test.YtcjnpmaljfkpgaaDoorRows
import Derived.Test.YtcjnpmaljfkpgaaDoorDB
import Derived.Test.YtcjnpmaljfkpgaaDoorAbsRow
import Derived.Test.YtcjnpmaljfkpgaaDoorOctsB
import Derived.Test.YtcjnpmaljfkpgaaDoorDigM
import Derived.WalkKit
import Derived.ProofKit
import Derived.LaidMore
import Derived.OpenShut
import Derived.Stop.Joined
namespace Go.Proofs.YtcjnpmaljfkpgaaDoor
open Go Abs Go.ChangeShapes Go.WideShapes Go.ChangeAt Go.RowKit

theorem own : ownKnob Tryd.prog.godebug = none := by kernel_rfl
theorem laidOut : laidOutB Tryd.prog = true := by kernel_rfl
theorem gBr : Tryd.prog.globalNamed "math/bits.deBruijn64tab" = some 0 := by kernel_rfl
theorem tBr : (Tryd.prog.globals[0]?).map (·.type) = some 85 := by kernel_rfl
theorem gPw : Tryd.prog.globalNamed "internal/strconv.uint64pow10" = some 1 := by kernel_rfl

def laidL : List (String × DataW Unit) := [("math/bits.deBruijn32tab", Rows.laid_math_bits_deBruijn32tab), ("math/bits.deBruijn64tab", Rows.laid_math_bits_deBruijn64tab), ("internal/strconv.uint64pow10", Rows.laid_internal_strconv_uint64pow10)]

/-- The door's own heap meets the condition. -/
theorem door_met (os : Os) (args : Array Value) : laidMetH Tryd.prog laidL ((World.doorLaid Tryd.prog 400 os).forCall (fun _ _ => 0) ⟨#[], args, []⟩).memory :=
  laidMetH_of_parts3 (fuel := 8) (laidMet_of_run' 8 (by kernel_rfl) (by kernel_rfl)) (by kernel_rfl) (by kernel_rfl)

noncomputable def gam (g : Nat) : EV := if g = 0 then .iptr (tab 64 fun i => .int .u8 ((brT i : Nat) : Int)) 0 else if g = 1 then .iptr (tab 20 fun i => .int .u64 ((10 ^ i : Nat) : Int)) 0 else .undef

def pwL : List Int := (List.range 20).map fun i => ((10 ^ i : Nat) : Int)

theorem start {W : World} (h : laidMetH Tryd.prog laidL W) : RH gam id (oldI W) [] W := by
  rw [MakeChecks.laidMetH_plain _ _ _ (by kernel_rfl)] at h
  obtain ⟨ps, hlv0, _, _⟩ := h
  obtain ⟨q1, hlv1⟩ := laid_tail hlv0
  obtain ⟨q2, hlvB⟩ := laid_head hlv1
  obtain ⟨q3, hlvP⟩ := laid_tail hlv1
  have hB := laid_rv (k := .u8) (m := 64) (e := 5) (ns := brL.map fun b => ((b : Nat) : Int)) hlvB gBr tBr Tryd.underlying85 Tryd.underlying5 (by kernel_rfl) (by kernel_rfl) rfl rfl (fun i => ((brT i : Nat) : Int)) fun i hi => by
    have hkl : i < brL.length := hi
    rw [List.getElem?_map, List.getElem?_eq_getElem hkl]
    simp [brT, hkl]
  have hP := laid_rv (k := .u64) (m := 20) (e := 25) (ns := pwL) hlvP gPw (t := 93) (by kernel_rfl) Tryd.underlying93 Tryd.underlying25 (by kernel_rfl) (by kernel_rfl) (by kernel_rfl) (by kernel_rfl) (fun i => ((10 ^ i : Nat) : Int)) fun i hi => by
    unfold pwL
    rw [List.getElem?_map, List.getElem?_range hi]
    rfl
  refine ⟨fun g => ?_, by simp, by simp, fun _ h => h, by simp, by simp⟩
  unfold gam
  split
  · rename_i e
    subst e
    exact hB
  · split
    · rename_i e
      subst e
      exact hP
    · exact .undef _

theorem tzOk : TzOk Tryd.prog gam 58 := tz_ok b58 rfl
theorem numOk : NumOk Tryd.prog gam 62 := num_ok b62 b67 b65 b66 rfl
theorem smallOk : SmallOk Tryd.prog gam 61 := small_ok b61
theorem formatOk : FormatOk Tryd.prog gam 56 := format2_ok b56 (format_ok b60 b63 (fun n H hn => bits16_ok b64 (fun H => pow2_ok b68 H) (fun H => tz16_ok b69 tzOk H) n hn H) numOk smallOk)
theorem basedOk : BasedOk Tryd.prog gam 54 := based_ok b54
theorem digitOk : DigitOk Tryd.prog gam 39 := digit_ok b39 basedOk (value_ok b55)
theorem refDigitOk : DigitOk Tryd.prog gam 40 := refDigit_ok b40
theorem parseOk : ParseOk Tryd.prog gam 37 := parse_ok b37 digitOk basedOk
theorem refParseOk : ParseOk Tryd.prog gam 38 := refParse_ok b38 refDigitOk
theorem printOk : PrintOk Tryd.prog gam 41 := print_ok b41 basedOk formatOk
theorem refPrintOk : PrintOk Tryd.prog gam 42 := refPrint_ok b42
theorem canonOk : CanonOk Tryd.prog gam 43 := canon_ok b43 parseOk printOk
theorem alive (H : Heap) : CallsA Tryd.prog gam 36 [] H fun er H' => er = .ret (.bool true) ∧ H' = H := alive03_ok b36 canonOk parseOk printOk H
theorem dparse_calls (s : List UInt8) (base : Int) (b : Nat) (hs : s.length ≤ maxLen) (hb : b < 256) : CallsA Tryd.prog gam 8 [.str s, .int .i64 base, .int .u8 b] [] fun er H' => er = .ret (.bool true) ∧ H' = [] :=
  digitsParse_ok b8 alive digitOk parseOk refDigitOk refParseOk s base b hb hs []
theorem dprint_calls (n : Nat) (base : Int) (hn : n < 18446744073709551616) : CallsA Tryd.prog gam 9 [.int .u64 n, .int .i64 base] [] fun er H' => er = .ret (.bool true) ∧ H' = [] :=
  digitsPrint_ok b9 alive canonOk parseOk printOk refPrintOk n base hn []
theorem dcanon_calls (s : List UInt8) (base : Int) (hs : s.length ≤ maxLen) : CallsA Tryd.prog gam 10 [.str s, .int .i64 base] [] fun er H' => er = .ret (.bool true) ∧ H' = [] :=
  digitsCanon_ok b10 alive canonOk parseOk refParseOk refPrintOk s base hs []

end Go.Proofs.YtcjnpmaljfkpgaaDoor
