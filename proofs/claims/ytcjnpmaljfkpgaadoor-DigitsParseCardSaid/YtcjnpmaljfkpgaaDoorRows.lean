/-
  NARROWER THAN 'FOR EVERY INPUT', by the rows' own cells (each row's printed sentence says how): OctsMakes: laid · OctsAsk: laid · OctsParts: laid · OctsTwo: laid · ClassAsk: laid · DigitsParse: laid · DigitsPrint: laid · DigitsCanon: laid.
  DERIVED. THE GIVEN ROWS OF THIS SEAT. 8 by the template 'for every input the law returns true; each argument reads behind the call as it read before'; 0 by the template 'total and deterministic' (their statements: YtcjnpmaljfkpgaaDoorTotals.lean).
  GIVEN WITH THE SEED: the statements are not yours to turn. If you find one false, say at which input.
  Laid BY PROGRAM, IN A SANDBOX (cutbox-rows.mjs): the forced cells as the released guide's own fill.sh prints them over the translation a7710040adede49d… (all of the seat's roots in one cut). By AI agents, Wed Nov 11 2026. No macro, syntax, notation, axiom, sorry.
-/
import Derived.Test.YtcjnpmaljfkpgaaDoorChecked
import GoSem.Claim
import GoSem.ClaimJoined
import GoSem.ClaimMapViews
import Derived.JoinedTies
import Derived.KernelRfl
namespace Go.Proofs.YtcjnpmaljfkpgaaDoor
/- THE CELL 'sum', in the pinned program and in every row, IS THE sha256 OF THE DUMP (.gsa) THAT YtcjnpmaljfkpgaaDoorProg.lean LOADS. Nothing in Lean hashes anything: it is a label: what it is worth is what the hold of that sum in a sandbox is worth. -/
noncomputable def Tryd.pinned : Pinned := { name := "ytcjnpmaljfkpgaadoor", sum := "a7710040adede49da6a708fe74b72580a9aa22602dbf0812b7ff6551742e721b", checked := Tryd.checked }
namespace Rows
def none {H : Type} : Left H := { results := [], args := [] }

/- WHAT THE LISTED PACKAGE-LEVEL VARIABLES READ AS WHEN THE CALL BEGINS. Each datum BY PROGRAM (the guide's laid-datum.mjs) off the statement by which the dump's own 'gosem.cut.vars' lays the variable. In a bare row this is a premise. The card (YtcjnpmaljfkpgaaDoorCards.lean) ties it to the program's text. -/
def laid_math_bits_deBruijn64tab {H : Type} : DataW H := .agg [.lit (.int .u8 0), .lit (.int .u8 1), .lit (.int .u8 56), .lit (.int .u8 2), .lit (.int .u8 57), .lit (.int .u8 49), .lit (.int .u8 28), .lit (.int .u8 3), .lit (.int .u8 61), .lit (.int .u8 58), .lit (.int .u8 42), .lit (.int .u8 50), .lit (.int .u8 38), .lit (.int .u8 29), .lit (.int .u8 17), .lit (.int .u8 4), .lit (.int .u8 62), .lit (.int .u8 47), .lit (.int .u8 59), .lit (.int .u8 36), .lit (.int .u8 45), .lit (.int .u8 43), .lit (.int .u8 51), .lit (.int .u8 22), .lit (.int .u8 53), .lit (.int .u8 39), .lit (.int .u8 33), .lit (.int .u8 30), .lit (.int .u8 24), .lit (.int .u8 18), .lit (.int .u8 12), .lit (.int .u8 5), .lit (.int .u8 63), .lit (.int .u8 55), .lit (.int .u8 48), .lit (.int .u8 27), .lit (.int .u8 60), .lit (.int .u8 41), .lit (.int .u8 37), .lit (.int .u8 16), .lit (.int .u8 46), .lit (.int .u8 35), .lit (.int .u8 44), .lit (.int .u8 21), .lit (.int .u8 52), .lit (.int .u8 32), .lit (.int .u8 23), .lit (.int .u8 11), .lit (.int .u8 54), .lit (.int .u8 26), .lit (.int .u8 40), .lit (.int .u8 15), .lit (.int .u8 34), .lit (.int .u8 20), .lit (.int .u8 31), .lit (.int .u8 10), .lit (.int .u8 25), .lit (.int .u8 14), .lit (.int .u8 19), .lit (.int .u8 9), .lit (.int .u8 13), .lit (.int .u8 8), .lit (.int .u8 7), .lit (.int .u8 6)]
def laid_math_bits_deBruijn32tab {H : Type} : DataW H := .agg [.lit (.int .u8 0), .lit (.int .u8 1), .lit (.int .u8 28), .lit (.int .u8 2), .lit (.int .u8 29), .lit (.int .u8 14), .lit (.int .u8 24), .lit (.int .u8 3), .lit (.int .u8 30), .lit (.int .u8 22), .lit (.int .u8 20), .lit (.int .u8 15), .lit (.int .u8 25), .lit (.int .u8 17), .lit (.int .u8 4), .lit (.int .u8 8), .lit (.int .u8 31), .lit (.int .u8 27), .lit (.int .u8 13), .lit (.int .u8 23), .lit (.int .u8 21), .lit (.int .u8 19), .lit (.int .u8 16), .lit (.int .u8 7), .lit (.int .u8 26), .lit (.int .u8 12), .lit (.int .u8 18), .lit (.int .u8 6), .lit (.int .u8 11), .lit (.int .u8 5), .lit (.int .u8 10), .lit (.int .u8 9)]
def laid_internal_strconv_uint64pow10 {H : Type} : DataW H := .agg [.lit (.int .u64 1), .lit (.int .u64 10), .lit (.int .u64 100), .lit (.int .u64 1000), .lit (.int .u64 10000), .lit (.int .u64 100000), .lit (.int .u64 1000000), .lit (.int .u64 10000000), .lit (.int .u64 100000000), .lit (.int .u64 1000000000), .lit (.int .u64 10000000000), .lit (.int .u64 100000000000), .lit (.int .u64 1000000000000), .lit (.int .u64 10000000000000), .lit (.int .u64 100000000000000), .lit (.int .u64 1000000000000000), .lit (.int .u64 10000000000000000), .lit (.int .u64 100000000000000000), .lit (.int .u64 1000000000000000000), .lit (.int .u64 10000000000000000000)]

/-- 'hacklelaw01.OctsMakes': WHATEVER THE INPUT: true; the input reads as it did. -/
def octsMakesSpec : ChangeSpec := { name := "octsMakes", fn := fun _ => fun
  | [d1, d2, d3] => { results := [.lit (.bool true)], args := [d1, d2, d3] }
  | _ => none }
def octsMakesRow : OpenClaim := { program := "ytcjnpmaljfkpgaadoor", sum := "a7710040adede49da6a708fe74b72580a9aa22602dbf0812b7ff6551742e721b", func := "hackle/hacklelaw01.OctsMakes", spec := "octsMakes", unfollowed := true, recurses := true, named := ["math/bits.deBruijn64tab"], plainKeys := false, apart := false, laid := [("math/bits.deBruijn64tab", laid_math_bits_deBruijn64tab)] }
def OctsMakesSaid : Prop := octsMakesRow.holds Tryd.pinned (OpenSpec.ofChange octsMakesSpec)

/-- ITS FALSE NEIGHBOUR: 'it returns false'. Refute it at one input. -/
def octsMakesWrong : ChangeSpec := { name := "octsMakes", fn := fun _ => fun
  | [d1, d2, d3] => { results := [.lit (.bool false)], args := [d1, d2, d3] }
  | _ => none }
def OctsMakesWrongFalsely : Prop := octsMakesRow.holds Tryd.pinned (OpenSpec.ofChange octsMakesWrong)

/-- 'hacklelaw01.OctsAsk': WHATEVER THE INPUT: true; the input reads as it did. -/
def octsAskSpec : ChangeSpec := { name := "octsAsk", fn := fun _ => fun
  | [d1, d2] => { results := [.lit (.bool true)], args := [d1, d2] }
  | _ => none }
def octsAskRow : OpenClaim := { program := "ytcjnpmaljfkpgaadoor", sum := "a7710040adede49da6a708fe74b72580a9aa22602dbf0812b7ff6551742e721b", func := "hackle/hacklelaw01.OctsAsk", spec := "octsAsk", unfollowed := true, recurses := true, named := ["math/bits.deBruijn64tab"], plainKeys := false, apart := false, laid := [("math/bits.deBruijn64tab", laid_math_bits_deBruijn64tab)] }
def OctsAskSaid : Prop := octsAskRow.holds Tryd.pinned (OpenSpec.ofChange octsAskSpec)

/-- ITS FALSE NEIGHBOUR: 'it returns false'. Refute it at one input. -/
def octsAskWrong : ChangeSpec := { name := "octsAsk", fn := fun _ => fun
  | [d1, d2] => { results := [.lit (.bool false)], args := [d1, d2] }
  | _ => none }
def OctsAskWrongFalsely : Prop := octsAskRow.holds Tryd.pinned (OpenSpec.ofChange octsAskWrong)

/-- 'hacklelaw01.OctsParts': WHATEVER THE INPUT: true; the input reads as it did. -/
def octsPartsSpec : ChangeSpec := { name := "octsParts", fn := fun _ => fun
  | [d1, d2] => { results := [.lit (.bool true)], args := [d1, d2] }
  | _ => none }
def octsPartsRow : OpenClaim := { program := "ytcjnpmaljfkpgaadoor", sum := "a7710040adede49da6a708fe74b72580a9aa22602dbf0812b7ff6551742e721b", func := "hackle/hacklelaw01.OctsParts", spec := "octsParts", unfollowed := true, recurses := true, named := ["math/bits.deBruijn64tab"], plainKeys := false, apart := false, laid := [("math/bits.deBruijn64tab", laid_math_bits_deBruijn64tab)] }
def OctsPartsSaid : Prop := octsPartsRow.holds Tryd.pinned (OpenSpec.ofChange octsPartsSpec)

/-- ITS FALSE NEIGHBOUR: 'it returns false'. Refute it at one input. -/
def octsPartsWrong : ChangeSpec := { name := "octsParts", fn := fun _ => fun
  | [d1, d2] => { results := [.lit (.bool false)], args := [d1, d2] }
  | _ => none }
def OctsPartsWrongFalsely : Prop := octsPartsRow.holds Tryd.pinned (OpenSpec.ofChange octsPartsWrong)

/-- 'hacklelaw01.OctsTwo': WHATEVER THE INPUT: true; the input reads as it did. -/
def octsTwoSpec : ChangeSpec := { name := "octsTwo", fn := fun _ => fun
  | [d1, d2, d3] => { results := [.lit (.bool true)], args := [d1, d2, d3] }
  | _ => none }
def octsTwoRow : OpenClaim := { program := "ytcjnpmaljfkpgaadoor", sum := "a7710040adede49da6a708fe74b72580a9aa22602dbf0812b7ff6551742e721b", func := "hackle/hacklelaw01.OctsTwo", spec := "octsTwo", unfollowed := true, recurses := true, named := ["math/bits.deBruijn64tab"], plainKeys := false, apart := false, laid := [("math/bits.deBruijn64tab", laid_math_bits_deBruijn64tab)] }
def OctsTwoSaid : Prop := octsTwoRow.holds Tryd.pinned (OpenSpec.ofChange octsTwoSpec)

/-- ITS FALSE NEIGHBOUR: 'it returns false'. Refute it at one input. -/
def octsTwoWrong : ChangeSpec := { name := "octsTwo", fn := fun _ => fun
  | [d1, d2, d3] => { results := [.lit (.bool false)], args := [d1, d2, d3] }
  | _ => none }
def OctsTwoWrongFalsely : Prop := octsTwoRow.holds Tryd.pinned (OpenSpec.ofChange octsTwoWrong)

/-- 'hacklelaw02.ClassAsk': WHATEVER THE INPUT: true; the input reads as it did. -/
def classAskSpec : ChangeSpec := { name := "classAsk", fn := fun _ => fun
  | [d1, d2, d3] => { results := [.lit (.bool true)], args := [d1, d2, d3] }
  | _ => none }
def classAskRow : OpenClaim := { program := "ytcjnpmaljfkpgaadoor", sum := "a7710040adede49da6a708fe74b72580a9aa22602dbf0812b7ff6551742e721b", func := "hackle/hacklelaw02.ClassAsk", spec := "classAsk", unfollowed := true, recurses := true, named := ["math/bits.deBruijn64tab"], plainKeys := false, apart := false, laid := [("math/bits.deBruijn64tab", laid_math_bits_deBruijn64tab)] }
def ClassAskSaid : Prop := classAskRow.holds Tryd.pinned (OpenSpec.ofChange classAskSpec)

/-- ITS FALSE NEIGHBOUR: 'it returns false'. Refute it at one input. -/
def classAskWrong : ChangeSpec := { name := "classAsk", fn := fun _ => fun
  | [d1, d2, d3] => { results := [.lit (.bool false)], args := [d1, d2, d3] }
  | _ => none }
def ClassAskWrongFalsely : Prop := classAskRow.holds Tryd.pinned (OpenSpec.ofChange classAskWrong)

/-- 'hacklelaw03.DigitsParse': WHATEVER THE INPUT: true; the input reads as it did. -/
def digitsParseSpec : ChangeSpec := { name := "digitsParse", fn := fun _ => fun
  | [d1, d2, d3] => { results := [.lit (.bool true)], args := [d1, d2, d3] }
  | _ => none }
def digitsParseRow : OpenClaim := { program := "ytcjnpmaljfkpgaadoor", sum := "a7710040adede49da6a708fe74b72580a9aa22602dbf0812b7ff6551742e721b", func := "hackle/hacklelaw03.DigitsParse", spec := "digitsParse", named := ["internal/strconv.uint64pow10", "math/bits.deBruijn32tab", "math/bits.deBruijn64tab"], plainKeys := false, apart := false, laid := [("math/bits.deBruijn32tab", laid_math_bits_deBruijn32tab), ("math/bits.deBruijn64tab", laid_math_bits_deBruijn64tab), ("internal/strconv.uint64pow10", laid_internal_strconv_uint64pow10)] }
def DigitsParseSaid : Prop := digitsParseRow.holds Tryd.pinned (OpenSpec.ofChange digitsParseSpec)

/-- ITS FALSE NEIGHBOUR: 'it returns false'. Refute it at one input. -/
def digitsParseWrong : ChangeSpec := { name := "digitsParse", fn := fun _ => fun
  | [d1, d2, d3] => { results := [.lit (.bool false)], args := [d1, d2, d3] }
  | _ => none }
def DigitsParseWrongFalsely : Prop := digitsParseRow.holds Tryd.pinned (OpenSpec.ofChange digitsParseWrong)

/-- 'hacklelaw03.DigitsPrint': WHATEVER THE INPUT: true; the input reads as it did. -/
def digitsPrintSpec : ChangeSpec := { name := "digitsPrint", fn := fun _ => fun
  | [d1, d2] => { results := [.lit (.bool true)], args := [d1, d2] }
  | _ => none }
def digitsPrintRow : OpenClaim := { program := "ytcjnpmaljfkpgaadoor", sum := "a7710040adede49da6a708fe74b72580a9aa22602dbf0812b7ff6551742e721b", func := "hackle/hacklelaw03.DigitsPrint", spec := "digitsPrint", named := ["internal/strconv.uint64pow10", "math/bits.deBruijn32tab", "math/bits.deBruijn64tab"], plainKeys := false, apart := false, laid := [("math/bits.deBruijn32tab", laid_math_bits_deBruijn32tab), ("math/bits.deBruijn64tab", laid_math_bits_deBruijn64tab), ("internal/strconv.uint64pow10", laid_internal_strconv_uint64pow10)] }
def DigitsPrintSaid : Prop := digitsPrintRow.holds Tryd.pinned (OpenSpec.ofChange digitsPrintSpec)

/-- ITS FALSE NEIGHBOUR: 'it returns false'. Refute it at one input. -/
def digitsPrintWrong : ChangeSpec := { name := "digitsPrint", fn := fun _ => fun
  | [d1, d2] => { results := [.lit (.bool false)], args := [d1, d2] }
  | _ => none }
def DigitsPrintWrongFalsely : Prop := digitsPrintRow.holds Tryd.pinned (OpenSpec.ofChange digitsPrintWrong)

/-- 'hacklelaw03.DigitsCanon': WHATEVER THE INPUT: true; the input reads as it did. -/
def digitsCanonSpec : ChangeSpec := { name := "digitsCanon", fn := fun _ => fun
  | [d1, d2] => { results := [.lit (.bool true)], args := [d1, d2] }
  | _ => none }
def digitsCanonRow : OpenClaim := { program := "ytcjnpmaljfkpgaadoor", sum := "a7710040adede49da6a708fe74b72580a9aa22602dbf0812b7ff6551742e721b", func := "hackle/hacklelaw03.DigitsCanon", spec := "digitsCanon", named := ["internal/strconv.uint64pow10", "math/bits.deBruijn32tab", "math/bits.deBruijn64tab"], plainKeys := false, apart := false, laid := [("math/bits.deBruijn32tab", laid_math_bits_deBruijn32tab), ("math/bits.deBruijn64tab", laid_math_bits_deBruijn64tab), ("internal/strconv.uint64pow10", laid_internal_strconv_uint64pow10)] }
def DigitsCanonSaid : Prop := digitsCanonRow.holds Tryd.pinned (OpenSpec.ofChange digitsCanonSpec)

/-- ITS FALSE NEIGHBOUR: 'it returns false'. Refute it at one input. -/
def digitsCanonWrong : ChangeSpec := { name := "digitsCanon", fn := fun _ => fun
  | [d1, d2] => { results := [.lit (.bool false)], args := [d1, d2] }
  | _ => none }
def DigitsCanonWrongFalsely : Prop := digitsCanonRow.holds Tryd.pinned (OpenSpec.ofChange digitsCanonWrong)

/- THE SECOND FORM. 'bulk': how many values and letters a reading holds, each counted each time it is reached (what is shared counts as often as it is met; a slice's spare places count too). A statement '..UptoSaid' is the law's where the arguments, and the package variables that the reading takes, are together of bulk at most 1048576: NARROWER than '..Said'. Prove '..Said' where nothing that the law and all that it calls make is longer than what came in: it says more and counts as full. Else prove '..UptoSaid'. A law counts once. -/
mutual
def uptoBulk {H : Type} : DataW H → Nat
  | .lit (.string bytes) => bytes.length + 1
  | .lit _ => 1
  | .nil => 1
  | .ptr d => uptoBulk d + 1
  | .slice elems spare => uptoBulkAll elems + uptoBulkAll spare + 1
  | .agg parts => uptoBulkAll parts + 1
  | .iface _ d => uptoBulk d + 1
  | .map entries => uptoBulkEntries entries + 1
  | .held _ => 1
def uptoBulkAll {H : Type} : List (DataW H) → Nat
  | [] => 0
  | d :: r => uptoBulk d + uptoBulkAll r
def uptoBulkEntries {H : Type} : List (Lit × DataW H) → Nat
  | [] => 0
  | x :: r => uptoBulkEntry x + uptoBulkEntries r
def uptoBulkEntry {H : Type} : Lit × DataW H → Nat
  | (.string bytes, d) => bytes.length + uptoBulk d + 1
  | (_, d) => uptoBulk d + 1
 end
def uptoSmall : (H : Type) → List (DataW H) → Bool := fun _ ds => decide (uptoBulkAll ds ≤ 1048576)
def OpenSpec.upto (s : _root_.Go.ChangeSpec) : _root_.Go.OpenSpec := { _root_.Go.OpenSpec.ofChange s with cond := some uptoSmall }

/-- 'hacklelaw01.OctsMakes', WHERE WHAT IT READS IS OF BULK AT MOST 1048576: true; the input reads as it did. -/
def octsMakesUptoRow : OpenClaim := { program := "ytcjnpmaljfkpgaadoor", sum := "a7710040adede49da6a708fe74b72580a9aa22602dbf0812b7ff6551742e721b", func := "hackle/hacklelaw01.OctsMakes", spec := "octsMakes", unfollowed := true, recurses := true, named := ["math/bits.deBruijn64tab"], plainKeys := false, apart := false, laid := [("math/bits.deBruijn64tab", laid_math_bits_deBruijn64tab)], narrowed := true }
def OctsMakesUptoSaid : Prop := octsMakesUptoRow.holds Tryd.pinned (OpenSpec.upto octsMakesSpec)

/-- 'hacklelaw01.OctsAsk', WHERE WHAT IT READS IS OF BULK AT MOST 1048576: true; the input reads as it did. -/
def octsAskUptoRow : OpenClaim := { program := "ytcjnpmaljfkpgaadoor", sum := "a7710040adede49da6a708fe74b72580a9aa22602dbf0812b7ff6551742e721b", func := "hackle/hacklelaw01.OctsAsk", spec := "octsAsk", unfollowed := true, recurses := true, named := ["math/bits.deBruijn64tab"], plainKeys := false, apart := false, laid := [("math/bits.deBruijn64tab", laid_math_bits_deBruijn64tab)], narrowed := true }
def OctsAskUptoSaid : Prop := octsAskUptoRow.holds Tryd.pinned (OpenSpec.upto octsAskSpec)

/-- 'hacklelaw01.OctsParts', WHERE WHAT IT READS IS OF BULK AT MOST 1048576: true; the input reads as it did. -/
def octsPartsUptoRow : OpenClaim := { program := "ytcjnpmaljfkpgaadoor", sum := "a7710040adede49da6a708fe74b72580a9aa22602dbf0812b7ff6551742e721b", func := "hackle/hacklelaw01.OctsParts", spec := "octsParts", unfollowed := true, recurses := true, named := ["math/bits.deBruijn64tab"], plainKeys := false, apart := false, laid := [("math/bits.deBruijn64tab", laid_math_bits_deBruijn64tab)], narrowed := true }
def OctsPartsUptoSaid : Prop := octsPartsUptoRow.holds Tryd.pinned (OpenSpec.upto octsPartsSpec)

/-- 'hacklelaw01.OctsTwo', WHERE WHAT IT READS IS OF BULK AT MOST 1048576: true; the input reads as it did. -/
def octsTwoUptoRow : OpenClaim := { program := "ytcjnpmaljfkpgaadoor", sum := "a7710040adede49da6a708fe74b72580a9aa22602dbf0812b7ff6551742e721b", func := "hackle/hacklelaw01.OctsTwo", spec := "octsTwo", unfollowed := true, recurses := true, named := ["math/bits.deBruijn64tab"], plainKeys := false, apart := false, laid := [("math/bits.deBruijn64tab", laid_math_bits_deBruijn64tab)], narrowed := true }
def OctsTwoUptoSaid : Prop := octsTwoUptoRow.holds Tryd.pinned (OpenSpec.upto octsTwoSpec)

/-- 'hacklelaw02.ClassAsk', WHERE WHAT IT READS IS OF BULK AT MOST 1048576: true; the input reads as it did. -/
def classAskUptoRow : OpenClaim := { program := "ytcjnpmaljfkpgaadoor", sum := "a7710040adede49da6a708fe74b72580a9aa22602dbf0812b7ff6551742e721b", func := "hackle/hacklelaw02.ClassAsk", spec := "classAsk", unfollowed := true, recurses := true, named := ["math/bits.deBruijn64tab"], plainKeys := false, apart := false, laid := [("math/bits.deBruijn64tab", laid_math_bits_deBruijn64tab)], narrowed := true }
def ClassAskUptoSaid : Prop := classAskUptoRow.holds Tryd.pinned (OpenSpec.upto classAskSpec)

/-- 'hacklelaw03.DigitsParse', WHERE WHAT IT READS IS OF BULK AT MOST 1048576: true; the input reads as it did. -/
def digitsParseUptoRow : OpenClaim := { program := "ytcjnpmaljfkpgaadoor", sum := "a7710040adede49da6a708fe74b72580a9aa22602dbf0812b7ff6551742e721b", func := "hackle/hacklelaw03.DigitsParse", spec := "digitsParse", named := ["internal/strconv.uint64pow10", "math/bits.deBruijn32tab", "math/bits.deBruijn64tab"], plainKeys := false, apart := false, laid := [("math/bits.deBruijn32tab", laid_math_bits_deBruijn32tab), ("math/bits.deBruijn64tab", laid_math_bits_deBruijn64tab), ("internal/strconv.uint64pow10", laid_internal_strconv_uint64pow10)], narrowed := true }
def DigitsParseUptoSaid : Prop := digitsParseUptoRow.holds Tryd.pinned (OpenSpec.upto digitsParseSpec)

/-- 'hacklelaw03.DigitsPrint', WHERE WHAT IT READS IS OF BULK AT MOST 1048576: true; the input reads as it did. -/
def digitsPrintUptoRow : OpenClaim := { program := "ytcjnpmaljfkpgaadoor", sum := "a7710040adede49da6a708fe74b72580a9aa22602dbf0812b7ff6551742e721b", func := "hackle/hacklelaw03.DigitsPrint", spec := "digitsPrint", named := ["internal/strconv.uint64pow10", "math/bits.deBruijn32tab", "math/bits.deBruijn64tab"], plainKeys := false, apart := false, laid := [("math/bits.deBruijn32tab", laid_math_bits_deBruijn32tab), ("math/bits.deBruijn64tab", laid_math_bits_deBruijn64tab), ("internal/strconv.uint64pow10", laid_internal_strconv_uint64pow10)], narrowed := true }
def DigitsPrintUptoSaid : Prop := digitsPrintUptoRow.holds Tryd.pinned (OpenSpec.upto digitsPrintSpec)

/-- 'hacklelaw03.DigitsCanon', WHERE WHAT IT READS IS OF BULK AT MOST 1048576: true; the input reads as it did. -/
def digitsCanonUptoRow : OpenClaim := { program := "ytcjnpmaljfkpgaadoor", sum := "a7710040adede49da6a708fe74b72580a9aa22602dbf0812b7ff6551742e721b", func := "hackle/hacklelaw03.DigitsCanon", spec := "digitsCanon", named := ["internal/strconv.uint64pow10", "math/bits.deBruijn32tab", "math/bits.deBruijn64tab"], plainKeys := false, apart := false, laid := [("math/bits.deBruijn32tab", laid_math_bits_deBruijn32tab), ("math/bits.deBruijn64tab", laid_math_bits_deBruijn64tab), ("internal/strconv.uint64pow10", laid_internal_strconv_uint64pow10)], narrowed := true }
def DigitsCanonUptoSaid : Prop := digitsCanonUptoRow.holds Tryd.pinned (OpenSpec.upto digitsCanonSpec)

end Rows
end Go.Proofs.YtcjnpmaljfkpgaaDoor
