/-
  DERIVED. GIVEN WITH THE SEED: THE CARDS: each row of YtcjnpmaljfkpgaaDoorRows.lean that lists a variable, with what it lists TIED to the program's text (the seventh form; the later family's looks); each row that meets fmt, with fmt's text TOLD by the authors' own Lean function (tested against real Go, not proved from fmt's source: count such statements apart). THE CARD IS WHAT COUNTS. Prove the row's statement (the work); the ties are given (YtcjnpmaljfkpgaaDoorTie.lean); close each card by the builder's one call (the guide's Derived/Test/ToyasCard.lean, 'card_holds'). Laid BY PROGRAM, IN A SANDBOX (cutbox-door.mjs). By AI agents, Wed Nov 11 2026. No macro, syntax, notation, axiom, sorry.
-/
import Derived.Test.YtcjnpmaljfkpgaaDoorRows
import GoSem.ClaimSeven
namespace Go.Proofs.YtcjnpmaljfkpgaaDoor
namespace Rows

/-- THE TIED CARD OF 'hacklelaw01.OctsMakes'. -/
def octsMakesCard : Claim7 := { stood := { row := octsMakesRow, standIns := [], harness := (true, "166bec2353e91d9e5c2cb85dd0d1e3ac186c5de888a54bb1df2e2c1a9346fd04"), looks := false }, kinds := [], alts := [], laidByText := true, laidKinds := [.data], laidTests := true, laidLooks := .later }
def OctsMakesCardSaid : Prop := Claim7.holds Tryd.pinned (.plain (OpenSpec.ofChange octsMakesSpec)) octsMakesCard

/-- THE TIED CARD OF 'hacklelaw01.OctsAsk'. -/
def octsAskCard : Claim7 := { stood := { row := octsAskRow, standIns := [], harness := (true, "166bec2353e91d9e5c2cb85dd0d1e3ac186c5de888a54bb1df2e2c1a9346fd04"), looks := false }, kinds := [], alts := [], laidByText := true, laidKinds := [.data], laidTests := true, laidLooks := .later }
def OctsAskCardSaid : Prop := Claim7.holds Tryd.pinned (.plain (OpenSpec.ofChange octsAskSpec)) octsAskCard

/-- THE TIED CARD OF 'hacklelaw01.OctsParts'. -/
def octsPartsCard : Claim7 := { stood := { row := octsPartsRow, standIns := [], harness := (true, "166bec2353e91d9e5c2cb85dd0d1e3ac186c5de888a54bb1df2e2c1a9346fd04"), looks := false }, kinds := [], alts := [], laidByText := true, laidKinds := [.data], laidTests := true, laidLooks := .later }
def OctsPartsCardSaid : Prop := Claim7.holds Tryd.pinned (.plain (OpenSpec.ofChange octsPartsSpec)) octsPartsCard

/-- THE TIED CARD OF 'hacklelaw01.OctsTwo'. -/
def octsTwoCard : Claim7 := { stood := { row := octsTwoRow, standIns := [], harness := (true, "166bec2353e91d9e5c2cb85dd0d1e3ac186c5de888a54bb1df2e2c1a9346fd04"), looks := false }, kinds := [], alts := [], laidByText := true, laidKinds := [.data], laidTests := true, laidLooks := .later }
def OctsTwoCardSaid : Prop := Claim7.holds Tryd.pinned (.plain (OpenSpec.ofChange octsTwoSpec)) octsTwoCard

/-- THE TIED CARD OF 'hacklelaw02.ClassAsk'. -/
def classAskCard : Claim7 := { stood := { row := classAskRow, standIns := [], harness := (true, "166bec2353e91d9e5c2cb85dd0d1e3ac186c5de888a54bb1df2e2c1a9346fd04"), looks := false }, kinds := [], alts := [], laidByText := true, laidKinds := [.data], laidTests := true, laidLooks := .later }
def ClassAskCardSaid : Prop := Claim7.holds Tryd.pinned (.plain (OpenSpec.ofChange classAskSpec)) classAskCard

/-- THE TIED CARD OF 'hacklelaw03.DigitsParse'. -/
def digitsParseCard : Claim7 := { stood := { row := digitsParseRow, standIns := [], harness := (true, "166bec2353e91d9e5c2cb85dd0d1e3ac186c5de888a54bb1df2e2c1a9346fd04"), looks := false }, kinds := [], alts := [], laidByText := true, laidKinds := [.data, .data, .data], laidTests := true, laidLooks := .later }
def DigitsParseCardSaid : Prop := Claim7.holds Tryd.pinned (.plain (OpenSpec.ofChange digitsParseSpec)) digitsParseCard

/-- THE TIED CARD OF 'hacklelaw03.DigitsPrint'. -/
def digitsPrintCard : Claim7 := { stood := { row := digitsPrintRow, standIns := [], harness := (true, "166bec2353e91d9e5c2cb85dd0d1e3ac186c5de888a54bb1df2e2c1a9346fd04"), looks := false }, kinds := [], alts := [], laidByText := true, laidKinds := [.data, .data, .data], laidTests := true, laidLooks := .later }
def DigitsPrintCardSaid : Prop := Claim7.holds Tryd.pinned (.plain (OpenSpec.ofChange digitsPrintSpec)) digitsPrintCard

/-- THE TIED CARD OF 'hacklelaw03.DigitsCanon'. -/
def digitsCanonCard : Claim7 := { stood := { row := digitsCanonRow, standIns := [], harness := (true, "166bec2353e91d9e5c2cb85dd0d1e3ac186c5de888a54bb1df2e2c1a9346fd04"), looks := false }, kinds := [], alts := [], laidByText := true, laidKinds := [.data, .data, .data], laidTests := true, laidLooks := .later }
def DigitsCanonCardSaid : Prop := Claim7.holds Tryd.pinned (.plain (OpenSpec.ofChange digitsCanonSpec)) digitsCanonCard

/-- THE SECOND FORM's CARD OF 'hacklelaw01.OctsMakes'. -/
def octsMakesUptoCard : Claim7 := { stood := { row := octsMakesUptoRow, standIns := [], harness := (true, "166bec2353e91d9e5c2cb85dd0d1e3ac186c5de888a54bb1df2e2c1a9346fd04"), looks := false }, kinds := [], alts := [], laidByText := true, laidKinds := [.data], laidTests := true, laidLooks := .later }
def OctsMakesUptoCardSaid : Prop := Claim7.holds Tryd.pinned (.plain (OpenSpec.upto octsMakesSpec)) octsMakesUptoCard

/-- THE SECOND FORM's CARD OF 'hacklelaw01.OctsAsk'. -/
def octsAskUptoCard : Claim7 := { stood := { row := octsAskUptoRow, standIns := [], harness := (true, "166bec2353e91d9e5c2cb85dd0d1e3ac186c5de888a54bb1df2e2c1a9346fd04"), looks := false }, kinds := [], alts := [], laidByText := true, laidKinds := [.data], laidTests := true, laidLooks := .later }
def OctsAskUptoCardSaid : Prop := Claim7.holds Tryd.pinned (.plain (OpenSpec.upto octsAskSpec)) octsAskUptoCard

/-- THE SECOND FORM's CARD OF 'hacklelaw01.OctsParts'. -/
def octsPartsUptoCard : Claim7 := { stood := { row := octsPartsUptoRow, standIns := [], harness := (true, "166bec2353e91d9e5c2cb85dd0d1e3ac186c5de888a54bb1df2e2c1a9346fd04"), looks := false }, kinds := [], alts := [], laidByText := true, laidKinds := [.data], laidTests := true, laidLooks := .later }
def OctsPartsUptoCardSaid : Prop := Claim7.holds Tryd.pinned (.plain (OpenSpec.upto octsPartsSpec)) octsPartsUptoCard

/-- THE SECOND FORM's CARD OF 'hacklelaw01.OctsTwo'. -/
def octsTwoUptoCard : Claim7 := { stood := { row := octsTwoUptoRow, standIns := [], harness := (true, "166bec2353e91d9e5c2cb85dd0d1e3ac186c5de888a54bb1df2e2c1a9346fd04"), looks := false }, kinds := [], alts := [], laidByText := true, laidKinds := [.data], laidTests := true, laidLooks := .later }
def OctsTwoUptoCardSaid : Prop := Claim7.holds Tryd.pinned (.plain (OpenSpec.upto octsTwoSpec)) octsTwoUptoCard

/-- THE SECOND FORM's CARD OF 'hacklelaw02.ClassAsk'. -/
def classAskUptoCard : Claim7 := { stood := { row := classAskUptoRow, standIns := [], harness := (true, "166bec2353e91d9e5c2cb85dd0d1e3ac186c5de888a54bb1df2e2c1a9346fd04"), looks := false }, kinds := [], alts := [], laidByText := true, laidKinds := [.data], laidTests := true, laidLooks := .later }
def ClassAskUptoCardSaid : Prop := Claim7.holds Tryd.pinned (.plain (OpenSpec.upto classAskSpec)) classAskUptoCard

/-- THE SECOND FORM's CARD OF 'hacklelaw03.DigitsParse'. -/
def digitsParseUptoCard : Claim7 := { stood := { row := digitsParseUptoRow, standIns := [], harness := (true, "166bec2353e91d9e5c2cb85dd0d1e3ac186c5de888a54bb1df2e2c1a9346fd04"), looks := false }, kinds := [], alts := [], laidByText := true, laidKinds := [.data, .data, .data], laidTests := true, laidLooks := .later }
def DigitsParseUptoCardSaid : Prop := Claim7.holds Tryd.pinned (.plain (OpenSpec.upto digitsParseSpec)) digitsParseUptoCard

/-- THE SECOND FORM's CARD OF 'hacklelaw03.DigitsPrint'. -/
def digitsPrintUptoCard : Claim7 := { stood := { row := digitsPrintUptoRow, standIns := [], harness := (true, "166bec2353e91d9e5c2cb85dd0d1e3ac186c5de888a54bb1df2e2c1a9346fd04"), looks := false }, kinds := [], alts := [], laidByText := true, laidKinds := [.data, .data, .data], laidTests := true, laidLooks := .later }
def DigitsPrintUptoCardSaid : Prop := Claim7.holds Tryd.pinned (.plain (OpenSpec.upto digitsPrintSpec)) digitsPrintUptoCard

/-- THE SECOND FORM's CARD OF 'hacklelaw03.DigitsCanon'. -/
def digitsCanonUptoCard : Claim7 := { stood := { row := digitsCanonUptoRow, standIns := [], harness := (true, "166bec2353e91d9e5c2cb85dd0d1e3ac186c5de888a54bb1df2e2c1a9346fd04"), looks := false }, kinds := [], alts := [], laidByText := true, laidKinds := [.data, .data, .data], laidTests := true, laidLooks := .later }
def DigitsCanonUptoCardSaid : Prop := Claim7.holds Tryd.pinned (.plain (OpenSpec.upto digitsCanonSpec)) digitsCanonUptoCard
end Rows
end Go.Proofs.YtcjnpmaljfkpgaaDoor
