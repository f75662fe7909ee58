/-
  DERIVED. GIVEN WITH THE SEED: THE CARDS: each row of YtddgppmcbjjliaaGreatDoorRows.lean that lists a variable, with what it lists TIED to the program's text (the seventh form; the later family's looks); each row that meets fmt, with fmt's text TOLD by the authors' own Lean function (tested against real Go, not proved from fmt's source: count such statements apart). THE CARD IS WHAT COUNTS. Prove the row's statement (the work); the ties are given (YtddgppmcbjjliaaGreatDoorTie.lean); close each card by the builder's one call (the guide's Derived/Test/ToyasCard.lean, 'card_holds'). Laid BY PROGRAM, IN A SANDBOX (cutbox-door.mjs). By AI agents, Wed Nov 11 2026. No macro, syntax, notation, axiom, sorry.
-/
import Derived.Test.YtddgppmcbjjliaaGreatDoorRows
import GoSem.ClaimSeven
namespace Go.Proofs.YtddgppmcbjjliaaGreatDoor
namespace Rows

/-- THE TIED CARD OF 'hacklelaw09.DfaSubsets'. -/
def dfaSubsetsCard : Claim7 := { stood := { row := dfaSubsetsRow, standIns := [], harness := (true, "3fd8ba0d5526893f85207cb267b60c25ea8badae4dec50ddd749aca4b027a746"), looks := false }, kinds := [], alts := [], laidByText := true, laidKinds := [.data], laidTests := true, laidLooks := .later }
def DfaSubsetsCardSaid : Prop := Claim7.holds Tryz.pinned (.plain (OpenSpec.ofChange dfaSubsetsSpec)) dfaSubsetsCard

/-- THE TIED CARD OF 'hacklelaw09.DfaTrims'. -/
def dfaTrimsCard : Claim7 := { stood := { row := dfaTrimsRow, standIns := [], harness := (true, "3fd8ba0d5526893f85207cb267b60c25ea8badae4dec50ddd749aca4b027a746"), looks := false }, kinds := [], alts := [], laidByText := true, laidKinds := [.data], laidTests := true, laidLooks := .later }
def DfaTrimsCardSaid : Prop := Claim7.holds Tryz.pinned (.plain (OpenSpec.ofChange dfaTrimsSpec)) dfaTrimsCard

/-- THE TIED CARD OF 'hacklelaw09.DfaRuns'. -/
def dfaRunsCard : Claim7 := { stood := { row := dfaRunsRow, standIns := [], harness := (true, "3fd8ba0d5526893f85207cb267b60c25ea8badae4dec50ddd749aca4b027a746"), looks := false }, kinds := [], alts := [], laidByText := true, laidKinds := [.data], laidTests := true, laidLooks := .later }
def DfaRunsCardSaid : Prop := Claim7.holds Tryz.pinned (.plain (OpenSpec.ofChange dfaRunsSpec)) dfaRunsCard

/-- THE SECOND FORM's CARD OF 'hacklelaw09.DfaSubsets'. -/
def dfaSubsetsUptoCard : Claim7 := { stood := { row := dfaSubsetsUptoRow, standIns := [], harness := (true, "3fd8ba0d5526893f85207cb267b60c25ea8badae4dec50ddd749aca4b027a746"), looks := false }, kinds := [], alts := [], laidByText := true, laidKinds := [.data], laidTests := true, laidLooks := .later }
def DfaSubsetsUptoCardSaid : Prop := Claim7.holds Tryz.pinned (.plain (OpenSpec.upto dfaSubsetsSpec)) dfaSubsetsUptoCard

/-- THE SECOND FORM's CARD OF 'hacklelaw09.DfaTrims'. -/
def dfaTrimsUptoCard : Claim7 := { stood := { row := dfaTrimsUptoRow, standIns := [], harness := (true, "3fd8ba0d5526893f85207cb267b60c25ea8badae4dec50ddd749aca4b027a746"), looks := false }, kinds := [], alts := [], laidByText := true, laidKinds := [.data], laidTests := true, laidLooks := .later }
def DfaTrimsUptoCardSaid : Prop := Claim7.holds Tryz.pinned (.plain (OpenSpec.upto dfaTrimsSpec)) dfaTrimsUptoCard

/-- THE SECOND FORM's CARD OF 'hacklelaw09.DfaRuns'. -/
def dfaRunsUptoCard : Claim7 := { stood := { row := dfaRunsUptoRow, standIns := [], harness := (true, "3fd8ba0d5526893f85207cb267b60c25ea8badae4dec50ddd749aca4b027a746"), looks := false }, kinds := [], alts := [], laidByText := true, laidKinds := [.data], laidTests := true, laidLooks := .later }
def DfaRunsUptoCardSaid : Prop := Claim7.holds Tryz.pinned (.plain (OpenSpec.upto dfaRunsSpec)) dfaRunsUptoCard
end Rows
end Go.Proofs.YtddgppmcbjjliaaGreatDoor
