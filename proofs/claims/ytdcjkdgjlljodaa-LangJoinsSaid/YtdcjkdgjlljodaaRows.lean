/-
  NARROWER THAN 'FOR EVERY INPUT', by the rows' own cells (each row's printed sentence says how): LangEnds: loops · LangTakes: loops · LangBegins: loops · LangJoins: loops.
  DERIVED. THE GIVEN ROWS OF THIS SEAT. 4 by the template 'for every input the law returns true; each argument reads behind the call as it read before'; 0 by the template 'total and deterministic' (their statements: YtdcjkdgjlljodaaTotals.lean).
  GIVEN WITH THE SEED: the statements are not yours to turn. If you find one false, say at which input.
  Laid BY PROGRAM, IN A SANDBOX (cutbox-rows.mjs): the forced cells as the released guide's own fill.sh prints them over the translation 5d3b8f5265995e28… (all of the seat's roots in one cut). By AI agents, Wed Nov 11 2026. No macro, syntax, notation, axiom, sorry.
-/
import Derived.Test.YtdcjkdgjlljodaaChecked
import GoSem.Claim
import GoSem.ClaimJoined
import GoSem.ClaimMapViews
import Derived.JoinedTies
import Derived.KernelRfl
namespace Go.Proofs.Ytdcjkdgjlljodaa
/- THE CELL 'sum', in the pinned program and in every row, IS THE sha256 OF THE DUMP (.gsa) THAT YtdcjkdgjlljodaaProg.lean LOADS. Nothing in Lean hashes anything: it is a label: what it is worth is what the hold of that sum in a sandbox is worth. -/
noncomputable def Try.pinned : Pinned := { name := "ytdcjkdgjlljodaa", sum := "5d3b8f5265995e28bb647c14658b7c31a7e45e8568a5dccf894aad1713440c54", checked := Try.checked }
namespace Rows
def none {H : Type} : Left H := { results := [], args := [] }

/-- 'hacklelaw05.LangEnds': WHATEVER THE INPUT: true; the input reads as it did. -/
def langEndsSpec : ChangeSpec := { name := "langEnds", fn := fun _ => fun
  | [d1, d2, d3] => { results := [.lit (.bool true)], args := [d1, d2, d3] }
  | _ => none }
def langEndsRow : OpenClaim := { program := "ytdcjkdgjlljodaa", sum := "5d3b8f5265995e28bb647c14658b7c31a7e45e8568a5dccf894aad1713440c54", func := "hackle/hacklelaw05.LangEnds", spec := "langEnds", unfollowed := true, recurses := true, loops := true, apart := false }
def LangEndsSaid : Prop := langEndsRow.holds Try.pinned (OpenSpec.ofChange langEndsSpec)

/-- ITS FALSE NEIGHBOUR: 'it returns false'. Refute it at one input. -/
def langEndsWrong : ChangeSpec := { name := "langEnds", fn := fun _ => fun
  | [d1, d2, d3] => { results := [.lit (.bool false)], args := [d1, d2, d3] }
  | _ => none }
def LangEndsWrongFalsely : Prop := langEndsRow.holds Try.pinned (OpenSpec.ofChange langEndsWrong)

/-- 'hacklelaw05.LangTakes': WHATEVER THE INPUT: true; the input reads as it did. -/
def langTakesSpec : ChangeSpec := { name := "langTakes", fn := fun _ => fun
  | [d1, d2] => { results := [.lit (.bool true)], args := [d1, d2] }
  | _ => none }
def langTakesRow : OpenClaim := { program := "ytdcjkdgjlljodaa", sum := "5d3b8f5265995e28bb647c14658b7c31a7e45e8568a5dccf894aad1713440c54", func := "hackle/hacklelaw05.LangTakes", spec := "langTakes", unfollowed := true, recurses := true, loops := true, apart := false }
def LangTakesSaid : Prop := langTakesRow.holds Try.pinned (OpenSpec.ofChange langTakesSpec)

/-- ITS FALSE NEIGHBOUR: 'it returns false'. Refute it at one input. -/
def langTakesWrong : ChangeSpec := { name := "langTakes", fn := fun _ => fun
  | [d1, d2] => { results := [.lit (.bool false)], args := [d1, d2] }
  | _ => none }
def LangTakesWrongFalsely : Prop := langTakesRow.holds Try.pinned (OpenSpec.ofChange langTakesWrong)

/-- 'hacklelaw05.LangBegins': WHATEVER THE INPUT: true; the input reads as it did. -/
def langBeginsSpec : ChangeSpec := { name := "langBegins", fn := fun _ => fun
  | [d1, d2] => { results := [.lit (.bool true)], args := [d1, d2] }
  | _ => none }
def langBeginsRow : OpenClaim := { program := "ytdcjkdgjlljodaa", sum := "5d3b8f5265995e28bb647c14658b7c31a7e45e8568a5dccf894aad1713440c54", func := "hackle/hacklelaw05.LangBegins", spec := "langBegins", unfollowed := true, recurses := true, loops := true, apart := false }
def LangBeginsSaid : Prop := langBeginsRow.holds Try.pinned (OpenSpec.ofChange langBeginsSpec)

/-- ITS FALSE NEIGHBOUR: 'it returns false'. Refute it at one input. -/
def langBeginsWrong : ChangeSpec := { name := "langBegins", fn := fun _ => fun
  | [d1, d2] => { results := [.lit (.bool false)], args := [d1, d2] }
  | _ => none }
def LangBeginsWrongFalsely : Prop := langBeginsRow.holds Try.pinned (OpenSpec.ofChange langBeginsWrong)

/-- 'hacklelaw05.LangJoins': WHATEVER THE INPUT: true; the input reads as it did. -/
def langJoinsSpec : ChangeSpec := { name := "langJoins", fn := fun _ => fun
  | [d1, d2, d3] => { results := [.lit (.bool true)], args := [d1, d2, d3] }
  | _ => none }
def langJoinsRow : OpenClaim := { program := "ytdcjkdgjlljodaa", sum := "5d3b8f5265995e28bb647c14658b7c31a7e45e8568a5dccf894aad1713440c54", func := "hackle/hacklelaw05.LangJoins", spec := "langJoins", unfollowed := true, recurses := true, loops := true, apart := false }
def LangJoinsSaid : Prop := langJoinsRow.holds Try.pinned (OpenSpec.ofChange langJoinsSpec)

/-- ITS FALSE NEIGHBOUR: 'it returns false'. Refute it at one input. -/
def langJoinsWrong : ChangeSpec := { name := "langJoins", fn := fun _ => fun
  | [d1, d2, d3] => { results := [.lit (.bool false)], args := [d1, d2, d3] }
  | _ => none }
def LangJoinsWrongFalsely : Prop := langJoinsRow.holds Try.pinned (OpenSpec.ofChange langJoinsWrong)

/- THE SECOND FORM. 'bulk': how many values and letters a reading holds, each counted each time it is reached (what is shared counts as often as it is met; a slice's spare places count too). A statement '..UptoSaid' is the law's where the arguments, and the package variables that the reading takes, are together of bulk at most 1048576: NARROWER than '..Said'. Prove '..Said' where nothing that the law and all that it calls make is longer than what came in: it says more and counts as full. Else prove '..UptoSaid'. A law counts once. -/
mutual
def uptoBulk {H : Type} : DataW H → Nat
  | .lit (.string bytes) => bytes.length + 1
  | .lit _ => 1
  | .nil => 1
  | .ptr d => uptoBulk d + 1
  | .slice elems spare => uptoBulkAll elems + uptoBulkAll spare + 1
  | .agg parts => uptoBulkAll parts + 1
  | .iface _ d => uptoBulk d + 1
  | .map entries => uptoBulkEntries entries + 1
  | .held _ => 1
def uptoBulkAll {H : Type} : List (DataW H) → Nat
  | [] => 0
  | d :: r => uptoBulk d + uptoBulkAll r
def uptoBulkEntries {H : Type} : List (Lit × DataW H) → Nat
  | [] => 0
  | x :: r => uptoBulkEntry x + uptoBulkEntries r
def uptoBulkEntry {H : Type} : Lit × DataW H → Nat
  | (.string bytes, d) => bytes.length + uptoBulk d + 1
  | (_, d) => uptoBulk d + 1
 end
def uptoSmall : (H : Type) → List (DataW H) → Bool := fun _ ds => decide (uptoBulkAll ds ≤ 1048576)
def OpenSpec.upto (s : _root_.Go.ChangeSpec) : _root_.Go.OpenSpec := { _root_.Go.OpenSpec.ofChange s with cond := some uptoSmall }

/-- 'hacklelaw05.LangEnds', WHERE WHAT IT READS IS OF BULK AT MOST 1048576: true; the input reads as it did. -/
def langEndsUptoRow : OpenClaim := { program := "ytdcjkdgjlljodaa", sum := "5d3b8f5265995e28bb647c14658b7c31a7e45e8568a5dccf894aad1713440c54", func := "hackle/hacklelaw05.LangEnds", spec := "langEnds", unfollowed := true, recurses := true, loops := true, apart := false, narrowed := true }
def LangEndsUptoSaid : Prop := langEndsUptoRow.holds Try.pinned (OpenSpec.upto langEndsSpec)

/-- 'hacklelaw05.LangTakes', WHERE WHAT IT READS IS OF BULK AT MOST 1048576: true; the input reads as it did. -/
def langTakesUptoRow : OpenClaim := { program := "ytdcjkdgjlljodaa", sum := "5d3b8f5265995e28bb647c14658b7c31a7e45e8568a5dccf894aad1713440c54", func := "hackle/hacklelaw05.LangTakes", spec := "langTakes", unfollowed := true, recurses := true, loops := true, apart := false, narrowed := true }
def LangTakesUptoSaid : Prop := langTakesUptoRow.holds Try.pinned (OpenSpec.upto langTakesSpec)

/-- 'hacklelaw05.LangBegins', WHERE WHAT IT READS IS OF BULK AT MOST 1048576: true; the input reads as it did. -/
def langBeginsUptoRow : OpenClaim := { program := "ytdcjkdgjlljodaa", sum := "5d3b8f5265995e28bb647c14658b7c31a7e45e8568a5dccf894aad1713440c54", func := "hackle/hacklelaw05.LangBegins", spec := "langBegins", unfollowed := true, recurses := true, loops := true, apart := false, narrowed := true }
def LangBeginsUptoSaid : Prop := langBeginsUptoRow.holds Try.pinned (OpenSpec.upto langBeginsSpec)

/-- 'hacklelaw05.LangJoins', WHERE WHAT IT READS IS OF BULK AT MOST 1048576: true; the input reads as it did. -/
def langJoinsUptoRow : OpenClaim := { program := "ytdcjkdgjlljodaa", sum := "5d3b8f5265995e28bb647c14658b7c31a7e45e8568a5dccf894aad1713440c54", func := "hackle/hacklelaw05.LangJoins", spec := "langJoins", unfollowed := true, recurses := true, loops := true, apart := false, narrowed := true }
def LangJoinsUptoSaid : Prop := langJoinsUptoRow.holds Try.pinned (OpenSpec.upto langJoinsSpec)

end Rows
end Go.Proofs.Ytdcjkdgjlljodaa
