/-
  NARROWER THAN 'FOR EVERY INPUT', by the rows' own cells (each row's printed sentence says how): LangEnds: loops.
  DERIVED. THE GIVEN ROWS OF THIS SEAT. 2 by the template 'for every input the law returns true; each argument reads behind the call as it read before'; 0 by the template 'total and deterministic' (their statements: YtaifcggapmdhdaaTotals.lean).
  GIVEN WITH THE SEED: the statements are not yours to turn. If you find one false, say at which input.
  Laid BY PROGRAM, IN A SANDBOX (cutbox-rows.mjs): the forced cells as the released guide's own fill.sh prints them over the translation c4363a0aa8e2768d… (all of the seat's roots in one cut). By AI agents, Wed Nov 11 2026. No macro, syntax, notation, axiom, sorry.
-/
import Derived.Test.YtaifcggapmdhdaaChecked
import GoSem.Claim
import GoSem.ClaimJoined
import GoSem.ClaimMapViews
import Derived.JoinedTies
import Derived.KernelRfl
namespace Go.Proofs.Ytaifcggapmdhdaa
/- THE CELL 'sum', in the pinned program and in every row, IS THE sha256 OF THE DUMP (.gsa) THAT YtaifcggapmdhdaaProg.lean LOADS. Nothing in Lean hashes anything: it is a label: what it is worth is what the hold of that sum in a sandbox is worth. -/
noncomputable def Try.pinned : Pinned := { name := "ytaifcggapmdhdaa", sum := "c4363a0aa8e2768db20497f1111bfa86e6e13502b909f5e1b90379c579e0e642", checked := Try.checked }
namespace Rows
def none {H : Type} : Left H := { results := [], args := [] }

/-- 'hacklelaw05.LangEnds': WHATEVER THE INPUT: true; the input reads as it did. -/
def langEndsSpec : ChangeSpec := { name := "langEnds", fn := fun _ => fun
  | [d1, d2, d3] => { results := [.lit (.bool true)], args := [d1, d2, d3] }
  | _ => none }
def langEndsRow : OpenClaim := { program := "ytaifcggapmdhdaa", sum := "c4363a0aa8e2768db20497f1111bfa86e6e13502b909f5e1b90379c579e0e642", func := "hackle/hacklelaw05.LangEnds", spec := "langEnds", unfollowed := true, recurses := true, loops := true, apart := false }
def LangEndsSaid : Prop := langEndsRow.holds Try.pinned (OpenSpec.ofChange langEndsSpec)

/-- ITS FALSE NEIGHBOUR: 'it returns false'. Refute it at one input. -/
def langEndsWrong : ChangeSpec := { name := "langEnds", fn := fun _ => fun
  | [d1, d2, d3] => { results := [.lit (.bool false)], args := [d1, d2, d3] }
  | _ => none }
def LangEndsWrongFalsely : Prop := langEndsRow.holds Try.pinned (OpenSpec.ofChange langEndsWrong)

/-- 'hacklelaw06.RxparseTakes': WHATEVER THE INPUT: true; the input reads as it did. -/
def rxparseTakesSpec : ChangeSpec := { name := "rxparseTakes", fn := fun _ => fun
  | [d] => { results := [.lit (.bool true)], args := [d] }
  | _ => none }
def rxparseTakesRow : OpenClaim := { program := "ytaifcggapmdhdaa", sum := "c4363a0aa8e2768db20497f1111bfa86e6e13502b909f5e1b90379c579e0e642", func := "hackle/hacklelaw06.RxparseTakes", spec := "rxparseTakes", inPlace := ["internal/bytealg.IndexByteString"], unfollowed := true, recurses := true, apart := false }
def RxparseTakesSaid : Prop := rxparseTakesRow.holds Try.pinned (OpenSpec.ofChange rxparseTakesSpec)

/-- ITS FALSE NEIGHBOUR: 'it returns false'. Refute it at one input. -/
def rxparseTakesWrong : ChangeSpec := { name := "rxparseTakes", fn := fun _ => fun
  | [d] => { results := [.lit (.bool false)], args := [d] }
  | _ => none }
def RxparseTakesWrongFalsely : Prop := rxparseTakesRow.holds Try.pinned (OpenSpec.ofChange rxparseTakesWrong)

/- THE SECOND FORM. 'bulk': how many values and letters a reading holds, each counted each time it is reached (what is shared counts as often as it is met; a slice's spare places count too). A statement '..UptoSaid' is the law's where the arguments, and the package variables that the reading takes, are together of bulk at most 1048576: NARROWER than '..Said'. Prove '..Said' where nothing that the law and all that it calls make is longer than what came in: it says more and counts as full. Else prove '..UptoSaid'. A law counts once. -/
mutual
def uptoBulk {H : Type} : DataW H → Nat
  | .lit (.string bytes) => bytes.length + 1
  | .lit _ => 1
  | .nil => 1
  | .ptr d => uptoBulk d + 1
  | .slice elems spare => uptoBulkAll elems + uptoBulkAll spare + 1
  | .agg parts => uptoBulkAll parts + 1
  | .iface _ d => uptoBulk d + 1
  | .map entries => uptoBulkEntries entries + 1
  | .held _ => 1
def uptoBulkAll {H : Type} : List (DataW H) → Nat
  | [] => 0
  | d :: r => uptoBulk d + uptoBulkAll r
def uptoBulkEntries {H : Type} : List (Lit × DataW H) → Nat
  | [] => 0
  | x :: r => uptoBulkEntry x + uptoBulkEntries r
def uptoBulkEntry {H : Type} : Lit × DataW H → Nat
  | (.string bytes, d) => bytes.length + uptoBulk d + 1
  | (_, d) => uptoBulk d + 1
 end
def uptoSmall : (H : Type) → List (DataW H) → Bool := fun _ ds => decide (uptoBulkAll ds ≤ 1048576)
def OpenSpec.upto (s : _root_.Go.ChangeSpec) : _root_.Go.OpenSpec := { _root_.Go.OpenSpec.ofChange s with cond := some uptoSmall }

/-- 'hacklelaw05.LangEnds', WHERE WHAT IT READS IS OF BULK AT MOST 1048576: true; the input reads as it did. -/
def langEndsUptoRow : OpenClaim := { program := "ytaifcggapmdhdaa", sum := "c4363a0aa8e2768db20497f1111bfa86e6e13502b909f5e1b90379c579e0e642", func := "hackle/hacklelaw05.LangEnds", spec := "langEnds", unfollowed := true, recurses := true, loops := true, apart := false, narrowed := true }
def LangEndsUptoSaid : Prop := langEndsUptoRow.holds Try.pinned (OpenSpec.upto langEndsSpec)

/-- 'hacklelaw06.RxparseTakes', WHERE WHAT IT READS IS OF BULK AT MOST 1048576: true; the input reads as it did. -/
def rxparseTakesUptoRow : OpenClaim := { program := "ytaifcggapmdhdaa", sum := "c4363a0aa8e2768db20497f1111bfa86e6e13502b909f5e1b90379c579e0e642", func := "hackle/hacklelaw06.RxparseTakes", spec := "rxparseTakes", inPlace := ["internal/bytealg.IndexByteString"], unfollowed := true, recurses := true, apart := false, narrowed := true }
def RxparseTakesUptoSaid : Prop := rxparseTakesUptoRow.holds Try.pinned (OpenSpec.upto rxparseTakesSpec)

end Rows
end Go.Proofs.Ytaifcggapmdhdaa
