/- NfaRuns: its arguments. -/
import Derived.Test.YtbilmalnlkileaaTnE
import Derived.Test.YtbilmalnlkileaaDenRow2
set_option linter.all false

set_option linter.all false
namespace Go.Proofs.Ytbilmalnlkileaa
open Go Abs Go.ChangeShapes Go.WideShapes

set_option maxRecDepth 100000 in
theorem shNfa {es : List EV} (h : Shape Try.prog 5 27 es) : ∃ n : NF, True ∧ packT Try.prog 27 es = n.E :=
  shape_nfa (D := 1) (u0 := 52) Try.underlying27 rfl Try.underlying22 (by kernel_rfl) (by kernel_rfl) (by kernel_rfl) (by kernel_rfl) Try.underlying23 Try.underlying3 (by kernel_rfl) (by kernel_rfl) Try.underlying24 (by kernel_rfl) Try.underlying25 Try.underlying4 (by kernel_rfl) (by kernel_rfl) h
set_option maxRecDepth 100000 in
theorem shInts {es : List EV} (h : Shape Try.prog 5 23 es) : ∃ v : EV × List Int, IntsV v.1 v.2 ∧ packT Try.prog 23 es = v.1 := by
  obtain ⟨l, hl⟩ := shape_sl_ints (D := 3) Try.underlying23 Try.underlying3 (by kernel_rfl) h
  exact ⟨(_, l), hl, rfl⟩
theorem pl27 : plainT Try.prog 5 27 = true := by kernel_rfl
theorem pl23 : plainT Try.prog 5 23 = true := by kernel_rfl
end Go.Proofs.Ytbilmalnlkileaa
