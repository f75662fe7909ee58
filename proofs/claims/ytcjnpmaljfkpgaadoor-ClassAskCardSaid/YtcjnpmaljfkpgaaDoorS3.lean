/- Contracts for the row ClassAsk. -/
import Derived.Test.YtcjnpmaljfkpgaaDoorS
import Derived.Test.YtcjnpmaljfkpgaaDoorClassO
import Derived.Test.YtcjnpmaljfkpgaaDoorClassF
namespace Go.Proofs.YtcjnpmaljfkpgaaDoor
open Go Abs
theorem refHasOk : HasOk Tryd.prog gam 26 .i64 := refHas_ok b26
theorem hasOk : HasOk Tryd.prog gam 25 .u8 := has_ok b25 b21 b12 b46 b48
theorem mayRaw (of : Nat → Nat) (n : Int) (H : Heap) (hof : ∀ b, b < 256 → of b < 256) : CallsA Tryd.prog gam 30 [classesE of n] H fun er H' => er = .ret (.bool (classMay of n)) ∧ H' = H := may_ok b30 b53 b52 of n hof H
theorem mayOk : MayOk Tryd.prog gam 30 := fun of n H hof => by
  have := mayRaw of n H hof
  rwa [mayC_eq] at this
theorem refMayOk : MayOk Tryd.prog gam 31 := fun of n H hof => refMay_ok b31 of n hof H
theorem membOk : MembOk Tryd.prog gam 28 := memb_ok b28 mayOk (fun x y H hx hy => any_ok b22 b46 b49 x y hx hy H) b12
theorem wholeOk (of x : Nat → Nat) (n : Int) (H : Heap) (hof : ∀ b, b < 256 → of b < 256) (hx : Words x) : CallsA Tryd.prog gam 33 [classesE of n, setE x] H fun er H' => er = .ret (.bool (wholeC of x n)) ∧ H' = H := by
  have := whole_ok b33 mayRaw hasOk of x n hof hx H
  rwa [wholeC_eq of x n hof] at this
theorem alive2 (H : Heap) : CallsA Tryd.prog gam 27 [] H fun er H' => er = .ret (.bool true) ∧ H' = H := alive02_ok b27 b15 b13 b51 b59 b52 hasOk H
theorem ask_calls (of : Nat → Nat) (n k : Int) (x : Nat → Nat) (hof : ∀ b, b < 256 → of b < 256) (hx : Words x) : CallsA Tryd.prog gam 7 [classesE of n, .int .i64 k, setE x] [] fun er H' => er = .ret (.bool true) ∧ H' = [] :=
  classAsk_ok b7 (fun of n k H hof => first_ok b35 membOk nextOk of n k hof H) mayOk membOk wholeOk (fun of n H => of02_ok b29 of n H) alive2 refHasOk refMayOk (fun of n k H hof => refMemb_ok b32 b13 refMayOk of n k hof H)
    (fun of x n H hof hx => refWhole_ok b34 refHasOk b31 of x n hof hx H) of n k x hof hx []
end Go.Proofs.YtcjnpmaljfkpgaaDoor
