/- Contracts for the rows OctsTwo and OctsParts. -/
import Derived.Test.YtcjnpmaljfkpgaaDoorS
import Derived.Test.YtcjnpmaljfkpgaaDoorOctsK
namespace Go.Proofs.YtcjnpmaljfkpgaaDoor
open Go Abs
theorem refHasOk : HasOk Tryd.prog gam 26 .i64 := refHas_ok b26
theorem hasOk : HasOk Tryd.prog gam 25 .u8 := has_ok b25 b21 b12 b46 b48
theorem anyOk : AnyOk Tryd.prog gam 22 := fun x y H hx hy => any_ok b22 b46 b49 x y hx hy H
theorem bothOk : BothOk Tryd.prog gam 21 := fun x y H hx hy => both_ok b21 b46 b48 x y hx hy H
theorem lessOk : LessOk Tryd.prog gam 20 := less_ok b20 b46 b47
theorem notOk : NotOk Tryd.prog gam 23 := not_ok b23 lessOk b14
theorem twoOk : TwoOk Tryd.prog gam 24 := fun k x y H hk hx hy => two_ok b24 (fun x hx H => marks_ok b50 refHasOk x hx H) b13 k hk x y hx hy H
theorem two_calls (x y : Nat → Nat) (c : Nat) (hx : Words x) (hy : Words y) (hc : c < 256) : CallsA Tryd.prog gam 6 [setE x, setE y, .int .u8 c] [] fun er H' => er = .ret (.bool true) ∧ H' = [] :=
  octsTwo_ok b6 alive refHasOk (fun H => refRange_ok2 b15 b13 0 255 (by omega) (by omega) H) twoOk anyOk bothOk hasOk lessOk notOk x y c hx hy hc []
theorem parts_calls (x y : Nat → Nat) (hx : Words x) (hy : Words y) : CallsA Tryd.prog gam 5 [setE x, setE y] [] fun er H' => er = .ret (.bool true) ∧ H' = [] :=
  octsParts_ok b5 alive anyOk bothOk countOk lessOk notOk x y hx hy []
end Go.Proofs.YtcjnpmaljfkpgaaDoor
