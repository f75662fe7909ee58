/- More rules: nil interfaces, assertions, bytes as strings. -/
import Derived.Test.YtbilmalnlkileaaDen7
set_option linter.all false

namespace Abs
open Go
set_option linter.all false
theorem evNilC_no {c : Bool} {t : TypeId} {v : EV} : evNilC c .ifc (.iface t v) .nilif = some false := rfl
theorem evNilC_no' {c : Bool} {t : TypeId} {v : EV} : evNilC c .ifc .nilif (.iface t v) = some false := rfl
theorem evNilC_yes {x y : EOpd} (h : (x.isC || y.isC) = true := by rfl) : evNilC (x.isC || y.isC) .ifc .nilif .nilif = some true := by rw [h]; rfl
theorem evNilC_lit {x : EOpd} : evNilC (x.isC || (EOpd.c .nilif).isC) .ifc .nilif .nilif = some true := by rw [show (x.isC || (EOpd.c .nilif).isC) = true from by cases x.isC <;> rfl]; rfl
theorem evNilC_sl {c : Bool} {x y : EV} : evNilC c .sl x y = evNil .sl x y := rfl
theorem evNilC_pt {c : Bool} {x y : EV} : evNilC c .pt x y = evNil .pt x y := rfl
theorem evNilC_mp {c : Bool} {x y : EV} : evNilC c .mp x y = evNil .mp x y := rfl
theorem evNilC_fn {c : Bool} {x y : EV} : evNilC c .fn x y = evNil .fn x y := rfl
theorem evTas_yes {t : TypeId} {z v : EV} : evTas t true z (.iface t v) = some (.tup [v, .bool true]) := by simp [evTas]
theorem evTas_get {t : TypeId} {z v : EV} : evTas t false z (.iface t v) = some v := by simp [evTas]
theorem evTas_nil {t : TypeId} {z : EV} : evTas t true z .nilif = some (.tup [z, .bool false]) := rfl
theorem evToStr_nil {H : Heap} : evToStr .nilsl H = some (.str []) := rfl
theorem evToStr_zsl {H : Heap} : evToStr .zsl H = some (.str []) := rfl
theorem evCap_nil : evCap .nilsl = some 0 := rfl
theorem evCap_zsl : evCap .zsl = some 0 := rfl
theorem evLen_zsl : evLen false .zsl = some 0 := rfl
theorem map_some_go {α β : Type} {f : α → β} {x : α} : Option.map f (some x) = some (f x) := rfl
attribute [go_sem] evNilC_no evNilC_no' evNilC_lit evNilC_sl evNilC_pt evNilC_mp evNilC_fn evTas_yes evTas_get evTas_nil evToStr_nil evToStr_zsl evCap_nil evCap_zsl evLen_zsl map_some_go
end Abs
