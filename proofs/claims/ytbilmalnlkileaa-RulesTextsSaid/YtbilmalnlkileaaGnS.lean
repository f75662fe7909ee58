/- Resolved code of functions, the numbers of callees left open; printed by a program of this work (wip/tools/gen2.py). -/
import Derived.Test.YtbilmalnlkileaaDen4
set_option linter.all false

namespace Abs.Gn
open Go
/-- internal/stringslite.HasPrefix -/
def internal_stringslite_HasPrefix  : EC := (EC.seq (EC.ops [{ dst := some 4, op := EOp.mov (EOpd.c (EV.bool false)) }]) (EC.seq (EC.ops [{ dst := some 5, op := EOp.mov (EOpd.t 0) }, { dst := some 6, op := EOp.len true (EOpd.t 5) }, { dst := some 7, op := EOp.mov (EOpd.t 1) }, { dst := some 8, op := EOp.len true (EOpd.t 7) }, { dst := some 9, op := EOp.bin BinOp.geq (EOpd.t 6) (EOpd.t 8) }, { dst := some 10, op := EOp.mov (EOpd.t 9) }, { dst := some 11, op := EOp.mov (EOpd.t 0), guard := some (10, true) }, { dst := some 12, op := EOp.mov (EOpd.t 1), guard := some (10, true) }, { dst := some 13, op := EOp.len true (EOpd.t 12), guard := some (10, true) }, { dst := some 14, op := EOp.slStr (EOpd.t 11) none (some (EOpd.t 13)), guard := some (10, true) }, { dst := some 15, op := EOp.mov (EOpd.t 1), guard := some (10, true) }, { dst := some 16, op := EOp.bin BinOp.eql (EOpd.t 14) (EOpd.t 15), guard := some (10, true) }, { dst := some 17, op := EOp.pick (EOpd.t 10) (EOpd.t 16) (EOpd.c (EV.bool false)) }, { dst := some 4, op := EOp.mov (EOpd.t 17) }]) EC.ret))
def internal_stringslite_HasPrefix_r : List ERes := [ERes.tmp 4]
/-- internal/stringslite.IndexByte -/
def internal_stringslite_IndexByte  : EC := (EC.seq (EC.ops [{ dst := some 4, op := EOp.mov (EOpd.c (EV.int IntKind.i64 0)) }]) (EC.seq (EC.ops [{ dst := some 5, op := EOp.mov (EOpd.t 0) }, { dst := some 6, op := EOp.mov (EOpd.t 1) }, { dst := some 7, op := EOp.idxB (EOpd.t 5) (EOpd.t 6) }, { dst := some 4, op := EOp.mov (EOpd.t 7) }]) EC.ret))
def internal_stringslite_IndexByte_r : List ERes := [ERes.tmp 4]
/-- strings.HasPrefix -/
def strings_HasPrefix (f_internal_stringslite_HasPrefix : Nat) : EC := (EC.seq (EC.ops [{ dst := some 4, op := EOp.mov (EOpd.c (EV.bool false)) }]) (EC.seq (EC.ops [{ dst := some 5, op := EOp.mov (EOpd.t 0) }, { dst := some 6, op := EOp.mov (EOpd.t 1) }, { dst := some 7, op := EOp.call (EOpd.c (EV.func (Fn.func f_internal_stringslite_HasPrefix) [] [])) [EOpd.t 5, EOpd.t 6] }, { dst := some 4, op := EOp.mov (EOpd.t 7) }]) EC.ret))
def strings_HasPrefix_r : List ERes := [ERes.tmp 4]
/-- strings.IndexByte -/
def strings_IndexByte (f_internal_stringslite_IndexByte : Nat) : EC := (EC.seq (EC.ops [{ dst := some 4, op := EOp.mov (EOpd.c (EV.int IntKind.i64 0)) }]) (EC.seq (EC.ops [{ dst := some 5, op := EOp.mov (EOpd.t 0) }, { dst := some 6, op := EOp.mov (EOpd.t 1) }, { dst := some 7, op := EOp.call (EOpd.c (EV.func (Fn.func f_internal_stringslite_IndexByte) [] [])) [EOpd.t 5, EOpd.t 6] }, { dst := some 4, op := EOp.mov (EOpd.t 7) }]) EC.ret))
def strings_IndexByte_r : List ERes := [ERes.tmp 4]
end Abs.Gn
