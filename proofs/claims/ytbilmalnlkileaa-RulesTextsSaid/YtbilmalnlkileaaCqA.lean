/- The functions that are spoken of: their numbers, and what they are; printed by a program of this work (wip/tools/gen2.py). -/
import Derived.Test.YtbilmalnlkileaaGnR
import Derived.Test.YtbilmalnlkileaaDen7
set_option linter.all false

namespace Abs
open Go
class RefQ (E : Env) where
  n_hackleref13_Text : Nat
  n_hackleref13_Reader_Quoted : Nat
  n_hackleref03_Digit : Nat
  n_hackleref13_Reader_Fail : Nat
  n_hackleref13_Reader_byte : Nat
  n_hackleref13_Reader_must : Nat
  d_hackleref13_Text : Def E n_hackleref13_Text (Gn.hackleref13_Text n_hackleref13_Reader_Quoted) Gn.hackleref13_Text_r 30
  d_hackleref13_Reader_Quoted : Def E n_hackleref13_Reader_Quoted (Gn.hackleref13_Reader_Quoted n_hackleref03_Digit n_hackleref13_Reader_Fail n_hackleref13_Reader_byte n_hackleref13_Reader_must) Gn.hackleref13_Reader_Quoted_r 118
  d_hackleref13_Reader_must : Def E n_hackleref13_Reader_must (Gn.hackleref13_Reader_must n_hackleref13_Reader_Fail n_hackleref13_Reader_byte) Gn.hackleref13_Reader_must_r 37
  d_hackleref13_Reader_byte : Def E n_hackleref13_Reader_byte (Gn.hackleref13_Reader_byte n_hackleref13_Reader_Fail) Gn.hackleref13_Reader_byte_r 69
  d_hackleref13_Reader_Fail : Def E n_hackleref13_Reader_Fail Gn.hackleref13_Reader_Fail Gn.hackleref13_Reader_Fail_r 19
  d_hackleref03_Digit : Def E n_hackleref03_Digit Gn.hackleref03_Digit Gn.hackleref03_Digit_r 45
end Abs
