/- The functions that are spoken of: their numbers, and what they are; printed by a program of this work (wip/tools/gen2.py). -/
import Derived.Test.YtbilmalnlkileaaCqA
import Derived.Test.YtbilmalnlkileaaGnS
set_option linter.all false

namespace Abs
open Go
class RulQ (E : Env) extends RefQ E where
  n_rules_Text : Nat
  n_rules_quoted : Nat
  n_rules_caught : Nat
  n_rules_fail : Nat
  n_rules_reader_escape : Nat
  n_rules_reader_must : Nat
  n_rules_reader_next : Nat
  n_rules_reader_take : Nat
  t_rules_fault_rules_fault : Nat
  n_strings_HasPrefix : Nat
  n_digits_Digit : Nat
  n_strings_IndexByte : Nat
  n_digits_based : Nat
  n_digits_value : Nat
  n_internal_stringslite_HasPrefix : Nat
  n_internal_stringslite_IndexByte : Nat
  n_hacklelaw13_RulesTexts : Nat
  n_hacklelaw13_alive : Nat
  d_rules_Text : Def E n_rules_Text (Gn.rules_Text n_rules_quoted) Gn.rules_Text_r 20
  d_rules_quoted : DefE E n_rules_quoted (Gn.rules_quoted n_rules_caught n_rules_fail n_rules_reader_escape n_rules_reader_must n_rules_reader_next n_rules_reader_take) Gn.rules_quoted_r 57
  d_rules_caught : E.D n_rules_caught = some ⟨7, 4, (Gn.rules_caught t_rules_fault_rules_fault), 26⟩
  d_rules_reader_next : Def E n_rules_reader_next (Gn.rules_reader_next n_rules_fail) Gn.rules_reader_next_r 61
  d_rules_reader_must : Def E n_rules_reader_must (Gn.rules_reader_must n_rules_fail n_rules_reader_next) Gn.rules_reader_must_r 29
  d_rules_reader_take : Def E n_rules_reader_take (Gn.rules_reader_take n_strings_HasPrefix) Gn.rules_reader_take_r 25
  d_rules_reader_escape : Def E n_rules_reader_escape (Gn.rules_reader_escape n_digits_Digit n_rules_fail n_rules_reader_next n_strings_IndexByte) Gn.rules_reader_escape_r 58
  d_rules_fail : Def E n_rules_fail (Gn.rules_fail t_rules_fault_rules_fault) Gn.rules_fail_r 8
  d_digits_Digit : Def E n_digits_Digit (Gn.digits_Digit n_digits_based n_digits_value) Gn.digits_Digit_r 16
  d_digits_value : Def E n_digits_value Gn.digits_value Gn.digits_value_r 35
  d_digits_based : Def E n_digits_based Gn.digits_based Gn.digits_based_r 9
  d_strings_HasPrefix : Def E n_strings_HasPrefix (Gn.strings_HasPrefix n_internal_stringslite_HasPrefix) Gn.strings_HasPrefix_r 8
  d_strings_IndexByte : Def E n_strings_IndexByte (Gn.strings_IndexByte n_internal_stringslite_IndexByte) Gn.strings_IndexByte_r 8
  d_internal_stringslite_HasPrefix : Def E n_internal_stringslite_HasPrefix Gn.internal_stringslite_HasPrefix Gn.internal_stringslite_HasPrefix_r 18
  d_internal_stringslite_IndexByte : Def E n_internal_stringslite_IndexByte Gn.internal_stringslite_IndexByte Gn.internal_stringslite_IndexByte_r 8
  d_hacklelaw13_RulesTexts : Def E n_hacklelaw13_RulesTexts (Gn.hacklelaw13_RulesTexts n_hacklelaw13_alive n_hackleref13_Text n_rules_Text) Gn.hacklelaw13_RulesTexts_r 39
end Abs
