/- The functions that are spoken of: their numbers, and what they are; printed by a program of this work (wip/tools/gen2.py). -/
import Derived.Test.YtbilmalnlkileaaGnO
import Derived.Test.YtbilmalnlkileaaGnS
import Derived.Test.YtbilmalnlkileaaGnN
import Derived.Test.YtbilmalnlkileaaDen7
set_option linter.all false

namespace Abs
open Go
class NfaR (E : Env) where
  n_slices_Clone_int_int : Nat
  n_slices_DeleteFunc_int_int : Nat
  n_slices_IndexFunc_int_int : Nat
  n_nfa_Run : Nat
  n_nfa_May : Nat
  n_nfa_Nfa_goOn : Nat
  n_nfa_Nfa_tag : Nat
  n_nfa_Nfa_with : Nat
  n_nfa_Begin : Nat
  n_nfa_Go : Nat
  n_nfa_Nfa_rising : Nat
  n_nfa_Tag : Nat
  n_hackleref08_May : Nat
  n_hackleref08_rising : Nat
  n_hackleref08_Step : Nat
  n_hackleref01_Has : Nat
  n_hackleref08_List : Nat
  n_hackleref08_Tag : Nat
  n_hackleref08_Ints : Nat
  n_hackleref08_Rising : Nat
  n_nfa_Nfa_with_c1 : Nat
  n_octs_Has : Nat
  n_hacklelaw08_Of : Nat
  n_hacklelaw08_NfaRuns : Nat
  n_hacklelaw08_alive : Nat
  d_slices_Clone_int_int : DefK E n_slices_Clone_int_int Gn.slices_Clone_int_int Gn.slices_Clone_int_int_r 8
  d_slices_DeleteFunc_int_int : Def E n_slices_DeleteFunc_int_int (Gn.slices_DeleteFunc_int_int n_slices_IndexFunc_int_int) Gn.slices_DeleteFunc_int_int_r 42
  d_slices_IndexFunc_int_int : Def E n_slices_IndexFunc_int_int Gn.slices_IndexFunc_int_int Gn.slices_IndexFunc_int_int_r 19
  d_nfa_Run : Def E n_nfa_Run (Gn.nfa_Run n_nfa_May n_nfa_Nfa_goOn n_nfa_Nfa_tag n_nfa_Nfa_with) Gn.nfa_Run_r 37
  d_nfa_Begin : Def E n_nfa_Begin (Gn.nfa_Begin n_nfa_May n_nfa_Nfa_with) Gn.nfa_Begin_r 13
  d_nfa_Go : Def E n_nfa_Go (Gn.nfa_Go n_nfa_May n_nfa_Nfa_goOn n_nfa_Nfa_rising) Gn.nfa_Go_r 20
  d_nfa_Tag : Def E n_nfa_Tag (Gn.nfa_Tag n_nfa_May n_nfa_Nfa_rising n_nfa_Nfa_tag) Gn.nfa_Tag_r 17
  d_nfa_May : Def E n_nfa_May (Gn.nfa_May n_nfa_Nfa_rising) Gn.nfa_May_r 77
  d_hackleref08_May : Def E n_hackleref08_May (Gn.hackleref08_May n_hackleref08_rising) Gn.hackleref08_May_r 77
  d_hackleref08_Step : Def E n_hackleref08_Step (Gn.hackleref08_Step n_hackleref01_Has n_hackleref08_List) Gn.hackleref08_Step_r 90
  d_hackleref08_Tag : Def E n_hackleref08_Tag Gn.hackleref08_Tag Gn.hackleref08_Tag_r 38
  d_hackleref08_List : Def E n_hackleref08_List Gn.hackleref08_List Gn.hackleref08_List_r 20
  d_hackleref08_Ints : Def E n_hackleref08_Ints Gn.hackleref08_Ints Gn.hackleref08_Ints_r 26
  d_hackleref08_Rising : Def E n_hackleref08_Rising (Gn.hackleref08_Rising n_hackleref08_rising) Gn.hackleref08_Rising_r 8
  d_hackleref08_rising : Def E n_hackleref08_rising Gn.hackleref08_rising Gn.hackleref08_rising_r 33
  d_nfa_Nfa_rising : Def E n_nfa_Nfa_rising Gn.nfa_Nfa_rising Gn.nfa_Nfa_rising_r 37
  d_nfa_Nfa_with : Def E n_nfa_Nfa_with (Gn.nfa_Nfa_with n_nfa_Nfa_with_c1 n_slices_Clone_int_int n_slices_DeleteFunc_int_int) Gn.nfa_Nfa_with_r 11
  d_nfa_Nfa_with_c1 : Def E n_nfa_Nfa_with_c1 (Gn.nfa_Nfa_with_c1 n_octs_Has) Gn.nfa_Nfa_with_c1_r 13
  d_nfa_Nfa_goOn : Def E n_nfa_Nfa_goOn (Gn.nfa_Nfa_goOn n_nfa_Nfa_with) Gn.nfa_Nfa_goOn_r 57
  d_nfa_Nfa_tag : Def E n_nfa_Nfa_tag Gn.nfa_Nfa_tag Gn.nfa_Nfa_tag_r 39
  d_hacklelaw08_Of : Def E n_hacklelaw08_Of Gn.hacklelaw08_Of Gn.hacklelaw08_Of_r 16
  d_hacklelaw08_NfaRuns : Def E n_hacklelaw08_NfaRuns (Gn.hacklelaw08_NfaRuns n_hacklelaw08_Of n_hacklelaw08_alive n_hackleref08_Ints n_hackleref08_May n_hackleref08_Rising n_hackleref08_Step n_hackleref08_Tag n_nfa_Begin n_nfa_Go n_nfa_May n_nfa_Run n_nfa_Tag) Gn.hacklelaw08_NfaRuns_r 183
end Abs
