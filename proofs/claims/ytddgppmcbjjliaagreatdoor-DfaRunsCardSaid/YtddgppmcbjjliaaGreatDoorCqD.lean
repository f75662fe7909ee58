/- A part. -/
import Derived.Test.YtddgppmcbjjliaaGreatDoorGnX
import Derived.Test.YtddgppmcbjjliaaGreatDoorDen7
namespace Abs
open Go
class DfaR (E : Env) where
 n_dfa_May : Nat
 n_class_May : Nat
 n_dfa_May_c1 : Nat
 n_dfa_within : Nat
 n_slices_ContainsFunc_int_int : Nat
 n_slices_IndexFunc_int_int : Nat
 n_hackleref09_May : Nat
 n_hackleref02_May : Nat
 n_dfa_Same : Nat
 n_slices_EqualFunc_int_int_int_int : Nat
 n_slices_Equal_int_int : Nat
 n_dfa_Dfa_step : Nat
 n_dfa_Step : Nat
 n_dfa_Run : Nat
 n_dfa_Tag : Nat
 n_dfa_Dfa_live : Nat
 n_dfa_Dfa_live_c1 : Nat
 n_dfa_Trim : Nat
 n_hackleref09_Step : Nat
 n_hackleref09_Run : Nat
 n_hackleref09_Tag : Nat
 n_hackleref09_Live : Nat
 n_hackleref09_Trim : Nat
 n_hackleref09_Same : Nat
 n_hackleref08_Ints : Nat
 n_hacklelaw09_Great : Nat
 n_hacklelaw09_Of : Nat
 n_hacklelaw09_Plain : Nat
 n_hacklelaw09_DfaRuns : Nat
 n_hacklelaw09_alive : Nat
 d_dfa_May : Def E n_dfa_May (Gn.dfa_May n_class_May n_dfa_May_c1 n_dfa_within n_slices_ContainsFunc_int_int) Gn.dfa_May_r 51
 d_dfa_May_c1 : Def E n_dfa_May_c1 (Gn.dfa_May_c1 n_dfa_within) Gn.dfa_May_c1_r 9
 d_dfa_within : Def E n_dfa_within Gn.dfa_within Gn.dfa_within_r 15
 d_slices_ContainsFunc_int_int : Def E n_slices_ContainsFunc_int_int (Gn.slices_ContainsFunc_int_int n_slices_IndexFunc_int_int) Gn.slices_ContainsFunc_int_int_r 9
 d_slices_IndexFunc_int_int : Def E n_slices_IndexFunc_int_int Gn.slices_IndexFunc_int_int Gn.slices_IndexFunc_int_int_r 19
 d_hackleref09_May : Def E n_hackleref09_May (Gn.hackleref09_May n_hackleref02_May) Gn.hackleref09_May_r 90
 d_dfa_Same : Def E n_dfa_Same (Gn.dfa_Same n_slices_EqualFunc_int_int_int_int n_slices_Equal_int_int) Gn.dfa_Same_r 24
 d_slices_Equal_int_int : Def E n_slices_Equal_int_int Gn.slices_Equal_int_int Gn.slices_Equal_int_int_r 26
 d_slices_EqualFunc_int_int_int_int : Def E n_slices_EqualFunc_int_int_int_int Gn.slices_EqualFunc_int_int_int_int Gn.slices_EqualFunc_int_int_int_int_r 32
 d_dfa_Dfa_step : Def E n_dfa_Dfa_step (Gn.dfa_Dfa_step n_dfa_within) Gn.dfa_Dfa_step_r 26
 d_dfa_Step : Def E n_dfa_Step (Gn.dfa_Step n_dfa_Dfa_step n_dfa_May) Gn.dfa_Step_r 14
 d_dfa_Run : Def E n_dfa_Run (Gn.dfa_Run n_dfa_Dfa_step n_dfa_May) Gn.dfa_Run_r 29
 d_dfa_Tag : Def E n_dfa_Tag (Gn.dfa_Tag n_dfa_Run) Gn.dfa_Tag_r 16
 d_dfa_Dfa_live : Def E n_dfa_Dfa_live (Gn.dfa_Dfa_live n_dfa_Dfa_live_c1 n_slices_ContainsFunc_int_int) Gn.dfa_Dfa_live_r 49
 d_dfa_Dfa_live_c1 : Def E n_dfa_Dfa_live_c1 Gn.dfa_Dfa_live_c1 Gn.dfa_Dfa_live_c1_r 12
 d_dfa_Trim : Def E n_dfa_Trim (Gn.dfa_Trim n_dfa_Dfa_live n_dfa_May) Gn.dfa_Trim_r 128
 d_hackleref09_Step : Def E n_hackleref09_Step Gn.hackleref09_Step Gn.hackleref09_Step_r 28
 d_hackleref09_Run : Def E n_hackleref09_Run (Gn.hackleref09_Run n_hackleref09_Step) Gn.hackleref09_Run_r 24
 d_hackleref09_Tag : Def E n_hackleref09_Tag (Gn.hackleref09_Tag n_hackleref09_Run) Gn.hackleref09_Tag_r 16
 d_hackleref09_Live : Def E n_hackleref09_Live Gn.hackleref09_Live Gn.hackleref09_Live_r 82
 d_hackleref09_Trim : Def E n_hackleref09_Trim (Gn.hackleref09_Trim n_hackleref09_Live) Gn.hackleref09_Trim_r 111
 d_hackleref09_Same : Def E n_hackleref09_Same (Gn.hackleref09_Same n_hackleref08_Ints) Gn.hackleref09_Same_r 47
 d_hackleref08_Ints : Def E n_hackleref08_Ints Gn.hackleref08_Ints Gn.hackleref08_Ints_r 26
 d_hacklelaw09_Great : Def E n_hacklelaw09_Great Gn.hacklelaw09_Great Gn.hacklelaw09_Great_r 40
 d_hacklelaw09_Of : Def E n_hacklelaw09_Of Gn.hacklelaw09_Of Gn.hacklelaw09_Of_r 15
 d_hacklelaw09_Plain : Def E n_hacklelaw09_Plain Gn.hacklelaw09_Plain Gn.hacklelaw09_Plain_r 21
 d_hacklelaw09_DfaRuns : Def E n_hacklelaw09_DfaRuns (Gn.hacklelaw09_DfaRuns n_dfa_May n_dfa_Run n_dfa_Same n_dfa_Step n_dfa_Tag n_dfa_Trim n_hacklelaw09_Great n_hacklelaw09_Of n_hacklelaw09_Plain n_hacklelaw09_alive n_hackleref09_May n_hackleref09_Run n_hackleref09_Same n_hackleref09_Step n_hackleref09_Tag n_hackleref09_Trim) Gn.hacklelaw09_DfaRuns_r 98
end Abs
