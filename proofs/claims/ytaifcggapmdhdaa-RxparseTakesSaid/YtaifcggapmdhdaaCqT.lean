/- A part. -/
import Derived.Test.YtaifcggapmdhdaaGnX
import Derived.Test.YtaifcggapmdhdaaGnO
namespace Abs
open Go
class TreR (E : Env) where
 n_rx_walk_node : Nat
 n_rx_walked : Nat
 n_rx_bareOf : Nat
 n_rx_node : Nat
 n_rx_nodes : Nat
 n_rx_nodes_c1 : Nat
 n_slices_ContainsFunc_api_Re_api_Re : Nat
 n_rx_May : Nat
 n_slices_IndexFunc_api_Re_api_Re : Nat
 d_rx_walk_node : Def E n_rx_walk_node (Gn.rx_walk_node n_rx_walk_node) Gn.rx_walk_node_r 39
 d_rx_walked : Def E n_rx_walked (Gn.rx_walked n_rx_walk_node) Gn.rx_walked_r 10
 d_rx_bareOf : Def E n_rx_bareOf Gn.rx_bareOf Gn.rx_bareOf_r 15
 d_rx_node : Def E n_rx_node (Gn.rx_node n_rx_bareOf) Gn.rx_node_r 71
 d_rx_nodes : Def E n_rx_nodes (Gn.rx_nodes n_rx_node n_rx_nodes_c1 n_slices_ContainsFunc_api_Re_api_Re) Gn.rx_nodes_r 11
 d_rx_nodes_c1 : Def E n_rx_nodes_c1 (Gn.rx_nodes_c1 n_rx_nodes) Gn.rx_nodes_c1_r 6
 d_rx_May : Def E n_rx_May (Gn.rx_May n_rx_nodes n_rx_walked) Gn.rx_May_r 18
 d_slices_ContainsFunc_api_Re_api_Re : Def E n_slices_ContainsFunc_api_Re_api_Re (Gn.slices_ContainsFunc_api_Re_api_Re n_slices_IndexFunc_api_Re_api_Re) Gn.slices_ContainsFunc_api_Re_api_Re_r 9
 d_slices_IndexFunc_api_Re_api_Re : Def E n_slices_IndexFunc_api_Re_api_Re Gn.slices_IndexFunc_api_Re_api_Re Gn.slices_IndexFunc_api_Re_api_Re_r 19
class EndR (E : Env) where
 n_hackleref04_Ends : Nat
 n_hackleref01_Has : Nat
 n_hackleref04_At : Nat
 n_hackleref04_Takes : Nat
 d_hackleref04_Ends : Def E n_hackleref04_Ends (Gn.hackleref04_Ends n_hackleref01_Has n_hackleref04_Ends) Gn.hackleref04_Ends_r 159
 d_hackleref04_At : Def E n_hackleref04_At Gn.hackleref04_At Gn.hackleref04_At_r 14
 d_hackleref04_Takes : Def E n_hackleref04_Takes (Gn.hackleref04_Takes n_hackleref04_At n_hackleref04_Ends) Gn.hackleref04_Takes_r 14
class ParR (E : Env) extends TreR E, EndR E where
 n_rxparse_parser_more : Nat
 n_rxparse_fail : Nat
 n_rxparse_parser_is : Nat
 n_rxparse_parser_take : Nat
 n_rxparse_parser_must : Nat
 n_rxparse_parser_digit : Nat
 n_strings_IndexByte : Nat
 n_rxparse_parser_escape : Nat
 n_rxparse_kindOf : Nat
 n_internal_stringslite_IndexByte : Nat
 n_rxparse_parser_atom : Nat
 n_octs_Of : Nat
 n_octs_Range : Nat
 n_rx_Byte : Nat
 n_rxparse_parser_class : Nat
 n_rxparse_parser_fragment : Nat
 n_rxparse_parser_group : Nat
 n_rxparse_parser_item : Nat
 n_rx_Rep : Nat
 n_rxparse_parser_counts : Nat
 n_rxparse_parser_row : Nat
 n_rx_Cat : Nat
 n_rxparse_parser_alternatives : Nat
 n_rx_Alt : Nat
 n_octs_Any : Nat
 n_octs_Not : Nat
 n_rxparse_parser_member : Nat
 n_rxparse_Parse : Nat
 n_rx_Deep : Nat
 n_rx_Nodes : Nat
 n_rxparse_Parse_c1 : Nat
 t_rxparse_fault_rxparse_fault : Nat
 n_rx_several : Nat
 n_rx_copied : Nat
 n_hacklelaw06_RxparseTakes : Nat
 n_hacklelaw06_alive : Nat
 d_rxparse_parser_more : Def E n_rxparse_parser_more (Gn.rxparse_parser_more n_rxparse_fail) Gn.rxparse_parser_more_r 52
 d_rxparse_parser_is : Def E n_rxparse_parser_is (Gn.rxparse_parser_is n_rxparse_parser_more) Gn.rxparse_parser_is_r 20
 d_rxparse_parser_take : Def E n_rxparse_parser_take (Gn.rxparse_parser_take n_rxparse_parser_is) Gn.rxparse_parser_take_r 15
 d_rxparse_parser_must : Def E n_rxparse_parser_must (Gn.rxparse_parser_must n_rxparse_fail n_rxparse_parser_take) Gn.rxparse_parser_must_r 13
 d_rxparse_parser_digit : Def E n_rxparse_parser_digit (Gn.rxparse_parser_digit n_rxparse_fail n_rxparse_parser_more n_strings_IndexByte) Gn.rxparse_parser_digit_r 42
 d_rxparse_parser_escape : Def E n_rxparse_parser_escape (Gn.rxparse_parser_escape n_rxparse_fail n_rxparse_kindOf n_rxparse_parser_digit n_rxparse_parser_more n_rxparse_parser_must) Gn.rxparse_parser_escape_r 53
 d_rxparse_kindOf : Def E n_rxparse_kindOf (Gn.rxparse_kindOf n_strings_IndexByte) Gn.rxparse_kindOf_r 17
 d_strings_IndexByte : Def E n_strings_IndexByte (Gn.strings_IndexByte n_internal_stringslite_IndexByte) Gn.strings_IndexByte_r 8
 d_internal_stringslite_IndexByte : Def E n_internal_stringslite_IndexByte Gn.internal_stringslite_IndexByte Gn.internal_stringslite_IndexByte_r 8
 d_rxparse_parser_atom : Def E n_rxparse_parser_atom (Gn.rxparse_parser_atom n_octs_Of n_octs_Range n_rx_Byte n_rxparse_fail n_rxparse_parser_class n_rxparse_parser_escape n_rxparse_parser_fragment n_rxparse_parser_group n_rxparse_parser_is n_rxparse_parser_take n_strings_IndexByte) Gn.rxparse_parser_atom_r 62
 d_rxparse_parser_item : Def E n_rxparse_parser_item (Gn.rxparse_parser_item n_rx_Rep n_rxparse_parser_atom n_rxparse_parser_counts n_rxparse_parser_is n_rxparse_parser_take) Gn.rxparse_parser_item_r 36
 d_rxparse_parser_row : Def E n_rxparse_parser_row (Gn.rxparse_parser_row n_rx_Cat n_rxparse_parser_is n_rxparse_parser_item n_rxparse_parser_more) Gn.rxparse_parser_row_r 23
 d_rxparse_parser_alternatives : Def E n_rxparse_parser_alternatives (Gn.rxparse_parser_alternatives n_rx_Alt n_rxparse_parser_row n_rxparse_parser_take) Gn.rxparse_parser_alternatives_r 16
 d_rxparse_parser_class : Def E n_rxparse_parser_class (Gn.rxparse_parser_class n_octs_Any n_octs_Not n_octs_Range n_rxparse_fail n_rxparse_parser_is n_rxparse_parser_member n_rxparse_parser_must n_rxparse_parser_take) Gn.rxparse_parser_class_r 40
 d_rxparse_Parse : DefE E n_rxparse_Parse (Gn.rxparse_Parse n_rx_Deep n_rx_May n_rx_Nodes n_rxparse_Parse_c1 n_rxparse_fail n_rxparse_parser_alternatives n_rxparse_parser_more) Gn.rxparse_Parse_r 42
 d_rxparse_Parse_c1 : E.D n_rxparse_Parse_c1 = some ⟨6, 3, (Gn.rxparse_Parse_c1 t_rxparse_fault_rxparse_fault), 22⟩
 d_rx_Byte : Def E n_rx_Byte Gn.rx_Byte Gn.rx_Byte_r 5
 d_rx_Cat : Def E n_rx_Cat (Gn.rx_Cat n_rx_several) Gn.rx_Cat_r 6
 d_rx_Alt : Def E n_rx_Alt (Gn.rx_Alt n_rx_Byte n_rx_several) Gn.rx_Alt_r 7
 d_rx_several : Def E n_rx_several (Gn.rx_several n_rx_copied) Gn.rx_several_r 22
 d_rx_copied : Def E n_rx_copied (Gn.rx_copied n_rx_copied) Gn.rx_copied_r 28
 d_rx_Nodes : Def E n_rx_Nodes (Gn.rx_Nodes n_rx_walked) Gn.rx_Nodes_r 6
 d_rx_Deep : Def E n_rx_Deep (Gn.rx_Deep n_rx_walked) Gn.rx_Deep_r 6
 d_hacklelaw06_RxparseTakes : Def E n_hacklelaw06_RxparseTakes (Gn.hacklelaw06_RxparseTakes n_hacklelaw06_alive n_hackleref04_Takes n_rxparse_Parse) Gn.hacklelaw06_RxparseTakes_r 78
end Abs
