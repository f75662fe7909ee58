/- A part. -/
import Derived.Test.YtaifcggapmdhdaaProg
import Derived.Test.YtaifcggapmdhdaaGnO
import Derived.Test.YtaifcggapmdhdaaGnX
import Derived.KernelRfl
namespace Go.Proofs.Ytaifcggapmdhdaa
open Go Abs
set_option maxRecDepth 100000
theorem B1 {f : FuncId} {ec : EC} {rs : List ERes} {nt : Nat} (fn : Func) (own : List Nat) (h : Try.prog.funcs[f]? = some fn) (h1 : fn.body = some (fn.body.getD .skip) := by kernel_rfl) (h2 : (fn.name == "runtime.NumGoroutine") = false := by kernel_rfl) (h3 : resC Try.prog nt own (fn.body.getD .skip) = some ec := by kernel_rfl) (h4 : fn.results.toList.mapM (resRes Try.prog) = some rs := by kernel_rfl) (h5 : fn.ntmps = nt := by kernel_rfl) : Body Try.prog f ec rs nt := ⟨fn, _, own, h, h1, h2, h3, h4, h5⟩
variable {γ : Nat → EV} {Ψ : FuncId → List EV → Heap → Option (ER × Heap)}
theorem b4 : Body Try.prog 4 (Gn.hacklelaw06_RxparseTakes 11 13 12) Gn.hacklelaw06_RxparseTakes_r 78 := B1 Try.f4 [] Try.func4
theorem b11 : Body Try.prog 11 (Gn.hacklelaw06_alive 12) Gn.hacklelaw06_alive_r 54 := B1 Try.f11 [] Try.func11
theorem b12 : BodyE Try.prog 12 (Gn.rxparse_Parse 32 19 31 27 30 28 29) Gn.rxparse_Parse_r 42 := ⟨Try.f12, Try.f12.body.getD .skip, [], Try.func12, by kernel_rfl, by kernel_rfl, by kernel_rfl, by kernel_rfl, by kernel_rfl⟩
theorem b13 : Body Try.prog 13 (Gn.hackleref04_Takes 26 25) Gn.hackleref04_Takes_r 14 := B1 Try.f13 [] Try.func13
theorem b19 : Body Try.prog 19 (Gn.rx_May 37 36) Gn.rx_May_r 18 := B1 Try.f19 [] Try.func19
theorem b25 : Body Try.prog 25 (Gn.hackleref04_Ends 41 25) Gn.hackleref04_Ends_r 159 := B1 Try.f25 [] Try.func25
theorem b26 : Body Try.prog 26 Gn.hackleref04_At Gn.hackleref04_At_r 14 := B1 Try.f26 [] Try.func26
theorem b27 : BodyD Try.prog 27 6 3 (Gn.rxparse_Parse_c1 54) 22 := ⟨Try.f27, Try.f27.body.getD .skip, [], Try.func27, by kernel_rfl, by kernel_rfl, by kernel_rfl, by kernel_rfl, by kernel_rfl⟩
theorem b28 : Body Try.prog 28 (Gn.rxparse_parser_alternatives 44 42 43) Gn.rxparse_parser_alternatives_r 16 := B1 Try.f28 [6] Try.func28
theorem b29 : Body Try.prog 29 (Gn.rxparse_parser_more 30) Gn.rxparse_parser_more_r 52 := B1 Try.f29 [] Try.func29
theorem b30 : Body Try.prog 30 (Gn.rxparse_fail 54) Gn.rxparse_fail_r 8 := B1 Try.f30 [] Try.func30
theorem b31 : Body Try.prog 31 (Gn.rx_Nodes 36) Gn.rx_Nodes_r 6 := B1 Try.f31 [] Try.func31
theorem b32 : Body Try.prog 32 (Gn.rx_Deep 36) Gn.rx_Deep_r 6 := B1 Try.f32 [] Try.func32
theorem b36 : Body Try.prog 36 (Gn.rx_walked 47) Gn.rx_walked_r 10 := B1 Try.f36 [] Try.func36
theorem b37 : Body Try.prog 37 (Gn.rx_nodes 48 50 49) Gn.rx_nodes_r 11 := B1 Try.f37 [] Try.func37
theorem b41 : Body Try.prog 41 Gn.hackleref01_Has Gn.hackleref01_Has_r 22 := B1 Try.f41 [] Try.func41
theorem b42 : Body Try.prog 42 (Gn.rxparse_parser_row 58 56 57 29) Gn.rxparse_parser_row_r 23 := B1 Try.f42 [] Try.func42
theorem b43 : Body Try.prog 43 (Gn.rxparse_parser_take 56) Gn.rxparse_parser_take_r 15 := B1 Try.f43 [] Try.func43
theorem b44 : Body Try.prog 44 (Gn.rx_Alt 60 59) Gn.rx_Alt_r 7 := B1 Try.f44 [] Try.func44
theorem b47 : Body Try.prog 47 (Gn.rx_walk_node 47) Gn.rx_walk_node_r 39 := B1 Try.f47 [] Try.func47
theorem b48 : Body Try.prog 48 (Gn.rx_node 61) Gn.rx_node_r 71 := B1 Try.f48 [] Try.func48
theorem b49 : Body Try.prog 49 (Gn.slices_ContainsFunc_api_Re_api_Re 62) Gn.slices_ContainsFunc_api_Re_api_Re_r 9 := B1 Try.f49 [] Try.func49
theorem b50 : Body Try.prog 50 (Gn.rx_nodes_c1 37) Gn.rx_nodes_c1_r 6 := B1 Try.f50 [] Try.func50
theorem b56 : Body Try.prog 56 (Gn.rxparse_parser_is 29) Gn.rxparse_parser_is_r 20 := B1 Try.f56 [] Try.func56
theorem b57 : Body Try.prog 57 (Gn.rxparse_parser_item 72 71 73 56 43) Gn.rxparse_parser_item_r 36 := B1 Try.f57 [] Try.func57
theorem b58 : Body Try.prog 58 (Gn.rx_Cat 59) Gn.rx_Cat_r 6 := B1 Try.f58 [] Try.func58
theorem b59 : Body Try.prog 59 (Gn.rx_several 74) Gn.rx_several_r 22 := B1 Try.f59 [] Try.func59
theorem b60 : Body Try.prog 60 Gn.rx_Byte Gn.rx_Byte_r 5 := B1 Try.f60 [] Try.func60
theorem b61 : Body Try.prog 61 Gn.rx_bareOf Gn.rx_bareOf_r 15 := B1 Try.f61 [] Try.func61
theorem b62 : Body Try.prog 62 Gn.slices_IndexFunc_api_Re_api_Re Gn.slices_IndexFunc_api_Re_api_Re_r 19 := B1 Try.f62 [] Try.func62
theorem b64 : Body Try.prog 64 Gn.octs_Of Gn.octs_Of_r 23 := B1 Try.f64 [] Try.func64
theorem b71 : Body Try.prog 71 (Gn.rxparse_parser_atom 64 91 60 30 93 94 92 90 56 43 95) Gn.rxparse_parser_atom_r 62 := B1 Try.f71 [] Try.func71
theorem b72 : Body Try.prog 72 (Gn.rx_Rep 74) Gn.rx_Rep_r 13 := B1 Try.f72 [] Try.func72
theorem b73 : Body Try.prog 73 (Gn.rxparse_parser_counts 30 56 96 97 43) Gn.rxparse_parser_counts_r 44 := B1 Try.f73 [] Try.func73
theorem b74 : Body Try.prog 74 (Gn.rx_copied 74) Gn.rx_copied_r 28 := B1 Try.f74 [] Try.func74
theorem b75 : Body Try.prog 75 Gn.octs_each Gn.octs_each_r 23 := B1 Try.f75 [] Try.func75
theorem b90 : Body Try.prog 90 (Gn.rxparse_parser_group 30 28 96) Gn.rxparse_parser_group_r 35 := B1 Try.f90 [] Try.func90
theorem b91 : Body Try.prog 91 Gn.octs_Range Gn.octs_Range_r 25 := B1 Try.f91 [] Try.func91
theorem b92 : Body Try.prog 92 (Gn.rxparse_parser_fragment 58 104 30 29 96) Gn.rxparse_parser_fragment_r 78 := B1 Try.f92 [] Try.func92
theorem b93 : Body Try.prog 93 (Gn.rxparse_parser_class 106 107 91 30 56 105 96 43) Gn.rxparse_parser_class_r 40 := B1 Try.f93 [] Try.func93
theorem b94 : Body Try.prog 94 (Gn.rxparse_parser_escape 30 108 109 29 96) Gn.rxparse_parser_escape_r 53 := B1 Try.f94 [] Try.func94
theorem b95 : Body Try.prog 95 (Gn.strings_IndexByte 110) Gn.strings_IndexByte_r 8 := B1 Try.f95 [] Try.func95
theorem b96 : Body Try.prog 96 (Gn.rxparse_parser_must 30 43) Gn.rxparse_parser_must_r 13 := B1 Try.f96 [] Try.func96
theorem b97 : Body Try.prog 97 (Gn.rxparse_parser_number 30 111) Gn.rxparse_parser_number_r 60 := B1 Try.f97 [] Try.func97
theorem b104 : Body Try.prog 104 Gn.rxparse_MayName Gn.rxparse_MayName_r 46 := B1 Try.f104 [] Try.func104
theorem b105 : Body Try.prog 105 (Gn.rxparse_parser_member 30 94 56 29 95) Gn.rxparse_parser_member_r 45 := B1 Try.f105 [] Try.func105
theorem b106 : Body Try.prog 106 (Gn.octs_Any 113 75) Gn.octs_Any_r 8 := B1 Try.f106 [] Try.func106
theorem b107 : Body Try.prog 107 (Gn.octs_Not 114 91) Gn.octs_Not_r 6 := B1 Try.f107 [] Try.func107
theorem b108 : Body Try.prog 108 (Gn.rxparse_kindOf 95) Gn.rxparse_kindOf_r 17 := B1 Try.f108 [] Try.func108
theorem b109 : Body Try.prog 109 (Gn.rxparse_parser_digit 30 29 95) Gn.rxparse_parser_digit_r 42 := B1 Try.f109 [] Try.func109
theorem b110 : Body Try.prog 110 Gn.internal_stringslite_IndexByte Gn.internal_stringslite_IndexByte_r 8 := B1 Try.f110 [] Try.func110
theorem b111 : Body Try.prog 111 (Gn.rxparse_parser_number_c1 29) Gn.rxparse_parser_number_c1_r 28 := B1 Try.f111 [] Try.func111
theorem b113 : Body Try.prog 113 Gn.octs_Any_c1 Gn.octs_Any_c1_r 8 := B1 Try.f113 [] Try.func113
theorem b114 : Body Try.prog 114 (Gn.octs_Less 116 75) Gn.octs_Less_r 8 := B1 Try.f114 [] Try.func114
theorem b116 : Body Try.prog 116 Gn.octs_Less_c1 Gn.octs_Less_c1_r 8 := B1 Try.f116 [] Try.func116
def tabT : List (Nat × FnD) := [(4, ⟨(Gn.hacklelaw06_RxparseTakes 11 13 12), Gn.hacklelaw06_RxparseTakes_r, 78⟩), (11, ⟨(Gn.hacklelaw06_alive 12), Gn.hacklelaw06_alive_r, 54⟩), (13, ⟨(Gn.hackleref04_Takes 26 25), Gn.hackleref04_Takes_r, 14⟩), (19, ⟨(Gn.rx_May 37 36), Gn.rx_May_r, 18⟩), (25, ⟨(Gn.hackleref04_Ends 41 25), Gn.hackleref04_Ends_r, 159⟩), (26, ⟨Gn.hackleref04_At, Gn.hackleref04_At_r, 14⟩), (28, ⟨(Gn.rxparse_parser_alternatives 44 42 43), Gn.rxparse_parser_alternatives_r, 16⟩), (29, ⟨(Gn.rxparse_parser_more 30), Gn.rxparse_parser_more_r, 52⟩), (30, ⟨(Gn.rxparse_fail 54), Gn.rxparse_fail_r, 8⟩), (31, ⟨(Gn.rx_Nodes 36), Gn.rx_Nodes_r, 6⟩), (32, ⟨(Gn.rx_Deep 36), Gn.rx_Deep_r, 6⟩), (36, ⟨(Gn.rx_walked 47), Gn.rx_walked_r, 10⟩), (37, ⟨(Gn.rx_nodes 48 50 49), Gn.rx_nodes_r, 11⟩), (41, ⟨Gn.hackleref01_Has, Gn.hackleref01_Has_r, 22⟩), (42, ⟨(Gn.rxparse_parser_row 58 56 57 29), Gn.rxparse_parser_row_r, 23⟩), (43, ⟨(Gn.rxparse_parser_take 56), Gn.rxparse_parser_take_r, 15⟩), (44, ⟨(Gn.rx_Alt 60 59), Gn.rx_Alt_r, 7⟩), (47, ⟨(Gn.rx_walk_node 47), Gn.rx_walk_node_r, 39⟩), (48, ⟨(Gn.rx_node 61), Gn.rx_node_r, 71⟩), (49, ⟨(Gn.slices_ContainsFunc_api_Re_api_Re 62), Gn.slices_ContainsFunc_api_Re_api_Re_r, 9⟩), (50, ⟨(Gn.rx_nodes_c1 37), Gn.rx_nodes_c1_r, 6⟩), (56, ⟨(Gn.rxparse_parser_is 29), Gn.rxparse_parser_is_r, 20⟩), (57, ⟨(Gn.rxparse_parser_item 72 71 73 56 43), Gn.rxparse_parser_item_r, 36⟩), (58, ⟨(Gn.rx_Cat 59), Gn.rx_Cat_r, 6⟩), (59, ⟨(Gn.rx_several 74), Gn.rx_several_r, 22⟩), (60, ⟨Gn.rx_Byte, Gn.rx_Byte_r, 5⟩), (61, ⟨Gn.rx_bareOf, Gn.rx_bareOf_r, 15⟩), (62, ⟨Gn.slices_IndexFunc_api_Re_api_Re, Gn.slices_IndexFunc_api_Re_api_Re_r, 19⟩), (64, ⟨Gn.octs_Of, Gn.octs_Of_r, 23⟩), (71, ⟨(Gn.rxparse_parser_atom 64 91 60 30 93 94 92 90 56 43 95), Gn.rxparse_parser_atom_r, 62⟩), (72, ⟨(Gn.rx_Rep 74), Gn.rx_Rep_r, 13⟩), (73, ⟨(Gn.rxparse_parser_counts 30 56 96 97 43), Gn.rxparse_parser_counts_r, 44⟩), (74, ⟨(Gn.rx_copied 74), Gn.rx_copied_r, 28⟩), (75, ⟨Gn.octs_each, Gn.octs_each_r, 23⟩), (90, ⟨(Gn.rxparse_parser_group 30 28 96), Gn.rxparse_parser_group_r, 35⟩), (91, ⟨Gn.octs_Range, Gn.octs_Range_r, 25⟩), (92, ⟨(Gn.rxparse_parser_fragment 58 104 30 29 96), Gn.rxparse_parser_fragment_r, 78⟩), (93, ⟨(Gn.rxparse_parser_class 106 107 91 30 56 105 96 43), Gn.rxparse_parser_class_r, 40⟩), (94, ⟨(Gn.rxparse_parser_escape 30 108 109 29 96), Gn.rxparse_parser_escape_r, 53⟩), (95, ⟨(Gn.strings_IndexByte 110), Gn.strings_IndexByte_r, 8⟩), (96, ⟨(Gn.rxparse_parser_must 30 43), Gn.rxparse_parser_must_r, 13⟩), (97, ⟨(Gn.rxparse_parser_number 30 111), Gn.rxparse_parser_number_r, 60⟩), (104, ⟨Gn.rxparse_MayName, Gn.rxparse_MayName_r, 46⟩), (105, ⟨(Gn.rxparse_parser_member 30 94 56 29 95), Gn.rxparse_parser_member_r, 45⟩), (106, ⟨(Gn.octs_Any 113 75), Gn.octs_Any_r, 8⟩), (107, ⟨(Gn.octs_Not 114 91), Gn.octs_Not_r, 6⟩), (108, ⟨(Gn.rxparse_kindOf 95), Gn.rxparse_kindOf_r, 17⟩), (109, ⟨(Gn.rxparse_parser_digit 30 29 95), Gn.rxparse_parser_digit_r, 42⟩), (110, ⟨Gn.internal_stringslite_IndexByte, Gn.internal_stringslite_IndexByte_r, 8⟩), (111, ⟨(Gn.rxparse_parser_number_c1 29), Gn.rxparse_parser_number_c1_r, 28⟩), (113, ⟨Gn.octs_Any_c1, Gn.octs_Any_c1_r, 8⟩), (114, ⟨(Gn.octs_Less 116 75), Gn.octs_Less_r, 8⟩), (116, ⟨Gn.octs_Less_c1, Gn.octs_Less_c1_r, 8⟩)]
theorem tabT_ok : AllT (fun f d => Body Try.prog f d.ec d.rs d.nt) tabT := ⟨b4, ⟨b11, ⟨b13, ⟨b19, ⟨b25, ⟨b26, ⟨b28, ⟨b29, ⟨b30, ⟨b31, ⟨b32, ⟨b36, ⟨b37, ⟨b41, ⟨b42, ⟨b43, ⟨b44, ⟨b47, ⟨b48, ⟨b49, ⟨b50, ⟨b56, ⟨b57, ⟨b58, ⟨b59, ⟨b60, ⟨b61, ⟨b62, ⟨b64, ⟨b71, ⟨b72, ⟨b73, ⟨b74, ⟨b75, ⟨b90, ⟨b91, ⟨b92, ⟨b93, ⟨b94, ⟨b95, ⟨b96, ⟨b97, ⟨b104, ⟨b105, ⟨b106, ⟨b107, ⟨b108, ⟨b109, ⟨b110, ⟨b111, ⟨b113, ⟨b114, ⟨b116, trivial⟩⟩⟩⟩⟩⟩⟩⟩⟩⟩⟩⟩⟩⟩⟩⟩⟩⟩⟩⟩⟩⟩⟩⟩⟩⟩⟩⟩⟩⟩⟩⟩⟩⟩⟩⟩⟩⟩⟩⟩⟩⟩⟩⟩⟩⟩⟩⟩⟩⟩⟩⟩⟩
def tabF : List (Nat × FnE) := [(12, ⟨(Gn.rxparse_Parse 32 19 31 27 30 28 29), Gn.rxparse_Parse_r, 42⟩)]
theorem tabF_ok : AllT (fun f d => BodyE Try.prog f d.ef d.rs d.nt) tabF := ⟨b12, trivial⟩
def tabD : List (Nat × FnDf) := [(27, ⟨6, 3, (Gn.rxparse_Parse_c1 54), 22⟩)]
theorem tabD_ok : AllT (fun f d => BodyD Try.prog f d.d0 d.d1 d.ec d.nt) tabD := ⟨b27, trivial⟩
def kept : List Nat := []
def env (γ : Nat → EV) (Ψ : FuncId → List EV → Heap → Option (ER × Heap)) : Env := ⟨Abs.look tabT, Abs.look tabF, Abs.look tabD, γ, Ψ, kept.contains⟩
theorem d4 (h : ∀ xs H, Ψ 4 xs H = none) : Def (env γ Ψ) 4 (Gn.hacklelaw06_RxparseTakes 11 13 12) Gn.hacklelaw06_RxparseTakes_r 78 := ⟨by kernel_rfl, h, by kernel_rfl⟩
theorem d13 (h : ∀ xs H, Ψ 13 xs H = none) : Def (env γ Ψ) 13 (Gn.hackleref04_Takes 26 25) Gn.hackleref04_Takes_r 14 := ⟨by kernel_rfl, h, by kernel_rfl⟩
theorem d19 (h : ∀ xs H, Ψ 19 xs H = none) : Def (env γ Ψ) 19 (Gn.rx_May 37 36) Gn.rx_May_r 18 := ⟨by kernel_rfl, h, by kernel_rfl⟩
theorem d25 (h : ∀ xs H, Ψ 25 xs H = none) : Def (env γ Ψ) 25 (Gn.hackleref04_Ends 41 25) Gn.hackleref04_Ends_r 159 := ⟨by kernel_rfl, h, by kernel_rfl⟩
theorem d26 (h : ∀ xs H, Ψ 26 xs H = none) : Def (env γ Ψ) 26 Gn.hackleref04_At Gn.hackleref04_At_r 14 := ⟨by kernel_rfl, h, by kernel_rfl⟩
theorem d28 (h : ∀ xs H, Ψ 28 xs H = none) : Def (env γ Ψ) 28 (Gn.rxparse_parser_alternatives 44 42 43) Gn.rxparse_parser_alternatives_r 16 := ⟨by kernel_rfl, h, by kernel_rfl⟩
theorem d29 (h : ∀ xs H, Ψ 29 xs H = none) : Def (env γ Ψ) 29 (Gn.rxparse_parser_more 30) Gn.rxparse_parser_more_r 52 := ⟨by kernel_rfl, h, by kernel_rfl⟩
theorem d31 (h : ∀ xs H, Ψ 31 xs H = none) : Def (env γ Ψ) 31 (Gn.rx_Nodes 36) Gn.rx_Nodes_r 6 := ⟨by kernel_rfl, h, by kernel_rfl⟩
theorem d32 (h : ∀ xs H, Ψ 32 xs H = none) : Def (env γ Ψ) 32 (Gn.rx_Deep 36) Gn.rx_Deep_r 6 := ⟨by kernel_rfl, h, by kernel_rfl⟩
theorem d36 (h : ∀ xs H, Ψ 36 xs H = none) : Def (env γ Ψ) 36 (Gn.rx_walked 47) Gn.rx_walked_r 10 := ⟨by kernel_rfl, h, by kernel_rfl⟩
theorem d37 (h : ∀ xs H, Ψ 37 xs H = none) : Def (env γ Ψ) 37 (Gn.rx_nodes 48 50 49) Gn.rx_nodes_r 11 := ⟨by kernel_rfl, h, by kernel_rfl⟩
theorem d42 (h : ∀ xs H, Ψ 42 xs H = none) : Def (env γ Ψ) 42 (Gn.rxparse_parser_row 58 56 57 29) Gn.rxparse_parser_row_r 23 := ⟨by kernel_rfl, h, by kernel_rfl⟩
theorem d43 (h : ∀ xs H, Ψ 43 xs H = none) : Def (env γ Ψ) 43 (Gn.rxparse_parser_take 56) Gn.rxparse_parser_take_r 15 := ⟨by kernel_rfl, h, by kernel_rfl⟩
theorem d44 (h : ∀ xs H, Ψ 44 xs H = none) : Def (env γ Ψ) 44 (Gn.rx_Alt 60 59) Gn.rx_Alt_r 7 := ⟨by kernel_rfl, h, by kernel_rfl⟩
theorem d47 (h : ∀ xs H, Ψ 47 xs H = none) : Def (env γ Ψ) 47 (Gn.rx_walk_node 47) Gn.rx_walk_node_r 39 := ⟨by kernel_rfl, h, by kernel_rfl⟩
theorem d48 (h : ∀ xs H, Ψ 48 xs H = none) : Def (env γ Ψ) 48 (Gn.rx_node 61) Gn.rx_node_r 71 := ⟨by kernel_rfl, h, by kernel_rfl⟩
theorem d49 (h : ∀ xs H, Ψ 49 xs H = none) : Def (env γ Ψ) 49 (Gn.slices_ContainsFunc_api_Re_api_Re 62) Gn.slices_ContainsFunc_api_Re_api_Re_r 9 := ⟨by kernel_rfl, h, by kernel_rfl⟩
theorem d50 (h : ∀ xs H, Ψ 50 xs H = none) : Def (env γ Ψ) 50 (Gn.rx_nodes_c1 37) Gn.rx_nodes_c1_r 6 := ⟨by kernel_rfl, h, by kernel_rfl⟩
theorem d56 (h : ∀ xs H, Ψ 56 xs H = none) : Def (env γ Ψ) 56 (Gn.rxparse_parser_is 29) Gn.rxparse_parser_is_r 20 := ⟨by kernel_rfl, h, by kernel_rfl⟩
theorem d57 (h : ∀ xs H, Ψ 57 xs H = none) : Def (env γ Ψ) 57 (Gn.rxparse_parser_item 72 71 73 56 43) Gn.rxparse_parser_item_r 36 := ⟨by kernel_rfl, h, by kernel_rfl⟩
theorem d58 (h : ∀ xs H, Ψ 58 xs H = none) : Def (env γ Ψ) 58 (Gn.rx_Cat 59) Gn.rx_Cat_r 6 := ⟨by kernel_rfl, h, by kernel_rfl⟩
theorem d59 (h : ∀ xs H, Ψ 59 xs H = none) : Def (env γ Ψ) 59 (Gn.rx_several 74) Gn.rx_several_r 22 := ⟨by kernel_rfl, h, by kernel_rfl⟩
theorem d60 (h : ∀ xs H, Ψ 60 xs H = none) : Def (env γ Ψ) 60 Gn.rx_Byte Gn.rx_Byte_r 5 := ⟨by kernel_rfl, h, by kernel_rfl⟩
theorem d61 (h : ∀ xs H, Ψ 61 xs H = none) : Def (env γ Ψ) 61 Gn.rx_bareOf Gn.rx_bareOf_r 15 := ⟨by kernel_rfl, h, by kernel_rfl⟩
theorem d62 (h : ∀ xs H, Ψ 62 xs H = none) : Def (env γ Ψ) 62 Gn.slices_IndexFunc_api_Re_api_Re Gn.slices_IndexFunc_api_Re_api_Re_r 19 := ⟨by kernel_rfl, h, by kernel_rfl⟩
theorem d71 (h : ∀ xs H, Ψ 71 xs H = none) : Def (env γ Ψ) 71 (Gn.rxparse_parser_atom 64 91 60 30 93 94 92 90 56 43 95) Gn.rxparse_parser_atom_r 62 := ⟨by kernel_rfl, h, by kernel_rfl⟩
theorem d74 (h : ∀ xs H, Ψ 74 xs H = none) : Def (env γ Ψ) 74 (Gn.rx_copied 74) Gn.rx_copied_r 28 := ⟨by kernel_rfl, h, by kernel_rfl⟩
theorem d93 (h : ∀ xs H, Ψ 93 xs H = none) : Def (env γ Ψ) 93 (Gn.rxparse_parser_class 106 107 91 30 56 105 96 43) Gn.rxparse_parser_class_r 40 := ⟨by kernel_rfl, h, by kernel_rfl⟩
theorem d94 (h : ∀ xs H, Ψ 94 xs H = none) : Def (env γ Ψ) 94 (Gn.rxparse_parser_escape 30 108 109 29 96) Gn.rxparse_parser_escape_r 53 := ⟨by kernel_rfl, h, by kernel_rfl⟩
theorem d95 (h : ∀ xs H, Ψ 95 xs H = none) : Def (env γ Ψ) 95 (Gn.strings_IndexByte 110) Gn.strings_IndexByte_r 8 := ⟨by kernel_rfl, h, by kernel_rfl⟩
theorem d96 (h : ∀ xs H, Ψ 96 xs H = none) : Def (env γ Ψ) 96 (Gn.rxparse_parser_must 30 43) Gn.rxparse_parser_must_r 13 := ⟨by kernel_rfl, h, by kernel_rfl⟩
theorem d108 (h : ∀ xs H, Ψ 108 xs H = none) : Def (env γ Ψ) 108 (Gn.rxparse_kindOf 95) Gn.rxparse_kindOf_r 17 := ⟨by kernel_rfl, h, by kernel_rfl⟩
theorem d109 (h : ∀ xs H, Ψ 109 xs H = none) : Def (env γ Ψ) 109 (Gn.rxparse_parser_digit 30 29 95) Gn.rxparse_parser_digit_r 42 := ⟨by kernel_rfl, h, by kernel_rfl⟩
theorem d110 (h : ∀ xs H, Ψ 110 xs H = none) : Def (env γ Ψ) 110 Gn.internal_stringslite_IndexByte Gn.internal_stringslite_IndexByte_r 8 := ⟨by kernel_rfl, h, by kernel_rfl⟩
theorem d12 (h : ∀ xs H, Ψ 12 xs H = none) : DefE (env γ Ψ) 12 (Gn.rxparse_Parse 32 19 31 27 30 28 29) Gn.rxparse_Parse_r 42 := ⟨by kernel_rfl, by kernel_rfl, h⟩
theorem env_sound {γ : Nat → EV} {Ψ : FuncId → List EV → Heap → Option (ER × Heap)} (h : ∀ f xs H r, Ψ f xs H = some r → CallsA Try.prog γ f xs H fun er H' => er = r.1 ∧ H' = r.2) : (env γ Ψ).Sound Try.prog :=
 ⟨fun f d h => tabT_ok.look h, fun f d h => tabF_ok.look h, fun f d h => tabD_ok.look h, h⟩
end Go.Proofs.Ytaifcggapmdhdaa
