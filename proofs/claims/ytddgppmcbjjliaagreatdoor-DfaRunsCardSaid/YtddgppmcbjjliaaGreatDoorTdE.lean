/- A part. -/
import Derived.Test.YtddgppmcbjjliaaGreatDoorProg
import Derived.Test.YtddgppmcbjjliaaGreatDoorGnO
import Derived.Test.YtddgppmcbjjliaaGreatDoorGnX
import Derived.KernelRfl
namespace Go.Proofs.YtddgppmcbjjliaaGreatDoor
open Go Abs
set_option maxRecDepth 100000
theorem B1 {f : FuncId} {ec : EC} {rs : List ERes} {nt : Nat} (fn : Func) (own : List Nat) (h : Tryz.prog.funcs[f]? = some fn) (h1 : fn.body = some (fn.body.getD .skip) := by kernel_rfl) (h2 : (fn.name == "runtime.NumGoroutine") = false := by kernel_rfl) (h3 : resC Tryz.prog nt own (fn.body.getD .skip) = some ec := by kernel_rfl) (h4 : fn.results.toList.mapM (resRes Tryz.prog) = some rs := by kernel_rfl) (h5 : fn.ntmps = nt := by kernel_rfl) : Body Tryz.prog f ec rs nt := ⟨fn, _, own, h, h1, h2, h3, h4, h5⟩
variable {γ : Nat → EV} {Ψ : FuncId → List EV → Heap → Option (ER × Heap)}
theorem b5 : Body Tryz.prog 5 (Gn.hacklelaw09_DfaRuns 14 24 21 23 19 17 15 18 12 6 16 26 11 25 20 27) Gn.hacklelaw09_DfaRuns_r 98 := B1 Tryz.f5 [] Tryz.func5
theorem b6 : Body Tryz.prog 6 (Gn.hacklelaw09_alive 24 8 29 30 28) Gn.hacklelaw09_alive_r 45 := B1 Tryz.f6 [] Tryz.func6
theorem b8 : Body Tryz.prog 8 (Gn.dfa_Subset 34 33 37 35 36 32 38) Gn.dfa_Subset_r 124 := B1 Tryz.f8 [25, 46] Tryz.func8
theorem b11 : Body Tryz.prog 11 (Gn.hackleref09_Same 30) Gn.hackleref09_Same_r 47 := B1 Tryz.f11 [] Tryz.func11
theorem b12 : Body Tryz.prog 12 Gn.hacklelaw09_Plain Gn.hacklelaw09_Plain_r 21 := B1 Tryz.f12 [] Tryz.func12
theorem b14 : Body Tryz.prog 14 (Gn.dfa_May 43 46 44 45) Gn.dfa_May_r 51 := B1 Tryz.f14 [] Tryz.func14
theorem b15 : Body Tryz.prog 15 Gn.hacklelaw09_Great Gn.hacklelaw09_Great_r 40 := B1 Tryz.f15 [] Tryz.func15
theorem b16 : Body Tryz.prog 16 (Gn.hackleref09_May 47) Gn.hackleref09_May_r 90 := B1 Tryz.f16 [] Tryz.func16
theorem b17 : Body Tryz.prog 17 (Gn.dfa_Trim 48 14) Gn.dfa_Trim_r 128 := B1 Tryz.f17 [45] Tryz.func17
theorem b18 : Body Tryz.prog 18 Gn.hacklelaw09_Of Gn.hacklelaw09_Of_r 15 := B1 Tryz.f18 [] Tryz.func18
theorem b19 : Body Tryz.prog 19 (Gn.dfa_Tag 24) Gn.dfa_Tag_r 16 := B1 Tryz.f19 [] Tryz.func19
theorem b20 : Body Tryz.prog 20 (Gn.hackleref09_Tag 26) Gn.hackleref09_Tag_r 16 := B1 Tryz.f20 [] Tryz.func20
theorem b21 : Body Tryz.prog 21 (Gn.dfa_Same 50 49) Gn.dfa_Same_r 24 := B1 Tryz.f21 [] Tryz.func21
theorem b22 : Body Tryz.prog 22 Gn.hackleref09_Live Gn.hackleref09_Live_r 82 := B1 Tryz.f22 [] Tryz.func22
theorem b23 : Body Tryz.prog 23 (Gn.dfa_Step 51 14) Gn.dfa_Step_r 14 := B1 Tryz.f23 [] Tryz.func23
theorem b24 : Body Tryz.prog 24 (Gn.dfa_Run 51 14) Gn.dfa_Run_r 29 := B1 Tryz.f24 [] Tryz.func24
theorem b25 : Body Tryz.prog 25 Gn.hackleref09_Step Gn.hackleref09_Step_r 28 := B1 Tryz.f25 [] Tryz.func25
theorem b26 : Body Tryz.prog 26 (Gn.hackleref09_Run 25) Gn.hackleref09_Run_r 24 := B1 Tryz.f26 [] Tryz.func26
theorem b27 : Body Tryz.prog 27 (Gn.hackleref09_Trim 22) Gn.hackleref09_Trim_r 111 := B1 Tryz.f27 [27] Tryz.func27
theorem b28 : Body Tryz.prog 28 (Gn.nfa_Build 53 56 55 57 52) Gn.nfa_Build_r 103 := B1 Tryz.f28 [] Tryz.func28
theorem b29 : Body Tryz.prog 29 (Gn.hacklelaw09_letters 58) Gn.hacklelaw09_letters_r 36 := B1 Tryz.f29 [] Tryz.func29
theorem b30 : Body Tryz.prog 30 Gn.hackleref08_Ints Gn.hackleref08_Ints_r 26 := B1 Tryz.f30 [] Tryz.func30
theorem b32 : Body Tryz.prog 32 (Gn.nfa_May 60) Gn.nfa_May_r 77 := B1 Tryz.f32 [] Tryz.func32
theorem b33 : Body Tryz.prog 33 (Gn.class_Part 62 61) Gn.class_Part_r 19 := B1 Tryz.f33 [] Tryz.func33
theorem b34 : Body Tryz.prog 34 (Gn.class_First 65 64) Gn.class_First_r 9 := B1 Tryz.f34 [] Tryz.func34
theorem b35 : Body Tryz.prog 35 (Gn.nfa_Begin 32 66) Gn.nfa_Begin_r 13 := B1 Tryz.f35 [] Tryz.func35
theorem b36 : Body Tryz.prog 36 (Gn.nfa_Go 32 67 60) Gn.nfa_Go_r 20 := B1 Tryz.f36 [] Tryz.func36
theorem b37 : Body Tryz.prog 37 Gn.dfa_key Gn.dfa_key_r 23 := B1 Tryz.f37 [] Tryz.func37
theorem b38 : Body Tryz.prog 38 (Gn.nfa_Tag 32 60 68) Gn.nfa_Tag_r 17 := B1 Tryz.f38 [] Tryz.func38
theorem b43 : Body Tryz.prog 43 (Gn.class_May 70 61) Gn.class_May_r 7 := B1 Tryz.f43 [] Tryz.func43
theorem b44 : Body Tryz.prog 44 Gn.dfa_within Gn.dfa_within_r 15 := B1 Tryz.f44 [] Tryz.func44
theorem b45 : Body Tryz.prog 45 (Gn.slices_ContainsFunc_int_int 71) Gn.slices_ContainsFunc_int_int_r 9 := B1 Tryz.f45 [] Tryz.func45
theorem b46 : Body Tryz.prog 46 (Gn.dfa_May_c1 44) Gn.dfa_May_c1_r 9 := B1 Tryz.f46 [] Tryz.func46
theorem b47 : Body Tryz.prog 47 Gn.hackleref02_May Gn.hackleref02_May_r 29 := B1 Tryz.f47 [] Tryz.func47
theorem b48 : Body Tryz.prog 48 (Gn.dfa_Dfa_live 72 45) Gn.dfa_Dfa_live_r 49 := B1 Tryz.f48 [] Tryz.func48
theorem b49 : Body Tryz.prog 49 Gn.slices_Equal_int_int Gn.slices_Equal_int_int_r 26 := B1 Tryz.f49 [] Tryz.func49
theorem b50 : Body Tryz.prog 50 Gn.slices_EqualFunc_int_int_int_int Gn.slices_EqualFunc_int_int_int_int_r 32 := B1 Tryz.f50 [] Tryz.func50
theorem b51 : Body Tryz.prog 51 (Gn.dfa_Dfa_step 44) Gn.dfa_Dfa_step_r 26 := B1 Tryz.f51 [] Tryz.func51
theorem b52 : Body Tryz.prog 52 (Gn.slices_ContainsFunc_api_Re_api_Re 73) Gn.slices_ContainsFunc_api_Re_api_Re_r 9 := B1 Tryz.f52 [] Tryz.func52
theorem b53 : Body Tryz.prog 53 (Gn.nfa_Build_c1 54) Gn.nfa_Build_c1_r 6 := B1 Tryz.f53 [] Tryz.func53
theorem b54 : Body Tryz.prog 54 (Gn.rx_May 75 74) Gn.rx_May_r 18 := B1 Tryz.f54 [] Tryz.func54
theorem b55 : Body Tryz.prog 55 (Gn.nfa_places 76 55) Gn.nfa_places_r 31 := B1 Tryz.f55 [] Tryz.func55
theorem b56 : Body Tryz.prog 56 (Gn.nfa_making_tree 77 80 79 56 78) Gn.nfa_making_tree_r 75 := B1 Tryz.f56 [64, 65] Tryz.func56
theorem b57 : Body Tryz.prog 57 (Gn.nfa_union 82 81) Gn.nfa_union_r 24 := B1 Tryz.f57 [] Tryz.func57
theorem b58 : Body Tryz.prog 58 (Gn.hackleref01_Range 83) Gn.hackleref01_Range_r 17 := B1 Tryz.f58 [] Tryz.func58
theorem b59 : Body Tryz.prog 59 Gn.hackleref01_Has Gn.hackleref01_Has_r 22 := B1 Tryz.f59 [] Tryz.func59
theorem b60 : Body Tryz.prog 60 Gn.nfa_Nfa_rising Gn.nfa_Nfa_rising_r 37 := B1 Tryz.f60 [] Tryz.func60
theorem b61 : Body Tryz.prog 61 Gn.class_renamed Gn.class_renamed_r 40 := B1 Tryz.f61 [] Tryz.func61
theorem b62 : Body Tryz.prog 62 (Gn.class_Part_c1 63) Gn.class_Part_c1_r 21 := B1 Tryz.f62 [] Tryz.func62
theorem b63 : Body Tryz.prog 63 (Gn.octs_Has 84 85) Gn.octs_Has_r 12 := B1 Tryz.f63 [] Tryz.func63
theorem b64 : Body Tryz.prog 64 (Gn.octs_Next 86) Gn.octs_Next_r 15 := B1 Tryz.f64 [] Tryz.func64
theorem b65 : Body Tryz.prog 65 (Gn.class_Members 43 87 85) Gn.class_Members_r 29 := B1 Tryz.f65 [] Tryz.func65
theorem b66 : Body Tryz.prog 66 (Gn.nfa_Nfa_with 90 89 88) Gn.nfa_Nfa_with_r 11 := B1 Tryz.f66 [] Tryz.func66
theorem b67 : Body Tryz.prog 67 (Gn.nfa_Nfa_goOn 66) Gn.nfa_Nfa_goOn_r 57 := B1 Tryz.f67 [] Tryz.func67
theorem b68 : Body Tryz.prog 68 Gn.nfa_Nfa_tag Gn.nfa_Nfa_tag_r 39 := B1 Tryz.f68 [] Tryz.func68
theorem b70 : Body Tryz.prog 70 Gn.class_May_c1 Gn.class_May_c1_r 10 := B1 Tryz.f70 [] Tryz.func70
theorem b71 : Body Tryz.prog 71 Gn.slices_IndexFunc_int_int Gn.slices_IndexFunc_int_int_r 19 := B1 Tryz.f71 [] Tryz.func71
theorem b72 : Body Tryz.prog 72 Gn.dfa_Dfa_live_c1 Gn.dfa_Dfa_live_c1_r 12 := B1 Tryz.f72 [] Tryz.func72
theorem b73 : Body Tryz.prog 73 Gn.slices_IndexFunc_api_Re_api_Re Gn.slices_IndexFunc_api_Re_api_Re_r 19 := B1 Tryz.f73 [] Tryz.func73
theorem b74 : Body Tryz.prog 74 (Gn.rx_walked 91) Gn.rx_walked_r 10 := B1 Tryz.f74 [] Tryz.func74
theorem b75 : Body Tryz.prog 75 (Gn.rx_nodes 92 93 52) Gn.rx_nodes_r 11 := B1 Tryz.f75 [] Tryz.func75
theorem b76 : Body Tryz.prog 76 Gn.nfa_copies Gn.nfa_copies_r 11 := B1 Tryz.f76 [] Tryz.func76
theorem b77 : Body Tryz.prog 77 Gn.nfa_making_place Gn.nfa_making_place_r 66 := B1 Tryz.f77 [] Tryz.func77
theorem b78 : Body Tryz.prog 78 (Gn.nfa_rims_both 57) Gn.nfa_rims_both_r 24 := B1 Tryz.f78 [] Tryz.func78
theorem b79 : Body Tryz.prog 79 (Gn.nfa_making_then 94 57) Gn.nfa_making_then_r 56 := B1 Tryz.f79 [] Tryz.func79
theorem b80 : Body Tryz.prog 80 (Gn.nfa_making_repeat 95 76 94 79 56 55) Gn.nfa_making_repeat_r 124 := B1 Tryz.f80 [55, 105] Tryz.func80
theorem b81 : Body Tryz.prog 81 (Gn.slices_Sort_int_int 97 96) Gn.slices_Sort_int_int_r 11 := B1 Tryz.f81 [] Tryz.func81
theorem b82 : Body Tryz.prog 82 Gn.slices_Compact_int_int Gn.slices_Compact_int_int_r 61 := B1 Tryz.f82 [] Tryz.func82
theorem b83 : Body Tryz.prog 83 Gn.hackleref01_Made Gn.hackleref01_Made_r 27 := B1 Tryz.f83 [] Tryz.func83
theorem b84 : Body Tryz.prog 84 (Gn.octs_Both 99 98) Gn.octs_Both_r 8 := B1 Tryz.f84 [] Tryz.func84
theorem b85 : Body Tryz.prog 85 Gn.octs_Of Gn.octs_Of_r 23 := B1 Tryz.f85 [] Tryz.func85
theorem b86 : Body Tryz.prog 86 (Gn.octs_all 100) Gn.octs_all_r 4 := B1 Tryz.f86 [] Tryz.func86
theorem b87 : Body Tryz.prog 87 (Gn.octs_Any 102 98) Gn.octs_Any_r 8 := B1 Tryz.f87 [] Tryz.func87
theorem b88 : Body Tryz.prog 88 (Gn.slices_DeleteFunc_int_int 71) Gn.slices_DeleteFunc_int_int_r 42 := B1 Tryz.f88 [] Tryz.func88
theorem b89 : Body Tryz.prog 89 Gn.slices_Clone_int_int Gn.slices_Clone_int_int_r 8 := B1 Tryz.f89 [] Tryz.func89
theorem b90 : Body Tryz.prog 90 (Gn.nfa_Nfa_with_c1 63) Gn.nfa_Nfa_with_c1_r 13 := B1 Tryz.f90 [] Tryz.func90
theorem b91 : Body Tryz.prog 91 (Gn.rx_walk_node 91) Gn.rx_walk_node_r 39 := B1 Tryz.f91 [] Tryz.func91
theorem b92 : Body Tryz.prog 92 (Gn.rx_node 103) Gn.rx_node_r 71 := B1 Tryz.f92 [] Tryz.func92
theorem b93 : Body Tryz.prog 93 (Gn.rx_nodes_c1 75) Gn.rx_nodes_c1_r 6 := B1 Tryz.f93 [] Tryz.func93
theorem b94 : Body Tryz.prog 94 (Gn.nfa_making_behind 57) Gn.nfa_making_behind_r 32 := B1 Tryz.f94 [] Tryz.func94
theorem b95 : Body Tryz.prog 95 (Gn.nfa_bare 104) Gn.nfa_bare_r 6 := B1 Tryz.f95 [] Tryz.func95
theorem b96 : Body Tryz.prog 96 (Gn.slices_pdqsortOrdered_int 111 107 108 106 105 110 112 113 96 109) Gn.slices_pdqsortOrdered_int_r 134 := B1 Tryz.f96 [] Tryz.func96
theorem b97 : Body Tryz.prog 97 (Gn.math_bits_Len 114 115) Gn.math_bits_Len_r 8 := B1 Tryz.f97 [] Tryz.func97
theorem b98 : Body Tryz.prog 98 Gn.octs_each Gn.octs_each_r 23 := B1 Tryz.f98 [] Tryz.func98
theorem b99 : Body Tryz.prog 99 Gn.octs_Both_c1 Gn.octs_Both_c1_r 8 := B1 Tryz.f99 [] Tryz.func99
theorem b100 : Body Tryz.prog 100 (Gn.octs_all_c1 101) Gn.octs_all_c1_r 26 := B1 Tryz.f100 [] Tryz.func100
theorem b101 : Body Tryz.prog 101 (Gn.math_bits_TrailingZeros64 0) Gn.math_bits_TrailingZeros64_r 14 := B1 Tryz.f101 [] Tryz.func101
theorem b102 : Body Tryz.prog 102 Gn.octs_Any_c1 Gn.octs_Any_c1_r 8 := B1 Tryz.f102 [] Tryz.func102
theorem b103 : Body Tryz.prog 103 Gn.rx_bareOf Gn.rx_bareOf_r 15 := B1 Tryz.f103 [] Tryz.func103
theorem b104 : Body Tryz.prog 104 (Gn.rx_Empty 116) Gn.rx_Empty_r 12 := B1 Tryz.f104 [] Tryz.func104
theorem b105 : Body Tryz.prog 105 (Gn.slices_insertionSortOrdered_int 111) Gn.slices_insertionSortOrdered_int_r 49 := B1 Tryz.f105 [] Tryz.func105
theorem b111 : Body Tryz.prog 111 (Gn.cmp_Less_int 122) Gn.cmp_Less_int_r 17 := B1 Tryz.f111 [] Tryz.func111
theorem b114 : Body Tryz.prog 114 Gn.math_bits_Len32 Gn.math_bits_Len32_r 19 := B1 Tryz.f114 [] Tryz.func114
theorem b115 : Body Tryz.prog 115 Gn.math_bits_Len64 Gn.math_bits_Len64_r 25 := B1 Tryz.f115 [] Tryz.func115
theorem b116 : Body Tryz.prog 116 (Gn.rx_asked 54 123) Gn.rx_asked_r 10 := B1 Tryz.f116 [] Tryz.func116
theorem b122 : Body Tryz.prog 122 Gn.cmp_isNaN_int Gn.cmp_isNaN_int_r 6 := B1 Tryz.f122 [] Tryz.func122
theorem b123 : Body Tryz.prog 123 (Gn.rx_of 126 125 123 127) Gn.rx_of_r 60 := B1 Tryz.f123 [] Tryz.func123
theorem b125 : Body Tryz.prog 125 (Gn.rx_facts_then 87) Gn.rx_facts_then_r 41 := B1 Tryz.f125 [] Tryz.func125
theorem b127 : Body Tryz.prog 127 Gn.rx_repeated Gn.rx_repeated_r 25 := B1 Tryz.f127 [] Tryz.func127
def tabT : List (Nat × FnD) := [(5, ⟨(Gn.hacklelaw09_DfaRuns 14 24 21 23 19 17 15 18 12 6 16 26 11 25 20 27), Gn.hacklelaw09_DfaRuns_r, 98⟩), (6, ⟨(Gn.hacklelaw09_alive 24 8 29 30 28), Gn.hacklelaw09_alive_r, 45⟩), (8, ⟨(Gn.dfa_Subset 34 33 37 35 36 32 38), Gn.dfa_Subset_r, 124⟩), (11, ⟨(Gn.hackleref09_Same 30), Gn.hackleref09_Same_r, 47⟩), (12, ⟨Gn.hacklelaw09_Plain, Gn.hacklelaw09_Plain_r, 21⟩), (14, ⟨(Gn.dfa_May 43 46 44 45), Gn.dfa_May_r, 51⟩), (15, ⟨Gn.hacklelaw09_Great, Gn.hacklelaw09_Great_r, 40⟩), (16, ⟨(Gn.hackleref09_May 47), Gn.hackleref09_May_r, 90⟩), (17, ⟨(Gn.dfa_Trim 48 14), Gn.dfa_Trim_r, 128⟩), (18, ⟨Gn.hacklelaw09_Of, Gn.hacklelaw09_Of_r, 15⟩), (19, ⟨(Gn.dfa_Tag 24), Gn.dfa_Tag_r, 16⟩), (20, ⟨(Gn.hackleref09_Tag 26), Gn.hackleref09_Tag_r, 16⟩), (21, ⟨(Gn.dfa_Same 50 49), Gn.dfa_Same_r, 24⟩), (22, ⟨Gn.hackleref09_Live, Gn.hackleref09_Live_r, 82⟩), (23, ⟨(Gn.dfa_Step 51 14), Gn.dfa_Step_r, 14⟩), (24, ⟨(Gn.dfa_Run 51 14), Gn.dfa_Run_r, 29⟩), (25, ⟨Gn.hackleref09_Step, Gn.hackleref09_Step_r, 28⟩), (26, ⟨(Gn.hackleref09_Run 25), Gn.hackleref09_Run_r, 24⟩), (27, ⟨(Gn.hackleref09_Trim 22), Gn.hackleref09_Trim_r, 111⟩), (28, ⟨(Gn.nfa_Build 53 56 55 57 52), Gn.nfa_Build_r, 103⟩), (29, ⟨(Gn.hacklelaw09_letters 58), Gn.hacklelaw09_letters_r, 36⟩), (30, ⟨Gn.hackleref08_Ints, Gn.hackleref08_Ints_r, 26⟩), (32, ⟨(Gn.nfa_May 60), Gn.nfa_May_r, 77⟩), (33, ⟨(Gn.class_Part 62 61), Gn.class_Part_r, 19⟩), (34, ⟨(Gn.class_First 65 64), Gn.class_First_r, 9⟩), (35, ⟨(Gn.nfa_Begin 32 66), Gn.nfa_Begin_r, 13⟩), (36, ⟨(Gn.nfa_Go 32 67 60), Gn.nfa_Go_r, 20⟩), (37, ⟨Gn.dfa_key, Gn.dfa_key_r, 23⟩), (38, ⟨(Gn.nfa_Tag 32 60 68), Gn.nfa_Tag_r, 17⟩), (43, ⟨(Gn.class_May 70 61), Gn.class_May_r, 7⟩), (44, ⟨Gn.dfa_within, Gn.dfa_within_r, 15⟩), (45, ⟨(Gn.slices_ContainsFunc_int_int 71), Gn.slices_ContainsFunc_int_int_r, 9⟩), (46, ⟨(Gn.dfa_May_c1 44), Gn.dfa_May_c1_r, 9⟩), (47, ⟨Gn.hackleref02_May, Gn.hackleref02_May_r, 29⟩), (48, ⟨(Gn.dfa_Dfa_live 72 45), Gn.dfa_Dfa_live_r, 49⟩), (49, ⟨Gn.slices_Equal_int_int, Gn.slices_Equal_int_int_r, 26⟩), (50, ⟨Gn.slices_EqualFunc_int_int_int_int, Gn.slices_EqualFunc_int_int_int_int_r, 32⟩), (51, ⟨(Gn.dfa_Dfa_step 44), Gn.dfa_Dfa_step_r, 26⟩), (52, ⟨(Gn.slices_ContainsFunc_api_Re_api_Re 73), Gn.slices_ContainsFunc_api_Re_api_Re_r, 9⟩), (53, ⟨(Gn.nfa_Build_c1 54), Gn.nfa_Build_c1_r, 6⟩), (54, ⟨(Gn.rx_May 75 74), Gn.rx_May_r, 18⟩), (55, ⟨(Gn.nfa_places 76 55), Gn.nfa_places_r, 31⟩), (56, ⟨(Gn.nfa_making_tree 77 80 79 56 78), Gn.nfa_making_tree_r, 75⟩), (57, ⟨(Gn.nfa_union 82 81), Gn.nfa_union_r, 24⟩), (58, ⟨(Gn.hackleref01_Range 83), Gn.hackleref01_Range_r, 17⟩), (59, ⟨Gn.hackleref01_Has, Gn.hackleref01_Has_r, 22⟩), (60, ⟨Gn.nfa_Nfa_rising, Gn.nfa_Nfa_rising_r, 37⟩), (61, ⟨Gn.class_renamed, Gn.class_renamed_r, 40⟩), (62, ⟨(Gn.class_Part_c1 63), Gn.class_Part_c1_r, 21⟩), (63, ⟨(Gn.octs_Has 84 85), Gn.octs_Has_r, 12⟩), (64, ⟨(Gn.octs_Next 86), Gn.octs_Next_r, 15⟩), (65, ⟨(Gn.class_Members 43 87 85), Gn.class_Members_r, 29⟩), (66, ⟨(Gn.nfa_Nfa_with 90 89 88), Gn.nfa_Nfa_with_r, 11⟩), (67, ⟨(Gn.nfa_Nfa_goOn 66), Gn.nfa_Nfa_goOn_r, 57⟩), (68, ⟨Gn.nfa_Nfa_tag, Gn.nfa_Nfa_tag_r, 39⟩), (70, ⟨Gn.class_May_c1, Gn.class_May_c1_r, 10⟩), (71, ⟨Gn.slices_IndexFunc_int_int, Gn.slices_IndexFunc_int_int_r, 19⟩), (72, ⟨Gn.dfa_Dfa_live_c1, Gn.dfa_Dfa_live_c1_r, 12⟩), (73, ⟨Gn.slices_IndexFunc_api_Re_api_Re, Gn.slices_IndexFunc_api_Re_api_Re_r, 19⟩), (74, ⟨(Gn.rx_walked 91), Gn.rx_walked_r, 10⟩), (75, ⟨(Gn.rx_nodes 92 93 52), Gn.rx_nodes_r, 11⟩), (76, ⟨Gn.nfa_copies, Gn.nfa_copies_r, 11⟩), (77, ⟨Gn.nfa_making_place, Gn.nfa_making_place_r, 66⟩), (78, ⟨(Gn.nfa_rims_both 57), Gn.nfa_rims_both_r, 24⟩), (79, ⟨(Gn.nfa_making_then 94 57), Gn.nfa_making_then_r, 56⟩), (80, ⟨(Gn.nfa_making_repeat 95 76 94 79 56 55), Gn.nfa_making_repeat_r, 124⟩), (81, ⟨(Gn.slices_Sort_int_int 97 96), Gn.slices_Sort_int_int_r, 11⟩), (82, ⟨Gn.slices_Compact_int_int, Gn.slices_Compact_int_int_r, 61⟩), (83, ⟨Gn.hackleref01_Made, Gn.hackleref01_Made_r, 27⟩), (84, ⟨(Gn.octs_Both 99 98), Gn.octs_Both_r, 8⟩), (85, ⟨Gn.octs_Of, Gn.octs_Of_r, 23⟩), (86, ⟨(Gn.octs_all 100), Gn.octs_all_r, 4⟩), (87, ⟨(Gn.octs_Any 102 98), Gn.octs_Any_r, 8⟩), (88, ⟨(Gn.slices_DeleteFunc_int_int 71), Gn.slices_DeleteFunc_int_int_r, 42⟩), (89, ⟨Gn.slices_Clone_int_int, Gn.slices_Clone_int_int_r, 8⟩), (90, ⟨(Gn.nfa_Nfa_with_c1 63), Gn.nfa_Nfa_with_c1_r, 13⟩), (91, ⟨(Gn.rx_walk_node 91), Gn.rx_walk_node_r, 39⟩), (92, ⟨(Gn.rx_node 103), Gn.rx_node_r, 71⟩), (93, ⟨(Gn.rx_nodes_c1 75), Gn.rx_nodes_c1_r, 6⟩), (94, ⟨(Gn.nfa_making_behind 57), Gn.nfa_making_behind_r, 32⟩), (95, ⟨(Gn.nfa_bare 104), Gn.nfa_bare_r, 6⟩), (96, ⟨(Gn.slices_pdqsortOrdered_int 111 107 108 106 105 110 112 113 96 109), Gn.slices_pdqsortOrdered_int_r, 134⟩), (97, ⟨(Gn.math_bits_Len 114 115), Gn.math_bits_Len_r, 8⟩), (98, ⟨Gn.octs_each, Gn.octs_each_r, 23⟩), (99, ⟨Gn.octs_Both_c1, Gn.octs_Both_c1_r, 8⟩), (100, ⟨(Gn.octs_all_c1 101), Gn.octs_all_c1_r, 26⟩), (101, ⟨(Gn.math_bits_TrailingZeros64 0), Gn.math_bits_TrailingZeros64_r, 14⟩), (102, ⟨Gn.octs_Any_c1, Gn.octs_Any_c1_r, 8⟩), (103, ⟨Gn.rx_bareOf, Gn.rx_bareOf_r, 15⟩), (104, ⟨(Gn.rx_Empty 116), Gn.rx_Empty_r, 12⟩), (105, ⟨(Gn.slices_insertionSortOrdered_int 111), Gn.slices_insertionSortOrdered_int_r, 49⟩), (111, ⟨(Gn.cmp_Less_int 122), Gn.cmp_Less_int_r, 17⟩), (114, ⟨Gn.math_bits_Len32, Gn.math_bits_Len32_r, 19⟩), (115, ⟨Gn.math_bits_Len64, Gn.math_bits_Len64_r, 25⟩), (116, ⟨(Gn.rx_asked 54 123), Gn.rx_asked_r, 10⟩), (122, ⟨Gn.cmp_isNaN_int, Gn.cmp_isNaN_int_r, 6⟩), (123, ⟨(Gn.rx_of 126 125 123 127), Gn.rx_of_r, 60⟩), (125, ⟨(Gn.rx_facts_then 87), Gn.rx_facts_then_r, 41⟩), (127, ⟨Gn.rx_repeated, Gn.rx_repeated_r, 25⟩)]
theorem tabT_ok : AllT (fun f d => Body Tryz.prog f d.ec d.rs d.nt) tabT := ⟨b5, ⟨b6, ⟨b8, ⟨b11, ⟨b12, ⟨b14, ⟨b15, ⟨b16, ⟨b17, ⟨b18, ⟨b19, ⟨b20, ⟨b21, ⟨b22, ⟨b23, ⟨b24, ⟨b25, ⟨b26, ⟨b27, ⟨b28, ⟨b29, ⟨b30, ⟨b32, ⟨b33, ⟨b34, ⟨b35, ⟨b36, ⟨b37, ⟨b38, ⟨b43, ⟨b44, ⟨b45, ⟨b46, ⟨b47, ⟨b48, ⟨b49, ⟨b50, ⟨b51, ⟨b52, ⟨b53, ⟨b54, ⟨b55, ⟨b56, ⟨b57, ⟨b58, ⟨b59, ⟨b60, ⟨b61, ⟨b62, ⟨b63, ⟨b64, ⟨b65, ⟨b66, ⟨b67, ⟨b68, ⟨b70, ⟨b71, ⟨b72, ⟨b73, ⟨b74, ⟨b75, ⟨b76, ⟨b77, ⟨b78, ⟨b79, ⟨b80, ⟨b81, ⟨b82, ⟨b83, ⟨b84, ⟨b85, ⟨b86, ⟨b87, ⟨b88, ⟨b89, ⟨b90, ⟨b91, ⟨b92, ⟨b93, ⟨b94, ⟨b95, ⟨b96, ⟨b97, ⟨b98, ⟨b99, ⟨b100, ⟨b101, ⟨b102, ⟨b103, ⟨b104, ⟨b105, ⟨b111, ⟨b114, ⟨b115, ⟨b116, ⟨b122, ⟨b123, ⟨b125, ⟨b127, trivial⟩⟩⟩⟩⟩⟩⟩⟩⟩⟩⟩⟩⟩⟩⟩⟩⟩⟩⟩⟩⟩⟩⟩⟩⟩⟩⟩⟩⟩⟩⟩⟩⟩⟩⟩⟩⟩⟩⟩⟩⟩⟩⟩⟩⟩⟩⟩⟩⟩⟩⟩⟩⟩⟩⟩⟩⟩⟩⟩⟩⟩⟩⟩⟩⟩⟩⟩⟩⟩⟩⟩⟩⟩⟩⟩⟩⟩⟩⟩⟩⟩⟩⟩⟩⟩⟩⟩⟩⟩⟩⟩⟩⟩⟩⟩⟩⟩⟩⟩
def tabF : List (Nat × FnE) := []
theorem tabF_ok : AllT (fun f d => BodyE Tryz.prog f d.ef d.rs d.nt) tabF := trivial
def tabD : List (Nat × FnDf) := []
theorem tabD_ok : AllT (fun f d => BodyD Tryz.prog f d.d0 d.d1 d.ec d.nt) tabD := trivial
def kept : List Nat := [89]
def env (γ : Nat → EV) (Ψ : FuncId → List EV → Heap → Option (ER × Heap)) : Env := ⟨Abs.look tabT, Abs.look tabF, Abs.look tabD, γ, Ψ, kept.contains⟩
theorem d5 (h : ∀ xs H, Ψ 5 xs H = none) : Def (env γ Ψ) 5 (Gn.hacklelaw09_DfaRuns 14 24 21 23 19 17 15 18 12 6 16 26 11 25 20 27) Gn.hacklelaw09_DfaRuns_r 98 := ⟨by kernel_rfl, h, by kernel_rfl⟩
theorem d11 (h : ∀ xs H, Ψ 11 xs H = none) : Def (env γ Ψ) 11 (Gn.hackleref09_Same 30) Gn.hackleref09_Same_r 47 := ⟨by kernel_rfl, h, by kernel_rfl⟩
theorem d12 (h : ∀ xs H, Ψ 12 xs H = none) : Def (env γ Ψ) 12 Gn.hacklelaw09_Plain Gn.hacklelaw09_Plain_r 21 := ⟨by kernel_rfl, h, by kernel_rfl⟩
theorem d14 (h : ∀ xs H, Ψ 14 xs H = none) : Def (env γ Ψ) 14 (Gn.dfa_May 43 46 44 45) Gn.dfa_May_r 51 := ⟨by kernel_rfl, h, by kernel_rfl⟩
theorem d15 (h : ∀ xs H, Ψ 15 xs H = none) : Def (env γ Ψ) 15 Gn.hacklelaw09_Great Gn.hacklelaw09_Great_r 40 := ⟨by kernel_rfl, h, by kernel_rfl⟩
theorem d16 (h : ∀ xs H, Ψ 16 xs H = none) : Def (env γ Ψ) 16 (Gn.hackleref09_May 47) Gn.hackleref09_May_r 90 := ⟨by kernel_rfl, h, by kernel_rfl⟩
theorem d17 (h : ∀ xs H, Ψ 17 xs H = none) : Def (env γ Ψ) 17 (Gn.dfa_Trim 48 14) Gn.dfa_Trim_r 128 := ⟨by kernel_rfl, h, by kernel_rfl⟩
theorem d18 (h : ∀ xs H, Ψ 18 xs H = none) : Def (env γ Ψ) 18 Gn.hacklelaw09_Of Gn.hacklelaw09_Of_r 15 := ⟨by kernel_rfl, h, by kernel_rfl⟩
theorem d19 (h : ∀ xs H, Ψ 19 xs H = none) : Def (env γ Ψ) 19 (Gn.dfa_Tag 24) Gn.dfa_Tag_r 16 := ⟨by kernel_rfl, h, by kernel_rfl⟩
theorem d20 (h : ∀ xs H, Ψ 20 xs H = none) : Def (env γ Ψ) 20 (Gn.hackleref09_Tag 26) Gn.hackleref09_Tag_r 16 := ⟨by kernel_rfl, h, by kernel_rfl⟩
theorem d21 (h : ∀ xs H, Ψ 21 xs H = none) : Def (env γ Ψ) 21 (Gn.dfa_Same 50 49) Gn.dfa_Same_r 24 := ⟨by kernel_rfl, h, by kernel_rfl⟩
theorem d22 (h : ∀ xs H, Ψ 22 xs H = none) : Def (env γ Ψ) 22 Gn.hackleref09_Live Gn.hackleref09_Live_r 82 := ⟨by kernel_rfl, h, by kernel_rfl⟩
theorem d23 (h : ∀ xs H, Ψ 23 xs H = none) : Def (env γ Ψ) 23 (Gn.dfa_Step 51 14) Gn.dfa_Step_r 14 := ⟨by kernel_rfl, h, by kernel_rfl⟩
theorem d24 (h : ∀ xs H, Ψ 24 xs H = none) : Def (env γ Ψ) 24 (Gn.dfa_Run 51 14) Gn.dfa_Run_r 29 := ⟨by kernel_rfl, h, by kernel_rfl⟩
theorem d25 (h : ∀ xs H, Ψ 25 xs H = none) : Def (env γ Ψ) 25 Gn.hackleref09_Step Gn.hackleref09_Step_r 28 := ⟨by kernel_rfl, h, by kernel_rfl⟩
theorem d26 (h : ∀ xs H, Ψ 26 xs H = none) : Def (env γ Ψ) 26 (Gn.hackleref09_Run 25) Gn.hackleref09_Run_r 24 := ⟨by kernel_rfl, h, by kernel_rfl⟩
theorem d27 (h : ∀ xs H, Ψ 27 xs H = none) : Def (env γ Ψ) 27 (Gn.hackleref09_Trim 22) Gn.hackleref09_Trim_r 111 := ⟨by kernel_rfl, h, by kernel_rfl⟩
theorem d30 (h : ∀ xs H, Ψ 30 xs H = none) : Def (env γ Ψ) 30 Gn.hackleref08_Ints Gn.hackleref08_Ints_r 26 := ⟨by kernel_rfl, h, by kernel_rfl⟩
theorem d44 (h : ∀ xs H, Ψ 44 xs H = none) : Def (env γ Ψ) 44 Gn.dfa_within Gn.dfa_within_r 15 := ⟨by kernel_rfl, h, by kernel_rfl⟩
theorem d45 (h : ∀ xs H, Ψ 45 xs H = none) : Def (env γ Ψ) 45 (Gn.slices_ContainsFunc_int_int 71) Gn.slices_ContainsFunc_int_int_r 9 := ⟨by kernel_rfl, h, by kernel_rfl⟩
theorem d46 (h : ∀ xs H, Ψ 46 xs H = none) : Def (env γ Ψ) 46 (Gn.dfa_May_c1 44) Gn.dfa_May_c1_r 9 := ⟨by kernel_rfl, h, by kernel_rfl⟩
theorem d48 (h : ∀ xs H, Ψ 48 xs H = none) : Def (env γ Ψ) 48 (Gn.dfa_Dfa_live 72 45) Gn.dfa_Dfa_live_r 49 := ⟨by kernel_rfl, h, by kernel_rfl⟩
theorem d49 (h : ∀ xs H, Ψ 49 xs H = none) : Def (env γ Ψ) 49 Gn.slices_Equal_int_int Gn.slices_Equal_int_int_r 26 := ⟨by kernel_rfl, h, by kernel_rfl⟩
theorem d50 (h : ∀ xs H, Ψ 50 xs H = none) : Def (env γ Ψ) 50 Gn.slices_EqualFunc_int_int_int_int Gn.slices_EqualFunc_int_int_int_int_r 32 := ⟨by kernel_rfl, h, by kernel_rfl⟩
theorem d51 (h : ∀ xs H, Ψ 51 xs H = none) : Def (env γ Ψ) 51 (Gn.dfa_Dfa_step 44) Gn.dfa_Dfa_step_r 26 := ⟨by kernel_rfl, h, by kernel_rfl⟩
theorem d71 (h : ∀ xs H, Ψ 71 xs H = none) : Def (env γ Ψ) 71 Gn.slices_IndexFunc_int_int Gn.slices_IndexFunc_int_int_r 19 := ⟨by kernel_rfl, h, by kernel_rfl⟩
theorem d72 (h : ∀ xs H, Ψ 72 xs H = none) : Def (env γ Ψ) 72 Gn.dfa_Dfa_live_c1 Gn.dfa_Dfa_live_c1_r 12 := ⟨by kernel_rfl, h, by kernel_rfl⟩
theorem env_sound {γ : Nat → EV} {Ψ : FuncId → List EV → Heap → Option (ER × Heap)} (h : ∀ f xs H r, Ψ f xs H = some r → CallsA Tryz.prog γ f xs H fun er H' => er = r.1 ∧ H' = r.2) : (env γ Ψ).Sound Tryz.prog :=
 ⟨fun f d h => tabT_ok.look h, fun f d h => tabF_ok.look h, fun f d h => tabD_ok.look h, h⟩
end Go.Proofs.YtddgppmcbjjliaaGreatDoor
