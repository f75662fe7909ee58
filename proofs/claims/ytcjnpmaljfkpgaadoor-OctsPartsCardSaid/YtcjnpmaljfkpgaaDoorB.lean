/- The functions of this seat: their bodies, by the numbers that they have here; printed by a program of this work (wip/tools/gencode.py). -/
import Derived.Test.YtcjnpmaljfkpgaaDoorProg
import Derived.Test.YtcjnpmaljfkpgaaDoorGenC
import Derived.KernelRfl
namespace Go.Proofs.YtcjnpmaljfkpgaaDoor
open Go Abs
set_option maxRecDepth 100000
theorem b3 : Body Tryd.prog 3 (Abs.hacklelaw01_OctsMakes 11 13 15 12 14) Abs.hacklelaw01_OctsMakes_r 41 := ⟨Tryd.f3, Tryd.f3.body.getD .skip, [], Tryd.func3, by kernel_rfl, by kernel_rfl, by kernel_rfl, by kernel_rfl, by kernel_rfl⟩
theorem b4 : Body Tryd.prog 4 (Abs.hacklelaw01_OctsAsk 11 17 16 18 19) Abs.hacklelaw01_OctsAsk_r 60 := ⟨Tryd.f4, Tryd.f4.body.getD .skip, [], Tryd.func4, by kernel_rfl, by kernel_rfl, by kernel_rfl, by kernel_rfl, by kernel_rfl⟩
theorem b5 : Body Tryd.prog 5 (Abs.hacklelaw01_OctsParts 11 22 21 18 20 23) Abs.hacklelaw01_OctsParts_r 59 := ⟨Tryd.f5, Tryd.f5.body.getD .skip, [], Tryd.func5, by kernel_rfl, by kernel_rfl, by kernel_rfl, by kernel_rfl, by kernel_rfl⟩
theorem b6 : Body Tryd.prog 6 (Abs.hacklelaw01_OctsTwo 11 26 15 24 22 21 25 20 23) Abs.hacklelaw01_OctsTwo_r 52 := ⟨Tryd.f6, Tryd.f6.body.getD .skip, [], Tryd.func6, by kernel_rfl, by kernel_rfl, by kernel_rfl, by kernel_rfl, by kernel_rfl⟩
theorem b7 : Body Tryd.prog 7 (Abs.hacklelaw02_ClassAsk 35 30 28 33 29 27 26 31 32 34) Abs.hacklelaw02_ClassAsk_r 53 := ⟨Tryd.f7, Tryd.f7.body.getD .skip, [], Tryd.func7, by kernel_rfl, by kernel_rfl, by kernel_rfl, by kernel_rfl, by kernel_rfl⟩
theorem b11 : Body Tryd.prog 11 (Abs.hacklelaw01_alive 18 19 12 14) Abs.hacklelaw01_alive_r 16 := ⟨Tryd.f11, Tryd.f11.body.getD .skip, [], Tryd.func11, by kernel_rfl, by kernel_rfl, by kernel_rfl, by kernel_rfl, by kernel_rfl⟩
theorem b12 : Body Tryd.prog 12 Abs.octs_Of Abs.octs_Of_r 23 := ⟨Tryd.f12, Tryd.f12.body.getD .skip, [], Tryd.func12, by kernel_rfl, by kernel_rfl, by kernel_rfl, by kernel_rfl, by kernel_rfl⟩
theorem b13 : Body Tryd.prog 13 Abs.hackleref01_Made Abs.hackleref01_Made_r 27 := ⟨Tryd.f13, Tryd.f13.body.getD .skip, [], Tryd.func13, by kernel_rfl, by kernel_rfl, by kernel_rfl, by kernel_rfl, by kernel_rfl⟩
theorem b14 : Body Tryd.prog 14 Abs.octs_Range Abs.octs_Range_r 25 := ⟨Tryd.f14, Tryd.f14.body.getD .skip, [], Tryd.func14, by kernel_rfl, by kernel_rfl, by kernel_rfl, by kernel_rfl, by kernel_rfl⟩
theorem b15 : Body Tryd.prog 15 (Abs.hackleref01_Range 13) Abs.hackleref01_Range_r 17 := ⟨Tryd.f15, Tryd.f15.body.getD .skip, [], Tryd.func15, by kernel_rfl, by kernel_rfl, by kernel_rfl, by kernel_rfl, by kernel_rfl⟩
theorem b16 : Body Tryd.prog 16 (Abs.octs_Bytes 44) Abs.octs_Bytes_r 13 := ⟨Tryd.f16, Tryd.f16.body.getD .skip, [], Tryd.func16, by kernel_rfl, by kernel_rfl, by kernel_rfl, by kernel_rfl, by kernel_rfl⟩
theorem b17 : Body Tryd.prog 17 (Abs.hackleref01_Bytes 26) Abs.hackleref01_Bytes_r 18 := ⟨Tryd.f17, Tryd.f17.body.getD .skip, [], Tryd.func17, by kernel_rfl, by kernel_rfl, by kernel_rfl, by kernel_rfl, by kernel_rfl⟩
theorem b18 : Body Tryd.prog 18 (Abs.octs_Count 45) Abs.octs_Count_r 16 := ⟨Tryd.f18, Tryd.f18.body.getD .skip, [], Tryd.func18, by kernel_rfl, by kernel_rfl, by kernel_rfl, by kernel_rfl, by kernel_rfl⟩
theorem b19 : Body Tryd.prog 19 (Abs.octs_Next 44) Abs.octs_Next_r 15 := ⟨Tryd.f19, Tryd.f19.body.getD .skip, [], Tryd.func19, by kernel_rfl, by kernel_rfl, by kernel_rfl, by kernel_rfl, by kernel_rfl⟩
theorem b20 : Body Tryd.prog 20 (Abs.octs_Less 47 46) Abs.octs_Less_r 8 := ⟨Tryd.f20, Tryd.f20.body.getD .skip, [], Tryd.func20, by kernel_rfl, by kernel_rfl, by kernel_rfl, by kernel_rfl, by kernel_rfl⟩
theorem b21 : Body Tryd.prog 21 (Abs.octs_Both 48 46) Abs.octs_Both_r 8 := ⟨Tryd.f21, Tryd.f21.body.getD .skip, [], Tryd.func21, by kernel_rfl, by kernel_rfl, by kernel_rfl, by kernel_rfl, by kernel_rfl⟩
theorem b22 : Body Tryd.prog 22 (Abs.octs_Any 49 46) Abs.octs_Any_r 8 := ⟨Tryd.f22, Tryd.f22.body.getD .skip, [], Tryd.func22, by kernel_rfl, by kernel_rfl, by kernel_rfl, by kernel_rfl, by kernel_rfl⟩
theorem b23 : Body Tryd.prog 23 (Abs.octs_Not 20 14) Abs.octs_Not_r 6 := ⟨Tryd.f23, Tryd.f23.body.getD .skip, [], Tryd.func23, by kernel_rfl, by kernel_rfl, by kernel_rfl, by kernel_rfl, by kernel_rfl⟩
theorem b24 : Body Tryd.prog 24 (Abs.hackleref01_Two 13 50) Abs.hackleref01_Two_r 64 := ⟨Tryd.f24, Tryd.f24.body.getD .skip, [], Tryd.func24, by kernel_rfl, by kernel_rfl, by kernel_rfl, by kernel_rfl, by kernel_rfl⟩
theorem b25 : Body Tryd.prog 25 (Abs.octs_Has 21 12) Abs.octs_Has_r 12 := ⟨Tryd.f25, Tryd.f25.body.getD .skip, [], Tryd.func25, by kernel_rfl, by kernel_rfl, by kernel_rfl, by kernel_rfl, by kernel_rfl⟩
theorem b26 : Body Tryd.prog 26 Abs.hackleref01_Has Abs.hackleref01_Has_r 22 := ⟨Tryd.f26, Tryd.f26.body.getD .skip, [], Tryd.func26, by kernel_rfl, by kernel_rfl, by kernel_rfl, by kernel_rfl, by kernel_rfl⟩
theorem b27 : Body Tryd.prog 27 (Abs.hacklelaw02_alive 51 15) Abs.hacklelaw02_alive_r 33 := ⟨Tryd.f27, Tryd.f27.body.getD .skip, [], Tryd.func27, by kernel_rfl, by kernel_rfl, by kernel_rfl, by kernel_rfl, by kernel_rfl⟩
theorem b28 : Body Tryd.prog 28 (Abs.class_Members 30 22 12) Abs.class_Members_r 29 := ⟨Tryd.f28, Tryd.f28.body.getD .skip, [], Tryd.func28, by kernel_rfl, by kernel_rfl, by kernel_rfl, by kernel_rfl, by kernel_rfl⟩
theorem b29 : Body Tryd.prog 29 Abs.hacklelaw02_Of Abs.hacklelaw02_Of_r 8 := ⟨Tryd.f29, Tryd.f29.body.getD .skip, [], Tryd.func29, by kernel_rfl, by kernel_rfl, by kernel_rfl, by kernel_rfl, by kernel_rfl⟩
theorem b30 : Body Tryd.prog 30 (Abs.class_May 53 52) Abs.class_May_r 7 := ⟨Tryd.f30, Tryd.f30.body.getD .skip, [], Tryd.func30, by kernel_rfl, by kernel_rfl, by kernel_rfl, by kernel_rfl, by kernel_rfl⟩
theorem b31 : Body Tryd.prog 31 Abs.hackleref02_May Abs.hackleref02_May_r 29 := ⟨Tryd.f31, Tryd.f31.body.getD .skip, [], Tryd.func31, by kernel_rfl, by kernel_rfl, by kernel_rfl, by kernel_rfl, by kernel_rfl⟩
theorem b32 : Body Tryd.prog 32 (Abs.hackleref02_Members 13 31) Abs.hackleref02_Members_r 26 := ⟨Tryd.f32, Tryd.f32.body.getD .skip, [], Tryd.func32, by kernel_rfl, by kernel_rfl, by kernel_rfl, by kernel_rfl, by kernel_rfl⟩
theorem b33 : Body Tryd.prog 33 (Abs.class_Whole 30 25) Abs.class_Whole_r 39 := ⟨Tryd.f33, Tryd.f33.body.getD .skip, [], Tryd.func33, by kernel_rfl, by kernel_rfl, by kernel_rfl, by kernel_rfl, by kernel_rfl⟩
theorem b34 : Body Tryd.prog 34 (Abs.hackleref02_Whole 26 31) Abs.hackleref02_Whole_r 36 := ⟨Tryd.f34, Tryd.f34.body.getD .skip, [], Tryd.func34, by kernel_rfl, by kernel_rfl, by kernel_rfl, by kernel_rfl, by kernel_rfl⟩
theorem b35 : Body Tryd.prog 35 (Abs.class_First 28 19) Abs.class_First_r 9 := ⟨Tryd.f35, Tryd.f35.body.getD .skip, [], Tryd.func35, by kernel_rfl, by kernel_rfl, by kernel_rfl, by kernel_rfl, by kernel_rfl⟩
theorem b44 : Body Tryd.prog 44 (Abs.octs_all 57) Abs.octs_all_r 4 := ⟨Tryd.f44, Tryd.f44.body.getD .skip, [], Tryd.func44, by kernel_rfl, by kernel_rfl, by kernel_rfl, by kernel_rfl, by kernel_rfl⟩
theorem b45 : Body Tryd.prog 45 Abs.math_bits_OnesCount64 Abs.math_bits_OnesCount64_r 35 := ⟨Tryd.f45, Tryd.f45.body.getD .skip, [], Tryd.func45, by kernel_rfl, by kernel_rfl, by kernel_rfl, by kernel_rfl, by kernel_rfl⟩
theorem b46 : Body Tryd.prog 46 Abs.octs_each Abs.octs_each_r 23 := ⟨Tryd.f46, Tryd.f46.body.getD .skip, [], Tryd.func46, by kernel_rfl, by kernel_rfl, by kernel_rfl, by kernel_rfl, by kernel_rfl⟩
theorem b47 : Body Tryd.prog 47 Abs.octs_Less_c1 Abs.octs_Less_c1_r 8 := ⟨Tryd.f47, Tryd.f47.body.getD .skip, [], Tryd.func47, by kernel_rfl, by kernel_rfl, by kernel_rfl, by kernel_rfl, by kernel_rfl⟩
theorem b48 : Body Tryd.prog 48 Abs.octs_Both_c1 Abs.octs_Both_c1_r 8 := ⟨Tryd.f48, Tryd.f48.body.getD .skip, [], Tryd.func48, by kernel_rfl, by kernel_rfl, by kernel_rfl, by kernel_rfl, by kernel_rfl⟩
theorem b49 : Body Tryd.prog 49 Abs.octs_Any_c1 Abs.octs_Any_c1_r 8 := ⟨Tryd.f49, Tryd.f49.body.getD .skip, [], Tryd.func49, by kernel_rfl, by kernel_rfl, by kernel_rfl, by kernel_rfl, by kernel_rfl⟩
theorem b50 : Body Tryd.prog 50 (Abs.hackleref01_Marks 26) Abs.hackleref01_Marks_r 15 := ⟨Tryd.f50, Tryd.f50.body.getD .skip, [], Tryd.func50, by kernel_rfl, by kernel_rfl, by kernel_rfl, by kernel_rfl, by kernel_rfl⟩
theorem b51 : Body Tryd.prog 51 (Abs.class_Part 59 52) Abs.class_Part_r 19 := ⟨Tryd.f51, Tryd.f51.body.getD .skip, [], Tryd.func51, by kernel_rfl, by kernel_rfl, by kernel_rfl, by kernel_rfl, by kernel_rfl⟩
theorem b52 : Body Tryd.prog 52 Abs.class_renamed Abs.class_renamed_r 40 := ⟨Tryd.f52, Tryd.f52.body.getD .skip, [], Tryd.func52, by kernel_rfl, by kernel_rfl, by kernel_rfl, by kernel_rfl, by kernel_rfl⟩
theorem b53 : Body Tryd.prog 53 Abs.class_May_c1 Abs.class_May_c1_r 10 := ⟨Tryd.f53, Tryd.f53.body.getD .skip, [], Tryd.func53, by kernel_rfl, by kernel_rfl, by kernel_rfl, by kernel_rfl, by kernel_rfl⟩
theorem b57 : Body Tryd.prog 57 (Abs.octs_all_c1 58) Abs.octs_all_c1_r 26 := ⟨Tryd.f57, Tryd.f57.body.getD .skip, [], Tryd.func57, by kernel_rfl, by kernel_rfl, by kernel_rfl, by kernel_rfl, by kernel_rfl⟩
theorem b58 : Body Tryd.prog 58 (Abs.math_bits_TrailingZeros64 0) Abs.math_bits_TrailingZeros64_r 14 := ⟨Tryd.f58, Tryd.f58.body.getD .skip, [], Tryd.func58, by kernel_rfl, by kernel_rfl, by kernel_rfl, by kernel_rfl, by kernel_rfl⟩
theorem b59 : Body Tryd.prog 59 (Abs.class_Part_c1 25) Abs.class_Part_c1_r 21 := ⟨Tryd.f59, Tryd.f59.body.getD .skip, [], Tryd.func59, by kernel_rfl, by kernel_rfl, by kernel_rfl, by kernel_rfl, by kernel_rfl⟩
end Go.Proofs.YtcjnpmaljfkpgaaDoor
