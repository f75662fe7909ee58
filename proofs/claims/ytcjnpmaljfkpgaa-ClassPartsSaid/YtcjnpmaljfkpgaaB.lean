/- The functions of this seat: their bodies, by the numbers that they have here; printed by a program of this work (wip/tools/gencode.py). -/
import Derived.Test.YtcjnpmaljfkpgaaProg
import Derived.Test.YtcjnpmaljfkpgaaGenA
import Derived.KernelRfl
namespace Go.Proofs.Ytcjnpmaljfkpgaa
open Go Abs
set_option maxRecDepth 100000
theorem b3 : Body Try.prog 3 (Abs.hacklelaw02_ClassLeast 6 5 7 8) Abs.hacklelaw02_ClassLeast_r 37 := ⟨Try.f3, Try.f3.body.getD .skip, [], Try.func3, by kernel_rfl, by kernel_rfl, by kernel_rfl, by kernel_rfl, by kernel_rfl⟩
theorem b4 : Body Try.prog 4 (Abs.hacklelaw02_ClassParts 11 6 12 9 5 10) Abs.hacklelaw02_ClassParts_r 35 := ⟨Try.f4, Try.f4.body.getD .skip, [], Try.func4, by kernel_rfl, by kernel_rfl, by kernel_rfl, by kernel_rfl, by kernel_rfl⟩
theorem b5 : Body Try.prog 5 (Abs.hacklelaw02_alive 6 13) Abs.hacklelaw02_alive_r 33 := ⟨Try.f5, Try.f5.body.getD .skip, [], Try.func5, by kernel_rfl, by kernel_rfl, by kernel_rfl, by kernel_rfl, by kernel_rfl⟩
theorem b6 : Body Try.prog 6 (Abs.class_Part 15 14) Abs.class_Part_r 19 := ⟨Try.f6, Try.f6.body.getD .skip, [], Try.func6, by kernel_rfl, by kernel_rfl, by kernel_rfl, by kernel_rfl, by kernel_rfl⟩
theorem b7 : Body Try.prog 7 Abs.hackleref02_May Abs.hackleref02_May_r 29 := ⟨Try.f7, Try.f7.body.getD .skip, [], Try.func7, by kernel_rfl, by kernel_rfl, by kernel_rfl, by kernel_rfl, by kernel_rfl⟩
theorem b8 : Body Try.prog 8 (Abs.hackleref02_Whole 17 7) Abs.hackleref02_Whole_r 36 := ⟨Try.f8, Try.f8.body.getD .skip, [], Try.func8, by kernel_rfl, by kernel_rfl, by kernel_rfl, by kernel_rfl, by kernel_rfl⟩
theorem b9 : Body Try.prog 9 Abs.hacklelaw02_Plain Abs.hacklelaw02_Plain_r 8 := ⟨Try.f9, Try.f9.body.getD .skip, [], Try.func9, by kernel_rfl, by kernel_rfl, by kernel_rfl, by kernel_rfl, by kernel_rfl⟩
theorem b10 : Body Try.prog 10 (Abs.hackleref02_Part 18) Abs.hackleref02_Part_r 44 := ⟨Try.f10, Try.f10.body.getD .skip, [], Try.func10, by kernel_rfl, by kernel_rfl, by kernel_rfl, by kernel_rfl, by kernel_rfl⟩
theorem b11 : Body Try.prog 11 (Abs.class_May 19 14) Abs.class_May_r 7 := ⟨Try.f11, Try.f11.body.getD .skip, [], Try.func11, by kernel_rfl, by kernel_rfl, by kernel_rfl, by kernel_rfl, by kernel_rfl⟩
theorem b12 : Body Try.prog 12 (Abs.class_Whole 11 16) Abs.class_Whole_r 39 := ⟨Try.f12, Try.f12.body.getD .skip, [], Try.func12, by kernel_rfl, by kernel_rfl, by kernel_rfl, by kernel_rfl, by kernel_rfl⟩
theorem b13 : Body Try.prog 13 (Abs.hackleref01_Range 20) Abs.hackleref01_Range_r 17 := ⟨Try.f13, Try.f13.body.getD .skip, [], Try.func13, by kernel_rfl, by kernel_rfl, by kernel_rfl, by kernel_rfl, by kernel_rfl⟩
theorem b14 : Body Try.prog 14 Abs.class_renamed Abs.class_renamed_r 40 := ⟨Try.f14, Try.f14.body.getD .skip, [], Try.func14, by kernel_rfl, by kernel_rfl, by kernel_rfl, by kernel_rfl, by kernel_rfl⟩
theorem b15 : Body Try.prog 15 (Abs.class_Part_c1 16) Abs.class_Part_c1_r 21 := ⟨Try.f15, Try.f15.body.getD .skip, [], Try.func15, by kernel_rfl, by kernel_rfl, by kernel_rfl, by kernel_rfl, by kernel_rfl⟩
theorem b16 : Body Try.prog 16 (Abs.octs_Has 21 22) Abs.octs_Has_r 12 := ⟨Try.f16, Try.f16.body.getD .skip, [], Try.func16, by kernel_rfl, by kernel_rfl, by kernel_rfl, by kernel_rfl, by kernel_rfl⟩
theorem b17 : Body Try.prog 17 Abs.hackleref01_Has Abs.hackleref01_Has_r 22 := ⟨Try.f17, Try.f17.body.getD .skip, [], Try.func17, by kernel_rfl, by kernel_rfl, by kernel_rfl, by kernel_rfl, by kernel_rfl⟩
theorem b18 : Body Try.prog 18 (Abs.hackleref02_alike 17) Abs.hackleref02_alike_r 27 := ⟨Try.f18, Try.f18.body.getD .skip, [], Try.func18, by kernel_rfl, by kernel_rfl, by kernel_rfl, by kernel_rfl, by kernel_rfl⟩
theorem b19 : Body Try.prog 19 Abs.class_May_c1 Abs.class_May_c1_r 10 := ⟨Try.f19, Try.f19.body.getD .skip, [], Try.func19, by kernel_rfl, by kernel_rfl, by kernel_rfl, by kernel_rfl, by kernel_rfl⟩
theorem b20 : Body Try.prog 20 Abs.hackleref01_Made Abs.hackleref01_Made_r 27 := ⟨Try.f20, Try.f20.body.getD .skip, [], Try.func20, by kernel_rfl, by kernel_rfl, by kernel_rfl, by kernel_rfl, by kernel_rfl⟩
theorem b21 : Body Try.prog 21 (Abs.octs_Both 24 23) Abs.octs_Both_r 8 := ⟨Try.f21, Try.f21.body.getD .skip, [], Try.func21, by kernel_rfl, by kernel_rfl, by kernel_rfl, by kernel_rfl, by kernel_rfl⟩
theorem b22 : Body Try.prog 22 Abs.octs_Of Abs.octs_Of_r 23 := ⟨Try.f22, Try.f22.body.getD .skip, [], Try.func22, by kernel_rfl, by kernel_rfl, by kernel_rfl, by kernel_rfl, by kernel_rfl⟩
theorem b23 : Body Try.prog 23 Abs.octs_each Abs.octs_each_r 23 := ⟨Try.f23, Try.f23.body.getD .skip, [], Try.func23, by kernel_rfl, by kernel_rfl, by kernel_rfl, by kernel_rfl, by kernel_rfl⟩
theorem b24 : Body Try.prog 24 Abs.octs_Both_c1 Abs.octs_Both_c1_r 8 := ⟨Try.f24, Try.f24.body.getD .skip, [], Try.func24, by kernel_rfl, by kernel_rfl, by kernel_rfl, by kernel_rfl, by kernel_rfl⟩
end Go.Proofs.Ytcjnpmaljfkpgaa
