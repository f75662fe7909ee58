/- The functions of this seat: their bodies, by the numbers that they have here; printed by a program of this work (wip/tools/gencode.py). -/
import Derived.Test.YtcjnpmaljfkpgaaDoorProg
import Derived.Test.YtcjnpmaljfkpgaaDoorGenD
import Derived.Test.YtcjnpmaljfkpgaaDoorGenB
import Derived.KernelRfl
namespace Go.Proofs.YtcjnpmaljfkpgaaDoor
open Go Abs
set_option maxRecDepth 100000
theorem b8 : Body Tryd.prog 8 (Abs.hacklelaw03_DigitsParse 39 37 36 40 38) Abs.hacklelaw03_DigitsParse_r 45 := ⟨Tryd.f8, Tryd.f8.body.getD .skip, [], Tryd.func8, by kernel_rfl, by kernel_rfl, by kernel_rfl, by kernel_rfl, by kernel_rfl⟩
theorem b9 : Body Tryd.prog 9 (Abs.hacklelaw03_DigitsPrint 43 37 41 36 42) Abs.hacklelaw03_DigitsPrint_r 53 := ⟨Tryd.f9, Tryd.f9.body.getD .skip, [], Tryd.func9, by kernel_rfl, by kernel_rfl, by kernel_rfl, by kernel_rfl, by kernel_rfl⟩
theorem b10 : Body Tryd.prog 10 (Abs.hacklelaw03_DigitsCanon 43 37 36 38 42) Abs.hacklelaw03_DigitsCanon_r 64 := ⟨Tryd.f10, Tryd.f10.body.getD .skip, [], Tryd.func10, by kernel_rfl, by kernel_rfl, by kernel_rfl, by kernel_rfl, by kernel_rfl⟩
theorem b36 : Body Tryd.prog 36 (Abs.hacklelaw03_alive 43 37 41) Abs.hacklelaw03_alive_r 34 := ⟨Tryd.f36, Tryd.f36.body.getD .skip, [], Tryd.func36, by kernel_rfl, by kernel_rfl, by kernel_rfl, by kernel_rfl, by kernel_rfl⟩
theorem b37 : Body Tryd.prog 37 (Abs.digits_Parse 39 54) Abs.digits_Parse_r 55 := ⟨Tryd.f37, Tryd.f37.body.getD .skip, [], Tryd.func37, by kernel_rfl, by kernel_rfl, by kernel_rfl, by kernel_rfl, by kernel_rfl⟩
theorem b38 : Body Tryd.prog 38 (Abs.hackleref03_Parse 40) Abs.hackleref03_Parse_r 60 := ⟨Tryd.f38, Tryd.f38.body.getD .skip, [], Tryd.func38, by kernel_rfl, by kernel_rfl, by kernel_rfl, by kernel_rfl, by kernel_rfl⟩
theorem b39 : Body Tryd.prog 39 (Abs.digits_Digit 54 55) Abs.digits_Digit_r 16 := ⟨Tryd.f39, Tryd.f39.body.getD .skip, [], Tryd.func39, by kernel_rfl, by kernel_rfl, by kernel_rfl, by kernel_rfl, by kernel_rfl⟩
theorem b40 : Body Tryd.prog 40 Abs.hackleref03_Digit Abs.hackleref03_Digit_r 45 := ⟨Tryd.f40, Tryd.f40.body.getD .skip, [], Tryd.func40, by kernel_rfl, by kernel_rfl, by kernel_rfl, by kernel_rfl, by kernel_rfl⟩
theorem b41 : Body Tryd.prog 41 (Abs.digits_Print 54 56) Abs.digits_Print_r 14 := ⟨Tryd.f41, Tryd.f41.body.getD .skip, [], Tryd.func41, by kernel_rfl, by kernel_rfl, by kernel_rfl, by kernel_rfl, by kernel_rfl⟩
theorem b42 : Body Tryd.prog 42 Abs.hackleref03_Print Abs.hackleref03_Print_r 38 := ⟨Tryd.f42, Tryd.f42.body.getD .skip, [], Tryd.func42, by kernel_rfl, by kernel_rfl, by kernel_rfl, by kernel_rfl, by kernel_rfl⟩
theorem b43 : Body Tryd.prog 43 (Abs.digits_Canon 37 41) Abs.digits_Canon_r 26 := ⟨Tryd.f43, Tryd.f43.body.getD .skip, [], Tryd.func43, by kernel_rfl, by kernel_rfl, by kernel_rfl, by kernel_rfl, by kernel_rfl⟩
theorem b54 : Body Tryd.prog 54 Abs.digits_based Abs.digits_based_r 9 := ⟨Tryd.f54, Tryd.f54.body.getD .skip, [], Tryd.func54, by kernel_rfl, by kernel_rfl, by kernel_rfl, by kernel_rfl, by kernel_rfl⟩
theorem b55 : Body Tryd.prog 55 Abs.digits_value Abs.digits_value_r 35 := ⟨Tryd.f55, Tryd.f55.body.getD .skip, [], Tryd.func55, by kernel_rfl, by kernel_rfl, by kernel_rfl, by kernel_rfl, by kernel_rfl⟩
theorem b56 : Body Tryd.prog 56 (Abs.strconv_FormatUint 60) Abs.strconv_FormatUint_r 8 := ⟨Tryd.f56, Tryd.f56.body.getD .skip, [], Tryd.func56, by kernel_rfl, by kernel_rfl, by kernel_rfl, by kernel_rfl, by kernel_rfl⟩
theorem b58 : Body Tryd.prog 58 (Abs.math_bits_TrailingZeros64 0) Abs.math_bits_TrailingZeros64_r 14 := ⟨Tryd.f58, Tryd.f58.body.getD .skip, [], Tryd.func58, by kernel_rfl, by kernel_rfl, by kernel_rfl, by kernel_rfl, by kernel_rfl⟩
theorem b60 : Body Tryd.prog 60 (Abs.internal_strconv_FormatUint 63 64 62 61) Abs.internal_strconv_FormatUint_r 32 := ⟨Tryd.f60, Tryd.f60.body.getD .skip, [], Tryd.func60, by kernel_rfl, by kernel_rfl, by kernel_rfl, by kernel_rfl, by kernel_rfl⟩
theorem b61 : Body Tryd.prog 61 Abs.internal_strconv_small Abs.internal_strconv_small_r 15 := ⟨Tryd.f61, Tryd.f61.body.getD .skip, [], Tryd.func61, by kernel_rfl, by kernel_rfl, by kernel_rfl, by kernel_rfl, by kernel_rfl⟩
theorem b62 : Body Tryd.prog 62 (Abs.internal_strconv_numDigits 67 65 66 1) Abs.internal_strconv_numDigits_r 15 := ⟨Tryd.f62, Tryd.f62.body.getD .skip, [], Tryd.func62, by kernel_rfl, by kernel_rfl, by kernel_rfl, by kernel_rfl, by kernel_rfl⟩
theorem b63 : Body Tryd.prog 63 Abs.internal_strconv_formatBase10 Abs.internal_strconv_formatBase10_r 167 := ⟨Tryd.f63, Tryd.f63.body.getD .skip, [], Tryd.func63, by kernel_rfl, by kernel_rfl, by kernel_rfl, by kernel_rfl, by kernel_rfl⟩
theorem b64 : Body Tryd.prog 64 (Abs.internal_strconv_formatBits 68 69 9) Abs.internal_strconv_formatBits_r 102 := ⟨Tryd.f64, Tryd.f64.body.getD .skip, [], Tryd.func64, by kernel_rfl, by kernel_rfl, by kernel_rfl, by kernel_rfl, by kernel_rfl⟩
theorem b65 : Body Tryd.prog 65 Abs.internal_strconv_log10Pow2 Abs.internal_strconv_log10Pow2_r 6 := ⟨Tryd.f65, Tryd.f65.body.getD .skip, [], Tryd.func65, by kernel_rfl, by kernel_rfl, by kernel_rfl, by kernel_rfl, by kernel_rfl⟩
theorem b66 : Body Tryd.prog 66 Abs.math_bits_Len64 Abs.math_bits_Len64_r 25 := ⟨Tryd.f66, Tryd.f66.body.getD .skip, [], Tryd.func66, by kernel_rfl, by kernel_rfl, by kernel_rfl, by kernel_rfl, by kernel_rfl⟩
theorem b67 : Body Tryd.prog 67 Abs.internal_strconv_bool2_int Abs.internal_strconv_bool2_int_r 4 := ⟨Tryd.f67, Tryd.f67.body.getD .skip, [], Tryd.func67, by kernel_rfl, by kernel_rfl, by kernel_rfl, by kernel_rfl, by kernel_rfl⟩
theorem b68 : Body Tryd.prog 68 Abs.internal_strconv_isPowerOfTwo Abs.internal_strconv_isPowerOfTwo_r 8 := ⟨Tryd.f68, Tryd.f68.body.getD .skip, [], Tryd.func68, by kernel_rfl, by kernel_rfl, by kernel_rfl, by kernel_rfl, by kernel_rfl⟩
theorem b69 : Body Tryd.prog 69 (Abs.math_bits_TrailingZeros 70 58) Abs.math_bits_TrailingZeros_r 8 := ⟨Tryd.f69, Tryd.f69.body.getD .skip, [], Tryd.func69, by kernel_rfl, by kernel_rfl, by kernel_rfl, by kernel_rfl, by kernel_rfl⟩
theorem b70 : Body Tryd.prog 70 (Abs.math_bits_TrailingZeros32 2) Abs.math_bits_TrailingZeros32_r 14 := ⟨Tryd.f70, Tryd.f70.body.getD .skip, [], Tryd.func70, by kernel_rfl, by kernel_rfl, by kernel_rfl, by kernel_rfl, by kernel_rfl⟩
end Go.Proofs.YtcjnpmaljfkpgaaDoor
