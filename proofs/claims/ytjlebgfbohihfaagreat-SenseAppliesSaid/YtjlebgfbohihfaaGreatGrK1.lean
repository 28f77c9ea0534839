/-
  The abstract code of functions is the code of the program: 1.
-/
import Derived.Test.YtjlebgfbohihfaaGreatGrT
import Derived.Test.YtjlebgfbohihfaaGreatChecked
namespace Go.Proofs.YtjlebgfbohihfaaGreat.Am
open Go Go.Proofs
theorem ck3 : funOk Tryz.prog Tryz.f3 F3 = true := by kernel_rfl
theorem cf3 : CodeFor Tryz.prog 3 F3 := .of (F := Tryz.f3) Tryz.func3 ck3
theorem ck4 : funOk Tryz.prog Tryz.f4 F4 = true := by kernel_rfl
theorem cf4 : CodeFor Tryz.prog 4 F4 := .of (F := Tryz.f4) Tryz.func4 ck4
theorem ck5 : funOk Tryz.prog Tryz.f5 F5 = true := by kernel_rfl
theorem cf5 : CodeFor Tryz.prog 5 F5 := .of (F := Tryz.f5) Tryz.func5 ck5
theorem ck6 : funOk Tryz.prog Tryz.f6 F6 = true := by kernel_rfl
theorem cf6 : CodeFor Tryz.prog 6 F6 := .of (F := Tryz.f6) Tryz.func6 ck6
theorem ck7 : funOk Tryz.prog Tryz.f7 F7 = true := by kernel_rfl
theorem cf7 : CodeFor Tryz.prog 7 F7 := .of (F := Tryz.f7) Tryz.func7 ck7
theorem ck8 : funOk Tryz.prog Tryz.f8 F8 = true := by kernel_rfl
theorem cf8 : CodeFor Tryz.prog 8 F8 := .of (F := Tryz.f8) Tryz.func8 ck8
theorem ck9 : funOk Tryz.prog Tryz.f9 F9 = true := by kernel_rfl
theorem cf9 : CodeFor Tryz.prog 9 F9 := .of (F := Tryz.f9) Tryz.func9 ck9
theorem ck10 : funOk Tryz.prog Tryz.f10 F10 = true := by kernel_rfl
theorem cf10 : CodeFor Tryz.prog 10 F10 := .of (F := Tryz.f10) Tryz.func10 ck10
theorem ck11 : funOk Tryz.prog Tryz.f11 F11 = true := by kernel_rfl
theorem cf11 : CodeFor Tryz.prog 11 F11 := .of (F := Tryz.f11) Tryz.func11 ck11
theorem ck12 : funOk Tryz.prog Tryz.f12 F12 = true := by kernel_rfl
theorem cf12 : CodeFor Tryz.prog 12 F12 := .of (F := Tryz.f12) Tryz.func12 ck12
theorem ck13 : funOk Tryz.prog Tryz.f13 F13 = true := by kernel_rfl
theorem cf13 : CodeFor Tryz.prog 13 F13 := .of (F := Tryz.f13) Tryz.func13 ck13
theorem ck14 : funOk Tryz.prog Tryz.f14 F14 = true := by kernel_rfl
theorem cf14 : CodeFor Tryz.prog 14 F14 := .of (F := Tryz.f14) Tryz.func14 ck14
theorem ck15 : funOk Tryz.prog Tryz.f15 F15 = true := by kernel_rfl
theorem cf15 : CodeFor Tryz.prog 15 F15 := .of (F := Tryz.f15) Tryz.func15 ck15
theorem ck16 : funOk Tryz.prog Tryz.f16 F16 = true := by kernel_rfl
theorem cf16 : CodeFor Tryz.prog 16 F16 := .of (F := Tryz.f16) Tryz.func16 ck16
theorem ck17 : funOk Tryz.prog Tryz.f17 F17 = true := by kernel_rfl
theorem cf17 : CodeFor Tryz.prog 17 F17 := .of (F := Tryz.f17) Tryz.func17 ck17
theorem ck18 : funOk Tryz.prog Tryz.f18 F18 = true := by kernel_rfl
theorem cf18 : CodeFor Tryz.prog 18 F18 := .of (F := Tryz.f18) Tryz.func18 ck18
theorem ck19 : funOk Tryz.prog Tryz.f19 F19 = true := by kernel_rfl
theorem cf19 : CodeFor Tryz.prog 19 F19 := .of (F := Tryz.f19) Tryz.func19 ck19
theorem ck20 : funOk Tryz.prog Tryz.f20 F20 = true := by kernel_rfl
theorem cf20 : CodeFor Tryz.prog 20 F20 := .of (F := Tryz.f20) Tryz.func20 ck20
theorem ck21 : funOk Tryz.prog Tryz.f21 F21 = true := by kernel_rfl
theorem cf21 : CodeFor Tryz.prog 21 F21 := .of (F := Tryz.f21) Tryz.func21 ck21
theorem ck22 : funOk Tryz.prog Tryz.f22 F22 = true := by kernel_rfl
theorem cf22 : CodeFor Tryz.prog 22 F22 := .of (F := Tryz.f22) Tryz.func22 ck22
theorem ck23 : funOk Tryz.prog Tryz.f23 F23 = true := by kernel_rfl
theorem cf23 : CodeFor Tryz.prog 23 F23 := .of (F := Tryz.f23) Tryz.func23 ck23
theorem ck24 : funOk Tryz.prog Tryz.f24 F24 = true := by kernel_rfl
theorem cf24 : CodeFor Tryz.prog 24 F24 := .of (F := Tryz.f24) Tryz.func24 ck24
theorem ck25 : funOk Tryz.prog Tryz.f25 F25 = true := by kernel_rfl
theorem cf25 : CodeFor Tryz.prog 25 F25 := .of (F := Tryz.f25) Tryz.func25 ck25
theorem ck26 : funOk Tryz.prog Tryz.f26 F26 = true := by kernel_rfl
theorem cf26 : CodeFor Tryz.prog 26 F26 := .of (F := Tryz.f26) Tryz.func26 ck26
theorem ck27 : funOk Tryz.prog Tryz.f27 F27 = true := by kernel_rfl
theorem cf27 : CodeFor Tryz.prog 27 F27 := .of (F := Tryz.f27) Tryz.func27 ck27
theorem ck28 : funOk Tryz.prog Tryz.f28 F28 = true := by kernel_rfl
theorem cf28 : CodeFor Tryz.prog 28 F28 := .of (F := Tryz.f28) Tryz.func28 ck28
theorem ck29 : funOk Tryz.prog Tryz.f29 F29 = true := by kernel_rfl
theorem cf29 : CodeFor Tryz.prog 29 F29 := .of (F := Tryz.f29) Tryz.func29 ck29
theorem ck30 : funOk Tryz.prog Tryz.f30 F30 = true := by kernel_rfl
theorem cf30 : CodeFor Tryz.prog 30 F30 := .of (F := Tryz.f30) Tryz.func30 ck30
theorem ck31 : funOk Tryz.prog Tryz.f31 F31 = true := by kernel_rfl
theorem cf31 : CodeFor Tryz.prog 31 F31 := .of (F := Tryz.f31) Tryz.func31 ck31
theorem ck32 : funOk Tryz.prog Tryz.f32 F32 = true := by kernel_rfl
theorem cf32 : CodeFor Tryz.prog 32 F32 := .of (F := Tryz.f32) Tryz.func32 ck32
theorem ck33 : funOk Tryz.prog Tryz.f33 F33 = true := by kernel_rfl
theorem cf33 : CodeFor Tryz.prog 33 F33 := .of (F := Tryz.f33) Tryz.func33 ck33
theorem ck34 : funOk Tryz.prog Tryz.f34 F34 = true := by kernel_rfl
theorem cf34 : CodeFor Tryz.prog 34 F34 := .of (F := Tryz.f34) Tryz.func34 ck34
theorem ck35 : funOk Tryz.prog Tryz.f35 F35 = true := by kernel_rfl
theorem cf35 : CodeFor Tryz.prog 35 F35 := .of (F := Tryz.f35) Tryz.func35 ck35
theorem ck36 : funOk Tryz.prog Tryz.f36 F36 = true := by kernel_rfl
theorem cf36 : CodeFor Tryz.prog 36 F36 := .of (F := Tryz.f36) Tryz.func36 ck36
theorem ck37 : funOk Tryz.prog Tryz.f37 F37 = true := by kernel_rfl
theorem cf37 : CodeFor Tryz.prog 37 F37 := .of (F := Tryz.f37) Tryz.func37 ck37
theorem ck38 : funOk Tryz.prog Tryz.f38 F38 = true := by kernel_rfl
theorem cf38 : CodeFor Tryz.prog 38 F38 := .of (F := Tryz.f38) Tryz.func38 ck38
theorem ck39 : funOk Tryz.prog Tryz.f39 F39 = true := by kernel_rfl
theorem cf39 : CodeFor Tryz.prog 39 F39 := .of (F := Tryz.f39) Tryz.func39 ck39
theorem ck40 : funOk Tryz.prog Tryz.f40 F40 = true := by kernel_rfl
theorem cf40 : CodeFor Tryz.prog 40 F40 := .of (F := Tryz.f40) Tryz.func40 ck40
theorem ck41 : funOk Tryz.prog Tryz.f41 F41 = true := by kernel_rfl
theorem cf41 : CodeFor Tryz.prog 41 F41 := .of (F := Tryz.f41) Tryz.func41 ck41
theorem ck42 : funOk Tryz.prog Tryz.f42 F42 = true := by kernel_rfl
theorem cf42 : CodeFor Tryz.prog 42 F42 := .of (F := Tryz.f42) Tryz.func42 ck42
theorem ck43 : funOk Tryz.prog Tryz.f43 F43 = true := by kernel_rfl
theorem cf43 : CodeFor Tryz.prog 43 F43 := .of (F := Tryz.f43) Tryz.func43 ck43
theorem ck44 : funOk Tryz.prog Tryz.f44 F44 = true := by kernel_rfl
theorem cf44 : CodeFor Tryz.prog 44 F44 := .of (F := Tryz.f44) Tryz.func44 ck44
theorem ck45 : funOk Tryz.prog Tryz.f45 F45 = true := by kernel_rfl
theorem cf45 : CodeFor Tryz.prog 45 F45 := .of (F := Tryz.f45) Tryz.func45 ck45
theorem ck46 : funOk Tryz.prog Tryz.f46 F46 = true := by kernel_rfl
theorem cf46 : CodeFor Tryz.prog 46 F46 := .of (F := Tryz.f46) Tryz.func46 ck46
theorem ck47 : funOk Tryz.prog Tryz.f47 F47 = true := by kernel_rfl
theorem cf47 : CodeFor Tryz.prog 47 F47 := .of (F := Tryz.f47) Tryz.func47 ck47
theorem ck48 : funOk Tryz.prog Tryz.f48 F48 = true := by kernel_rfl
theorem cf48 : CodeFor Tryz.prog 48 F48 := .of (F := Tryz.f48) Tryz.func48 ck48
theorem ck49 : funOk Tryz.prog Tryz.f49 F49 = true := by kernel_rfl
theorem cf49 : CodeFor Tryz.prog 49 F49 := .of (F := Tryz.f49) Tryz.func49 ck49
theorem ck50 : funOk Tryz.prog Tryz.f50 F50 = true := by kernel_rfl
theorem cf50 : CodeFor Tryz.prog 50 F50 := .of (F := Tryz.f50) Tryz.func50 ck50
theorem ck51 : funOk Tryz.prog Tryz.f51 F51 = true := by kernel_rfl
theorem cf51 : CodeFor Tryz.prog 51 F51 := .of (F := Tryz.f51) Tryz.func51 ck51
theorem ck52 : funOk Tryz.prog Tryz.f52 F52 = true := by kernel_rfl
theorem cf52 : CodeFor Tryz.prog 52 F52 := .of (F := Tryz.f52) Tryz.func52 ck52
theorem ck53 : funOk Tryz.prog Tryz.f53 F53 = true := by kernel_rfl
theorem cf53 : CodeFor Tryz.prog 53 F53 := .of (F := Tryz.f53) Tryz.func53 ck53
theorem ck54 : funOk Tryz.prog Tryz.f54 F54 = true := by kernel_rfl
theorem cf54 : CodeFor Tryz.prog 54 F54 := .of (F := Tryz.f54) Tryz.func54 ck54
theorem ck55 : funOk Tryz.prog Tryz.f55 F55 = true := by kernel_rfl
theorem cf55 : CodeFor Tryz.prog 55 F55 := .of (F := Tryz.f55) Tryz.func55 ck55
theorem ck56 : funOk Tryz.prog Tryz.f56 F56 = true := by kernel_rfl
theorem cf56 : CodeFor Tryz.prog 56 F56 := .of (F := Tryz.f56) Tryz.func56 ck56
theorem ck57 : funOk Tryz.prog Tryz.f57 F57 = true := by kernel_rfl
theorem cf57 : CodeFor Tryz.prog 57 F57 := .of (F := Tryz.f57) Tryz.func57 ck57
theorem ck58 : funOk Tryz.prog Tryz.f58 F58 = true := by kernel_rfl
theorem cf58 : CodeFor Tryz.prog 58 F58 := .of (F := Tryz.f58) Tryz.func58 ck58
theorem ck59 : funOk Tryz.prog Tryz.f59 F59 = true := by kernel_rfl
theorem cf59 : CodeFor Tryz.prog 59 F59 := .of (F := Tryz.f59) Tryz.func59 ck59
theorem ck60 : funOk Tryz.prog Tryz.f60 F60 = true := by kernel_rfl
theorem cf60 : CodeFor Tryz.prog 60 F60 := .of (F := Tryz.f60) Tryz.func60 ck60
theorem ck61 : funOk Tryz.prog Tryz.f61 F61 = true := by kernel_rfl
theorem cf61 : CodeFor Tryz.prog 61 F61 := .of (F := Tryz.f61) Tryz.func61 ck61
theorem ck62 : funOk Tryz.prog Tryz.f62 F62 = true := by kernel_rfl
theorem cf62 : CodeFor Tryz.prog 62 F62 := .of (F := Tryz.f62) Tryz.func62 ck62
theorem ck63 : funOk Tryz.prog Tryz.f63 F63 = true := by kernel_rfl
theorem cf63 : CodeFor Tryz.prog 63 F63 := .of (F := Tryz.f63) Tryz.func63 ck63
theorem ck64 : funOk Tryz.prog Tryz.f64 F64 = true := by kernel_rfl
theorem cf64 : CodeFor Tryz.prog 64 F64 := .of (F := Tryz.f64) Tryz.func64 ck64
theorem ck65 : funOk Tryz.prog Tryz.f65 F65 = true := by kernel_rfl
theorem cf65 : CodeFor Tryz.prog 65 F65 := .of (F := Tryz.f65) Tryz.func65 ck65
theorem ck66 : funOk Tryz.prog Tryz.f66 F66 = true := by kernel_rfl
theorem cf66 : CodeFor Tryz.prog 66 F66 := .of (F := Tryz.f66) Tryz.func66 ck66
theorem ck67 : funOk Tryz.prog Tryz.f67 F67 = true := by kernel_rfl
theorem cf67 : CodeFor Tryz.prog 67 F67 := .of (F := Tryz.f67) Tryz.func67 ck67
theorem ck68 : funOk Tryz.prog Tryz.f68 F68 = true := by kernel_rfl
theorem cf68 : CodeFor Tryz.prog 68 F68 := .of (F := Tryz.f68) Tryz.func68 ck68
theorem ck69 : funOk Tryz.prog Tryz.f69 F69 = true := by kernel_rfl
theorem cf69 : CodeFor Tryz.prog 69 F69 := .of (F := Tryz.f69) Tryz.func69 ck69
theorem ck70 : funOk Tryz.prog Tryz.f70 F70 = true := by kernel_rfl
theorem cf70 : CodeFor Tryz.prog 70 F70 := .of (F := Tryz.f70) Tryz.func70 ck70
theorem ck71 : funOk Tryz.prog Tryz.f71 F71 = true := by kernel_rfl
theorem cf71 : CodeFor Tryz.prog 71 F71 := .of (F := Tryz.f71) Tryz.func71 ck71
theorem ck72 : funOk Tryz.prog Tryz.f72 F72 = true := by kernel_rfl
theorem cf72 : CodeFor Tryz.prog 72 F72 := .of (F := Tryz.f72) Tryz.func72 ck72
theorem ck73 : funOk Tryz.prog Tryz.f73 F73 = true := by kernel_rfl
theorem cf73 : CodeFor Tryz.prog 73 F73 := .of (F := Tryz.f73) Tryz.func73 ck73
theorem ck74 : funOk Tryz.prog Tryz.f74 F74 = true := by kernel_rfl
theorem cf74 : CodeFor Tryz.prog 74 F74 := .of (F := Tryz.f74) Tryz.func74 ck74
theorem ck75 : funOk Tryz.prog Tryz.f75 F75 = true := by kernel_rfl
theorem cf75 : CodeFor Tryz.prog 75 F75 := .of (F := Tryz.f75) Tryz.func75 ck75
theorem ck76 : funOk Tryz.prog Tryz.f76 F76 = true := by kernel_rfl
theorem cf76 : CodeFor Tryz.prog 76 F76 := .of (F := Tryz.f76) Tryz.func76 ck76
theorem ck77 : funOk Tryz.prog Tryz.f77 F77 = true := by kernel_rfl
theorem cf77 : CodeFor Tryz.prog 77 F77 := .of (F := Tryz.f77) Tryz.func77 ck77
theorem ck78 : funOk Tryz.prog Tryz.f78 F78 = true := by kernel_rfl
theorem cf78 : CodeFor Tryz.prog 78 F78 := .of (F := Tryz.f78) Tryz.func78 ck78
theorem ck79 : funOk Tryz.prog Tryz.f79 F79 = true := by kernel_rfl
theorem cf79 : CodeFor Tryz.prog 79 F79 := .of (F := Tryz.f79) Tryz.func79 ck79
theorem ck80 : funOk Tryz.prog Tryz.f80 F80 = true := by kernel_rfl
theorem cf80 : CodeFor Tryz.prog 80 F80 := .of (F := Tryz.f80) Tryz.func80 ck80
end Go.Proofs.YtjlebgfbohihfaaGreat.Am
