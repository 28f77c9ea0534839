import Derived.Test.YtmlglmfjbmiflaaAmW
import Derived.Test.YtmlglmfjbmiflaaSmallT
import Derived.Test.YtmlglmfjbmiflaaChecked
namespace Go.Proofs.Ytmlglmfjbmiflaa.Am
open Go Go.Proofs
theorem ck3 : funOk Try.prog Try.f3 F3 = true := by kernel_rfl
theorem cf3 : CodeFor Try.prog 3 F3 := .of (F := Try.f3) (by kernel_rfl) ck3
theorem ck4 : funOk Try.prog Try.f4 F4 = true := by kernel_rfl
theorem cf4 : CodeFor Try.prog 4 F4 := .of (F := Try.f4) (by kernel_rfl) ck4
theorem ck5 : funOk Try.prog Try.f5 F5 = true := by kernel_rfl
theorem cf5 : CodeFor Try.prog 5 F5 := .of (F := Try.f5) (by kernel_rfl) ck5
theorem ck6 : funOk Try.prog Try.f6 F6 = true := by kernel_rfl
theorem cf6 : CodeFor Try.prog 6 F6 := .of (F := Try.f6) (by kernel_rfl) ck6
theorem ck7 : funOk Try.prog Try.f7 F7 = true := by kernel_rfl
theorem cf7 : CodeFor Try.prog 7 F7 := .of (F := Try.f7) (by kernel_rfl) ck7
theorem ck8 : funOk Try.prog Try.f8 F8 = true := by kernel_rfl
theorem cf8 : CodeFor Try.prog 8 F8 := .of (F := Try.f8) (by kernel_rfl) ck8
theorem ck9 : funOk Try.prog Try.f9 F9 = true := by kernel_rfl
theorem cf9 : CodeFor Try.prog 9 F9 := .of (F := Try.f9) (by kernel_rfl) ck9
theorem ck10 : funOk Try.prog Try.f10 F10 = true := by kernel_rfl
theorem cf10 : CodeFor Try.prog 10 F10 := .of (F := Try.f10) (by kernel_rfl) ck10
theorem ck11 : funOk Try.prog Try.f11 F11 = true := by kernel_rfl
theorem cf11 : CodeFor Try.prog 11 F11 := .of (F := Try.f11) (by kernel_rfl) ck11
theorem ck12 : funOk Try.prog Try.f12 F12 = true := by kernel_rfl
theorem cf12 : CodeFor Try.prog 12 F12 := .of (F := Try.f12) (by kernel_rfl) ck12
theorem ck13 : funOk Try.prog Try.f13 F13 = true := by kernel_rfl
theorem cf13 : CodeFor Try.prog 13 F13 := .of (F := Try.f13) (by kernel_rfl) ck13
theorem ck14 : funOk Try.prog Try.f14 F14 = true := by kernel_rfl
theorem cf14 : CodeFor Try.prog 14 F14 := .of (F := Try.f14) (by kernel_rfl) ck14
theorem ck15 : funOk Try.prog Try.f15 F15 = true := by kernel_rfl
theorem cf15 : CodeFor Try.prog 15 F15 := .of (F := Try.f15) (by kernel_rfl) ck15
theorem ck16 : funOk Try.prog Try.f16 F16 = true := by kernel_rfl
theorem cf16 : CodeFor Try.prog 16 F16 := .of (F := Try.f16) (by kernel_rfl) ck16
theorem ck17 : funOk Try.prog Try.f17 F17 = true := by kernel_rfl
theorem cf17 : CodeFor Try.prog 17 F17 := .of (F := Try.f17) (by kernel_rfl) ck17
theorem ck18 : funOk Try.prog Try.f18 F18 = true := by kernel_rfl
theorem cf18 : CodeFor Try.prog 18 F18 := .of (F := Try.f18) (by kernel_rfl) ck18
theorem ck19 : funOk Try.prog Try.f19 F19 = true := by kernel_rfl
theorem cf19 : CodeFor Try.prog 19 F19 := .of (F := Try.f19) (by kernel_rfl) ck19
theorem ck20 : funOk Try.prog Try.f20 F20 = true := by kernel_rfl
theorem cf20 : CodeFor Try.prog 20 F20 := .of (F := Try.f20) (by kernel_rfl) ck20
theorem ck21 : funOk Try.prog Try.f21 F21 = true := by kernel_rfl
theorem cf21 : CodeFor Try.prog 21 F21 := .of (F := Try.f21) (by kernel_rfl) ck21
theorem ck22 : funOk Try.prog Try.f22 F22 = true := by kernel_rfl
theorem cf22 : CodeFor Try.prog 22 F22 := .of (F := Try.f22) (by kernel_rfl) ck22
theorem ck23 : funOk Try.prog Try.f23 F23 = true := by kernel_rfl
theorem cf23 : CodeFor Try.prog 23 F23 := .of (F := Try.f23) (by kernel_rfl) ck23
theorem ck24 : funOk Try.prog Try.f24 F24 = true := by kernel_rfl
theorem cf24 : CodeFor Try.prog 24 F24 := .of (F := Try.f24) (by kernel_rfl) ck24
theorem ck25 : funOk Try.prog Try.f25 F25 = true := by kernel_rfl
theorem cf25 : CodeFor Try.prog 25 F25 := .of (F := Try.f25) (by kernel_rfl) ck25
theorem ck26 : funOk Try.prog Try.f26 F26 = true := by kernel_rfl
theorem cf26 : CodeFor Try.prog 26 F26 := .of (F := Try.f26) (by kernel_rfl) ck26
theorem ck27 : funOk Try.prog Try.f27 F27 = true := by kernel_rfl
theorem cf27 : CodeFor Try.prog 27 F27 := .of (F := Try.f27) (by kernel_rfl) ck27
theorem ck30 : funOk Try.prog Try.f30 F30 = true := by kernel_rfl
theorem cf30 : CodeFor Try.prog 30 F30 := .of (F := Try.f30) (by kernel_rfl) ck30
theorem ck31 : funOk Try.prog Try.f31 F31 = true := by kernel_rfl
theorem cf31 : CodeFor Try.prog 31 F31 := .of (F := Try.f31) (by kernel_rfl) ck31
theorem ck32 : funOk Try.prog Try.f32 F32 = true := by kernel_rfl
theorem cf32 : CodeFor Try.prog 32 F32 := .of (F := Try.f32) (by kernel_rfl) ck32
theorem sp28 : SpecFor Try.prog 28 specIndexByte := by
  intro ρ h w args vals hR hargs v h' hg
  unfold specIndexByte at hg
  split at hg
  · rename_i s n
    simp only [Option.some.injEq, Prod.mk.injEq] at hg
    obtain ⟨rfl, rfl⟩ := hg
    have hl := hargs.length
    match hv : vals.toList, hargs with
    | [x, y], hh =>
      obtain ⟨hx, hy, _⟩ := hh
      have hx : x = .string ⟨s.toArray⟩ := hx
      have hy : y = .int .u8 n := hy
      subst hx; subst hy
      have hvals : vals = #[.string ⟨s.toArray⟩, .int .u8 n] := by rw [← Array.toArray_toList (xs := vals), hv]
      subst hvals
      unfold CallR
      rw [run_callFunc_indexByte (fn := Try.f28) (by kernel_rfl) (by kernel_rfl) (by kernel_rfl) (by kernel_rfl) (by kernel_rfl), run_indexByte_string]
      exact ⟨ρ, _, rfl, rfl, Grow.refl _ _ _, hR⟩
  · cases hg
theorem tab : TabOk Try.prog TS.get := by
  refine tabOk (by kernel_rfl) ?_
  simp only [TS, br, lf, TT.All, FnOk, true_and, and_true]
  (repeat' apply And.intro) <;> first | exact cf3 | exact cf4 | exact cf5 | exact cf6 | exact cf7 | exact cf8 | exact cf9 | exact cf10 | exact cf11 | exact cf12 | exact cf13 | exact cf14 | exact cf15 | exact cf16 | exact cf17 | exact cf18 | exact cf19 | exact cf20 | exact cf21 | exact cf22 | exact cf23 | exact cf24 | exact cf25 | exact cf26 | exact cf27 | exact cf30 | exact cf31 | exact cf32 | exact sp28
end Go.Proofs.Ytmlglmfjbmiflaa.Am
