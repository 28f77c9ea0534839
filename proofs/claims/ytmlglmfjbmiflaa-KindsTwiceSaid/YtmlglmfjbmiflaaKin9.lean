/-
  KindsTwice: the claim. For whatever type and whatever two names, the law answers true.
-/
import Derived.Test.YtmlglmfjbmiflaaKin5
import Derived.Test.YtmlglmfjbmiflaaKin8
namespace Go.Proofs.Ytmlglmfjbmiflaa
open Go Go.ChangeShapes Go.WideShapes Go.ChangeAt Go.RowKit
open Go.Proofs.Ytmlglmfjbmiflaa.Am (Hp Ren VR CR All2 wpC callN callN_sound tab cf4 kindsTwice ty CallR CodeFor)
set_option linter.unusedVariables false

theorem walk4 (b s : Int) (nm mm : ByteArray) (w : World) :
    Calls Try.prog 4 #[.agg #[.int .i64 b, .int .i64 s], .string nm, .string mm] w fun e w' => e = .returned (.bool true) ∧ w.keptBut w' (fun _ => False) := by
  obtain ⟨n, v, h', hrun, rfl⟩ := kindsTwice b s nm.data.toList mm.data.toList
  have hs := callN_sound tab n (fun _ => none) Hp.empty w 4 [ty b s, .c (.str nm.data.toList), .c (.str mm.data.toList)] #[.agg #[.int .i64 b, .int .i64 s], .string nm, .string mm]
    ⟨fun _ _ h => (by cases h), fun _ _ _ _ _ _ h => (by cases h), fun _ _ _ h => (by cases h)⟩ ⟨⟨_, rfl, rfl, rfl, trivial⟩, by simp [VR, CR], by simp [VR, CR], trivial⟩
  rw [show callN Go.Proofs.Ytmlglmfjbmiflaa.Am.TS.get n 4 [ty b s, .c (.str nm.data.toList), .c (.str mm.data.toList)] Hp.empty = _ from hrun] at hs
  simp only [CallR] at hs
  rw [cf4.run] at hs
  refine hs.mono fun e w' he => ?_
  obtain ⟨ρ', u, rfl, hv, hg, _⟩ := he
  have hu : u = .bool true := hv
  subst hu
  exact ⟨rfl, kept_of hg fun _ => rfl⟩

theorem contract4 (H : Type) (enc : TypeId × Value → H) (W : World) (base : Nat) (args : Array Value) (ds gs : List (DataW H)) (before : List MemPlace)
    (hval : ∀ (j : Nat) t v, Try.f4.params[j]? = some t → args[j]? = some v → Value.okWide Try.prog W .any base t v)
    (hW : DataW.Whole enc Try.prog Try.f4.params.toList Rows.kindsTwiceSpec.vars false W args.toList ds gs before) :
    Calls Try.prog 4 args W fun e W' => ∃ v, e = .returned v ∧ Rows.kindsTwiceSpec.post enc Try.prog Try.f4 false true false false W args v W' := by
  have hW' := hW
  obtain ⟨p, q, hA0, hV, rfl, hfz, hnd⟩ := hW
  have hA : DataW.TrodAll enc Try.prog W 0 (fun _ => true) true Try.f4.params.toList args.toList ds p := hA0
  rw [Try.params4] at hA hval
  obtain ⟨v0, v1, v2, d0, d1, d2, p0, p1, p2, rfl, rfl, rfl, h0, h1, h2⟩ := trodAll_three hA
  obtain ⟨rfl, rfl⟩ := trodVars_none hV
  obtain ⟨b, s, rfl, rfl, rfl, wb, ws⟩ := open_type h0
  obtain ⟨nm, rfl, rfl, rfl, wn⟩ := Go.ChangeMaps.open_string Try.underlying9 (hval 1 9 v1 rfl rfl) h1
  obtain ⟨mm, rfl, rfl, rfl, wm⟩ := Go.ChangeMaps.open_string Try.underlying9 (hval 2 9 v2 rfl rfl) h2
  clear hA0
  simp only [List.append_nil] at hW'
  refine (walk4 b s nm mm W).mono fun e W' ⟨he, hg⟩ => ?_
  subst he
  have hT : ∀ sp : Nat → Bool, DataW.Trod enc Try.prog W' 0 sp true 23 (.agg #[.int .i64 b, .int .i64 s]) (.agg [.lit (.int .i64 b), .lit (.int .i64 s)]) [] := fun sp =>
    ⟨2, trod_struct2_mk (n := 1) (cs := [.int .i64 b, .int .i64 s]) (y0 := (.lit (.int .i64 b), [])) (y1 := (.lit (.int .i64 s), [])) Try.underlying23 (by rw [cells23]; rfl) (by rw [cells3]; exact trod_int_mk 0 Try.underlying3 wb) (by rw [cells3]; exact trod_int_mk 0 Try.underlying3 ws)⟩
  exact ⟨_, rfl, post_of_none hW' (fun _ _ _ => trodAll_mk1 (shut_bool Try.underlying4 _)) (fun sp => trodAll_mk3 (hT sp) (Go.ChangeMaps.shut_string Try.underlying9 wn) (Go.ChangeMaps.shut_string Try.underlying9 wm)) (fun _ => rfl) hg (ok_one (by kernel_rfl) rfl (okWide_bool_mk Try.underlying4 _))⟩

set_option maxRecDepth 100000 in
theorem lifted4 (os : Os) (started : os.Started) (H : Type) (enc : TypeId × Value → H) :
    ReturnsInHanded {} Try.checked os 4 .any (Rows.kindsTwiceSpec.pre6 enc Try.prog Try.f4 Rows.kindsTwiceRow.domain false) (Rows.kindsTwiceSpec.post enc Try.prog Try.f4 false true false false) := by
  refine returnsInHanded_of_change (C := Try.checked) own started (by kernel_rfl) Try.func4
    (ChangeSpec.witness6 (enc := enc) (C := Try.checked) false ⟨#[], #[.agg #[.int .i64 0, .int .i64 0], .string ⟨#[]⟩, .string ⟨#[]⟩], []⟩ 8 (by kernel_rfl) (by kernel_rfl) (by kernel_rfl) (by kernel_rfl)) ?_
  intro W base args ds gs before hval hW _ _
  exact contract4 H enc W base args ds gs before hval hW

/-- For whatever type and whatever two names, KindsTwice answers true and leaves its arguments as they were. -/
theorem kindsTwice_holds : Rows.KindsTwiceSaid :=
  OpenClaim.holds_of_wide 4 Try.f4 rfl rfl rfl rfl rfl rfl rfl ⟨rfl, rfl, rfl, rfl, rfl⟩ rfl rfl rfl rfl rfl (by kernel_rfl) Try.func4 (by kernel_rfl)
    (of_decide_eq_true (by kernel_rfl)) (by unfold Func.isWrapper; first | (rw [if_pos (by decide +kernel)]; kernel_rfl) | (rw [if_neg (by decide +kernel)]; exact ⟨rfl, rfl⟩))
    (fun os started H enc _ => lifted4 os started H enc)
end Go.Proofs.Ytmlglmfjbmiflaa
