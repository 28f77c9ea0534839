/-
  KindsFields: the claim. For whatever type and whatever name, the law answers true.
-/
import Derived.Test.YtmlglmfjbmiflaaKin4
import Derived.Test.YtmlglmfjbmiflaaSmallK
import Derived.Test.YtmlglmfjbmiflaaRows
import Derived.ProofKit
import Derived.OpenShut
import Derived.ChangeSame
namespace Go.Proofs.Ytmlglmfjbmiflaa
open Go Go.ChangeShapes Go.WideShapes Go.ChangeAt Go.RowKit
open Go.Proofs.Ytmlglmfjbmiflaa.Am (Hp Ren VR CR All2 wpC callN callN_sound tab cf3 kindsFields ty CallR CodeFor)
set_option linter.unusedVariables false

theorem kept_of {ρ : Ren} {n n' : Nat} {ρ' : Ren} {w w' : World} (hg : Go.Proofs.Ytmlglmfjbmiflaa.Am.Grow ρ n w ρ' n' w') (h0 : ∀ b, ρ b = none) : w.keptBut w' (fun _ => False) := by
  refine ⟨hg.os, hg.output, fun i hi => ?_⟩
  have := hg.frame i hi (fun b r hb => by rw [h0] at hb; cases hb)
  rw [this]
  cases h : w.heap[i]? with
  | none => rfl
  | some o => cases o <;> simp
theorem walk3 (b s : Int) (nm : ByteArray) (w : World) :
    Calls Try.prog 3 #[.agg #[.int .i64 b, .int .i64 s], .string nm] w fun e w' => e = .returned (.bool true) ∧ w.keptBut w' (fun _ => False) := by
  obtain ⟨n, v, h', hrun, rfl⟩ := kindsFields b s nm.data.toList
  have hs := callN_sound tab n (fun _ => none) Hp.empty w 3 [ty b s, .c (.str nm.data.toList)] #[.agg #[.int .i64 b, .int .i64 s], .string nm]
    ⟨fun _ _ h => (by cases h), fun _ _ _ _ _ _ h => (by cases h), fun _ _ _ h => (by cases h)⟩ ⟨⟨_, rfl, rfl, rfl, trivial⟩, by simp [VR, CR], trivial⟩
  rw [show callN Go.Proofs.Ytmlglmfjbmiflaa.Am.TS.get n 3 [ty b s, .c (.str nm.data.toList)] Hp.empty = _ from hrun] at hs
  simp only [CallR] at hs
  rw [cf3.run] at hs
  refine hs.mono fun e w' he => ?_
  obtain ⟨ρ', u, rfl, hv, hg, _⟩ := he
  have hu : u = .bool true := hv
  subst hu
  exact ⟨rfl, kept_of hg fun _ => rfl⟩

theorem post_of_none {H : Type} {enc : TypeId × Value → H} {P : Program} {f : Func} {s : ChangeSpec} {apart fresh handsOn again : Bool} {W W' : World} {args : Array Value} {v : Value} {ds gs : List (DataW H)}
    (hW : DataW.Whole enc P f.params.toList s.vars apart W args.toList ds gs [])
    (hres : ∀ (b : Nat) (sp : Nat → Bool) (hd : Bool), DataW.TrodAll enc P W' b sp hd f.resultTypes.toList (v.resultList f.resultTypes.size) (s.fn H (ds ++ gs)).results [])
    (hargs : ∀ sp : Nat → Bool, DataW.TrodAll enc P W' 0 sp true f.params.toList args.toList (s.fn H (ds ++ gs)).args [])
    (hvars : ∀ sp : Nat → Bool, DataW.TrodVars enc P W' sp s.vars (s.fn H (ds ++ gs)).vars [])
    (hk : W.keptBut W' (fun _ => False))
    (hok : ∀ (j : Nat) (t : TypeId) (r : Value), f.resultTypes[j]? = some t → (v.resultList f.resultTypes.size)[j]? = some r → Value.okWide P W' .any 0 t r) :
    s.post enc P f apart fresh handsOn again W args v W' := by
  refine ⟨ds, gs, [], [], [], [], hW, hres _ _ _, hargs _, hvars _, World.keptBut_mono (fun p hp => hp.elim) hk, fun _ => ?_⟩
  obtain ⟨_, _, _, _, _, hz, hn⟩ := hW
  refine ⟨hok, _, _, [], ⟨[], [], trodAll_append (hargs _) (hres _ _ _), hvars _, rfl, ?_, ?_⟩, ?_⟩
  · intro b off hp; cases hp
  · intro ha; exact hn ha
  · intro p hp; cases hp

theorem own : ownKnob Try.prog.godebug = none := by kernel_rfl
theorem cells23 : Try.prog.cellsOf 23 = 2 := by kernel_rfl
theorem cells3 : Try.prog.cellsOf 3 = 1 := by kernel_rfl
theorem open_type {H : Type} {enc : TypeId × Value → H} {w : World} {base : Nat} {spare : Nat → Bool} {held : Bool} {v : Value} {d : DataW H} {ps : List MemPlace} (hd : DataW.Trod enc Try.prog w base spare held 23 v d ps) :
    ∃ b s, v = .agg #[.int .i64 b, .int .i64 s] ∧ d = .agg [.lit (.int .i64 b), .lit (.int .i64 s)] ∧ ps = [] ∧ (Lit.int .i64 b).wf = true ∧ (Lit.int .i64 s).wf = true := by
  obtain ⟨fuel, hf⟩ := hd
  obtain ⟨y0, y1, n, hx, hl, h0, h1⟩ := trod_struct2 Try.underlying23 hf
  simp only [cells3] at h0 h1
  rw [cells23] at hl
  obtain ⟨b, e0, rfl, wb⟩ := DataW.trod_int Try.underlying3 h0
  obtain ⟨s, e1, rfl, ws⟩ := DataW.trod_int Try.underlying3 h1
  simp only [Prod.mk.injEq, List.append_nil] at hx
  obtain ⟨rfl, rfl⟩ := hx
  refine ⟨b, s, ?_, rfl, rfl, wb, ws⟩
  cases v with
  | agg cs =>
    have hcs : cs.toList.length = 2 := hl
    simp only [Value.cells] at e0 e1
    match hc : cs.toList, hcs with
    | [x, y], _ =>
      rw [hc] at e0 e1
      simp at e0 e1
      rw [← Array.toArray_toList (xs := cs), hc, e0, e1]
  | _ => simp [Value.cells] at hl
theorem contract (H : Type) (enc : TypeId × Value → H) (W : World) (base : Nat) (args : Array Value) (ds gs : List (DataW H)) (before : List MemPlace)
    (hval : ∀ (j : Nat) t v, Try.f3.params[j]? = some t → args[j]? = some v → Value.okWide Try.prog W .any base t v)
    (hW : DataW.Whole enc Try.prog Try.f3.params.toList Rows.kindsFieldsSpec.vars false W args.toList ds gs before) :
    Calls Try.prog 3 args W fun e W' => ∃ v, e = .returned v ∧ Rows.kindsFieldsSpec.post enc Try.prog Try.f3 false true false false W args v W' := by
  have hW' := hW
  obtain ⟨p, q, hA0, hV, rfl, hfz, hnd⟩ := hW
  have hA : DataW.TrodAll enc Try.prog W 0 (fun _ => true) true Try.f3.params.toList args.toList ds p := hA0
  rw [Try.params3] at hA hval
  obtain ⟨v0, v1, d0, d1, p0, p1, rfl, rfl, rfl, h0, h1⟩ := trodAll_two hA
  obtain ⟨rfl, rfl⟩ := trodVars_none hV
  obtain ⟨b, s, rfl, rfl, rfl, wb, ws⟩ := open_type h0
  obtain ⟨nm, rfl, rfl, rfl, wn⟩ := Go.ChangeMaps.open_string Try.underlying9 (hval 1 9 v1 rfl rfl) h1
  clear hA0
  simp only [List.append_nil] at hW'
  refine (walk3 b s nm W).mono fun e W' ⟨he, hg⟩ => ?_
  subst he
  have hT : ∀ sp : Nat → Bool, DataW.Trod enc Try.prog W' 0 sp true 23 (.agg #[.int .i64 b, .int .i64 s]) (.agg [.lit (.int .i64 b), .lit (.int .i64 s)]) [] := fun sp =>
    ⟨2, trod_struct2_mk (n := 1) (cs := [.int .i64 b, .int .i64 s]) (y0 := (.lit (.int .i64 b), [])) (y1 := (.lit (.int .i64 s), [])) Try.underlying23 (by rw [cells23]; rfl) (by rw [cells3]; exact trod_int_mk 0 Try.underlying3 wb) (by rw [cells3]; exact trod_int_mk 0 Try.underlying3 ws)⟩
  exact ⟨_, rfl, post_of_none hW' (fun _ _ _ => trodAll_mk1 (shut_bool Try.underlying4 _)) (fun sp => trodAll_mk2 (hT sp) (Go.ChangeMaps.shut_string Try.underlying9 wn)) (fun _ => rfl) hg (ok_one (by kernel_rfl) rfl (okWide_bool_mk Try.underlying4 _))⟩

set_option maxRecDepth 100000 in
theorem lifted (os : Os) (started : os.Started) (H : Type) (enc : TypeId × Value → H) :
    ReturnsInHanded {} Try.checked os 3 .any (Rows.kindsFieldsSpec.pre6 enc Try.prog Try.f3 Rows.kindsFieldsRow.domain false) (Rows.kindsFieldsSpec.post enc Try.prog Try.f3 false true false false) := by
  refine returnsInHanded_of_change (C := Try.checked) own started (by kernel_rfl) Try.func3
    (ChangeSpec.witness6 (enc := enc) (C := Try.checked) false ⟨#[], #[.agg #[.int .i64 0, .int .i64 0], .string ⟨#[]⟩], []⟩ 8 (by kernel_rfl) (by kernel_rfl) (by kernel_rfl) (by kernel_rfl)) ?_
  intro W base args ds gs before hval hW _ _
  exact contract H enc W base args ds gs before hval hW

/-- For whatever type and whatever name, KindsFields answers true and leaves its arguments as they were. -/
theorem kindsFields_holds : Rows.KindsFieldsSaid :=
  OpenClaim.holds_of_wide 3 Try.f3 rfl rfl rfl rfl rfl rfl rfl ⟨rfl, rfl, rfl, rfl, rfl⟩ rfl rfl rfl rfl rfl (by kernel_rfl) Try.func3 (by kernel_rfl)
    (of_decide_eq_true (by kernel_rfl)) (by unfold Func.isWrapper; first | (rw [if_pos (by decide +kernel)]; kernel_rfl) | (rw [if_neg (by decide +kernel)]; exact ⟨rfl, rfl⟩))
    (fun os started H enc _ => lifted os started H enc)
end Go.Proofs.Ytmlglmfjbmiflaa
