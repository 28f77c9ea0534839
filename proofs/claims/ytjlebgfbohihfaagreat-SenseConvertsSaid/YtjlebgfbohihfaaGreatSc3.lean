/-
  SenseConverts: the claim. For whatever bases and whatever number, the law answers true.
-/
import Derived.Test.YtjlebgfbohihfaaGreatSc2
import Derived.Test.YtjlebgfbohihfaaGreatGrK
import Derived.Test.YtjlebgfbohihfaaGreatRows
import Derived.ProofKit
import Derived.OpenShut
import Derived.ChangeSame
namespace Go.Proofs.YtjlebgfbohihfaaGreat
open Go Go.ChangeShapes Go.WideShapes Go.ChangeAt Go.RowKit
set_option linter.unusedVariables false
set_option linter.unusedSimpArgs false
open Go.Proofs.YtjlebgfbohihfaaGreat.Am (Hp Ren VR CR All2 wpC callN callN_sound tabTG cf5 c5 I32 CallR CodeFor)

theorem kept_of {ρ : Ren} {n n' : Nat} {ρ' : Ren} {w w' : World} (hg : Go.Proofs.YtjlebgfbohihfaaGreat.Am.Grow ρ n w ρ' n' w') (h0 : ∀ b, ρ b = none) : w.keptBut w' (fun _ => False) := by
  refine ⟨hg.os, hg.output, fun i hi => ?_⟩
  have := hg.frame i hi (fun b r hb => by rw [h0] at hb; cases hb)
  rw [this]
  cases h : w.heap[i]? with
  | none => rfl
  | some o => cases o <;> simp
theorem walk5 (f t x : Int) (hx : I32 x) (w : World) :
    Calls Tryz.prog 5 #[.int .i64 f, .int .i64 t, .int .i32 x] w fun e w' => e = .returned (.bool true) ∧ w.keptBut w' (fun _ => False) := by
  obtain ⟨n, v, h', hrun, rfl⟩ := c5 f t x hx
  have hs := callN_sound tabTG n (fun _ => none) Hp.empty w 5 [.c (.int .i64 f), .c (.int .i64 t), .c (.int .i32 x)] #[.int .i64 f, .int .i64 t, .int .i32 x]
    ⟨fun _ _ h => (by cases h), fun _ _ _ _ _ _ h => (by cases h), fun _ _ _ h => (by cases h)⟩ ⟨rfl, rfl, rfl, trivial⟩
  rw [show callN Go.Proofs.YtjlebgfbohihfaaGreat.Am.TG.get n 5 [.c (.int .i64 f), .c (.int .i64 t), .c (.int .i32 x)] Hp.empty = _ from hrun] at hs
  simp only [CallR] at hs
  rw [cf5.run] at hs
  refine hs.mono fun e w' he => ?_
  obtain ⟨ρ', u, rfl, hv, hg, _⟩ := he
  have hu : u = .bool true := hv
  subst hu
  exact ⟨rfl, kept_of hg fun _ => rfl⟩

theorem post_of_none {H : Type} {enc : TypeId × Value → H} {P : Program} {f : Func} {s : ChangeSpec} {apart fresh handsOn again : Bool} {W W' : World} {args : Array Value} {v : Value} {ds gs : List (DataW H)}
    (hW : DataW.Whole enc P f.params.toList s.vars apart W args.toList ds gs [])
    (hres : ∀ (b : Nat) (sp : Nat → Bool) (hd : Bool), DataW.TrodAll enc P W' b sp hd f.resultTypes.toList (v.resultList f.resultTypes.size) (s.fn H (ds ++ gs)).results [])
    (hargs : ∀ sp : Nat → Bool, DataW.TrodAll enc P W' 0 sp true f.params.toList args.toList (s.fn H (ds ++ gs)).args [])
    (hvars : ∀ sp : Nat → Bool, DataW.TrodVars enc P W' sp s.vars (s.fn H (ds ++ gs)).vars [])
    (hk : W.keptBut W' (fun _ => False))
    (hok : ∀ (j : Nat) (t : TypeId) (r : Value), f.resultTypes[j]? = some t → (v.resultList f.resultTypes.size)[j]? = some r → Value.okWide P W' .any 0 t r) :
    s.post enc P f apart fresh handsOn again W args v W' := by
  refine ⟨ds, gs, [], [], [], [], hW, hres _ _ _, hargs _, hvars _, World.keptBut_mono (fun p hp => hp.elim) hk, fun _ => ?_⟩
  obtain ⟨_, _, _, _, _, hz, hn⟩ := hW
  refine ⟨hok, _, _, [], ⟨[], [], trodAll_append (hargs _) (hres _ _ _), hvars _, rfl, ?_, ?_⟩, ?_⟩
  · intro b off hp; cases hp
  · intro ha; exact hn ha
  · intro p hp; cases hp

theorem own : ownKnob Tryz.prog.godebug = none := by kernel_rfl
theorem i32_of {x : Int} (h : (Lit.int .i32 x).wf = true) : I32 x := by
  simp [Lit.wf, IntKind.min, IntKind.max, IntKind.signed, IntKind.bits] at h
  exact h
set_option maxRecDepth 100000 in
theorem contract (H : Type) (enc : TypeId × Value → H) (W : World) (base : Nat) (args : Array Value) (ds gs : List (DataW H)) (before : List MemPlace)
    (hval : ∀ (j : Nat) t v, Tryz.f5.params[j]? = some t → args[j]? = some v → Value.okWide Tryz.prog W .any base t v)
    (hW : DataW.Whole enc Tryz.prog Tryz.f5.params.toList Rows.senseConvertsSpec.vars false W args.toList ds gs before) :
    Calls Tryz.prog 5 args W fun e W' => ∃ v, e = .returned v ∧ Rows.senseConvertsSpec.post enc Tryz.prog Tryz.f5 false true false false W args v W' := by
  have hW' := hW
  obtain ⟨p, q, hA0, hV, rfl, hfz, hnd⟩ := hW
  have hA : DataW.TrodAll enc Tryz.prog W 0 (fun _ => true) true Tryz.f5.params.toList args.toList ds p := hA0
  rw [Tryz.params5] at hA hval
  obtain ⟨v0, v1, v2, d0, d1, d2, p0, p1, p2, rfl, rfl, rfl, h0, h1, h2⟩ := trodAll_three hA
  obtain ⟨rfl, rfl⟩ := trodVars_none hV
  obtain ⟨f, rfl, rfl, rfl, wf⟩ := Go.ChangeShapes.open_int Tryz.underlying3 (hval 0 3 v0 rfl rfl) h0
  obtain ⟨t, rfl, rfl, rfl, wt⟩ := Go.ChangeShapes.open_int Tryz.underlying3 (hval 1 3 v1 rfl rfl) h1
  obtain ⟨x, rfl, rfl, rfl, wx⟩ := Go.ChangeShapes.open_int Tryz.underlying28 (hval 2 28 v2 rfl rfl) h2
  clear hA0
  simp only [List.append_nil] at hW'
  refine (walk5 f t x (i32_of wx) W).mono fun e W' ⟨he, hg⟩ => ?_
  subst he
  exact ⟨_, rfl, post_of_none hW' (fun _ _ _ => trodAll_mk1 (shut_bool Tryz.underlying4 _)) (fun sp => trodAll_mk3 (Go.ChangeShapes.shut_int Tryz.underlying3 wf) (Go.ChangeShapes.shut_int Tryz.underlying3 wt) (Go.ChangeShapes.shut_int Tryz.underlying28 wx)) (fun _ => rfl) hg (ok_one (by kernel_rfl) rfl (okWide_bool_mk Tryz.underlying4 _))⟩

set_option maxRecDepth 100000 in
theorem lifted (os : Os) (started : os.Started) (H : Type) (enc : TypeId × Value → H) :
    ReturnsInHanded {} Tryz.checked os 5 .any (Rows.senseConvertsSpec.pre6 enc Tryz.prog Tryz.f5 Rows.senseConvertsRow.domain false) (Rows.senseConvertsSpec.post enc Tryz.prog Tryz.f5 false true false false) := by
  refine returnsInHanded_of_change (C := Tryz.checked) own started (by kernel_rfl) Tryz.func5
    (ChangeSpec.witness6 (enc := enc) (C := Tryz.checked) false ⟨#[], #[.int .i64 0, .int .i64 0, .int .i32 0], []⟩ 8 (by kernel_rfl) (by kernel_rfl) (by kernel_rfl) (by kernel_rfl)) ?_
  intro W base args ds gs before hval hW _ _
  exact contract H enc W base args ds gs before hval hW

/-- For whatever bases and whatever number, SenseConverts answers true and leaves its arguments as they were. -/
theorem senseConverts_holds : Rows.SenseConvertsSaid :=
  OpenClaim.holds_of_wide 5 Tryz.f5 rfl rfl rfl rfl rfl rfl rfl ⟨rfl, rfl, rfl, rfl, rfl⟩ rfl rfl rfl rfl rfl (by kernel_rfl) Tryz.func5 (by kernel_rfl)
    (of_decide_eq_true (by kernel_rfl)) (by unfold Func.isWrapper; first | (rw [if_pos (by decide +kernel)]; kernel_rfl) | (rw [if_neg (by decide +kernel)]; exact ⟨rfl, rfl⟩))
    (fun os started H enc _ => lifted os started H enc)
end Go.Proofs.YtjlebgfbohihfaaGreat
