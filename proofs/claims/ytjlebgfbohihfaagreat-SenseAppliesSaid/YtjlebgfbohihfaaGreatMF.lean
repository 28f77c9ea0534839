import Derived.Test.YtjlebgfbohihfaaGreatME
import Derived.Test.YtjlebgfbohihfaaGreatGrK
import Derived.Test.YtjlebgfbohihfaaGreatRows
import Derived.ProofKit
import Derived.OpenShut
import Derived.ChangeSame
import Derived.Deep.Strs
import Derived.Laws.IdiomArrays
namespace Go.Proofs.YtjlebgfbohihfaaGreat
open Go Go.ChangeShapes Go.WideShapes Go.ChangeAt Go.RowKit
set_option linter.unusedVariables false
set_option linter.unusedSimpArgs false
open Go.Proofs.YtjlebgfbohihfaaGreat.Am (Hp Ren VR CR All2 wpC callN callN_sound tabTG cf4 c4 I32 CallR CodeFor VI)

theorem own : ownKnob Tryz.prog.godebug = none := by kernel_rfl
theorem i32_of {x : Int} (h : (Lit.int .i32 x).wf = true) : I32 x := by
  simp [Lit.wf, IntKind.min, IntKind.max, IntKind.signed, IntKind.bits] at h
  exact h
/-- Four numbers, by their places. -/
def four (x y z w : Int) : Nat → Int
  | 0 => x
  | 1 => y
  | 2 => z
  | 3 => w
  | _ => 0
theorem four_VI {x y z w : Int} (hx : I32 x) (hy : I32 y) (hz : I32 z) (hw : I32 w) : VI (four x y z w)
  | 0 => hx
  | 1 => hy
  | 2 => hz
  | 3 => hw
  | _ + 4 => Go.Proofs.YtjlebgfbohihfaaGreat.Am.zero_I32
theorem kept_of {ρ : Ren} {n n' : Nat} {ρ' : Ren} {w w' : World} (hg : Go.Proofs.YtjlebgfbohihfaaGreat.Am.Grow ρ n w ρ' n' w') (h0 : ∀ b, ρ b = none) : w.keptBut w' (fun _ => False) := by
  refine ⟨hg.os, hg.output, fun i hi => ?_⟩
  have := hg.frame i hi (fun b r hb => by rw [h0] at hb; cases hb)
  rw [this]
  cases h : w.heap[i]? with
  | none => rfl
  | some o => cases o <;> simp
theorem walk4 (f b a0 a1 a2 a3 b0 b1 b2 b3 t0 t1 t2 t3 : Int) (ha : VI (four a0 a1 a2 a3)) (hb : VI (four b0 b1 b2 b3)) (ht : VI (four t0 t1 t2 t3)) (w : World) :
    Calls Tryz.prog 4 #[.int .i64 f, .int .i64 b, .agg #[.int .i32 a0, .int .i32 a1, .int .i32 a2, .int .i32 a3, .int .i32 b0, .int .i32 b1, .int .i32 b2, .int .i32 b3, .int .i32 t0, .int .i32 t1, .int .i32 t2, .int .i32 t3]] w
      fun e w' => e = .returned (.bool true) ∧ w.keptBut w' (fun _ => False) := by
  obtain ⟨n, v, h', hrun, rfl⟩ := c4 f b _ _ _ ha hb ht
  have hs := callN_sound tabTG n (fun _ => none) Hp.empty w 4 [.c (.int .i64 f), .c (.int .i64 b), .agg [.int .i32 a0, .int .i32 a1, .int .i32 a2, .int .i32 a3, .int .i32 b0, .int .i32 b1, .int .i32 b2, .int .i32 b3, .int .i32 t0, .int .i32 t1, .int .i32 t2, .int .i32 t3]]
    #[.int .i64 f, .int .i64 b, .agg #[.int .i32 a0, .int .i32 a1, .int .i32 a2, .int .i32 a3, .int .i32 b0, .int .i32 b1, .int .i32 b2, .int .i32 b3, .int .i32 t0, .int .i32 t1, .int .i32 t2, .int .i32 t3]]
    ⟨fun _ _ h => (by cases h), fun _ _ _ _ _ _ h => (by cases h), fun _ _ _ h => (by cases h)⟩ ⟨rfl, rfl, ⟨_, rfl, rfl, rfl, rfl, rfl, rfl, rfl, rfl, rfl, rfl, rfl, rfl, rfl, trivial⟩, trivial⟩
  rw [show callN Go.Proofs.YtjlebgfbohihfaaGreat.Am.TG.get n 4 [.c (.int .i64 f), .c (.int .i64 b), .agg [.int .i32 a0, .int .i32 a1, .int .i32 a2, .int .i32 a3, .int .i32 b0, .int .i32 b1, .int .i32 b2, .int .i32 b3, .int .i32 t0, .int .i32 t1, .int .i32 t2, .int .i32 t3]] Hp.empty = _ from hrun] at hs
  simp only [CallR] at hs
  rw [cf4.run] at hs
  refine hs.mono fun e w' he => ?_
  obtain ⟨ρ', u, rfl, hv, hg, _⟩ := he
  have hu : u = .bool true := hv
  subst hu
  exact ⟨rfl, kept_of hg fun _ => rfl⟩

section
variable {H : Type} {enc : TypeId × Value → H}
theorem cells28 : Tryz.prog.cellsOf 28 = 1 := by kernel_rfl
theorem cells30 : Tryz.prog.cellsOf 30 = 4 := by kernel_rfl
theorem cells32 : Tryz.prog.cellsOf 32 = 12 := by kernel_rfl
theorem open_num {w : World} {base : Nat} {spare : Nat → Bool} {held : Bool} {n : Nat} {c : Value} {y : DataW H × List MemPlace} (h : DataW.trod enc Tryz.prog w base spare held n 28 [c] = some y) :
    ∃ x : Int, c = .int .i32 x ∧ y = (.lit (.int .i32 x), []) ∧ (Lit.int .i32 x).wf = true := by
  obtain ⟨x, h1, h2, h3⟩ := DataW.trod_int Tryz.underlying28 h
  simp at h1
  exact ⟨x, h1, h2, h3⟩
theorem open_four {w : World} {base : Nat} {spare : Nat → Bool} {held : Bool} {n : Nat} {c0 c1 c2 c3 : Value} {y : DataW H × List MemPlace} (h : DataW.trod enc Tryz.prog w base spare held n 30 [c0, c1, c2, c3] = some y) :
    ∃ x0 x1 x2 x3 : Int, c0 = .int .i32 x0 ∧ c1 = .int .i32 x1 ∧ c2 = .int .i32 x2 ∧ c3 = .int .i32 x3 ∧ y = (.agg [.lit (.int .i32 x0), .lit (.int .i32 x1), .lit (.int .i32 x2), .lit (.int .i32 x3)], []) ∧
      (Lit.int .i32 x0).wf = true ∧ (Lit.int .i32 x1).wf = true ∧ (Lit.int .i32 x2).wf = true ∧ (Lit.int .i32 x3).wf = true := by
  obtain ⟨y0, y1, y2, y3, m, rfl, h0, h1, h2, h3⟩ := trod_array4 Tryz.underlying30 cells28 h
  obtain ⟨x0, rfl, rfl, w0⟩ := open_num h0
  obtain ⟨x1, rfl, rfl, w1⟩ := open_num h1
  obtain ⟨x2, rfl, rfl, w2⟩ := open_num h2
  obtain ⟨x3, rfl, rfl, w3⟩ := open_num h3
  exact ⟨x0, x1, x2, x3, rfl, rfl, rfl, rfl, rfl, w0, w1, w2, w3⟩
theorem shut_four (w : World) (base : Nat) (spare : Nat → Bool) (held : Bool) {x0 x1 x2 x3 : Int} (w0 : (Lit.int .i32 x0).wf = true) (w1 : (Lit.int .i32 x1).wf = true) (w2 : (Lit.int .i32 x2).wf = true) (w3 : (Lit.int .i32 x3).wf = true) :
    DataW.trod enc Tryz.prog w base spare held 2 30 [.int .i32 x0, .int .i32 x1, .int .i32 x2, .int .i32 x3] = some (.agg [.lit (.int .i32 x0), .lit (.int .i32 x1), .lit (.int .i32 x2), .lit (.int .i32 x3)], []) := by
  have r4 : List.range 4 = [0, 1, 2, 3] := rfl
  have m0 := trod_int_mk (enc := enc) (w := w) (base := base) (spare := spare) (held := held) 0 Tryz.underlying28 w0
  have m1 := trod_int_mk (enc := enc) (w := w) (base := base) (spare := spare) (held := held) 0 Tryz.underlying28 w1
  have m2 := trod_int_mk (enc := enc) (w := w) (base := base) (spare := spare) (held := held) 0 Tryz.underlying28 w2
  have m3 := trod_int_mk (enc := enc) (w := w) (base := base) (spare := spare) (held := held) 0 Tryz.underlying28 w3
  unfold DataW.trod
  rw [Tryz.underlying30]
  simp [r4, cells28, cells30, m0, m1, m2, m3]
theorem cons_of {n : Nat} {l : List Value} (h : l.length = n + 1) : ∃ c t, l = c :: t ∧ t.length = n := by
  cases l with
  | nil => cases h
  | cons c t => exact ⟨c, t, rfl, Nat.succ.inj h⟩
set_option maxRecDepth 100000 in
theorem open_three {W : World} {base : Nat} {v : Value} {d : DataW H} {ps : List MemPlace} (hval : Value.okWide Tryz.prog W .any base 32 v) (hd : DataW.Trod enc Tryz.prog W 0 (fun _ => true) true 32 v d ps) :
    ∃ a0 a1 a2 a3 b0 b1 b2 b3 t0 t1 t2 t3 : Int, v = .agg #[.int .i32 a0, .int .i32 a1, .int .i32 a2, .int .i32 a3, .int .i32 b0, .int .i32 b1, .int .i32 b2, .int .i32 b3, .int .i32 t0, .int .i32 t1, .int .i32 t2, .int .i32 t3] ∧
      VI (four a0 a1 a2 a3) ∧ VI (four b0 b1 b2 b3) ∧ VI (four t0 t1 t2 t3) ∧ ps = [] ∧ ∀ (W' : World) (sp : Nat → Bool) (hd : Bool), DataW.Trod enc Tryz.prog W' 0 sp hd 32 v d [] := by
  obtain ⟨cs, rfl, hsz⟩ := okWide_struct Tryz.underlying32 hval
  rw [cells32] at hsz
  obtain ⟨fuel, hf⟩ := hd
  obtain ⟨l⟩ := cs
  simp only [Value.cells] at hf
  have hlen : l.length = 11 + 1 := hsz
  obtain ⟨c0, r0, rfl, k0⟩ := cons_of (n := 11) hlen
  obtain ⟨c1, r1, rfl, k1⟩ := cons_of (n := 10) k0
  obtain ⟨c2, r2, rfl, k2⟩ := cons_of (n := 9) k1
  obtain ⟨c3, r3, rfl, k3⟩ := cons_of (n := 8) k2
  obtain ⟨c4, r4, rfl, k4⟩ := cons_of (n := 7) k3
  obtain ⟨c5, r5, rfl, k5⟩ := cons_of (n := 6) k4
  obtain ⟨c6, r6, rfl, k6⟩ := cons_of (n := 5) k5
  obtain ⟨c7, r7, rfl, k7⟩ := cons_of (n := 4) k6
  obtain ⟨c8, r8, rfl, k8⟩ := cons_of (n := 3) k7
  obtain ⟨c9, r9, rfl, k9⟩ := cons_of (n := 2) k8
  obtain ⟨c10, r10, rfl, k10⟩ := cons_of (n := 1) k9
  obtain ⟨c11, r11, rfl, k11⟩ := cons_of (n := 0) k10
  obtain rfl : r11 = [] := List.length_eq_zero_iff.1 k11
  obtain ⟨y0, y1, y2, m, hx, hl, h0, h1, h2⟩ := Go.Deep.trod_struct3 Tryz.underlying32 hf
  simp [cells30] at h0 h1 h2
  obtain ⟨a0, a1, a2, a3, rfl, rfl, rfl, rfl, rfl, u0, u1, u2, u3⟩ := open_four h0
  obtain ⟨b0, b1, b2, b3, rfl, rfl, rfl, rfl, rfl, v0, v1, v2, v3⟩ := open_four h1
  obtain ⟨t0, t1, t2, t3, rfl, rfl, rfl, rfl, rfl, w0, w1, w2, w3⟩ := open_four h2
  simp only [Prod.mk.injEq] at hx
  obtain ⟨rfl, rfl⟩ := hx
  refine ⟨a0, a1, a2, a3, b0, b1, b2, b3, t0, t1, t2, t3, rfl, four_VI (i32_of u0) (i32_of u1) (i32_of u2) (i32_of u3), four_VI (i32_of v0) (i32_of v1) (i32_of v2) (i32_of v3), four_VI (i32_of w0) (i32_of w1) (i32_of w2) (i32_of w3), rfl, fun W' sp hd => ⟨3, ?_⟩⟩
  have s0 := shut_four (enc := enc) W' 0 sp hd u0 u1 u2 u3
  have s1 := shut_four (enc := enc) W' 0 sp hd v0 v1 v2 v3
  have s2 := shut_four (enc := enc) W' 0 sp hd w0 w1 w2 w3
  exact Go.Deep.trod_struct3_mk (y0 := (DataW.agg [.lit (.int .i32 a0), .lit (.int .i32 a1), .lit (.int .i32 a2), .lit (.int .i32 a3)], ([] : List MemPlace))) (y1 := (DataW.agg [.lit (.int .i32 b0), .lit (.int .i32 b1), .lit (.int .i32 b2), .lit (.int .i32 b3)], ([] : List MemPlace))) (y2 := (DataW.agg [.lit (.int .i32 t0), .lit (.int .i32 t1), .lit (.int .i32 t2), .lit (.int .i32 t3)], ([] : List MemPlace))) Tryz.underlying32 (by rw [cells32]; rfl) (by rw [cells30]; exact s0) (by rw [cells30]; exact s1) (by rw [cells30]; exact s2)
end
theorem post_of_none {H : Type} {enc : TypeId × Value → H} {P : Program} {f : Func} {s : ChangeSpec} {apart fresh handsOn again : Bool} {W W' : World} {args : Array Value} {v : Value} {ds gs : List (DataW H)}
    (hW : DataW.Whole enc P f.params.toList s.vars apart W args.toList ds gs [])
    (hres : ∀ (b : Nat) (sp : Nat → Bool) (hd : Bool), DataW.TrodAll enc P W' b sp hd f.resultTypes.toList (v.resultList f.resultTypes.size) (s.fn H (ds ++ gs)).results [])
    (hargs : ∀ sp : Nat → Bool, DataW.TrodAll enc P W' 0 sp true f.params.toList args.toList (s.fn H (ds ++ gs)).args [])
    (hvars : ∀ sp : Nat → Bool, DataW.TrodVars enc P W' sp s.vars (s.fn H (ds ++ gs)).vars [])
    (hk : W.keptBut W' (fun _ => False))
    (hok : ∀ (j : Nat) (t : TypeId) (r : Value), f.resultTypes[j]? = some t → (v.resultList f.resultTypes.size)[j]? = some r → Value.okWide P W' .any 0 t r) :
    s.post enc P f apart fresh handsOn again W args v W' := by
  refine ⟨ds, gs, [], [], [], [], hW, hres _ _ _, hargs _, hvars _, World.keptBut_mono (fun p hp => hp.elim) hk, fun _ => ?_⟩
  obtain ⟨_, _, _, _, _, hz, hn⟩ := hW
  refine ⟨hok, _, _, [], ⟨[], [], trodAll_append (hargs _) (hres _ _ _), hvars _, rfl, ?_, ?_⟩, ?_⟩
  · intro b off hp; cases hp
  · intro ha; exact hn ha
  · intro p hp; cases hp

set_option maxRecDepth 100000 in
theorem contract (H : Type) (enc : TypeId × Value → H) (W : World) (base : Nat) (args : Array Value) (ds gs : List (DataW H)) (before : List MemPlace)
    (hval : ∀ (j : Nat) t v, Tryz.f4.params[j]? = some t → args[j]? = some v → Value.okWide Tryz.prog W .any base t v)
    (hW : DataW.Whole enc Tryz.prog Tryz.f4.params.toList Rows.senseAppliesSpec.vars false W args.toList ds gs before) :
    Calls Tryz.prog 4 args W fun e W' => ∃ v, e = .returned v ∧ Rows.senseAppliesSpec.post enc Tryz.prog Tryz.f4 false true false false W args v W' := by
  have hW' := hW
  obtain ⟨p, q, hA0, hV, rfl, hfz, hnd⟩ := hW
  have hA : DataW.TrodAll enc Tryz.prog W 0 (fun _ => true) true Tryz.f4.params.toList args.toList ds p := hA0
  rw [Tryz.params4] at hA hval
  obtain ⟨v0, v1, v2, d0, d1, d2, p0, p1, p2, rfl, rfl, rfl, h0, h1, h2⟩ := trodAll_three hA
  obtain ⟨rfl, rfl⟩ := trodVars_none hV
  obtain ⟨f, rfl, rfl, rfl, wf⟩ := Go.ChangeShapes.open_int Tryz.underlying3 (hval 0 3 v0 rfl rfl) h0
  obtain ⟨t, rfl, rfl, rfl, wt⟩ := Go.ChangeShapes.open_int Tryz.underlying3 (hval 1 3 v1 rfl rfl) h1
  obtain ⟨a0, a1, a2, a3, b0, b1, b2, b3, t0, t1, t2, t3, rfl, ha, hb, ht, rfl, hshut⟩ := open_three (hval 2 32 v2 rfl rfl) h2
  clear hA0
  simp only [List.append_nil] at hW'
  refine (walk4 f t a0 a1 a2 a3 b0 b1 b2 b3 t0 t1 t2 t3 ha hb ht W).mono fun e W' ⟨he, hg⟩ => ?_
  subst he
  exact ⟨_, rfl, post_of_none hW' (fun _ _ _ => trodAll_mk1 (shut_bool Tryz.underlying4 _)) (fun sp => trodAll_mk3 (Go.ChangeShapes.shut_int Tryz.underlying3 wf) (Go.ChangeShapes.shut_int Tryz.underlying3 wt) (hshut _ _ _)) (fun _ => rfl) hg (ok_one (by kernel_rfl) rfl (okWide_bool_mk Tryz.underlying4 _))⟩

set_option maxRecDepth 100000 in
theorem lifted (os : Os) (started : os.Started) (H : Type) (enc : TypeId × Value → H) :
    ReturnsInHanded {} Tryz.checked os 4 .any (Rows.senseAppliesSpec.pre6 enc Tryz.prog Tryz.f4 Rows.senseAppliesRow.domain false) (Rows.senseAppliesSpec.post enc Tryz.prog Tryz.f4 false true false false) := by
  refine returnsInHanded_of_change (C := Tryz.checked) own started (by kernel_rfl) Tryz.func4
    (ChangeSpec.witness6 (enc := enc) (C := Tryz.checked) false ⟨#[], #[.int .i64 0, .int .i64 0, .agg #[.int .i32 0, .int .i32 0, .int .i32 0, .int .i32 0, .int .i32 0, .int .i32 0, .int .i32 0, .int .i32 0, .int .i32 0, .int .i32 0, .int .i32 0, .int .i32 0]], []⟩ 8 (by kernel_rfl) (by kernel_rfl) (by kernel_rfl) (by kernel_rfl)) ?_
  intro W base args ds gs before hval hW _ _
  exact contract H enc W base args ds gs before hval hW

/-- For whatever operation, base and vectors, SenseApplies answers true and leaves its arguments as they were. -/
theorem senseApplies_holds : Rows.SenseAppliesSaid :=
  OpenClaim.holds_of_wide 4 Tryz.f4 rfl rfl rfl rfl rfl rfl rfl ⟨rfl, rfl, rfl, rfl, rfl⟩ rfl rfl rfl rfl rfl (by kernel_rfl) Tryz.func4 (by kernel_rfl)
    (of_decide_eq_true (by kernel_rfl)) (by unfold Func.isWrapper; first | (rw [if_pos (by decide +kernel)]; kernel_rfl) | (rw [if_neg (by decide +kernel)]; exact ⟨rfl, rfl⟩))
    (fun os started H enc _ => lifted os started H enc)
end Go.Proofs.YtjlebgfbohihfaaGreat
