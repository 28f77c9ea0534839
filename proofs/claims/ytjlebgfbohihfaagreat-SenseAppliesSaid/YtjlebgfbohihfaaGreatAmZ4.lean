/-
  A range over slices.Backward: the function that holds it.
-/
import Derived.Test.YtjlebgfbohihfaaGreatAmZ3
namespace Go.Proofs.YtjlebgfbohihfaaGreat.Am
open Go
set_option linter.unusedVariables false
set_option linter.unusedSimpArgs false

section
variable {P : Program}
theorem back_calls {n f : Nat} {F : Func} (hf : P.funcs[f]? = some F) (hok : backOk P F = true)
    {ρ1 : Ren} {n1 : Nat} {W0 : World} {D l : Nat} {fn : FuncId} {tmps : Array Value} {p q : Nat} {assign body : Code} {asg bd : ACode} {nt : Nat} {e1 : Env} {b ofs len : Nat}
    (hasg : codeOk P nt assign asg = true) (hbd : codeOk P nt body bd = true) (hsz : nt ≤ tmps.size) (hp : p < nt) (hq : q < nt)
    {ρ : Ren} {h : Hp} {w : World} {ret : Bool} {h' : Hp} (hE1 : EnvR ρ e1 tmps) (hI : BInv ρ1 n1 W0 D l (recOf fn tmps #[p, q] assign body D .ready none) ρ h w) {u : Value} (hu : VR ρ (.c (.ptr b ofs)) u)
    (hlen : lenAt h b ofs = some len) (hle : len ≤ 140737488355328) (hb : backRounds e1 p q b ofs asg bd len h = some (ret, h')) :
    CallsIn Fence.wide n P f #[.func (.yield l) #[] #[], u] w fun en w' => ∃ v ρ', en = .returned v ∧
      BInv ρ1 n1 W0 D l (recOf fn tmps #[p, q] assign body D (if ret then .done else .ready) (if ret then some .ret else none)) ρ' h' w' := by
  unfold backOk at hok
  simp only [Bool.and_eq_true, Bool.not_eq_true'] at hok
  obtain ⟨⟨⟨hname, h19⟩, hres⟩, hok⟩ := hok
  have h19 := Nat.le_of_ble_eq_true h19
  have hres : F.results = #[] := by simpa using hres
  split at hok
  · rename_i cA cB id ops cC cD hbody
    simp only [Bool.and_eq_true] at hok
    obtain ⟨⟨⟨⟨⟨⟨hcA, hcB⟩, hop1⟩, hoc⟩, hop2⟩, hcC⟩, hcD⟩ := hok
    split at hoc
    · rename_i oc hoc6
      refine callsIn_of_wp hf hbody trivial ?_
      have hsz0 : F.ntmps ≤ (#[Value.func (.yield l) #[] #[], u] ++ Array.replicate (F.ntmps - (#[Value.func (.yield l) #[] #[], u] : Array Value).size) undef).size := by simp; omega
      obtain ⟨s', hr, hh, hdf, he0, he1, he3⟩ := LA_run (l := l) hlen hle
      have hE : EnvR ρ (params 0 [.c (.yl l), .c (.ptr b ofs)]) (#[Value.func (.yield l) #[] #[], u] ++ Array.replicate (F.ntmps - (#[Value.func (.yield l) #[] #[], u] : Array Value).size) undef) :=
        params_VR ⟨rfl, hu, trivial⟩
      refine wpIn_seq (run1_sound (fun _ => trivial) (.ops LA) cA hcA ρ { env := params 0 [.c (.yl l), .c (.ptr b ofs)], heap := h, defs := [], rc := none }
        { tmps := #[Value.func (.yield l) #[] #[], u] ++ Array.replicate (F.ntmps - (#[Value.func (.yield l) #[] #[], u] : Array Value).size) undef, defers := [] } w ⟨hE, hI.rel, trivial⟩ rfl hsz0 _ _ s' hr fun a1 w1 hpost => ?_)
      obtain ⟨ρa, g1, p1, z1⟩ := hpost.pre
      have I1 : BInv ρ1 n1 W0 D l _ ρa h w1 := hI.step (by simpa [hh] using g1) (by simpa [hh] using p1.rel)
      have hd1 : a1.defers = [] := by
        have := p1.defs.length
        rw [hdf] at this
        exact List.length_eq_zero_iff.1 this.symm
      exact wpIn_block (wpIn_loop_rounds (len + 1) (back_rounds hres hcB hcC hcD hop1 hoc6 hoc hop2 h19 hasg hbd hsz hp hq len ρa h w1 a1 ret h' hle (hE1.mono g1.le) I1 (EL_of p1.env he0 he1 he3) hd1 (by rw [z1]; exact hsz0) hb))
    · simp at hoc
  · simp at hok

theorem Rel.laid {ρ : Ren} {h : Hp} {w : World} (hR : Rel ρ h w.heap) (ob : Obj) : Rel ρ h (w.alloc ob).heap :=
  ⟨fun b r hb => ⟨(hR.lt b r hb).1, by have := (hR.lt b r hb).2; simp; omega⟩, hR.inj, fun b r o hb ho => (hR.ob b r o hb ho).mono (Ren.le.refl ρ) (by
    have := (hR.lt b r hb).2
    show (w.heap.push ob)[r.blk]? = w.heap[r.blk]?
    rw [Array.getElem?_push]
    split
    · omega
    · rfl)⟩
abbrev laidLoop (w : World) (fn : FuncId) (tmps : Array Value) (ps : Array Tmp) (assign body : Code) : World :=
  (w.alloc (.deferred (some []))).alloc (.loop { state := .ready, pending := none, fn, tmps, params := ps, assign, body, defers := w.heap.size })
theorem BInv.start {ρ : Ren} {h : Hp} {w : World} (hR : Rel ρ h w.heap) (fn : FuncId) (tmps : Array Value) (ps : Array Tmp) (assign body : Code) :
    BInv ρ h.next w w.heap.size (w.heap.size + 1) (recOf fn tmps ps assign body w.heap.size .ready none) ρ h (laidLoop w fn tmps ps assign body) where
  grow := (Grow.laid _ _).trans (Grow.laid _ _)
  rel := (hR.laid _).laid _
  hD := Nat.le_refl _
  hl := Nat.lt_succ_self _
  lt := by simp
  off := fun b q hb => by have := (hR.lt b q hb).2; exact ⟨by omega, by omega⟩
  dfr := by
    show ((w.heap.push _).push _)[w.heap.size]? = _
    simp [Array.getElem?_push]
  loop := by
    show ((w.heap.push _).push _)[w.heap.size + 1]? = _
    rw [Array.getElem?_push, if_pos (by simp)]
    rfl

/-- Is the function of the form? -/
def backFnOk (P : Program) (F : Func) (B : BackF) : Bool :=
  !(F.name == "runtime.NumGoroutine") && resOk P F.results.toList B.res && decide (B.p < F.ntmps) && decide (B.q < F.ntmps) && match F.body with
  | some (.seq c0 (.seq (.seq c1 (.block 0 (.rangeFunc g ps asg bd))) rest)) =>
    codeOk P F.ntmps c0 B.pre && codeOk P F.ntmps c1 B.pre2 && decide (absOpd g = some (.t B.t)) && decide (ps = #[B.p, B.q]) && codeOk P F.ntmps asg B.asg && codeOk P F.ntmps bd B.bd && codeOk P F.ntmps rest B.rest
  | _ => false

theorem spec_back {T : Tab} (hT : TabOk P T) (N : Nat) {f : Nat} {F : Func} {B : BackF} {Fb : Func} (hf : P.funcs[f]? = some F) (hok : backFnOk P F B = true) (hbf : P.funcs[B.bf]? = some Fb) (hbok : backOk P Fb = true) :
    SpecFor P f (backRun T N B) := by
  intro ρ h w args vals hR hargs v h' hg
  have hES := (sound hT N).1
  unfold backFnOk at hok
  simp only [Bool.and_eq_true, Bool.not_eq_true', decide_eq_true_iff] at hok
  obtain ⟨⟨⟨⟨hname, hres⟩, hp⟩, hq⟩, hok⟩ := hok
  split at hok
  rotate_left
  · simp at hok
  rename_i c0 c1 g ps asg bd rest hbody
  simp only [Bool.and_eq_true, decide_eq_true_iff] at hok
  obtain ⟨⟨⟨⟨⟨⟨hc0, hc1⟩, hgo⟩, hps⟩, hasg⟩, hbd⟩, hrest⟩ := hok
  subst hps
  have hrun : (callFunc f vals).run P w = .ok (.enter f vals) w := by
    have : F.name ≠ "runtime.NumGoroutine" := by simpa using hname
    simp [callFunc, hf, hbody, this]
  unfold CallR
  rw [hrun]
  refine (callsIn_wide (n := 5)).1 ?_
  -- The abstract run.
  unfold backRun at hg
  split at hg
  rotate_left
  · simp at hg
  rename_i s1 hx1
  split at hg
  rotate_left
  · simp at hg
  rename_i s2 hx2
  split at hg
  rotate_left
  · simp at hg
  rename_i hdefs
  unfold backTail at hg
  split at hg
  rotate_left
  · simp at hg
  rename_i bf b ofs hget
  rw [Bool.cond_eq_ite] at hg
  split at hg
  rotate_left
  · simp at hg
  rename_i hbfe
  have hbfe := Nat.eq_of_beq_eq_true hbfe
  subst hbfe
  split at hg
  rotate_left
  · simp at hg
  rename_i len hlen
  rw [Bool.cond_eq_ite] at hg
  split at hg
  rotate_left
  · simp at hg
  rename_i hle
  have hle := Nat.le_of_ble_eq_true hle
  -- The walk.
  refine callsIn_of_wp_marks hf hbody trivial ?_
  have hsz0 : F.ntmps ≤ (vals ++ Array.replicate (F.ntmps - vals.size) undef).size := by simp; omega
  have hrc1 := exec_rc T N B.pre { env := params 0 args, heap := h, defs := [], rc := none } rfl
  rw [hx1] at hrc1
  have hrc2 := exec_rc T N B.pre2 s1 hrc1
  rw [hx2] at hrc2
  refine wpIn_seq (wpIn_wide.2 (hES F.ntmps c0 B.pre hc0 ρ { env := params 0 args, heap := h, defs := [], rc := none } { tmps := vals ++ Array.replicate (F.ntmps - vals.size) undef, defers := [] } w ⟨params_VR hargs, hR, trivial⟩ rfl hsz0 _ ?_))
  rw [hx1]
  intro a1 w1 hpost1
  obtain ⟨ρa, g1, p1, z1⟩ := hpost1.pre
  refine wpIn_seq (wpIn_seq (wpIn_wide.2 (hES F.ntmps c1 B.pre2 hc1 ρa s1 a1 w1 p1 hrc1 (by rw [z1]; exact hsz0) _ ?_)))
  rw [hx2]
  intro a2 w2 hpost2
  obtain ⟨ρb, g2, p2, z2⟩ := hpost2.pre
  have hd2 : a2.defers = [] := by
    have := p2.defs.length
    rw [hdefs] at this
    exact List.length_eq_zero_iff.1 this.symm
  have hsz2 : F.ntmps ≤ a2.tmps.size := by rw [z2, z1]; exact hsz0
  have G2 : Grow ρ h.next w ρb s2.heap.next w2 := g1.trans g2
  refine wpIn_block (wpIn_rangeFunc ?_)
  intro fn hfn
  have hgv := ev_VR p2.env hgo
  simp only [ev, hget] at hgv
  obtain ⟨A, C, hv, hA, hC⟩ := hgv
  have hA0 : A = #[] := by
    have := hA.length
    apply Array.ext'
    simpa using List.length_eq_zero_iff.1 this.symm
  subst hA0
  match hCl : C.toList, hC with
  | [u], hh =>
  obtain ⟨hu, _⟩ := hh
  have hCe : C = #[u] := by rw [← Array.toArray_toList (xs := C), hCl]
  subst hCe
  have hbname : (callFunc B.bf #[.func (.yield (w2.heap.size + 1)) #[] #[], u]).run P (laidLoop w2 fn a2.tmps #[B.p, B.q] asg bd) =
      .ok (.enter B.bf #[.func (.yield (w2.heap.size + 1)) #[] #[], u]) (laidLoop w2 fn a2.tmps #[B.p, B.q] asg bd) := by
    have hbok' := hbok
    unfold backOk at hbok'
    simp only [Bool.and_eq_true, Bool.not_eq_true'] at hbok'
    obtain ⟨⟨⟨hbn, -⟩, -⟩, hbb⟩ := hbok'
    split at hbb
    · rename_i hbody2
      have : Fb.name ≠ "runtime.NumGoroutine" := by simpa using hbn
      simp [callFunc, hbf, hbody2, this]
    · simp at hbb
  refine ⟨w2.heap.size + 1, [{ target := .collected w2.heap.size, args := #[] }], laidLoop w2 fn a2.tmps #[B.p, B.q] asg bd, { target := .fn (.func B.bf) #[u], args := #[.func (.yield (w2.heap.size + 1)) #[] #[]] }, laidLoop w2 fn a2.tmps #[B.p, B.q] asg bd, B.bf, #[.func (.yield (w2.heap.size + 1)) #[] #[], u], laidLoop w2 fn a2.tmps #[B.p, B.q] asg bd, run_enterLoop_outer _ _ _ _ _, ?_, fun _ _ => trivial, ?_, fun h => by contradiction, ?_⟩
  rotate_left
  · simp only [invoke]; exact hbname
  rotate_left
  · simp only [resolve, rangeCall, hv, Deferred.ofValue]; simp; rfl
  split at hg
  · -- A round has returned.
    rename_i h2 hbr
    refine (back_calls (n := 5 - 1) hbf hbok hasg hbd hsz2 hp hq p2.env (BInv.start p2.rel fn a2.tmps #[B.p, B.q] asg bd) (u := u) hu hlen hle hbr).mono ?_
    rintro en w3 ⟨v', ρc, rfl, I3⟩
    have I4 := I3.put { recOf fn a2.tmps #[B.p, B.q] asg bd w2.heap.size .done (some .ret) with state := .exhausted }
    refine ⟨some .ret, _, run_endLoop I3.loop (by simp [recOf]), ?_⟩
    simp only [Option.map_eq_some_iff, Prod.mk.injEq] at hg
    obtain ⟨v2, hv2, rfl, rfl⟩ := hg
    have R5 := I4.rel.lay (ob := .deferred none) (l := w2.heap.size) fun b q hb => (I4.off b q hb).1
    obtain ⟨uv, huv, hvr⟩ := results_sound (fn := F) (a := a2) R5 (p2.env.mono I4.grow.le) hres hv2
    refine wpIn_ret ?_
    show LeavesInM _ _ _ _ _ _ _ _ _
    simp only [hd2, List.append_nil]
    exact ⟨by simp, .inl ⟨_, _, rfl, run_takeDeferred I4.dfr, uv, huv, ρc, uv, rfl, hvr, (G2.trans I4.grow).put (Nat.le_trans G2.size (Nat.le_refl _)), R5⟩⟩
  · rename_i h2 hbr
    refine (back_calls (n := 5 - 1) hbf hbok hasg hbd hsz2 hp hq p2.env (BInv.start p2.rel fn a2.tmps #[B.p, B.q] asg bd) (u := u) hu hlen hle hbr).mono ?_
    rintro en w3 ⟨v', ρc, rfl, I3⟩
    have I4 := I3.put { recOf fn a2.tmps #[B.p, B.q] asg bd w2.heap.size .ready none with state := .exhausted }
    refine ⟨none, _, run_endLoop I3.loop (by simp [recOf]), ?_⟩
    split at hg
    rotate_left
    · simp at hg
    rename_i e3 s3 hx3
    split at hg
    rotate_left
    · simp at hg
    rename_i hd3
    simp only [Option.map_eq_some_iff, Prod.mk.injEq] at hg
    obtain ⟨v2, hv2, rfl, rfl⟩ := hg
    refine wpIn_wide.2 (hES F.ntmps rest B.rest hrest ρc (St.plus { env := s2.env, heap := h2, defs := [], rc := none } [.map w2.heap.size]) { tmps := a2.tmps, defers := [{ target := .collected w2.heap.size, args := #[] }] ++ a2.defers } _ ⟨p2.env.mono I4.grow.le, I4.rel, ?_⟩ rfl hsz2 _ ?_)
    · simp only [hd2, List.append_nil]
      exact ⟨rfl, trivial⟩
    rw [exec_plus, hx3]
    intro a6 w6 hpost6
    obtain ⟨ρd, g6, p6, z6⟩ := hpost6.pre
    have I6 : BInv ρb s2.heap.next w2 w2.heap.size (w2.heap.size + 1) _ ρd s3.heap w6 := I4.step g6 p6.rel
    have hd6 : a6.defers = [{ target := .collected w2.heap.size, args := #[] }] := by
      have := p6.defs
      simp only [St.plus, hd3, List.nil_append] at this
      match a6.defers, this with
      | [d], hh => obtain ⟨h1, _⟩ := hh; rw [show d = _ from h1]
    have R7 := I6.rel.lay (ob := .deferred none) (l := w2.heap.size) fun b q hb => (I6.off b q hb).1
    obtain ⟨uv, huv, hvr⟩ := results_sound (fn := F) (a := a6) R7 p6.env hres hv2
    show LeavesInM _ _ _ _ _ _ _ _ _
    rw [hd6]
    exact ⟨by simp, .inl ⟨_, _, rfl, run_takeDeferred I6.dfr, uv, huv, ρd, uv, rfl, hvr, (G2.trans I6.grow).put (Nat.le_trans G2.size (Nat.le_refl _)), R7⟩⟩
  · simp at hg
end
end Go.Proofs.YtjlebgfbohihfaaGreat.Am
