/-
  The operations that only read or reckon, one by one.
-/
import Derived.Test.YtjlebgfbohihfaaGreatAmE2
namespace Go.Proofs.YtjlebgfbohihfaaGreat.Am
open Go
set_option linter.unusedVariables false
set_option linter.unusedSimpArgs false

section
variable {P : Program} {ρ : Ren} {h : Hp} {w : World} {e : Env} {a : Act}

theorem val_run {s : Sem Value} {u : Value} {w' : World} (hs : s.run P w = .ok u w') : (do pure (Next.value (← s)) : Sem Next).run P w = .ok (.value u) w' := by
  simp [hs]

theorem ld_sound (hR : Rel ρ h w.heap) {x : Opd} {v : AVal} {u : Value} (hu : VR ρ (ev e x) u) (hv : pureOp e h (.ld x) = some v) {t : TypeId} (ht : aggT P t = some false) :
    ∃ r, (Instr.loadAt t u).run P w = .ok r w ∧ VR ρ v r := by
  simp only [pureOp] at hv
  split at hv
  · rename_i b o hx
    rw [hx] at hu
    obtain ⟨r, hr, rfl⟩ := hu.ptr
    split at hv
    · rename_i cs y hb
      simp only [Option.map_eq_some_iff] at hv
      obtain ⟨c, hc, rfl⟩ := hv
      obtain ⟨u, hcell, hcr⟩ := cell_load hR hr hb hc
      exact ⟨u, by simp [Instr.loadAt, Instr.sureAddr, loadVar, run_isAgg ht, hcell], VR.of_CR hcr⟩
    · simp at hv
  · simp at hv

theorem ldn_sound (hR : Rel ρ h w.heap) {x : Opd} {v : AVal} {u : Value} {n : Nat} (hu : VR ρ (ev e x) u) (hv : pureOp e h (.ldn n x) = some v) {t : TypeId} (ht : aggT P t = some true) (hn : sizeT P t = some n) :
    ∃ r, (Instr.loadAt t u).run P w = .ok r w ∧ VR ρ v r := by
  simp only [pureOp] at hv
  split at hv
  · rename_i b o hx
    rw [hx] at hu
    obtain ⟨r, hr, rfl⟩ := hu.ptr
    split at hv
    · rename_i cs y hb
      split at hv
      · rename_i hle
        simp at hv; subst hv
        obtain ⟨us, hrun, _, hall, _⟩ := cells_load (P := P) hR hr hb hle
        exact ⟨.agg us.toArray, by simp [Instr.loadAt, Instr.sureAddr, loadVar, run_isAgg ht, run_sizeOf hn, hrun w rfl], us.toArray, rfl, hall⟩
      · simp at hv
    · simp at hv
  · simp at hv

theorem eqIn_ptr_nil (d : Nat) {t u : TypeId} (hu : P.underlying t = some (.pointer u)) (x : Addr) (w : World) : (Op.equalIn (d + 1) t (.pointer (some x)) (.pointer none)).run P w = .ok false w := by
  simp [Op.equalIn, run_underlying hu]
theorem eqIn_nil_nil (d : Nat) {t u : TypeId} (hu : P.underlying t = some (.pointer u)) (w : World) : (Op.equalIn (d + 1) t (.pointer none) (.pointer none)).run P w = .ok true w := by
  simp [Op.equalIn, run_underlying hu]
theorem eqIn_slice_nil (d : Nat) {t u : TypeId} (hu : P.underlying t = some (.slice u)) (x : Addr) (n c : Nat) (w : World) : (Op.equalIn (d + 1) t (.slice (some x) n c) (.slice none 0 0)).run P w = .ok false w := by
  simp [Op.equalIn, run_underlying hu]
theorem eqIn_slices_nil (d : Nat) {t u : TypeId} (hu : P.underlying t = some (.slice u)) (w : World) : (Op.equalIn (d + 1) t (.slice none 0 0) (.slice none 0 0)).run P w = .ok true w := by
  simp [Op.equalIn, run_underlying hu]
theorem eqIn_iface_nil (d : Nat) {t : TypeId} {ms : Array (String × TypeId)} (hu : P.underlying t = some (.interface ms)) (u : TypeId) (x : Value) (w : World) : (Op.equalIn (d + 1) t (.iface u x) .nilIface).run P w = .ok false w := by
  simp [Op.equalIn, run_underlying hu]
theorem eqIn_ifaces_nil (d : Nat) {t : TypeId} {ms : Array (String × TypeId)} (hu : P.underlying t = some (.interface ms)) (w : World) : (Op.equalIn (d + 1) t .nilIface .nilIface).run P w = .ok true w := by
  simp [Op.equalIn, run_underlying hu]
theorem eqGuard_nil {ox oy : Operand} (hc : isConstO ox = true ∨ isConstO oy = true) (op : BinOp) (t : TypeId) (w : World) : (eqGuard op t ox oy .nilIface .nilIface).run P w = .ok () w := by
  rcases hc with h | h
  · cases ox <;> simp [isConstO] at h
    cases op <;> rfl
  · cases oy <;> simp [isConstO] at h
    cases op <;> cases ox <;> rfl
/-- '==' or '!=' of two values of which the model says whether they are the same. -/
theorem both_run {op : BinOp} {t : TypeId} {x y : Operand} {p q : Value} {b : Bool} {r : Cell} (hr : bothEq op b = some r)
    (hg : (eqGuard op t x y p q).run P w = .ok () w) (he : (Op.equal t p q).run P w = .ok b w)
    (hshape : (binOp .eql t p q = do pure (.bool (← Op.equal t p q))) ∧ (binOp .neq t p q = do pure (.bool (!(← Op.equal t p q))))) :
    ∃ v, (do eqGuard op t x y p q; binOp op t p q : Sem Value).run P w = .ok v w ∧ VR ρ (.c r) v := by
  cases op <;> simp [bothEq] at hr <;> subst hr
  · exact ⟨.bool b, by simp only [Sem.run_bind, hg, Result.andThen_ok, hshape.1, he, Sem.run_pure], rfl⟩
  · exact ⟨.bool (!b), by simp only [Sem.run_bind, hg, Result.andThen_ok, hshape.2, he, Sem.run_pure], rfl⟩

theorem bin_sound {op : BinOp} {x y : Opd} {v : AVal} {p q : Value} {tc : Nat} (hp : VR ρ (ev e x) p) (hq : VR ρ (ev e y) q) (hv : pureOp e h (.bin tc op x y) = some v) {t : TypeId} {ox oy : Operand} (ht : binTc P op t ox oy = some tc) :
    ∃ r, (do eqGuard op t ox oy p q; binOp op t p q : Sem Value).run P w = .ok r w ∧ VR ρ v r := by
  simp only [pureOp] at hv
  split at hv
  · rename_i c d hx hy
    rw [hx] at hp; rw [hy] at hq
    simp only [Option.map_eq_some_iff] at hv
    obtain ⟨r, hr, rfl⟩ := hv
    unfold binCell at hr
    split at hr
    · -- ints
      rename_i k m j n
      have := hp.int; have := hq.int; subst p q
      have hg : (eqGuard op t ox oy (.int k m) (.int j n)).run P w = .ok () w := by
        unfold eqGuard; cases op <;> rfl
      split at hr
      · obtain ⟨u, h1, h2⟩ := intShift_run (P := P) (j := j) hr t w
        exact ⟨u, by simp only [Sem.run_bind, hg, Result.andThen_ok, h1], VR.of_CR (h2 ρ)⟩
      · rename_i hs
        split at hr
        · subst_vars
          obtain ⟨u, h1, h2⟩ := intBin_run (P := P) hr (by simpa using hs) t w
          exact ⟨u, by simp only [Sem.run_bind, hg, Result.andThen_ok, h1], VR.of_CR (h2 ρ)⟩
        · simp at hr
    · -- strings
      rename_i s s'
      have := hp.str; have := hq.str; subst p q
      have hg : (eqGuard op t ox oy (.string ⟨s.toArray⟩) (.string ⟨s'.toArray⟩)).run P w = .ok () w := by
        unfold eqGuard; cases op <;> rfl
      obtain ⟨u, h1, h2⟩ := strBin_run (P := P) hr t w
      exact ⟨u, by simp only [Sem.run_bind, hg, Result.andThen_ok, h1], VR.of_CR (h2 ρ)⟩
    all_goals (try (exact absurd hr (by simp)))
    all_goals
      rw [nbeq, bif_decide] at hr
      split at hr; rotate_left
      · exact absurd hr (by simp)
      rename_i htc
      rw [htc] at ht
      unfold binTc at ht
      split at ht <;> simp at ht
      rename_i hu
    · -- bools
      have := hp.bool; have := hq.bool; subst p q
      exact both_run hr (by unfold eqGuard; cases op <;> rfl) (by unfold Op.equal Op.maxDepth; exact run_equalIn_bool' w _ t _ _ hu) ⟨rfl, rfl⟩
    · obtain ⟨r, _, rfl⟩ := hp.ptr
      have hq : q = .pointer none := hq
      subst hq
      exact both_run hr (by unfold eqGuard; cases op <;> rfl) (eqIn_ptr_nil 9999 hu _ w) ⟨rfl, rfl⟩
    · have hp : p = .pointer none := hp
      have hq : q = .pointer none := hq
      subst hp; subst hq
      exact both_run hr (by unfold eqGuard; cases op <;> rfl) (eqIn_nil_nil 9999 hu w) ⟨rfl, rfl⟩
    · obtain ⟨r, a', cap', _, rfl, _⟩ := hp
      have hq : q = .slice none 0 0 := hq
      subst hq
      exact both_run hr (by unfold eqGuard; cases op <;> rfl) (eqIn_slice_nil 9999 hu _ _ _ w) ⟨rfl, rfl⟩
    · have hp : p = .slice none 0 0 := hp
      have hq : q = .slice none 0 0 := hq
      subst hp; subst hq
      exact both_run hr (by unfold eqGuard; cases op <;> rfl) (eqIn_slices_nil 9999 hu w) ⟨rfl, rfl⟩
    · obtain ⟨t', x', rfl⟩ := hp
      have hq : q = .nilIface := hq
      subst hq
      exact both_run hr (by unfold eqGuard; cases op <;> rfl) (eqIn_iface_nil 9999 hu _ _ w) ⟨rfl, rfl⟩
    · have hp : p = .nilIface := hp
      have hq : q = .nilIface := hq
      subst hp; subst hq
      refine both_run hr ?_ (eqIn_ifaces_nil 9999 hu w) ⟨rfl, rfl⟩
      refine eqGuard_nil ?_ op t w
      cases hox : isConstO ox
      · exact .inr (ht hox)
      · exact .inl rfl
  · simp at hv

theorem eqa_sound {op : BinOp} {x y : Opd} {v : AVal} {p q : Value} {sk : List CK} (hp : VR ρ (ev e x) p) (hq : VR ρ (ev e y) q) (hv : pureOp e h (.eqa (op == .neq) sk x y) = some v) {t : TypeId} {ox oy : Operand}
    (ha : isAggDesc (P.underlying t) = true) (ho : eqOp op = true) (hg : P.eqGuardType P.depth t = false) (hs : skel P 8 t = some sk) :
    ∃ r, (do eqGuard op t ox oy p q; binOp op t p q : Sem Value).run P w = .ok r w ∧ VR ρ v r := by
  simp only [pureOp] at hv
  split at hv
  · rename_i c d hx hy
    rw [hx] at hp; rw [hy] at hq
    split at hv
    · rename_i hf
      simp only [Bool.and_eq_true] at hf
      simp at hv; subst hv
      obtain ⟨A, rfl, hA⟩ := hp
      obtain ⟨B, rfl, hB⟩ := hq
      have eA : A = (c.map litV).toArray := by rw [← fitAll_lits hf.1 hA]
      have eB : B = (d.map litV).toArray := by rw [← fitAll_lits hf.2 hB]
      obtain ⟨⟨b, hb, _, heq⟩, _⟩ := skel_eq (P := P) 8 t sk hs 9992
      have hbt : b = true := by
        unfold aggT at hb
        unfold isAggDesc at ha
        split at ha <;> simp_all
      subst hbt
      have h1 := heq w c d hf.1 hf.2
      simp only [mkV, if_true] at h1
      rw [← eA, ← eB] at h1
      have hgr := run_eqGuard_agg (P := P) w op t ox oy A B hg
      cases op <;> simp [eqOp] at ho
      · refine ⟨.bool (decide (c = d)), ?_, ?_⟩
        · simp only [Sem.run_bind, hgr, Result.andThen_ok, run_eql_struct, h1]
        · show Value.bool _ = Value.bool _; rw [show (BinOp.eql == BinOp.neq) = false from rfl]; simp
      · refine ⟨.bool (!decide (c = d)), ?_, ?_⟩
        · simp only [Sem.run_bind, hgr, Result.andThen_ok, run_neq_struct, h1]
        · show Value.bool _ = Value.bool _; rw [show (BinOp.neq == BinOp.neq) = true from rfl]; simp
    · simp at hv
  · simp at hv

theorem un_sound {op : UnOp} {x : Opd} {v : AVal} {p : Value} (hp : VR ρ (ev e x) p) (hv : pureOp e h (.un op x) = some v) :
    ∃ r, (Op.unary op p).run P w = .ok r w ∧ VR ρ v r := by
  simp only [pureOp] at hv
  split at hv
  · rename_i c hx
    rw [hx] at hp
    simp only [Option.map_eq_some_iff] at hv
    obtain ⟨r, hr, rfl⟩ := hv
    unfold unCell at hr
    split at hr
    · have := hp.int; subst this
      split at hr
      · have := Option.some.inj hr; subst this; exact ⟨_, rfl, rfl⟩
      · have := Option.some.inj hr; subst this; exact ⟨_, rfl, rfl⟩
      · simp at hr
    · have := hp.bool; subst this
      split at hr
      · have := Option.some.inj hr; subst this; exact ⟨_, rfl, rfl⟩
      · simp at hr
    · simp at hr
  · simp at hv

theorem part_scalar {cs : List Cell} {A : Array Value} (hA : All2 (CR ρ) cs A.toList) {i : Nat} {c : Cell} (hc : cs[i]? = some c) {t : TypeId} (ht : aggT P t = some false) :
    ∃ r, (part t A i).run P w = .ok r w ∧ VR ρ (.c c) r := by
  obtain ⟨u, hu, hcr⟩ := hA.get hc
  exact ⟨u, by simp only [part, Sem.run_bind, run_isAgg ht, Result.andThen_ok, Bool.false_eq_true, if_false]; simp at hu; simp [hu], VR.of_CR hcr⟩
theorem part_agg {cs : List Cell} {A : Array Value} (hA : All2 (CR ρ) cs A.toList) {i n : Nat} {t : TypeId} (ht : aggT P t = some true) (hn : sizeT P t = some n) :
    ∃ r, (part t A i).run P w = .ok r w ∧ VR ρ (.agg ((cs.drop i).take n)) r := by
  refine ⟨.agg (A.extract i (i + n)), by simp [part, run_isAgg ht, run_sizeOf hn], _, rfl, ?_⟩
  have := (hA.drop i).take n
  rw [show (A.extract i (i + n)).toList = (A.toList.drop i).take n from by simp]
  exact this

theorem bndO_run {x : Option Opd} {o : Option Operand} {most most' dflt m : Nat} (hE : EnvR ρ e a.tmps) (ho : absOpt o = some x) (hb : bndO e x most dflt = some m) (hle : most ≤ most') (code : BoundsCode) (w : World) :
    (match o.map a.eval with | some v => Instr.sliceBound v most' code | none => pure dflt : Sem Nat).run P w = .ok m w ∧ (m ≤ most ∨ m = dflt) := by
  cases o with
  | none =>
    simp [absOpt] at ho; subst ho
    simp [bndO] at hb; subst hb
    exact ⟨rfl, .inr rfl⟩
  | some o =>
    simp only [absOpt, Option.map_eq_some_iff] at ho
    obtain ⟨y, hy, rfl⟩ := ho
    simp only [bndO] at hb
    obtain ⟨h1, h2⟩ := bnd_run' (P := P) (ev_VR hE hy) hb hle code w
    exact ⟨h1, .inl h2⟩

theorem max_sound : ∀ {xs : List Opd} {vs : List Value} {acc r : AVal} {u : Value}, VR ρ acc u → All2 (VR ρ) (xs.map (ev e)) vs →
    xs.foldlM (fun a y => match a, ev e y with | .c (.int k p), .c (.int _ q) => some (.c (.int k (if q > p then q else p))) | _, _ => none) acc = some r →
    ∃ z, (vs.foldlM Builtin.max2 u).run P w = .ok z w ∧ VR ρ r z
  | [], [], acc, r, u, hu, _, h => by
    simp at h; subst h
    exact ⟨u, rfl, hu⟩
  | x :: xs, v :: vs, acc, r, u, hu, hv, h => by
    simp only [List.foldlM_cons, Option.bind_eq_bind, Option.bind_eq_some_iff] at h
    obtain ⟨mid, h1, h2⟩ := h
    split at h1
    · rename_i k p j q hx
      simp at h1; subst h1
      have := hu.int; subst this
      have hv1 := hv.1
      rw [hx] at hv1
      have := hv1.int; subst this
      obtain ⟨z, hz, hr⟩ := max_sound (xs := xs) (vs := vs) (acc := .c (.int k (if q > p then q else p))) (u := .int k (if q > p then q else p)) rfl hv.2 h2
      exact ⟨z, by simp only [List.foldlM_cons, Sem.run_bind, Builtin.max2, Sem.run_pure, Result.andThen_ok]; exact hz, hr⟩
    · simp at h1
  | [], _ :: _, _, _, _, _, hv, _ => hv.elim
  | _ :: _, [], _, _, _, _, hv, _ => hv.elim
theorem min_sound : ∀ {xs : List Opd} {vs : List Value} {acc r : AVal} {u : Value}, VR ρ acc u → All2 (VR ρ) (xs.map (ev e)) vs →
    xs.foldlM (fun a y => match a, ev e y with | .c (.int k p), .c (.int _ q) => some (.c (.int k (if q < p then q else p))) | _, _ => none) acc = some r →
    ∃ z, (vs.foldlM Builtin.min2 u).run P w = .ok z w ∧ VR ρ r z
  | [], [], acc, r, u, hu, _, h => by
    simp at h; subst h
    exact ⟨u, rfl, hu⟩
  | x :: xs, v :: vs, acc, r, u, hu, hv, h => by
    simp only [List.foldlM_cons, Option.bind_eq_bind, Option.bind_eq_some_iff] at h
    obtain ⟨mid, h1, h2⟩ := h
    split at h1
    · rename_i k p j q hx
      simp at h1; subst h1
      have := hu.int; subst this
      have hv1 := hv.1
      rw [hx] at hv1
      have := hv1.int; subst this
      obtain ⟨z, hz, hr⟩ := min_sound (xs := xs) (vs := vs) (acc := .c (.int k (if q < p then q else p))) (u := .int k (if q < p then q else p)) rfl hv.2 h2
      exact ⟨z, by simp only [List.foldlM_cons, Sem.run_bind, Builtin.min2, Sem.run_pure, Result.andThen_ok]; exact hz, hr⟩
    · simp at h1
  | [], _ :: _, _, _, _, _, hv, _ => hv.elim
  | _ :: _, [], _, _, _, _, hv, _ => hv.elim

theorem fill_sound (hE : EnvR ρ e a.tmps) {place : Nat → Option (Nat × Nat)} : ∀ {ps : List (Nat × Operand)} {l : List (Nat × Nat × Opd)} {cs cs' : List Cell} {C : Array Value}, absParts place ps = some l → fillAt e cs l = some cs' →
    All2 (CR ρ) cs C.toList → ∃ C', Instr.fill place C (ps.map fun p => (p.1, a.eval p.2)) = some C' ∧ All2 (CR ρ) cs' C'.toList
  | [], l, cs, cs', C, hl, hf, hc => by
    simp [absParts] at hl; subst hl
    simp [fillAt] at hf; subst hf
    exact ⟨C, rfl, hc⟩
  | (i, x) :: ps, l, cs, cs', C, hl, hf, hc => by
    simp only [absParts] at hl
    split at hl
    · rename_i off size y ys h1 h2 h3
      simp at hl; subst hl
      simp only [fillAt] at hf
      rw [nbeq, Bool.cond_eq_ite] at hf
      split at hf
      · rename_i hcond
        simp only [Bool.and_eq_true, decide_eq_true_iff] at hcond
        obtain ⟨⟨hone, hlen⟩, hle⟩ := hcond
        have hle := Nat.le_of_ble_eq_true hle
        have hv := ev_VR hE h2
        have hcells := hv.cells hone
        have hsz : (a.eval x).cells.size = size := by rw [← hlen, hcells.length]; simp
        have hC : cs.length = C.size := by simpa using hc.length
        have key : ∀ (vs : List Value) (j : Nat) (D : Array Value), (vs.zipIdx j).foldl (fun (cs : Array Value) (p : Value × Nat) => cs.setIfInBounds (off + p.2) p.1) D = (setAt D.toList (off + j) vs).toArray := by
          intro vs
          induction vs with
          | nil => intro j D; simp [setAt]
          | cons v vs ih => intro j D; simp only [List.zipIdx_cons, List.foldl_cons, setAt]; rw [ih]; simp [Nat.add_assoc]
        have hset : (a.eval x).cells.zipIdx.foldl (fun (cs : Array Value) (p : Value × Nat) => cs.setIfInBounds (off + p.2) p.1) C = (setAt C.toList off (a.eval x).cells.toList).toArray := by
          have := key (a.eval x).cells.toList 0 C
          simp only [Nat.add_zero] at this
          rw [← this, ← Array.foldl_toList, Array.toList_zipIdx]
        have hall : All2 (CR ρ) (setAt cs off (ev e y).cells) (setAt C.toList off (a.eval x).cells.toList) := by
          refine All2.of_get (by simp [setAt_length, hC]) ?_
          intro k c v hk hv'
          rw [setAt_get _ _ _ _ (by omega)] at hk
          rw [setAt_get _ _ _ _ (by simp [hsz]; omega)] at hv'
          have hl2 : (a.eval x).cells.toList.length = size := by simpa using hsz
          rw [hl2] at hv'; rw [hlen] at hk
          split at hk
          · rename_i hcd
            rw [if_pos hcd] at hv'
            obtain ⟨v2, hv2, hr⟩ := hcells.get hk
            rw [hv2] at hv'; simp at hv'; subst hv'; exact hr
          · rename_i hcd
            rw [if_neg hcd] at hv'
            obtain ⟨v2, hv2, hr⟩ := hc.get hk
            rw [hv2] at hv'; simp at hv'; subst hv'; exact hr
        obtain ⟨C', hC', hr⟩ := fill_sound hE (ps := ps) (C := (setAt C.toList off (a.eval x).cells.toList).toArray) h3 hf hall
        refine ⟨C', ?_, hr⟩
        simp only [List.map_cons, Instr.fill, h1]
        rw [if_neg]
        · show Instr.fill place ((a.eval x).cells.zipIdx.foldl (fun (cs : Array Value) (p : Value × Nat) => cs.setIfInBounds (off + p.2) p.1) C) _ = _
          rw [hset]; exact hC'
        · simp [hsz]; omega
      · simp at hf
    · simp at hl
end
end Go.Proofs.YtjlebgfbohihfaaGreat.Am
