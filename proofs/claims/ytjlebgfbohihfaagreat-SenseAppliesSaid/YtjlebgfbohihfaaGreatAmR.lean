/-
  A region whose order is drawn: the steps, and the whole.
-/
import Derived.Test.YtjlebgfbohihfaaGreatAmQ
namespace Go.Proofs.YtjlebgfbohihfaaGreat.Am
open Go
set_option linter.unusedVariables false
set_option linter.unusedSimpArgs false

section
variable {P : Program} {callf : Nat → List AVal → Hp → CRes} {ops : Array Oper} {items : List DIt} {nt : Nat} {anc : Nat → Nat → Bool}
variable {ρ0 ρ : Ren} {n0 : Nat} {w0 w : World} {sz : Nat} {pre rest : List DIt} {listed : Array Bool} {s : St} {a : Act}

theorem closed_set (I : Inv ops items ρ0 n0 w0 sz pre rest listed ρ s a w) {j : Nat} (hj : j ∈ Region.ready .any ops listed) (i : Nat) (o : Oper)
    (hi : (listed.setIfInBounds j true).getD i false = true) (ho : ops[i]? = some o) (e : Edge) (he : e ∈ o.after) (hb : Region.binds .any e = true) : (listed.setIfInBounds j true).getD e.on false = true := by
  obtain ⟨_, o', ho', hall⟩ := mem_ready.1 hj
  have hlt : j < listed.size := by rw [I.lsz]; exact (Array.getElem?_eq_some_iff.1 ho').1
  rw [set_getD hlt] at hi ⊢
  split at hi
  · subst_vars
    rw [ho] at ho'; cases ho'
    split
    · rfl
    · exact hall e he hb
  · split
    · rfl
    · exact I.closed i o hi ho e he hb
theorem grow_put {O : Obj} {b : Nat} {r : RB} (hG : Grow ρ0 n0 w0 ρ s.heap.next w) (hno : ρ b = none) (hr : r.blk = w.heap.size) (hlo : n0 ≤ b) :
    Grow ρ0 n0 w0 (ρ.add b r) s.heap.next { w with heap := w.heap.push O } := by
  refine ⟨hG.le.trans (Ren.add_le hno), by simp; have := hG.size; omega, ?_, ?_, hG.tape, hG.os, hG.output, hG.nx, ?_⟩
  · intro c q hc
    unfold Ren.add at hc
    split at hc
    · simp at hc; subst hc; exact .inr (by rw [hr]; exact hG.size)
    · exact hG.new c q hc
  · intro i hi hn
    have := hG.size
    simp only
    rw [Array.getElem?_push, if_neg (by omega)]
    exact hG.frame i hi hn
  · intro c q hc
    unfold Ren.add at hc
    split at hc
    · subst_vars; exact .inr hlo
    · exact hG.fresh c q hc
theorem Rel.put {h : Hp} {H : Array Obj} (hR : Rel ρ h H) {O : Obj} {r : RB} {b : Nat} {o : AObj} (hb : h.get b = some o) (hlt : b < h.next) (hno : ρ b = none) (hr : r.blk = H.size)
    (ho : OR (ρ.add b r) r (H.push O) o) : Rel (ρ.add b r) h (H.push O) := by
  have hold : ∀ c s, ρ c = some s → c ≠ b ∧ (H.push O)[s.blk]? = H[s.blk]? := by
    intro c s hc
    have := hR.lt c s hc
    refine ⟨fun e => (by rw [e, hno] at hc; simp at hc), ?_⟩
    rw [Array.getElem?_push, if_neg (by omega)]
  refine ⟨?_, ?_, ?_⟩
  · intro c s hc
    unfold Ren.add at hc
    split at hc
    · simp at hc; subst hc; subst_vars; exact ⟨hlt, by simp; omega⟩
    · have := hR.lt c s hc; exact ⟨this.1, by simp; omega⟩
  · intro c c' s s' p p' hc hc' e hp hp' hd hd'
    unfold Ren.add at hc hc'
    split at hc
    · split at hc'
      · omega
      · simp at hc; subst hc
        have := (hR.lt _ _ hc').2; omega
    · split at hc'
      · simp at hc'; subst hc'
        have := (hR.lt _ _ hc).2; omega
      · exact hR.inj c c' s s' p p' hc hc' e hp hp' hd hd'
  · intro c s p hc hp
    by_cases hcb : c = b
    · subst hcb
      rw [Ren.add_same] at hc; simp at hc; subst hc
      rw [hb] at hp; simp at hp; subst hp; exact ho
    · unfold Ren.add at hc; rw [if_neg hcb] at hc
      exact (hR.ob c s p hc hp).mono (Ren.add_le hno) (hold c s hc).2

/-- An item that waited is carried out. -/
theorem Inv.late (D : DOk P nt ops items anc) (hnt : nt ≤ sz) (I : Inv ops items ρ0 n0 w0 sz pre rest listed ρ s a w) {d : DIt} (hd : d ∈ pre) (hj : d.j ∈ Region.ready .any ops listed)
    {Q : Exit → Act → World → Prop} {K : Act → World → Prop} (hK : ∀ ρ' a' w', Inv ops items ρ0 n0 w0 sz pre rest (listed.setIfInBounds d.j true) ρ' s a' w' → K a' w') :
    wpOp P ops Q d.j K a w := by
  have hdm := I.mem_pre hd
  have hun : listed.getD d.j true = false := (mem_ready.1 hj).1
  have he := I.effs d hd hun
  obtain ⟨o, ho, hok⟩ := D.item d hdm
  have hlt : d.j < listed.size := by rw [I.lsz]; exact item_lt D hdm
  obtain ⟨hsome, hself⟩ := D.pure d hdm he
  obtain ⟨t, ht⟩ := Option.isSome_iff_exists.1 hsome
  have hsame := ready_looks D I hj (.inl ⟨hd, he⟩)
  have hE := I.envR
  simp only [instrOk, Bool.and_eq_true, decide_eq_true_iff] at hok
  obtain ⟨⟨⟨habs, hdst⟩, hdn⟩, hg⟩ := hok
  have htn : t < a.tmps.size := by rw [ht] at hdn; simp at hdn; rw [I.size]; omega
  have hset : ∀ p : DIt, (listed.setIfInBounds d.j true).getD p.j true = false → listed.getD p.j true = false ∧ p.j ≠ d.j := by
    intro p hp
    rw [set_getD hlt] at hp
    split at hp
    · cases hp
    · rename_i h; exact ⟨hp, fun e => h e.symm⟩
  -- The new state, whatever value was put.
  have fin : ∀ (u : Value) (ρ' : Ren) (w' : World), ρ.le ρ' → VR ρ' (s.env.get t) u → Rel ρ' s.heap w'.heap → Grow ρ0 n0 w0 ρ' s.heap.next w' →
      (∀ p ∈ pre, listed.getD p.j true = false → p.j ≠ d.j → p.isFlt = true → ∀ b, Flt ρ n0 s p.instr b → ρ' b = none) → K (a.put o.dst u) w' := by
    intro u ρ' w' hle hv hR hG hfl
    refine hK ρ' _ _ ⟨I.split, ?_, ?_, by simpa using I.lsz, closed_set I hj, ?_, hR, ?_, I.rc, by rw [put_size]; exact I.size, hG, ?_, ?_, ?_⟩
    · intro e hr
      rw [set_getD hlt, if_neg]
      · exact I.rest0 e hr
      · intro e'
        have := same_j D hdm (I.mem_rest hr) e'
        subst this
        have := D.pair
        rw [I.split] at this
        exact (pairOk_spec (pairs_append this hd hr)).ne rfl
    · intro p hp hl; exact I.effs p hp (hset p hl).1
    · intro t' h'
      rw [hdst, ht]
      by_cases htt : t = t'
      · subst htt
        simp [Act.put, htn]; exact hv
      · have : (a.put (some t) u).tmps.getD t' undef = a.tmps.getD t' undef := by
          simp only [Act.put, Array.getD_eq_getD_getElem?]
          rw [Array.getElem?_setIfInBounds_ne htt]
        rw [this]
        refine (I.env t' fun p hp hl e => ?_).mono hle
        by_cases hpd : p.j = d.j
        · have := same_j D (I.mem_pre hp) hdm hpd
          subst this
          rw [ht] at e; simp at e; exact htt e
        · exact h' p hp (by rw [set_getD hlt, if_neg (Ne.symm hpd)]; exact hl) e
    · rw [put_defers]; exact I.defs.defs_mono hle
    · intro p hp hl hf; exact I.stP p hp (hset p hl).1 hf
    · intro p hp hl hf
      obtain ⟨b, hb⟩ := I.stN p hp (hset p hl).1 hf
      exact ⟨b, hb.env (fun _ _ => rfl) (fun _ _ => rfl) rfl (Nat.le_refl _) (hfl p hp (hset p hl).1 (hset p hl).2 hf b hb)⟩
    · intro p hp q hq hpl hql hpf hqf hne b hb hb'
      have back : ∀ x : DIt, x ∈ pre → (listed.setIfInBounds d.j true).getD x.j true = false → x.isFlt = true → Flt ρ' n0 s x.instr b → Flt ρ n0 s x.instr b := by
        intro x hx hxl hxf F
        obtain ⟨b', F'⟩ := I.stN x hx (hset x hxl).1 hxf
        obtain ⟨t1, e1, e2⟩ := F.blk
        obtain ⟨t2, e3, e4⟩ := F'.blk
        rw [e1] at e3; simp at e3; subst e3
        rw [e4] at e2; simp at e2; subst e2; exact F'
      exact I.dist p hp q hq (hset p hpl).1 (hset q hql).1 hpf hqf hne b (back p hp hpl hpf hb) (back q hq hql hqf hb')
  by_cases hf : d.isFlt = true
  · obtain ⟨b, F⟩ := I.stN d hd hun hf
    obtain ⟨hnew, hguard⟩ := D.flt d hdm hf
    obtain ⟨⟨t1, ob, f, h1, h2, h3, h4, h5⟩, lo, hi, no⟩ := F
    rw [ht] at h1; simp at h1; subst h1
    rw [newOp_congr (looks_op hsame).symm] at h2
    obtain ⟨u, O, r, hrun, hblk, hOR, hVR, hdead⟩ := new_sound (P := P) (w := w) (a := a) hE (absOk_of habs (by intro e; rw [e] at h2; simp [newOp] at h2)) h2
    have hw : Region.wanted o (yielded ops a.tmps) = true := wanted_sound hE hg (by rw [hguard]; rfl)
    have hRel : Rel (ρ.add b r) s.heap (w.heap.push O) := I.rel.put h5 hi no hblk (hOR _ (Ren.add_le no) _ (by simp))
    unfold wpOp
    simp only [ho, hw, if_true]
    refine .inl ?_
    unfold Oper.wp
    rw [hrun]
    refine fin u (ρ.add b r) _ (Ren.add_le no) ?_ hRel (grow_put I.grow no hblk lo) ?_
    · rw [← h3]; exact hVR b _ (Ren.add_same _ _ _)
    · intro p hp hl hne hpf b' hb'
      have : b' ≠ b := fun e => by
        subst e
        exact I.dist d hd p hp hun hl hf hpf (Ne.symm hne) b' ⟨⟨t, ob, f, ht, (newOp_congr (looks_op hsame)).symm.trans h2, h3, h4, h5⟩, lo, hi, no⟩ hb'
      unfold Ren.add; rw [if_neg this]; exact hb'.no
  · simp only [Bool.not_eq_true] at hf
    have hst := I.stP d hd hun hf
    unfold stillP at hst
    rw [wanted_congr (looks_guard hsame).symm, pureOp_congr (looks_op hsame).symm, ht] at hst
    split at hst
    · rename_i t1 hw ht1
      simp at ht1; subst ht1
      split at hst
      · rename_i v hv
        simp only [decide_eq_true_iff] at hst
        subst hst
        obtain ⟨u, hrun, hvu⟩ := pure_sound (P := P) I.rel hE (absOk_of habs (by intro e; rw [e] at hv; simp [pureOp] at hv)) hv
        have hw' : Region.wanted o (yielded ops a.tmps) = true := wanted_sound hE hg hw
        unfold wpOp
        simp only [ho, hw', if_true]
        refine .inl ?_
        unfold Oper.wp
        rw [hrun]
        exact fin u ρ w (Ren.le.refl _) hvu I.rel I.grow fun _ _ _ _ _ _ F => F.no
      · simp at hst
    · rename_i t1 hw ht1
      simp at ht1; subst ht1
      simp only [decide_eq_true_iff] at hst
      have hw' : Region.wanted o (yielded ops a.tmps) = false := wanted_sound hE hg hw
      unfold wpOp
      simp only [ho, hw', Bool.false_eq_true, if_false]
      exact fin undef ρ w (Ren.le.refl _) (by rw [hst]; exact undef_VR ρ) I.rel I.grow fun _ _ _ _ _ _ F => F.no
    · simp at hst

/-- What has to be shown behind a region. -/
def Fin (ρ0 : Ren) (n0 : Nat) (w0 : World) (sz : Nat) (r : SRes) (Q : Exit → Act → World → Prop) : Prop :=
  match r with
  | .ok s' => ∀ a' w', Post ρ0 n0 w0 sz s' a' w' → Q .normal a' w'
  | .panic s' => ∀ t x a' w', Post ρ0 n0 w0 sz s' a' w' → Q (.panic [{ v := .iface t x, recovered := false }]) a' w'
  | .stuck => False

/-- The next item that has an effect. -/
theorem Inv.effect (hcall : CallSound P callf) (D : DOk P nt ops items anc) (hnt : nt ≤ sz) {d : DIt} (I : Inv ops items ρ0 n0 w0 sz pre (d :: rest) listed ρ s a w) (he : d.isEff = true)
    (hj : d.j ∈ Region.ready .any ops listed) {Q : Exit → Act → World → Prop} {K : Act → World → Prop} {ts : List Nat} (hts : ∀ d ∈ items, ∀ t, d.instr.dst = some t → t ∈ ts) {r : SRes}
    (hr : runDops callf ts (d :: rest) s = r) (hQ : Fin ρ0 n0 w0 sz r Q)
    (hK : ∀ s' ρ' a' w', runDIt callf d s = .ok s' → Inv ops items ρ0 n0 w0 sz (pre ++ [d]) rest (listed.setIfInBounds d.j true) ρ' s' a' w' → K a' w') :
    wpOp P ops Q d.j K a w := by
  have hdm := I.mem_rest (d := d) (by simp)
  obtain ⟨o, ho, hok⟩ := D.item d hdm
  have hlt : d.j < listed.size := by rw [I.lsz]; exact item_lt D hdm
  have hpair : ∀ p ∈ pre, PairOk anc p d := fun p hp => pairOk_spec (pairs_append (I.split ▸ D.pair) hp (by simp))
  have hsame := ready_looks D I hj (.inr ⟨rest, rfl⟩)
  have hundone : ∀ p ∈ pre, listed.getD p.j true = false → ¬ anc d.j p.j = true := fun p hp hl h => by
    have := getD_false (ready_anc I hj (D.anc _ _ h))
    rw [hl] at this; cases this
  cases d with
  | op j i => simp [DIt.isEff] at he
  | flt j i re => simp [DIt.isEff] at he
  | eff j i re =>
    have hpre : Pre ρ { s with env := hide (undone listed pre) s.env } a w := ⟨I.envR, I.rel, I.defs⟩
    obtain ⟨henvO, henvP⟩ := runInstr_env (callf := callf) (i := i) hsame
    have hin := fun r0 h0 => instr_wp (Q := Q) hcall hpre (show St.rc _ = none from I.rc) (nt := nt) (by rw [I.size]; exact hnt) ho hok r0 h0
    simp only [runDops, runDIt] at hr
    simp only [runDIt] at hK
    cases hri : runInstr callf i s with
    | stuck => rw [hri] at hr; simp only at hr; subst hr; exact hQ.elim
    | panic s' =>
      rw [hri] at hr; simp only at hr; subst hr
      obtain ⟨e1, e2⟩ := henvP s' hri
      have := hin _ e2
      refine this K fun t x a' w' hp => hQ t x a' w' ?_
      obtain ⟨ρ', hG, hE, hR, hD, hsz⟩ := hp
      refine ⟨ρ', I.grow.trans hG, ?_, hR, hD, by rw [hsz, I.size]⟩
      intro t
      simp only
      rw [hide_get]
      split
      · trivial
      · rename_i hn
        have := hE t
        simp only at this
        rw [hide_get, if_neg] at this
        · rw [e1]; exact this
        · intro hu
          obtain ⟨p, hp, hl, hd⟩ := mem_undone.1 hu
          exact hn (hts p (I.mem_pre hp) t hd)
    | ok s' =>
      rw [hri] at hr; simp only [Bool.cond_eq_ite] at hr
      by_cases hre : stillAll s' re = true
      · obtain ⟨v, e1, e2⟩ := henvO s' hri
        have := hin _ e2
        refine this K fun a' w' hp => ?_
        obtain ⟨ρ', hG, hE, hR, hD, hsz⟩ := hp
        refine hK s' ρ' a' w' (by rw [hri]; simp [hre]) ?_
        have hne : ∀ p ∈ pre, listed.getD p.j true = false → ∀ t, p.instr.dst = some t → s'.env.get t = s.env.get t := fun p hp hl t h => by
          rw [e1, put_get, if_neg]
          intro e; exact (hpair p hp).dst (.inr (hundone p hp hl)) t e h
        have hlook : ∀ p ∈ pre, listed.getD p.j true = false → SameOn s'.env s.env (looks p.instr) := fun p hp hl => by rw [e1]; exact put_same ((hpair p hp).look (.inr (hundone p hp hl)))
        have hset : ∀ p ∈ pre ++ [DIt.eff j i re], (listed.setIfInBounds j true).getD p.j true = false → p ∈ pre ∧ listed.getD p.j true = false := by
          intro p hp hl
          simp only [DIt.j] at hlt
          rw [set_getD hlt] at hl
          split at hl
          · cases hl
          · rename_i hne'
            simp only [List.mem_append, List.mem_singleton] at hp
            rcases hp with hp | rfl
            · exact ⟨hp, hl⟩
            · exact absurd rfl hne'
        have hnx := hG.nx
        simp only at hnx
        have hstF : ∀ p ∈ pre, listed.getD p.j true = false → p.isFlt = true → ∀ b, Flt ρ n0 s p.instr b → Flt ρ' n0 s' p.instr b := by
          intro p hp hl hf b F
          have hre' : p.instr ∈ re := by
            rcases (hpair p hp).fltEff hf rfl with h | h
            · exact absurd h (hundone p hp hl)
            · exact h
          have hs := stillAll_mem hre hre'
          unfold still at hs
          rw [(D.flt p (I.mem_pre hp) hf).1] at hs
          simp only [cond_true] at hs
          unfold stillN at hs
          obtain ⟨⟨t, ob, f, h1, h2, h3, h4, h5⟩, lo, hi, no⟩ := F
          rw [h1] at hs
          simp only at hs
          rw [newOp_congr (looks_op (hlook p hp hl)), h2, hne p hp hl t h1, h4] at hs
          simp only [Bool.and_eq_true, decide_eq_true_iff] at hs
          refine ⟨⟨t, ob, f, h1, by rw [newOp_congr (looks_op (hlook p hp hl))]; exact h2, by rw [hne p hp hl t h1]; exact hs.1, by rw [hne p hp hl t h1]; exact h4, hs.2⟩, lo, by omega, ?_⟩
          cases hb : ρ' b with
          | none => rfl
          | some q =>
            rcases hG.fresh b q hb with h | h
            · rw [no] at h; cases h
            · simp only at h; omega
        refine ⟨by rw [I.split]; simp, ?_, ?_, by simpa using I.lsz, closed_set I hj, ?_, hR, hD, ?_, by rw [hsz, I.size], I.grow.trans hG, ?_, ?_, ?_⟩
        · intro e hr'
          simp only [DIt.j] at hlt ⊢
          rw [set_getD hlt, if_neg]
          · exact I.rest0 e (by simp [hr'])
          · intro e'
            have := same_j D hdm (I.mem_rest (d := e) (by simp [hr'])) e'
            subst this
            have hp := D.pair
            rw [I.split, show pre ++ DIt.eff j i re :: rest = (pre ++ [DIt.eff j i re]) ++ rest by simp] at hp
            exact (pairOk_spec (pairs_append hp (p := DIt.eff j i re) (by simp) hr')).ne rfl
        · intro p hp hl
          have := hset p hp hl
          exact I.effs p this.1 this.2
        · intro t ht
          have h2 := hE t
          simp only at h2
          rw [put_get] at h2
          rw [e1, put_get]
          split
          · rename_i h; rw [if_pos h] at h2; exact h2
          · rename_i h
            rw [if_neg h, hide_get, if_neg] at h2
            · exact h2
            · intro hu
              obtain ⟨p, hp, hl, hd⟩ := mem_undone.1 hu
              refine ht p (by simp [hp]) ?_ hd
              simp only [DIt.j] at hlt ⊢
              rw [set_getD hlt, if_neg]
              · exact hl
              · exact fun e => (hpair p hp).ne e.symm
        · exact (runInstr_rc I.rc).1 _ hri
        · intro p hp hl hf
          obtain ⟨hp, hl⟩ := hset p hp hl
          have hpe := I.effs p hp hl
          rcases (hpair p hp).opEff hpe hf rfl with h | h | h
          · rw [stillP_congr (hlook p hp hl) (hne p hp hl) (.inr h)]
            exact I.stP p hp hl hf
          · exact absurd h (hundone p hp hl)
          · have hs := stillAll_mem hre h
            unfold still at hs
            rw [D.op p (I.mem_pre hp) hpe hf] at hs
            exact hs
        · intro p hp hl hf
          obtain ⟨hp, hl⟩ := hset p hp hl
          obtain ⟨b, F⟩ := I.stN p hp hl hf
          exact ⟨b, hstF p hp hl hf b F⟩
        · intro p hp q hq hpl hql hpf hqf hnej b hb hb'
          obtain ⟨hp, hpl⟩ := hset p hp hpl
          obtain ⟨hq, hql⟩ := hset q hq hql
          have back : ∀ x : DIt, x ∈ pre → listed.getD x.j true = false → x.isFlt = true → Flt ρ' n0 s' x.instr b → Flt ρ n0 s x.instr b := by
            intro x hx hxl hxf F
            obtain ⟨b', F'⟩ := I.stN x hx hxl hxf
            obtain ⟨t1, e1, e2⟩ := F.blk
            obtain ⟨t2, e3, e4⟩ := F'.blk
            rw [e1] at e3; simp at e3; subst e3
            rw [hne x hx hxl t1 e1, e4] at e2; simp at e2; subst e2; exact F'
          exact I.dist p hp q hq hpl hql hpf hqf hnej b (back p hp hpl hpf hb) (back q hq hql hqf hb')
      · simp only [Bool.not_eq_true] at hre
        rw [hre] at hr; simp at hr; subst hr; exact hQ.elim

/-- Where not all is listed, something is ready. -/
theorem some_ready : ∀ {l : List DIt} {seen : List Nat}, orderOk ops seen l = true → (∀ j ∈ seen, listed.getD j false = true) → (∀ d ∈ l, d.j < listed.size) → Region.ready .any ops listed = [] → ∀ d ∈ l, listed.getD d.j true = true
  | [], _, _, _, _, _, d, hd => by simp at hd
  | x :: l, seen, h, hs, hlt, hr, d, hd => by
    simp only [orderOk, Bool.and_eq_true] at h
    obtain ⟨h1, h2⟩ := h
    have hx : listed.getD x.j true = true := by
      cases hl : listed.getD x.j true with
      | true => rfl
      | false =>
        exfalso
        split at h1
        · rename_i o ho
          have : x.j ∈ Region.ready .any ops listed := mem_ready.2 ⟨hl, o, ho, fun e he hb => by
            have := Array.all_eq_true_iff_forall_mem.1 h1 e he
            simp only [Bool.or_eq_true, Bool.not_eq_true', hb, Bool.true_eq_false, false_or] at this
            exact hs _ (by simpa using this)⟩
          rw [hr] at this; cases this
        · simp at h1
    simp only [List.mem_cons] at hd
    rcases hd with rfl | hd
    · exact hx
    · refine some_ready h2 (fun j hj => ?_) (fun e he => hlt e (by simp [he])) hr d hd
      simp only [List.mem_cons] at hj
      rcases hj with rfl | hj
      · exact getD_true (hlt x (by simp)) hx
      · exact hs j hj

theorem dops_any (hcall : CallSound P callf) (D : DOk P nt ops items anc) (hnt : nt ≤ sz) {ts : List Nat} (hts : ∀ d ∈ items, ∀ t, d.instr.dst = some t → t ∈ ts) {Q : Exit → Act → World → Prop} :
    ∀ (fuel : Nat) (pre rest : List DIt) (listed : Array Bool) (ρ : Ren) (s : St) (a : Act) (w : World), Inv ops items ρ0 n0 w0 sz pre rest listed ρ s a w →
      (items.filter fun d => !listed.getD d.j true).length ≤ fuel → ∀ r, runDops callf ts rest s = r → Fin ρ0 n0 w0 sz r Q → wpAny P .any ops Q fuel listed a w := by
  have done : ∀ (pre rest : List DIt) (listed : Array Bool) (ρ : Ren) (s : St) (a : Act) (w : World), Inv ops items ρ0 n0 w0 sz pre rest listed ρ s a w →
      (∀ d ∈ items, listed.getD d.j true = true) → ∀ r, runDops callf ts rest s = r → Fin ρ0 n0 w0 sz r Q → Q .normal a w := by
    intro pre rest listed ρ s a w I hall r hr hQ
    have hnil : rest = [] := by
      cases rest with
      | nil => rfl
      | cons d l =>
        have h1 := I.rest0 d (by simp)
        rw [hall d (I.mem_rest (by simp))] at h1; cases h1
    subst hnil
    simp only [runDops] at hr
    subst hr
    exact hQ a w ⟨ρ, I.grow, fun t => I.env t fun d hd hl => (by rw [hall d (I.mem_pre hd)] at hl; cases hl), I.rel, I.defs, I.size⟩
  intro fuel
  induction fuel with
  | zero =>
    intro pre rest listed ρ s a w I hf r hr hQ
    have hall : ∀ d ∈ items, listed.getD d.j true = true := by
      intro d hd
      cases hl : listed.getD d.j true with
      | true => rfl
      | false =>
        have : d ∈ items.filter fun d => !listed.getD d.j true := List.mem_filter.2 ⟨hd, by rw [hl]; rfl⟩
        rw [List.length_eq_zero_iff.1 (Nat.le_zero.1 hf)] at this; cases this
    refine ⟨?_, done pre rest listed ρ s a w I hall r hr hQ⟩
    rw [List.eq_nil_iff_forall_not_mem]
    intro j hj
    obtain ⟨h0, o, ho, _⟩ := mem_ready.1 hj
    obtain ⟨d, hd, rfl⟩ := D.all j (Array.getElem?_eq_some_iff.1 ho).1
    rw [hall d hd] at h0; cases h0
  | succ fuel ih =>
    intro pre rest listed ρ s a w I hf r hr hQ
    rcases I.advance (callf := callf) D ts rest pre s with hst | ⟨pre1, rest1, s1, I1, hr1, hhead⟩
    · rw [hst] at hr; subst hr; exact hQ.elim
    · rw [hr] at hr1
      have hsz : ∀ d ∈ items, d.j < listed.size := fun d hd => by rw [I.lsz]; exact item_lt D hd
      refine ⟨fun hnil => done pre1 rest1 listed ρ s1 a w I1 (some_ready D.order (by simp) hsz hnil) r hr1 hQ, fun j hj => ?_⟩
      obtain ⟨hun, o, ho, _⟩ := mem_ready.1 hj
      obtain ⟨d, hd, rfl⟩ := D.all j (Array.getElem?_eq_some_iff.1 ho).1
      have hless : (items.filter fun x => !(listed.setIfInBounds d.j true).getD x.j true).length ≤ fuel := by
        have := filter_lt (p := fun x : DIt => !listed.getD x.j true) (q := fun x : DIt => !(listed.setIfInBounds d.j true).getD x.j true) (l := items) (fun x _ hx => by
          rw [set_getD (hsz d hd)] at hx
          split at hx
          · simp at hx
          · exact hx) hd (by rw [hun]; rfl) (by rw [set_getD (hsz d hd), if_pos rfl]; rfl)
        omega
      have hmem := hd
      rw [I1.split, List.mem_append] at hmem
      rcases hmem with hp | hr'
      · exact I1.late D hnt hp hj fun ρ' a' w' I' => ih pre1 rest1 _ ρ' s1 a' w' I' hless r hr1 hQ
      · cases rest1 with
        | nil => cases hr'
        | cons e l =>
          have hee := hhead e l rfl
          simp only [List.mem_cons] at hr'
          rcases hr' with rfl | hr'
          · refine I1.effect hcall D hnt hee hj hts hr1 hQ fun s' ρ' a' w' hs' I' => ?_
            refine ih _ _ _ ρ' s' a' w' I' hless r ?_ hQ
            simp only [runDops] at hr1
            rw [hs'] at hr1
            exact hr1
          · exfalso
            have hp := D.pair
            rw [I1.split, show pre1 ++ e :: l = (pre1 ++ [e]) ++ l by simp] at hp
            have := (pairOk_spec (pairs_append hp (p := e) (q := d) (by simp) hr')).eff hee
            have h1 := getD_false (ready_anc I1 hj (D.anc _ _ this))
            rw [I1.rest0 e (by simp)] at h1; cases h1

theorem dops_wp (hcall : CallSound P callf) (hm : P.follows .mixedOrders = true) (hok : dopsOk P nt ops items = true) {ρ : Ren} {s : St} {a : Act} {w : World} (hp : Pre ρ s a w) (hrc : s.rc = none) (hnt : nt ≤ a.tmps.size)
    {id : Nat} {Q : Exit → Act → World → Prop} {r : SRes} (hr : runDops callf (items.filterMap fun d => d.instr.dst) items s = r) (hQ : Fin ρ s.heap.next w a.tmps.size r Q) : (Code.region id ops true).wp P Q a w := by
  obtain ⟨anc, D⟩ := dok hok
  refine wp_region_any hm ?_
  have hlist : ∀ j, j < ops.size → (Array.replicate ops.size false).getD j true = false := fun j hj => by simp [hj]
  have hlist' : ∀ j, (Array.replicate ops.size false).getD j false = false := fun j => by
    simp only [Array.getD_eq_getD_getElem?, Array.getElem?_replicate]
    split <;> rfl
  have hG : Grow ρ s.heap.next w ρ s.heap.next { w with drawn := w.drawn + 1 } :=
    ⟨Ren.le.refl _, Nat.le_refl _, fun b r h => .inl ⟨b, r, h, rfl⟩, fun _ _ _ => rfl, rfl, rfl, rfl, Nat.le_refl _, fun _ _ h => .inl h⟩
  refine dops_any (ρ0 := ρ) (n0 := s.heap.next) (w0 := w) (sz := a.tmps.size) hcall D hnt (fun d hd t ht => List.mem_filterMap.2 ⟨d, hd, ht⟩) ops.size [] items _ ρ s a _ ?_ ?_ r hr hQ
  · exact ⟨rfl, fun d hd => hlist _ (item_lt D hd), fun d hd => (by cases hd), by simp, fun i o hi => (by rw [hlist'] at hi; cases hi), fun t _ => hp.env t, hp.rel, hp.defs, hrc, rfl, hG,
      fun d hd => (by cases hd), fun d hd => (by cases hd), fun d hd => (by cases hd)⟩
  · exact Nat.le_trans (List.length_filter_le _ _) D.len
end
end Go.Proofs.YtjlebgfbohihfaaGreat.Am
