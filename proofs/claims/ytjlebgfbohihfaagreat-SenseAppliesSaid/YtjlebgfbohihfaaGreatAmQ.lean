/-
  A region whose order is drawn: whatever order is drawn, it comes to what the canonical order comes to.
-/
import Derived.Test.YtjlebgfbohihfaaGreatAmP
namespace Go.Proofs.YtjlebgfbohihfaaGreat.Am
open Go
set_option linter.unusedVariables false
set_option linter.unusedSimpArgs false

structure DOk (P : Program) (nt : Nat) (ops : Array Oper) (items : List DIt) (anc : Nat → Nat → Bool) : Prop where
  item : ∀ d ∈ items, ∃ o, ops[d.j]? = some o ∧ instrOk P nt ops o d.instr = true
  pure : ∀ d ∈ items, d.isEff = false → d.instr.dst.isSome = true ∧ notIn d.instr.dst (looks d.instr) = true
  op : ∀ d ∈ items, d.isEff = false → d.isFlt = false → isNew d.instr.op = false
  flt : ∀ d ∈ items, d.isFlt = true → isNew d.instr.op = true ∧ d.instr.guard = none
  order : orderOk ops [] items = true
  all : ∀ j, j < ops.size → ∃ d ∈ items, d.j = j
  pair : pairs (pairOk anc) items = true
  anc : ∀ i k, anc i k = true → Anc ops i k
  len : items.length ≤ ops.size
theorem dok {P : Program} {nt : Nat} {ops : Array Oper} {items : List DIt} (h : dopsOk P nt ops items = true) : ∃ anc, DOk P nt ops items anc := by
  simp only [dopsOk, Bool.and_eq_true, List.all_eq_true, List.any_eq_true, List.mem_range] at h
  obtain ⟨⟨⟨⟨h0, h1⟩, h2⟩, h3⟩, h4⟩ := h
  refine ⟨_, ?_, ?_, ?_, ?_, h2, ?_, h4, ?_, Nat.le_of_ble_eq_true h0⟩
  · intro d hd
    have := h1 d hd
    simp only [itemOk, Bool.and_eq_true] at this
    have h := this.1
    split at h
    · rename_i o ho; exact ⟨o, ho, h⟩
    · simp at h
  · intro d hd he
    have := h1 d hd
    simp only [itemOk, Bool.and_eq_true] at this
    cases d with
    | op j i => simp only [Bool.and_eq_true] at this; exact ⟨this.2.1.1, this.2.2⟩
    | eff j i re => simp [DIt.isEff] at he
    | flt j i re => simp only [Bool.and_eq_true] at this; exact ⟨this.2.1.1.1, this.2.2⟩
  · intro d hd he hf
    have := h1 d hd
    simp only [itemOk, Bool.and_eq_true] at this
    cases d with
    | op j i => simp only [Bool.and_eq_true] at this; simpa [DIt.instr] using this.2.1.2
    | eff j i re => simp [DIt.isEff] at he
    | flt j i re => simp [DIt.isFlt] at hf
  · intro d hd hf
    have := h1 d hd
    simp only [itemOk, Bool.and_eq_true] at this
    cases d with
    | op j i => simp [DIt.isFlt] at hf
    | eff j i re => simp [DIt.isFlt] at hf
    | flt j i re =>
      simp only [Bool.and_eq_true] at this
      have h2 := this.2.1.2
      exact ⟨this.2.1.1.2, by simpa [DIt.instr] using h2⟩
  · intro j hj
    obtain ⟨d, hd, he⟩ := h3 j hj
    exact ⟨d, hd, Nat.eq_of_beq_eq_true he⟩
  · have : MasksOk ops (masks ops (items.map DIt.j) []) := masks_ok fun i k hk => by simp [maskAt] at hk
    exact fun i k hk => this i k hk

structure PairOk (anc : Nat → Nat → Bool) (p q : DIt) : Prop where
  ne : p.j ≠ q.j
  eff : p.isEff = true → anc q.j p.j = true
  lookE : notIn q.instr.dst (looks p.instr) = true ∨ (q.isEff = true ∧ anc q.j p.j = true)
  dstE : (∀ t, q.instr.dst = some t → p.instr.dst ≠ some t) ∨ (q.isEff = true ∧ anc q.j p.j = true)
  use : notIn p.instr.dst (looks q.instr) = true ∨ anc q.j p.j = true
  opEff : p.isEff = false → p.isFlt = false → q.isEff = true → reads p.instr.op = false ∨ anc q.j p.j = true ∨ p.instr ∈ q.re
  opFlt : p.isEff = false → p.isFlt = false → q.isFlt = true → reads p.instr.op = false ∨ p.instr ∈ q.re
  fltEff : p.isFlt = true → q.isEff = true → anc q.j p.j = true ∨ p.instr ∈ q.re
theorem PairOk.look {anc : Nat → Nat → Bool} {p q : DIt} (h : PairOk anc p q) (hn : q.isEff = false ∨ ¬ anc q.j p.j = true) : notIn q.instr.dst (looks p.instr) = true := by
  rcases h.lookE with h1 | ⟨h1, h2⟩
  · exact h1
  · rcases hn with hn | hn
    · rw [h1] at hn; cases hn
    · exact absurd h2 hn
theorem PairOk.dst {anc : Nat → Nat → Bool} {p q : DIt} (h : PairOk anc p q) (hn : q.isEff = false ∨ ¬ anc q.j p.j = true) : ∀ t, q.instr.dst = some t → p.instr.dst ≠ some t := by
  rcases h.dstE with h1 | ⟨h1, h2⟩
  · exact h1
  · rcases hn with hn | hn
    · rw [h1] at hn; cases hn
    · exact absurd h2 hn
theorem pairOk_spec {anc : Nat → Nat → Bool} {p q : DIt} (h : pairOk anc p q = true) : PairOk anc p q := by
  simp only [pairOk, Bool.and_eq_true] at h
  obtain ⟨⟨⟨⟨⟨h1, h2⟩, h3⟩, h4⟩, h5⟩, h6⟩ := h
  refine ⟨?_, ?_, by simpa using h3, ?_, by simpa using h5, ?_, ?_, ?_⟩
  · intro e; rw [e] at h1; simp at h1
  · intro he; simpa [he] using h2
  · simp only [Bool.or_eq_true, Bool.and_eq_true] at h4
    rcases h4 with h4 | h4
    · exact .inl fun t ht => by rw [ht] at h4; simpa using h4
    · exact .inr h4
  all_goals
    cases p <;> cases q <;> simp [DIt.isEff, DIt.isFlt] <;>
      simpa [DIt.instr, DIt.re, DIt.j, List.contains_iff_mem, or_assoc] using h6

theorem getD_false {l : Array Bool} {k : Nat} (h : l.getD k false = true) : l.getD k true = true := by
  simp only [Array.getD_eq_getD_getElem?] at h ⊢
  cases hk : l[k]? with
  | none => rfl
  | some b => rw [hk] at h; exact h
theorem getD_true {l : Array Bool} {k : Nat} (hk : k < l.size) (h : l.getD k true = true) : l.getD k false = true := by
  simp only [Array.getD_eq_getD_getElem?] at h ⊢
  rw [Array.getElem?_eq_getElem hk] at h ⊢
  exact h
theorem set_getD {l : Array Bool} {j : Nat} (hj : j < l.size) (k : Nat) (d : Bool) : (l.setIfInBounds j true).getD k d = if j = k then true else l.getD k d := by
  simp only [Array.getD_eq_getD_getElem?, Array.getElem?_setIfInBounds]
  split
  · subst_vars; simp
  · rfl

def undone (listed : Array Bool) (pre : List DIt) : List Nat := pre.filterMap fun d => bif listed.getD d.j true then none else d.instr.dst
theorem mem_undone {listed : Array Bool} {pre : List DIt} {t : Nat} : t ∈ undone listed pre ↔ ∃ d ∈ pre, listed.getD d.j true = false ∧ d.instr.dst = some t := by
  unfold undone
  simp only [List.mem_filterMap]
  constructor
  · rintro ⟨d, hd, h⟩
    cases hl : listed.getD d.j true with
    | true => rw [hl] at h; simp at h
    | false => rw [hl] at h; exact ⟨d, hd, hl, by simpa using h⟩
  · rintro ⟨d, hd, hl, h⟩
    exact ⟨d, hd, by rw [hl]; simpa using h⟩

section
variable {P : Program} {callf : Nat → List AVal → Hp → CRes} {ops : Array Oper} {items : List DIt} {nt : Nat} {anc : Nat → Nat → Bool}
variable {ρ0 ρ : Ren} {n0 : Nat} {w0 w : World} {sz : Nat} {pre rest : List DIt} {listed : Array Bool} {s : St} {a : Act}

theorem Inv.envR (I : Inv ops items ρ0 n0 w0 sz pre rest listed ρ s a w) : EnvR ρ (hide (undone listed pre) s.env) a.tmps := by
  intro t
  rw [hide_get]
  split
  · trivial
  · rename_i h
    exact I.env t fun d hd hl e => h (mem_undone.2 ⟨d, hd, hl, e⟩)
theorem anc_listed (hc : ∀ (i : Nat) (o : Oper), listed.getD i false = true → ops[i]? = some o → ∀ e ∈ o.after, Region.binds .any e = true → listed.getD e.on false = true) {i k : Nat} (h : Anc ops i k) (hi : listed.getD i false = true) :
    listed.getD k false = true := by
  induction h with
  | edge ho he hb => exact hc _ _ hi ho _ he hb
  | step ho he hb _ ih => exact ih (hc _ _ hi ho _ he hb)
theorem ready_anc (I : Inv ops items ρ0 n0 w0 sz pre rest listed ρ s a w) {j : Nat} (hj : j ∈ Region.ready .any ops listed) {k : Nat} (h : Anc ops j k) : listed.getD k false = true := by
  obtain ⟨_, o, ho, hall⟩ := mem_ready.1 hj
  cases h with
  | edge ho' he hb => rw [ho] at ho'; cases ho'; exact hall _ he hb
  | step ho' he hb hrest => rw [ho] at ho'; cases ho'; exact anc_listed I.closed hrest (hall _ he hb)

/-- What a ready item looks at is done. -/
theorem ready_looks (D : DOk P nt ops items anc) (I : Inv ops items ρ0 n0 w0 sz pre rest listed ρ s a w) {d : DIt} (hj : d.j ∈ Region.ready .any ops listed)
    (hpos : (d ∈ pre ∧ d.isEff = false) ∨ ∃ r, rest = d :: r) : SameOn (hide (undone listed pre) s.env) s.env (looks d.instr) := by
  intro t ht
  rw [hide_get, if_neg]
  intro hu
  obtain ⟨p, hp, hl, hdst⟩ := mem_undone.1 hu
  have bad : anc d.j p.j = true → False := fun h => by
    have := getD_false (ready_anc I hj (D.anc _ _ h))
    rw [hl] at this; cases this
  have before : pairOk anc p d = true → False := fun h => by
    rcases (pairOk_spec h).use with h | h
    · exact notIn_ne h ht hdst
    · exact bad h
  have hpm : p ∈ items := by rw [I.split]; simp [hp]
  rcases hpos with ⟨hd, he⟩ | ⟨r, rfl⟩
  · have hdm : d ∈ items := by rw [I.split]; simp [hd]
    rcases pairs_mem D.pair hpm hdm with rfl | h | h
    · exact notIn_ne (D.pure _ hdm he).2 ht hdst
    · exact before h
    · exact notIn_ne ((pairOk_spec h).look (.inl (I.effs p hp hl))) ht hdst
  · have := D.pair
    rw [I.split] at this
    exact before (pairs_append this hp (by simp))

theorem Inv.mem_pre (I : Inv ops items ρ0 n0 w0 sz pre rest listed ρ s a w) {d : DIt} (h : d ∈ pre) : d ∈ items := by rw [I.split]; simp [h]
theorem Inv.mem_rest (I : Inv ops items ρ0 n0 w0 sz pre rest listed ρ s a w) {d : DIt} (h : d ∈ rest) : d ∈ items := by rw [I.split]; simp [h]
theorem item_lt (D : DOk P nt ops items anc) {d : DIt} (h : d ∈ items) : d.j < ops.size := by
  obtain ⟨o, ho, _⟩ := D.item d h
  exact (Array.getElem?_eq_some_iff.1 ho).1
theorem same_j (D : DOk P nt ops items anc) {p q : DIt} (hp : p ∈ items) (hq : q ∈ items) (h : p.j = q.j) : p = q := by
  rcases pairs_mem D.pair hp hq with h' | h' | h'
  · exact h'
  · exact absurd h (pairOk_spec h').ne
  · exact absurd h.symm (pairOk_spec h').ne

theorem Flt.env {i : AInstr} {b : Nat} {s' : St} {ρ' : Ren} (F : Flt ρ n0 s i b) (hs : SameOn s'.env s.env (looks i)) (hd : ∀ t, i.dst = some t → s'.env.get t = s.env.get t)
    (hh : s'.heap.get b = s.heap.get b) (hn : s.heap.next ≤ s'.heap.next) (hno : ρ' b = none) : Flt ρ' n0 s' i b := by
  obtain ⟨⟨t, o, f, h1, h2, h3, h4, h5⟩, lo, hi, no⟩ := F
  exact ⟨⟨t, o, f, h1, by rw [newOp_congr (looks_op hs)]; exact h2, by rw [hd t h1]; exact h3, by rw [hd t h1]; exact h4, by rw [hh]; exact h5⟩, lo, by omega, hno⟩
theorem Flt.blk {i : AInstr} {b : Nat} (F : Flt ρ n0 s i b) : ∃ t, i.dst = some t ∧ blkOf (s.env.get t) = some b := by
  obtain ⟨⟨t, o, f, h1, h2, h3, h4, h5⟩, _⟩ := F
  exact ⟨t, h1, h4⟩

/-- One more item that floats, in the canonical order. -/
theorem Inv.op (D : DOk P nt ops items anc) {d : DIt} (I : Inv ops items ρ0 n0 w0 sz pre (d :: rest) listed ρ s a w) (hd : d.isEff = false) (hf : d.isFlt = false) {s' : St}
    (hr : runDIt callf d s = .ok s') : Inv ops items ρ0 n0 w0 sz (pre ++ [d]) rest listed ρ s' a w := by
  have hdm := I.mem_rest (d := d) (by simp)
  obtain ⟨hsome, hself⟩ := D.pure d hdm hd
  have hpair : ∀ p ∈ pre, PairOk anc p d := fun p hp => pairOk_spec (pairs_append (I.split ▸ D.pair) hp (by simp))
  have hdl : listed.getD d.j true = false := I.rest0 d (by simp)
  cases d with
  | eff j i re => simp [DIt.isEff] at hd
  | flt j i re => simp [DIt.isFlt] at hf
  | op j i =>
    simp only [DIt.instr] at hsome hself
    obtain ⟨t, ht⟩ := Option.isSome_iff_exists.1 hsome
    obtain ⟨v, hs', hst⟩ : ∃ v, s' = { s with env := s.env.put i.dst v } ∧ stillP s' i = true := by
      simp only [runDIt] at hr
      split at hr
      · simp at hr
      · rename_i hw
        simp at hr; subst hr
        refine ⟨_, rfl, ?_⟩
        unfold stillP
        simp only
        rw [wanted_congr (looks_guard (put_same hself)), hw]
        simp only [ht]
        rw [put_get]; simp
      · rename_i hw
        split at hr
        · rename_i v hv
          simp at hr; subst hr
          refine ⟨_, rfl, ?_⟩
          unfold stillP
          simp only
          rw [wanted_congr (looks_guard (put_same hself)), hw, pureOp_congr (looks_op (put_same hself)), hv]
          simp only [ht]
          rw [put_get]; simp
        · simp at hr
    subst hs'
    have hne : ∀ p ∈ pre, ∀ t, p.instr.dst = some t → (s.env.put i.dst v).get t = s.env.get t := fun p hp t h => by
      rw [put_get, if_neg]
      intro e; exact (hpair p hp).dst (.inl hd) t e h
    have hFp : ∀ p ∈ pre, ∀ b, Flt ρ n0 { s with env := s.env.put i.dst v } p.instr b ↔ Flt ρ n0 s p.instr b := fun p hp b =>
      ⟨fun F => F.env (put_same ((hpair p hp).look (.inl hd))).symm (fun t h => (hne p hp t h).symm) rfl (Nat.le_refl _) F.no,
       fun F => F.env (put_same ((hpair p hp).look (.inl hd))) (hne p hp) rfl (Nat.le_refl _) F.no⟩
    refine ⟨by rw [I.split]; simp, fun e he => I.rest0 e (by simp [he]), ?_, I.lsz, I.closed, ?_, I.rel, I.defs, I.rc, I.size, I.grow, ?_, ?_, ?_⟩
    · intro p hp hl
      simp only [List.mem_append, List.mem_singleton] at hp
      rcases hp with hp | rfl
      · exact I.effs p hp hl
      · rfl
    · intro t' h'
      have h1 : i.dst ≠ some t' := h' (.op j i) (by simp) hdl
      simp only
      rw [put_get, if_neg h1]
      exact I.env t' fun p hp hl => h' p (by simp [hp]) hl
    · intro p hp hl hpf
      simp only [List.mem_append, List.mem_singleton] at hp
      rcases hp with hp | rfl
      · exact (stillP_congr (s := s) (s' := { s with env := s.env.put i.dst v }) (put_same ((hpair p hp).look (.inl hd))) (hne p hp) (.inl rfl)).trans (I.stP p hp hl hpf)
      · exact hst
    · intro p hp hl hpf
      simp only [List.mem_append, List.mem_singleton] at hp
      rcases hp with hp | rfl
      · obtain ⟨b, hb⟩ := I.stN p hp hl hpf
        exact ⟨b, (hFp p hp b).2 hb⟩
      · simp [DIt.isFlt] at hpf
    · intro p hp q hq hpl hql hpf hqf hne b hb
      simp only [List.mem_append, List.mem_singleton] at hp hq
      rcases hp with hp | rfl
      · rcases hq with hq | rfl
        · rw [hFp q hq]; rw [hFp p hp] at hb
          exact I.dist p hp q hq hpl hql hpf hqf hne b hb
        · simp [DIt.isFlt] at hqf
      · simp [DIt.isFlt] at hpf
theorem Inv.flt (D : DOk P nt ops items anc) {d : DIt} (I : Inv ops items ρ0 n0 w0 sz pre (d :: rest) listed ρ s a w) (hf : d.isFlt = true) {s' : St}
    (hr : runDIt callf d s = .ok s') : Inv ops items ρ0 n0 w0 sz (pre ++ [d]) rest listed ρ s' a w := by
  have hdm := I.mem_rest (d := d) (by simp)
  have hpair : ∀ p ∈ pre, PairOk anc p d := fun p hp => pairOk_spec (pairs_append (I.split ▸ D.pair) hp (by simp))
  have hdl : listed.getD d.j true = false := I.rest0 d (by simp)
  cases d with
  | eff j i re => simp [DIt.isFlt] at hf
  | op j i => simp [DIt.isFlt] at hf
  | flt j i re =>
    obtain ⟨hsome, hself⟩ := D.pure _ hdm rfl
    simp only [DIt.instr] at hsome hself
    obtain ⟨t, ht⟩ := Option.isSome_iff_exists.1 hsome
    simp only [runDIt] at hr
    split at hr
    · rename_i o f hnew
      rw [Bool.cond_eq_ite] at hr
      split at hr
      · rename_i hre
        simp at hr; subst hr
        have hne : ∀ p ∈ pre, ∀ t, p.instr.dst = some t → (s.env.put i.dst (f s.heap.next)).get t = s.env.get t := fun p hp t h => by
          rw [put_get, if_neg]
          intro e; exact (hpair p hp).dst (.inl rfl) t e h
        have hFp : ∀ p ∈ pre, ∀ b, Flt ρ n0 s p.instr b → Flt ρ n0 { s with env := s.env.put i.dst (f s.heap.next), heap := s.heap.alloc o } p.instr b := fun p hp b F =>
          F.env (put_same ((hpair p hp).look (.inl rfl))) (hne p hp) (by simp only; rw [Hp.get_alloc, if_neg (by have := F.hi; omega)]) (by simp [Hp.next_alloc]) F.no
        have hFq : ∀ p ∈ pre, ∀ b, listed.getD p.j true = false → p.isFlt = true → Flt ρ n0 { s with env := s.env.put i.dst (f s.heap.next), heap := s.heap.alloc o } p.instr b → Flt ρ n0 s p.instr b := fun p hp b hl hpf F => by
          obtain ⟨b', F'⟩ := I.stN p hp hl hpf
          obtain ⟨t1, e1, e2⟩ := F.blk
          obtain ⟨t2, e3, e4⟩ := F'.blk
          rw [e1] at e3; simp at e3; subst e3
          simp only at e2
          rw [hne p hp t1 e1, e4] at e2
          simp at e2; subst e2; exact F'
        have hfb : blkOf (f s.heap.next) = some s.heap.next := by
          revert hnew
          cases i.op <;> simp only [newOp] <;> (try (intro h; simp at h; done))
          · intro h; simp at h; rw [← h.2]; rfl
          · intro h; split at h <;> simp at h; rw [← h.2]; rfl
          · intro h; simp at h; obtain ⟨_, _, _, h⟩ := h; rw [← h]; rfl
          · intro h; simp at h; rw [← h.2]; rfl
          · intro h; split at h
            · split at h <;> simp at h; rw [← h.2]; rfl
            · simp at h
          · intro h; split at h <;> simp at h; rw [← h.2]; rfl
        have hFd : Flt ρ n0 { s with env := s.env.put i.dst (f s.heap.next), heap := s.heap.alloc o } i s.heap.next :=
          ⟨⟨t, o, f, ht, by simp only; rw [newOp_congr (looks_op (put_same hself))]; exact hnew, by simp only; rw [put_get, if_pos ht], by simp only; rw [put_get, if_pos ht]; exact hfb,
            by simp only; rw [Hp.get_alloc, if_pos rfl]⟩, I.grow.nx, by simp [Hp.next_alloc], I.rel.fresh⟩
        have hFd' : ∀ b, Flt ρ n0 { s with env := s.env.put i.dst (f s.heap.next), heap := s.heap.alloc o } i b → b = s.heap.next := fun b F => by
          obtain ⟨t1, e1, e2⟩ := F.blk
          simp only at e2
          rw [put_get, if_pos e1, hfb] at e2; simp at e2; exact e2.symm
        refine ⟨by rw [I.split]; simp, fun e he => I.rest0 e (by simp [he]), ?_, I.lsz, I.closed, ?_, I.rel.wide o, I.defs, I.rc, I.size, I.grow.wide (by simp [Hp.next_alloc]), ?_, ?_, ?_⟩
        · intro p hp hl
          simp only [List.mem_append, List.mem_singleton] at hp
          rcases hp with hp | rfl
          · exact I.effs p hp hl
          · rfl
        · intro t' h'
          have h1 : i.dst ≠ some t' := h' (.flt j i re) (by simp) hdl
          simp only
          rw [put_get, if_neg h1]
          exact I.env t' fun p hp hl => h' p (by simp [hp]) hl
        · intro p hp hl hpf
          simp only [List.mem_append, List.mem_singleton] at hp
          rcases hp with hp | rfl
          · have hpe := I.effs p hp hl
            rcases (hpair p hp).opFlt hpe hpf rfl with h | h
            · exact (stillP_congr (s := s) (s' := { s with env := s.env.put i.dst (f s.heap.next), heap := s.heap.alloc o }) (put_same ((hpair p hp).look (.inl rfl))) (hne p hp) (.inr h)).trans (I.stP p hp hl hpf)
            · have := stillAll_mem hre h
              unfold still at this
              rw [D.op p (I.mem_pre hp) hpe hpf] at this
              exact this
          · simp [DIt.isFlt] at hpf
        · intro p hp hl hpf
          simp only [List.mem_append, List.mem_singleton] at hp
          rcases hp with hp | rfl
          · obtain ⟨b, hb⟩ := I.stN p hp hl hpf
            exact ⟨b, hFp p hp b hb⟩
          · exact ⟨_, hFd⟩
        · intro p hp q hq hpl hql hpf hqf hne b hb hb'
          simp only [List.mem_append, List.mem_singleton] at hp hq
          rcases hp with hp | rfl
          · have F := hFq p hp b hpl hpf hb
            rcases hq with hq | rfl
            · exact I.dist p hp q hq hpl hql hpf hqf hne b F (hFq q hq b hql hqf hb')
            · have := hFd' b hb'
              have := F.hi; omega
          · have e := hFd' b hb
            rcases hq with hq | rfl
            · have := (hFq q hq b hql hqf hb').hi; omega
            · exact hne rfl
      · simp at hr
    · simp at hr

/-- On to the next item that has an effect, or to the end. -/
theorem Inv.advance (D : DOk P nt ops items anc) (ts : List Nat) : ∀ (rest : List DIt) (pre : List DIt) (s : St), Inv ops items ρ0 n0 w0 sz pre rest listed ρ s a w →
    runDops callf ts rest s = .stuck ∨ ∃ pre1 rest1 s1, Inv ops items ρ0 n0 w0 sz pre1 rest1 listed ρ s1 a w ∧ runDops callf ts rest1 s1 = runDops callf ts rest s ∧ (∀ d r, rest1 = d :: r → d.isEff = true)
  | [], pre, s, I => .inr ⟨pre, [], s, I, rfl, fun _ _ h => by cases h⟩
  | d :: rest, pre, s, I => by
    by_cases he : d.isEff = true
    · exact .inr ⟨pre, d :: rest, s, I, rfl, fun _ _ h => by cases h; exact he⟩
    · simp only [Bool.not_eq_true] at he
      simp only [runDops]
      cases hr : runDIt callf d s with
      | stuck => exact .inl rfl
      | panic s' =>
        exfalso
        cases d with
        | eff j i re => simp [DIt.isEff] at he
        | op j i => simp only [runDIt] at hr; (repeat' split at hr) <;> simp at hr
        | flt j i re =>
          simp only [runDIt, Bool.cond_eq_ite] at hr
          split at hr
          · split at hr <;> simp at hr
          · simp at hr
      | ok s' =>
        simp only
        by_cases hf : d.isFlt = true
        · exact Inv.advance D ts rest _ s' (I.flt D hf hr)
        · simp only [Bool.not_eq_true] at hf
          exact Inv.advance D ts rest _ s' (I.op D he hf hr)
end
end Go.Proofs.YtjlebgfbohihfaaGreat.Am
