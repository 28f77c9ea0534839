/-
  One instruction, and a region in the text's order.
-/
import Derived.Test.YtjlebgfbohihfaaGreatAmM
import Derived.Orders
namespace Go.Proofs.YtjlebgfbohihfaaGreat.Am
open Go
set_option linter.unusedVariables false
set_option linter.unusedSimpArgs false

/-- Is the abstract instruction the operation's? ops: the region's; nt: how many temporaries there are. -/
def guardOk (ops : Array Oper) (g : Option (Nat × Bool)) (g' : Option (Nat × Bool)) : Bool :=
  match g, g' with
  | none, none => true
  | some (j, b), some (t, b') => decide ((ops[j]?).bind (·.dst) = some t) && (b == b')
  | _, _ => false
/-- 'bad' stands for what the machine does not know: it gets stuck there. -/
def absOk (P : Program) (o : Op) (op : AOp) : Bool :=
  match op with
  | .bad => true
  | op => decide (absOp P o = some op)
theorem absOk_of {P : Program} {o : Op} {op : AOp} (h : absOk P o op = true) (hb : op ≠ .bad) : absOp P o = some op := by
  unfold absOk at h
  split at h
  · exact absurd rfl hb
  · simpa using h
def instrOk (P : Program) (nt : Nat) (ops : Array Oper) (o : Oper) (i : AInstr) : Bool :=
  absOk P o.op i.op && decide (o.dst = i.dst) && (match i.dst with | some d => decide (d < nt) | none => true) && guardOk ops o.guard i.guard

section
variable {P : Program}
theorem EnvR.put {ρ : Ren} {e : Env} {a : Act} (he : EnvR ρ e a.tmps) {d : Option Nat} {v : AVal} {u : Value} (hv : VR ρ v u) (hd : ∀ t, d = some t → t < a.tmps.size) :
    EnvR ρ (e.put d v) (a.put d u).tmps := by
  cases d with
  | none => exact he
  | some t =>
    intro s
    simp only [Env.put, Env.get, Act.put]
    rw [nbeq, bif_decide]
    have ht := hd t rfl
    split
    · subst_vars; simp [ht]; exact hv
    · rename_i hne
      have : (a.tmps.setIfInBounds t u).getD s undef = a.tmps.getD s undef := by
        simp only [Array.getD_eq_getD_getElem?]
        rw [Array.getElem?_setIfInBounds_ne hne]
      rw [this]; exact he s
theorem put_size (a : Act) (d : Option Nat) (u : Value) : (a.put d u).tmps.size = a.tmps.size := by cases d <;> simp [Act.put]
theorem put_defers (a : Act) (d : Option Nat) (u : Value) : (a.put d u).defers = a.defers := by cases d <;> rfl

theorem wanted_sound {ρ : Ren} {e : Env} {a : Act} (he : EnvR ρ e a.tmps) {ops : Array Oper} {o : Oper} {i : AInstr} (hg : guardOk ops o.guard i.guard = true) {b : Bool} (hw : wanted e i.guard = some b) :
    Region.wanted o (yielded ops a.tmps) = b := by
  unfold guardOk at hg
  unfold Region.wanted
  split at hg
  · rename_i h1 h2
    rw [h1]
    rw [h2] at hw
    simpa [wanted] using hw
  · rename_i j x t y h1 h2
    rw [h1]
    rw [h2] at hw
    simp only [Bool.and_eq_true, decide_eq_true_iff, beq_iff_eq] at hg
    obtain ⟨hg1, rfl⟩ := hg
    simp only [wanted] at hw
    split at hw
    · rename_i z hz
      simp at hw; subst hw
      have := he t
      rw [hz] at this
      have := this.bool
      have hy : yielded ops a.tmps j = some z := by
        unfold yielded
        rw [hg1]
        simp only [Option.bind_some]
        rw [Array.getD_eq_getD_getElem?] at this
        cases h : a.tmps[t]? with
        | none => rw [h] at this; simp [undef] at this
        | some u => rw [h] at this; simp at this; rw [this]
      simp only [hy]
      rw [Bool.eq_iff_iff]; simp
    · rename_i hz
      simp at hw; subst hw
      have := he t
      rw [hz] at this
      obtain ⟨q, hq, hqa⟩ := this
      have hy : yielded ops a.tmps j = none := by
        unfold yielded
        rw [hg1]
        simp only [Option.bind_some]
        rw [Array.getD_eq_getD_getElem?] at hq
        cases h : a.tmps[t]? with
        | none => rfl
        | some u => rw [h] at hq; simp at hq; rw [hq]
      simp only [hy]
      rfl
    · simp at hw
  · simp at hg
theorem undef_VR (ρ : Ren) : VR ρ (.tup []) undef := ⟨#[], rfl, trivial⟩

def CallR (P : Program) (f : FuncId) (vals : Array Value) (w : World) (R : Ending → World → Prop) : Prop :=
  match (callFunc f vals).run P w with
  | .ok (.enter g args) w' => Calls P g args w' R
  | .ok (.value v) w' => R (.returned v) w'
  | _ => False
def CallSound (P : Program) (callf : Nat → List AVal → Hp → CRes) : Prop :=
  ∀ (ρ : Ren) (h : Hp) (w : World) (f : Nat) (args : List AVal) (vals : Array Value), Rel ρ h w.heap → All2 (VR ρ) args vals.toList →
    match callf f args h with
    | .ok v h' => CallR P f vals w fun e w' => ∃ ρ' u, e = .returned u ∧ VR ρ' v u ∧ After ρ h w h' ρ' w'
    | .panic h' => CallR P f vals w fun e w' => ∃ ρ' t x, e = .panicked [{ v := .iface t x, recovered := false }] ∧ After ρ h w h' ρ' w'
    | .stuck => True

/-- The frame and the world behind a piece of code, from ρ, n, w on. -/
def Post (ρ : Ren) (n : Nat) (w : World) (sz : Nat) (s' : St) (a' : Act) (w' : World) : Prop :=
  ∃ ρ', Grow ρ n w ρ' s'.heap.next w' ∧ EnvR ρ' s'.env a'.tmps ∧ Rel ρ' s'.heap w'.heap ∧ All2 (DefR ρ') s'.defs a'.defers ∧ a'.tmps.size = sz
structure Pre (ρ : Ren) (s : St) (a : Act) (w : World) : Prop where
  env : EnvR ρ s.env a.tmps
  rel : Rel ρ s.heap w.heap
  defs : All2 (DefR ρ) s.defs a.defers
theorem Pre.post {ρ : Ren} {s : St} {a : Act} {w : World} (h : Pre ρ s a w) : Post ρ s.heap.next w a.tmps.size s a w := ⟨ρ, Grow.refl _ _ _, h.env, h.rel, h.defs, rfl⟩
theorem All2.defs_mono {ρ ρ' : Ren} (h : ρ.le ρ') {l : List Cell} {ds : List Deferred} (hd : All2 (DefR ρ) l ds) : All2 (DefR ρ') l ds := hd.mono fun _ _ => DefR.mono h

/-- One instruction in a frame: what it comes to. -/
theorem instr_wp {callf : Nat → List AVal → Hp → CRes} (hcall : CallSound P callf) {ρ : Ren} {s : St} {a : Act} {w : World} (hp : Pre ρ s a w) (hrc : s.rc = none) {nt : Nat} (hnt : nt ≤ a.tmps.size)
    {ops : Array Oper} {j : Nat} {o : Oper} (hj : ops[j]? = some o) {i : AInstr} (hm : instrOk P nt ops o i = true) {Q : Exit → Act → World → Prop} (r : SRes) (hr : runInstr callf i s = r) :
    match r with
    | .ok s' => ∀ K : Act → World → Prop, (∀ a' w', Post ρ s.heap.next w a.tmps.size s' a' w' → K a' w') → wpOp P ops Q j K a w
    | .panic s' => ∀ K : Act → World → Prop, (∀ t x a' w', Post ρ s.heap.next w a.tmps.size s' a' w' → Q (.panic [{ v := .iface t x, recovered := false }]) a' w') → wpOp P ops Q j K a w
    | .stuck => True := by
  simp only [instrOk, Bool.and_eq_true, decide_eq_true_iff] at hm
  obtain ⟨⟨⟨habs, hdst⟩, hdn⟩, hg⟩ := hm
  have hd : ∀ t, i.dst = some t → t < a.tmps.size := by
    intro t ht; rw [ht] at hdn; simp at hdn; omega
  unfold runInstr at hr
  split at hr
  · subst hr; trivial
  · -- not wanted
    rename_i hw
    subst hr
    have hrw := wanted_sound hp.env hg hw
    intro K hK
    unfold wpOp
    simp only [hj, hrw, Bool.false_eq_true, if_false]
    refine hK _ _ ⟨ρ, Grow.refl _ _ _, ?_, hp.rel, by rw [hdst, put_defers]; exact hp.defs, by rw [hdst, put_size]⟩
    rw [hdst]; exact hp.env.put (undef_VR ρ) hd
  · rename_i hw
    have hrw := wanted_sound hp.env hg hw
    by_cases hbad : i.op = .bad
    · rw [hbad] at hr
      have : effOp s.env s.heap .bad = .stuck := rfl
      rw [this] at hr
      subst hr; trivial
    have heff := eff_sound (a := a) hp.rel hp.env (absOk_of habs hbad)
    have enter : ∀ {K : Act → World → Prop}, o.upon P a K Q ((execOp a.eval o).run P w) → wpOp P ops Q j K a w := by
      intro K h
      unfold wpOp
      simp only [hj, hrw, if_true]
      exact .inl h
    split at hr
    · rename_i v h' he
      subst hr
      rw [he] at heff
      obtain ⟨u, w', ρ', hrun, ⟨hG, hR⟩, hv⟩ := heff
      intro K hK
      refine enter ?_
      rw [hrun]
      refine hK _ _ ⟨ρ', hG, ?_, hR, by rw [hdst, put_defers]; exact hp.defs.defs_mono hG.le, by rw [hdst, put_size]⟩
      rw [hdst]; exact (hp.env.mono hG.le).put hv hd
    · rename_i h' he
      subst hr
      rw [he] at heff
      obtain ⟨w', ρ', hrun, ⟨hG, hR⟩⟩ := heff
      intro K hK
      refine enter ?_
      rw [hrun]
      refine hK _ _ ⟨ρ', hG, ?_, hR, by rw [hdst, put_defers]; exact hp.defs.defs_mono hG.le, by rw [hdst, put_size]⟩
      rw [hdst]; exact (hp.env.mono hG.le).put trivial hd
    · rename_i f args he
      rw [he] at heff
      obtain ⟨vals, hrun, hargs⟩ := heff
      have hc := hcall ρ s.heap w f args vals hp.rel hargs
      have key : ∀ {K : Act → World → Prop} {R : Ending → World → Prop}, CallR P f vals w R → (∀ e w', R e w' → match e with | .returned v => K (a.put o.dst v) w' | .panicked c => Q (.panic c) a w' | .outgrown => False) → o.upon P a K Q ((execOp a.eval o).run P w) := by
        intro K R hcr hK
        rw [hrun]
        unfold CallR at hcr
        split at hcr
        · rename_i g args' w' hr2
          rw [hr2]
          refine hcr.mono fun e w'' hR => ?_
          have := hK e w'' hR
          cases e with
          | returned v => exact this
          | panicked c => exact this
          | outgrown => exact this.elim
        · rename_i v w' hr2
          rw [hr2]
          exact hK _ _ hcr
        · exact hcr.elim
      split at hr
      · rename_i v h' hcf
        subst hr
        rw [hcf] at hc
        intro K hK
        refine enter (key hc ?_)
        rintro e w' ⟨ρ', u, rfl, hv, hG, hR⟩
        refine hK _ _ ⟨ρ', hG, ?_, hR, by rw [hdst, put_defers]; exact hp.defs.defs_mono hG.le, by rw [hdst, put_size]⟩
        rw [hdst]; exact (hp.env.mono hG.le).put hv hd
      · rename_i h' hcf
        subst hr
        rw [hcf] at hc
        intro K hK
        refine enter (key hc ?_)
        rintro e w' ⟨ρ', t, x, rfl, hG, hR⟩
        exact hK _ _ _ _ ⟨ρ', hG, hp.env.mono hG.le, hR, hp.defs.defs_mono hG.le, rfl⟩
      · subst hr; trivial
    · rename_i c he
      subst hr
      rw [he] at heff
      obtain ⟨d, hrun, hdr⟩ := heff
      intro K hK
      refine enter ?_
      rw [hrun]
      refine hK _ _ ⟨ρ, Grow.refl _ _ _, ?_, hp.rel, ?_, by rw [hdst, put_size]⟩
      · rw [hdst]
        exact EnvR.put (a := { a with defers := d :: a.defers }) hp.env trivial hd
      · rw [hdst, put_defers]; exact ⟨hdr, hp.defs⟩
    · rename_i he
      rw [hrc] at hr
      simp at hr
      subst hr
      trivial
    · rename_i he
      subst hr
      rw [he] at heff
      obtain ⟨t, x, hrun⟩ := heff
      intro K hK
      refine enter ?_
      rw [hrun]
      exact hK _ _ _ _ ⟨ρ, Grow.refl _ _ _, hp.env, hp.rel, hp.defs, rfl⟩
    · subst hr; trivial

theorem runInstr_rc {callf : Nat → List AVal → Hp → CRes} {i : AInstr} {s : St} (hrc : s.rc = none) :
    (∀ s', runInstr callf i s = .ok s' → s'.rc = none) ∧ (∀ s', runInstr callf i s = .panic s' → s'.rc = none) := by
  unfold runInstr
  constructor
  · intro s' h
    split at h
    · simp at h
    · simp at h; subst h; exact hrc
    · split at h
      · simp at h; subst h; exact hrc
      · simp at h; subst h; exact hrc
      · split at h <;> simp at h; subst h; exact hrc
      · simp at h; subst h; exact hrc
      · rw [hrc] at h; simp at h
      · simp at h
      · simp at h
  · intro s' h
    split at h
    · simp at h
    · simp at h
    · split at h
      · simp at h
      · simp at h
      · split at h <;> simp at h; subst h; exact hrc
      · simp at h
      · rw [hrc] at h; simp at h
      · simp at h; subst h; exact hrc
      · simp at h

def opsOk (P : Program) (nt : Nat) (ops : Array Oper) : List Oper → List AInstr → Bool
  | [], [] => true
  | o :: os, i :: is => instrOk P nt ops o i && opsOk P nt ops os is
  | _, _ => false

theorem ops_wp {callf : Nat → List AVal → Hp → CRes} (hcall : CallSound P callf) {nt : Nat} {ops : Array Oper} {Q : Exit → Act → World → Prop} :
    ∀ (l : List AInstr) (os : List Oper) (k : Nat) (ρ : Ren) (s : St) (a : Act) (w : World), Pre ρ s a w → s.rc = none → nt ≤ a.tmps.size → opsOk P nt ops os l = true →
      (∀ (j : Nat) (o : Oper), os[j]? = some o → ops[k + j]? = some o) → ∀ r, runOps callf l s = r →
      match r with
      | .ok s' => (∀ a' w', Post ρ s.heap.next w a.tmps.size s' a' w' → Q .normal a' w') → wpOps P ops Q (List.range' k os.length) a w
      | .panic s' => (∀ t x a' w', Post ρ s.heap.next w a.tmps.size s' a' w' → Q (.panic [{ v := .iface t x, recovered := false }]) a' w') → wpOps P ops Q (List.range' k os.length) a w
      | .stuck => True
  | [], [], k, ρ, s, a, w, hp, hrc, _, _, _, r, hr => by
    simp only [runOps] at hr
    subst hr
    exact fun hQ => by simpa [wpOps] using hQ a w hp.post
  | i :: l, o :: os, k, ρ, s, a, w, hp, hrc, hnt, hok, hos, r, hr => by
    simp only [opsOk, Bool.and_eq_true] at hok
    have hj : ops[k]? = some o := by simpa using hos 0 o rfl
    have h1 := instr_wp hcall hp hrc hnt hj hok.1 (Q := Q)
    simp only [runOps] at hr
    have hos' : ∀ (j : Nat) (p : Oper), os[j]? = some p → ops[k + 1 + j]? = some p := fun j p hjp => by
      have := hos (j + 1) p (by simpa using hjp)
      rwa [show k + (j + 1) = k + 1 + j from by omega] at this
    rw [List.length_cons, List.range'_succ, wpOps_cons]
    split at hr
    · rename_i s' hr1
      have h1 := h1 _ hr1
      have hrc' := (runInstr_rc hrc).1 _ hr1
      have ih : ∀ (ρ' : Ren) (a' : Act) (w' : World), Pre ρ' s' a' w' → nt ≤ a'.tmps.size → _ := fun ρ' a' w' hp' hnt' => ops_wp hcall (Q := Q) l os (k + 1) ρ' s' a' w' hp' hrc' hnt' hok.2 hos' r hr
      cases r with
      | ok s'' =>
        intro hQ
        refine h1 _ fun a' w' hpost => ?_
        obtain ⟨ρ', hG, hE, hR, hD, hsz⟩ := hpost
        exact ih ρ' a' w' ⟨hE, hR, hD⟩ (by omega) fun a2 w2 ⟨ρ2, hG2, hE2, hR2, hD2, hsz2⟩ => hQ a2 w2 ⟨ρ2, hG.trans hG2, hE2, hR2, hD2, by omega⟩
      | panic s'' =>
        intro hQ
        refine h1 _ fun a' w' hpost => ?_
        obtain ⟨ρ', hG, hE, hR, hD, hsz⟩ := hpost
        exact ih ρ' a' w' ⟨hE, hR, hD⟩ (by omega) fun t x a2 w2 ⟨ρ2, hG2, hE2, hR2, hD2, hsz2⟩ => hQ t x a2 w2 ⟨ρ2, hG.trans hG2, hE2, hR2, hD2, by omega⟩
      | stuck => trivial
    · rename_i s' hr1
      subst hr
      have h1 := h1 _ hr1
      exact fun hQ => h1 _ hQ
    · subst hr; trivial
  | [], _ :: _, _, _, _, _, _, _, _, _, hok, _, _, _ => by simp [opsOk] at hok
  | _ :: _, [], _, _, _, _, _, _, _, _, hok, _, _, _ => by simp [opsOk] at hok

theorem runOps_rc {callf : Nat → List AVal → Hp → CRes} : ∀ {l : List AInstr} {s : St}, s.rc = none →
    (∀ s', runOps callf l s = .ok s' → s'.rc = none) ∧ (∀ s', runOps callf l s = .panic s' → s'.rc = none)
  | [], s, hrc => by simp only [runOps]; exact ⟨fun s' h => by simp at h; subst h; exact hrc, fun s' h => by simp at h⟩
  | i :: l, s, hrc => by
    simp only [runOps]
    constructor
    · intro s' h
      split at h
      · rename_i s1 h1; exact (runOps_rc ((runInstr_rc hrc).1 _ h1)).1 _ h
      · simp at h
      · simp at h
    · intro s' h
      split at h
      · rename_i s1 h1; exact (runOps_rc ((runInstr_rc hrc).1 _ h1)).2 _ h
      · rename_i s1 h1; simp at h; subst h; exact (runInstr_rc hrc).2 _ h1
      · simp at h
end
end Go.Proofs.YtjlebgfbohihfaaGreat.Am
