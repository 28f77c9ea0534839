/-
  A round of a range over a function: what is walked in its frame.
-/
import Derived.Test.YtjlebgfbohihfaaGreatAmW
import Derived.RangeFuncIn
import Derived.RangeFuncRecord
import Derived.RangeFuncLeaves
namespace Go.Proofs.YtjlebgfbohihfaaGreat.Am
open Go
set_option linter.unusedVariables false
set_option linter.unusedSimpArgs false

/-- An operation that calls nothing, defers nothing, asks for no panic and makes none. -/
def calm : AOp → Bool
  | .call .. | .callv .. | .dfr _ | .rcv | .pnc _ | .bad => false
  | _ => true

section
variable {P : Program} {F : Fence} {n : Nat}
theorem not_defer {o : Oper} {op : AOp} (h : absOp P o.op = some op) (hc : calm op = true) : ∀ c, o.op ≠ .defer c := by
  intro c e
  rw [e] at h
  simp only [absOp] at h
  split at h
  · simp only [Option.map_eq_some_iff] at h
    obtain ⟨x, _, rfl⟩ := h
    simp [calm] at hc
  · simp at h

theorem instr_wpIn (hF : ∀ f, F.fn f) {ρ : Ren} {s : St} {a : Act} {w : World} (hp : Pre ρ s a w) (hrc : s.rc = none) {nt : Nat} (hnt : nt ≤ a.tmps.size)
    {ops : Array Oper} {o : Oper} {i : AInstr} (hm : instrOk P nt ops o i = true) (hc : calm i.op = true) {Q : Exit → Act → World → Prop} {s' : St} (hr : runInstr (fun _ _ _ => .stuck) i s = .ok s')
    {K : Act → World → Prop} (hK : ∀ a' w', Post ρ s.heap.next w a.tmps.size s' a' w' → K a' w') :
    if Region.wanted o (yielded ops a.tmps) then o.wpIn F n P a w K Q else (∀ f, o.about P w a.eval = some f → F.fn f) ∧ K (a.put o.dst undef) w := by
  simp only [instrOk, Bool.and_eq_true, decide_eq_true_iff] at hm
  obtain ⟨⟨⟨habs, hdst⟩, hdn⟩, hg⟩ := hm
  have hd : ∀ t, i.dst = some t → t < a.tmps.size := by
    intro t ht; rw [ht] at hdn; simp at hdn; omega
  unfold runInstr at hr
  split at hr
  · simp at hr
  · rename_i hw
    simp at hr; subst hr
    rw [wanted_sound hp.env hg hw]
    simp only [Bool.false_eq_true, if_false]
    refine ⟨fun f _ => hF f, hK _ _ ⟨ρ, Grow.refl _ _ _, ?_, hp.rel, by rw [hdst, put_defers]; exact hp.defs, by rw [hdst, put_size]⟩⟩
    rw [hdst]; exact hp.env.put (undef_VR ρ) hd
  · rename_i hw
    rw [wanted_sound hp.env hg hw]
    simp only [if_true]
    have hbad : i.op ≠ .bad := by intro e; rw [e] at hc; simp [calm] at hc
    have ha := absOk_of habs hbad
    have heff := eff_sound (a := a) hp.rel hp.env ha
    refine ⟨fun f _ => hF f, ?_⟩
    rw [Oper.semAt_eq _ _ _ (not_defer ha hc)]
    split at hr
    · rename_i v h' he
      simp at hr; subst hr
      rw [he] at heff
      obtain ⟨u, w', ρ', hrun, ⟨hG, hR⟩, hv⟩ := heff
      rw [hrun]
      refine hK _ _ ⟨ρ', hG, ?_, hR, by rw [hdst, put_defers]; exact hp.defs.defs_mono hG.le, by rw [hdst, put_size]⟩
      rw [hdst]; exact (hp.env.mono hG.le).put hv hd
    · rename_i h' he
      simp at hr; subst hr
      rw [he] at heff
      obtain ⟨w', ρ', hrun, ⟨hG, hR⟩⟩ := heff
      rw [hrun]
      refine hK _ _ ⟨ρ', hG, ?_, hR, by rw [hdst, put_defers]; exact hp.defs.defs_mono hG.le, by rw [hdst, put_size]⟩
      rw [hdst]; exact (hp.env.mono hG.le).put trivial hd
    · simp at hr
    · rename_i c he
      simp at hr; subst hr
      rw [he] at heff
      obtain ⟨d, hrun, hdr⟩ := heff
      rw [hrun]
      refine hK _ _ ⟨ρ, Grow.refl _ _ _, ?_, hp.rel, ?_, by rw [hdst, put_size]⟩
      · rw [hdst]
        exact EnvR.put (a := { a with defers := d :: a.defers }) hp.env trivial hd
      · rw [hdst, put_defers]; exact ⟨hdr, hp.defs⟩
    · rw [hrc] at hr
      simp at hr
    · simp at hr
    · simp at hr

/-- A stretch of a region. -/
theorem ops_wpIn (hF : ∀ f, F.fn f) {nt : Nat} {ops : Array Oper} {Q : Exit → Act → World → Prop} {rest : List Nat} :
    ∀ (l : List AInstr) (os : List Oper) (k : Nat) (ρ : Ren) (s : St) (a : Act) (w : World), Pre ρ s a w → s.rc = none → nt ≤ a.tmps.size → opsOk P nt ops os l = true → l.all (fun i => calm i.op) = true →
      (∀ (j : Nat) (o : Oper), os[j]? = some o → ops[k + j]? = some o) → ∀ s', runOps (fun _ _ _ => .stuck) l s = .ok s' →
      (∀ a' w', Post ρ s.heap.next w a.tmps.size s' a' w' → wpOpsIn F n P ops Q rest a' w') → wpOpsIn F n P ops Q (List.range' k os.length ++ rest) a w
  | [], [], k, ρ, s, a, w, hp, hrc, _, _, _, _, s', hr, hQ => by
    simp only [runOps] at hr
    cases hr
    simpa using hQ a w hp.post
  | i :: l, o :: os, k, ρ, s, a, w, hp, hrc, hnt, hok, hc, hos, s', hr, hQ => by
    simp only [opsOk, Bool.and_eq_true] at hok
    simp only [List.all_cons, Bool.and_eq_true] at hc
    have hj : ops[k]? = some o := by simpa using hos 0 o rfl
    simp only [runOps] at hr
    have hos' : ∀ (j : Nat) (p : Oper), os[j]? = some p → ops[k + 1 + j]? = some p := fun j p hjp => by
      have := hos (j + 1) p (by simpa using hjp)
      rwa [show k + (j + 1) = k + 1 + j from by omega] at this
    rw [List.length_cons, List.range'_succ, List.cons_append]
    simp only [wpOpsIn, hj]
    split at hr
    · rename_i s1 hr1
      refine instr_wpIn hF hp hrc hnt hok.1 hc.1 hr1 fun a' w' hpost => ?_
      obtain ⟨ρ', hG, hE, hR, hD, hsz⟩ := hpost
      refine ops_wpIn hF l os (k + 1) ρ' s1 a' w' ⟨hE, hR, hD⟩ ((runInstr_rc hrc).1 _ hr1) (by omega) hok.2 hc.2 hos' s' hr fun a2 w2 ⟨ρ2, hG2, hE2, hR2, hD2, hsz2⟩ => ?_
      exact hQ a2 w2 ⟨ρ2, hG.trans hG2, hE2, hR2, hD2, by omega⟩
    · simp at hr
    · simp at hr
  | [], _ :: _, _, _, _, _, _, _, _, _, hok, _, _, _, _, _ => by simp [opsOk] at hok
  | _ :: _, [], _, _, _, _, _, _, _, _, hok, _, _, _, _, _ => by simp [opsOk] at hok

/-- What calm code without loops and jumps comes to. -/
def run1 : ACode → St → XRes
  | .skip, s => .ok .normal s
  | .label _, s => .ok .normal s
  | .ops l, s => bif l.all (fun i => calm i.op) then (match runOps (fun _ _ _ => .stuck) l s with | .ok s' => .ok .normal s' | _ => .stuck) else .stuck
  | .seq a b, s => match run1 a s with
    | .ok .normal s' => run1 b s'
    | r => r
  | .cond x a b, s => match ev s.env x with
    | .c (.bool t) => if t then run1 a s else run1 b s
    | _ => .stuck
  | .block id a, s => match run1 a s with
    | .ok (.exit j) s' => bif Nat.beq j id then .ok .normal s' else .ok (.exit j) s'
    | r => r
  | .exit id, s => .ok (.exit id) s
  | .ret, s => .ok .ret s
  | .keep l a, s => run1 a { s with env := s.env.prune l }
  | _, _ => .stuck

theorem run1_rc : ∀ (A : ACode) (s : St), s.rc = none → rcOf (run1 A s)
  | .skip, s, h => h
  | .label _, s, h => h
  | .exit _, s, h => h
  | .ret, s, h => h
  | .ops l, s, h => by
    simp only [run1, Bool.cond_eq_ite]
    split
    · split
      · rename_i s' hr; exact (runOps_rc h).1 _ hr
      · trivial
    · trivial
  | .seq a b, s, h => by
    simp only [run1]
    have h1 := run1_rc a s h
    split
    · rename_i s' hr; rw [hr] at h1; exact run1_rc b s' h1
    · exact h1
  | .cond x a b, s, h => by
    simp only [run1]
    split
    · split
      · exact run1_rc a s h
      · exact run1_rc b s h
    · trivial
  | .block id a, s, h => by
    simp only [run1]
    have h1 := run1_rc a s h
    split
    · rename_i hr; rw [hr] at h1; rw [Bool.cond_eq_ite]; split <;> exact h1
    · exact h1
  | .keep l a, s, h => run1_rc a _ h
  | .dops _, s, h => trivial
  | .loop _ _, s, h => trivial
  | .scope _, s, h => trivial
  | .jscope _ _ _, s, h => trivial
  | .goto _, s, h => trivial
  | .bad, s, h => trivial

theorem run1_sound (hF : ∀ f, F.fn f) {nt : Nat} : ∀ (A : ACode) (c : Code), codeOk P nt c A = true → ∀ (ρ : Ren) (s : St) (a : Act) (w : World), Pre ρ s a w → s.rc = none → nt ≤ a.tmps.size →
    ∀ (Q : Exit → Act → World → Prop) (e : AExit) (s' : St), run1 A s = .ok e s' → (∀ a' w', Post ρ s.heap.next w a.tmps.size s' a' w' → Q (toExit e) a' w') → c.wpIn F n P Q a w := by
  intro A
  induction A with
  | bad | dops _ | loop _ _ _ | scope _ _ | jscope _ _ _ _ _ | goto _ => intro c _ ρ s a w _ _ _ Q e s' hr; simp [run1] at hr
  | keep l A ih =>
    intro c hok ρ s a w hp hrc hnt Q e s' hr hQ
    have hok : codeOk P nt c A = true := by cases c <;> exact hok
    exact ih c hok ρ { s with env := s.env.prune l } a w ⟨hp.env.prune l, hp.rel, hp.defs⟩ hrc hnt Q e s' hr hQ
  | skip =>
    intro c hok ρ s a w hp hrc hnt Q e s' hr hQ
    cases c <;> simp only [codeOk, Bool.false_eq_true] at hok
    simp [run1] at hr; obtain ⟨rfl, rfl⟩ := hr
    exact wpIn_skip (hQ a w hp.post)
  | label l' =>
    intro c hok ρ s a w hp hrc hnt Q e s' hr hQ
    cases c <;> simp only [codeOk, Bool.false_eq_true] at hok
    simp [run1] at hr; obtain ⟨rfl, rfl⟩ := hr
    exact wpIn_label (hQ a w hp.post)
  | ret =>
    intro c hok ρ s a w hp hrc hnt Q e s' hr hQ
    cases c <;> simp only [codeOk, Bool.false_eq_true] at hok
    simp [run1] at hr; obtain ⟨rfl, rfl⟩ := hr
    exact wpIn_ret (hQ a w hp.post)
  | exit id =>
    intro c hok ρ s a w hp hrc hnt Q e s' hr hQ
    cases c <;> simp only [codeOk, Bool.false_eq_true] at hok
    have := Nat.eq_of_beq_eq_true hok; subst this
    simp [run1] at hr; obtain ⟨rfl, rfl⟩ := hr
    exact wpIn_exit (hQ a w hp.post)
  | ops l =>
    intro c hok ρ s a w hp hrc hnt Q e s' hr hQ
    cases c with
    | region id ops d =>
      cases d with
      | true => simp [codeOk] at hok
      | false =>
        simp only [codeOk] at hok
        simp only [run1, Bool.cond_eq_ite] at hr
        split at hr
        · rename_i hc
          split at hr
          · rename_i s1 hr1
            simp at hr; obtain ⟨rfl, rfl⟩ := hr
            refine wpIn_region ?_
            have h1 := ops_wpIn (n := n) hF (Q := Q) (rest := []) l ops.toList 0 ρ s a w hp hrc hnt hok hc (fun j o hj => by simpa using hj) s1 hr1 (fun a' w' hpost => hQ a' w' hpost)
            rw [show ops.toList.length = ops.size from by simp, List.append_nil] at h1
            rw [List.range_eq_range']
            exact h1
          · simp at hr
        · simp at hr
    | _ => simp [codeOk] at hok
  | seq A B ihA ihB =>
    intro c hok ρ s a w hp hrc hnt Q e s' hr hQ
    cases c <;> simp only [codeOk, Bool.false_eq_true] at hok
    rename_i x y
    simp only [Bool.and_eq_true] at hok
    simp only [run1] at hr
    have hr1 := run1_rc A s hrc
    refine wpIn_seq ?_
    split at hr
    · rename_i s1 h1
      rw [h1] at hr1
      refine ihA x hok.1 ρ s a w hp hrc hnt _ _ s1 h1 fun a' w' hpost => ?_
      obtain ⟨ρ', g, p, z⟩ := hpost.pre
      refine ihB y hok.2 ρ' s1 a' w' p hr1 (by omega) Q e s' hr fun a2 w2 ⟨ρ2, hG2, hE2, hR2, hD2, hsz2⟩ => ?_
      exact hQ a2 w2 ⟨ρ2, g.trans hG2, hE2, hR2, hD2, by omega⟩
    · rename_i r hne
      refine ihA x hok.1 ρ s a w hp hrc hnt _ e s' hr fun a' w' hpost => ?_
      cases e with
      | normal => exact absurd hr (hne s')
      | exit id => exact hQ a' w' hpost
      | goto l => exact hQ a' w' hpost
      | ret => exact hQ a' w' hpost
  | cond x A B ihA ihB =>
    intro c hok ρ s a w hp hrc hnt Q e s' hr hQ
    cases c <;> simp only [codeOk, Bool.false_eq_true] at hok
    rename_i x' c1 c2
    simp only [Bool.and_eq_true, decide_eq_true_iff] at hok
    simp only [run1] at hr
    split at hr
    · rename_i t ht
      have hv := ev_VR hp.env hok.1.1
      rw [ht] at hv
      refine wpIn_cond hv.bool ?_
      cases t with
      | true => exact ihA c1 hok.1.2 ρ s a w hp hrc hnt Q e s' hr hQ
      | false => exact ihB c2 hok.2 ρ s a w hp hrc hnt Q e s' hr hQ
    · simp at hr
  | block id A ih =>
    intro c hok ρ s a w hp hrc hnt Q e s' hr hQ
    cases c <;> simp only [codeOk, Bool.false_eq_true] at hok
    rename_i id' x
    simp only [Bool.and_eq_true] at hok
    have := Nat.eq_of_beq_eq_true hok.1; subst this
    simp only [run1] at hr
    refine wpIn_block ?_
    split at hr
    · rename_i j s1 h1
      refine ih x hok.2 ρ s a w hp hrc hnt _ _ s1 h1 fun a' w' hpost => ?_
      rw [nbeq, bif_decide] at hr
      split at hr
      · rename_i hj
        simp at hr; obtain ⟨rfl, rfl⟩ := hr
        simp only [toExit, Exit.inBlock, hj, if_true]
        exact hQ a' w' hpost
      · rename_i hj
        simp at hr; obtain ⟨rfl, rfl⟩ := hr
        simp only [toExit, Exit.inBlock, hj, if_false]
        exact hQ a' w' hpost
    · rename_i hne
      refine ih x hok.2 ρ s a w hp hrc hnt _ e s' hr fun a' w' hpost => ?_
      cases e with
      | exit id => exact absurd hr (hne id s')
      | normal => exact hQ a' w' hpost
      | goto l => exact hQ a' w' hpost
      | ret => exact hQ a' w' hpost
end
end Go.Proofs.YtjlebgfbohihfaaGreat.Am
