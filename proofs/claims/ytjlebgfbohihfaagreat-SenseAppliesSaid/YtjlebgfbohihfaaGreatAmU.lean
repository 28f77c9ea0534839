/-
  Deferred calls, calls, and the whole.
-/
import Derived.Test.YtjlebgfbohihfaaGreatAmT
namespace Go.Proofs.YtjlebgfbohihfaaGreat.Am
open Go
set_option linter.unusedVariables false
set_option linter.unusedSimpArgs false

/-- The table's code for a function is the model's. -/
structure CodeFor (P : Program) (f : Nat) (fn : AFun) : Prop where
  is : ∃ F body, P.funcs[f]? = some F ∧ F.body = some body ∧ (F.name == "runtime.NumGoroutine") = false ∧ codeOk P F.ntmps body fn.code = true ∧ resOk P F.results.toList fn.res = true
def SpecFor (P : Program) (f : Nat) (g : List AVal → Hp → Option (AVal × Hp)) : Prop :=
  ∀ (ρ : Ren) (h : Hp) (w : World) (args : List AVal) (vals : Array Value), Rel ρ h w.heap → All2 (VR ρ) args vals.toList → ∀ v h', g args h = some (v, h') →
    CallR P f vals w fun e w' => ∃ ρ' u, e = .returned u ∧ VR ρ' v u ∧ After ρ h w h' ρ' w'
structure TabOk (P : Program) (T : Tab) : Prop where
  mixed : P.follows .mixedOrders = true
  code : ∀ f fn, T f = some (.code fn) → CodeFor P f fn
  spec : ∀ f g, T f = some (.spec g) → SpecFor P f g

section
variable {P : Program} {T : Tab}
theorem CodeFor.run {f : Nat} {fn : AFun} (h : CodeFor P f fn) (vals : Array Value) (w : World) : (callFunc f vals).run P w = .ok (.enter f vals) w := by
  obtain ⟨F, body, h1, h2, h3, _⟩ := h.is
  have h3 : F.name ≠ "runtime.NumGoroutine" := by simpa using h3
  simp [callFunc, h1, h2, h3]

theorem params_get : ∀ (vs : List AVal) (n t : Nat), (params n vs).get t = if n ≤ t then (vs[t - n]?).getD (.c .unk) else .c .unk
  | [], n, t => by simp [params, Env.get]
  | v :: vs, n, t => by
    simp only [params, Env.get]
    rw [nbeq, bif_decide, params_get vs (n + 1) t]
    by_cases h : n = t
    · subst h; simp
    · rw [if_neg h]
      by_cases h2 : n ≤ t
      · rw [if_pos h2, if_pos (by omega), show t - n = (t - (n + 1)) + 1 from by omega]; simp
      · rw [if_neg h2, if_neg (by omega)]
theorem params_VR {ρ : Ren} {args : List AVal} {vals rest : Array Value} (h : All2 (VR ρ) args vals.toList) : EnvR ρ (params 0 args) (vals ++ rest) := by
  intro t
  rw [params_get, if_pos (Nat.zero_le _), Nat.sub_zero]
  cases ht : args[t]? with
  | none => trivial
  | some v =>
    obtain ⟨u, hu, hv⟩ := h.get ht
    have hlt : t < vals.size := by
      rcases Nat.lt_or_ge t vals.size with h' | h'
      · exact h'
      · rw [List.getElem?_eq_none (by simpa using h')] at hu; cases hu
    have : (vals ++ rest).getD t undef = u := by
      rw [Array.getD_eq_getD_getElem?, Array.getElem?_append_left hlt]
      simp only [Array.getElem?_toList] at hu
      rw [hu]; rfl
    rw [this]; exact hv

/-! ### What panics, and what has been recovered -/
def ModeR : Nat → FrameMode → Prop
  | 0, u => u = .returning
  | 1, u => ∃ t x, u = .panicking [{ v := .iface t x, recovered := false }]
  | 2, u => ∃ t x, u = .panicking [{ v := .iface t x, recovered := true }]
  | _, _ => False
theorem stuck_sound : CallSound P fun _ _ _ => .stuck := fun _ _ _ _ _ _ _ _ => trivial

/-- A region of a deferred call that asks what panics. -/
theorem ops_wpS {nt : Nat} {ops : Array Oper} {QS : Exit → Act → List Frame → World → Prop} {c0 : Frame} {cs : List Frame} :
    ∀ (l : List AInstr) (os : List Oper) (k : Nat) (ρ : Ren) (s : St) (a : Act) (w : World) (r : Nat) (u : FrameMode), Pre ρ s a w → s.rc = some r → ModeR r u → nt ≤ a.tmps.size → opsOk P nt ops os l = true →
      (∀ (j : Nat) (o : Oper), os[j]? = some o → ops[k + j]? = some o) → ∀ s', runOps (fun _ _ _ => .stuck) l s = .ok s' →
      (∀ a' w' u' r', Post ρ s.heap.next w a.tmps.size s' a' w' → s'.rc = some r' → ModeR r' u' → QS .normal a' ({ c0 with mode := u' } :: cs) w') →
      wpOpsS P ops QS (List.range' k os.length) a ({ c0 with mode := u } :: cs) w
  | [], [], k, ρ, s, a, w, r, u, hp, hrc, hu, _, _, _, s', hr, hQ => by
    simp only [runOps] at hr
    cases hr
    simpa [wpOpsS] using hQ a w u r hp.post hrc hu
  | i :: l, o :: os, k, ρ, s, a, w, r, u, hp, hrc, hu, hnt, hok, hos, s', hr, hQ => by
    simp only [opsOk, Bool.and_eq_true] at hok
    have hj : ops[k]? = some o := by simpa using hos 0 o rfl
    have hos' : ∀ (j : Nat) (p : Oper), os[j]? = some p → ops[k + 1 + j]? = some p := fun j p hjp => by
      have := hos (j + 1) p (by simpa using hjp)
      rwa [show k + (j + 1) = k + 1 + j from by omega] at this
    rw [List.length_cons, List.range'_succ]
    simp only [wpOpsS, hj]
    have hok1 := hok.1
    simp only [instrOk, Bool.and_eq_true, decide_eq_true_iff] at hok1
    obtain ⟨⟨⟨habs, hdst⟩, hdn⟩, hg⟩ := hok1
    have hd : ∀ t, i.dst = some t → t < a.tmps.size := by
      intro t ht; rw [ht] at hdn; simp at hdn; omega
    simp only [runOps] at hr
    -- How it goes on.
    have go : ∀ (s1 : St) (a1 : Act) (w1 : World) (r1 : Nat) (u1 : FrameMode), runOps (fun _ _ _ => .stuck) l s1 = .ok s' → Post ρ s.heap.next w a.tmps.size s1 a1 w1 → s1.rc = some r1 → ModeR r1 u1 →
        wpOpsS P ops QS (List.range' (k + 1) os.length) a1 ({ c0 with mode := u1 } :: cs) w1 := by
      intro s1 a1 w1 r1 u1 hrun hpost hr1 hu1
      obtain ⟨ρ', g, p, z⟩ := hpost.pre
      refine ops_wpS l os (k + 1) ρ' s1 a1 w1 r1 u1 p hr1 hu1 (by omega) hok.2 hos' s' hrun fun a' w' u' r' hpost' hr' hu' => hQ a' w' u' r' ?_ hr' hu'
      obtain ⟨ρ2, g2, e2, R2, d2, z2⟩ := hpost'
      exact ⟨ρ2, g.trans g2, e2, R2, d2, by omega⟩
    cases hw : wanted s.env i.guard with
    | none => simp [runInstr, hw] at hr
    | some b =>
      have hrw := wanted_sound hp.env hg hw
      rw [hrw]
      cases b with
      | false =>
        simp only [runInstr, hw] at hr
        simp only [Bool.false_eq_true, if_false]
        refine go _ _ _ r u hr ⟨ρ, Grow.refl _ _ _, ?_, hp.rel, by rw [hdst, put_defers]; exact hp.defs, by rw [hdst, put_size]⟩ hrc hu
        rw [hdst]; exact hp.env.put (v := .tup []) (undef_VR ρ) hd
      | true =>
        simp only [if_true]
        by_cases hrcv : effOp s.env s.heap i.op = .rcv
        · have heff := eff_sound (a := a) hp.rel hp.env (absOk_of habs (by intro e; rw [e] at hrcv; simp [effOp, newOp, pureOp] at hrcv))
          rw [hrcv] at heff
          rw [show (execOp a.eval o).run P w = .ok .recover w from heff]
          simp only [runInstr, hw, hrcv] at hr
          match r, hrc, hu with
          | 0, hrc, hu =>
            simp only [ModeR] at hu; subst hu
            simp only [hrc] at hr
            simp only [recoverD]
            refine go _ _ _ 0 .returning hr ⟨ρ, Grow.refl _ _ _, ?_, hp.rel, by rw [hdst, put_defers]; exact hp.defs, by rw [hdst, put_size]⟩ rfl rfl
            rw [hdst]; exact hp.env.put (v := .c .nilIface) rfl hd
          | 1, hrc, hu =>
            obtain ⟨t, x, rfl⟩ := hu
            simp only [hrc] at hr
            simp only [recoverD]
            refine go _ _ _ 2 _ hr ⟨ρ, Grow.refl _ _ _, ?_, hp.rel, by rw [hdst, put_defers]; exact hp.defs, by rw [hdst, put_size]⟩ rfl ⟨t, x, rfl⟩
            rw [hdst]; exact hp.env.put (v := .c .iface) ⟨t, x, rfl⟩ hd
          | 2, hrc, hu =>
            obtain ⟨t, x, rfl⟩ := hu
            simp only [hrc] at hr
            simp only [recoverD]
            refine go _ _ _ 2 _ hr ⟨ρ, Grow.refl _ _ _, ?_, hp.rel, by rw [hdst, put_defers]; exact hp.defs, by rw [hdst, put_size]⟩ rfl ⟨t, x, rfl⟩
            rw [hdst]; exact hp.env.put (v := .c .nilIface) rfl hd
          | r + 3, _, hu => exact hu.elim
        · -- Any other instruction: as in a frame that asks nothing.
          have hin := fun r0 h0 => instr_wp (P := P) (callf := fun _ _ _ => .stuck) stuck_sound (s := { s with rc := none }) ⟨hp.env, hp.rel, hp.defs⟩ rfl hnt hj hok.1 (Q := fun _ _ _ => False) r0 h0
          have hsame : ∀ s1, runInstr (fun _ _ _ => .stuck) i s = .ok s1 → runInstr (fun _ _ _ => .stuck) i { s with rc := none } = .ok { s1 with rc := none } ∧ s1.rc = some r := by
            intro s1 h1
            unfold runInstr at h1 ⊢
            simp only [hw] at h1 ⊢
            split at h1
            · rename_i hx; simp at h1; subst h1; simp [hx, hrc]
            · rename_i hx; simp at h1; subst h1; simp [hx, hrc]
            · simp at h1
            · rename_i hx; simp at h1; subst h1; simp [hx, hrc]
            · rename_i hx; exact absurd hx hrcv
            · simp at h1
            · simp at h1
          cases hri : runInstr (fun _ _ _ => .stuck) i s with
          | stuck => rw [hri] at hr; simp at hr
          | panic s1 => rw [hri] at hr; simp at hr
          | ok s1 =>
            rw [hri] at hr
            obtain ⟨e1, e2⟩ := hsame s1 hri
            have hop := hin _ e1 (fun a' w' => wpOpsS P ops QS (List.range' (k + 1) os.length) a' ({ c0 with mode := u } :: cs) w') fun a' w' hpost => go s1 a' w' r u hr hpost e2 hu
            unfold wpOp at hop
            simp only [hj, hrw, if_true] at hop
            rcases hop with hop | ⟨_, _, _, hout⟩
            · unfold Oper.wp at hop
              revert hop
              generalize (execOp a.eval o).run P w = res
              intro hop
              split
              · exact hop.elim
              · cases res with
                | ok nx w1 =>
                  cases nx <;> simp only [Oper.upon] at hop ⊢ <;>
                    first
                      | exact hop
                      | exact hop.elim
                      | exact Calls.mono hop fun e w2 he => by
                          cases e <;> first | exact he | exact he.elim | (obtain ⟨_, _, he⟩ := he; exact he.elim)
                | halt x w1 => cases x <;> simp only [Oper.upon] at hop ⊢ <;> exact hop.elim
            · exact hout.elim
  | [], _ :: _, _, _, _, _, _, _, _, _, _, _, _, hok, _, _, _, _ => by simp [opsOk] at hok
  | _ :: _, [], _, _, _, _, _, _, _, _, _, _, _, hok, _, _, _, _ => by simp [opsOk] at hok
end
end Go.Proofs.YtjlebgfbohihfaaGreat.Am
