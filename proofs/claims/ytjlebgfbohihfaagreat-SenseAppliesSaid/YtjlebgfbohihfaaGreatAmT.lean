/-
  Code and calls.
-/
import Derived.Test.YtjlebgfbohihfaaGreatAmS
namespace Go.Proofs.YtjlebgfbohihfaaGreat.Am
open Go
set_option linter.unusedVariables false
set_option linter.unusedSimpArgs false

/-! ### The code of a function, held against the model's -/
def codeOk (P : Program) (nt : Nat) : Code → ACode → Bool
  | c, .keep _ a => codeOk P nt c a
  | _, .bad => true
  | .skip, .skip => true
  | .label _, .label _ => true
  | .region _ ops false, .ops l => opsOk P nt ops ops.toList l
  | .region _ ops true, .dops l => dopsOk P nt ops l
  | .seq a b, .seq a' b' => codeOk P nt a a' && codeOk P nt b b'
  | .cond x a b, .cond x' a' b' => decide (absOpd x = some x') && codeOk P nt a a' && codeOk P nt b b'
  | .block id a, .block id' a' => Nat.beq id id' && codeOk P nt a a'
  | .loop a, .loop _ a' => codeOk P nt a a'
  | .scope a, .scope a' => codeOk P nt a a'
  | .scope a, .jscope l a' rest => codeOk P nt a a' && (match findLabel a l with | some r => codeOk P nt r rest | none => false)
  | .goto l, .goto l' => Nat.beq l l'
  | .exit id, .exit id' => Nat.beq id id'
  | .ret, .ret => true
  | _, _ => false

def toExit : AExit → Exit
  | .normal => .normal
  | .exit id => .exit id
  | .goto l => .goto l
  | .ret => .ret
def FinX (ρ0 : Ren) (n0 : Nat) (w0 : World) (sz : Nat) (r : XRes) (Q : Exit → Act → World → Prop) : Prop :=
  match r with
  | .ok e s' => ∀ a' w', Post ρ0 n0 w0 sz s' a' w' → Q (toExit e) a' w'
  | .panic s' => ∀ t x a' w', Post ρ0 n0 w0 sz s' a' w' → Q (.panic [{ v := .iface t x, recovered := false }]) a' w'
  | .stuck => False
theorem FinX.then {ρ0 ρ1 : Ren} {n0 n1 : Nat} {w0 w1 : World} {sz : Nat} {r : XRes} {Q : Exit → Act → World → Prop} (h : FinX ρ0 n0 w0 sz r Q) (hG : Grow ρ0 n0 w0 ρ1 n1 w1) : FinX ρ1 n1 w1 sz r Q := by
  unfold FinX at *
  split
  · exact fun a' w' ⟨ρ', g, p⟩ => h a' w' ⟨ρ', hG.trans g, p⟩
  · exact fun t x a' w' ⟨ρ', g, p⟩ => h t x a' w' ⟨ρ', hG.trans g, p⟩
  · exact h
theorem FinX.mono {ρ0 : Ren} {n0 : Nat} {w0 : World} {sz : Nat} {r : XRes} {Q Q' : Exit → Act → World → Prop} (h : FinX ρ0 n0 w0 sz r Q) (hq : ∀ e a w, Q e a w → Q' e a w) : FinX ρ0 n0 w0 sz r Q' := by
  unfold FinX at *
  split
  · exact fun a' w' p => hq _ _ _ (h a' w' p)
  · exact fun t x a' w' p => hq _ _ _ (h t x a' w' p)
  · exact h

/-! ### No frame of a call asks what panics -/
theorem runDIt_rc {callf : Nat → List AVal → Hp → CRes} {d : DIt} {s : St} (hrc : s.rc = none) :
    (∀ s', runDIt callf d s = .ok s' → s'.rc = none) ∧ (∀ s', runDIt callf d s = .panic s' → s'.rc = none) := by
  cases d with
  | op j i =>
    simp only [runDIt]
    constructor
    · intro s' h
      split at h
      · simp at h
      · simp at h; subst h; exact hrc
      · split at h <;> simp at h; subst h; exact hrc
    · intro s' h
      (repeat' split at h) <;> simp at h
  | flt j i re =>
    simp only [runDIt, Bool.cond_eq_ite]
    constructor
    · intro s' h
      split at h
      · split at h <;> simp at h; subst h; exact hrc
      · simp at h
    · intro s' h
      split at h
      · split at h <;> simp at h
      · simp at h
  | eff j i re =>
    simp only [runDIt, Bool.cond_eq_ite]
    constructor
    · intro s' h
      split at h
      · rename_i s1 h1
        split at h <;> simp at h; subst h; exact (runInstr_rc hrc).1 _ h1
      · exact (runInstr_rc hrc).1 _ h
    · intro s' h
      split at h
      · split at h <;> simp at h
      · exact (runInstr_rc hrc).2 _ h
theorem runDops_rc {callf : Nat → List AVal → Hp → CRes} {ts : List Nat} : ∀ {l : List DIt} {s : St}, s.rc = none →
    (∀ s', runDops callf ts l s = .ok s' → s'.rc = none) ∧ (∀ s', runDops callf ts l s = .panic s' → s'.rc = none)
  | [], s, hrc => by simp only [runDops]; exact ⟨fun s' h => by simp at h; subst h; exact hrc, fun s' h => by simp at h⟩
  | d :: l, s, hrc => by
    simp only [runDops]
    constructor
    · intro s' h
      split at h
      · rename_i s1 h1; exact (runDops_rc ((runDIt_rc hrc).1 _ h1)).1 _ h
      · simp at h
      · simp at h
    · intro s' h
      split at h
      · rename_i s1 h1; exact (runDops_rc ((runDIt_rc hrc).1 _ h1)).2 _ h
      · rename_i s1 h1; simp at h; subst h; exact (runDIt_rc hrc).2 s1 h1
      · simp at h
def rcOf : XRes → Prop
  | .ok _ s => s.rc = none
  | .panic s => s.rc = none
  | .stuck => True
theorem ofS_rc {r : SRes} (h : (∀ s', r = .ok s' → s'.rc = none) ∧ (∀ s', r = .panic s' → s'.rc = none)) : rcOf (.ofS r) := by
  cases r with
  | ok s => exact h.1 _ rfl
  | panic s => exact h.2 _ rfl
  | stuck => trivial
theorem exec_rc (T : Tab) : ∀ (n : Nat) (A : ACode) (s : St), s.rc = none → rcOf (exec T n A s)
  | 0, A, s, _ => trivial
  | n + 1, A, s, hrc => by
    rw [exec_succ]
    have ih := exec_rc T n
    cases A with
    | skip => exact hrc
    | label l => exact hrc
    | ret => exact hrc
    | goto l => exact hrc
    | exit id => exact hrc
    | ops l => exact ofS_rc (runOps_rc hrc)
    | dops l => exact ofS_rc (runDops_rc hrc)
    | seq a b =>
      simp only [execStep]
      have h1 := ih a s hrc
      split
      · rename_i s' h; rw [h] at h1; exact ih b s' h1
      · exact h1
    | cond x a b =>
      simp only [execStep]
      split
      · split
        · exact ih a s hrc
        · exact ih b s hrc
      · trivial
    | block id a =>
      simp only [execStep]
      have h1 := ih a s hrc
      split
      · rename_i h; rw [h] at h1; rw [Bool.cond_eq_ite]; split <;> exact h1
      · exact h1
    | loop kp a =>
      simp only [execStep]
      have h1 := ih a { s with env := s.env.prune kp } hrc
      split
      · rename_i s' h; rw [h] at h1; exact ih _ s' h1
      · exact h1
    | scope a =>
      simp only [execStep]
      have h1 := ih a s hrc
      split
      · trivial
      · exact h1
    | jscope l a rest =>
      simp only [execStep]
      have h1 := ih a s hrc
      split
      · rename_i s' h; rw [h] at h1; rw [Bool.cond_eq_ite]; split
        · exact ih _ s' h1
        · trivial
      · exact h1
    | keep l a => exact ih a _ hrc
    | bad => trivial

/-! ### Jumps -/
def jumps (P : Program) (l : Nat) (rest : Code) (Q : Exit → Act → World → Prop) : Nat → Code → Act → World → Prop
  | 0, _, _, _ => False
  | n + 1, x, a, w => x.wp P (fun e a w => match e with | .goto l' => l' = l ∧ jumps P l rest Q n rest a w | e => Q e a w) a w
theorem wp_scope_jumping {P : Program} {a : Act} {w : World} {Q : Exit → Act → World → Prop} {c rest : Code} {l : Nat} (hf : findLabel c l = some rest) (n : Nat) (h : jumps P l rest Q n c a w) :
    (Code.scope c).wp P Q a w := by
  intro b k cs
  have hg : gotoIn l (.inScope c :: k) = some (.code rest :: .inScope c :: k) := by simp [gotoIn, hf]
  have key : ∀ n x a w, jumps P l rest Q n x a w → ∃ e a' w', Q e a' w' ∧ Arrives P (lone (b.at a (.code x :: .inScope c :: k)) cs w) b k cs e a' w' := by
    intro n
    induction n with
    | zero => intro x a w h; exact h.elim
    | succ n ih =>
      intro x a w h
      obtain ⟨e, a₁, w₁, hq, harr⟩ := h b (.inScope c :: k) cs
      cases e with
      | normal => exact ⟨.normal, a₁, w₁, hq, Steps.trans harr (.one step_inScope)⟩
      | exit id => exact ⟨.exit id, a₁, w₁, hq, fun k' hk => harr k' (by simp [exitTo, hk])⟩
      | goto l' =>
        obtain ⟨rfl, hJ⟩ := hq
        obtain ⟨e₂, a₂, w₂, hq₂, harr₂⟩ := ih _ a₁ w₁ hJ
        exact ⟨e₂, a₂, w₂, hq₂, .of_steps (harr _ hg) harr₂⟩
      | ret => exact ⟨_, a₁, w₁, hq, harr⟩
      | panic ch => exact ⟨_, a₁, w₁, hq, harr⟩
      | outgrown => exact ⟨_, a₁, w₁, hq, harr⟩
  obtain ⟨e, a', w', hq, harr⟩ := key n c a w h
  exact ⟨e, a', w', hq, .of_steps (.one step_scope) harr⟩

/-! ### Code -/
theorem prune_get (e : Env) (t : Nat) : ∀ kp : List Nat, (e.prune kp).get t = if t ∈ kp then e.get t else .c .unk
  | [] => by simp [Env.prune, Env.get]
  | k :: kp => by
    have ih := prune_get e t kp
    simp only [Env.prune, List.map_cons, Env.get] at ih ⊢
    rw [nbeq, bif_decide, ih]
    by_cases h : k = t
    · subst h; simp
    · rw [if_neg h]
      by_cases h2 : t ∈ kp
      · rw [if_pos h2, if_pos (by simp [h2])]
      · rw [if_neg h2, if_neg (by simp [h2, Ne.symm h])]
theorem EnvR.prune {ρ : Ren} {e : Env} {tmps : Array Value} (h : EnvR ρ e tmps) (kp : List Nat) : EnvR ρ (e.prune kp) tmps := by
  intro t
  rw [prune_get]
  split
  · exact h t
  · trivial

section
variable {P : Program} {T : Tab}
def ES (P : Program) (T : Tab) (n : Nat) : Prop :=
  ∀ (nt : Nat) (c : Code) (A : ACode), codeOk P nt c A = true → ∀ (ρ : Ren) (s : St) (a : Act) (w : World), Pre ρ s a w → s.rc = none → nt ≤ a.tmps.size →
    ∀ (Q : Exit → Act → World → Prop), FinX ρ s.heap.next w a.tmps.size (exec T n A s) Q → c.wp P Q a w
/-- Loops and scopes with jumps, unrolled. -/
def LS (P : Program) (T : Tab) (n : Nat) : Prop :=
  ∀ (nt : Nat) (c : Code) (kp : List Nat) (A : ACode), codeOk P nt c A = true → ∀ (ρ : Ren) (s : St) (a : Act) (w : World), Pre ρ s a w → s.rc = none → nt ≤ a.tmps.size →
    ∀ (Q : Exit → Act → World → Prop), FinX ρ s.heap.next w a.tmps.size (exec T n (.loop kp A) s) Q → Code.rounds P c Q n a w
def JS (P : Program) (T : Tab) (n : Nat) : Prop :=
  ∀ (nt : Nat) (c rest : Code) (l : Nat) (A R : ACode), codeOk P nt c A = true → codeOk P nt rest R = true → ∀ (ρ : Ren) (s : St) (a : Act) (w : World), Pre ρ s a w → s.rc = none → nt ≤ a.tmps.size →
    ∀ (Q : Exit → Act → World → Prop), FinX ρ s.heap.next w a.tmps.size (exec T n (.jscope l A R) s) Q → jumps P l rest Q n c a w

theorem Post.pre {ρ : Ren} {n : Nat} {w : World} {sz : Nat} {s' : St} {a' : Act} {w' : World} (h : Post ρ n w sz s' a' w') : ∃ ρ', Grow ρ n w ρ' s'.heap.next w' ∧ Pre ρ' s' a' w' ∧ a'.tmps.size = sz :=
  let ⟨ρ', g, e, r, d, z⟩ := h; ⟨ρ', g, ⟨e, r, d⟩, z⟩

theorem LS.zero : LS P T 0 := fun _ _ _ _ _ _ _ _ _ _ _ _ _ h => h
theorem JS.zero : JS P T 0 := fun _ _ _ _ _ _ _ _ _ _ _ _ _ _ _ _ h => h
theorem ES.zero : ES P T 0 := fun _ _ _ _ _ _ _ _ _ _ _ _ h => h.elim
theorem LS.succ {n : Nat} (hE : ES P T n) (hL : LS P T n) : LS P T (n + 1) := by
  intro nt c kp A hok ρ s a w hp hrc hnt Q hQ
  rw [rounds_succ]
  rw [exec_succ] at hQ
  simp only [execStep] at hQ
  have hp' : Pre ρ { s with env := s.env.prune kp } a w := ⟨hp.env.prune kp, hp.rel, hp.defs⟩
  refine hE nt c A hok ρ _ a w hp' hrc hnt _ ?_
  have hr := exec_rc T n A { s with env := s.env.prune kp } hrc
  cases h : exec T n A { s with env := s.env.prune kp } with
  | stuck => rw [h] at hQ; exact hQ
  | panic s' => rw [h] at hQ; exact hQ
  | ok e s' =>
    rw [h] at hQ hr
    cases e with
    | normal =>
      intro a' w' hpost
      obtain ⟨ρ', g, p, z⟩ := hpost.pre
      exact hL nt c kp A hok ρ' s' a' w' p hr (by omega) Q (z ▸ hQ.then g)
    | exit id => exact hQ
    | goto l => exact hQ
    | ret => exact hQ
theorem JS.succ {n : Nat} (hE : ES P T n) (hJ : JS P T n) : JS P T (n + 1) := by
  intro nt c rest l A R hok hok' ρ s a w hp hrc hnt Q hQ
  rw [exec_succ] at hQ
  simp only [execStep] at hQ
  refine hE nt c A hok ρ s a w hp hrc hnt _ ?_
  have hr := exec_rc T n A s hrc
  cases h : exec T n A s with
  | stuck => rw [h] at hQ; exact hQ
  | panic s' => rw [h] at hQ; exact hQ
  | ok e s' =>
    rw [h] at hQ hr
    cases e with
    | normal => exact hQ
    | exit id => exact hQ
    | ret => exact hQ
    | goto j =>
      simp only at hQ
      rw [nbeq, bif_decide] at hQ
      split at hQ
      · rename_i hj
        intro a' w' hpost
        obtain ⟨ρ', g, p, z⟩ := hpost.pre
        exact ⟨hj, hJ nt rest rest l R R hok' hok' ρ' s' a' w' p hr (by omega) Q (z ▸ hQ.then g)⟩
      · exact hQ.elim

theorem ES.succ {n : Nat} (hm : P.follows .mixedOrders = true) (hC : CallSound P (callWith (exec T n) T)) (hE : ES P T n) (hL : LS P T (n + 1)) (hJ : JS P T (n + 1)) : ES P T (n + 1) := by
  intro nt c A hok ρ s a w hp hrc hnt Q hQ
  have hQ0 := hQ
  rw [exec_succ] at hQ
  cases A with
  | bad => exact hQ.elim
  | keep l A' =>
    have hok : codeOk P nt c A' = true := by cases c <;> exact hok
    simp only [execStep] at hQ
    exact hE nt c A' hok ρ { s with env := s.env.prune l } a w ⟨hp.env.prune l, hp.rel, hp.defs⟩ hrc hnt Q hQ
  | skip =>
    cases c <;> simp only [codeOk, Bool.false_eq_true] at hok
    exact wp_skip (hQ a w hp.post)
  | label l' =>
    cases c <;> simp only [codeOk, Bool.false_eq_true] at hok
    exact wp_label (hQ a w hp.post)
  | ret =>
    cases c <;> simp only [codeOk, Bool.false_eq_true] at hok
    exact wp_ret (hQ a w hp.post)
  | goto l =>
    cases c <;> simp only [codeOk, Bool.false_eq_true] at hok
    have := Nat.eq_of_beq_eq_true hok; subst this
    exact wp_goto (hQ a w hp.post)
  | exit id =>
    cases c <;> simp only [codeOk, Bool.false_eq_true] at hok
    have := Nat.eq_of_beq_eq_true hok; subst this
    exact wp_exit (hQ a w hp.post)
  | ops l =>
    cases c with
    | region id ops d =>
      cases d with
      | true => simp [codeOk] at hok
      | false =>
        simp only [codeOk] at hok
        simp only [execStep] at hQ
        have h1 := ops_wp (Q := Q) hC l ops.toList 0 ρ s a w hp hrc hnt hok (fun j o hj => by simpa using hj) _ rfl
        refine wp_region ?_
        rw [show ops.toList.length = ops.size from by simp] at h1
        rw [List.range_eq_range']
        cases hr : runOps (callWith (exec T n) T) l s with
        | ok s' => rw [hr] at h1 hQ; exact h1 hQ
        | panic s' => rw [hr] at h1 hQ; exact h1 hQ
        | stuck => rw [hr] at hQ; exact hQ.elim
    | _ => simp [codeOk] at hok
  | dops l =>
    cases c with
    | region id ops d =>
      cases d with
      | false => simp [codeOk] at hok
      | true =>
        simp only [codeOk] at hok
        simp only [execStep] at hQ
        refine dops_wp hC hm hok hp hrc hnt rfl ?_
        cases hr : runDops (callWith (exec T n) T) (l.filterMap fun d => d.instr.dst) l s with
        | ok s' => rw [hr] at hQ; exact hQ
        | panic s' => rw [hr] at hQ; exact hQ
        | stuck => rw [hr] at hQ; exact hQ.elim
    | _ => simp [codeOk] at hok
  | seq A B =>
    cases c <;> simp only [codeOk, Bool.false_eq_true] at hok
    rename_i x y
    simp only [Bool.and_eq_true] at hok
    simp only [execStep] at hQ
    refine wp_seq (hE nt x A hok.1 ρ s a w hp hrc hnt _ ?_)
    have hr := exec_rc T n A s hrc
    cases h : exec T n A s with
    | stuck => rw [h] at hQ; exact hQ
    | panic s' => rw [h] at hQ; exact hQ
    | ok e s' =>
      rw [h] at hQ hr
      cases e with
      | normal =>
        intro a' w' hpost
        obtain ⟨ρ', g, p, z⟩ := hpost.pre
        exact hE nt y B hok.2 ρ' s' a' w' p hr (by omega) Q (z ▸ hQ.then g)
      | exit id => exact hQ
      | goto l => exact hQ
      | ret => exact hQ
  | cond x A B =>
    cases c <;> simp only [codeOk, Bool.false_eq_true] at hok
    rename_i x' c1 c2
    simp only [Bool.and_eq_true, decide_eq_true_iff] at hok
    simp only [execStep] at hQ
    split at hQ
    · rename_i t ht
      have hv := ev_VR hp.env hok.1.1
      rw [ht] at hv
      refine wp_cond hv.bool ?_
      cases t with
      | true => exact hE nt c1 A hok.1.2 ρ s a w hp hrc hnt Q hQ
      | false => exact hE nt c2 B hok.2 ρ s a w hp hrc hnt Q hQ
    · exact hQ.elim
  | block id A =>
    cases c <;> simp only [codeOk, Bool.false_eq_true] at hok
    rename_i id' x
    simp only [Bool.and_eq_true] at hok
    have := Nat.eq_of_beq_eq_true hok.1; subst this
    simp only [execStep] at hQ
    refine wp_block (hE nt x A hok.2 ρ s a w hp hrc hnt _ ?_)
    cases h : exec T n A s with
    | stuck => rw [h] at hQ; exact hQ
    | panic s' => rw [h] at hQ; exact hQ
    | ok e s' =>
      rw [h] at hQ
      cases e with
      | normal => exact hQ
      | goto l => exact hQ
      | ret => exact hQ
      | exit j =>
        simp only at hQ
        rw [nbeq, bif_decide] at hQ
        split at hQ
        · rename_i hj
          intro a' w' hpost
          simp only [toExit, Exit.inBlock, hj, if_true]
          exact hQ a' w' hpost
        · rename_i hj
          intro a' w' hpost
          simp only [toExit, Exit.inBlock, hj, if_false]
          exact hQ a' w' hpost
  | loop kp A =>
    cases c <;> simp only [codeOk, Bool.false_eq_true] at hok
    exact wp_loop_rounds (n + 1) (hL nt _ kp A hok ρ s a w hp hrc hnt Q hQ0)
  | scope A =>
    cases c <;> simp only [codeOk, Bool.false_eq_true] at hok
    simp only [execStep] at hQ
    refine wp_scope_straight (hE nt _ A hok ρ s a w hp hrc hnt _ ?_)
    cases h : exec T n A s with
    | stuck => rw [h] at hQ; exact hQ
    | panic s' => rw [h] at hQ; exact hQ
    | ok e s' =>
      rw [h] at hQ
      cases e with
      | normal => exact hQ
      | exit id => exact hQ
      | ret => exact hQ
      | goto l => exact hQ.elim
  | jscope l A R =>
    cases c <;> simp only [codeOk, Bool.false_eq_true] at hok
    rename_i x
    simp only [Bool.and_eq_true] at hok
    obtain ⟨h1, h2⟩ := hok
    split at h2
    · rename_i r hr
      exact wp_scope_jumping hr (n + 1) (hJ nt x r l A R h1 h2 ρ s a w hp hrc hnt Q hQ0)
    · simp at h2
end
end Go.Proofs.YtjlebgfbohihfaaGreat.Am
