/-
  More fuel changes nothing; what a piece of code and a call come to, without fuel.
-/
import Derived.Test.YtjlebgfbohihfaaGreatAmW
namespace Go.Proofs.YtjlebgfbohihfaaGreat.Am
open Go
set_option linter.unusedVariables false
set_option linter.unusedSimpArgs false

def LeX (r r' : XRes) : Prop := r = .stuck ∨ r = r'
def LeS (r r' : SRes) : Prop := r = .stuck ∨ r = r'
def LeC (r r' : CRes) : Prop := r = .stuck ∨ r = r'
def LeO {α : Type} (r r' : Option α) : Prop := r = none ∨ r = r'

theorem le_match {α : Type} {K : XRes → Option α} (hK : K .stuck = none) {r r' : XRes} (h : LeX r r') : LeO (K r) (K r') := by
  rcases h with h | h
  · rw [h]; exact .inl hK
  · rw [h]; exact .inr rfl
section
variable {cf cf' : Nat → List AVal → Hp → CRes} (hc : ∀ f args h, LeC (cf f args h) (cf' f args h))
include hc
theorem runInstr_le (i : AInstr) (s : St) : LeS (runInstr cf i s) (runInstr cf' i s) := by
  unfold runInstr
  split
  · exact .inl rfl
  · exact .inr rfl
  · split
    · exact .inr rfl
    · exact .inr rfl
    · rename_i f args _
      rcases hc f args s.heap with h | h
      · rw [h]; exact .inl rfl
      · rw [h]; exact .inr rfl
    all_goals exact .inr rfl
theorem runOps_le : ∀ (l : List AInstr) (s : St), LeS (runOps cf l s) (runOps cf' l s)
  | [], s => .inr rfl
  | i :: l, s => by
    simp only [runOps]
    rcases runInstr_le hc i s with h | h
    · rw [h]; exact .inl rfl
    · rw [h]
      split
      · exact runOps_le l _
      · exact .inr rfl
      · exact .inr rfl
theorem runDIt_le (d : DIt) (s : St) : LeS (runDIt cf d s) (runDIt cf' d s) := by
  cases d with
  | op j i => exact .inr rfl
  | flt j i re => exact .inr rfl
  | eff j i re =>
    simp only [runDIt]
    rcases runInstr_le hc i s with h | h
    · rw [h]; exact .inl rfl
    · rw [h]; exact .inr rfl
theorem runDops_le (ts : List Nat) : ∀ (l : List DIt) (s : St), LeS (runDops cf ts l s) (runDops cf' ts l s)
  | [], s => .inr rfl
  | d :: l, s => by
    simp only [runDops]
    rcases runDIt_le hc d s with h | h
    · rw [h]; exact .inl rfl
    · rw [h]
      split
      · exact runDops_le ts l _
      · exact .inr rfl
      · exact .inr rfl
end
section
variable {ex ex' : ACode → St → XRes} (hx : ∀ c s, LeX (ex c s) (ex' c s)) (T : Tab)
include hx
theorem runDefer_le (c : Cell) (rc : Nat) (h : Hp) : LeO (runDefer ex T c rc h) (runDefer ex' T c rc h) := by
  unfold runDefer
  split
  · split
    · simp only
      split
      · split
        · rename_i s1 _
          split
          · rename_i r e s hr he
            rcases hx (by assumption) { s1 with rc := none } with h1 | h1
            · rw [h1] at he; cases he
            · rw [← h1, he, hr]; exact .inr rfl
          · exact .inl rfl
        · exact .inl rfl
      · refine le_match (K := fun r => match r with
          | .ok e s => match s.defs, leave _ e s s.heap with | [], some _ => some (s.heap, rc) | _, _ => none
          | _ => none) rfl (hx _ _)
    · exact .inl rfl
  · exact .inl rfl
theorem runDefers_le : ∀ (ds : List Cell) (rc : Nat) (h : Hp), LeO (runDefers ex T ds rc h) (runDefers ex' T ds rc h)
  | [], _, _ => .inr rfl
  | d :: ds, rc, h => by
    simp only [runDefers]
    rcases runDefer_le hx T d rc h with h1 | h1
    · rw [h1]; exact .inl rfl
    · rw [h1]
      split
      · exact runDefers_le ds _ _
      · exact .inl rfl
theorem finish_le (fn : AFun) (e : AExit) (s : St) (rc : Nat) : LeC (finish ex T fn e s rc) (finish ex' T fn e s rc) := by
  unfold finish
  rcases runDefers_le hx T s.defs rc s.heap with h1 | h1
  · rw [h1]; exact .inl rfl
  · rw [h1]; exact .inr rfl
theorem callWith_le (f : Nat) (args : List AVal) (h : Hp) : LeC (callWith ex T f args h) (callWith ex' T f args h) := by
  unfold callWith
  split
  · rename_i fn _
    rw [Bool.cond_eq_ite, Bool.cond_eq_ite]
    split
    · rcases hx fn.code { env := params 0 args, heap := h, defs := [], rc := none } with h1 | h1
      · rw [h1]; exact .inl rfl
      · rw [← h1]
        split
        · exact finish_le hx T _ _ _ _
        · exact finish_le hx T _ _ _ _
        · exact .inl rfl
    · exact .inl rfl
  · exact .inr rfl
  · exact .inl rfl
theorem execStep_le (c : ACode) (s : St) : LeX (execStep ex T c s) (execStep ex' T c s) := by
  have ofS : ∀ {r r' : SRes}, LeS r r' → LeX (.ofS r) (.ofS r') := fun h => by
    rcases h with h | h
    · rw [h]; exact .inl rfl
    · rw [h]; exact .inr rfl
  cases c with
  | ops l => exact ofS (runOps_le (callWith_le hx T) l s)
  | dops l => exact ofS (runDops_le (callWith_le hx T) _ l s)
  | seq a b =>
    simp only [execStep]
    rcases hx a s with h | h
    · rw [h]; exact .inl rfl
    · rw [← h]
      split
      · exact hx b _
      · exact .inr rfl
  | cond x a b =>
    simp only [execStep]
    split
    · split
      · exact hx a s
      · exact hx b s
    · exact .inl rfl
  | block id a =>
    simp only [execStep]
    rcases hx a s with h | h
    · rw [h]; exact .inl rfl
    · rw [← h]; exact .inr rfl
  | loop kp a =>
    simp only [execStep]
    rcases hx a { s with env := s.env.prune kp } with h | h
    · rw [h]; exact .inl rfl
    · rw [← h]
      split
      · exact hx _ _
      · exact .inr rfl
  | scope a =>
    simp only [execStep]
    rcases hx a s with h | h
    · rw [h]; exact .inl rfl
    · rw [← h]; exact .inr rfl
  | jscope l a r =>
    simp only [execStep]
    rcases hx a s with h | h
    · rw [h]; exact .inl rfl
    · rw [← h]
      split
      · rw [Bool.cond_eq_ite, Bool.cond_eq_ite]
        split
        · exact hx _ _
        · exact .inl rfl
      · exact .inr rfl
  | keep l a => exact hx a _
  | _ => exact .inr rfl
end
theorem exec_le (T : Tab) : ∀ (n : Nat) (c : ACode) (s : St), LeX (exec T n c s) (exec T (n + 1) c s)
  | 0, c, s => .inl rfl
  | n + 1, c, s => by rw [exec_succ, exec_succ T (n + 1)]; exact execStep_le (exec_le T n) T c s
theorem LeX.trans {a b c : XRes} (h : LeX a b) (h' : LeX b c) : LeX a c := by
  rcases h with h | h
  · exact .inl h
  · rw [h]; exact h'
theorem exec_mono (T : Tab) {n m : Nat} (h : n ≤ m) (c : ACode) (s : St) : LeX (exec T n c s) (exec T m c s) := by
  induction h with
  | refl => exact .inr rfl
  | step _ ih => exact ih.trans (exec_le T _ c s)
theorem callN_mono (T : Tab) {n m : Nat} (h : n ≤ m) (f : Nat) (args : List AVal) (hp : Hp) : LeC (callN T n f args hp) (callN T m f args hp) :=
  callWith_le (exec_mono T h) T f args hp

/-! ### Without fuel -/
section
variable (T : Tab)
def wpA (c : ACode) (s : St) (Q : AExit → St → Prop) : Prop := ∃ n e s', exec T n c s = .ok e s' ∧ Q e s'
def wpO (l : List AInstr) (s : St) (Q : St → Prop) : Prop := ∃ n s', runOps (callN T n) l s = .ok s' ∧ Q s'
def wpD (ts : List Nat) (l : List DIt) (s : St) (Q : St → Prop) : Prop := ∃ n s', runDops (callN T n) ts l s = .ok s' ∧ Q s'
def wpC (f : Nat) (args : List AVal) (h : Hp) (Q : AVal → Hp → Prop) : Prop := ∃ n v h', callN T n f args h = .ok v h' ∧ Q v h'
variable {T}
theorem exec_up {n m : Nat} (h : n ≤ m) {c : ACode} {s : St} {e : AExit} {s' : St} (he : exec T n c s = .ok e s') : exec T m c s = .ok e s' := by
  rcases exec_mono T h c s with h1 | h1
  · rw [h1] at he; cases he
  · rw [← h1]; exact he
theorem callN_up {n m : Nat} (h : n ≤ m) {f : Nat} {args : List AVal} {hp : Hp} {v : AVal} {h' : Hp} (he : callN T n f args hp = .ok v h') : callN T m f args hp = .ok v h' := by
  rcases callN_mono T h f args hp with h1 | h1
  · rw [h1] at he; cases he
  · rw [← h1]; exact he
theorem runOps_up {n m : Nat} (h : n ≤ m) {l : List AInstr} {s s' : St} (he : runOps (callN T n) l s = .ok s') : runOps (callN T m) l s = .ok s' := by
  rcases runOps_le (fun f args hp => callN_mono T h f args hp) l s with h1 | h1
  · rw [h1] at he; cases he
  · rw [← h1]; exact he
theorem runDops_up {n m : Nat} (h : n ≤ m) {ts : List Nat} {l : List DIt} {s s' : St} (he : runDops (callN T n) ts l s = .ok s') : runDops (callN T m) ts l s = .ok s' := by
  rcases runDops_le (fun f args hp => callN_mono T h f args hp) ts l s with h1 | h1
  · rw [h1] at he; cases he
  · rw [← h1]; exact he

theorem wpA.mono {c : ACode} {s : St} {Q Q' : AExit → St → Prop} (h : wpA T c s Q) (hq : ∀ e s, Q e s → Q' e s) : wpA T c s Q' :=
  let ⟨n, e, s', h1, h2⟩ := h; ⟨n, e, s', h1, hq _ _ h2⟩
theorem wpC.mono {f : Nat} {args : List AVal} {h : Hp} {Q Q' : AVal → Hp → Prop} (hc : wpC T f args h Q) (hq : ∀ v h, Q v h → Q' v h) : wpC T f args h Q' :=
  let ⟨n, v, h', h1, h2⟩ := hc; ⟨n, v, h', h1, hq _ _ h2⟩
theorem wpA_skip {s : St} {Q : AExit → St → Prop} (h : Q .normal s) : wpA T .skip s Q := ⟨1, _, _, rfl, h⟩
theorem wpA_label {l : Nat} {s : St} {Q : AExit → St → Prop} (h : Q .normal s) : wpA T (.label l) s Q := ⟨1, _, _, rfl, h⟩
theorem wpA_ret {s : St} {Q : AExit → St → Prop} (h : Q .ret s) : wpA T .ret s Q := ⟨1, _, _, rfl, h⟩
theorem wpA_exit {id : Nat} {s : St} {Q : AExit → St → Prop} (h : Q (.exit id) s) : wpA T (.exit id) s Q := ⟨1, _, _, rfl, h⟩
theorem wpA_goto {l : Nat} {s : St} {Q : AExit → St → Prop} (h : Q (.goto l) s) : wpA T (.goto l) s Q := ⟨1, _, _, rfl, h⟩
theorem wpA_keep {l : List Nat} {a : ACode} {s : St} {Q : AExit → St → Prop} (h : wpA T a { s with env := s.env.prune l } Q) : wpA T (.keep l a) s Q :=
  let ⟨n, e, s', h1, h2⟩ := h; ⟨n + 1, e, s', h1, h2⟩
theorem wpA_ops {l : List AInstr} {s : St} {Q : AExit → St → Prop} (h : wpO T l s (Q .normal)) : wpA T (.ops l) s Q :=
  let ⟨n, s', h1, h2⟩ := h; ⟨n + 1, .normal, s', by rw [exec_succ]; simp only [execStep]; rw [show runOps (callWith (exec T n) T) l s = .ok s' from h1]; rfl, h2⟩
theorem wpA_dops {l : List DIt} {s : St} {Q : AExit → St → Prop} (h : wpD T (l.filterMap fun d => d.instr.dst) l s (Q .normal)) : wpA T (.dops l) s Q :=
  let ⟨n, s', h1, h2⟩ := h; ⟨n + 1, .normal, s', by rw [exec_succ]; simp only [execStep]; rw [show runDops (callWith (exec T n) T) _ l s = .ok s' from h1]; rfl, h2⟩
def thn (K : St → Prop) (Q : AExit → St → Prop) : AExit → St → Prop
  | .normal, s => K s
  | e, s => Q e s
theorem wpA_seq {a b : ACode} {s : St} {Q : AExit → St → Prop} (h : wpA T a s (thn (fun s' => wpA T b s' Q) Q)) : wpA T (.seq a b) s Q := by
  obtain ⟨n, e, s', h1, h2⟩ := h
  cases e with
  | normal =>
    obtain ⟨m, e2, s2, h3, h4⟩ := h2
    refine ⟨max n m + 1, e2, s2, ?_, h4⟩
    rw [exec_succ]
    simp only [execStep]
    rw [exec_up (Nat.le_max_left n m) h1]
    exact exec_up (Nat.le_max_right n m) h3
  | _ => exact ⟨n + 1, _, s', by rw [exec_succ]; simp only [execStep]; rw [h1], h2⟩
theorem wpA_cond {x : Opd} {a b : ACode} {s : St} {Q : AExit → St → Prop} {t : Bool} (hx : ev s.env x = .c (.bool t)) (h1 : t = true → wpA T a s Q) (h2 : t = false → wpA T b s Q) : wpA T (.cond x a b) s Q := by
  cases t with
  | true =>
    obtain ⟨n, e, s', h3, h4⟩ := h1 rfl
    exact ⟨n + 1, e, s', by rw [exec_succ]; simp only [execStep, hx, if_true]; exact h3, h4⟩
  | false =>
    obtain ⟨n, e, s', h3, h4⟩ := h2 rfl
    exact ⟨n + 1, e, s', by rw [exec_succ]; simp only [execStep, hx, Bool.false_eq_true, if_false]; exact h3, h4⟩
def blk (id : Nat) (Q : AExit → St → Prop) : AExit → St → Prop
  | .exit j, s => if j = id then Q .normal s else Q (.exit j) s
  | e, s => Q e s
theorem wpA_block {id : Nat} {a : ACode} {s : St} {Q : AExit → St → Prop} (h : wpA T a s (blk id Q)) : wpA T (.block id a) s Q := by
  obtain ⟨n, e, s', h1, h2⟩ := h
  cases e with
  | exit j =>
    simp only [blk] at h2
    by_cases hj : j = id
    · rw [if_pos hj] at h2
      exact ⟨n + 1, .normal, s', by rw [exec_succ]; simp only [execStep]; rw [h1]; simp [hj], h2⟩
    · rw [if_neg hj] at h2
      exact ⟨n + 1, .exit j, s', by rw [exec_succ]; simp only [execStep]; rw [h1]; simp [nbeq, hj], h2⟩
  | _ => exact ⟨n + 1, _, s', by rw [exec_succ]; simp only [execStep]; rw [h1], h2⟩
theorem wpA_loop {kp : List Nat} {a : ACode} {s : St} {Q : AExit → St → Prop} (h : wpA T a { s with env := s.env.prune kp } (thn (fun s' => wpA T (.loop kp a) s' Q) Q)) : wpA T (.loop kp a) s Q := by
  obtain ⟨n, e, s', h1, h2⟩ := h
  cases e with
  | normal =>
    obtain ⟨m, e2, s2, h3, h4⟩ := h2
    refine ⟨max n m + 1, e2, s2, ?_, h4⟩
    rw [exec_succ]
    simp only [execStep]
    rw [exec_up (Nat.le_max_left n m) h1]
    exact exec_up (Nat.le_max_right n m) h3
  | _ => exact ⟨n + 1, _, s', by rw [exec_succ]; simp only [execStep]; rw [h1], h2⟩
theorem wpA_scope {a : ACode} {s : St} {Q : AExit → St → Prop} (h : wpA T a s (fun e s => match e with | .goto _ => False | e => Q e s)) : wpA T (.scope a) s Q := by
  obtain ⟨n, e, s', h1, h2⟩ := h
  cases e with
  | goto l => exact h2.elim
  | _ => exact ⟨n + 1, _, s', by rw [exec_succ]; simp only [execStep]; rw [h1], h2⟩
theorem wpA_jscope {l : Nat} {a r : ACode} {s : St} {Q : AExit → St → Prop} (h : wpA T a s (fun e s => match e with | .goto j => j = l ∧ wpA T (.jscope l r r) s Q | e => Q e s)) : wpA T (.jscope l a r) s Q := by
  obtain ⟨n, e, s', h1, h2⟩ := h
  cases e with
  | goto j =>
    obtain ⟨hj, m, e2, s2, h3, h4⟩ := h2
    refine ⟨max n m + 1, e2, s2, ?_, h4⟩
    rw [exec_succ]
    simp only [execStep]
    rw [exec_up (Nat.le_max_left n m) h1]
    simp only [nbeq, hj, decide_true, cond_true]
    exact exec_up (Nat.le_max_right n m) h3
  | _ => exact ⟨n + 1, _, s', by rw [exec_succ]; simp only [execStep]; rw [h1], h2⟩

/-! Instructions -/
def isCall : AOp → Bool
  | .call .. | .callv .. => true
  | _ => false
theorem wpO_nil {s : St} {Q : St → Prop} (h : Q s) : wpO T [] s Q := ⟨0, s, rfl, h⟩
/-- Where no call is made: what the instruction comes to, by reckoning. -/
theorem wpO_cons {i : AInstr} {l : List AInstr} {s s1 : St} {Q : St → Prop} (h1 : runInstr (fun _ _ _ => .stuck) i s = .ok s1) (h : wpO T l s1 Q) : wpO T (i :: l) s Q := by
  obtain ⟨n, s', h2, h3⟩ := h
  refine ⟨n, s', ?_, h3⟩
  simp only [runOps]
  rcases runInstr_le (cf := fun _ _ _ => .stuck) (cf' := callN T n) (fun _ _ _ => .inl rfl) i s with h4 | h4
  · rw [h1] at h4; cases h4
  · rw [← h4, h1]; exact h2
theorem wpO_call {i : AInstr} {l : List AInstr} {s : St} {Q : St → Prop} {f : Nat} {args : List AVal} (hw : wanted s.env i.guard = some true) (he : effOp s.env s.heap i.op = .call f args)
    (h : wpC T f args s.heap fun v h' => wpO T l { s with env := s.env.put i.dst v, heap := h' } Q) : wpO T (i :: l) s Q := by
  obtain ⟨n, v, h', h1, m, s', h2, h3⟩ := h
  refine ⟨max n m, s', ?_, h3⟩
  simp only [runOps, runInstr, hw, he, callN_up (Nat.le_max_left n m) h1]
  exact runOps_up (Nat.le_max_right n m) h2
theorem wpD_nil {ts : List Nat} {s : St} {Q : St → Prop} (h : Q s) : wpD T ts [] s Q := ⟨0, s, rfl, h⟩
theorem wpD_cons {ts : List Nat} {d : DIt} {l : List DIt} {s s1 : St} {Q : St → Prop} (h1 : runDIt (fun _ _ _ => .stuck) d s = .ok s1) (h : wpD T ts l s1 Q) : wpD T ts (d :: l) s Q := by
  obtain ⟨n, s', h2, h3⟩ := h
  refine ⟨n, s', ?_, h3⟩
  simp only [runDops]
  rcases runDIt_le (cf := fun _ _ _ => .stuck) (cf' := callN T n) (fun _ _ _ => .inl rfl) d s with h4 | h4
  · rw [h1] at h4; cases h4
  · rw [← h4, h1]; exact h2
theorem wpD_call {ts : List Nat} {j : Nat} {i : AInstr} {re : List AInstr} {l : List DIt} {s : St} {Q : St → Prop} {f : Nat} {args : List AVal} (hw : wanted s.env i.guard = some true) (he : effOp s.env s.heap i.op = .call f args)
    (h : wpC T f args s.heap fun v h' => stillAll { s with env := s.env.put i.dst v, heap := h' } re = true ∧ wpD T ts l { s with env := s.env.put i.dst v, heap := h' } Q) : wpD T ts (.eff j i re :: l) s Q := by
  obtain ⟨n, v, h', h1, hre, m, s', h2, h3⟩ := h
  refine ⟨max n m, s', ?_, h3⟩
  simp only [runDops, runDIt, runInstr, hw, he, callN_up (Nat.le_max_left n m) h1, hre, cond_true]
  exact runDops_up (Nat.le_max_right n m) h2

/-- A call of a function of the table that defers nothing. -/
theorem wpC_code {f : Nat} {fn : AFun} {args : List AVal} {h : Hp} {Q : AVal → Hp → Prop} (hf : T f = some (.code fn)) (hn : args.length = fn.np)
    (hw : wpA T fn.code { env := params 0 args, heap := h, defs := [], rc := none } fun e s => (e = .normal ∨ e = .ret) ∧ s.defs = [] ∧ ∃ v, retOf s.env s.heap fn.res = some v ∧ Q v s.heap) : wpC T f args h Q := by
  obtain ⟨n, e, s, h1, he, hd, v, hv, hq⟩ := hw
  refine ⟨n, v, s.heap, ?_, hq⟩
  unfold callN callWith
  simp only [hf, hn, Nat.beq_refl, cond_true, h1, finish, hd, runDefers]
  rcases he with rfl | rfl <;> simp only [leave, hv]
theorem wpC_spec {f : Nat} {g : List AVal → Hp → Option (AVal × Hp)} {args : List AVal} {h h' : Hp} {v : AVal} {Q : AVal → Hp → Prop} (hf : T f = some (.spec g)) (hg : g args h = some (v, h')) (hq : Q v h') : wpC T f args h Q :=
  ⟨0, v, h', by unfold callN callWith; simp only [hf, hg], hq⟩
theorem wpC_of {f n : Nat} {args : List AVal} {h h' : Hp} {v : AVal} {Q : AVal → Hp → Prop} (he : callN T n f args h = .ok v h') (hq : Q v h') : wpC T f args h Q := ⟨n, v, h', he, hq⟩
end
end Go.Proofs.YtjlebgfbohihfaaGreat.Am
