/-
  Walking abstract code: what is still to be done lies in a list, and only its head is looked at.
-/
import Derived.Test.YtjlebgfbohihfaaGreatAmX
namespace Go.Proofs.YtjlebgfbohihfaaGreat.Am
open Go
set_option linter.unusedVariables false
set_option linter.unusedSimpArgs false

inductive KI where
  | code (c : ACode)
  | ops (l : List AInstr)
  | dops (ts : List Nat) (l : List DIt)
  | blk (id : Nat)
  | scp
  | chk (re : List AInstr)

section
variable (T : Tab) (Q : AExit → St → Prop)
def wpK : List KI → AExit → St → Prop
  | [], e, s => Q e s
  | .code c :: k, .normal, s => wpA T c s (wpK k)
  | .ops l :: k, .normal, s => wpO T l s (wpK k .normal)
  | .dops ts l :: k, .normal, s => wpD T ts l s (wpK k .normal)
  | .blk id :: k, .exit j, s => if j = id then wpK k .normal s else wpK k (.exit j) s
  | .scp :: _, .goto _, _ => False
  | .chk re :: k, .normal, s => stillAll s re = true ∧ wpK k .normal s
  | _ :: k, e, s => wpK k e s
end
section
variable {T : Tab} {Q : AExit → St → Prop} {k : List KI} {s : St} {e : Env} {h : Hp} {df : List Cell} {rc : Option Nat}
theorem k_nil {x : AExit} : wpK T Q [] x s = Q x s := rfl
theorem k_skip : wpK T Q (.code .skip :: k) .normal s ↔ wpK T Q k .normal s := by
  refine ⟨fun ⟨n, e, s', h1, h2⟩ => ?_, fun h => wpA_skip h⟩
  cases n with
  | zero => cases h1
  | succ n => rw [exec_succ] at h1; simp only [execStep] at h1; cases h1; exact h2
theorem k_label {l : Nat} : wpK T Q (.code (.label l) :: k) .normal s ↔ wpK T Q k .normal s := by
  refine ⟨fun ⟨n, e, s', h1, h2⟩ => ?_, fun h => wpA_label h⟩
  cases n with
  | zero => cases h1
  | succ n => rw [exec_succ] at h1; simp only [execStep] at h1; cases h1; exact h2
theorem k_ret : wpK T Q (.code .ret :: k) .normal s ↔ wpK T Q k .ret s := by
  refine ⟨fun ⟨n, e, s', h1, h2⟩ => ?_, fun h => wpA_ret h⟩
  cases n with
  | zero => cases h1
  | succ n => rw [exec_succ] at h1; simp only [execStep] at h1; cases h1; exact h2
theorem k_exit {id : Nat} : wpK T Q (.code (.exit id) :: k) .normal s ↔ wpK T Q k (.exit id) s := by
  refine ⟨fun ⟨n, e, s', h1, h2⟩ => ?_, fun h => wpA_exit h⟩
  cases n with
  | zero => cases h1
  | succ n => rw [exec_succ] at h1; simp only [execStep] at h1; cases h1; exact h2
theorem k_goto {id : Nat} : wpK T Q (.code (.goto id) :: k) .normal s ↔ wpK T Q k (.goto id) s := by
  refine ⟨fun ⟨n, e, s', h1, h2⟩ => ?_, fun h => wpA_goto h⟩
  cases n with
  | zero => cases h1
  | succ n => rw [exec_succ] at h1; simp only [execStep] at h1; cases h1; exact h2
theorem k_keep {l : List Nat} {a : ACode} : wpK T Q (.code (.keep l a) :: k) .normal ⟨e, h, df, rc⟩ ↔ wpK T Q (.code a :: k) .normal ⟨e.prune l, h, df, rc⟩ := by
  refine ⟨fun ⟨n, e, s', h1, h2⟩ => ?_, fun h => wpA_keep h⟩
  cases n with
  | zero => cases h1
  | succ n => rw [exec_succ] at h1; exact ⟨n, e, s', h1, h2⟩
theorem k_seq {a b : ACode} : wpK T Q (.code (.seq a b) :: k) .normal s ↔ wpK T Q (.code a :: .code b :: k) .normal s := by
  constructor
  · rintro ⟨n, e, s', h1, h2⟩
    cases n with
    | zero => cases h1
    | succ n =>
      rw [exec_succ] at h1
      simp only [execStep] at h1
      cases ha : exec T n a s with
      | stuck => rw [ha] at h1; cases h1
      | panic s1 => rw [ha] at h1; cases h1
      | ok e1 s1 =>
        rw [ha] at h1
        refine ⟨n, e1, s1, ha, ?_⟩
        cases e1 with
        | normal => exact ⟨n, e, s', h1, h2⟩
        | _ => cases h1; exact h2
  · rintro ⟨n, e, s', h1, h2⟩
    refine wpA_seq ⟨n, e, s', h1, ?_⟩
    cases e <;> exact h2
theorem k_ops {l : List AInstr} : wpK T Q (.code (.ops l) :: k) .normal s ↔ wpK T Q (.ops l :: k) .normal s := by
  constructor
  · rintro ⟨n, e, s', h1, h2⟩
    cases n with
    | zero => cases h1
    | succ n =>
      rw [exec_succ] at h1
      simp only [execStep] at h1
      cases ha : runOps (callWith (exec T n) T) l s with
      | stuck => rw [ha] at h1; cases h1
      | panic s1 => rw [ha] at h1; cases h1
      | ok s1 => rw [ha] at h1; cases h1; exact ⟨n, _, ha, h2⟩
  · exact fun h => wpA_ops h
theorem k_dops {l : List DIt} : wpK T Q (.code (.dops l) :: k) .normal s ↔ wpK T Q (.dops [] l :: k) .normal s := by
  have any : ∀ (ts ts' : List Nat) (cf : Nat → List AVal → Hp → CRes) (l : List DIt) (s s' : St), runDops cf ts l s = .ok s' → runDops cf ts' l s = .ok s' := by
    intro ts ts' cf l
    induction l with
    | nil => intro s s' h; exact h
    | cons d l ih =>
      intro s s' h
      simp only [runDops] at h ⊢
      split at h
      · exact ih _ _ h
      · cases h
      · cases h
  constructor
  · rintro ⟨n, e, s', h1, h2⟩
    cases n with
    | zero => cases h1
    | succ n =>
      rw [exec_succ] at h1
      simp only [execStep] at h1
      cases ha : runDops (callWith (exec T n) T) (l.filterMap fun d => d.instr.dst) l s with
      | stuck => rw [ha] at h1; cases h1
      | panic s1 => rw [ha] at h1; cases h1
      | ok s1 => rw [ha] at h1; cases h1; exact ⟨n, _, any _ _ _ _ _ _ ha, h2⟩
  · rintro ⟨n, s', h1, h2⟩
    exact wpA_dops ⟨n, s', any _ _ _ _ _ _ h1, h2⟩
theorem k_cond {x : Opd} {a b : ACode} : wpK T Q (.code (.cond x a b) :: k) .normal ⟨e, h, df, rc⟩ ↔
    (match ev e x with | .c (.bool t) => if t then wpK T Q (.code a :: k) .normal ⟨e, h, df, rc⟩ else wpK T Q (.code b :: k) .normal ⟨e, h, df, rc⟩ | _ => False) := by
  constructor
  · rintro ⟨n, e1, s', h1, h2⟩
    cases n with
    | zero => cases h1
    | succ n =>
      rw [exec_succ] at h1
      simp only [execStep] at h1
      split at h1
      · rename_i t ht
        rw [ht]
        simp only
        cases t with
        | true => exact ⟨n, e1, s', h1, h2⟩
        | false => exact ⟨n, e1, s', h1, h2⟩
      · cases h1
  · intro h1
    split at h1
    · rename_i t ht
      refine wpA_cond ht (fun e => ?_) (fun e => ?_)
      · subst e; exact h1
      · subst e; exact h1
    · exact h1.elim
theorem k_block {id : Nat} {a : ACode} : wpK T Q (.code (.block id a) :: k) .normal s ↔ wpK T Q (.code a :: .blk id :: k) .normal s := by
  constructor
  · rintro ⟨n, e, s', h1, h2⟩
    cases n with
    | zero => cases h1
    | succ n =>
      rw [exec_succ] at h1
      simp only [execStep] at h1
      cases ha : exec T n a s with
      | stuck => rw [ha] at h1; cases h1
      | panic s1 => rw [ha] at h1; cases h1
      | ok e1 s1 =>
        rw [ha] at h1
        refine ⟨n, e1, s1, ha, ?_⟩
        cases e1 with
        | exit j =>
          simp only at h1
          rw [nbeq, bif_decide] at h1
          simp only [wpK]
          split at h1
          · rename_i hj; rw [if_pos hj]; cases h1; exact h2
          · rename_i hj; rw [if_neg hj]; cases h1; exact h2
        | _ => cases h1; exact h2
  · rintro ⟨n, e, s', h1, h2⟩
    refine wpA_block ⟨n, e, s', h1, ?_⟩
    cases e <;> exact h2
theorem k_blk {id : Nat} : wpK T Q (.blk id :: k) .normal s = wpK T Q k .normal s := rfl
theorem k_blk_exit {id j : Nat} : wpK T Q (.blk id :: k) (.exit j) s = if j = id then wpK T Q k .normal s else wpK T Q k (.exit j) s := rfl
theorem k_blk_ret {id : Nat} : wpK T Q (.blk id :: k) .ret s = wpK T Q k .ret s := rfl
theorem k_code_exit {c : ACode} {j : Nat} : wpK T Q (.code c :: k) (.exit j) s = wpK T Q k (.exit j) s := rfl
theorem k_code_ret {c : ACode} : wpK T Q (.code c :: k) .ret s = wpK T Q k .ret s := rfl
/-- One more round of a loop. -/
theorem k_loop {kp : List Nat} {a : ACode} (h1 : wpK T Q (.code a :: .code (.loop kp a) :: k) .normal ⟨e.prune kp, h, df, rc⟩) : wpK T Q (.code (.loop kp a) :: k) .normal ⟨e, h, df, rc⟩ := by
  obtain ⟨n, e1, s', h1, h2⟩ := h1
  refine wpA_loop ⟨n, e1, s', h1, ?_⟩
  cases e1 <;> exact h2
theorem k_scope {a : ACode} : wpK T Q (.code (.scope a) :: k) .normal s ↔ wpK T Q (.code a :: .scp :: k) .normal s := by
  constructor
  · rintro ⟨n, e, s', h1, h2⟩
    cases n with
    | zero => cases h1
    | succ n =>
      rw [exec_succ] at h1
      simp only [execStep] at h1
      cases ha : exec T n a s with
      | stuck => rw [ha] at h1; cases h1
      | panic s1 => rw [ha] at h1; cases h1
      | ok e1 s1 =>
        rw [ha] at h1
        cases e1 <;> cases h1 <;> exact ⟨n, _, _, ha, h2⟩
  · rintro ⟨n, e, s', h1, h2⟩
    refine wpA_scope ⟨n, e, s', h1, ?_⟩
    cases e <;> exact h2
theorem k_scp : wpK T Q (.scp :: k) .normal s = wpK T Q k .normal s := rfl
theorem k_scp_exit {j : Nat} : wpK T Q (.scp :: k) (.exit j) s = wpK T Q k (.exit j) s := rfl
theorem k_scp_ret : wpK T Q (.scp :: k) .ret s = wpK T Q k .ret s := rfl
theorem k_ops_nil : wpK T Q (.ops [] :: k) .normal s ↔ wpK T Q k .normal s :=
  ⟨fun ⟨_, _, h1, h2⟩ => by simp only [runOps] at h1; cases h1; exact h2, fun h => wpO_nil h⟩
theorem k_dops_nil {ts : List Nat} : wpK T Q (.dops ts [] :: k) .normal s ↔ wpK T Q k .normal s :=
  ⟨fun ⟨_, _, h1, h2⟩ => by simp only [runDops] at h1; cases h1; exact h2, fun h => wpD_nil h⟩
theorem no_call {op : AOp} (hc : isCall op = false) (e : Env) (h : Hp) (f : Nat) (args : List AVal) : effOp e h op ≠ .call f args := by
  cases op <;> simp [isCall] at hc <;> simp only [effOp, Bool.cond_eq_ite] <;> (repeat' split) <;> simp
theorem instr_any {i : AInstr} (hc : isCall i.op = false) (cf cf' : Nat → List AVal → Hp → CRes) (s : St) : runInstr cf i s = runInstr cf' i s := by
  unfold runInstr
  split
  · rfl
  · rfl
  · split
    · rfl
    · rfl
    · rename_i he; exact absurd he (no_call hc _ _ _ _)
    all_goals rfl
theorem k_instr {i : AInstr} {l : List AInstr} (hc : isCall i.op = false) : wpK T Q (.ops (i :: l) :: k) .normal s ↔
    (match runInstr (fun _ _ _ => .stuck) i s with | .ok s1 => wpK T Q (.ops l :: k) .normal s1 | _ => False) := by
  constructor
  · rintro ⟨n, s', h1, h2⟩
    simp only [runOps] at h1
    rw [instr_any hc _ (fun _ _ _ => .stuck)] at h1
    split at h1
    · rename_i s1 hs; rw [hs]; exact ⟨n, s', h1, h2⟩
    · cases h1
    · cases h1
  · intro h1
    split at h1
    · rename_i s1 hs; exact wpO_cons hs h1
    · exact h1.elim
/-- An instruction with nothing ahead to ask. -/
theorem k_o {d : Nat} {op : AOp} {l : List AInstr} (hc : isCall op = false) :
    wpK T Q (.ops (o d op :: l) :: k) .normal ⟨e, h, df, none⟩ ↔
    (match effOp e h op with
      | .val v h' => wpK T Q (.ops l :: k) .normal ⟨(d, v) :: e, h', df, none⟩
      | .skip h' => wpK T Q (.ops l :: k) .normal ⟨(d, .c .unk) :: e, h', df, none⟩
      | .dfr c => wpK T Q (.ops l :: k) .normal ⟨(d, .c .unk) :: e, h, c :: df, none⟩
      | _ => False) := by
  rw [k_instr hc]
  unfold runInstr
  simp only [o, wanted]
  split <;> rename_i h1 <;> simp only [Env.put] at h1 ⊢
  all_goals (split at h1 <;> first | (cases h1; simp_all; done) | simp_all | skip)
theorem k_e {op : AOp} {l : List AInstr} (hc : isCall op = false) :
    wpK T Q (.ops (Am.e op :: l) :: k) .normal ⟨e, h, df, none⟩ ↔
    (match effOp e h op with
      | .val _ h' => wpK T Q (.ops l :: k) .normal ⟨e, h', df, none⟩
      | .skip h' => wpK T Q (.ops l :: k) .normal ⟨e, h', df, none⟩
      | .dfr c => wpK T Q (.ops l :: k) .normal ⟨e, h, c :: df, none⟩
      | _ => False) := by
  rw [k_instr hc]
  unfold runInstr
  simp only [Am.e, wanted]
  split <;> rename_i h1 <;> simp only [Env.put] at h1 ⊢
  all_goals (split at h1 <;> first | (cases h1; simp_all; done) | simp_all | skip)
theorem k_g {d : Nat} {op : AOp} {g : Nat × Bool} {l : List AInstr} (hc : isCall op = false) :
    wpK T Q (.ops (⟨some d, op, some g⟩ :: l) :: k) .normal ⟨e, h, df, none⟩ ↔
    (match wanted e (some g) with
      | some true => wpK T Q (.ops (o d op :: l) :: k) .normal ⟨e, h, df, none⟩
      | some false => wpK T Q (.ops l :: k) .normal ⟨(d, .tup []) :: e, h, df, none⟩
      | none => False) := by
  rw [k_instr hc]
  unfold runInstr
  simp only
  cases hw : wanted e (some g) with
  | none => simp
  | some b =>
    cases b with
    | false => simp [Env.put]
    | true =>
      simp only
      rw [k_instr (show isCall (o d op).op = false from hc)]
      rfl
theorem k_call {d : Nat} {f : Nat} {args : List Opd} {l : List AInstr} {rc : Option Nat} (h1 : wpC T f (args.map (ev e)) h fun v h' => wpK T Q (.ops l :: k) .normal ⟨(d, v) :: e, h', df, rc⟩) :
    wpK T Q (.ops (o d (.call f args) :: l) :: k) .normal ⟨e, h, df, rc⟩ := wpO_call rfl rfl h1
theorem k_callg {d : Nat} {g : Nat × Bool} {f : Nat} {args : List Opd} {l : List AInstr} {rc : Option Nat} (hg : wanted e (some g) = some true) (h1 : wpC T f (args.map (ev e)) h fun v h' => wpK T Q (.ops l :: k) .normal ⟨(d, v) :: e, h', df, rc⟩) :
    wpK T Q (.ops (⟨some d, .call f args, some g⟩ :: l) :: k) .normal ⟨e, h, df, rc⟩ := wpO_call hg rfl h1
theorem k_callg_not {d : Nat} {g : Nat × Bool} {op : AOp} {l : List AInstr} {rc : Option Nat} (hg : wanted e (some g) = some false) (h1 : wpK T Q (.ops l :: k) .normal ⟨(d, .tup []) :: e, h, df, rc⟩) :
    wpK T Q (.ops (⟨some d, op, some g⟩ :: l) :: k) .normal ⟨e, h, df, rc⟩ := by
  obtain ⟨n, s', h2, h3⟩ := h1
  refine ⟨n, s', ?_, h3⟩
  simp only [runOps, runInstr, hg, Env.put]
  exact h2
theorem k_deff {ts : List Nat} {j : Nat} {i : AInstr} {re : List AInstr} {l : List DIt} : wpK T Q (.dops ts (.eff j i re :: l) :: k) .normal s ↔ wpK T Q (.ops [i] :: .chk re :: .dops ts l :: k) .normal s := by
  constructor
  · rintro ⟨n, s', h1, h2⟩
    simp only [runDops, runDIt] at h1
    cases hr : runInstr (callN T n) i s with
    | stuck => rw [hr] at h1; simp at h1
    | panic s1 => rw [hr] at h1; simp at h1
    | ok s1 =>
      rw [hr] at h1
      simp only [Bool.cond_eq_ite] at h1
      by_cases hre : stillAll s1 re = true
      · simp only [hre, if_true] at h1
        exact ⟨n, s1, by simp only [runOps, hr], hre, n, s', h1, h2⟩
      · simp [hre] at h1
  · rintro ⟨n, s1, h1, hre, m, s', h2, h3⟩
    simp only [runOps] at h1
    have hr : runInstr (callN T n) i s = .ok s1 := by
      revert h1
      cases runInstr (callN T n) i s <;> simp
    have hr' : runInstr (callN T (max n m)) i s = .ok s1 := by
      rcases runInstr_le (cf := callN T n) (cf' := callN T (max n m)) (fun f args hp => callN_mono T (Nat.le_max_left n m) f args hp) i s with h | h
      · rw [hr] at h; cases h
      · rw [← h]; exact hr
    refine ⟨max n m, s', ?_, h3⟩
    simp only [runDops, runDIt, hr', hre, cond_true]
    exact runDops_up (Nat.le_max_right n m) h2
theorem k_chk_nil : wpK T Q (.chk [] :: k) .normal s ↔ wpK T Q k .normal s := by simp [wpK, stillAll]
theorem k_chk {re : List AInstr} : wpK T Q (.chk re :: k) .normal s ↔ stillAll s re = true ∧ wpK T Q k .normal s := Iff.rfl
theorem k_code {f : Nat} {fn : AFun} {args : List AVal} {R : AVal → Hp → Prop} (hf : T f = some (.code fn)) (hn : args.length = fn.np)
    (hw : wpK T (fun x s => (x = .normal ∨ x = .ret) ∧ s.defs = [] ∧ ∃ v, retOf s.env s.heap fn.res = some v ∧ R v s.heap) [.code fn.code] .normal { env := params 0 args, heap := h, defs := [], rc := none }) : wpC T f args h R :=
  wpC_code hf hn hw
end
end Go.Proofs.YtjlebgfbohihfaaGreat.Am
