/-
  A range over slices.Backward: what it comes to.
-/
import Derived.Test.YtjlebgfbohihfaaGreatAmZ
namespace Go.Proofs.YtjlebgfbohihfaaGreat.Am
open Go
set_option linter.unusedVariables false
set_option linter.unusedSimpArgs false

/-- The k-th element (one cell) of the slice that a box holds. -/
def elemAt (h : Hp) (b o k : Nat) : Option Cell :=
  match h.get b with
  | some (.cells cs _) => match cs[o]? with
    | some (.slice sb so len _ 1) => if k < len then (match h.get sb with
      | some (.cells ds _) => ds[so + k * 1]?
      | _ => none) else none
    | _ => none
  | _ => none
def lenAt (h : Hp) (b o : Nat) : Option Nat :=
  match h.get b with
  | some (.cells cs _) => match cs[o]? with
    | some c => lenCell c
    | _ => none
  | _ => none
/-- The rounds that are left: from the k-th element ahead; behind them: whether a round has returned. -/
def backRounds (e : Env) (p q b o : Nat) (asg bd : ACode) : Nat → Hp → Option (Bool × Hp)
  | 0, h => some (false, h)
  | k + 1, h => match elemAt h b o k with
    | some c => match run1 asg { env := (e.put (some p) (.c (.int .i64 k))).put (some q) (.c c), heap := h, defs := [], rc := none } with
      | .ok .normal s1 => match run1 bd s1 with
        | .ok .normal s2 => match s2.defs with
          | [] => backRounds e p q b o asg bd k s2.heap
          | _ => none
        | .ok .ret s2 => match s2.defs with
          | [] => some (true, s2.heap)
          | _ => none
        | _ => none
      | _ => none
    | none => none
/-- A function that is: pre, a range over slices.Backward (its closure: function bf, in temporary t), rest. -/
structure BackF where
  np : Nat
  pre : ACode
  pre2 : ACode
  t : Nat
  bf : Nat
  p : Nat
  q : Nat
  asg : ACode
  bd : ACode
  rest : ACode
  res : List ARet
def backTail (T : Tab) (N : Nat) (F : BackF) (s : St) : Option (AVal × Hp) :=
  match s.env.get F.t with
  | .c (.fn bf [] [(b, o)]) => bif Nat.beq bf F.bf then (match lenAt s.heap b o with
    | some len => bif Nat.ble len 140737488355328 then (match backRounds s.env F.p F.q b o F.asg F.bd len s.heap with
      | some (true, h') => (retOf s.env h' F.res).map fun v => (v, h')
      | some (false, h') => match exec T N F.rest { env := s.env, heap := h', defs := [], rc := none } with
        | .ok e s' => match s'.defs, e with
          | [], .ret => (retOf s'.env s'.heap F.res).map fun v => (v, s'.heap)
          | _, _ => none
        | _ => none
      | none => none) else none
    | none => none) else none
  | _ => none
def backRun (T : Tab) (N : Nat) (F : BackF) (args : List AVal) (h : Hp) : Option (AVal × Hp) :=
  match exec T N F.pre { env := params 0 args, heap := h, defs := [], rc := none } with
  | .ok .normal s1 => match exec T N F.pre2 s1 with
    | .ok .normal s => match s.defs with
      | [] => backTail T N F s
      | _ => none
    | _ => none
  | _ => none

/-! ### Deferred calls that lie below are no matter -/
def St.plus (s : St) (ds : List Cell) : St := { s with defs := s.defs ++ ds }
def SRes.plus (r : SRes) (ds : List Cell) : SRes :=
  match r with
  | .ok s => .ok (s.plus ds)
  | .panic s => .panic (s.plus ds)
  | .stuck => .stuck
def XRes.plus (r : XRes) (ds : List Cell) : XRes :=
  match r with
  | .ok e s => .ok e (s.plus ds)
  | .panic s => .panic (s.plus ds)
  | .stuck => .stuck
section
variable {callf : Nat → List AVal → Hp → CRes} {ds : List Cell}
theorem runInstr_plus (i : AInstr) (s : St) : runInstr callf i (s.plus ds) = (runInstr callf i s).plus ds := by
  unfold runInstr
  simp only [St.plus]
  cases wanted s.env i.guard with
  | none => rfl
  | some b =>
    cases b with
    | false => rfl
    | true =>
      simp only
      cases effOp s.env s.heap i.op with
      | val v h => rfl
      | skip h => rfl
      | call f args => simp only; cases callf f args s.heap <;> rfl
      | dfr c => rfl
      | rcv => simp only; split <;> rfl
      | pan => rfl
      | stuck => rfl
theorem runOps_plus : ∀ (l : List AInstr) (s : St), runOps callf l (s.plus ds) = (runOps callf l s).plus ds
  | [], s => rfl
  | i :: l, s => by
    simp only [runOps, runInstr_plus]
    cases runInstr callf i s with
    | ok s' => exact runOps_plus l s'
    | panic s' => rfl
    | stuck => rfl
theorem stillAll_plus : ∀ (l : List AInstr) (s : St), stillAll (s.plus ds) l = stillAll s l
  | [], s => rfl
  | r :: l, s => by simp only [stillAll, stillAll_plus l s]; rfl
theorem runDIt_plus (d : DIt) (s : St) : runDIt callf d (s.plus ds) = (runDIt callf d s).plus ds := by
  cases d with
  | op j i =>
    simp only [runDIt, St.plus]
    cases wanted s.env i.guard with
    | none => rfl
    | some b =>
      cases b with
      | false => rfl
      | true => simp only; cases pureOp s.env s.heap i.op <;> rfl
  | flt j i re =>
    simp only [runDIt]
    show (match newOp s.env i.op with | some (o, v) => _ | none => _) = _
    cases newOp s.env i.op with
    | none => rfl
    | some p =>
      obtain ⟨o, v⟩ := p
      simp only
      have := stillAll_plus (ds := ds) re { s with env := s.env.put i.dst (v s.heap.next), heap := s.heap.alloc o }
      simp only [St.plus] at this ⊢
      rw [this]
      cases stillAll { s with env := s.env.put i.dst (v s.heap.next), heap := s.heap.alloc o } re <;> rfl
  | eff j i re =>
    simp only [runDIt, runInstr_plus]
    cases runInstr callf i s with
    | ok s' => simp only [SRes.plus, stillAll_plus]; cases stillAll s' re <;> rfl
    | panic s' => rfl
    | stuck => rfl
theorem runDops_plus (ts : List Nat) : ∀ (l : List DIt) (s : St), runDops callf ts l (s.plus ds) = (runDops callf ts l s).plus ds
  | [], s => rfl
  | d :: l, s => by
    simp only [runDops, runDIt_plus]
    cases runDIt callf d s with
    | ok s' => exact runDops_plus ts l s'
    | panic s' => rfl
    | stuck => rfl
end
theorem ofS_plus (r : SRes) (ds : List Cell) : XRes.ofS (r.plus ds) = (XRes.ofS r).plus ds := by cases r <;> rfl
theorem exec_plus (T : Tab) (ds : List Cell) : ∀ (n : Nat) (A : ACode) (s : St), exec T n A (s.plus ds) = (exec T n A s).plus ds
  | 0, A, s => rfl
  | n + 1, A, s => by
    have ih := exec_plus T ds n
    rw [exec_succ, exec_succ]
    cases A with
    | skip => rfl
    | label l => rfl
    | ret => rfl
    | goto l => rfl
    | exit id => rfl
    | bad => rfl
    | ops l => simp only [execStep, runOps_plus, ofS_plus]
    | dops l => simp only [execStep, runDops_plus, ofS_plus]
    | keep l a => exact ih a { s with env := s.env.prune l }
    | seq a b =>
      simp only [execStep, ih]
      cases exec T n a s with
      | ok e s' => cases e <;> first | exact ih b s' | rfl
      | panic s' => rfl
      | stuck => rfl
    | cond x a b =>
      simp only [execStep]
      show (match ev s.env x with | .c (.bool t) => if t = true then exec T n a (s.plus ds) else exec T n b (s.plus ds) | _ => .stuck) = _
      rw [ih, ih]
      generalize ev s.env x = v
      cases v with
      | c y =>
        cases y with
        | bool t => cases t <;> rfl
        | _ => rfl
      | agg _ => rfl
      | tup _ => rfl
    | block id a =>
      simp only [execStep, ih]
      cases exec T n a s with
      | ok e s' => cases e <;> try rfl
                   rename_i j; simp only [XRes.plus]; cases Nat.beq j id <;> rfl
      | panic s' => rfl
      | stuck => rfl
    | loop kp a =>
      simp only [execStep]
      have := ih a { s with env := s.env.prune kp }
      simp only [St.plus] at this ⊢
      rw [this]
      cases exec T n a { s with env := s.env.prune kp } with
      | ok e s' => cases e <;> first | exact ih (.loop kp a) s' | rfl
      | panic s' => rfl
      | stuck => rfl
    | scope a =>
      simp only [execStep, ih]
      cases exec T n a s with
      | ok e s' => cases e <;> rfl
      | panic s' => rfl
      | stuck => rfl
    | jscope l a rest =>
      simp only [execStep, ih]
      cases exec T n a s with
      | ok e s' =>
        cases e <;> try rfl
        rename_i j
        simp only [XRes.plus]
        cases Nat.beq j l with
        | true => exact ih _ s'
        | false => rfl
      | panic s' => rfl
      | stuck => rfl
end Go.Proofs.YtjlebgfbohihfaaGreat.Am
