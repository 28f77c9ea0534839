/-
  A range over slices.Backward: the closure's contract.
-/
import Derived.Test.YtjlebgfbohihfaaGreatAmZ2
import Derived.Test.YtjlebgfbohihfaaGreatAmY2
import Derived.LoopNIn
namespace Go.Proofs.YtjlebgfbohihfaaGreat.Am
open Go
set_option linter.unusedVariables false
set_option linter.unusedSimpArgs false

section
variable {P : Program}
theorem Rel.lay {ρ : Ren} {h : Hp} {w : World} {l : Nat} {ob : Obj} (hR : Rel ρ h w.heap) (hl : ∀ b r, ρ b = some r → r.blk ≠ l) : Rel ρ h (w.putObj l ob).heap :=
  ⟨fun b r hb => ⟨(hR.lt b r hb).1, by simpa using (hR.lt b r hb).2⟩, hR.inj, fun b r o hb ho => (hR.ob b r o hb ho).mono (Ren.le.refl ρ) (World.putObj_heap_other (hl b r hb))⟩
theorem Grow.put {ρ ρ' : Ren} {n n' : Nat} {w w' : World} (h : Grow ρ n w ρ' n' w') {l : Nat} {ob : Obj} (hl : w.heap.size ≤ l) : Grow ρ n w ρ' n' (w'.putObj l ob) where
  le := h.le
  size := by simpa using h.size
  new := h.new
  frame := fun i hi hb => (World.putObj_heap_other (by omega)).trans (h.frame i hi hb)
  tape := h.tape
  os := h.os
  output := h.output
  nx := h.nx
  fresh := h.fresh
theorem Grow.laid {ρ : Ren} {n : Nat} (w : World) (ob : Obj) : Grow ρ n w ρ n (w.alloc ob) where
  le := Ren.le.refl _
  size := by simp
  new := fun b r h => .inl ⟨b, r, h, rfl⟩
  frame := fun i hi _ => by
    show (w.heap.push ob)[i]? = w.heap[i]?
    rw [Array.getElem?_push]
    split
    · omega
    · rfl
  tape := rfl
  os := rfl
  output := rfl
  nx := Nat.le_refl _
  fresh := fun _ _ h => .inl h

/-- The loop's record and the block for its deferred calls lie beside all that the abstract heap knows. -/
structure BInv (ρ1 : Ren) (n1 : Nat) (W0 : World) (D l : Nat) (r : Loop) (ρ : Ren) (h : Hp) (w : World) : Prop where
  grow : Grow ρ1 n1 W0 ρ h.next w
  rel : Rel ρ h w.heap
  hD : W0.heap.size ≤ D
  hl : D < l
  lt : l < w.heap.size
  off : ∀ b q, ρ b = some q → q.blk ≠ D ∧ q.blk ≠ l
  dfr : w.heap[D]? = some (.deferred (some []))
  loop : w.heap[l]? = some (.loop r)
section
variable {ρ1 ρ ρ' : Ren} {n1 D l : Nat} {W0 w w' : World} {r : Loop} {h h' : Hp}
theorem BInv.step (i : BInv ρ1 n1 W0 D l r ρ h w) (g : Grow ρ h.next w ρ' h'.next w') (R : Rel ρ' h' w'.heap) : BInv ρ1 n1 W0 D l r ρ' h' w' where
  grow := i.grow.trans g
  rel := R
  hD := i.hD
  hl := i.hl
  lt := Nat.lt_of_lt_of_le i.lt g.size
  off := fun b q hb => by
    have h1 := i.lt
    have h2 := i.hl
    rcases g.new b q hb with ⟨b0, r0, h0, e⟩ | hge
    · rw [← e]; exact i.off b0 r0 h0
    · exact ⟨by omega, by omega⟩
  dfr := (g.frame D (Nat.lt_trans i.hl i.lt) fun b q hb => (i.off b q hb).1).trans i.dfr
  loop := (g.frame l i.lt fun b q hb => (i.off b q hb).2).trans i.loop
theorem BInv.put (i : BInv ρ1 n1 W0 D l r ρ h w) (r' : Loop) : BInv ρ1 n1 W0 D l r' ρ h (w.putObj l (.loop r')) where
  grow := i.grow.put (Nat.le_trans i.hD (Nat.le_of_lt i.hl))
  rel := i.rel.lay fun b q hb => (i.off b q hb).2
  hD := i.hD
  hl := i.hl
  lt := by simpa using i.lt
  off := i.off
  dfr := (World.putObj_heap_other (Nat.ne_of_lt i.hl)).trans i.dfr
  loop := World.putObj_heap_same i.lt
end

/-! ### The closure of slices.Backward -/
def LA : List AInstr := [o 4 (.ld (.t 1)),o 5 (.len 1 (.t 4)),o 6 (.bin 0 .sub (.t 5) (ki 1)),o 3 (.mv (.t 6))]
def LB : ACode := .seq (.ops [o 7 (.mv (.t 3)),o 8 (.bin 0 .geq (.t 7) (ki 0))]) (.cond (.t 8) .skip (.exit 0))
def LC : List AInstr := [o 11 (.mv (.t 0)),o 12 (.mv (.t 3)),o 13 (.ld (.t 1)),o 14 (.mv (.t 3)),o 15 (.ixa 1 (.t 13) (.t 14)),o 16 (.ld (.t 15))]
def LD : List AInstr := [o 18 (.un .not (.t 17))]
def LE : ACode := .ops [o 9 (.mv (.t 3)),o 10 (.bin 0 .sub (.t 9) (ki 1)),o 3 (.mv (.t 10))]
def LCond : ACode := .cond (.t 18) .ret .skip
def yieldOk (oc : Oper) : Bool :=
  match oc with
  | ⟨some 17, .call ⟨.value x, xs, _⟩, _, _, _, none⟩ => decide (absOpd x = some (.t 11)) && decide (absOpds xs.toList = some [.t 12, .t 16])
  | _ => false
def backOk (P : Program) (F : Func) : Bool :=
  !(F.name == "runtime.NumGoroutine") && Nat.ble 19 F.ntmps && F.results.isEmpty && match F.body with
  | some (.seq cA (.block 0 (.loop (.seq cB (.seq (.block 1 (.seq (.region _ ops false) cC)) cD))))) =>
    codeOk P F.ntmps cA (.ops LA) && codeOk P F.ntmps cB LB && opsOk P F.ntmps ops (ops.toList.take 6) LC && (match ops[6]? with | some oc => yieldOk oc | none => false) &&
      opsOk P F.ntmps ops (ops.toList.drop 7) LD && codeOk P F.ntmps cC LCond && codeOk P F.ntmps cD LE
  | _ => false

theorem yield_sem {ρ : Ren} {e : Env} {a : Act} (hE : EnvR ρ e a.tmps) {oc : Oper} (ho : yieldOk oc = true) {l : Nat} (hy : e.get 11 = .c (.yl l)) :
    oc.dst = some 17 ∧ oc.guard = none ∧ (∀ c, oc.op ≠ .defer c) ∧ ∃ u v : Value, execOp a.eval oc = Instr.yield l #[u, v] ∧ VR ρ (e.get 12) u ∧ VR ρ (e.get 16) v := by
  unfold yieldOk at ho
  split at ho
  · rename_i x xs ats type pos after
    simp only [Bool.and_eq_true, decide_eq_true_iff] at ho
    have hx := ev_VR hE ho.1
    simp only [ev, hy] at hx
    have hx : a.eval x = .func (.yield l) #[] #[] := hx
    have hargs := absOpds_VR hE ho.2
    refine ⟨rfl, rfl, by simp, ?_⟩
    match hv : xs.toList, hargs with
    | [p, q], hh =>
      obtain ⟨h1, h2, _⟩ := hh
      have hxs : xs = #[p, q] := by rw [← Array.toArray_toList (xs := xs), hv]
      subst hxs
      refine ⟨a.eval p, a.eval q, ?_, h1, h2⟩
      simp [execOp, resolve, hx, Deferred.ofValue, invoke]
  · simp at ho

def EL (l b o : Nat) (i : Int) : Env := [(0, .c (.yl l)), (1, .c (.ptr b o)), (3, .c (.int .i64 i))]
theorem EL_of {ρ : Ren} {e : Env} {tmps : Array Value} (h : EnvR ρ e tmps) {l b o : Nat} {i : Int} (h0 : e.get 0 = .c (.yl l)) (h1 : e.get 1 = .c (.ptr b o)) (h3 : e.get 3 = .c (.int .i64 i)) : EnvR ρ (EL l b o i) tmps := by
  have := h.prune [0, 1, 3]
  simp only [Env.prune, List.map_cons, List.map_nil, h0, h1, h3] at this
  exact this
theorem LA_run {l b o len : Nat} {h : Hp} (hl : lenAt h b o = some len) (hlen : len ≤ 140737488355328) :
    ∃ s', run1 (.ops LA) { env := params 0 [.c (.yl l), .c (.ptr b o)], heap := h, defs := [], rc := none } = .ok .normal s' ∧ s'.heap = h ∧ s'.defs = [] ∧ s'.env.get 0 = .c (.yl l) ∧ s'.env.get 1 = .c (.ptr b o) ∧ s'.env.get 3 = .c (.int .i64 ((len : Int) - 1)) := by
  unfold lenAt at hl
  split at hl
  · rename_i cs x hb
    split at hl
    · rename_i c hc
      have hw : IntKind.i64.wrap ((len : Int) - 1) = (len : Int) - 1 := wrap_i64 (by omega) (by omega)
      cases c with
      | nilslice =>
        simp only [lenCell, Option.some.injEq] at hl; subst hl
        refine ⟨_, by simp [run1, LA, calm, Am.o, ki, runOps, runInstr, wanted, effOp, newOp, pureOp, ev, Env.get, Env.put, params, hb, hc, binCell, isShift, intBin]; rfl, rfl, rfl, ?_⟩
        simp [Env.get]
      | slice sb so n cap z =>
        simp only [lenCell, Option.some.injEq] at hl; subst hl
        refine ⟨_, by simp [run1, LA, calm, Am.o, ki, runOps, runInstr, wanted, effOp, newOp, pureOp, ev, Env.get, Env.put, params, hb, hc, binCell, isShift, intBin, hw]; rfl, rfl, rfl, ?_⟩
        simp [Env.get]
      | _ => simp [lenCell] at hl
    · simp at hl
  · simp at hl
theorem LB_run {l b o : Nat} {h : Hp} (k : Nat) :
    ∃ s', run1 LB { env := EL l b o ((k : Int) - 1), heap := h, defs := [], rc := none } = .ok (if k = 0 then .exit 0 else .normal) s' ∧ s'.heap = h ∧ s'.defs = [] ∧ s'.env.get 0 = .c (.yl l) ∧ s'.env.get 1 = .c (.ptr b o) ∧ s'.env.get 3 = .c (.int .i64 ((k : Int) - 1)) := by
  by_cases hk : k = 0
  · subst hk
    refine ⟨_, by simp [run1, LB, calm, Am.o, ki, EL, runOps, runInstr, wanted, effOp, newOp, pureOp, ev, Env.get, Env.put, binCell, isShift, intBin]; rfl, rfl, rfl, ?_⟩
    simp [Env.get]
  · have : (1 : Int) ≤ (k : Int) := by omega
    refine ⟨_, by simp [run1, LB, calm, Am.o, ki, EL, runOps, runInstr, wanted, effOp, newOp, pureOp, ev, Env.get, Env.put, binCell, isShift, intBin, this, hk]; rfl, rfl, rfl, ?_⟩
    simp [Env.get]
theorem LC_run {l b o k : Nat} {h : Hp} {c : Cell} (hc : elemAt h b o k = some c) :
    ∃ s', runOps (fun _ _ _ => .stuck) LC { env := EL l b o (k : Int), heap := h, defs := [], rc := none } = .ok s' ∧ s'.heap = h ∧ s'.defs = [] ∧ s'.rc = none ∧ s'.env.get 0 = .c (.yl l) ∧ s'.env.get 1 = .c (.ptr b o) ∧ s'.env.get 3 = .c (.int .i64 (k : Int)) ∧
      s'.env.get 11 = .c (.yl l) ∧ s'.env.get 12 = .c (.int .i64 (k : Int)) ∧ s'.env.get 16 = .c c := by
  unfold elemAt at hc
  split at hc
  · rename_i cs x hb
    split at hc
    · rename_i sb so len cap hcs
      split at hc
      · rename_i hk
        split at hc
        · rename_i ds y hsb
          have h1 : (k : Int) < (len : Int) := by omega
          refine ⟨_, by simp [LC, Am.o, EL, runOps, runInstr, wanted, effOp, newOp, pureOp, ev, Env.get, Env.put, hb, hcs, hsb, h1]; simp only [Nat.mul_one] at hc; rw [hc]; rfl, rfl, rfl, rfl, ?_⟩
          simp [Env.get]
        · simp at hc
      · simp at hc
    · simp at hc
  · simp at hc
theorem LD_run {e : Env} {h : Hp} {t : Bool} (ht : e.get 17 = .c (.bool t)) :
    runOps (fun _ _ _ => .stuck) LD { env := e, heap := h, defs := [], rc := none } = .ok { env := (18, .c (.bool (!t))) :: e, heap := h, defs := [], rc := none } := by
  simp [LD, Am.o, runOps, runInstr, wanted, effOp, newOp, pureOp, ev, Env.get, Env.put, ht, unCell]
theorem LE_run {e : Env} {h : Hp} {k : Nat} (hk : k ≤ 140737488355328) (h3 : e.get 3 = .c (.int .i64 (k : Int))) :
    ∃ s', run1 LE { env := e, heap := h, defs := [], rc := none } = .ok .normal s' ∧ s'.heap = h ∧ s'.defs = [] ∧ s'.env.get 0 = e.get 0 ∧ s'.env.get 1 = e.get 1 ∧ s'.env.get 3 = .c (.int .i64 ((k : Int) - 1)) := by
  have hw : IntKind.i64.wrap ((k : Int) - 1) = (k : Int) - 1 := wrap_i64 (by omega) (by omega)
  refine ⟨_, by simp [run1, LE, calm, Am.o, ki, runOps, runInstr, wanted, effOp, newOp, pureOp, ev, Env.get, Env.put, h3, binCell, isShift, intBin, hw]; rfl, rfl, rfl, ?_⟩
  simp [Env.get]

/-- The loop's record. -/
def recOf (fn : FuncId) (tmps : Array Value) (ps : Array Tmp) (assign body : Code) (D : Nat) (st : LoopState) (pe : Option Code) : Loop :=
  { state := st, pending := pe, fn, tmps, params := ps, assign, body, defers := D }

/-- One round: what yield comes to. -/
theorem round_in {n : Nat} {ρ1 : Ren} {n1 : Nat} {W0 : World} {D l : Nat} {fn : FuncId} {tmps : Array Value} {p q : Nat} {assign body : Code} {asg bd : ACode} {nt : Nat} {e1 : Env}
    (hasg : codeOk P nt assign asg = true) (hbd : codeOk P nt body bd = true) (hsz : nt ≤ tmps.size) (hp : p < nt) (hq : q < nt)
    {ρ : Ren} {h : Hp} {w : World} (hE : EnvR ρ e1 tmps) (hI : BInv ρ1 n1 W0 D l (recOf fn tmps #[p, q] assign body D .ready none) ρ h w)
    {k : Nat} {c : Cell} {u v : Value} (hu : VR ρ (.c (.int .i64 (k : Int))) u) (hv : VR ρ (.c c) v) {s1 s2 : St} {e : AExit} (he : e = .normal ∨ e = .ret)
    (h1 : run1 asg { env := (e1.put (some p) (.c (.int .i64 k))).put (some q) (.c c), heap := h, defs := [], rc := none } = .ok .normal s1) (h2 : run1 bd s1 = .ok e s2) :
    ∃ tm, (Instr.yield l #[u, v]).run P w = .ok (.round l fn tm assign body) w ∧
      RoundIn Fence.wide n P l fn tm assign body w fun en w' => ∃ ρ', en = .returned (.bool (decide (e = .normal))) ∧ ρ.le ρ' ∧ 
        BInv ρ1 n1 W0 D l (recOf fn tmps #[p, q] assign body D (if e = .normal then .ready else .done) (if e = .normal then none else some .ret)) ρ' s2.heap w' := by
  refine ⟨_, run_yield hI.loop (by simp [recOf]), ?_⟩
  have htm : ((recOf fn tmps #[p, q] assign body D .ready none).params.zip #[u, v]).foldl (fun tmps (x : Tmp × Value) => tmps.setIfInBounds x.1 x.2) (recOf fn tmps #[p, q] assign body D .ready none).tmps = (tmps.setIfInBounds p u).setIfInBounds q v := by
    simp [recOf]
  have hE2 : EnvR ρ ((e1.put (some p) (.c (.int .i64 k))).put (some q) (.c c)) ((tmps.setIfInBounds p u).setIfInBounds q v) :=
    EnvR.put (a := { tmps := tmps.setIfInBounds p u, defers := [] }) (EnvR.put (a := { tmps := tmps, defers := [] }) hE hu (d := some p) (fun t ht => by cases ht; exact Nat.lt_of_lt_of_le hp hsz)) hv (d := some q)
      (fun t ht => by cases ht; simp; exact Nat.lt_of_lt_of_le hq hsz)
  refine roundIn_of_wpIn trivial ?_
  have hsz2 : nt ≤ ((tmps.setIfInBounds p u).setIfInBounds q v).size := by simpa using hsz
  have hrc := run1_rc asg { env := (e1.put (some p) (.c (.int .i64 k))).put (some q) (.c c), heap := h, defs := [], rc := none } rfl
  rw [h1] at hrc
  rw [htm]
  refine run1_sound (fun _ => trivial) asg assign hasg ρ { env := (e1.put (some p) (.c (.int .i64 k))).put (some q) (.c c), heap := h, defs := [], rc := none } { tmps := (tmps.setIfInBounds p u).setIfInBounds q v, defers := [] } w ⟨hE2, hI.rel, trivial⟩ rfl hsz2 _ _ s1 h1 fun a1 w1 hpost => ?_
  obtain ⟨ρa, g1, p1, z1⟩ := hpost.pre
  have I1 := hI.step g1 p1.rel
  refine ⟨_, run_beginRound I1.loop rfl, ?_⟩
  have I2 := I1.put { recOf fn tmps #[p, q] assign body D .ready none with state := .busy }
  refine run1_sound (fun _ => trivial) bd body hbd ρa s1 a1 _ ⟨p1.env, I2.rel, p1.defs⟩ hrc (by rw [z1]; exact hsz2) _ e s2 h2 fun a2 w2 hpost2 => ?_
  obtain ⟨ρb, g2, p2, z2⟩ := hpost2.pre
  have I3 := I2.step g2 p2.rel
  rcases he with rfl | rfl
  · exact ⟨_, _, run_endRound none I3.loop, ρb, rfl, g1.le.trans g2.le, I3.put _⟩
  · exact ⟨_, _, run_endRound (some .ret) I3.loop, ρb, rfl, g1.le.trans g2.le, I3.put _⟩

/-- The rounds that are left, and the way out. -/
theorem back_rounds {n nt0 : Nat} {F : Func} (hres : F.results = #[]) {cB cC cD : Code} {idR : Nat} {ops : Array Oper} (hcB : codeOk P nt0 cB LB = true) (hcC : codeOk P nt0 cC LCond = true) (hcD : codeOk P nt0 cD LE = true)
    (hop1 : opsOk P nt0 ops (ops.toList.take 6) LC = true) {oc : Oper} (hoc : ops[6]? = some oc) (hy : yieldOk oc = true) (hop2 : opsOk P nt0 ops (ops.toList.drop 7) LD = true) (h19 : 19 ≤ nt0)
    {ρ1 : Ren} {n1 : Nat} {W0 : World} {D l : Nat} {fn : FuncId} {tmps : Array Value} {p q : Nat} {assign body : Code} {asg bd : ACode} {nt : Nat} {e1 : Env} {b ofs : Nat}
    (hasg : codeOk P nt assign asg = true) (hbd : codeOk P nt body bd = true) (hsz : nt ≤ tmps.size) (hp : p < nt) (hq : q < nt) :
    ∀ (k : Nat) (ρ : Ren) (h : Hp) (w : World) (a : Act) (ret : Bool) (h' : Hp), k ≤ 140737488355328 → EnvR ρ e1 tmps → BInv ρ1 n1 W0 D l (recOf fn tmps #[p, q] assign body D .ready none) ρ h w →
      EnvR ρ (EL l b ofs ((k : Int) - 1)) a.tmps → a.defers = [] → nt0 ≤ a.tmps.size → backRounds e1 p q b ofs asg bd k h = some (ret, h') →
      Code.roundsIn Fence.wide n P (.seq cB (.seq (.block 1 (.seq (.region idR ops false) cC)) cD))
        (Exit.inBlock 0 (bodyPost P F fun en w' => ∃ v ρ', en = .returned v ∧ BInv ρ1 n1 W0 D l (recOf fn tmps #[p, q] assign body D (if ret then .done else .ready) (if ret then some .ret else none)) ρ' h' w')) (k + 1) a w := by
  intro k
  induction k with
  | zero =>
    intro ρ h w a ret h' hk hE1 hI hE hd hsz0 hb
    simp only [backRounds, Option.some.injEq, Prod.mk.injEq] at hb
    obtain ⟨rfl, rfl⟩ := hb
    rw [roundsIn_succ]
    obtain ⟨s', hr, hh, hdf, -⟩ := LB_run (l := l) (b := b) (o := ofs) (h := h) 0
    refine wpIn_seq (run1_sound (fun _ => trivial) LB cB hcB ρ { env := EL l b ofs ((0 : Nat) - 1), heap := h, defs := [], rc := none } a w ⟨hE, hI.rel, by rw [hd]; trivial⟩ rfl hsz0 _ _ s' hr fun a1 w1 hpost => ?_)
    obtain ⟨ρa, g1, p1, z1⟩ := hpost.pre
    have I1 : BInv ρ1 n1 W0 D l _ ρa h w1 := hI.step (by simpa [hh] using g1) (by simpa [hh] using p1.rel)
    have hdn : a1.defers = [] := by
      have := p1.defs.length
      rw [hdf] at this
      exact List.length_eq_zero_iff.1 this.symm
    exact ⟨hdn, _, results_none hres _ _ _, _, ρa, rfl, I1⟩
  | succ k ih =>
    intro ρ h w a ret h' hk hE1 hI hE hd hsz0 hb
    rw [roundsIn_succ]
    obtain ⟨s', hr, hh, hdf, he0, he1, he3⟩ := LB_run (l := l) (b := b) (o := ofs) (h := h) (k + 1)
    have hc1 : (((k + 1 : Nat) : Int) - 1) = (k : Int) := by omega
    rw [hc1] at hr he3 hE
    refine wpIn_seq (run1_sound (fun _ => trivial) LB cB hcB ρ { env := EL l b ofs (k : Int), heap := h, defs := [], rc := none } a w ⟨hE, hI.rel, by rw [hd]; trivial⟩ rfl hsz0 _ _ s' hr fun a1 w1 hpost => ?_)
    obtain ⟨ρa, g1, p1, z1⟩ := hpost.pre
    have I1 : BInv ρ1 n1 W0 D l _ ρa h w1 := hI.step (by simpa [hh] using g1) (by simpa [hh] using p1.rel)
    have hd1 : a1.defers = [] := by
      have := p1.defs.length
      rw [hdf] at this
      exact List.length_eq_zero_iff.1 this.symm
    have E1 := EL_of p1.env he0 he1 he3
    simp only [Nat.add_one_ne_zero, if_false, toExit, Exit.then]
    -- The element, and the round.
    simp only [backRounds] at hb
    split at hb
    · rename_i c hc
      obtain ⟨s2, hr2, hh2, hdf2, hrc2, f0, f1, f3, f11, f12, f16⟩ := LC_run (l := l) hc
      refine wpIn_seq (wpIn_block (wpIn_seq (wpIn_region ?_)))
      have hsize : ops.size = 6 + (1 + (ops.size - 7)) := by
        have : 6 < ops.size := by
          rcases Nat.lt_or_ge 6 ops.size with h | h
          · exact h
          · rw [Array.getElem?_eq_none h] at hoc; cases hoc
        omega
      have htk : (ops.toList.take 6).length = 6 := by rw [List.length_take, Array.length_toList]; omega
      have hdr : (ops.toList.drop 7).length = ops.size - 7 := by rw [List.length_drop, Array.length_toList]
      rw [List.range_eq_range', hsize, List.range'_append_1.symm, ← htk]
      refine ops_wpIn (fun _ => trivial) LC (ops.toList.take 6) 0 ρa { env := EL l b ofs (k : Int), heap := h, defs := [], rc := none } a1 w1 ⟨E1, I1.rel, by rw [hd1]; trivial⟩ rfl (by omega) hop1 (by decide) ?_ s2 hr2 fun a2 w2 hpost2 => ?_
      · intro j x hj
        rw [Nat.zero_add, ← Array.getElem?_toList]
        rw [List.getElem?_take] at hj
        split at hj
        · exact hj
        · cases hj
      obtain ⟨ρb, g2, p2, z2⟩ := hpost2.pre
      have I2 : BInv ρ1 n1 W0 D l _ ρb h w2 := I1.step (by simpa [hh2] using g2) (by simpa [hh2] using p2.rel)
      rw [htk, Nat.zero_add, Nat.add_comm 1, List.range'_succ]
      simp only [wpOpsIn, hoc]
      obtain ⟨hdst, hguard, hndef, u, v, hex, hu, hv⟩ := yield_sem p2.env hy f11
      rw [f12] at hu
      rw [f16] at hv
      have hw : Region.wanted oc (yielded ops a2.tmps) = true := by simp [Region.wanted, hguard]
      rw [hw]
      simp only [if_true]
      refine ⟨fun _ _ => trivial, ?_⟩
      rw [Oper.semAt_eq _ _ _ hndef, hex]
      split at hb
      · rename_i sa hra
        split at hb
        · rename_i sb hrb
          split at hb
          rotate_left
          · simp at hb
          obtain ⟨tm, hyr, hround⟩ := round_in (P := P) (n := n - 1) hasg hbd hsz hp hq (hE1.mono (g1.le.trans g2.le)) I2 hu hv (.inl rfl) hra hrb
          rw [hyr, Oper.uponIn_round]
          refine ⟨fun _ => by contradiction, hround.mono ?_⟩
          rintro en w3 ⟨ρc, rfl, hle, I3⟩
          have E3 : EnvR ρc (s2.env.put (some 17) (.c (.bool true))) (a2.put oc.dst (.bool true)).tmps := by
            rw [hdst]
            exact (p2.env.mono hle).put (v := .c (.bool true)) rfl (fun t ht => by cases ht; omega)
          have hd3 : (a2.put oc.dst (.bool true)).defers = [] := by
            rw [put_defers]
            have := p2.defs.length
            rw [hdf2] at this
            exact List.length_eq_zero_iff.1 this.symm
          have hz3 : nt0 ≤ (a2.put oc.dst (.bool true)).tmps.size := by rw [put_size]; omega
          show wpOpsIn _ _ _ _ _ _ (a2.put oc.dst (.bool true)) w3
          generalize a2.put oc.dst (.bool true) = a3 at E3 hd3 hz3 ⊢
          rw [show 6 + 1 = 7 from rfl, ← hdr, ← List.append_nil (List.range' _ _)]
          refine ops_wpIn (fun _ => trivial) LD (ops.toList.drop 7) 7 ρc { env := s2.env.put (some 17) (.c (.bool true)), heap := sb.heap, defs := [], rc := none } a3 w3 ⟨E3, I3.rel, by rw [hd3]; trivial⟩ rfl hz3 hop2 (by decide) ?_ _ (LD_run rfl) fun a4 w4 hpost4 => ?_
          · intro j x hj
            rw [← Array.getElem?_toList]
            rw [List.getElem?_drop] at hj
            exact hj
          obtain ⟨ρd, g4, p4, z4⟩ := hpost4.pre
          have I4 : BInv ρ1 n1 W0 D l _ ρd sb.heap w4 := I3.step g4 p4.rel
          refine run1_sound (fun _ => trivial) LCond cC hcC ρd _ a4 w4 p4 rfl (by omega) _ .normal _ rfl fun a5 w5 hpost5 => ?_
          obtain ⟨ρe, g5, p5, z5⟩ := hpost5.pre
          have I5 : BInv ρ1 n1 W0 D l _ ρe sb.heap w5 := I4.step g5 p5.rel
          have hd5 : a5.defers = [] := by
            have := p5.defs.length
            exact List.length_eq_zero_iff.1 this.symm
          simp only [toExit, Exit.then, Exit.inBlock]
          have h53 : (Env.get ((18, AVal.c (.bool (!true))) :: s2.env.put (some 17) (.c (.bool true))) 3) = .c (.int .i64 (k : Int)) := f3
          obtain ⟨s6, hr6, hh6, hdf6, k0, k1, k3⟩ := LE_run (h := sb.heap) (show k ≤ 140737488355328 by omega) h53
          refine run1_sound (fun _ => trivial) LE cD hcD ρe _ a5 w5 p5 rfl (by omega) _ .normal s6 hr6 fun a6 w6 hpost6 => ?_
          obtain ⟨ρf, g6, p6, z6⟩ := hpost6.pre
          have I6 : BInv ρ1 n1 W0 D l _ ρf sb.heap w6 := I5.step (by simpa [hh6] using g6) (by simpa [hh6] using p6.rel)
          have hd6 : a6.defers = [] := by
            have := p6.defs.length
            rw [hdf6] at this
            exact List.length_eq_zero_iff.1 this.symm
          have E6 := EL_of p6.env (k0.trans f0) (k1.trans f1) k3
          have hle6 : ρ.le ρf := g1.le.trans (g2.le.trans (hle.trans (g4.le.trans (g5.le.trans g6.le))))
          exact ih ρf sb.heap w6 a6 ret h' (by omega) (hE1.mono hle6) I6 E6 hd6 (by omega) hb
        · rename_i sb hrb
          split at hb
          rotate_left
          · simp at hb
          obtain ⟨tm, hyr, hround⟩ := round_in (P := P) (n := n - 1) hasg hbd hsz hp hq (hE1.mono (g1.le.trans g2.le)) I2 hu hv (.inr rfl) hra hrb
          rw [hyr, Oper.uponIn_round]
          refine ⟨fun _ => by contradiction, hround.mono ?_⟩
          rintro en w3 ⟨ρc, rfl, hle, I3⟩
          have E3 : EnvR ρc (s2.env.put (some 17) (.c (.bool false))) (a2.put oc.dst (.bool false)).tmps := by
            rw [hdst]
            exact (p2.env.mono hle).put (v := .c (.bool false)) rfl (fun t ht => by cases ht; omega)
          have hd3 : (a2.put oc.dst (.bool false)).defers = [] := by
            rw [put_defers]
            have := p2.defs.length
            rw [hdf2] at this
            exact List.length_eq_zero_iff.1 this.symm
          have hz3 : nt0 ≤ (a2.put oc.dst (.bool false)).tmps.size := by rw [put_size]; omega
          show wpOpsIn _ _ _ _ _ _ (a2.put oc.dst (.bool false)) w3
          generalize a2.put oc.dst (.bool false) = a3 at E3 hd3 hz3 ⊢
          rw [show 6 + 1 = 7 from rfl, ← hdr, ← List.append_nil (List.range' _ _)]
          refine ops_wpIn (fun _ => trivial) LD (ops.toList.drop 7) 7 ρc { env := s2.env.put (some 17) (.c (.bool false)), heap := sb.heap, defs := [], rc := none } a3 w3 ⟨E3, I3.rel, by rw [hd3]; trivial⟩ rfl hz3 hop2 (by decide) ?_ _ (LD_run rfl) fun a4 w4 hpost4 => ?_
          · intro j x hj
            rw [← Array.getElem?_toList]
            rw [List.getElem?_drop] at hj
            exact hj
          obtain ⟨ρd, g4, p4, z4⟩ := hpost4.pre
          have I4 : BInv ρ1 n1 W0 D l _ ρd sb.heap w4 := I3.step g4 p4.rel
          refine run1_sound (fun _ => trivial) LCond cC hcC ρd _ a4 w4 p4 rfl (by omega) _ .ret _ rfl fun a5 w5 hpost5 => ?_
          obtain ⟨ρe, g5, p5, z5⟩ := hpost5.pre
          have I5 : BInv ρ1 n1 W0 D l _ ρe sb.heap w5 := I4.step g5 p5.rel
          have hd5 : a5.defers = [] := by
            have := p5.defs.length
            exact List.length_eq_zero_iff.1 this.symm
          simp only [Option.some.injEq, Prod.mk.injEq] at hb
          obtain ⟨rfl, rfl⟩ := hb
          exact ⟨hd5, _, results_none hres _ _ _, _, ρe, rfl, I5⟩
        · simp at hb
      · simp at hb
    · simp at hb
end
end Go.Proofs.YtjlebgfbohihfaaGreat.Am
