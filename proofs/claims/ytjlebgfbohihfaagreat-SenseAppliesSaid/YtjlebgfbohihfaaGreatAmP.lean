/-
  A region whose order is drawn: carried out in one order, with what floats looked at again.
-/
import Derived.Test.YtjlebgfbohihfaaGreatAmO
namespace Go.Proofs.YtjlebgfbohihfaaGreat.Am
open Go
set_option linter.unusedVariables false
set_option linter.unusedSimpArgs false

/-! ### Lists of pairs -/
def pairs {α : Type} (R : α → α → Bool) : List α → Bool
  | [] => true
  | p :: l => l.all (R p) && pairs R l
theorem pairs_mem {α : Type} {R : α → α → Bool} : ∀ {l : List α}, pairs R l = true → ∀ {p q : α}, p ∈ l → q ∈ l → p = q ∨ R p q = true ∨ R q p = true
  | [], _, _, _, hp, _ => by simp at hp
  | x :: l, h, p, q, hp, hq => by
    simp only [pairs, Bool.and_eq_true, List.all_eq_true] at h
    simp only [List.mem_cons] at hp hq
    rcases hp with rfl | hp
    · rcases hq with rfl | hq
      · exact .inl rfl
      · exact .inr (.inl (h.1 q hq))
    · rcases hq with rfl | hq
      · exact .inr (.inr (h.1 p hp))
      · exact pairs_mem h.2 hp hq
theorem pairs_append {α : Type} {R : α → α → Bool} : ∀ {l m : List α}, pairs R (l ++ m) = true → ∀ {p q : α}, p ∈ l → q ∈ m → R p q = true
  | [], _, _, _, _, hp, _ => by simp at hp
  | x :: l, m, h, p, q, hp, hq => by
    simp only [List.cons_append, pairs, Bool.and_eq_true, List.all_eq_true] at h
    simp only [List.mem_cons] at hp
    rcases hp with rfl | hp
    · exact h.1 q (by simp [hq])
    · exact pairs_append h.2 hp hq
theorem filter_lt {α : Type} {p q : α → Bool} : ∀ {l : List α}, (∀ x ∈ l, q x = true → p x = true) → ∀ {y : α}, y ∈ l → p y = true → q y = false → (l.filter q).length < (l.filter p).length := by
  have le : ∀ l : List α, (∀ x ∈ l, q x = true → p x = true) → (l.filter q).length ≤ (l.filter p).length := by
    intro l
    induction l with
    | nil => intro _; simp
    | cons x l ih =>
      intro h
      have := ih fun y hy => h y (by simp [hy])
      have hx := h x (by simp)
      simp only [List.filter_cons]
      split
      · rw [if_pos (hx (by assumption))]; simp; omega
      · split <;> simp <;> omega
  intro l
  induction l with
  | nil => intro _ y hy; simp at hy
  | cons x l ih =>
    intro h y hy hp hq
    simp only [List.mem_cons] at hy
    have hx := h x (by simp)
    rcases hy with rfl | hy
    · have := le l fun z hz => h z (by simp [hz])
      simp only [List.filter_cons, hp, hq, if_true]
      simp; omega
    · have := ih (fun z hz => h z (by simp [hz])) hy hp hq
      simp only [List.filter_cons]
      split
      · rw [if_pos (hx (by assumption))]; simp; omega
      · split <;> simp <;> omega

/-! ### Who stands ahead of whom -/
inductive Anc (ops : Array Oper) : Nat → Nat → Prop
  | edge {i : Nat} {o : Oper} {e : Edge} : ops[i]? = some o → e ∈ o.after → Region.binds .any e = true → Anc ops i e.on
  | step {i k : Nat} {o : Oper} {e : Edge} : ops[i]? = some o → e ∈ o.after → Region.binds .any e = true → Anc ops e.on k → Anc ops i k
def maskAt : List (Nat × Nat) → Nat → Nat
  | [], _ => 0
  | (k, m) :: l, i => bif Nat.beq k i then m else maskAt l i
def maskOf (ops : Array Oper) (ms : List (Nat × Nat)) (i : Nat) : Nat :=
  match ops[i]? with
  | none => 0
  | some o => o.after.toList.foldr (fun e m => bif Region.binds .any e then (m ||| (1 <<< e.on)) ||| maskAt ms e.on else m) 0
def masks (ops : Array Oper) : List Nat → List (Nat × Nat) → List (Nat × Nat)
  | [], ms => ms
  | j :: l, ms => masks ops l ((j, maskOf ops ms j) :: ms)
def MasksOk (ops : Array Oper) (ms : List (Nat × Nat)) : Prop := ∀ i k, (maskAt ms i).testBit k = true → Anc ops i k
theorem maskOf_ok {ops : Array Oper} {ms : List (Nat × Nat)} (h : MasksOk ops ms) (i k : Nat) (hk : (maskOf ops ms i).testBit k = true) : Anc ops i k := by
  unfold maskOf at hk
  split at hk
  · simp at hk
  · rename_i o ho
    have key : ∀ l : List Edge, (∀ e ∈ l, e ∈ o.after) → (l.foldr (fun e m => bif Region.binds .any e then (m ||| (1 <<< e.on)) ||| maskAt ms e.on else m) 0).testBit k = true → Anc ops i k := by
      intro l
      induction l with
      | nil => intro _ hk; simp at hk
      | cons e l ih =>
        intro hl hk
        simp only [List.foldr_cons] at hk
        cases hb : Region.binds .any e with
        | false => rw [hb] at hk; exact ih (fun x hx => hl x (by simp [hx])) hk
        | true =>
          rw [hb] at hk
          simp only [cond_true, Nat.testBit_or, Bool.or_eq_true] at hk
          rcases hk with (hk | hk) | hk
          · exact ih (fun x hx => hl x (by simp [hx])) hk
          · have : e.on = k := by
              rw [Nat.shiftLeft_eq, Nat.one_mul, Nat.testBit_two_pow] at hk
              simpa using hk
            exact this ▸ .edge ho (hl e (by simp)) hb
          · exact .step ho (hl e (by simp)) hb (h _ _ hk)
    exact key _ (fun e he => by simpa using he) hk
theorem masks_ok {ops : Array Oper} : ∀ {l : List Nat} {ms : List (Nat × Nat)}, MasksOk ops ms → MasksOk ops (masks ops l ms)
  | [], _, h => h
  | j :: l, ms, h => masks_ok (l := l) fun i k hk => by
    simp only [maskAt] at hk
    rw [nbeq, bif_decide] at hk
    split at hk
    · subst_vars; exact maskOf_ok h _ _ hk
    · exact h _ _ hk

/-! ### The check -/
def DIt.j : DIt → Nat
  | .op j _ => j
  | .eff j _ _ => j
  | .flt j _ _ => j
def DIt.isEff : DIt → Bool
  | .eff .. => true
  | _ => false
def DIt.isFlt : DIt → Bool
  | .flt .. => true
  | _ => false
def DIt.re : DIt → List AInstr
  | .op _ _ => []
  | .eff _ _ re => re
  | .flt _ _ re => re
def looks (i : AInstr) : List Nat := atemps i.op ++ gtemps i.guard
def notIn (d : Option Nat) (l : List Nat) : Bool := match d with | some t => !l.contains t | none => true
def itemOk (P : Program) (nt : Nat) (ops : Array Oper) (d : DIt) : Bool :=
  (match ops[d.j]? with | some o => instrOk P nt ops o d.instr | none => false) &&
  (match d with
    | .op _ i => i.dst.isSome && !isNew i.op && notIn i.dst (looks i)
    | .flt _ i _ => i.dst.isSome && isNew i.op && i.guard.isNone && notIn i.dst (looks i)
    | .eff _ _ _ => true)
def pairOk (anc : Nat → Nat → Bool) (p q : DIt) : Bool :=
  !(Nat.beq p.j q.j) &&
  (!p.isEff || anc q.j p.j) &&
  (notIn q.instr.dst (looks p.instr) || (q.isEff && anc q.j p.j)) && ((match q.instr.dst with | some t => decide (p.instr.dst ≠ some t) | none => true) || (q.isEff && anc q.j p.j)) &&
  (notIn p.instr.dst (looks q.instr) || anc q.j p.j) &&
  (match p, q with
    | .eff .., _ => true
    | _, .op .. => true
    | .op _ i, .eff _ _ re => !reads i.op || anc q.j p.j || re.contains i
    | .op _ i, .flt _ _ re => !reads i.op || re.contains i
    | .flt _ i _, .eff _ _ re => anc q.j p.j || re.contains i
    | .flt .., .flt .. => true)
def orderOk (ops : Array Oper) : List Nat → List DIt → Bool
  | _, [] => true
  | seen, d :: l => (match ops[d.j]? with | some o => o.after.all fun e => !Region.binds .any e || seen.contains e.on | none => false) && orderOk ops (d.j :: seen) l
def ancB (ms : List (Nat × Nat)) (i k : Nat) : Bool := (maskAt ms i).testBit k
def dopsOk (P : Program) (nt : Nat) (ops : Array Oper) (items : List DIt) : Bool :=
  Nat.ble items.length ops.size && (items.all (itemOk P nt ops)) && orderOk ops [] items && ((List.range ops.size).all fun j => items.any fun d => Nat.beq d.j j) &&
  pairs (pairOk (ancB (masks ops (items.map DIt.j) []))) items

/-! ### Environments -/
theorem hide_get (e : Env) (t : Nat) : ∀ ts : List Nat, (hide ts e).get t = if t ∈ ts then .c .unk else e.get t
  | [] => by simp [hide]
  | s :: ts => by
    have ih := hide_get e t ts
    simp only [hide, List.map_cons, List.cons_append, Env.get] at ih ⊢
    rw [nbeq, bif_decide, ih]
    by_cases h : s = t
    · subst h; simp
    · rw [if_neg h]
      by_cases h2 : t ∈ ts
      · rw [if_pos h2, if_pos (by simp [h2])]
      · rw [if_neg h2, if_neg (by simp [h2, Ne.symm h])]
theorem put_get (e : Env) (d : Option Nat) (v : AVal) (t : Nat) : (e.put d v).get t = if d = some t then v else e.get t := by
  cases d with
  | none => simp [Env.put]
  | some s => simp only [Env.put, Env.get]; rw [nbeq, bif_decide]; simp
theorem notIn_ne {d : Option Nat} {l : List Nat} (h : notIn d l = true) {t : Nat} (ht : t ∈ l) : d ≠ some t := by
  rintro rfl
  simp [notIn] at h
  exact h ht
theorem put_same {e : Env} {d : Option Nat} {v : AVal} {l : List Nat} (h : notIn d l = true) : SameOn (e.put d v) e l := fun t ht => by
  rw [put_get, if_neg (notIn_ne h ht)]
theorem SameOn.symm {e e' : Env} {l : List Nat} (h : SameOn e e' l) : SameOn e' e l := fun t ht => (h t ht).symm
theorem looks_op {e e' : Env} {i : AInstr} (h : SameOn e e' (looks i)) : SameOn e e' (atemps i.op) := SameOn.left h
theorem looks_guard {e e' : Env} {i : AInstr} (h : SameOn e e' (looks i)) : SameOn e e' (gtemps i.guard) := SameOn.right h

/-- One instruction in another environment that agrees on what it looks at. -/
theorem runInstr_env {callf : Nat → List AVal → Hp → CRes} {i : AInstr} {s : St} {e' : Env} (h : SameOn e' s.env (looks i)) :
    (∀ s', runInstr callf i s = .ok s' → ∃ v, s'.env = s.env.put i.dst v ∧ runInstr callf i { s with env := e' } = .ok { s' with env := e'.put i.dst v }) ∧
    (∀ s', runInstr callf i s = .panic s' → s'.env = s.env ∧ runInstr callf i { s with env := e' } = .panic { s' with env := e' }) := by
  unfold runInstr
  simp only [wanted_congr (looks_guard h), effOp_congr (looks_op h)]
  constructor
  · intro s' hr
    split at hr
    · simp at hr
    · rename_i hw; simp at hr; subst hr; exact ⟨_, rfl, by simp [hw]⟩
    · rename_i hw
      split at hr
      · rename_i hx; simp at hr; subst hr; exact ⟨_, rfl, by simp [hw, hx]⟩
      · rename_i hx; simp at hr; subst hr; exact ⟨_, rfl, by simp [hw, hx]⟩
      · rename_i hx
        split at hr
        · rename_i hc; simp at hr; subst hr; exact ⟨_, rfl, by simp [hw, hx, hc]⟩
        · simp at hr
        · simp at hr
      · rename_i hx; simp at hr; subst hr; exact ⟨_, rfl, by simp [hw, hx]⟩
      · rename_i hx
        split at hr
        · rename_i hc; simp at hr; subst hr; exact ⟨_, rfl, by simp [hw, hx, hc]⟩
        · rename_i hc; simp at hr; subst hr; exact ⟨_, rfl, by simp [hw, hx, hc]⟩
        · rename_i hc; simp at hr; subst hr; exact ⟨_, rfl, by simp [hw, hx, hc]⟩
        · simp at hr
      · simp at hr
      · simp at hr
  · intro s' hr
    split at hr
    · simp at hr
    · simp at hr
    · rename_i hw
      split at hr
      · simp at hr
      · simp at hr
      · rename_i hx
        split at hr
        · simp at hr
        · rename_i hc; simp at hr; subst hr; exact ⟨rfl, by simp [hw, hx, hc]⟩
        · simp at hr
      · simp at hr
      · split at hr <;> simp at hr
      · rename_i hx; simp at hr; subst hr; exact ⟨rfl, by simp [hw, hx]⟩
      · simp at hr
theorem newOp_isNew {e : Env} {op : AOp} {p : AObj × (Nat → AVal)} (h : newOp e op = some p) : isNew op = true := by
  cases op <;> first | rfl | (simp [newOp] at h)

theorem stillP_congr {s s' : St} {i : AInstr} (h : SameOn s'.env s.env (looks i)) (hd : ∀ t, i.dst = some t → s'.env.get t = s.env.get t) (hh : s'.heap = s.heap ∨ reads i.op = false) :
    stillP s' i = stillP s i := by
  unfold stillP
  rw [wanted_congr (looks_guard h), pureOp_congr (looks_op h)]
  have : pureOp s.env s'.heap i.op = pureOp s.env s.heap i.op := by
    rcases hh with h | h
    · rw [h]
    · exact pureOp_heap h
  rw [this]
  split
  · rename_i t h1 h2; rw [hd t h2]
  · rename_i t h1 h2; rw [hd t h2]
  · rfl
theorem stillAll_mem {s : St} : ∀ {l : List AInstr}, stillAll s l = true → ∀ {r : AInstr}, r ∈ l → still s r = true
  | [], _, _, hr => by simp at hr
  | x :: l, h, r, hr => by
    simp only [stillAll, Bool.and_eq_true] at h
    simp only [List.mem_cons] at hr
    rcases hr with rfl | hr
    · exact h.1
    · exact stillAll_mem h.2 hr

/-- A block that an undone operation will make: it stands in the abstract heap, and in no model's yet. -/
structure Flt (ρ : Ren) (n0 : Nat) (s : St) (i : AInstr) (b : Nat) : Prop where
  is : ∃ t o f, i.dst = some t ∧ newOp s.env i.op = some (o, f) ∧ f b = s.env.get t ∧ blkOf (s.env.get t) = some b ∧ s.heap.get b = some o
  lo : n0 ≤ b
  hi : b < s.heap.next
  no : ρ b = none

section
variable {P : Program} {callf : Nat → List AVal → Hp → CRes} {ops : Array Oper} {items : List DIt}

structure Inv (ops : Array Oper) (items : List DIt) (ρ0 : Ren) (n0 : Nat) (w0 : World) (sz : Nat) (pre rest : List DIt) (listed : Array Bool) (ρ : Ren) (s : St) (a : Act) (w : World) : Prop where
  split : items = pre ++ rest
  rest0 : ∀ d ∈ rest, listed.getD d.j true = false
  effs : ∀ d ∈ pre, listed.getD d.j true = false → d.isEff = false
  lsz : listed.size = ops.size
  closed : ∀ (i : Nat) (o : Oper), listed.getD i false = true → ops[i]? = some o → ∀ e ∈ o.after, Region.binds .any e = true → listed.getD e.on false = true
  env : ∀ t, (∀ d ∈ pre, listed.getD d.j true = false → d.instr.dst ≠ some t) → VR ρ (s.env.get t) (a.tmps.getD t undef)
  rel : Rel ρ s.heap w.heap
  defs : All2 (DefR ρ) s.defs a.defers
  rc : s.rc = none
  size : a.tmps.size = sz
  grow : Grow ρ0 n0 w0 ρ s.heap.next w
  stP : ∀ d ∈ pre, listed.getD d.j true = false → d.isFlt = false → stillP s d.instr = true
  stN : ∀ d ∈ pre, listed.getD d.j true = false → d.isFlt = true → ∃ b, Flt ρ n0 s d.instr b
  dist : ∀ d ∈ pre, ∀ d' ∈ pre, listed.getD d.j true = false → listed.getD d'.j true = false → d.isFlt = true → d'.isFlt = true → d.j ≠ d'.j → ∀ b, Flt ρ n0 s d.instr b → ¬ Flt ρ n0 s d'.instr b

theorem Rel.wide {ρ : Ren} {h : Hp} {H : Array Obj} (hR : Rel ρ h H) (o : AObj) : Rel ρ (h.alloc o) H := by
  refine ⟨fun b r hb => ?_, ?_, ?_⟩
  · have := hR.lt b r hb; rw [Hp.next_alloc]; exact ⟨by omega, this.2⟩
  · intro b b' r r' p p' hb hb' e hp hp' hd hd'
    have h1 := (hR.lt b r hb).1
    have h2 := (hR.lt b' r' hb').1
    rw [Hp.get_alloc, if_neg (by omega)] at hp hp'
    exact hR.inj b b' r r' p p' hb hb' e hp hp' hd hd'
  · intro b r p hb hp
    have h1 := (hR.lt b r hb).1
    rw [Hp.get_alloc, if_neg (by omega)] at hp
    exact hR.ob b r p hb hp
theorem Grow.wide {ρ ρ' : Ren} {n n' m : Nat} {w w' : World} (h : Grow ρ n w ρ' n' w') (hm : n' ≤ m) : Grow ρ n w ρ' m w' :=
  ⟨h.le, h.size, h.new, h.frame, h.tape, h.os, h.output, Nat.le_trans h.nx hm, h.fresh⟩
end
end Go.Proofs.YtjlebgfbohihfaaGreat.Am
