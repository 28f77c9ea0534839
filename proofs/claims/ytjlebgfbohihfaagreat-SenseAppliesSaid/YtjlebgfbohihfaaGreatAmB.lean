/-
  The relation between the abstract machine's values and heap, and the model's.
-/
import Derived.Test.YtjlebgfbohihfaaGreatAmA
import Derived.Laws.Append
import Derived.Laws.StructEq
import Derived.Calls
namespace Go.Proofs.YtjlebgfbohihfaaGreat.Am
open Go
set_option linter.unusedVariables false
set_option linter.unusedSimpArgs false

/-! ### Lists, side by side -/
def All2 {α β : Type} (R : α → β → Prop) : List α → List β → Prop
  | [], [] => True
  | a :: as, b :: bs => R a b ∧ All2 R as bs
  | _, _ => False
section
variable {α β : Type} {R : α → β → Prop}
theorem All2.nil : All2 R [] [] := trivial
theorem All2.length : ∀ {as : List α} {bs : List β}, All2 R as bs → as.length = bs.length
  | [], [], _ => rfl
  | _ :: _, _ :: _, h => by simp [All2.length h.2]
  | [], _ :: _, h => h.elim
  | _ :: _, [], h => h.elim
theorem All2.mono {R' : α → β → Prop} (hr : ∀ a b, R a b → R' a b) : ∀ {as : List α} {bs : List β}, All2 R as bs → All2 R' as bs
  | [], [], _ => trivial
  | _ :: _, _ :: _, h => ⟨hr _ _ h.1, h.2.mono hr⟩
theorem All2.get : ∀ {as : List α} {bs : List β}, All2 R as bs → ∀ {i : Nat} {a : α}, as[i]? = some a → ∃ b, bs[i]? = some b ∧ R a b
  | a :: as, b :: bs, h, 0, x, hx => ⟨b, rfl, by simp at hx; exact hx ▸ h.1⟩
  | a :: as, b :: bs, h, i + 1, x, hx => by
    obtain ⟨y, hy, hr⟩ := h.2.get (i := i) (by simpa using hx)
    exact ⟨y, by simpa using hy, hr⟩
  | [], [], _, i, x, hx => by simp at hx
theorem All2.of_get : ∀ {as : List α} {bs : List β}, as.length = bs.length → (∀ (i : Nat) (a : α) (b : β), as[i]? = some a → bs[i]? = some b → R a b) → All2 R as bs
  | [], [], _, _ => trivial
  | a :: as, b :: bs, hl, h => ⟨h 0 a b rfl rfl, All2.of_get (by simpa using hl) fun i x y hx hy => h (i + 1) x y (by simpa using hx) (by simpa using hy)⟩
  | [], _ :: _, hl, _ => by simp at hl
  | _ :: _, [], hl, _ => by simp at hl
theorem All2.append : ∀ {as cs : List α} {bs ds : List β}, All2 R as bs → All2 R cs ds → All2 R (as ++ cs) (bs ++ ds)
  | [], _, [], _, _, h => h
  | _ :: _, _, _ :: _, _, h, h' => ⟨h.1, h.2.append h'⟩
theorem All2.take : ∀ (n : Nat) {as : List α} {bs : List β}, All2 R as bs → All2 R (as.take n) (bs.take n)
  | 0, _, _, _ => by simp [All2]
  | n + 1, [], [], _ => by simp [All2]
  | n + 1, _ :: _, _ :: _, h => ⟨h.1, h.2.take n⟩
theorem All2.drop : ∀ (n : Nat) {as : List α} {bs : List β}, All2 R as bs → All2 R (as.drop n) (bs.drop n)
  | 0, _, _, h => h
  | n + 1, [], [], _ => by simp [All2]
  | n + 1, _ :: _, _ :: _, h => h.2.drop n
theorem All2.set : ∀ {as : List α} {bs : List β}, All2 R as bs → ∀ (i : Nat) {a : α} {b : β}, R a b → All2 R (as.set i a) (bs.set i b)
  | [], [], _, _, _, _, _ => trivial
  | _ :: _, _ :: _, h, 0, _, _, hr => ⟨hr, h.2⟩
  | _ :: _, _ :: _, h, i + 1, _, _, hr => ⟨h.1, h.2.set i hr⟩
theorem All2.map {γ δ : Type} {S : γ → δ → Prop} (f : α → γ) (g : β → δ) (hr : ∀ a b, R a b → S (f a) (g b)) :
    ∀ {as : List α} {bs : List β}, All2 R as bs → All2 S (as.map f) (bs.map g)
  | [], [], _ => trivial
  | _ :: _, _ :: _, h => ⟨hr _ _ h.1, h.2.map f g hr⟩
theorem All2.eraseIdx : ∀ {as : List α} {bs : List β}, All2 R as bs → ∀ (i : Nat), All2 R (as.eraseIdx i) (bs.eraseIdx i)
  | [], [], _, _ => trivial
  | _ :: _, _ :: _, h, 0 => h.2
  | _ :: _, _ :: _, h, i + 1 => ⟨h.1, h.2.eraseIdx i⟩
end

/-! ### The relation -/
/-- Where an abstract block lies: the model's block, from which cell on, how many cells that block has, whether the abstract block is all of it. -/
structure RB where
  blk : Nat
  off : Nat
  size : Nat
  exact : Bool
abbrev Ren := Nat → Option RB

def scalar : Value → Prop
  | .agg _ => False
  | .tuple _ => False
  | _ => True
def ptrR (ρ : Ren) (p : Nat × Nat) (v : Value) : Prop := ∃ r, ρ p.1 = some r ∧ v = .pointer (some ⟨r.blk, r.off + p.2, none⟩)
def CR (ρ : Ren) : Cell → Value → Prop
  | .unk, v => scalar v
  | .int k n, v => v = .int k n
  | .bool b, v => v = .bool b
  | .str s, v => v = .string ⟨s.toArray⟩
  | .ptr b o, v => ptrR ρ (b, o) v
  | .nilptr, v => v = .pointer none
  | .slice b o len cap sz, v => ∃ r a' cap', ρ b = some r ∧ v = .slice (some ⟨r.blk, a', none⟩) len cap' ∧ len ≤ cap ∧ cap ≤ cap' ∧
      (r.exact = true → cap' = cap) ∧ a' + cap' * sz ≤ r.size ∧ (a' = r.off + o ∨ cap = 0)
  | .nilslice, v => v = .slice none 0 0
  | .map m, v => ∃ r, ρ m = some r ∧ v = .map (some r.blk)
  | .nilmap, v => v = .map none
  | .fn f first caps, v => ∃ a c, v = .func (.func f) a c ∧ All2 (ptrR ρ) first a.toList ∧ All2 (ptrR ρ) caps c.toList
  | .nilfn, v => v = .nilFunc
  | .yl l, v => v = .func (.yield l) #[] #[]
  | .iface, v => ∃ t x, v = .iface t x
  | .nilIface, v => v = .nilIface
def VR (ρ : Ren) : AVal → Value → Prop
  | .c .unk, _ => True
  | .c x, v => CR ρ x v
  | .agg cs, v => ∃ a, v = .agg a ∧ All2 (CR ρ) cs a.toList
  | .tup xs, v => ∃ a, v = .tuple a ∧ All2 (fun x u => match x with
      | .inl .unk => True
      | .inl x => CR ρ x u
      | .inr cs => ∃ b, u = .agg b ∧ All2 (CR ρ) cs b.toList) xs a.toList
def EnvR (ρ : Ren) (e : Env) (tmps : Array Value) : Prop := ∀ t, VR ρ (e.get t) (tmps.getD t undef)

def Ren.le (ρ ρ' : Ren) : Prop := ∀ b r, ρ b = some r → ρ' b = some r
theorem Ren.le.refl (ρ : Ren) : ρ.le ρ := fun _ _ h => h
theorem Ren.le.trans {ρ ρ' ρ'' : Ren} (h : ρ.le ρ') (h' : ρ'.le ρ'') : ρ.le ρ'' := fun _ _ e => h' _ _ (h _ _ e)
theorem ptrR.mono {ρ ρ' : Ren} (h : ρ.le ρ') {p : Nat × Nat} {v : Value} : ptrR ρ p v → ptrR ρ' p v
  | ⟨r, hr, hv⟩ => ⟨r, h _ _ hr, hv⟩
theorem CR.mono {ρ ρ' : Ren} (h : ρ.le ρ') {x : Cell} {v : Value} (hx : CR ρ x v) : CR ρ' x v := by
  cases x with
  | ptr b o => exact ptrR.mono h hx
  | slice b o l c s => obtain ⟨r, a, k, hr, hrest⟩ := hx; exact ⟨r, a, k, h _ _ hr, hrest⟩
  | map m => obtain ⟨r, hr, hv⟩ := hx; exact ⟨r, h _ _ hr, hv⟩
  | fn f a c => obtain ⟨x, y, hv, h1, h2⟩ := hx; exact ⟨x, y, hv, h1.mono fun _ _ => ptrR.mono h, h2.mono fun _ _ => ptrR.mono h⟩
  | _ => exact hx
theorem VR.of_CR {ρ : Ren} {x : Cell} {v : Value} (h : CR ρ x v) : VR ρ (.c x) v := by
  cases x <;> first | trivial | exact h
theorem VR.to_CR {ρ : Ren} {x : Cell} {v : Value} (hx : x ≠ .unk) (h : VR ρ (.c x) v) : CR ρ x v := by
  cases x <;> first | exact absurd rfl hx | exact h
theorem VR.mono {ρ ρ' : Ren} (h : ρ.le ρ') {x : AVal} {v : Value} (hx : VR ρ x v) : VR ρ' x v := by
  cases x with
  | c x =>
    by_cases hu : x = .unk
    · subst hu; trivial
    · exact VR.of_CR ((VR.to_CR hu hx).mono h)
  | agg cs => obtain ⟨a, hv, ha⟩ := hx; exact ⟨a, hv, ha.mono fun _ _ => CR.mono h⟩
  | tup xs =>
    obtain ⟨a, hv, ha⟩ := hx
    refine ⟨a, hv, ha.mono fun x u hu => ?_⟩
    cases x with
    | inl x => cases x <;> first | trivial | exact CR.mono h hu
    | inr cs => obtain ⟨b, hb, hc⟩ := hu; exact ⟨b, hb, hc.mono fun _ _ => CR.mono h⟩
theorem EnvR.mono {ρ ρ' : Ren} (h : ρ.le ρ') {e : Env} {tmps : Array Value} (he : EnvR ρ e tmps) : EnvR ρ' e tmps := fun t => (he t).mono h
theorem CR.scalar {ρ : Ren} {x : Cell} {v : Value} (h : CR ρ x v) : scalar v := by
  cases x with
  | unk => exact h
  | ptr b o => obtain ⟨r, _, rfl⟩ := h; trivial
  | slice b o l c s => obtain ⟨r, a, k, _, rfl, _⟩ := h; trivial
  | map m => obtain ⟨r, _, rfl⟩ := h; trivial
  | fn f a c => obtain ⟨x, y, rfl, _⟩ := h; trivial
  | iface => obtain ⟨t, x, rfl⟩ := h; trivial
  | _ => simp only [CR] at h; subst h; trivial
theorem scalar.cells {v : Value} (h : scalar v) : v.cells = #[v] := by
  cases v <;> first | rfl | exact h.elim
theorem scalar.one {v : Value} (h : scalar v) : v.oneCell' = true := by
  cases v <;> first | rfl | exact h.elim
theorem VR.cells {ρ : Ren} {x : AVal} {v : Value} (hx : VR ρ x v) (h1 : x.one = true) : All2 (CR ρ) x.cells v.cells.toList := by
  cases x with
  | c x =>
    have hu : x ≠ .unk := by rintro rfl; simp [AVal.one] at h1
    have hc := hx.to_CR hu
    rw [hc.scalar.cells]
    exact ⟨hc, trivial⟩
  | agg cs => obtain ⟨a, rfl, ha⟩ := hx; exact ha
  | tup xs => simp [AVal.one] at h1
theorem VR.sum {ρ : Ren} {x : AVal} {v : Value} (hx : VR ρ x v) (h1 : x.one = true ∨ ∃ y, x = .c y) :
    (match x.sum with | .inl .unk => True | .inl y => CR ρ y v | .inr cs => ∃ b, v = .agg b ∧ All2 (CR ρ) cs b.toList : Prop) := by
  cases x with
  | c x => cases x <;> first | trivial | exact hx
  | agg cs => exact hx
  | tup xs => rcases h1 with h | ⟨y, h⟩ <;> simp [AVal.one] at h

/-! ### Constants and operands -/
def absCell : Value → Option Cell
  | .int k n => some (.int k n)
  | .bool b => some (.bool b)
  | .string s => some (.str s.data.toList)
  | .pointer none => some .nilptr
  | .slice none 0 0 => some .nilslice
  | .map none => some .nilmap
  | .nilFunc => some .nilfn
  | .nilIface => some .nilIface
  | .func (.func f) a c => if a.size = 0 ∧ c.size = 0 then some (.fn f [] []) else none
  | _ => none
def absCells : List Value → Option (List Cell)
  | [] => some []
  | v :: vs => match absCell v, absCells vs with
    | some c, some cs => some (c :: cs)
    | _, _ => none
def absVal : Value → Option AVal
  | .agg cs => (absCells cs.toList).map .agg
  | v => (absCell v).map .c
theorem absCell_CR {ρ : Ren} {v : Value} {x : Cell} (h : absCell v = some x) : CR ρ x v := by
  unfold absCell at h
  split at h <;> (try simp at h) <;> (try (subst h; rfl))
  rename_i f a c
  obtain ⟨⟨h1, h2⟩, rfl⟩ := h
  refine ⟨a, c, rfl, ?_, ?_⟩
  · simp [h1, All2]
  · simp [h2, All2]
theorem absCells_CR {ρ : Ren} : ∀ {vs : List Value} {cs : List Cell}, absCells vs = some cs → All2 (CR ρ) cs vs
  | [], cs, h => by simp [absCells] at h; subst h; trivial
  | v :: vs, cs, h => by
    simp only [absCells] at h
    split at h
    · rename_i c cs' h1 h2
      simp at h; subst h
      exact ⟨absCell_CR h1, absCells_CR h2⟩
    · simp at h
theorem absVal_VR {ρ : Ren} {v : Value} {x : AVal} (h : absVal v = some x) : VR ρ x v := by
  unfold absVal at h
  split at h
  · rename_i cs
    simp only [Option.map_eq_some_iff] at h
    obtain ⟨l, hl, rfl⟩ := h
    exact ⟨cs, rfl, absCells_CR hl⟩
  · simp only [Option.map_eq_some_iff] at h
    obtain ⟨l, hl, rfl⟩ := h
    exact VR.of_CR (absCell_CR hl)
def absOpd : Operand → Option Opd
  | .tmp t => some (.t t)
  | .const v => (absVal v).map .k
  | .func f => some (.f f)
  | .global _ => none
theorem ev_VR {ρ : Ren} {e : Env} {a : Act} (he : EnvR ρ e a.tmps) {o : Operand} {x : Opd} (h : absOpd o = some x) : VR ρ (ev e x) (a.eval o) := by
  cases o with
  | tmp t => simp [absOpd] at h; subst h; exact he t
  | const v =>
    simp only [absOpd, Option.map_eq_some_iff] at h
    obtain ⟨l, hl, rfl⟩ := h
    exact absVal_VR hl
  | global g => simp [absOpd] at h
  | func f =>
    simp [absOpd] at h; subst h
    exact ⟨#[], #[], rfl, trivial, trivial⟩

/-! ### The abstract heap -/
theorem nbeq (a b : Nat) : Nat.beq a b = decide (a = b) := by
  rw [Bool.eq_iff_iff, decide_eq_true_iff]; exact ⟨Nat.eq_of_beq_eq_true, fun h => h ▸ Nat.beq_refl a⟩
theorem bif_decide {α : Type} (p : Prop) [Decidable p] (a b : α) : (bif decide p then a else b) = if p then a else b := by
  by_cases h : p <;> simp [h]
theorem Tr.get_set : ∀ (f : Nat) (t : Tr) (k : Nat) (o : AObj), k < f → ∀ j, (Tr.set f t k o).get j = if j = k then some o else t.get j
  | 0, _, _, _, hk, _ => absurd hk (by omega)
  | f + 1, .e, k, o, hk, j => by
    have e1 : (Nat.beq k 0) = decide (k = 0) := nbeq _ _
    have e2 : (Nat.beq (k % 2) 1) = decide (k % 2 = 1) := nbeq _ _
    have j1 : (Nat.beq j 0) = decide (j = 0) := nbeq _ _
    have j2 : (Nat.beq (j % 2) 1) = decide (j % 2 = 1) := nbeq _ _
    simp only [Tr.set, e1, e2, bif_decide]
    split
    · subst_vars; simp only [Tr.get, j1, j2, bif_decide]; split <;> simp
    · split
      · simp only [Tr.get, j1, j2, bif_decide]
        rw [Tr.get_set f .e (k / 2) o (by omega)]
        repeat' split
        all_goals first | rfl | (exfalso; omega) | (simp [Tr.get]; done)
      · simp only [Tr.get, j1, j2, bif_decide]
        rw [Tr.get_set f .e (k / 2 - 1) o (by omega)]
        repeat' split
        all_goals first | rfl | (exfalso; omega) | (simp [Tr.get]; done)
  | f + 1, .n l v r, k, o, hk, j => by
    have e1 : (Nat.beq k 0) = decide (k = 0) := nbeq _ _
    have e2 : (Nat.beq (k % 2) 1) = decide (k % 2 = 1) := nbeq _ _
    have j1 : (Nat.beq j 0) = decide (j = 0) := nbeq _ _
    have j2 : (Nat.beq (j % 2) 1) = decide (j % 2 = 1) := nbeq _ _
    simp only [Tr.set, e1, e2, bif_decide]
    split
    · subst_vars; simp only [Tr.get, j1, j2, bif_decide]
      repeat' split
      all_goals first | rfl | (exfalso; omega)
    · split
      · simp only [Tr.get, j1, j2, bif_decide]
        rw [Tr.get_set f l (k / 2) o (by omega)]
        repeat' split
        all_goals first | rfl | (exfalso; omega)
      · simp only [Tr.get, j1, j2, bif_decide]
        rw [Tr.get_set f r (k / 2 - 1) o (by omega)]
        repeat' split
        all_goals first | rfl | (exfalso; omega)
theorem Hp.get_set (h : Hp) (b : Nat) (o : AObj) (c : Nat) : (h.set b o).get c = if c = b then some o else h.get c := by
  unfold Hp.get Hp.set
  exact Tr.get_set (b + 1) h.t b o (by omega) c
theorem Hp.get_alloc (h : Hp) (o : AObj) (c : Nat) : (h.alloc o).get c = if c = h.next then some o else h.get c := by
  unfold Hp.get Hp.alloc
  exact Tr.get_set (h.next + 1) h.t h.next o (by omega) c
theorem Hp.next_alloc (h : Hp) (o : AObj) : (h.alloc o).next = h.next + 1 := rfl
theorem Hp.next_set (h : Hp) (b : Nat) (o : AObj) : (h.set b o).next = h.next := rfl
end Go.Proofs.YtjlebgfbohihfaaGreat.Am
