/-
  The heap relation; loads, stores and new blocks under it.
-/
import Derived.Test.YtjlebgfbohihfaaGreatAmB
namespace Go.Proofs.YtjlebgfbohihfaaGreat.Am
open Go
set_option linter.unusedVariables false
set_option linter.unusedSimpArgs false

theorem setAt_length {α : Type} : ∀ (vs cs : List α) (o : Nat), (setAt cs o vs).length = cs.length
  | [], _, _ => rfl
  | v :: vs, cs, o => by simp only [setAt]; rw [setAt_length vs]; simp
theorem setAt_get {α : Type} : ∀ (vs cs : List α) (o i : Nat), o + vs.length ≤ cs.length → (setAt cs o vs)[i]? = if o ≤ i ∧ i < o + vs.length then vs[i - o]? else cs[i]?
  | [], cs, o, i, _ => by simp only [setAt, List.length_nil]; rw [if_neg (by omega)]
  | v :: vs, cs, o, i, h => by
    simp only [setAt, List.length_cons] at h ⊢
    rw [setAt_get vs _ _ _ (by simp; omega)]
    by_cases h1 : o + 1 ≤ i ∧ i < o + 1 + vs.length
    · rw [if_pos h1, if_pos (by omega), show i - o = (i - (o + 1)) + 1 from by omega]; simp
    · rw [if_neg h1]
      by_cases h2 : i = o
      · subst h2; rw [if_pos ⟨Nat.le_refl _, by omega⟩, Nat.sub_self, List.getElem?_set_self (by omega)]; rfl
      · rw [if_neg (by omega), List.getElem?_set_ne (by omega)]

theorem modify_eq {α : Type} (xs : Array α) (b : Nat) (f : α → α) (o : α) (h : xs[b]? = some o) : xs.modify b f = xs.setIfInBounds b (f o) := by
  apply Array.ext_getElem?
  intro i
  rw [Array.getElem?_modify, Array.getElem?_setIfInBounds]
  by_cases hi : b = i
  · subst hi
    have hlt : b < xs.size := by
      rcases Nat.lt_or_ge b xs.size with h' | h'
      · exact h'
      · rw [Array.getElem?_eq_none h'] at h; cases h
    have he : xs[b] = o := by simpa [Array.getElem?_eq_getElem hlt] using h
    simp [hlt, he]
  · simp [hi]

theorem add_none (b o i : Nat) : (⟨b, o, none⟩ : Addr).add i = ⟨b, o + i, none⟩ := by
  unfold Addr.add; split
  · subst_vars; rfl
  · rfl

theorem run_storeCells_free {P : Program} (b : Nat) (elem : TypeId) (fr : Nat × Nat) (o : Nat) : ∀ (vs : List Value) (i : Nat) (C : Array Value) (w : World),
    w.heap[b]? = some (.cells C elem fr) → (∀ j, j < C.size → ¬(fr.1 ≤ j ∧ j < fr.2)) → o + i + vs.length ≤ C.size → (∀ v ∈ vs, scalar v) →
    (storeCells ⟨b, o, none⟩ vs i).run P w = .ok () { w with heap := w.heap.setIfInBounds b (.cells (setAt C.toList (o + i) vs).toArray elem fr) }
  | [], i, C, w, hb, _, _, _ => by
    have : w.heap.setIfInBounds b (.cells C elem fr) = w.heap := by
      apply Array.ext_getElem?
      intro j
      rw [Array.getElem?_setIfInBounds]
      split
      · subst_vars; split
        · exact hb.symm
        · rename_i h; rw [Array.getElem?_eq_none (by omega)]
      · rfl
    simp [storeCells, setAt, this]
  | v :: vs, i, C, w, hb, hf, hl, hs => by
    simp only [List.length_cons] at hl
    have hcell : w.cell? ⟨b, o + i, none⟩ = some (C[o + i]'(by omega)) := by
      simp [World.cell?, hb]
    have hfz : w.frozen? ⟨b, o + i, none⟩ = false := by
      have := hf (o + i) (by omega)
      simp only [World.frozen?, hb]
      obtain ⟨lo, hi⟩ := fr
      simp at this ⊢
      exact this
    have hset : w.setCell ⟨b, o + i, none⟩ v = { w with heap := w.heap.setIfInBounds b (.cells (C.setIfInBounds (o + i) v) elem fr) } := by
      unfold World.setCell
      rw [modify_eq _ _ _ _ hb]
      simp
    have hlt : b < w.heap.size := by
      rcases Nat.lt_or_ge b w.heap.size with h' | h'
      · exact h'
      · rw [Array.getElem?_eq_none h'] at hb; cases hb
    simp only [storeCells, add_none, Sem.run_bind, run_store P w _ v .plain (hs v (by simp)).one, hcell, hfz, Bool.false_eq_true, if_false, Result.andThen_ok, hset]
    rw [run_storeCells_free b elem fr o vs (i + 1) (C.setIfInBounds (o + i) v) _ (by simp [hlt]) (by simpa using hf) (by simp; omega) (fun u hu => hs u (by simp [hu]))]
    congr 1
    simp [setAt, Nat.add_assoc]

def OR (ρ : Ren) (r : RB) (H : Array Obj) : AObj → Prop
  | .cells cs x => ∃ C elem fr, H[r.blk]? = some (.cells C elem fr) ∧ r.size = C.size ∧ r.exact = x ∧ r.off + cs.length ≤ C.size ∧
      (x = true → r.off = 0 ∧ cs.length = C.size) ∧ (∀ j, j < C.size → ¬(fr.1 ≤ j ∧ j < fr.2)) ∧
      ∀ (i : Nat) (c : Cell), cs[i]? = some c → ∃ v, C[r.off + i]? = some v ∧ CR ρ c v
  | .map es => ∃ ES clock, H[r.blk]? = some (.map ES clock) ∧ All2 (fun (e : Cell × AVal) (E : MapEntry) => e.2.one = true ∧ CR ρ e.1 E.key ∧ VR ρ e.2 E.val) es ES.toList
  | .siter s pos => r.off = 0 ∧ H[r.blk]? = some (.stringIter ⟨s.toArray⟩ pos)
  | .dead => True
theorem OR.mono {ρ ρ' : Ren} {r : RB} {H H' : Array Obj} {o : AObj} (hρ : ρ.le ρ') (hH : H'[r.blk]? = H[r.blk]?) (h : OR ρ r H o) : OR ρ' r H' o := by
  cases o with
  | cells cs x =>
    obtain ⟨C, elem, fr, h1, h2, h3, h4, h5, h6, h7⟩ := h
    exact ⟨C, elem, fr, by rw [hH]; exact h1, h2, h3, h4, h5, h6, fun i c hc => let ⟨v, hv, hr⟩ := h7 i c hc; ⟨v, hv, hr.mono hρ⟩⟩
  | map es =>
    obtain ⟨ES, clock, h1, h2⟩ := h
    exact ⟨ES, clock, by rw [hH]; exact h1, h2.mono fun e E ⟨a, c, d⟩ => ⟨a, c.mono hρ, d.mono hρ⟩⟩
  | siter s pos => exact ⟨h.1, by rw [hH]; exact h.2⟩
  | dead => trivial

structure Rel (ρ : Ren) (h : Hp) (H : Array Obj) : Prop where
  lt : ∀ b r, ρ b = some r → b < h.next ∧ r.blk < H.size
  inj : ∀ b b' r r' o o', ρ b = some r → ρ b' = some r' → r.blk = r'.blk → h.get b = some o → h.get b' = some o' → o ≠ .dead → o' ≠ .dead → b = b'
  ob : ∀ b r o, ρ b = some r → h.get b = some o → OR ρ r H o

def Ren.add (ρ : Ren) (n : Nat) (r : RB) : Ren := fun b => if b = n then some r else ρ b
theorem Ren.add_same (ρ : Ren) (n : Nat) (r : RB) : ρ.add n r n = some r := by simp [Ren.add]
theorem Ren.add_le {ρ : Ren} {n : Nat} {r : RB} (h : ρ n = none) : ρ.le (ρ.add n r) := by
  intro b s hb; unfold Ren.add; split
  · subst_vars; rw [h] at hb; cases hb
  · exact hb
theorem Rel.fresh {ρ : Ren} {h : Hp} {H : Array Obj} (hR : Rel ρ h H) : ρ h.next = none := by
  cases e : ρ h.next with
  | none => rfl
  | some r => exact absurd (hR.lt _ _ e).1 (by omega)

/-- What became of the world; n, n': how many abstract blocks there were, and are. -/
structure Grow (ρ : Ren) (n : Nat) (w : World) (ρ' : Ren) (n' : Nat) (w' : World) : Prop where
  le : ρ.le ρ'
  size : w.heap.size ≤ w'.heap.size
  new : ∀ b r, ρ' b = some r → (∃ b0 r0, ρ b0 = some r0 ∧ r0.blk = r.blk) ∨ w.heap.size ≤ r.blk
  frame : ∀ i, i < w.heap.size → (∀ b r, ρ b = some r → r.blk ≠ i) → w'.heap[i]? = w.heap[i]?
  tape : w'.tape = w.tape
  os : w'.os = w.os
  output : w'.output = w.output
  nx : n ≤ n'
  fresh : ∀ b r, ρ' b = some r → ρ b = some r ∨ n ≤ b
theorem Grow.refl (ρ : Ren) (n : Nat) (w : World) : Grow ρ n w ρ n w :=
  ⟨Ren.le.refl _, Nat.le_refl _, fun b r h => .inl ⟨b, r, h, rfl⟩, fun _ _ _ => rfl, rfl, rfl, rfl, Nat.le_refl _, fun _ _ h => .inl h⟩
theorem Grow.trans {ρ ρ' ρ'' : Ren} {n n' n'' : Nat} {w w' w'' : World} (h : Grow ρ n w ρ' n' w') (h' : Grow ρ' n' w' ρ'' n'' w'') : Grow ρ n w ρ'' n'' w'' := by
  refine ⟨h.le.trans h'.le, Nat.le_trans h.size h'.size, ?_, ?_, h'.tape.trans h.tape, h'.os.trans h.os, h'.output.trans h.output, Nat.le_trans h.nx h'.nx, ?_⟩
  · intro b r hb
    rcases h'.new b r hb with ⟨b0, r0, h0, e0⟩ | hlt
    · rcases h.new b0 r0 h0 with ⟨b1, r1, h1, e1⟩ | hlt
      · exact .inl ⟨b1, r1, h1, e1.trans e0⟩
      · exact .inr (e0 ▸ hlt)
    · exact .inr (Nat.le_trans h.size hlt)
  · intro i hi hn
    rw [h'.frame i (Nat.lt_of_lt_of_le hi h.size) ?_, h.frame i hi hn]
    intro b r hb heq
    rcases h.new b r hb with ⟨b1, r1, h1, e1⟩ | hlt
    · exact hn b1 r1 h1 (e1.trans heq)
    · omega
  · intro b r hb
    rcases h'.fresh b r hb with h1 | h1
    · exact h.fresh b r h1
    · exact .inr (Nat.le_trans h.nx h1)

theorem Rel.alloc {ρ : Ren} {h : Hp} {H H' : Array Obj} (hR : Rel ρ h H) {o : AObj} {O : Obj} {r : RB} (hr : r.blk = H.size) (hH : H' = H.push O)
    (ho : OR (ρ.add h.next r) r H' o) : Rel (ρ.add h.next r) (h.alloc o) H' := by
  have hold : ∀ b s, ρ b = some s → b ≠ h.next ∧ H'[s.blk]? = H[s.blk]? := by
    intro b s hb
    have := hR.lt b s hb
    refine ⟨by omega, ?_⟩
    rw [hH, Array.getElem?_push]
    rw [if_neg (by omega)]
  refine ⟨?_, ?_, ?_⟩
  · intro b s hb
    unfold Ren.add at hb
    split at hb
    · simp at hb; subst hb; subst_vars; simp [Hp.next_alloc]; omega
    · have := hR.lt b s hb
      subst hH; simp [Hp.next_alloc]; omega
  · intro b b' s s' p p' hb hb' e hp hp' hd hd'
    rw [Hp.get_alloc] at hp hp'
    unfold Ren.add at hb hb'
    split at hb
    · split at hb'
      · omega
      · simp at hb; subst hb
        have := (hR.lt _ _ hb').2
        omega
    · split at hb'
      · simp at hb'; subst hb'
        have := (hR.lt _ _ hb).2
        omega
      · rw [if_neg ‹_›] at hp hp'
        exact hR.inj b b' s s' p p' hb hb' e hp hp' hd hd'
  · intro b s p hb hp
    rw [Hp.get_alloc] at hp
    by_cases hbn : b = h.next
    · subst hbn
      rw [if_pos rfl] at hp
      simp at hp; subst hp
      rw [Ren.add_same] at hb; simp at hb; subst hb
      exact ho
    · rw [if_neg hbn] at hp
      unfold Ren.add at hb; rw [if_neg hbn] at hb
      exact (hR.ob b s p hb hp).mono (Ren.add_le hR.fresh) (hold b s hb).2
theorem Grow.alloc {ρ : Ren} {h : Hp} {w w' : World} (hR : Rel ρ h w.heap) {O : Obj} {r : RB} (hr : r.blk = w.heap.size) (hH : w'.heap = w.heap.push O)
    (ht : w'.tape = w.tape) (hos : w'.os = w.os) (hout : w'.output = w.output) : Grow ρ h.next w (ρ.add h.next r) (h.next + 1) w' := by
  refine ⟨Ren.add_le hR.fresh, by rw [hH]; simp, ?_, ?_, ht, hos, hout, Nat.le_succ _, ?_⟩
  · intro b s hb
    unfold Ren.add at hb
    split at hb
    · simp at hb; subst hb; exact .inr (by omega)
    · exact .inl ⟨b, s, hb, rfl⟩
  · intro i hi _
    rw [hH, Array.getElem?_push, if_neg (by omega)]
  · intro b s hb
    unfold Ren.add at hb
    split at hb
    · rename_i h1; exact .inr (by omega)
    · exact .inl hb

theorem Rel.set {ρ : Ren} {h : Hp} {H H' : Array Obj} (hR : Rel ρ h H) {b : Nat} {r : RB} {o o' : AObj} (hr : ρ b = some r) (hb : h.get b = some o) (hd : o ≠ .dead)
    (hsz : H'.size = H.size) (hoth : ∀ i, i ≠ r.blk → H'[i]? = H[i]?) (ho : OR ρ r H' o') : Rel ρ (h.set b o') H' := by
  refine ⟨?_, ?_, ?_⟩
  · intro c s hc; have := hR.lt c s hc; rw [Hp.next_set, hsz]; exact this
  · intro c c' s s' p p' hc hc' e hp hp' hd1 hd2
    rw [Hp.get_set] at hp hp'
    by_cases h1 : c = b
    · by_cases h2 : c' = b
      · omega
      · subst h1; rw [if_neg h2] at hp'
        exact hR.inj c c' s s' o p' hc hc' e hb hp' hd hd2
    · by_cases h2 : c' = b
      · subst h2; rw [if_neg h1] at hp
        exact hR.inj c c' s s' p o hc hc' e hp hb hd1 hd
      · rw [if_neg h1] at hp; rw [if_neg h2] at hp'
        exact hR.inj c c' s s' p p' hc hc' e hp hp' hd1 hd2
  · intro c s p hc hp
    rw [Hp.get_set] at hp
    by_cases h1 : c = b
    · subst h1; rw [if_pos rfl] at hp; simp at hp; subst hp
      rw [hr] at hc; simp at hc; subst hc; exact ho
    · rw [if_neg h1] at hp
      by_cases hpd : p = .dead
      · subst hpd; trivial
      · refine (hR.ob c s p hc hp).mono (Ren.le.refl _) (hoth _ ?_)
        intro e
        exact h1 (hR.inj c b s r p o hc hr e hp hb hpd hd)
theorem Grow.set {ρ : Ren} {n : Nat} {w w' : World} {b : Nat} {r : RB} (hr : ρ b = some r) (hsz : w'.heap.size = w.heap.size)
    (hoth : ∀ i, i ≠ r.blk → w'.heap[i]? = w.heap[i]?) (ht : w'.tape = w.tape) (hos : w'.os = w.os) (hout : w'.output = w.output) : Grow ρ n w ρ n w' :=
  ⟨Ren.le.refl _, by omega, fun b r h => .inl ⟨b, r, h, rfl⟩, fun i _ hn => hoth i fun e => hn b r hr e.symm, ht, hos, hout, Nat.le_refl _, fun _ _ h => .inl h⟩

/-! ### Loads -/
theorem cell_load {ρ : Ren} {h : Hp} {w : World} (hR : Rel ρ h w.heap) {b o : Nat} {r : RB} {cs : List Cell} {x : Bool} {c : Cell} (hr : ρ b = some r)
    (hb : h.get b = some (.cells cs x)) (hc : cs[o]? = some c) : ∃ v, w.cell? ⟨r.blk, r.off + o, none⟩ = some v ∧ CR ρ c v := by
  obtain ⟨C, elem, fr, h1, _, _, _, _, _, h7⟩ := hR.ob b r _ hr hb
  obtain ⟨v, hv, hcr⟩ := h7 o c hc
  exact ⟨v, by simp [World.cell?, h1, hv], hcr⟩
theorem cells_load {P : Program} {ρ : Ren} {h : Hp} {w : World} (hR : Rel ρ h w.heap) {b o n : Nat} {r : RB} {cs : List Cell} {x : Bool} (hr : ρ b = some r)
    (hb : h.get b = some (.cells cs x)) (hn : o + n ≤ cs.length) :
    ∃ us : List Value, (∀ w' : World, w'.heap = w.heap → (loadCells ⟨r.blk, r.off + o, none⟩ n).run P w' = .ok us.toArray w') ∧ us.length = n ∧ All2 (CR ρ) ((cs.drop o).take n) us ∧ ∀ j v, us[j]? = some v → w.cell? ⟨r.blk, r.off + o + j, none⟩ = some v := by
  obtain ⟨C, elem, fr, h1, _, _, h4, _, _, h7⟩ := hR.ob b r _ hr hb
  refine ⟨(C.toList.drop (r.off + o)).take n, ?_, ?_, ?_, ?_⟩
  · intro w' hw'
    have hl : ((C.toList.drop (r.off + o)).take n).length = n := by simp; omega
    have := run_loadCells_list (P := P) w' ⟨r.blk, r.off + o, none⟩ ((C.toList.drop (r.off + o)).take n) (by
      intro j v hv
      rw [add_none]
      simp only [World.cell?, hw', h1]
      simp only [List.getElem?_take] at hv
      split at hv
      · simp at hv; simpa using hv
      · simp at hv)
    rw [hl] at this
    exact this
  · simp; omega
  · refine All2.of_get (by simp; omega) ?_
    intro i a v ha hv
    simp only [List.getElem?_take, List.getElem?_drop] at ha hv
    split at ha
    · rename_i hi
      rw [if_pos hi] at hv
      obtain ⟨u, hu, hcr⟩ := h7 (o + i) a ha
      simp only [Array.getElem?_toList] at hv
      rw [show r.off + (o + i) = r.off + o + i from by omega, hv] at hu
      simp at hu; subst hu; exact hcr
    · simp at ha
  · intro j v hv
    simp only [World.cell?, h1]
    simp only [List.getElem?_take] at hv
    split at hv
    · simp at hv; simpa using hv
    · simp at hv

/-! ### Stores -/
theorem All2.scalars {ρ : Ren} : ∀ {vs : List Cell} {us : List Value}, All2 (CR ρ) vs us → ∀ u ∈ us, scalar u
  | [], [], _, _, hu => by simp at hu
  | _ :: _, _ :: _, h, u, hu => by
    simp at hu
    rcases hu with rfl | hu
    · exact h.1.scalar
    · exact All2.scalars h.2 u hu
theorem cells_store {P : Program} {ρ : Ren} {h h' : Hp} {w : World} (hR : Rel ρ h w.heap) {b o : Nat} {r : RB} {vs : List Cell} {us : List Value} (hr : ρ b = some r)
    (hs : storeTo h b o vs = some h') (hv : All2 (CR ρ) vs us) :
    ∃ w', (storeCells ⟨r.blk, r.off + o, none⟩ us).run P w = .ok () w' ∧ Rel ρ h' w'.heap ∧ Grow ρ h.next w ρ h'.next w' := by
  unfold storeTo at hs
  split at hs
  · rename_i cs x hb
    split at hs
    · rename_i hle
      simp at hs; subst hs
      obtain ⟨C, elem, fr, h1, h2, h3, h4, h5, h6, h7⟩ := hR.ob b r _ hr hb
      have hlen := hv.length
      have hlt := (hR.lt b r hr).2
      have hrun := run_storeCells_free (P := P) r.blk elem fr (r.off + o) us 0 C w h1 h6 (by omega) hv.scalars
      refine ⟨_, hrun, ?_, ?_⟩
      · refine hR.set hr hb (by simp) (by simp) (fun i hi => by rw [Array.getElem?_setIfInBounds, if_neg (Ne.symm hi)]) ?_
        refine ⟨(setAt C.toList (r.off + o) us).toArray, elem, fr, by simp [hlt], ?_, h3, ?_, ?_, ?_, ?_⟩
        · simp [setAt_length, h2]
        · simp [setAt_length]; exact h4
        · intro hx; have := h5 hx; simp [setAt_length]; exact this
        · simpa [setAt_length] using h6
        · intro i c hc
          rw [setAt_get _ _ _ _ hle] at hc
          simp only [List.getElem?_toArray]
          rw [setAt_get _ _ _ _ (by simp; omega)]
          split at hc
          · rename_i hi
            rw [if_pos (by omega), show r.off + i - (r.off + o) = i - o from by omega]
            exact hv.get hc
          · rename_i hi
            rw [if_neg (by omega)]
            simpa using h7 i c hc
      · exact Grow.set hr (by simp) (fun i hi => by simp only; rw [Array.getElem?_setIfInBounds, if_neg (Ne.symm hi)]) rfl rfl rfl
    · simp at hs
  · simp at hs
end Go.Proofs.YtjlebgfbohihfaaGreat.Am
