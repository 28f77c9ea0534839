/-
  New blocks, stores, appends: what writes or makes memory comes to the same in the model.
-/
import Derived.Test.YtjlebgfbohihfaaGreatAmI
namespace Go.Proofs.YtjlebgfbohihfaaGreat.Am
open Go
set_option linter.unusedVariables false
set_option linter.unusedSimpArgs false

section
variable {P : Program} {ρ : Ren} {h : Hp} {w : World} {e : Env} {a : Act}

theorem OR_cells {ρ : Ren} {H : Array Obj} {blk : Nat} {cs : List Cell} {C : Array Value} {elem : TypeId} (hH : H[blk]? = some (.cells C elem)) (hc : All2 (CR ρ) cs C.toList) :
    OR ρ ⟨blk, 0, C.size, true⟩ H (.cells cs true) := by
  have hl : cs.length = C.size := by simpa using hc.length
  refine ⟨C, elem, (0, 0), hH, rfl, rfl, (by show 0 + cs.length ≤ C.size; omega), fun _ => ⟨rfl, hl⟩, fun j _ => by simp, ?_⟩
  intro i c hic
  obtain ⟨v, hv, hr⟩ := hc.get hic
  exact ⟨v, by simpa using hv, hr⟩

theorem reps_length : ∀ (n : Nat) (zs : List Cell), (reps n zs).length = n * zs.length
  | 0, _ => by simp [reps]
  | n + 1, zs => by simp [reps, reps_length n zs, Nat.add_mul, Nat.add_comm]
theorem reps_get : ∀ (n : Nat) (zs : List Cell) (i : Nat), i < n * zs.length → (reps n zs)[i]? = zs[i % zs.length]?
  | 0, _, i, hi => by simp at hi
  | n + 1, zs, i, hi => by
    simp only [reps]
    by_cases h : i < zs.length
    · rw [List.getElem?_append_left h, Nat.mod_eq_of_lt h]
    · have hpos : 0 < zs.length := by
        rcases Nat.eq_zero_or_pos zs.length with h0 | h0
        · rw [h0] at hi; simp at hi
        · exact h0
      rw [List.getElem?_append_right (by omega), reps_get n zs (i - zs.length) (by rw [Nat.succ_mul] at hi; omega), (Nat.mod_eq_sub_mod (by omega) : i % zs.length = (i - zs.length) % zs.length)]
theorem reps_sound {zs : List Cell} {z : Array Value} (hz : All2 (CR ρ) zs z.toList) (hpos : 0 < zs.length) (n m : Nat) (hm : m = n * zs.length) :
    All2 (CR ρ) (reps n zs) ((Array.range m).map (z[· % z.size]!)).toList := by
  have hl : zs.length = z.size := by simpa using hz.length
  subst hm
  refine All2.of_get (by simp [reps_length]) ?_
  intro i c v hc hv
  have hi : i < n * zs.length := by
    rcases Nat.lt_or_ge i (reps n zs).length with h | h
    · rwa [reps_length] at h
    · rw [List.getElem?_eq_none h] at hc; cases hc
  rw [reps_get n zs i hi] at hc
  simp only [Array.toList_map, Array.toList_range, List.getElem?_map, List.getElem?_range hi, Option.map_some, Option.some.injEq] at hv
  obtain ⟨v', hv', hr⟩ := hz.get hc
  simp only [Array.getElem?_toList] at hv'
  have hlt : i % z.size < z.size := Nat.mod_lt _ (by omega)
  rw [← hv]
  rw [hl] at hv'
  have : z[i % z.size]! = v' := by
    rw [getElem!_pos z _ hlt]
    rw [Array.getElem?_eq_getElem hlt] at hv'
    simpa using hv'
  rw [this]; exact hr

theorem range0_map {α : Type} (f : Nat → α) : (Array.range 0).map f = #[] := by apply Array.ext'; simp
/-- An operation that makes a new block out of its operands alone. -/
theorem new_sound (hE : EnvR ρ e a.tmps) {o : Oper} {op : AOp} {ob : AObj} {f : Nat → AVal} (ho : absOp P o.op = some op) (hv : newOp e op = some (ob, f)) :
    ∃ (u : Value) (O : Obj) (r : RB), (execOp a.eval o).run P w = .ok (.value u) { w with heap := w.heap.push O } ∧ r.blk = w.heap.size ∧
      (∀ ρ' : Ren, ρ.le ρ' → ∀ H : Array Obj, H[w.heap.size]? = some O → OR ρ' r H ob) ∧ (∀ (n : Nat) (ρ' : Ren), ρ' n = some r → VR ρ' (f n) u) ∧ ob ≠ .dead := by
  obtain ⟨dst, oop, type, pos, after, guard⟩ := o
  cases oop with
  | alloc t =>
    simp only [absOp, Option.map_eq_some_iff] at ho
    obtain ⟨zs, hzs, rfl⟩ := ho
    simp [newOp] at hv
    obtain ⟨rfl, rfl⟩ := hv
    obtain ⟨z, hz, hzc, _⟩ := run_zeroValue (P := P) hzs w
    refine ⟨.pointer (some ⟨w.heap.size, 0, none⟩), .cells z.cells t, ⟨w.heap.size, 0, z.cells.size, true⟩, ?_, rfl, ?_, ?_, by simp⟩
    · exact val_run (by simp [Instr.alloc, hz, newVar, newRow])
    · intro ρ' hle H hH; exact OR_cells hH (absCells_CR hzc)
    · intro n ρ' hn; exact ⟨_, hn, by simp⟩
  | box t x =>
    simp only [absOp, Option.map_eq_some_iff] at ho
    obtain ⟨y, hy, rfl⟩ := ho
    simp only [newOp] at hv
    split at hv
    · rename_i h1
      simp at hv
      obtain ⟨rfl, rfl⟩ := hv
      have hx := ev_VR hE hy
      refine ⟨.pointer (some ⟨w.heap.size, 0, none⟩), .cells (a.eval x).cells t, ⟨w.heap.size, 0, (a.eval x).cells.size, true⟩, ?_, rfl, ?_, ?_, by simp⟩
      · exact val_run (by simp [Instr.box, newVar, newRow])
      · intro ρ' hle H hH; exact OR_cells hH ((hx.mono hle).cells h1)
      · intro n ρ' hn; exact ⟨_, hn, by simp⟩
    · simp at hv
  | buildSlice t len ps =>
    simp only [absOp] at ho
    split at ho
    · rename_i el hu
      split at ho
      · rename_i zs hzs
        split at ho
        · rename_i hsz
          simp only [Option.map_eq_some_iff] at ho
          obtain ⟨l, hl, rfl⟩ := ho
          simp only [newOp, Option.map_eq_some_iff] at hv
          obtain ⟨cs, hcs, hv⟩ := hv
          simp at hv
          obtain ⟨rfl, rfl⟩ := hv
          obtain ⟨z, hz, hzc, hs⟩ := run_zeroValue (P := P) hzs w
          have hzc' : All2 (CR ρ) zs z.cells.toList := absCells_CR hzc
          obtain ⟨C, hC, hall⟩ := fill_sound hE hl hcs (by
            have := reps_sound hzc' hsz.1 len (len * zs.length) rfl
            exact this)
          refine ⟨.slice (some ⟨w.heap.size, 0, none⟩) len len, .cells C el, ⟨w.heap.size, 0, C.size, true⟩, ?_, rfl, ?_, ?_, by simp⟩
          · refine val_run ?_
            have hn : ¬ (len * zs.length > 2 ^ 24) := by have := hsz.2; omega
            have hC' : Instr.fill (fun i => some (i * zs.length, zs.length)) ((Array.range (len * zs.length)).map (z.cells[· % z.cells.size]!)) (ps.map fun (p : Nat × Operand) => (p.1, a.eval p.2)).toList = some C := by
              rw [← hC, Array.toList_map]
            simp only [Instr.buildSlice, Sem.run_bind, run_underlying hu, Result.andThen_ok, run_sizeOf hs]
            rw [if_neg hn]
            by_cases h0 : len * zs.length = 0
            · rw [if_pos h0]
              rw [h0, range0_map] at hC'
              simp only [Sem.run_bind, Sem.run_pure, Result.andThen_ok, h0, range0_map]
              rw [hC']
              rfl
            · rw [if_neg h0]
              simp only [Sem.run_bind, Sem.run_pure, Result.andThen_ok, hz]
              rw [hC']
              rfl
          · intro ρ' hle H hH; exact OR_cells hH (hall.mono fun _ _ => CR.mono hle)
          · intro n ρ' hn
            have hCl : C.size = len * zs.length := by
              have h1 : cs.length = C.size := by simpa using hall.length
              have h2 : ∀ (l : List (Nat × Nat × Opd)) (c c' : List Cell), fillAt e c l = some c' → c'.length = c.length := by
                intro l
                induction l with
                | nil => intro c c' h; simp [fillAt] at h; rw [h]
                | cons p l ih =>
                  intro c c' h
                  obtain ⟨off, size, x⟩ := p
                  simp only [fillAt] at h
                  rw [Bool.cond_eq_ite] at h
                  split at h
                  · rw [ih _ _ h, setAt_length]
                  · simp at h
              have := h2 _ _ _ hcs
              rw [reps_length] at this; omega
            refine ⟨_, 0, len, hn, rfl, Nat.le_refl _, Nat.le_refl _, fun _ => rfl, ?_, .inl (by simp)⟩
            simp; omega
        · simp at ho
      · simp at ho
    · simp at ho
  | makeMap t r =>
    cases r with
    | none =>
      simp [absOp] at ho; subst ho
      simp [newOp] at hv
      obtain ⟨rfl, rfl⟩ := hv
      refine ⟨.map (some w.heap.size), .map #[] 0, ⟨w.heap.size, 0, 0, true⟩, val_run rfl, rfl, ?_, ?_, by simp⟩
      · intro ρ' hle H hH; exact ⟨#[], 0, hH, trivial⟩
      · intro n ρ' hn; exact ⟨_, hn, rfl⟩
    | some r => simp [absOp] at ho
  | makeSlice t l c =>
    simp only [absOp] at ho
    split at ho
    · rename_i el hu
      split at ho
      · rename_i zs bytes l' c' hzs hby hl hc
        split at ho
        · rename_i hpos
          simp at ho; subst ho
          simp only [newOp] at hv
          split at hv
          · rename_i lv cv hle hce
            split at hv
            · rename_i hcond
              simp at hv
              obtain ⟨rfl, rfl⟩ := hv
              have hlv := ev_VR hE hl
              have hcv := ev_VR hE hc
              rw [hle] at hlv; rw [hce] at hcv
              have hlv := hlv.int
              have hcv := hcv.int
              obtain ⟨z, hz, hzc, hs⟩ := run_zeroValue (P := P) hzs w
              have hzc' : All2 (CR ρ) zs z.cells.toList := absCells_CR hzc
              obtain ⟨h0, h1, h2, h3⟩ := hcond
              have hwl : IntKind.i64.wrap lv = lv := by simp [IntKind.wrap, IntKind.bits, IntKind.signed]; omega
              have hwc : IntKind.i64.wrap cv = cv := by simp [IntKind.wrap, IntKind.bits, IntKind.signed]; omega
              unfold bytesT at hby
              simp only [Option.map_eq_some_iff] at hby
              obtain ⟨i, hi, hib⟩ := hby
              have hrun : (Instr.makeSlice t (.int .i64 lv) (.int .i64 cv)).run P w = .ok (.slice (some ⟨w.heap.size, 0, none⟩) lv.toNat cv.toNat)
                  { w with heap := w.heap.push (.cells ((Array.range (cv.toNat * zs.length)).map (z.cells[· % z.cells.size]!)) el) } := by
                have hti : (typeInfo el).run P w = .ok i w := by simp [typeInfo, hi]
                have hmul : (i.bytes : Int) * cv = cv * bytes := by rw [hib, Int.mul_comm]
                have hcn : (decide (cv < 0) || decide ((i.bytes : Int) * cv > 2 ^ 48)) = false := by
                  rw [hmul]; simp; omega
                simp only [Instr.makeSlice, Sem.run_bind, run_underlying hu, Result.andThen_ok, asInt, asIntOf, Sem.run_pure, hti, hwl, hwc]
                have hcond2 : (((decide (cv < 0) || decide ((i.bytes : Int) * cv > 2 ^ 48)) || decide (lv < 0)) || decide (lv > cv)) = false := by
                  rw [hcn]; simp; omega
                rw [if_neg (by rw [hcond2]; simp)]
                simp only [Sem.run_bind, run_askRoom, Result.andThen_ok, run_sizeOf hs, newRow]
                by_cases hz0 : cv.toNat * zs.length = 0
                · rw [if_pos hz0]
                  simp only [Sem.run_bind, Sem.run_pure, Result.andThen_ok, run_newObj, hz0, range0_map]
                · rw [if_neg hz0]
                  simp only [Sem.run_bind, Sem.run_pure, Result.andThen_ok, run_newObj, hz]
              refine ⟨_, _, ⟨w.heap.size, 0, cv.toNat * zs.length, true⟩, val_run (by rw [hlv, hcv]; exact hrun), rfl, ?_, ?_, by simp⟩
              · intro ρ' hle' H hH
                have := OR_cells (ρ := ρ') hH ((reps_sound hzc' hpos cv.toNat _ rfl).mono fun _ _ => CR.mono hle')
                simpa using this
              · intro n ρ' hn
                exact ⟨_, 0, cv.toNat, hn, rfl, by omega, Nat.le_refl _, fun _ => rfl, by simp, .inl (by simp)⟩
            · simp at hv
          · simp at hv
        · simp at ho
      · simp at ho
    · simp at ho
  | range t x =>
    simp only [absOp] at ho
    split at ho
    · rename_i x' hu hx
      simp at ho; subst ho
      simp only [newOp] at hv
      split at hv
      · rename_i s hxe
        simp at hv
        obtain ⟨rfl, rfl⟩ := hv
        have hxv := ev_VR hE hx
        rw [hxe] at hxv
        have hxv := hxv.str
        refine ⟨.pointer (some ⟨w.heap.size, 0, none⟩), .stringIter ⟨s.toArray⟩ 0, ⟨w.heap.size, 0, 0, true⟩, ?_, rfl, ?_, ?_, by simp⟩
        · exact val_run (by rw [hxv]; simp [Instr.range, run_underlying hu])
        · intro ρ' hle H hH; exact ⟨rfl, hH⟩
        · intro n ρ' hn; exact ⟨_, hn, by simp⟩
      · simp at hv
    · simp at ho
  | move x => simp only [absOp, Option.map_eq_some_iff] at ho; obtain ⟨y, _, rfl⟩ := ho; simp [newOp] at hv
  | assign x => simp only [absOp, Option.map_eq_some_iff] at ho; obtain ⟨y, _, rfl⟩ := ho; simp [newOp] at hv
  | nilCheck x => simp only [absOp, Option.map_eq_some_iff] at ho; obtain ⟨y, _, rfl⟩ := ho; simp [newOp] at hv
  | unOp u t x => simp only [absOp, Option.map_eq_some_iff] at ho; obtain ⟨y, _, rfl⟩ := ho; simp [newOp] at hv
  | extract x i => simp only [absOp, Option.map_eq_some_iff] at ho; obtain ⟨y, _, rfl⟩ := ho; simp [newOp] at hv
  | panic x => simp only [absOp, Option.map_eq_some_iff] at ho; obtain ⟨y, _, rfl⟩ := ho; simp [newOp] at hv
  | next x s =>
    cases s with
    | true => simp only [absOp, Option.map_eq_some_iff] at ho; obtain ⟨y, _, rfl⟩ := ho; simp [newOp] at hv
    | false => simp [absOp] at ho
  | call c =>
    simp only [absOp] at ho
    obtain ⟨callee, args, argTypes⟩ := c
    simp only [absCall] at ho
    (repeat' split at ho) <;> (first | (simp at ho; done) | (simp only [Option.map_eq_some_iff] at ho; obtain ⟨y, _, rfl⟩ := ho; simp [newOp] at hv; done) | (simp at ho; subst ho; simp [newOp] at hv; done))
  | makeFunc fn first caps =>
    cases fn with
    | func g =>
      simp only [absOp] at ho
      split at ho
      · simp at ho; subst ho; simp [newOp] at hv
      · simp at ho
    | _ => simp [absOp] at ho
  | _ =>
    simp only [absOp] at ho
    (repeat' split at ho) <;> (first | (simp at ho; done) | (simp only [Option.map_eq_some_iff] at ho; obtain ⟨y, _, rfl⟩ := ho; simp [newOp] at hv; done) | (simp at ho; subst ho; simp [newOp] at hv; done))
end
end Go.Proofs.YtjlebgfbohihfaaGreat.Am
