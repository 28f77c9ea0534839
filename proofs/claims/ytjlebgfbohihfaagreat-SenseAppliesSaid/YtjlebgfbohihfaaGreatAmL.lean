/-
  Effects: all operations together.
-/
import Derived.Test.YtjlebgfbohihfaaGreatAmK
namespace Go.Proofs.YtjlebgfbohihfaaGreat.Am
open Go
set_option linter.unusedVariables false
set_option linter.unusedSimpArgs false

section
variable {P : Program} {ρ : Ren} {h : Hp} {w : World} {e : Env} {a : Act}

theorem dst_of {c : Cell} {v : Value} (hc : CR ρ c v) {n : Nat} (hn : lenCell c = some n) : ∃ base k, v = .slice base n k ∧ (base = none → c = .nilslice) := by
  cases c <;> simp [lenCell] at hn
  · subst hn; obtain ⟨r, a', k, _, rfl, _⟩ := hc; exact ⟨_, _, rfl, by simp⟩
  · subst hn; exact ⟨none, 0, hc, fun _ => rfl⟩

theorem cpy_sound (hR : Rel ρ h w.heap) {sz : Nat} {d s : Opd} {dv sv : Value} (hd : VR ρ (ev e d) dv) (hs : VR ρ (ev e s) sv) {v : AVal} {h' : Hp} (hv : effOp e h (.cpy sz d s) = .val v h')
    {t u el eu ty : TypeId} (ht : P.underlying t = some (.slice el)) (hsz : sizeT P el = some sz) :
    ∃ r w', (Builtin.copy_ #[t, u] ty #[dv, sv]).run P w = .ok r w' ∧ After ρ h w h' ρ w' ∧ VR ρ v r := by
  simp only [effOp] at hv
  split at hv
  · rename_i c c' hde hse
    rw [hde] at hd; rw [hse] at hs
    split at hv
    · rename_i dl sl cs hdl hsl hcs
      have hdc : CR ρ c dv := hd.to_CR (by rintro rfl; simp [lenCell] at hdl)
      have hsc : CR ρ c' sv := hs.to_CR (by rintro rfl; simp [lenCell] at hsl)
      obtain ⟨us, hrun, hul, huall, sb, sk, rfl⟩ := src_cells (P := P) hR hsc hsl hcs
      -- the first n of them
      have hfirst : ∀ n, n ≤ sl → ∃ us' : List Value, (Builtin.firstCells sz n (.slice sb sl sk)).run P w = .ok us'.toArray w ∧ All2 (CR ρ) (cs.take (n * sz)) us' := by
        intro n hn
        cases hc' : c' <;> simp [hc', lenCell] at hsl
        · rename_i b o len cap z
          subst hsl
          rw [hc'] at hsc hcs
          obtain ⟨r, a', cap', hr, he, h1, h2, h3, h4, h5⟩ := hsc
          simp at he
          obtain ⟨rfl, rfl⟩ := he
          simp only [sliceCells] at hcs
          split at hcs
          · rename_i cs0 x hb
            split at hcs
            · rename_i hcond
              simp at hcs; subst hcs
              by_cases h0 : n * sz = 0
              · exact ⟨[], by simp [Builtin.firstCells, h0, loadCells, loadCellsFrom], by simp [h0, All2]⟩
              · have hn0 : n ≠ 0 := by rintro rfl; simp at h0
                have ha' : a' = r.off + o := h5.resolve_right (by omega)
                have hmul : n * sz ≤ len * sz := Nat.mul_le_mul_right _ hn
                obtain ⟨us', hrun', _, hall', _⟩ := cells_load (P := P) hR hr hb (o := o) (n := n * sz) (by omega)
                refine ⟨us', by simp only [Builtin.firstCells, ha']; exact hrun' w rfl, ?_⟩
                rw [List.take_take, Nat.min_eq_left hmul]; exact hall'
            · simp at hcs
          · simp at hcs
        · rw [hc'] at hsc hcs
          have hsc : Value.slice sb sl sk = .slice none 0 0 := hsc
          simp at hsc
          obtain ⟨rfl, rfl, rfl⟩ := hsc
          simp [sliceCells] at hcs; subst hcs
          exact ⟨[], by simp [Builtin.firstCells], by simp [All2]⟩
      cases hcd : c <;> simp [hcd, lenCell] at hdl
      · rename_i b o len cap z
        subst hdl
        simp only [hcd] at hv
        split at hv
        · rename_i hz
          subst hz
          split at hv
          · rename_i h'' hst
            simp at hv
            obtain ⟨rfl, rfl⟩ := hv
            rw [hcd] at hdc
            obtain ⟨r, a', cap', hr, rfl, h1, h2, h3, h4, h5⟩ := hdc
            obtain ⟨us', hrun', hall'⟩ := hfirst (min sl len) (Nat.min_le_left _ _)
            by_cases h0 : min sl len * z = 0
            · have hus : us' = [] := by
                have := hall'.length
                rw [h0] at this; simpa using this.symm
              subst hus
              have hb : ∃ cs0 x, h.get b = some (.cells cs0 x) ∧ h'' = h.set b (.cells cs0 x) := by
                unfold storeTo at hst
                split at hst
                · rename_i cs0 x hb
                  split at hst
                  · rw [h0] at hst; simp [setAt] at hst; exact ⟨cs0, x, hb, hst.symm⟩
                  · simp at hst
                · simp at hst
              obtain ⟨cs0, x, hb, rfl⟩ := hb
              refine ⟨.int .i64 (min sl len : Nat), w, ?_, ⟨Grow.refl _ _ _, hR.set hr hb (by simp) rfl (fun _ _ => rfl) (hR.ob b r _ hr hb)⟩, rfl⟩
              simp [Builtin.copy_, run_underlying ht, Builtin.lenOf, run_sizeOf hsz, storeCells, goInt, Nat.min_def] at hrun' ⊢
              rw [hrun']; simp [storeCells]
            · have hl0 : len ≠ 0 := by rintro rfl; simp at h0
              have ha' : a' = r.off + o := h5.resolve_right (by omega)
              subst ha'
              obtain ⟨w', hrunS, hRel, hG⟩ := cells_store (P := P) hR hr hst hall'
              refine ⟨.int .i64 (min sl len : Nat), w', ?_, ⟨hG, hRel⟩, rfl⟩
              simp [Builtin.copy_, run_underlying ht, Builtin.lenOf, run_sizeOf hsz, goInt, Nat.min_def] at hrun' ⊢
              rw [hrun']; simp [hrunS]
          · simp at hv
        · simp at hv
      · subst hdl
        simp only [hcd] at hv
        simp at hv
        obtain ⟨rfl, rfl⟩ := hv
        rw [hcd] at hdc
        have hdc : dv = .slice none 0 0 := hdc
        subst hdc
        obtain ⟨us', hrun', hall'⟩ := hfirst 0 (Nat.zero_le _)
        refine ⟨.int .i64 0, w, ?_, ⟨Grow.refl _ _ _, hR⟩, rfl⟩
        simp [Builtin.copy_, run_underlying ht, Builtin.lenOf, run_sizeOf hsz, goInt, Nat.min_def] at hrun' ⊢
        rw [hrun']; simp
    · simp at hv
  · simp at hv

theorem clr_sound (hR : Rel ρ h w.heap) {zs : List Cell} {x : Opd} {xv : Value} (hx : VR ρ (ev e x) xv) {v : AVal} {h' : Hp} (hv : effOp e h (.clr zs x) = .val v h')
    {t el ty : TypeId} (ht : P.underlying t = some (.slice el)) (hz : zcells P el = some zs) (hpos : 0 < zs.length) :
    ∃ r w', (Builtin.clear_ #[t] ty #[xv]).run P w = .ok r w' ∧ After ρ h w h' ρ w' ∧ VR ρ v r := by
  simp only [effOp] at hv
  split at hv
  · rename_i hxe
    rw [hxe] at hx
    have hx : xv = .slice none 0 0 := hx
    subst hx
    simp at hv
    obtain ⟨rfl, rfl⟩ := hv
    exact ⟨.tuple #[], w, by simp [Builtin.clear_, run_underlying ht], ⟨Grow.refl _ _ _, hR⟩, #[], rfl, trivial⟩
  · rename_i b o n cap z hxe
    rw [hxe] at hx
    obtain ⟨r, a', cap', hr, rfl, h1, h2, h3, h4, h5⟩ := hx
    split at hv
    · rename_i hn0
      simp at hv
      obtain ⟨rfl, rfl⟩ := hv
      subst hn0
      exact ⟨.tuple #[], w, by simp [Builtin.clear_, run_underlying ht], ⟨Grow.refl _ _ _, hR⟩, #[], rfl, trivial⟩
    · rename_i hn0
      split at hv
      · rename_i hzz
        split at hv
        · rename_i h'' hst
          simp at hv
          obtain ⟨rfl, rfl⟩ := hv
          have ha' : a' = r.off + o := h5.resolve_right (by omega)
          subst ha'
          obtain ⟨zv, hzr, hzc, _⟩ := run_zeroValue (P := P) hz w
          have hall := reps_sound (ρ := ρ) (absCells_CR hzc) hpos n (n * zv.cells.size) (by
            have := (absCells_CR (ρ := ρ) hzc).length; simp at this; rw [this])
          obtain ⟨w', hrunS, hRel, hG⟩ := cells_store (P := P) hR hr hst hall
          obtain ⟨m, rfl⟩ : ∃ m, n = m + 1 := ⟨n - 1, by omega⟩
          refine ⟨.tuple #[], w', ?_, ⟨hG, hRel⟩, #[], rfl, trivial⟩
          have : (Builtin.zeroCells zv.cells (m + 1)).toList = ((Array.range ((m + 1) * zv.cells.size)).map (zv.cells[· % zv.cells.size]!)).toList := rfl
          simp [Builtin.clear_, run_underlying ht, hzr]
          rw [this, hrunS]
          rfl
        · simp at hv
      · simp at hv
  · simp at hv

theorem convb_sound (hR : Rel ρ h w.heap) {x : Opd} {xv : Value} (hx : VR ρ (ev e x) xv) {v : AVal} {h' : Hp} (hv : effOp e h (.convb x) = .val v h') {s d el : TypeId} (hs : P.underlying s = some .string) (hd : P.underlying d = some (.slice el))
    (he : P.underlying el = some (.int .u8)) : ∃ r w' ρ', (convert s d xv).run P w = .ok r w' ∧ After ρ h w h' ρ' w' ∧ VR ρ' v r := by
  simp only [effOp] at hv
  split at hv
  · rename_i l hxe
    rw [hxe] at hx
    have hx := hx.str
    subst hx
    simp at hv
    obtain ⟨rfl, rfl⟩ := hv
    generalize hcap : (Question.appendCap l.length 0 el).cut (w.tape w.drawn (.appendCap l.length 0 el)) = cap
    have hle : l.length ≤ cap := by rw [← hcap]; simp [Question.cut]
    generalize hC : ((⟨l.toArray⟩ : ByteArray).data.map fun b => Value.int .u8 b.toNat) ++ Array.replicate (cap - l.length) (Value.int .u8 0) = C
    have hCs : C.size = cap := by rw [← hC]; simp; omega
    generalize hw1 : ({ w with drawn := w.drawn + 1, heap := w.heap.push (.cells C el (C.size, C.size + 1)) } : World) = w'
    have hH : w'.heap = w.heap.push (.cells C el (C.size, C.size + 1)) := by rw [← hw1]
    refine ⟨.slice (some ⟨w.heap.size, 0, none⟩) l.length cap, w', ρ.add h.next ⟨w.heap.size, 0, C.size, false⟩, ?_, ⟨?_, ?_⟩, ?_⟩
    · simp only [convert, Sem.run_bind, run_underlying hs, run_underlying hd, run_underlying he, Result.andThen_ok, Conv.stringToBytes, run_choose, Question.forced, size_mk, Bool.false_eq_true, if_false, newRow, run_newObj, Sem.run_pure, markStringish, run_shape, hcap, hC]
      simp only [World.shape?, Array.getElem?_push_size, Sem.run_bind, run_freeze, Result.andThen_ok, Sem.run_pure]
      rw [← hw1]
      congr 1
      unfold World.freeze
      simp only [Nat.one_ne_zero, if_false]
      rw [modify_eq _ _ _ (Obj.cells C el) (by simp)]
      congr 1
      apply Array.ext_getElem?
      intro j
      rw [Array.getElem?_setIfInBounds, Array.getElem?_push, Array.getElem?_push]
      by_cases hj : w.heap.size = j
      · simp [hj]
      · simp [hj, Ne.symm hj]
    · exact Grow.alloc (h := h) (O := .cells C el (C.size, C.size + 1)) hR rfl hH (by rw [← hw1]) (by rw [← hw1]) (by rw [← hw1])
    · refine hR.alloc rfl hH ?_
      refine ⟨C, el, (C.size, C.size + 1), by rw [hH]; simp, rfl, rfl, ?_, by simp, fun j hj => by simp; omega, ?_⟩
      · show 0 + (l.map fun b => Cell.int .u8 b.toNat).length ≤ C.size
        simp; omega
      · intro i c hc
        simp only [List.getElem?_map, Option.map_eq_some_iff] at hc
        obtain ⟨b, hb, rfl⟩ := hc
        refine ⟨.int .u8 b.toNat, ?_, rfl⟩
        have hlt : i < l.length := by
          rcases Nat.lt_or_ge i l.length with h | h
          · exact h
          · rw [List.getElem?_eq_none h] at hb; cases hb
        show C[0 + i]? = _
        rw [← hC, Nat.zero_add, Array.getElem?_append_left (by simpa using hlt)]
        simp [hb]
    · refine ⟨⟨w.heap.size, 0, C.size, false⟩, 0, cap, Ren.add_same _ _ _, rfl, Nat.le_refl _, hle, by simp, ?_, .inl (by simp)⟩
      show 0 + cap * 1 ≤ C.size
      omega
  · simp at hv

theorem setVal_all {es : List (Cell × AVal)} {ES : List MapEntry} {k : Cell} {v : AVal} {kv vv : Value} (hall : All2 (fun (e : Cell × AVal) (E : MapEntry) => e.2.one = true ∧ CR ρ e.1 E.key ∧ VR ρ e.2 E.val) es ES) (hk : CR ρ k kv) (hv : VR ρ v vv) (h1 : v.one = true) :
    ∀ (i : Nat), All2 (fun (e : Cell × AVal) (E : MapEntry) => e.2.one = true ∧ CR ρ e.1 E.key ∧ VR ρ e.2 E.val) (setVal k v es i) (ES.modify i fun E => { E with key := kv, val := vv }) := by
  induction es generalizing ES with
  | nil => cases ES with | nil => intro i; cases i <;> trivial | cons _ _ => exact hall.elim
  | cons e es ih =>
    cases ES with
    | nil => exact hall.elim
    | cons E ES =>
      intro i
      obtain ⟨q, x⟩ := e
      cases i with
      | zero => exact ⟨⟨h1, hk, hv⟩, hall.2⟩
      | succ i => exact ⟨hall.1, ih hall.2 i⟩

theorem map_after (hR : Rel ρ h w.heap) {m : Nat} {r : RB} {es es' : List (Cell × AVal)} {ES : Array MapEntry} {clock clock' : Nat} {ES' : Array MapEntry} (hr : ρ m = some r) (hb : h.get m = some (.map es)) (_hH : w.heap[r.blk]? = some (.map ES clock))
    (hall : All2 (fun (e : Cell × AVal) (E : MapEntry) => e.2.one = true ∧ CR ρ e.1 E.key ∧ VR ρ e.2 E.val) es' ES'.toList) :
    After ρ h w (h.set m (.map es')) ρ { w with heap := w.heap.setIfInBounds r.blk (.map ES' clock') } := by
  have hlt := (hR.lt m r hr).2
  refine ⟨Grow.set hr (by simp) (fun i hi => by simp only; rw [Array.getElem?_setIfInBounds, if_neg (Ne.symm hi)]) rfl rfl rfl, ?_⟩
  exact hR.set hr hb (by simp) (by simp) (fun i hi => by simp only; rw [Array.getElem?_setIfInBounds, if_neg (Ne.symm hi)]) ⟨ES', clock', by simp [hlt], hall⟩

theorem keyEq_of_CR {ks : Bool} {k : Cell} {kv qv : Value} (hik : isKey ks k = true) (hk : CR ρ k kv) (hq : CR ρ k qv) : Instr.sameBits 10000 qv kv = true := by
  cases k <;> simp [isKey] at hik
  · have hk : kv = _ := hk; have hq : qv = _ := hq; subst hk; subst hq; unfold Instr.sameBits; simp
  · have hk : kv = _ := hk; have hq : qv = _ := hq; subst hk; subst hq; unfold Instr.sameBits; rw [beq_toListBytes, toList_mk]; simp

theorem mup_sound (hR : Rel ρ h w.heap) {ks : Bool} {m k v : Opd} {mv kv vv : Value} (hm : VR ρ (ev e m) mv) (hk : VR ρ (ev e k) kv) (hvv : VR ρ (ev e v) vv) {h' : Hp} (hs : effOp e h (.mup ks m k v) = .skip h')
    {t q el : TypeId} (ht : P.underlying t = some (.map q el)) (hq : keyOk P q = some ks) :
    ∃ w', (Instr.mapUpdate t mv kv vv).run P w = .ok () w' ∧ After ρ h w h' ρ w' := by
  obtain ⟨kd, hu, hkd⟩ := keyKinds hq
  simp only [effOp] at hs
  split at hs
  · rename_i r0 c hmx hkx
    rw [hmx] at hm; rw [hkx] at hk
    obtain ⟨r, hr, rfl⟩ := hm
    split at hs
    · rename_i es hb
      rw [Bool.cond_eq_ite] at hs
      split at hs
      · rename_i hc
        simp only [Bool.and_eq_true] at hc
        obtain ⟨hik, h1⟩ := hc
        obtain ⟨ES, clock, hH, hall⟩ := hR.ob _ r _ hr hb
        have hkc : CR ρ c kv := hk.to_CR (by rintro rfl; simp [isKey] at hik)
        have hget : (getObj r.blk).run P w = .ok (.map ES clock) w := by simp [getObj, Sem.run, hH]
        have hset : ∀ o, (setObj r.blk o).run P w = .ok () { w with heap := w.heap.setIfInBounds r.blk o } := by intro o; simp [setObj, Sem.run, hH]
        split at hs
        · rename_i i vv' hf
          obtain ⟨R, hRn, hmm⟩ := findNow_sound (ρ := ρ) hkd hik hkc hall hf
          cases R with
          | none => exact hmm.elim
          | some p =>
            obtain ⟨j, V⟩ := p
            obtain ⟨rfl, hVR, hone, n, E, hin, hE, _, hEk⟩ := hmm
            have hin : i = n := by omega
            subst hin
            simp at hs; subst hs
            have hEs : ES[i]? = some E := by simpa using hE
            refine ⟨_, ?_, map_after hR hr hb hH (ES' := ES.modify i fun e => { e with key := kv, val := vv }) (clock' := clock) (by
              have := setVal_all hall hkc hvv h1 i
              simpa using this)⟩
            simp only [Instr.mapUpdate, Sem.run_bind, run_underlying ht, Result.andThen_ok, hget, checkKey_run hu hkd _ 9999, findKey_run hu hRn, hEs, Option.map_some, Option.getD_some, Instr.keyThatStays, keyEq_of_CR hik hkc hEk, if_true, Sem.run_pure, hset]
        · rename_i hf
          obtain ⟨R, hRn, hmm⟩ := findNow_sound (ρ := ρ) hkd hik hkc hall hf
          cases R with
          | some p => exact hmm.elim
          | none =>
            simp at hs; subst hs
            refine ⟨_, ?_, map_after hR hr hb hH (ES' := ES.push { key := kv, val := vv, born := clock }) (clock' := clock + 1) (by
              rw [Array.toList_push]
              exact hall.append ⟨⟨h1, hkc, hvv⟩, trivial⟩)⟩
            simp only [Instr.mapUpdate, Sem.run_bind, run_underlying ht, Result.andThen_ok, hget, checkKey_run hu hkd _ 9999, findKey_run hu hRn, hset]
        · simp at hs
      · simp at hs
    · simp at hs
  · simp at hs

theorem mdel_sound (hR : Rel ρ h w.heap) {ks : Bool} {m k : Opd} {mv kv : Value} (hm : VR ρ (ev e m) mv) (hk : VR ρ (ev e k) kv) {v : AVal} {h' : Hp} (hs : effOp e h (.mdel ks m k) = .val v h')
    {t t2 q el ty : TypeId} (ht : P.underlying t = some (.map q el)) (hq : keyOk P q = some ks) :
    ∃ r w', (Builtin.delete_ #[t, t2] ty #[mv, kv]).run P w = .ok r w' ∧ After ρ h w h' ρ w' ∧ VR ρ v r := by
  obtain ⟨kd, hu, hkd⟩ := keyKinds hq
  simp only [effOp] at hs
  split at hs
  · rename_i r0 c hmx hkx
    rw [hmx] at hm; rw [hkx] at hk
    obtain ⟨r, hr, rfl⟩ := hm
    split at hs
    · rename_i es hb
      rw [Bool.cond_eq_ite] at hs
      split at hs
      · rename_i hik
        obtain ⟨ES, clock, hH, hall⟩ := hR.ob _ r _ hr hb
        have hkc : CR ρ c kv := hk.to_CR (by rintro rfl; simp [isKey] at hik)
        have hget : (getObj r.blk).run P w = .ok (.map ES clock) w := by simp [getObj, Sem.run, hH]
        have hset : ∀ o, (setObj r.blk o).run P w = .ok () { w with heap := w.heap.setIfInBounds r.blk o } := by intro o; simp [setObj, Sem.run, hH]
        split at hs
        · rename_i i vv' hf
          obtain ⟨R, hRn, hmm⟩ := findNow_sound (ρ := ρ) hkd hik hkc hall hf
          cases R with
          | none => exact hmm.elim
          | some p =>
            obtain ⟨j, V⟩ := p
            obtain ⟨rfl, _⟩ := hmm
            simp at hs
            obtain ⟨rfl, rfl⟩ := hs
            refine ⟨.tuple #[], _, ?_, map_after hR hr hb hH (ES' := ES.eraseIdxIfInBounds i) (clock' := clock) (by
              have := hall.eraseIdx i
              rw [Array.toList_eraseIdxIfInBounds]
              exact this), #[], rfl, trivial⟩
            simp [Builtin.delete_, run_underlying ht, hget, checkKey_run hu hkd _ 9999, findKey_run hu hRn, hset]
        · rename_i hf
          obtain ⟨R, hRn, hmm⟩ := findNow_sound (ρ := ρ) hkd hik hkc hall hf
          cases R with
          | some p => exact hmm.elim
          | none =>
            simp at hs
            obtain ⟨rfl, rfl⟩ := hs
            have hsame : h = h.set r0 (.map es) → True := fun _ => trivial
            refine ⟨.tuple #[], _, by simp [Builtin.delete_, run_underlying ht, hget, checkKey_run hu hkd _ 9999, findKey_run hu hRn, hset]; rfl, ?_, #[], rfl, trivial⟩
            have hlt := (hR.lt _ r hr).2
            have hw : ({ w with heap := w.heap.setIfInBounds r.blk (.map ES clock) } : World) = w := by
              have : w.heap.setIfInBounds r.blk (.map ES clock) = w.heap := by
                apply Array.ext_getElem?
                intro j
                rw [Array.getElem?_setIfInBounds]
                split
                · subst_vars
                  exact hH.symm
                · rfl
              rw [this]
            rw [hw]
            exact ⟨Grow.refl _ _ _, hR⟩
        · simp at hs
      · simp at hs
    · simp at hs
  · simp at hs

theorem nxt_sound (hR : Rel ρ h w.heap) {x : Opd} {xv : Value} (hx : VR ρ (ev e x) xv) {v : AVal} {h' : Hp} (hv : effOp e h (.nxt x) = .val v h') (ty : TypeId) :
    ∃ r w', (Instr.next xv true ty).run P w = .ok r w' ∧ After ρ h w h' ρ w' ∧ VR ρ v r := by
  simp only [effOp] at hv
  split at hv
  · rename_i b hxe
    rw [hxe] at hx
    obtain ⟨r, hr, rfl⟩ := hx.ptr
    split at hv
    · rename_i s pos hb
      obtain ⟨hoff, hH⟩ : r.off = 0 ∧ w.heap[r.blk]? = some (.stringIter ⟨s.toArray⟩ pos) := hR.ob b r _ hr hb
      have hlt := (hR.lt b r hr).2
      have hget : (getObj r.blk).run P w = .ok (.stringIter ⟨s.toArray⟩ pos) w := by simp [getObj, Sem.run, hH]
      have hset : ∀ o, (setObj r.blk o).run P w = .ok () { w with heap := w.heap.setIfInBounds r.blk o } := by intro o; simp [setObj, Sem.run, hH]
      split at hv
      · rename_i hpos
        simp at hv
        obtain ⟨rfl, rfl⟩ := hv
        have hp : pos < (⟨s.toArray⟩ : ByteArray).size := hpos
        refine ⟨.tuple #[.bool true, .int .i64 pos, .int .i32 (Utf8.decode ⟨s.toArray⟩ pos).1], { w with heap := w.heap.setIfInBounds r.blk (.stringIter ⟨s.toArray⟩ (pos + (Utf8.decode ⟨s.toArray⟩ pos).2)) }, ?_, ⟨?_, ?_⟩, ?_⟩
        · simp [Instr.next, hoff, hget, hp, hset, goInt]
        · exact Grow.set hr (by simp) (fun i hi => by simp only; rw [Array.getElem?_setIfInBounds, if_neg (Ne.symm hi)]) rfl rfl rfl
        · exact hR.set hr hb (by simp) (by simp) (fun i hi => by simp only; rw [Array.getElem?_setIfInBounds, if_neg (Ne.symm hi)]) ⟨hoff, by simp [hlt]⟩
        · exact ⟨_, rfl, rfl, rfl, rfl, trivial⟩
      · rename_i hpos
        simp at hv
        obtain ⟨rfl, rfl⟩ := hv
        have hp : ¬ (pos < (⟨s.toArray⟩ : ByteArray).size) := hpos
        refine ⟨.tuple #[.bool false], w, ?_, ⟨Grow.refl _ _ _, hR⟩, ⟨_, rfl, rfl, trivial⟩⟩
        simp [Instr.next, hoff, hget, hp]
    · simp at hv
  · simp at hv
end
end Go.Proofs.YtjlebgfbohihfaaGreat.Am
