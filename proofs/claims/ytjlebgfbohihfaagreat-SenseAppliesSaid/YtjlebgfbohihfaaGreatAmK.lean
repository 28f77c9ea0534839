/-
  Stores, maps, appends.
-/
import Derived.Test.YtjlebgfbohihfaaGreatAmJ
namespace Go.Proofs.YtjlebgfbohihfaaGreat.Am
open Go
set_option linter.unusedVariables false
set_option linter.unusedSimpArgs false

section
variable {P : Program} {ρ : Ren} {h : Hp} {w : World} {e : Env} {a : Act}

/-- What became of the world, and what the abstract heap is now. -/
def After (ρ : Ren) (h : Hp) (w : World) (h' : Hp) (ρ' : Ren) (w' : World) : Prop := Grow ρ h.next w ρ' h'.next w' ∧ Rel ρ' h' w'.heap

theorem st_sound (hR : Rel ρ h w.heap) {n : Nat} {x v : Opd} {p q : Value} (hp : VR ρ (ev e x) p) (hq : VR ρ (ev e v) q) {h' : Hp} (hs : effOp e h (.st n x v) = .skip h') {t : TypeId} (hn : sizeT P t = some n) :
    ∃ w', (Instr.storeAt t p q).run P w = .ok () w' ∧ After ρ h w h' ρ w' := by
  simp only [effOp] at hs
  split at hs
  · rename_i b o hxe
    rw [hxe] at hp
    obtain ⟨r, hr, rfl⟩ := hp.ptr
    rw [nbeq, Bool.cond_eq_ite] at hs
    split at hs
    · rename_i hc
      simp only [Bool.and_eq_true, decide_eq_true_iff] at hc
      have hcells := hq.cells hc.1
      have hlen : q.cells.size = n := by rw [← hc.2, hcells.length]; simp
      rw [nbeq, bif_decide] at hs
      split at hs
      · rename_i hn0
        simp at hs; subst hs
        subst hn0
        have hq0 : q.cells.toList = [] := by
          have : q.cells.toList.length = 0 := by simpa using hlen
          exact List.length_eq_zero_iff.1 this
        exact ⟨w, by simp [Instr.storeAt, Instr.sureAddr, storeVar, run_sizeOf hn, hlen, hq0, storeCells], Grow.refl _ _ _, hR⟩
      · split at hs
        · rename_i h'' hst
          simp at hs; subst hs
          obtain ⟨w', hrun, hRel, hG⟩ := cells_store (P := P) hR hr hst hcells
          exact ⟨w', by simp [Instr.storeAt, Instr.sureAddr, storeVar, run_sizeOf hn, hlen, hrun], hG, hRel⟩
        · simp at hs
    · simp at hs
  · simp at hs

theorem src_cells (hR : Rel ρ h w.heap) {sz n : Nat} {c : Cell} {v : Value} (hc : CR ρ c v) (hn : lenCell c = some n) {cs : List Cell} (hs : sliceCells h sz c = some cs) :
    ∃ us : List Value, (∀ w' : World, w'.heap = w.heap → (Builtin.firstCells sz n v).run P w' = .ok us.toArray w') ∧ us.length = n * sz ∧ All2 (CR ρ) cs us ∧ ∃ base k, v = .slice base n k := by
  cases c <;> simp [lenCell] at hn
  · rename_i b o len cap z
    subst hn
    obtain ⟨r, a', cap', hr, rfl, hlc, hcc, hex, hbd, hoff⟩ := hc
    simp only [sliceCells] at hs
    split at hs
    · rename_i cs' x hb
      split at hs
      · rename_i hle
        simp at hs; subst hs
        by_cases h0 : len * sz = 0
        · refine ⟨[], fun w' _ => ?_, by simp [h0], by simp [h0, All2], _, _, rfl⟩
          simp [Builtin.firstCells, h0, loadCells, loadCellsFrom]
        · have hl0 : len ≠ 0 := by rintro rfl; simp at h0
          have ha' : a' = r.off + o := hoff.resolve_right (by omega)
          obtain ⟨us, hrun, hlen, hall, _⟩ := cells_load (P := P) hR hr hb hle.2
          exact ⟨us, fun w' hw' => by simp only [Builtin.firstCells, ha']; exact hrun w' hw', hlen, hall, _, _, rfl⟩
      · simp at hs
    · simp at hs
  · subst hn
    have hc : v = .slice none 0 0 := hc
    subst hc
    simp [sliceCells] at hs; subst hs
    exact ⟨[], fun w' _ => by simp [Builtin.firstCells], by simp, trivial, _, _, rfl⟩

theorem app_sound (hR : Rel ρ h w.heap) {sz bytes : Nat} {s x : Cell} {sv xv : Value} (hs : CR ρ s sv) (hx : CR ρ x xv) {v : AVal} {h' : Hp} (hv : appOp h sz bytes s x = some (v, h'))
    {t u el ty : TypeId} {zs : List Cell} (ht : P.underlying t = some (.slice el)) {eu : TypeId} (hu : P.underlying u = some (.slice eu)) (hz : zcells P el = some zs) (hsz : zs.length = sz) (hpos : 0 < sz) (hby : bytesT P el = some bytes) :
    ∃ r w' ρ', (Builtin.append_ #[t, u] ty #[sv, xv]).run P w = .ok r w' ∧ After ρ h w h' ρ' w' ∧ VR ρ' v r := by
  unfold appOp at hv
  split at hv
  · rename_i len cap n new hl hc hn hnew
    obtain ⟨us, hfx, hul, huall, xb, xk, rfl⟩ := src_cells (P := P) hR hx hn hnew
    have hsize : ∀ w, (sizeOf el).run P w = .ok sz w := by
      obtain ⟨_, _, _, hs'⟩ := run_zeroValue (P := P) hz w
      intro w; exact run_sizeOf (by rw [hs', hsz]) w
    unfold bytesT at hby
    simp only [Option.map_eq_some_iff] at hby
    obtain ⟨i, hi, hib⟩ := hby
    have hti : ∀ w, (typeInfo el).run P w = .ok i w := by intro w; simp [typeInfo, hi]
    -- the slice's own form
    have hsv : ∃ base cap', sv = .slice base len cap' ∧ cap ≤ cap' ∧ (cap = 0 ∧ len = 0 ∧ base = none ∧ s = .nilslice ∧ cap' = 0 ∨ ∃ b o z r a', s = .slice b o len cap z ∧ ρ b = some r ∧ base = some ⟨r.blk, a', none⟩ ∧ len ≤ cap ∧ (r.exact = true → cap' = cap) ∧ a' + cap' * z ≤ r.size ∧ (a' = r.off + o ∨ cap = 0)) := by
      cases s <;> simp [lenCell] at hl
      · rename_i b o l c z
        subst hl
        simp [capCell] at hc; subst hc
        obtain ⟨r, a', cap', hr, rfl, h1, h2, h3, h4, h5⟩ := hs
        exact ⟨_, cap', rfl, h2, .inr ⟨b, o, z, r, a', rfl, hr, rfl, h1, h3, h4, h5⟩⟩
      · subst hl
        simp [capCell] at hc; subst hc
        have hs : sv = .slice none 0 0 := hs
        exact ⟨none, 0, hs, Nat.le_refl _, .inl ⟨rfl, rfl, rfl, rfl, rfl⟩⟩
    obtain ⟨base, cap', rfl, hcc, hform⟩ := hsv
    split at hv
    · -- there is room in the abstract block
      rename_i hle
      have hle' : len + n ≤ cap' := by omega
      rcases hform with ⟨rfl, rfl, rfl, rfl, rfl⟩ | ⟨b, o, z, r, a', rfl, hr, rfl, hlc, hex, hbd, hoff⟩
      · simp at hv
        obtain ⟨rfl, rfl⟩ := hv
        have hn0 : n = 0 := by omega
        subst hn0
        refine ⟨.slice none 0 0, w, ρ, ?_, ⟨Grow.refl _ _ _, hR⟩, rfl⟩
        simp [Builtin.append_, run_underlying ht, run_underlying hu, hsize, Builtin.lenOf, hfx w rfl]
      · simp only at hv
        split at hv
        · rename_i hzz
          subst hzz
          split at hv
          · rename_i h'' hst
            simp at hv
            obtain ⟨rfl, rfl⟩ := hv
            by_cases hn0 : n = 0
            · -- nothing is written
              subst hn0
              have hus : us = [] := by simpa using hul
              subst hus
              have hnew0 : new = [] := by
                have := huall.length; simpa using this
              subst hnew0
              have hh : h'' = h.set b (match h.get b with | some o => o | none => .dead) ∧ ∃ cs x, h.get b = some (.cells cs x) := by
                unfold storeTo at hst
                split at hst
                · rename_i cs x hb
                  split at hst
                  · simp [setAt] at hst; exact ⟨by rw [hb]; exact hst.symm, cs, x, hb⟩
                  · simp at hst
                · simp at hst
              obtain ⟨hh1, cs, x, hb⟩ := hh
              rw [hb] at hh1; simp only at hh1
              have hRel : Rel ρ h'' w.heap := by
                rw [hh1]
                exact hR.set hr hb (by simp) rfl (fun _ _ => rfl) (hR.ob b r _ hr hb)
              refine ⟨.slice (some ⟨r.blk, a', none⟩) len cap', w, ρ, ?_, ⟨by rw [hh1]; exact Grow.refl _ _ _, hRel⟩, r, a', cap', hr, rfl, by omega, hcc, hex, hbd, hoff⟩
              have hlc' : len ≤ cap' := by omega
              simp [Builtin.append_, run_underlying ht, run_underlying hu, hsize, Builtin.lenOf, hfx w rfl, hlc', storeCells]
            · have hc0 : cap ≠ 0 := by omega
              have ha' : a' = r.off + o := hoff.resolve_right hc0
              subst ha'
              obtain ⟨w', hrun, hRel, hG⟩ := cells_store (P := P) hR hr hst huall
              refine ⟨.slice (some ⟨r.blk, r.off + o, none⟩) (len + n) cap', w', ρ, ?_, ⟨hG, hRel⟩, r, r.off + o, cap', hr, rfl, by omega, hcc, hex, hbd, .inl rfl⟩
              simp [Builtin.append_, run_underlying ht, run_underlying hu, hsize, Builtin.lenOf, hfx w rfl, hle', add_none, Nat.add_assoc] at hrun ⊢
              rw [hrun]
              rfl
          · simp at hv
        · simp at hv
    · split at hv
      · rename_i hgt hroom
        split at hv
        · rename_i old hold
          obtain ⟨os, hfo, hol, hoall, _⟩ := src_cells (P := P) (w := w) hR hs (by
            cases s <;> simp [lenCell] at hl ⊢ <;> exact hl) hold
          by_cases hle' : len + n ≤ cap'
          · -- the model writes in place: the block is not the abstract one's alone
            rcases hform with ⟨rfl, rfl, rfl, rfl, rfl⟩ | ⟨b, o, z, r, a', rfl, hr, rfl, hlc, hex, hbd, hoff⟩
            · omega
            · have hnex : r.exact ≠ true := by
                intro hx'; have := hex hx'; omega
              have hzz : z = sz ∧ ∃ cs x, h.get b = some (.cells cs x) := by
                simp only [sliceCells] at hold
                split at hold
                · rename_i cs x hb
                  split at hold
                  · rename_i hcond; exact ⟨hcond.1, cs, x, hb⟩
                  · simp at hold
                · simp at hold
              obtain ⟨rfl, cs, x, hb⟩ := hzz
              obtain ⟨C, elem, fr, k1, k2, k3, k4, k5, k6, k7⟩ := hR.ob b r _ hr hb
              have hxf : x = false := by
                cases x
                · rfl
                · exact absurd k3 hnex
              subst hxf
              have hmul : (len + n) * z ≤ cap' * z := Nat.mul_le_mul_right _ hle'
              have hadd : (len + n) * z = len * z + n * z := Nat.add_mul _ _ _
              have hus : us.length = n * z := hul
              have hrun := run_storeCells_free (P := P) r.blk elem fr (a' + len * z) us 0 C w k1 k6 (by omega) huall.scalars
              have hlt := (hR.lt b r hr).2
              generalize hw' : ({ w with heap := w.heap.setIfInBounds r.blk (.cells (setAt C.toList (a' + len * z + 0) us).toArray elem fr) } : World) = w' at hrun
              have hH' : w'.heap = w.heap.setIfInBounds r.blk (.cells (setAt C.toList (a' + len * z) us).toArray elem fr) := by rw [← hw']; rfl
              have hh' : spent h (.slice b o len cap z) = h.set b .dead := by unfold spent; simp only [hb]
              simp only [hh', Option.some.injEq, Prod.mk.injEq] at hv
              obtain ⟨rfl, rfl⟩ := hv
              -- the block that was is dead; its successor begins where the slice does
              have hRd : Rel ρ (h.set b .dead) w'.heap := by
                refine hR.set hr hb (by simp) (by rw [hH']; simp) (fun i hi => by rw [hH', Array.getElem?_setIfInBounds, if_neg (Ne.symm hi)]) trivial
              have hfr : ρ (h.set b .dead).next = none := by rw [Hp.next_set]; exact hR.fresh
              refine ⟨.slice (some ⟨r.blk, a', none⟩) (len + n) cap', w', ρ.add (h.set b .dead).next ⟨r.blk, a', r.size, false⟩, ?_, ⟨?_, ?_⟩, ?_⟩
              ·
                simp [Builtin.append_, run_underlying ht, run_underlying hu, hsize, Builtin.lenOf, hfx w rfl, hle', add_none, hrun]
              · refine ⟨Ren.add_le hfr, by rw [hH']; simp, ?_, ?_, by rw [← hw'], by rw [← hw'], by rw [← hw'], Nat.le_succ _, ?_⟩; rotate_left 2
                · intro c q hq
                  unfold Ren.add at hq
                  split at hq
                  · rename_i hcn; exact .inr (by rw [hcn, Hp.next_set]; exact Nat.le_refl _)
                  · exact .inl hq
                · intro c q hq
                  unfold Ren.add at hq
                  split at hq
                  · simp at hq; subst hq; exact .inl ⟨b, r, hr, rfl⟩
                  · exact .inl ⟨c, q, hq, rfl⟩
                · intro j hj hno
                  rw [hH', Array.getElem?_setIfInBounds, if_neg (hno b r hr)]
              · refine ⟨?_, ?_, ?_⟩
                · intro c q hq
                  rw [Hp.next_alloc]
                  unfold Ren.add at hq
                  split at hq
                  · rename_i hcn
                    simp at hq; subst hq; refine ⟨by omega, ?_⟩
                    show r.blk < w'.heap.size
                    rw [hH']; simpa using hlt
                  · have := hRd.lt c q hq; exact ⟨by omega, this.2⟩
                · intro c c' q q' p p' hq hq' heq hp hp' hd hd'
                  rw [Hp.get_alloc] at hp hp'
                  unfold Ren.add at hq hq'
                  by_cases h1 : c = (h.set b .dead).next
                  · by_cases h2 : c' = (h.set b .dead).next
                    · omega
                    · exfalso
                      rw [if_pos h1] at hq; simp at hq; subst hq
                      rw [if_neg h2] at hq' hp'
                      rw [Hp.get_set] at hp'
                      by_cases h3 : c' = b
                      · rw [if_pos h3] at hp'; simp at hp'; exact hd' hp'.symm
                      · rw [if_neg h3] at hp'
                        exact h3 (hR.inj c' b q' r p' _ hq' hr heq.symm hp' hb hd' (by simp))
                  · by_cases h2 : c' = (h.set b .dead).next
                    · exfalso
                      rw [if_pos h2] at hq'; simp at hq'; subst hq'
                      rw [if_neg h1] at hq hp
                      rw [Hp.get_set] at hp
                      by_cases h3 : c = b
                      · rw [if_pos h3] at hp; simp at hp; exact hd hp.symm
                      · rw [if_neg h3] at hp
                        exact h3 (hR.inj c b q r p _ hq hr heq hp hb hd (by simp))
                    · rw [if_neg h1] at hq hp; rw [if_neg h2] at hq' hp'
                      exact hRd.inj c c' q q' p p' hq hq' heq hp hp' hd hd'
                · intro c q p hq hp
                  rw [Hp.get_alloc] at hp
                  by_cases h1 : c = (h.set b .dead).next
                  · subst h1
                    rw [if_pos rfl] at hp; simp at hp; subst hp
                    rw [Ren.add_same] at hq; simp at hq; subst hq
                    have hold' : old.length = len * z := by rw [hoall.length, hol]
                    refine ⟨(setAt C.toList (a' + len * z) us).toArray, elem, fr, by rw [hH']; simp [hlt], ?_, rfl, ?_, by simp, ?_, ?_⟩
                    · simp [setAt_length]; exact k2
                    · simp [setAt_length]
                      have := huall.length
                      omega
                    · simpa [setAt_length] using k6
                    · intro j c hj
                      simp only [List.getElem?_toArray]
                      rw [setAt_get _ _ _ _ (by simp; omega)]
                      have hnl := huall.length
                      by_cases hjo : j < old.length
                      · rw [List.getElem?_append_left hjo] at hj
                        rw [if_neg (by omega)]
                        obtain ⟨v', hv', hr'⟩ := hoall.get hj
                        -- the old cells lie there
                        have hlen0 : len ≠ 0 := by intro h0; rw [h0, Nat.zero_mul] at hold'; omega
                        have ha' : a' = r.off + o := hoff.resolve_right (by omega)
                        simp only [sliceCells, hb] at hold
                        split at hold
                        · rename_i hcond
                          simp at hold; subst hold
                          simp only [List.getElem?_take, List.getElem?_drop] at hj
                          split at hj
                          · obtain ⟨v2, hv2, hr2⟩ := k7 (o + j) c hj
                            refine ⟨v2, ?_, hr2.mono (Ren.add_le hfr)⟩
                            rw [ha', Nat.add_assoc]; simpa using hv2
                          · simp at hj
                        · simp at hold
                      · rw [List.getElem?_append_right (by omega)] at hj
                        obtain ⟨v', hv', hr'⟩ := huall.get hj
                        have hjn : j - old.length < us.length := by
                          rcases Nat.lt_or_ge (j - old.length) us.length with h | h
                          · exact h
                          · rw [List.getElem?_eq_none h] at hv'; cases hv'
                        rw [if_pos (by omega)]
                        exact ⟨v', by rw [show a' + j - (a' + len * z) = j - old.length from by omega]; exact hv', hr'.mono (Ren.add_le hfr)⟩
                  · rw [if_neg h1] at hp
                    unfold Ren.add at hq; rw [if_neg h1] at hq
                    exact (hRd.ob c q p hq hp).mono (Ren.add_le hfr) rfl
              · refine ⟨⟨r.blk, a', r.size, false⟩, a', cap', ?_, rfl, Nat.le_refl _, by omega, by simp, hbd, .inl (by simp)⟩
                exact Ren.add_same _ _ _
          · -- a new block in the model too
            obtain ⟨zv, hzr, hzc, hzs⟩ := run_zeroValue (P := P) hz w
            have hcapgt : cap' < len + n := by omega
            have h48 : Builtin.nextslicecap (len + n) cap' * i.bytes ≤ 281474976710656 := growslice_fits hcapgt (by rw [hib]; exact hroom.1)
            have h48' : ¬ (281474976710656 < Builtin.nextslicecap (len + n) cap' * i.bytes) := by omega
            have h63' : ¬ (9223372036854775807 < ((len : Int) + (n : Int))) := by omega
            have hzall : All2 (CR ρ) zs zv.cells.toList := absCells_CR hzc
            have hzsz : zv.cells.size = sz := by have := hzall.length; simp at this; omega
            have hzval : ∀ w, (zeroValue el).run P w = .ok zv w := by
              intro w'
              unfold zeroValue at hzr ⊢
              simp only [Sem.run_bind, hti, Result.andThen_ok] at hzr ⊢
              cases hiz : i.zero with
              | none => simp [hiz] at hzr
              | some z => simp [hiz] at hzr ⊢; exact hzr
            have hnc : len + n ≤ grownCap w (len + n) cap' el := by
              unfold grownCap; simp [Question.cut]
            have hC : ((os.toArray ++ us.toArray) ++ Builtin.zeroCells zv.cells (grownCap w (len + n) cap' el - (len + n))).size = grownCap w (len + n) cap' el * sz := by
              have e1 : os.length = len * sz := hol
              have e2 : us.length = n * sz := hul
              simp only [Array.size_append, List.size_toArray, Builtin.zeroCells, Array.size_map, Array.size_range, hzsz, e1, e2]
              rw [← Nat.add_mul, ← Nat.add_mul]; congr 1; omega
            generalize hcs : (os.toArray ++ us.toArray) ++ Builtin.zeroCells zv.cells (grownCap w (len + n) cap' el - (len + n)) = C at hC
            have hsp : Rel ρ (spent h s) w.heap ∧ (spent h s).next = h.next := by
              rcases hform with ⟨_, _, _, rfl, _⟩ | ⟨b, o, z, r, a', rfl, hr, rfl, hlc, hex, hbd, hoff⟩
              · exact ⟨hR, rfl⟩
              · have hb : ∃ cs x, h.get b = some (.cells cs x) := by
                  simp only [sliceCells] at hold
                  split at hold
                  · rename_i cs x hb; exact ⟨cs, x, hb⟩
                  · simp at hold
                obtain ⟨cs, x, hb⟩ := hb
                cases x with
                | true => have : spent h (.slice b o len cap z) = h := by unfold spent; simp only [hb]
                          rw [this]; exact ⟨hR, rfl⟩
                | false => have : spent h (.slice b o len cap z) = h.set b .dead := by unfold spent; simp only [hb]
                           rw [this]; exact ⟨hR.set hr hb (by simp) rfl (fun _ _ => rfl) trivial, rfl⟩
            obtain ⟨hRs, hnx⟩ := hsp
            generalize spent h s = hs' at hv hRs hnx
            simp only [Option.some.injEq, Prod.mk.injEq] at hv
            obtain ⟨rfl, rfl⟩ := hv
            have hfx2 := hfx w.drew rfl
            have hfo2 := hfo w.drew rfl
            refine ⟨.slice (some ⟨w.heap.size, 0, none⟩) (len + n) (grownCap w (len + n) cap' el), { w with drawn := w.drawn + 1, heap := w.heap.push (.cells C el) }, ρ.add hs'.next ⟨w.heap.size, 0, C.size, false⟩, ?_, ⟨?_, ?_⟩, ?_⟩
            · simp [Builtin.append_, run_underlying ht, run_underlying hu, hsize, Builtin.lenOf, hle', h63', hti, h48', Question.forced, hfx2, hfo2, hzval, newRow]
              rw [← hcs]
              simp only [World.alloc, World.drew, grownCap, Array.append_assoc, and_self]
            · rw [← hnx]; exact Grow.alloc (h := hs') (w' := { w with drawn := w.drawn + 1, heap := w.heap.push (.cells C el) }) hRs rfl rfl rfl rfl rfl
            · refine hRs.alloc rfl rfl ?_
              refine ⟨C, el, (0, 0), by simp, rfl, rfl, ?_, by simp, fun j _ => by simp, ?_⟩
              · have h1 := hoall.length
                have h2 := huall.length
                show 0 + (old ++ new).length ≤ C.size
                rw [← hcs]
                simp; omega
              · intro j c hj
                have hall := hoall.append huall
                obtain ⟨v', hv', hr'⟩ := hall.get hj
                refine ⟨v', ?_, hr'.mono (Ren.add_le hRs.fresh)⟩
                have hjl : j < (os ++ us).length := by
                  rcases Nat.lt_or_ge j (os ++ us).length with h | h
                  · exact h
                  · rw [List.getElem?_eq_none h] at hv'; cases hv'
                show C[0 + j]? = some v'
                rw [← hcs, Nat.zero_add, Array.getElem?_append_left (by simpa using hjl)]
                simpa using hv'
            · refine ⟨⟨w.heap.size, 0, C.size, false⟩, 0, grownCap w (len + n) cap' el, Ren.add_same _ _ _, rfl, Nat.le_refl _, hnc, by simp, ?_, .inl (by simp)⟩
              show 0 + grownCap w (len + n) cap' el * sz ≤ C.size
              omega
        · simp at hv
      · simp at hv
  · simp at hv
end
end Go.Proofs.YtjlebgfbohihfaaGreat.Am
