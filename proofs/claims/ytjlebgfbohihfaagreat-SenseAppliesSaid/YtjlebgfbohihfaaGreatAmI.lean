/-
  pure_sound: whatever reads or reckons only.
-/
import Derived.Test.YtjlebgfbohihfaaGreatAmH
namespace Go.Proofs.YtjlebgfbohihfaaGreat.Am
open Go
set_option linter.unusedVariables false
set_option linter.unusedSimpArgs false

section
variable {P : Program} {ρ : Ren} {h : Hp} {w : World} {e : Env} {a : Act}

theorem fieldAddr_run {t : TypeId} {fs : Array Field} {i : Nat} {f : Field} {n : Nat} (hu : P.underlying t = some (.struct fs)) (hf : fs[i]? = some f) (hn : sizeT P f.type = some n) (hn0 : n ≠ 0)
    (b o : Nat) (w : World) : (Instr.fieldAt t (.pointer (some ⟨b, o, none⟩)) i).run P w = .ok (.pointer (some ⟨b, o + f.offset, none⟩)) w := by
  simp [Instr.fieldAt, run_underlying hu, hf, Instr.sureAddr, fieldPlace, run_sizeOf hn, hn0, add_none]

theorem build_struct {t : TypeId} {fs : Array Field} (hu : P.underlying t = some (.struct fs)) (hall : (fs.all fun f => (sizeT P f.type).isSome) = true) (w : World) :
    (fs.mapM fun f => (do pure (f.offset, ← sizeOf f.type) : Sem (Nat × Nat))).run P w = .ok (fs.map fun f => (f.offset, (sizeT P f.type).getD 0)) w := by
  have key : ∀ (l : List Field), (∀ f ∈ l, (sizeT P f.type).isSome = true) → (l.mapM fun f => (do pure (f.offset, ← sizeOf f.type) : Sem (Nat × Nat))).run P w = .ok (l.map fun f => (f.offset, (sizeT P f.type).getD 0)) w := by
    intro l
    induction l with
    | nil => intro _; rfl
    | cons f l ih =>
      intro hl
      have h1 := hl f (by simp)
      obtain ⟨n, hn⟩ := Option.isSome_iff_exists.1 h1
      simp only [List.mapM_cons, Sem.run_bind, run_sizeOf hn, Result.andThen_ok, Sem.run_pure, ih (fun g hg => hl g (by simp [hg])), List.map_cons, hn, Option.getD_some]
  rw [← Array.toArray_toList (xs := fs), List.mapM_toArray]
  simp only [Sem.run_map]
  rw [key fs.toList (fun f hf => by
    have := Array.all_eq_true_iff_forall_mem.1 hall f (Array.mem_toList_iff.1 hf)
    exact this)]
  simp only [Result.andThen_ok]
  congr 1
  apply Array.ext'
  simp

theorem pure_sound (hR : Rel ρ h w.heap) (hE : EnvR ρ e a.tmps) {o : Oper} {op : AOp} {v : AVal} (ho : absOp P o.op = some op) (hv : pureOp e h op = some v) :
    ∃ u, (execOp a.eval o).run P w = .ok (.value u) w ∧ VR ρ v u := by
  obtain ⟨dst, oop, type, pos, after, guard⟩ := o
  cases oop with
  | move x =>
    simp only [absOp, Option.map_eq_some_iff] at ho
    obtain ⟨y, hy, rfl⟩ := ho
    simp [pureOp] at hv; subst hv
    exact ⟨a.eval x, rfl, ev_VR hE hy⟩
  | assign x =>
    simp only [absOp, Option.map_eq_some_iff] at ho
    obtain ⟨y, hy, rfl⟩ := ho
    simp [pureOp] at hv; subst hv
    exact ⟨a.eval x, rfl, ev_VR hE hy⟩
  | pick c x y =>
    simp only [absOp] at ho
    split at ho
    · rename_i c' x' y' hc hx hy
      simp at ho; subst ho
      simp only [pureOp] at hv
      split at hv
      · rename_i t hct
        simp at hv; subst hv
        have := ev_VR hE hc
        rw [hct] at this
        have := this.bool
        refine ⟨if t then a.eval x else a.eval y, by simp [execOp, this, asBool], ?_⟩
        cases t
        · exact ev_VR hE hy
        · exact ev_VR hE hx
      · simp at hv
    · simp at ho
  | build t ps =>
    simp only [absOp] at ho
    split at ho
    · rename_i z fs hz hu
      split at ho
      · rename_i l hl
        split at ho
        · rename_i hall
          simp at ho; subst ho
          simp only [pureOp, Option.map_eq_some_iff] at hv
          obtain ⟨cs, hcs, rfl⟩ := hv
          obtain ⟨zv, hzr, hzc, hsz⟩ := run_zeroValue (P := P) hz w
          obtain ⟨C, hC, hall2⟩ := fill_sound hE hl hcs (absCells_CR (ρ := ρ) hzc)
          refine ⟨.agg C, ?_, C, rfl, hall2⟩
          have hfill : Instr.fill ((fs.map fun f => (f.offset, (sizeT P f.type).getD 0))[·]?) zv.cells (ps.map fun (p : Nat × Operand) => (p.1, a.eval p.2)).toList = some C := by
            rw [← hC]
            congr 1
            · funext i
              simp only [Array.getElem?_map]
              cases hfi : fs[i]? with
              | none => rfl
              | some f =>
                have hm : f ∈ fs := Array.mem_of_getElem? hfi
                have := Array.all_eq_true_iff_forall_mem.1 hall f hm
                obtain ⟨n, hn⟩ := Option.isSome_iff_exists.1 this
                simp [hn]
            · simp
          simp only [execOp, Sem.run_bind, Instr.build, hzr, Result.andThen_ok, run_underlying hu, build_struct hu hall, Sem.run_pure]
          rw [hfill]
          rfl
        · simp at ho
      · simp at ho
    · rename_i z n el hz hu
      split at ho
      · rename_i size hs
        simp only [Option.map_eq_some_iff] at ho
        obtain ⟨l, hl, rfl⟩ := ho
        simp only [pureOp, Option.map_eq_some_iff] at hv
        obtain ⟨cs, hcs, rfl⟩ := hv
        obtain ⟨zv, hzr, hzc, hsz⟩ := run_zeroValue (P := P) hz w
        obtain ⟨C, hC, hall2⟩ := fill_sound hE hl hcs (absCells_CR (ρ := ρ) hzc)
        refine ⟨.agg C, ?_, C, rfl, hall2⟩
        have hfill : Instr.fill (fun i => some (i * size, size)) zv.cells (ps.map fun (p : Nat × Operand) => (p.1, a.eval p.2)).toList = some C := by
          rw [← hC]; simp
        simp only [execOp, Sem.run_bind, Instr.build, hzr, Result.andThen_ok, run_underlying hu, run_sizeOf hs, Sem.run_pure]
        rw [hfill]
        rfl
      · simp at ho
    · simp at ho
  | load t x =>
    simp only [absOp] at ho
    split at ho
    · rename_i n x' ht hn hx
      simp at ho; subst ho
      obtain ⟨r, hr, hvr⟩ := ldn_sound hR (ev_VR hE hx) hv ht hn
      exact ⟨r, val_run hr, hvr⟩
    · rename_i n x' ht hn hx
      simp at ho; subst ho
      obtain ⟨r, hr, hvr⟩ := ld_sound hR (ev_VR hE hx) hv ht
      exact ⟨r, val_run hr, hvr⟩
    · simp at ho
  | nilCheck x =>
    simp only [absOp, Option.map_eq_some_iff] at ho
    obtain ⟨y, hy, rfl⟩ := ho
    have hx := ev_VR hE hy
    simp only [pureOp] at hv
    split at hv
    · rename_i b o hxy
      rw [hxy] at hx
      simp at hv; subst hv
      obtain ⟨r, hr, hxe⟩ := hx.ptr
      exact ⟨a.eval x, by simp only [execOp, hxe]; rfl, hx⟩
    · rename_i f p q hxy
      rw [hxy] at hx
      simp at hv; subst hv
      obtain ⟨p', q', hxe, h1, h2⟩ := hx
      exact ⟨a.eval x, by simp only [execOp, hxe]; rfl, p', q', hxe, h1, h2⟩
    · simp at hv
  | binOp bop t x y yt =>
    simp only [absOp] at ho
    split at ho
    · rename_i x' y' hx hy
      split at ho
      · rename_i hag
        split at ho
        · rename_i hc
          simp only [Option.map_eq_some_iff] at ho
          obtain ⟨sk, hsk, rfl⟩ := ho
          obtain ⟨r, hr, hvr⟩ := eqa_sound (ox := x) (oy := y) (ev_VR hE hx) (ev_VR hE hy) hv hag hc.1 hc.2 hsk
          exact ⟨r, val_run hr, hvr⟩
        · simp at ho
      · simp only [Option.map_eq_some_iff] at ho
        obtain ⟨tc, htc, rfl⟩ := ho
        obtain ⟨r, hr, hvr⟩ := bin_sound (w := w) (ev_VR hE hx) (ev_VR hE hy) hv htc
        exact ⟨r, val_run hr, hvr⟩
    · simp at ho
  | unOp uop t x =>
    simp only [absOp, Option.map_eq_some_iff] at ho
    obtain ⟨y, hy, rfl⟩ := ho
    obtain ⟨r, hr, hvr⟩ := un_sound (P := P) (w := w) (ev_VR hE hy) hv
    exact ⟨r, val_run hr, hvr⟩
  | convert s d x =>
    simp only [absOp] at ho
    split at ho
    · rename_i k0 k x' hs hd hx
      simp at ho; subst ho
      have hxv := ev_VR hE hx
      simp only [pureOp] at hv
      split at hv
      · rename_i kk n hxe
        rw [hxe] at hxv
        simp at hv; subst hv
        have := hxv.int
        exact ⟨.int k (k.wrap n), val_run (by simp [convert, run_underlying hs, run_underlying hd, this, Conv.intToInt]), rfl⟩
      · simp at hv
    · rename_i k0 x' hs hd hx
      simp at ho; subst ho
      have hxv := ev_VR hE hx
      simp only [pureOp] at hv
      split at hv
      · rename_i kk n hxe
        rw [hxe] at hxv
        simp at hv; subst hv
        have := hxv.int
        exact ⟨.string (Utf8.encode n), val_run (by simp [convert, run_underlying hs, run_underlying hd, this, Conv.intToString]), rfl⟩
      · simp at hv
    · rename_i el x' hs hd hx
      split at ho
      · simp at ho; subst ho; simp [pureOp] at hv
      · simp at ho
    · simp at ho
  | makeInterface t x =>
    simp only [absOp] at ho
    split at ho
    · simp at ho
    · rename_i d x' hni hu hx
      simp at ho; subst ho
      simp only [pureOp] at hv
      split at hv
      · simp at hv; subst hv
        refine ⟨.iface t (a.eval x), val_run ?_, t, a.eval x, rfl⟩
        simp only [Instr.makeInterface, Sem.run_bind, run_underlying hu, Result.andThen_ok]
        first | rfl | (split <;> first | rfl | (exfalso; exact hni _ rfl))
      · simp at hv
    · simp at ho
  | makeFunc fn first caps =>
    cases fn with
    | func f =>
      simp only [absOp] at ho
      split at ho
      · rename_i p q hp hq
        simp at ho; subst ho
        simp only [pureOp] at hv
        split at hv
        · rename_i x y hx hy
          simp at hv; subst hv
          exact ⟨.func (.func f) (first.map a.eval) (caps.map a.eval), val_run rfl, _, _, rfl, by simpa using mapM_ptrs hE hp hx, by simpa using mapM_ptrs hE hq hy⟩
        · simp at hv
      · simp at ho
    | _ => simp [absOp] at ho
  | slice t x lo hi mx =>
    simp only [absOp] at ho
    split at ho
    · rename_i x' lo' hi' hu hx hlo hhi hmx
      simp at ho; subst ho
      have : mx = none := by cases mx <;> simp [absOpt] at hmx; rfl
      subst this
      obtain ⟨r, hr, hvr⟩ := slcs_sound (P := P) (w := w) hE (ev_VR hE hx) hlo hhi hv hu
      exact ⟨r, val_run hr, hvr⟩
    · rename_i el x' lo' hi' mx' hu hx hlo hhi hmx
      simp only [Option.map_eq_some_iff] at ho
      obtain ⟨n, hn, rfl⟩ := ho
      obtain ⟨r, hr, hvr⟩ := slc_sound (P := P) hR hE (ev_VR hE hx) hlo hhi hmx hv hu hn
      exact ⟨r, val_run hr, hvr⟩
    · rename_i n el x' lo' hi' hu hx hlo hhi hmx
      simp only [Option.map_eq_some_iff] at ho
      obtain ⟨s, hs, rfl⟩ := ho
      have : mx = none := by cases mx <;> simp [absOpt] at hmx; rfl
      subst this
      obtain ⟨r, hr, hvr⟩ := slca_sound (P := P) hR hE (ev_VR hE hx) hlo hhi hv hu hs
      exact ⟨r, val_run hr, hvr⟩
    · simp at ho
  | fieldAddr t x f =>
    simp only [absOp] at ho
    split at ho
    · rename_i fs x' hu hx
      split at ho
      · rename_i fd hfd
        split at ho
        · rename_i n hn
          split at ho
          · simp at ho
          · rename_i hn0
            simp at ho; subst ho
            have hxv := ev_VR hE hx
            simp only [pureOp] at hv
            split at hv
            · rename_i b o hxe
              rw [hxe] at hxv
              simp at hv; subst hv
              obtain ⟨r, hr, hev⟩ := hxv.ptr
              refine ⟨.pointer (some ⟨r.blk, r.off + o + fd.offset, none⟩), val_run ?_, r, hr, by rw [Nat.add_assoc]⟩
              rw [hev]
              exact fieldAddr_run hu hfd hn hn0 _ _ w
            · simp at hv
        · simp at ho
      · simp at ho
    · simp at ho
  | field t x f =>
    simp only [absOp] at ho
    split at ho
    · rename_i fs x' hu hx
      split at ho
      · rename_i fd hfd
        have hxv := ev_VR hE hx
        split at ho
        · rename_i n hag hn
          simp at ho; subst ho
          simp only [pureOp] at hv
          split at hv
          · rename_i cs hxe
            rw [hxe] at hxv
            simp at hv; subst hv
            obtain ⟨A, hA, hall⟩ := hxv
            obtain ⟨r, hr, hvr⟩ := part_agg (P := P) (w := w) (i := fd.offset) hall hag hn
            exact ⟨r, val_run (by simp [Instr.field, run_underlying hu, hfd, hA, asAgg, hr]), hvr⟩
          · simp at hv
        · rename_i n hag hn
          simp at ho; subst ho
          simp only [pureOp] at hv
          split at hv
          · rename_i cs hxe
            rw [hxe] at hxv
            simp only [Option.map_eq_some_iff] at hv
            obtain ⟨c, hc, rfl⟩ := hv
            obtain ⟨A, hA, hall⟩ := hxv
            obtain ⟨r, hr, hvr⟩ := part_scalar (P := P) (w := w) hall hc hag
            exact ⟨r, val_run (by simp [Instr.field, run_underlying hu, hfd, hA, asAgg, hr]), hvr⟩
          · simp at hv
        · simp at ho
      · simp at ho
    · simp at ho
  | indexAddr t x i =>
    simp only [absOp] at ho
    split at ho
    · rename_i el x' i' hu hx hi
      simp only [Option.map_eq_some_iff] at ho
      obtain ⟨n, hn, rfl⟩ := ho
      have hxv := ev_VR hE hx
      have hiv := ev_VR hE hi
      simp only [pureOp] at hv
      split at hv
      · rename_i b o len cap z k iv hxe hie
        rw [hxe] at hxv; rw [hie] at hiv
        split at hv
        · rename_i hc
          obtain ⟨h0, h1, rfl⟩ := hc
          simp at hv; subst hv
          obtain ⟨r, a', cap', hr, hev, hlc, hcc, hex, hbd, hoff⟩ := hxv
          have hie' := hiv.int
          have hcap : cap ≠ 0 := by omega
          have ha' : a' = r.off + o := hoff.resolve_right hcap
          refine ⟨.pointer (some ⟨r.blk, r.off + (o + iv.toNat * z), none⟩), val_run ?_, r, hr, rfl⟩
          rw [hev, hie']
          simp [Instr.indexAt, asIntOf, run_underlying hu, h0, h1, run_sizeOf hn, add_none, ha', Nat.add_assoc]
        · simp at hv
      · simp at hv
    · rename_i m el x' i' hu hx hi
      simp only [Option.map_eq_some_iff] at ho
      obtain ⟨n, hn, rfl⟩ := ho
      have hxv := ev_VR hE hx
      have hiv := ev_VR hE hi
      simp only [pureOp] at hv
      split at hv
      · rename_i b o k iv hxe hie
        rw [hxe] at hxv; rw [hie] at hiv
        split at hv
        · rename_i hc
          simp at hv; subst hv
          obtain ⟨r, hr, hev⟩ := hxv.ptr
          have hie' := hiv.int
          refine ⟨.pointer (some ⟨r.blk, r.off + (o + iv.toNat * n), none⟩), val_run ?_, r, hr, rfl⟩
          rw [hev, hie']
          simp [Instr.indexAt, asIntOf, run_underlying hu, Instr.sureAddr, hc, run_sizeOf hn, add_none, Nat.add_assoc]
        · simp at hv
      · simp at hv
    · simp at ho
  | index t x i =>
    simp only [absOp] at ho
    split at ho
    · rename_i x' i' hu hx hi
      simp at ho; subst ho
      have hxv := ev_VR hE hx
      have hiv := ev_VR hE hi
      simp only [pureOp] at hv
      split at hv
      · rename_i s k iv hxe hie
        rw [hxe] at hxv; rw [hie] at hiv
        split at hv
        · rename_i h0
          simp only [Option.map_eq_some_iff] at hv
          obtain ⟨c, hc, rfl⟩ := hv
          have hev := hxv.str
          have hie' := hiv.int
          refine ⟨.int .u8 c.toNat, val_run ?_, rfl⟩
          rw [hev, hie']
          have hlt : iv.toNat < s.length := by
            rcases Nat.lt_or_ge iv.toNat s.length with h | h
            · exact h
            · rw [List.getElem?_eq_none h] at hc; cases hc
          have hget : (⟨s.toArray⟩ : ByteArray)[iv.toNat]? = some c := by
            rw [getElem?_pos _ _ (by show iv.toNat < s.length; exact hlt)]
            rw [List.getElem?_eq_getElem hlt] at hc
            show some (s.toArray[iv.toNat]'(by simpa using hlt)) = some c
            simpa using hc
          simp [Instr.index, asIntOf, run_underlying hu, h0, hget]
        · simp at hv
      · simp at hv
    · rename_i n el x' i' hu hx hi
      have hxv := ev_VR hE hx
      have hiv := ev_VR hE hi
      split at ho
      · rename_i s hag hs
        simp at ho; subst ho
        simp only [pureOp] at hv
        split at hv
        · rename_i cs k iv hxe hie
          rw [hxe] at hxv; rw [hie] at hiv
          split at hv
          · rename_i hc
            simp at hv; subst hv
            obtain ⟨A, hA, hall⟩ := hxv
            have hie' := hiv.int
            obtain ⟨r, hr, hvr⟩ := part_agg (P := P) (w := w) (i := iv.toNat * s) hall hag hs
            exact ⟨r, val_run (by rw [hA, hie']; simp [Instr.index, asIntOf, run_underlying hu, hc, run_sizeOf hs, hr]), hvr⟩
          · simp at hv
        · simp at hv
      · rename_i s hag hs
        split at ho
        · rename_i hs1
          simp at ho; subst ho
          simp only [pureOp] at hv
          split at hv
          · rename_i cs k iv hxe hie
            rw [hxe] at hxv; rw [hie] at hiv
            split at hv
            · rename_i hc
              simp only [Option.map_eq_some_iff] at hv
              obtain ⟨c, hcc, rfl⟩ := hv
              obtain ⟨A, hA, hall⟩ := hxv
              have hie' := hiv.int
              obtain ⟨r, hr, hvr⟩ := part_scalar (P := P) (w := w) hall hcc hag
              exact ⟨r, val_run (by rw [hA, hie']; simp [Instr.index, asIntOf, run_underlying hu, hc, run_sizeOf hs, hs1, hr]), hvr⟩
            · simp at hv
          · simp at hv
        · simp at ho
      · simp at ho
    · simp at ho
  | lookup t m k ok =>
    simp only [absOp] at ho
    split at ho
    · rename_i q el m' k' hu hm hk
      split at ho
      · rename_i ks hks
        simp only [Option.map_eq_some_iff] at ho
        obtain ⟨z, hz, rfl⟩ := ho
        obtain ⟨r, hr, hvr⟩ := lk_sound hR (ev_VR hE hm) (ev_VR hE hk) hv hu hks hz
        exact ⟨r, val_run hr, hvr⟩
      · simp at ho
    · simp at ho
  | extract x i =>
    simp only [absOp, Option.map_eq_some_iff] at ho
    obtain ⟨y, hy, rfl⟩ := ho
    have hxv := ev_VR hE hy
    simp only [pureOp] at hv
    split at hv
    · rename_i xs hxe
      rw [hxe] at hxv
      simp only [Option.map_eq_some_iff] at hv
      obtain ⟨s, hs, rfl⟩ := hv
      obtain ⟨A, hA, hall⟩ := hxv
      obtain ⟨u, hu, hr⟩ := hall.get hs
      simp at hu
      exact ⟨u, val_run (by rw [hA]; simp [Instr.extract, hu]), ofSum_VR hr⟩
    · simp at hv
  | alloc t =>
    simp only [absOp, Option.map_eq_some_iff] at ho
    obtain ⟨y, hy, rfl⟩ := ho; simp [pureOp] at hv
  | box t x =>
    simp only [absOp, Option.map_eq_some_iff] at ho
    obtain ⟨y, hy, rfl⟩ := ho; simp [pureOp] at hv
  | buildSlice t n ps =>
    simp only [absOp] at ho
    split at ho
    · split at ho
      · split at ho
        · simp only [Option.map_eq_some_iff] at ho
          obtain ⟨y, hy, rfl⟩ := ho; simp [pureOp] at hv
        · simp at ho
      · simp at ho
    · simp at ho
  | insert t m k x =>
    simp only [absOp] at ho
    split at ho
    · simp only [Option.map_eq_some_iff] at ho
      obtain ⟨y, hy, rfl⟩ := ho; simp [pureOp] at hv
    · simp at ho
  | mapUpdate t m k x =>
    simp only [absOp] at ho
    split at ho
    · simp only [Option.map_eq_some_iff] at ho
      obtain ⟨y, hy, rfl⟩ := ho; simp [pureOp] at hv
    · simp at ho
  | store t x y =>
    simp only [absOp] at ho
    split at ho
    · simp at ho; subst ho; simp [pureOp] at hv
    · simp at ho
  | makeMap t r =>
    cases r with
    | none => simp [absOp] at ho; subst ho; simp [pureOp] at hv
    | some r => simp [absOp] at ho
  | makeSlice t l c =>
    simp only [absOp] at ho
    split at ho
    · split at ho
      · split at ho
        · simp at ho; subst ho; simp [pureOp] at hv
        · simp at ho
      · simp at ho
    · simp at ho
  | range t x =>
    simp only [absOp] at ho
    split at ho
    · simp at ho; subst ho; simp [pureOp] at hv
    · simp at ho
  | next x s =>
    cases s with
    | true =>
      simp only [absOp, Option.map_eq_some_iff] at ho
      obtain ⟨y, hy, rfl⟩ := ho; simp [pureOp] at hv
    | false => simp [absOp] at ho
  | defer c =>
    simp only [absOp] at ho
    split at ho
    · simp only [Option.map_eq_some_iff] at ho
      obtain ⟨y, hy, rfl⟩ := ho; simp [pureOp] at hv
    · simp at ho
  | panic x =>
    simp only [absOp, Option.map_eq_some_iff] at ho
    obtain ⟨y, hy, rfl⟩ := ho; simp [pureOp] at hv
  | call c =>
    simp only [absOp] at ho
    obtain ⟨callee, args, argTypes⟩ := c
    simp only [absCall] at ho
    split at ho
    · simp only [Option.map_eq_some_iff] at ho
      obtain ⟨y, hy, rfl⟩ := ho; simp [pureOp] at hv
    · split at ho
      · simp at ho; subst ho; simp [pureOp] at hv
      · simp at ho
    · simp at ho
    · rename_i bi
      split at ho
      · -- len
        rename_i t x hat hax
        obtain rfl : argTypes = #[t] := by apply Array.ext'; simpa using hat
        obtain rfl : args = #[x] := by apply Array.ext'; simpa using hax
        obtain ⟨tk, y, hy, rfl, htk⟩ : ∃ tk y, absOpd x = some y ∧ op = .len tk y ∧ ((tk = 0 ∧ P.underlying t = some .string) ∨ (tk = 1 ∧ ∃ el, P.underlying t = some (.slice el)) ∨ (tk = 2 ∧ ∃ k el, P.underlying t = some (.map k el))) := by
          split at ho
          · rename_i hu
            simp only [Option.map_eq_some_iff] at ho
            obtain ⟨y, hy, rfl⟩ := ho
            exact ⟨0, y, hy, rfl, .inl ⟨rfl, hu⟩⟩
          · rename_i hu
            simp only [Option.map_eq_some_iff] at ho
            obtain ⟨y, hy, rfl⟩ := ho
            exact ⟨1, y, hy, rfl, .inr (.inl ⟨rfl, _, hu⟩)⟩
          · rename_i hu
            simp only [Option.map_eq_some_iff] at ho
            obtain ⟨y, hy, rfl⟩ := ho
            exact ⟨2, y, hy, rfl, .inr (.inr ⟨rfl, _, _, hu⟩)⟩
          · simp at ho
        have hxv := ev_VR hE hy
        have hex : ∀ {u : Value}, (Builtin.len_ #[t] type #[a.eval x]).run P w = .ok u w →
            (execOp a.eval ⟨dst, .call ⟨.builtin .len, #[x], #[t]⟩, type, pos, after, guard⟩).run P w = .ok (.value u) w := by
          intro u hu
          exact val_run (s := Builtin.len_ #[t] type (#[x].map a.eval)) (by simpa using hu)
        simp only [pureOp] at hv
        split at hv
        all_goals (try (exact absurd hv (by simp)))
        all_goals rw [nbeq, bif_decide] at hv
        all_goals (split at hv; rotate_left; exact absurd hv (by simp))
        all_goals (rename_i hxe htk0; rw [hxe] at hxv; subst htk0)
        · obtain ⟨_, hu⟩ := htk.resolve_right (by rintro (⟨h, _⟩ | ⟨h, _⟩) <;> simp at h)
          simp at hv; subst hv
          have := hxv.str
          exact ⟨_, hex (u := .int .i64 _) (by rw [this]; simp [Builtin.len_, run_underlying hu, goInt, size_mk]), rfl⟩
        · obtain ⟨_, el, hu⟩ := (htk.resolve_left (by rintro ⟨h, _⟩; simp at h)).resolve_right (by rintro ⟨h, _⟩; simp at h)
          simp at hv; subst hv
          have hxv : a.eval x = .slice none 0 0 := hxv
          exact ⟨_, hex (u := .int .i64 0) (by rw [hxv]; simp [Builtin.len_, run_underlying hu, goInt]), rfl⟩
        · obtain ⟨_, el, hu⟩ := (htk.resolve_left (by rintro ⟨h, _⟩; simp at h)).resolve_right (by rintro ⟨h, _⟩; simp at h)
          simp at hv; subst hv
          obtain ⟨r, a', cap', hr, hev, _⟩ := hxv
          exact ⟨_, hex (u := .int .i64 _) (by rw [hev]; simp [Builtin.len_, run_underlying hu, goInt]), rfl⟩
        · obtain ⟨_, k, el, hu⟩ := (htk.resolve_left (by rintro ⟨h, _⟩; simp at h)).resolve_left (by rintro ⟨h, _⟩; simp at h)
          obtain ⟨r, hr, hev⟩ := hxv
          split at hv
          · rename_i es hb
            simp at hv; subst hv
            obtain ⟨ES, clock, hH, hall⟩ := hR.ob _ r _ hr hb
            have hl : es.length = ES.size := by simpa using hall.length
            exact ⟨_, hex (u := .int .i64 es.length) (by rw [hev]; simp [Builtin.len_, run_underlying hu, goInt, getObj, Sem.run, hH]; omega), rfl⟩
          · simp at hv
        · obtain ⟨_, k, el, hu⟩ := (htk.resolve_left (by rintro ⟨h, _⟩; simp at h)).resolve_left (by rintro ⟨h, _⟩; simp at h)
          simp at hv; subst hv
          have hxv : a.eval x = .map none := hxv
          exact ⟨_, hex (u := .int .i64 0) (by rw [hxv]; simp [Builtin.len_, run_underlying hu, goInt]), rfl⟩
      · split at ho
        · split at ho
          · split at ho
            · simp at ho; subst ho; simp [pureOp] at hv
            · simp at ho
          · simp at ho
        · simp at ho
      · split at ho
        · split at ho
          · simp at ho; subst ho; simp [pureOp] at hv
          · simp at ho
        · simp at ho
      · split at ho
        · split at ho
          · split at ho
            · simp at ho; subst ho; simp [pureOp] at hv
            · simp at ho
          · simp at ho
        · simp at ho
      · split at ho
        · simp only [Option.map_eq_some_iff] at ho
          obtain ⟨y, hy, rfl⟩ := ho; simp [pureOp] at hv
        · simp at ho
      · simp only [Option.map_eq_some_iff] at ho
        obtain ⟨ys, hys, rfl⟩ := ho
        have hall := absOpds_VR hE hys
        simp only [pureOp] at hv
        split at hv
        · rename_i y ys'
          have hargs : ∃ x xs, args.toList = x :: xs := by
            cases h : args.toList with
            | nil => rw [h] at hys; simp [absOpds] at hys
            | cons x xs => exact ⟨x, xs, rfl⟩
          obtain ⟨x, xs, hxs⟩ := hargs
          rw [hxs] at hall
          obtain ⟨z, hz, hr⟩ := max_sound (P := P) (w := w) hall.1 hall.2 hv
          refine ⟨z, ?_, hr⟩
          refine val_run (s := Builtin.max_ argTypes type (args.map a.eval)) ?_
          simp only [Builtin.max_, Array.toList_map, hxs, List.map_cons]
          exact hz
        · simp at hv
      · simp only [Option.map_eq_some_iff] at ho
        obtain ⟨ys, hys, rfl⟩ := ho
        have hall := absOpds_VR hE hys
        simp only [pureOp] at hv
        split at hv
        · rename_i y ys'
          have hargs : ∃ x xs, args.toList = x :: xs := by
            cases h : args.toList with
            | nil => rw [h] at hys; simp [absOpds] at hys
            | cons x xs => exact ⟨x, xs, rfl⟩
          obtain ⟨x, xs, hxs⟩ := hargs
          rw [hxs] at hall
          obtain ⟨z, hz, hr⟩ := min_sound (P := P) (w := w) hall.1 hall.2 hv
          refine ⟨z, ?_, hr⟩
          refine val_run (s := Builtin.min_ argTypes type (args.map a.eval)) ?_
          simp only [Builtin.min_, Array.toList_map, hxs, List.map_cons]
          exact hz
        · simp at hv
      · simp at ho; subst ho; simp [pureOp] at hv
      · simp at ho
  | _ => simp [absOp] at ho
end
end Go.Proofs.YtjlebgfbohihfaaGreat.Am
