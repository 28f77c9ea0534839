/-
  What only reads comes to the same in the model: all operations together.
-/
import Derived.Test.YtjlebgfbohihfaaGreatAmF
namespace Go.Proofs.YtjlebgfbohihfaaGreat.Am
open Go
set_option linter.unusedVariables false
set_option linter.unusedSimpArgs false

section
variable {P : Program} {ρ : Ren} {h : Hp} {w : World} {e : Env} {a : Act}

theorem bounds_run (hE : EnvR ρ e a.tmps) {lo hi mx : Option Opd} {olo ohi omx : Option Operand} (hlo : absOpt olo = some lo) (hhi : absOpt ohi = some hi) (hmx : absOpt omx = some mx)
    {len cap cap' m hh l : Nat} (hc : cap ≤ cap') (h1 : bndO e mx cap cap = some m) (h2 : bndH e hi mx m len = some hh)
    (h3 : bndO e lo hh 0 = some l) (isSl : Bool) (w : World) :
    (Instr.sliceBounds isSl len cap' (olo.map a.eval) (ohi.map a.eval) (omx.map a.eval)).run P w = .ok (l, hh, if omx.isSome then m else cap') w ∧ l ≤ hh ∧ (omx.isSome = true → m ≤ cap) ∧ (omx = none → m = cap) := by
  have ol : ∀ code : BoundsCode, (match olo.map a.eval with | some v => Instr.sliceBound v hh code | none => pure 0 : Sem Nat).run P w = .ok l w ∧ (l ≤ hh ∨ l = 0) :=
    fun code => bndO_run (P := P) hE hlo h3 (Nat.le_refl _) code w
  have hle : l ≤ hh := by rcases (ol .sliceB).2 with h | h <;> omega
  cases omx with
  | none =>
    simp [absOpt] at hmx; subst hmx
    simp [bndO] at h1; subst h1
    refine ⟨?_, hle, by simp, by simp⟩
    unfold Instr.sliceBounds
    simp only [Option.map_none, Sem.run_bind, Sem.run_pure, Result.andThen_ok, Option.isSome_none, Bool.false_eq_true, if_false]
    cases ohi with
    | none =>
      simp [absOpt] at hhi; subst hhi
      simp [bndH] at h2; subst h2
      simp only [Option.map_none]
      have := (ol .sliceB).1
      cases olo with
      | none => simp at this ⊢; first | omega | exact this
      | some q => simp only [Option.map_some] at this ⊢; simp only [Sem.run_bind, Sem.run_pure, Result.andThen_ok, this]
    | some p =>
      simp only [absOpt, Option.map_eq_some_iff] at hhi
      obtain ⟨y, hy, rfl⟩ := hhi
      simp only [bndH] at h2
      obtain ⟨hb, _⟩ := bnd_run' (P := P) (ev_VR hE hy) h2 hc (if isSl then .sliceAcap else .sliceAlen) w
      simp only [Option.map_some, Sem.run_bind, hb, Result.andThen_ok]
      have := (ol .sliceB).1
      cases olo with
      | none => simp at this ⊢; first | omega | exact this
      | some q => simp only [Option.map_some] at this ⊢; simp only [Sem.run_bind, Sem.run_pure, Result.andThen_ok, this]
  | some q0 =>
    simp only [absOpt, Option.map_eq_some_iff] at hmx
    obtain ⟨z, hz, rfl⟩ := hmx
    simp only [bndO] at h1
    obtain ⟨hb1, hm⟩ := bnd_run' (P := P) (ev_VR hE hz) h1 hc (if isSl then .slice3Acap else .slice3Alen) w
    refine ⟨?_, hle, fun _ => hm, by simp⟩
    unfold Instr.sliceBounds
    simp only [Option.map_some, Sem.run_bind, hb1, Result.andThen_ok, Option.isSome_some, if_true]
    cases ohi with
    | none =>
      simp [absOpt] at hhi; subst hhi
      simp [bndH] at h2
    | some p =>
      simp only [absOpt, Option.map_eq_some_iff] at hhi
      obtain ⟨y, hy, rfl⟩ := hhi
      simp only [bndH] at h2
      obtain ⟨hb, _⟩ := bnd_run (P := P) (ev_VR hE hy) h2 .slice3B w
      simp only [Option.map_some, Sem.run_bind, hb, Result.andThen_ok]
      have := (ol .slice3C).1
      cases olo with
      | none => simp at this ⊢; first | omega | exact this
      | some q => simp only [Option.map_some] at this ⊢; simp only [Sem.run_bind, Sem.run_pure, Result.andThen_ok, this]

theorem slcs_sound (hE : EnvR ρ e a.tmps) {x : Opd} {lo hi : Option Opd} {v : AVal} {u : Value} {olo ohi : Option Operand} (hu : VR ρ (ev e x) u) (hlo : absOpt olo = some lo) (hhi : absOpt ohi = some hi)
    (hv : pureOp e h (.slcs x lo hi) = some v) {t : TypeId} (ht : P.underlying t = some .string) :
    ∃ r, (Instr.sliceAt t u (olo.map a.eval) (ohi.map a.eval) none).run P w = .ok r w ∧ VR ρ v r := by
  simp only [pureOp] at hv
  split at hv
  · rename_i s hx
    rw [hx] at hu
    have := hu.str; subst this
    split at hv
    · rename_i hh hbh
      split at hv
      · rename_i l hbl
        simp at hv; subst hv
        have hmx : absOpt none = some none := rfl
        have h2 : bndH e hi none s.length s.length = some hh := by
          cases hi with
          | none => simpa [bndO, bndH] using hbh
          | some y => exact hbh
        obtain ⟨hb, _, _, _⟩ := bounds_run (P := P) hE hlo hhi hmx (Nat.le_refl s.length) (by rfl : bndO e none s.length s.length = some s.length) h2 hbl false w
        simp only [Option.map_none, Option.isSome_none, Bool.false_eq_true, if_false] at hb
        refine ⟨.string ⟨((s.take hh).drop l).toArray⟩, ?_, rfl⟩
        simp only [Instr.sliceAt, Sem.run_bind, run_underlying ht, Result.andThen_ok, Instr.slice, Option.isSome_none, Bool.false_eq_true, if_false, Sem.run_pure, size_mk, hb]
        congr 2
        apply ByteArray.ext
        rw [ByteArray.data_extract]
        apply Array.ext'
        simp [List.drop_take]
      · simp at hv
    · simp at hv
  · simp at hv

theorem add_off (b o n : Nat) : (⟨b, o, none⟩ : Addr).add n = ⟨b, o + n, none⟩ := add_none b o n

theorem slc_sound (hR : Rel ρ h w.heap) (hE : EnvR ρ e a.tmps) {x : Opd} {lo hi mx : Option Opd} {v : AVal} {u : Value} {olo ohi omx : Option Operand} (hu : VR ρ (ev e x) u) (hlo : absOpt olo = some lo) (hhi : absOpt ohi = some hi) (hmx : absOpt omx = some mx)
    {sz : Nat} (hv : pureOp e h (.slc sz x lo hi mx) = some v) {t el : TypeId} (ht : P.underlying t = some (.slice el)) (hs : sizeT P el = some sz) :
    ∃ r, (Instr.sliceAt t u (olo.map a.eval) (ohi.map a.eval) (omx.map a.eval)).run P w = .ok r w ∧ VR ρ v r := by
  simp only [pureOp] at hv
  split at hv
  · rename_i b o len cap z hx
    rw [hx] at hu
    obtain ⟨r, a', cap', hr, rfl, hlc, hcc, hex, hbd, hoff⟩ := hu
    split at hv
    · rename_i m hm
      split at hv
      · rename_i hh hhh
        split at hv
        · rename_i l hl
          split at hv
          · rename_i hle
            obtain ⟨hle, rfl⟩ := hle
            simp at hv; subst hv
            obtain ⟨hb, hlh, hm1, hm2⟩ := bounds_run (P := P) hE hlo hhi hmx hcc hm hhh hl true w
            have hmc : m ≤ cap := by
              cases omx with
              | none => exact Nat.le_of_eq (hm2 rfl)
              | some q => exact hm1 rfl
            have hlm : l ≤ m := by omega
            generalize hM : (if omx.isSome = true then m else cap') = M at hb
            refine ⟨.slice (if M = l then some ⟨r.blk, a', none⟩ else some ⟨r.blk, a' + l * z, none⟩) (hh - l) (M - l), ?_, ?_⟩
            · simp only [Instr.sliceAt, Sem.run_bind, run_underlying ht, Result.andThen_ok, Instr.slice, hb, run_sizeOf hs, Sem.run_pure, Option.map_some, add_off]
            ·
              have hMm : m ≤ M := by
                subst hM; split
                · omega
                · rename_i hn
                  have : omx = none := by cases omx <;> simp at hn; rfl
                  rw [hm2 this]; exact hcc
              have hMc : M ≤ cap' := by subst hM; split <;> omega
              have hexM : r.exact = true → M = m := by
                intro hx'
                have := hex hx'
                subst hM; split
                · rfl
                · rename_i hn
                  have : omx = none := by cases omx <;> simp at hn; rfl
                  rw [hm2 this]; omega
              have hmul : l * z ≤ M * z := Nat.mul_le_mul_right _ (by omega)
              have hmulc : M * z ≤ cap' * z := Nat.mul_le_mul_right _ hMc
              have hsub : (M - l) * z = M * z - l * z := Nat.sub_mul _ _ _
              by_cases hMl : M = l
              · have hml : m = l := by omega
                simp only [hMl, if_true, hml]
                refine ⟨r, a', 0, hr, by simp, by omega, by omega, fun _ => by omega, by omega, .inr (by omega)⟩
              · simp only [hMl, if_false]
                refine ⟨r, a' + l * z, M - l, hr, rfl, by omega, by omega, fun hx' => by have := hexM hx'; omega, by omega, ?_⟩
                by_cases hml : m = l
                · exact .inr (by omega)
                · simp only [hml, if_false]
                  rcases hoff with h1 | h1
                  · exact .inl (by omega)
                  · omega
          · simp at hv
        · simp at hv
      · simp at hv
    · simp at hv
  · rename_i hx
    rw [hx] at hu
    have hu : u = .slice none 0 0 := hu
    subst hu
    split at hv
    · rename_i m hm
      split at hv
      · rename_i hh hhh
        split at hv
        · rename_i l hl
          simp at hv; subst hv
          obtain ⟨hb, hlh, hm1, hm2⟩ := bounds_run (P := P) hE hlo hhi hmx (Nat.le_refl 0) hm hhh hl true w
          have hM : (if omx.isSome = true then m else 0) = 0 := by
            cases omx with
            | none => rfl
            | some q => have := hm1 rfl; simp; omega
          rw [hM] at hb
          have hh0 : hh = 0 := by
            have hm0 : m = 0 := by
              cases omx with
              | none => exact hm2 rfl
              | some q => have := hm1 rfl; omega
            subst hm0
            cases hi with
            | none => simp [bndH] at hhh; omega
            | some y =>
              simp only [bndH, bnd] at hhh
              split at hhh
              · split at hhh
                · simp at hhh; omega
                · simp at hhh
              · simp at hhh
          subst hh0
          have : l = 0 := by omega
          subst this
          refine ⟨.slice none 0 0, ?_, rfl⟩
          simp only [Instr.sliceAt, Sem.run_bind, run_underlying ht, Result.andThen_ok, Instr.slice, hb, run_sizeOf hs, Sem.run_pure]
          rfl
        · simp at hv
      · simp at hv
    · simp at hv
  · simp at hv

theorem slca_sound (hR : Rel ρ h w.heap) (hE : EnvR ρ e a.tmps) {x : Opd} {lo hi : Option Opd} {v : AVal} {u : Value} {olo ohi : Option Operand} (hu : VR ρ (ev e x) u) (hlo : absOpt olo = some lo) (hhi : absOpt ohi = some hi)
    {n sz : Nat} (hv : pureOp e h (.slca n sz x lo hi) = some v) {t el : TypeId} (ht : P.underlying t = some (.array n el)) (hs : sizeT P el = some sz) :
    ∃ r, (Instr.sliceAt t u (olo.map a.eval) (ohi.map a.eval) none).run P w = .ok r w ∧ VR ρ v r := by
  simp only [pureOp] at hv
  split at hv
  · rename_i b o hx
    rw [hx] at hu
    obtain ⟨r, hr, rfl⟩ := hu.ptr
    split at hv
    · rename_i hh hhh
      split at hv
      · rename_i l hl
        split at hv
        · rename_i cs hb
          split at hv
          · rename_i hsz
            simp at hv; subst hv
            have hmx : absOpt none = some none := rfl
            have h2 : bndH e hi none n n = some hh := by
              cases hi with
              | none => simpa [bndO, bndH] using hhh
              | some y => exact hhh
            obtain ⟨hbr, hlh, _, _⟩ := bounds_run (P := P) hE hlo hhi hmx (Nat.le_refl n) (by rfl : bndO e none n n = some n) h2 hl false w
            obtain ⟨C, elem, fr, k1, k2, k3, k4, k5, k6, k7⟩ := hR.ob b r _ hr hb
            have hhn : hh ≤ n := by
              cases hi with
              | none => simp [bndH] at h2; omega
              | some y =>
                simp only [bndH, bnd] at h2
                split at h2
                · split at h2
                  · simp at h2; omega
                  · simp at h2
                · simp at h2
            have hmul : l * sz ≤ n * sz := Nat.mul_le_mul_right _ (by omega)
            have hsub : (n - l) * sz = n * sz - l * sz := Nat.sub_mul _ _ _
            have := k5 rfl
            refine ⟨.slice (some (if n = l then ⟨r.blk, r.off + o, none⟩ else ⟨r.blk, r.off + o + l * sz, none⟩)) (hh - l) (n - l), ?_, ?_⟩
            · simp only [Option.map_none, Option.isSome_none, Bool.false_eq_true, if_false] at hbr
              simp only [Instr.sliceAt, Sem.run_bind, run_underlying ht, Result.andThen_ok, Instr.sureAddr, Sem.run_pure, hbr, run_sizeOf hs, add_off]
            ·
              by_cases hnl : n = l
              · simp only [hnl, if_true]
                refine ⟨r, r.off + o, 0, hr, by simp, by omega, by omega, fun _ => by omega, by omega, .inl rfl⟩
              · simp only [hnl, if_false]
                refine ⟨r, r.off + o + l * sz, n - l, hr, rfl, by omega, by omega, fun _ => rfl, by omega, .inl (by omega)⟩
          · simp at hv
        · simp at hv
      · simp at hv
    · simp at hv
  · simp at hv
end
end Go.Proofs.YtjlebgfbohihfaaGreat.Am
