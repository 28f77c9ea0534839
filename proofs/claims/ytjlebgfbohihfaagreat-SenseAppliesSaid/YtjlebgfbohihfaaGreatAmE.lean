/-
  An operation that only reads or reckons comes to the same in the model.
-/
import Derived.Test.YtjlebgfbohihfaaGreatAmD
namespace Go.Proofs.YtjlebgfbohihfaaGreat.Am
open Go
set_option linter.unusedVariables false
set_option linter.unusedSimpArgs false

theorem VR.int {ρ : Ren} {k : IntKind} {n : Int} {v : Value} (h : VR ρ (.c (.int k n)) v) : v = .int k n := h
theorem VR.bool {ρ : Ren} {b : Bool} {v : Value} (h : VR ρ (.c (.bool b)) v) : v = .bool b := h
theorem VR.str {ρ : Ren} {s : List UInt8} {v : Value} (h : VR ρ (.c (.str s)) v) : v = .string ⟨s.toArray⟩ := h
theorem VR.ptr {ρ : Ren} {b o : Nat} {v : Value} (h : VR ρ (.c (.ptr b o)) v) : ∃ r, ρ b = some r ∧ v = .pointer (some ⟨r.blk, r.off + o, none⟩) := h

section
variable {P : Program}
theorem run_sizeOf {t : TypeId} {n : Nat} (h : sizeT P t = some n) (w : World) : (sizeOf t).run P w = .ok n w := by
  unfold sizeT at h
  simp only [Option.map_eq_some_iff] at h
  obtain ⟨i, hi, rfl⟩ := h
  simp [sizeOf, typeInfo, hi]
theorem run_isAgg {t : TypeId} {b : Bool} (h : aggT P t = some b) (w : World) : (isAgg t).run P w = .ok b w := by
  unfold aggT at h
  split at h <;> simp at h <;> subst h <;> (rename_i hu; simp only [isAgg, Sem.run_bind, run_underlying hu, Result.andThen_ok])
  · rfl
  · rfl
  · rfl
theorem run_zeroValue {t : TypeId} {cs : List Cell} (h : zcells P t = some cs) (w : World) :
    ∃ z : Value, (zeroValue t).run P w = .ok z w ∧ absCells z.cells.toList = some cs ∧ sizeT P t = some cs.length := by
  unfold zcells at h
  split at h
  · rename_i i hi
    split at h
    · rename_i z hz
      split at h
      · rename_i cs' hc
        split at h
        · rename_i hl
          simp at h; subst h
          exact ⟨z, by simp [zeroValue, typeInfo, hi, hz], hc, by simp [sizeT, hi, hl]⟩
        · simp at h
      · simp at h
    · simp at h
  · simp at h
theorem run_zval {t : TypeId} {v : AVal} (h : zval P t = some v) (w : World) :
    ∃ z : Value, (zeroValue t).run P w = .ok z w ∧ absVal z = some v ∧ v.one = true := by
  unfold zval at h
  split at h
  · rename_i i hi
    split at h
    · rename_i z hz
      split at h
      · rename_i cs' hc
        split at h
        · rename_i hl
          simp at h; subst h
          exact ⟨z, by simp [zeroValue, typeInfo, hi, hz], hc, hl⟩
        · simp at h
      · simp at h
    · simp at h
  · simp at h

theorem absOpds_VR {ρ : Ren} {e : Env} {a : Act} (he : EnvR ρ e a.tmps) : ∀ {xs : List Operand} {ys : List Opd}, absOpds xs = some ys → All2 (VR ρ) (ys.map (ev e)) (xs.map a.eval)
  | [], ys, h => by simp [absOpds] at h; subst h; trivial
  | x :: xs, ys, h => by
    simp only [absOpds] at h
    split at h
    · rename_i y ys' h1 h2
      simp at h; subst h
      exact ⟨ev_VR he h1, absOpds_VR he h2⟩
    · simp at h

theorem bnd_run {ρ : Ren} {e : Env} {x : Opd} {v : Value} {most m : Nat} (hv : VR ρ (ev e x) v) (h : bnd e x most = some m) (code : BoundsCode) (w : World) :
    (Instr.sliceBound v most code).run P w = .ok m w ∧ m ≤ most := by
  unfold bnd at h
  split at h
  · rename_i k i hx
    rw [hx] at hv
    have := hv.int; subst this
    split at h
    · rename_i hi
      simp at h; subst h
      refine ⟨?_, by omega⟩
      simp [Instr.sliceBound, asIntOf, hi]
    · simp at h
  · simp at h
theorem bnd_run' {ρ : Ren} {e : Env} {x : Opd} {v : Value} {most most' m : Nat} (hv : VR ρ (ev e x) v) (h : bnd e x most = some m) (hle : most ≤ most') (code : BoundsCode) (w : World) :
    (Instr.sliceBound v most' code).run P w = .ok m w ∧ m ≤ most := by
  unfold bnd at h
  split at h
  · rename_i k i hx
    rw [hx] at hv
    have := hv.int; subst this
    split at h
    · rename_i hi
      simp at h; subst h
      refine ⟨?_, by omega⟩
      have : 0 ≤ i ∧ i ≤ (most' : Int) := by omega
      simp [Instr.sliceBound, asIntOf, this]
    · simp at h
  · simp at h

theorem intBin_run {op : BinOp} {k : IntKind} {x y : Int} {c : Cell} (h : intBin op k x y = some c) (hns : isShift op = false) (t : TypeId) (w : World) :
    ∃ v, (binOp op t (.int k x) (.int k y)).run P w = .ok v w ∧ ∀ ρ, CR ρ c v := by
  cases op <;> simp [isShift] at hns <;> simp [intBin] at h
  case quo => obtain ⟨h0, rfl⟩ := h; exact ⟨_, by simp [binOp, Op.intDiv, h0], fun _ => rfl⟩
  case rem => obtain ⟨h0, rfl⟩ := h; exact ⟨_, by simp [binOp, Op.intDiv, h0], fun _ => rfl⟩
  all_goals
    subst h
    exact ⟨_, by simp [binOp, Op.intArith, Op.intBits, Op.intCmp], fun _ => rfl⟩
theorem intShift_run {op : BinOp} {k j : IntKind} {x y : Int} {c : Cell} (h : intShift op k x y = some c) (t : TypeId) (w : World) :
    ∃ v, (binOp op t (.int k x) (.int j y)).run P w = .ok v w ∧ ∀ ρ, CR ρ c v := by
  unfold intShift at h
  split at h
  · simp at h
  · rename_i hy
    cases op <;> simp at h
    all_goals
      subst h
      exact ⟨_, by simp [binOp, Op.shift, hy], fun _ => rfl⟩
theorem toList_mk (s : List UInt8) : (⟨s.toArray⟩ : ByteArray).toList = s := by rw [ByteArray.toList_eq]
theorem size_mk (s : List UInt8) : (⟨s.toArray⟩ : ByteArray).size = s.length := rfl
theorem append_mk (s t : List UInt8) : (⟨s.toArray⟩ : ByteArray) ++ ⟨t.toArray⟩ = ⟨(s ++ t).toArray⟩ := by
  apply ByteArray.ext
  simp [ByteArray.data_append]
theorem strBin_run {op : BinOp} {x y : List UInt8} {c : Cell} (h : strBin op x y = some c) (t : TypeId) (w : World) :
    ∃ v, (binOp op t (.string ⟨x.toArray⟩) (.string ⟨y.toArray⟩)).run P w = .ok v w ∧ ∀ ρ, CR ρ c v := by
  cases op <;> simp [strBin] at h
  case add =>
    obtain ⟨h1, rfl⟩ := h
    refine ⟨.string ⟨(x ++ y).toArray⟩, ?_, fun _ => rfl⟩
    have : ¬ ((((⟨x.toArray⟩ : ByteArray).size + (⟨y.toArray⟩ : ByteArray).size : Nat) : Int) > IntKind.i64.max) := by
      rw [size_mk, size_mk]; simp [IntKind.max, IntKind.signed, IntKind.bits]; omega
    simp only [binOp, Op.stringOp, this, if_false, append_mk]
    rfl
  all_goals
    subst h
    refine ⟨_, ?_, fun _ => rfl⟩
    have : (x == y) = decide (x = y) := by rw [Bool.eq_iff_iff]; simp
    simp only [binOp, Op.stringOp, toList_mk, this]
    rfl
end
end Go.Proofs.YtjlebgfbohihfaaGreat.Am
