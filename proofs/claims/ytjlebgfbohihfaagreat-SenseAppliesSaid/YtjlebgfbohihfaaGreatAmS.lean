/-
  Code, calls and deferred calls: what the abstract machine reckons comes to pass in the model.
-/
import Derived.Test.YtjlebgfbohihfaaGreatAmR
import Derived.LoopN
import Derived.Scope
import Derived.Recover
namespace Go.Proofs.YtjlebgfbohihfaaGreat.Am
open Go
set_option linter.unusedVariables false
set_option linter.unusedSimpArgs false

/-! ### Results -/
def resOk (P : Program) : List ResultVar → List ARet → Bool
  | [], [] => true
  | .tmp t :: rs, .tmp t' :: rs' => Nat.beq t t' && resOk P rs rs'
  | .cell t ty :: rs, .cell t' :: rs' => Nat.beq t t' && decide (aggT P ty = some false) && resOk P rs rs'
  | .cell t ty :: rs, .celln t' n :: rs' => Nat.beq t t' && decide (aggT P ty = some true) && decide (sizeT P ty = some n) && resOk P rs rs'
  | _, _ => false

section
variable {P : Program} {ρ : Ren} {h : Hp} {w : World} {e : Env} {a : Act}
theorem ldr_sound (hR : Rel ρ h w.heap) {x : Opd} {v : AVal} {u : Value} (hu : VR ρ (ev e x) u) (hv : pureOp e h (.ld x) = some v) {t : TypeId} (ht : aggT P t = some false) :
    ∃ r, (do loadVar t (← asAddr u) : Sem Value).run P w = .ok r w ∧ VR ρ v r := by
  simp only [pureOp] at hv
  split at hv
  · rename_i b o hx
    rw [hx] at hu
    obtain ⟨r, hr, rfl⟩ := hu.ptr
    split at hv
    · rename_i cs y hb
      simp only [Option.map_eq_some_iff] at hv
      obtain ⟨c, hc, rfl⟩ := hv
      obtain ⟨u, hcell, hcr⟩ := cell_load hR hr hb hc
      exact ⟨u, by simp [asAddr, loadVar, run_isAgg ht, hcell], VR.of_CR hcr⟩
    · simp at hv
  · simp at hv
theorem ldnr_sound (hR : Rel ρ h w.heap) {x : Opd} {v : AVal} {u : Value} {n : Nat} (hu : VR ρ (ev e x) u) (hv : pureOp e h (.ldn n x) = some v) {t : TypeId} (ht : aggT P t = some true) (hn : sizeT P t = some n) :
    ∃ r, (do loadVar t (← asAddr u) : Sem Value).run P w = .ok r w ∧ VR ρ v r := by
  simp only [pureOp] at hv
  split at hv
  · rename_i b o hx
    rw [hx] at hu
    obtain ⟨r, hr, rfl⟩ := hu.ptr
    split at hv
    · rename_i cs y hb
      split at hv
      · rename_i hle
        simp at hv; subst hv
        obtain ⟨us, hrun, _, hall, _⟩ := cells_load (P := P) hR hr hb hle
        exact ⟨.agg us.toArray, by simp [asAddr, loadVar, run_isAgg ht, run_sizeOf hn, hrun w rfl], us.toArray, rfl, hall⟩
      · simp at hv
    · simp at hv
  · simp at hv

def rvar (tmps : Array Value) : ResultVar → Sem Value
  | .tmp t => pure (tmps.getD t undef)
  | .cell b t => do loadVar t (← asAddr (tmps.getD b undef))
theorem retVals_sound (hR : Rel ρ h w.heap) (hE : EnvR ρ e a.tmps) : ∀ {rs : List ResultVar} {rs' : List ARet} {vs : List AVal}, resOk P rs rs' = true → retVals e h rs' = some vs →
    ∃ us : List Value, (rs.mapM (rvar a.tmps) : Sem (List Value)).run P w = .ok us w ∧ All2 (VR ρ) vs us
  | [], [], vs, _, hv => by
    simp [retVals] at hv; subst hv
    exact ⟨[], by simp, trivial⟩
  | r :: rs, r' :: rs', vs, hok, hv => by
    simp only [retVals] at hv
    split at hv
    · rename_i v vs' h1 h2
      simp at hv; subst hv
      have step : ∃ u, (rvar a.tmps r).run P w = .ok u w ∧ VR ρ v u ∧ resOk P rs rs' = true := by
        cases r with
        | tmp t =>
          cases r' with
          | tmp t' =>
            simp only [resOk, Bool.and_eq_true] at hok
            have := Nat.eq_of_beq_eq_true hok.1
            subst this
            simp [retVal] at h1; subst h1
            exact ⟨_, by simp only [rvar, Sem.run_pure], hE t, hok.2⟩
          | _ => simp [resOk] at hok
        | cell t ty =>
          cases r' with
          | tmp t' => simp [resOk] at hok
          | cell t' =>
            simp only [resOk, Bool.and_eq_true, decide_eq_true_iff] at hok
            have := Nat.eq_of_beq_eq_true hok.1.1
            subst this
            simp only [retVal] at h1
            obtain ⟨u, hu, hvu⟩ := ldr_sound (P := P) hR (x := .t t) (e := e) (hE t) h1 hok.1.2
            exact ⟨u, hu, hvu, hok.2⟩
          | celln t' n =>
            simp only [resOk, Bool.and_eq_true, decide_eq_true_iff] at hok
            have := Nat.eq_of_beq_eq_true hok.1.1.1
            subst this
            simp only [retVal] at h1
            obtain ⟨u, hu, hvu⟩ := ldnr_sound (P := P) hR (x := .t t) (e := e) (hE t) h1 hok.1.1.2 hok.1.2
            exact ⟨u, hu, hvu, hok.2⟩
      obtain ⟨u, hu, hvu, hrest⟩ := step
      obtain ⟨us, hus, hall⟩ := retVals_sound hR hE hrest h2
      refine ⟨u :: us, ?_, hvu, hall⟩
      rw [List.mapM_cons, Sem.run_bind, hu, Result.andThen_ok, Sem.run_bind, hus, Result.andThen_ok, Sem.run_pure]
    · simp at hv
  | [], _ :: _, _, hok, _ => by simp [resOk] at hok
  | _ :: _, [], _, hok, _ => by rename_i r _ _; cases r <;> simp [resOk] at hok
theorem tup_VR : ∀ {vs : List AVal} {us : List Value}, All2 (VR ρ) vs us → vs.all AVal.one = true → VR ρ (.tup (vs.map AVal.sum)) (.tuple us.toArray) := by
  intro vs us h h1
  refine ⟨us.toArray, rfl, ?_⟩
  simp only
  induction vs generalizing us with
  | nil => cases us with
    | nil => trivial
    | cons _ _ => exact h.elim
  | cons v vs ih => cases us with
    | nil => exact h.elim
    | cons u us =>
      simp only [List.all_cons, Bool.and_eq_true] at h1
      exact ⟨h.1.sum (.inl h1.1), ih h.2 h1.2⟩
theorem results_sound (hR : Rel ρ h w.heap) (hE : EnvR ρ e a.tmps) {fn : Func} {rs' : List ARet} (hok : resOk P fn.results.toList rs' = true) {v : AVal} (hv : retOf e h rs' = some v) :
    ∃ u, (results fn a.tmps).run P w = .ok u w ∧ VR ρ v u := by
  unfold retOf at hv
  have key : ∀ {vs : List AVal}, retVals e h rs' = some vs → ∃ us : List Value, (results fn a.tmps).run P w = .ok (if h : us.toArray.size = 1 then us.toArray[0] else .tuple us.toArray) w ∧ All2 (VR ρ) vs us := by
    intro vs hvs
    obtain ⟨us, hus, hall⟩ := retVals_sound (P := P) hR hE hok hvs
    refine ⟨us, ?_, hall⟩
    have h0 : results fn a.tmps = (do let vs ← fn.results.mapM (rvar a.tmps); pure (if h : vs.size = 1 then vs[0] else .tuple vs)) := rfl
    rw [h0, ← Array.toArray_toList (xs := fn.results), List.mapM_toArray]
    simp only [Sem.run_bind, Sem.run_map, hus, Result.andThen_ok, Sem.run_pure]
  split at hv
  · rename_i v' hvs
    simp at hv; subst hv
    obtain ⟨us, hrun, hall⟩ := key hvs
    cases us with
    | nil => exact hall.elim
    | cons u us => cases us with
      | nil => exact ⟨u, by simpa using hrun, hall.1⟩
      | cons _ _ => exact hall.2.elim
  · rename_i vs hne hvs
    split at hv
    · rename_i hone
      simp at hv; subst hv
      obtain ⟨us, hrun, hall⟩ := key hvs
      refine ⟨.tuple us.toArray, ?_, tup_VR hall hone⟩
      rw [hrun, dif_neg]
      intro hs
      cases us with
      | nil => simp at hs
      | cons u us => cases us with
        | cons _ _ => simp at hs
        | nil =>
          cases vs with
          | nil => exact hall.elim
          | cons v vs => cases vs with
            | nil => exact hne v rfl
            | cons _ _ => exact hall.2.elim
    · simp at hv
  · simp at hv
end
end Go.Proofs.YtjlebgfbohihfaaGreat.Am
