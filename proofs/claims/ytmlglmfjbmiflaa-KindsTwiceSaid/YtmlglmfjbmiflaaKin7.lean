/-
  The law KindsTwice, over the abstract machine: its loops.
-/
import Derived.Test.YtmlglmfjbmiflaaKin6
namespace Go.Proofs.Ytmlglmfjbmiflaa.Am
open Go
def L4a : ACode := (.loop [3,8,10,11,12,44,45,46] (.seq (.ops [o 47 (.bin 0 .lss (.t 46) (.t 45))])
 (.seq (.cond (.t 47) .skip
 (.exit 0))
 (.seq (.block 1 (.seq (.ops [o 48 (.ixa 1 (.t 44) (.t 46)),o 49 (.ld (.t 48)),o 14 (.mv (.t 49))])
 (.dops [.op 0 (o 50 (.mv (.t 12))),.op 1 (o 51 (.mv (.t 8))),.op 2 (o 52 (.mv (.t 14))),.op 5 (o 55 (.mv (.t 8))),.op 6 (o 56 (.mv (.t 14))),.op 3 (o 53 (.ixa 1 (.t 51) (.t 52))),.op 7 (o 57 (.ixa 1 (.t 55) (.t 56))),.op 4 (o 54 (.ld (.t 53))),.op 8 (o 58 (.ld (.t 57))),.op 9 (o 59 (.bin 0 .add (.t 58) (ki 1))),.op 10 (o 60 (.slcs (.k (.c (.str (bs [120,121,122,119])))) (some (.t 54)) (some (.t 59)))),.op 11 (o 61 (.bin 0 .add (.t 50) (.t 60))),.eff 12 (o 12 (.mv (.t 61))) []])))
 (.keep [3,8,10,11,12,44,45,46] (.ops [o 62 (.bin 0 .add (.t 46) (ki 1)),o 46 (.mv (.t 62))]))))))
def L4b : ACode := (.loop [8,11,16,85,86] (.seq (.ops [o 87 (.bin 0 .lss (.t 86) (.t 85))])
 (.seq (.cond (.t 87) .skip
 (.exit 2))
 (.seq (.block 3 (.seq (.ops [o 88 (.mv (.t 86)),o 17 (.mv (.t 88))])
 (.seq (.dops [.op 0 (o 89 (.mv (.t 16))),.op 1 (o 90 (.mv (.t 17))),.op 4 (o 93 (.mv (.t 8))),.op 5 (o 94 (.mv (.t 11))),.op 6 (o 95 (.mv (.t 17))),.op 2 (o 91 (.ixa 1 (.t 89) (.t 90))),.op 7 (o 96 (.ixa 1 (.t 94) (.t 95))),.op 3 (o 92 (.ld (.t 91))),.op 8 (o 97 (.ld (.t 96))),.op 9 (o 98 (.ixa 1 (.t 93) (.t 97))),.op 10 (o 99 (.ld (.t 98))),.op 11 (o 100 (.bin 0 .neq (.t 92) (.t 99)))])
 (.keep [8,11,16,85,86,100] (.cond (.t 100) (.seq (.ops [o 6 (.mv (.k (.c (.bool false))))])
 .ret)
 .skip)))))
 (.ops [o 101 (.bin 0 .add (.t 86) (ki 1)),o 86 (.mv (.t 101))])))))
/-- The places of the places. -/
def comp (L M : List Int) : List Int := M.map fun m => L.getD m.toNat 0
theorem loop4a (L M : List Int) (hM4 : M.length ≤ 4) (hM : ∀ m ∈ M, 0 ≤ m ∧ m < L.length) (hL : ∀ x ∈ L, 0 ≤ x ∧ x < 4) (c8 c11 : Cell) (h : Hp) (n m : Nat) (h8 : IsSl n h c8 L) (h11 : IsSl m h c11 M) {Q : AExit → St → Prop} {k : List KI} (v3 v10 : AVal) :
    ∀ (j i : Nat) (e : Env), i + j = M.length → e.get 3 = v3 → e.get 8 = .c c8 → e.get 10 = v10 → e.get 11 = .c c11 → e.get 12 = .c (.str (((comp L M).take i).map wd)) → e.get 44 = .c c11 → e.get 45 = .c (.int .i64 M.length) → e.get 46 = .c (.int .i64 i) →
    (∀ e', e'.get 3 = v3 → e'.get 8 = .c c8 → e'.get 10 = v10 → e'.get 11 = .c c11 → e'.get 12 = .c (.str ((comp L M).map wd)) → wpK T Q k (.exit 0) ⟨e', h, [], none⟩) → wpK T Q (.code L4a :: k) .normal ⟨e, h, [], none⟩ := by
  intro j
  induction j with
  | zero =>
    intro i e hi e3 e8 e10 e11 e12 e44 e45 e46 hq
    refine k_loop ?_
    simp [e3, e8, e10, e11, e12, e44, e45, e46, show ¬ (i < M.length) from by omega, show ¬ ((i : Int) < M.length) from by omega]
    refine hq _ ?_ ?_ ?_ ?_ ?_ <;> simp
    rw [List.take_of_length_le (by simp [comp]; omega)]
  | succ j ih =>
    intro i e hi e3 e8 e10 e11 e12 e44 e45 e46 hq
    have hlt : i < M.length := by omega
    have hltI : (i : Int) < M.length := by omega
    have hmi := hM M[i] (List.getElem_mem hlt)
    have hmL : M[i].toNat < L.length := by omega
    have hne : L.length ≠ 0 := by omega
    obtain ⟨b8, rfl, g8⟩ := h8.at (by intro h0; rw [h0] at hne; simp at hne)
    obtain ⟨b11, rfl, g11⟩ := h11.one hlt
    have hv := hL L[M[i].toNat] (List.getElem_mem hmL)
    have hw : IntKind.i64.wrap ((i : Int) + 1) = ((i + 1 : Nat) : Int) := by rw [wrap_i64 (by omega) (by omega)]; simp
    have hlen : (((comp L M).take i).map wd).length ≤ 4 := by simp [comp]; omega
    have hstep : ((comp L M).take (i + 1)).map wd = ((comp L M).take i).map wd ++ [wd L[M[i].toNat]] := by
      have : (comp L M)[i]'(by simp [comp]; exact hlt) = L[M[i].toNat] := by simp [comp, hmL]
      rw [List.take_succ_eq_append_getElem (by simp [comp]; exact hlt), this]; simp
    generalize hs12 : ((comp L M).take i).map wd = S at e12 hlen hstep
    have hv' : L[M[i].toNat] = 0 ∨ L[M[i].toNat] = 1 ∨ L[M[i].toNat] = 2 ∨ L[M[i].toNat] = 3 := by omega
    have hS : S.length ≤ 9223372036854775806 := by omega
    have hS' : S.length + 1 ≤ 9223372036854775807 := by omega
    refine k_loop ?_
    rcases hv' with hv' | hv' | hv' | hv'
    all_goals
      rw [hv'] at hstep
      simp [e3, e8, e10, e11, e12, e44, e45, e46, hlt, hltI, g8, g11, hmi.1, hmi.2, hmL, hv', bndO, bnd, hS, hS', hw]
      refine ih (i + 1) _ (by omega) ?_ ?_ ?_ ?_ ?_ ?_ ?_ ?_ hq <;> simp
      rw [← List.map_take, hstep]; rfl

theorem loop4b (L M : List Int) (hM4 : M.length ≤ 4) (hM : ∀ m ∈ M, 0 ≤ m ∧ m < L.length) (c8 c11 c16 : Cell) (h : Hp) (n m p : Nat) (h8 : IsSl n h c8 L) (h11 : IsSl m h c11 M) (h16 : IsSl p h c16 (comp L M)) {Q : AExit → St → Prop} {k : List KI} :
    ∀ (j i : Nat) (e : Env), i + j = M.length → e.get 8 = .c c8 → e.get 11 = .c c11 → e.get 16 = .c c16 → e.get 85 = .c (.int .i64 M.length) → e.get 86 = .c (.int .i64 i) →
    (∀ e', wpK T Q k (.exit 2) ⟨e', h, [], none⟩) → wpK T Q (.code L4b :: k) .normal ⟨e, h, [], none⟩ := by
  intro j
  induction j with
  | zero =>
    intro i e hi e8 e11 e16 e85 e86 hq
    refine k_loop ?_
    simp [e8, e11, e16, e85, e86, show ¬ (i < M.length) from by omega, show ¬ ((i : Int) < M.length) from by omega]
    exact hq _
  | succ j ih =>
    intro i e hi e8 e11 e16 e85 e86 hq
    have hlt : i < M.length := by omega
    have hltI : (i : Int) < M.length := by omega
    have hmi := hM M[i] (List.getElem_mem hlt)
    have hmL : M[i].toNat < L.length := by omega
    have hne : L.length ≠ 0 := by omega
    have hcl : (comp L M).length = M.length := by simp [comp]
    obtain ⟨b8, rfl, g8⟩ := h8.at (by intro h0; rw [h0] at hne; simp at hne)
    obtain ⟨b11, rfl, g11⟩ := h11.one hlt
    obtain ⟨b16, rfl, g16⟩ := h16.one (i := i) (by omega)
    have hci : (comp L M)[i]'(by omega) = L[M[i].toNat] := by simp [comp, hmL]
    have hw : IntKind.i64.wrap ((i : Int) + 1) = ((i + 1 : Nat) : Int) := by rw [wrap_i64 (by omega) (by omega)]; simp
    rw [hcl] at e16
    refine k_loop ?_
    simp [e8, e11, e16, e85, e86, hlt, hltI, g8, g11, g16, hmi.1, hmi.2, hmL, hcl, hci, hw]
    refine ih (i + 1) _ (by omega) ?_ ?_ ?_ ?_ ?_ hq <;> simp [hcl]
end Go.Proofs.Ytmlglmfjbmiflaa.Am
