/-
  The law KindsTwice, over the abstract machine: the plain part.
-/
import Derived.Test.YtmlglmfjbmiflaaKin4
namespace Go.Proofs.Ytmlglmfjbmiflaa.Am
open Go

theorem idx4_pos (a b c d r s : Int) (hs : s ≤ 4) (h : idx4 a b c d r 9 < s) : 0 ≤ idx4 a b c d r 9 := by
  unfold idx4 at *; (repeat' split at h) <;> (repeat' split) <;> omega
theorem rowRun_in (a b c d : UInt8) (s : Int) (hs : s ≤ 4) : ∀ (l : List UInt8) (M : List Int), rowRun a b c d s l = some M → M.length = l.length ∧ ∀ m ∈ M, 0 ≤ m ∧ m < s
  | [], M, h => by simp [rowRun] at h; subst h; simp
  | x :: xs, M, h => by
    simp only [rowRun] at h
    split at h
    · rename_i hlt
      simp only [Option.map_eq_some_iff] at h
      obtain ⟨M', h1, rfl⟩ := h
      obtain ⟨h2, h3⟩ := rowRun_in a b c d s hs xs M' h1
      refine ⟨by simp [h2], fun m hm => ?_⟩
      simp only [List.mem_cons] at hm
      rcases hm with rfl | hm
      · exact ⟨idx4_pos _ _ _ _ _ s hs hlt, hlt⟩
      · exact h3 m hm
    · cases h
/-- The letter of a place. -/
def wd (i : Int) : UInt8 := if i = 0 then 120 else if i = 1 then 121 else if i = 2 then 122 else 119
theorem rowRun_wd (s : Int) (hs : s ≤ 4) : ∀ X : List Int, (∀ x ∈ X, 0 ≤ x ∧ x < s) → rowRun 120 121 122 119 s (X.map wd) = some X
  | [], _ => rfl
  | x :: xs, h => by
    have hx := h x (by simp)
    have ih := rowRun_wd s hs xs fun y hy => h y (by simp [hy])
    have hi : idx4 ((120 : UInt8).toNat) ((121 : UInt8).toNat) ((122 : UInt8).toNat) ((119 : UInt8).toNat) ((wd x).toNat) 9 = x := by
      have : x = 0 ∨ x = 1 ∨ x = 2 ∨ x = 3 := by omega
      rcases this with rfl | rfl | rfl | rfl <;> rfl
    simp only [List.map_cons, rowRun]
    rw [hi, if_pos hx.2, ih]; rfl
theorem fieldOf_cases (b s : Int) (name : List UInt8) : (∃ er, er ≠ 0 ∧ fieldOf b s name = (0, 0, [], er)) ∨
    ∃ M : List Int, fieldOf b s name = (b, (M.length : Int), M, 0) ∧ (b = 1 ∨ b = 2 ∨ b = 3) ∧ 2 ≤ s ∧ s ≤ 4 ∧ 1 ≤ M.length ∧ M.length ≤ 4 ∧ ∀ m ∈ M, 0 ≤ m ∧ m < s := by
  unfold fieldOf
  split
  · exact .inl ⟨2, by decide, rfl⟩
  · rename_i hm
    split
    · exact .inl ⟨231, by decide, rfl⟩
    · rename_i hbad
      simp only [not_or, Classical.not_not] at hbad hm
      obtain ⟨hb, hs1, hnm, hlen⟩ := hbad
      have hb : b = 1 ∨ b = 2 ∨ b = 3 := by omega
      have hs : 2 ≤ s ∧ s ≤ 4 := by unfold MayB at hm; omega
      have hl1 : 1 ≤ name.length := by
        have : name.length ≠ 0 := by simpa using hnm
        omega
      have ok : ∀ (x y z u : UInt8) (M : List Int), rowRun x y z u s name = some M → (1 ≤ M.length ∧ M.length ≤ 4 ∧ ∀ m ∈ M, 0 ≤ m ∧ m < s) := by
        intro x y z u M h
        obtain ⟨h1, h2⟩ := rowRun_in x y z u s hs.2 name M h
        exact ⟨by omega, by omega, h2⟩
      split
      · rename_i M h; exact .inr ⟨M, rfl, hb, hs.1, hs.2, ok _ _ _ _ M h⟩
      · split
        · rename_i M h; exact .inr ⟨M, rfl, hb, hs.1, hs.2, ok _ _ _ _ M h⟩
        · split
          · rename_i M h; exact .inr ⟨M, rfl, hb, hs.1, hs.2, ok _ _ _ _ M h⟩
          · exact .inl ⟨231, by decide, rfl⟩
theorem fieldOf_wd (b s : Int) (hb : b = 1 ∨ b = 2 ∨ b = 3) (h2 : 2 ≤ s) (h4 : s ≤ 4) (X : List Int) (h1 : 1 ≤ X.length) (hl : X.length ≤ 4) (hX : ∀ x ∈ X, 0 ≤ x ∧ x < s) :
    fieldOf b s (X.map wd) = (b, (X.length : Int), X, 0) := by
  unfold fieldOf
  have hne : X.map wd ≠ [] := by intro h; rw [List.map_eq_nil_iff] at h; rw [h] at h1; simp at h1
  rw [if_neg (by unfold MayB; simp; omega), if_neg (by simp only [not_or, Classical.not_not]; refine ⟨by omega, by omega, hne, by simp; omega⟩), rowRun_wd s h4 X hX]

theorem IsSl.one {n : Nat} {h : Hp} {c : Cell} {L : List Int} (hs : IsSl n h c L) {i : Nat} (hi : i < L.length) : ∃ bk, c = .slice bk 0 L.length L.length 1 ∧ h.get bk = some (.cells (L.map (.int .i64)) false) :=
  hs.at (by intro h0; rw [h0] at hi; simp at hi)
end Go.Proofs.Ytmlglmfjbmiflaa.Am
