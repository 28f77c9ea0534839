/-
  The law KindsTwice, over the abstract machine.
-/
import Derived.Test.YtmlglmfjbmiflaaKin7
namespace Go.Proofs.Ytmlglmfjbmiflaa.Am
open Go

theorem IsSl.set {n : Nat} {h : Hp} {c : Cell} {L : List Int} (hs : IsSl n h c L) (b2 s2 : Int) : ∀ o, IsSl 0 ((h.alloc (.cells [.int .i64 b2, .int .i64 s2] true)).set h.next o) c L := fun o => by
  rcases hs with hh | ⟨bk, p1, p2, p3, p4⟩
  · exact .inl hh
  · exact .inr ⟨bk, Nat.zero_le _, by simp; omega, p3, by rw [Hp.get_set, if_neg (by omega), Hp.get_alloc, if_neg (by omega)]; exact p4⟩
theorem IsSl.ext {n : Nat} {h h' : Hp} {c : Cell} {L : List Int} (hs : IsSl n h c L) (hx : Ext h h') : IsSl 0 h' c L := by
  rcases hs with hh | ⟨bk, p1, p2, p3, p4⟩
  · exact .inl hh
  · exact .inr ⟨bk, Nat.zero_le _, by have := hx.1; omega, p3, (hx.2 bk p2).trans p4⟩
theorem kindsTwice (b s : Int) (one two : List UInt8) : wpC T 4 [ty b s, .c (.str one), .c (.str two)] Hp.empty fun v _ => v = .c (.bool true) := by
  refine k_code (fn := F4) rfl rfl ?_
  simp [F4]
  refine k_call ?_
  simp
  refine c5 b s _ fun h1 g0 hn1 => ?_
  simp [g0, Hp.empty]
  refine k_call ?_
  simp
  refine c6 b s one _ _ fun c8 h2 x2 s2 => ?_
  have g02 : h2.get 0 = some (.cells [.int .i64 b, .int .i64 s] true) := (x2.2 0 (by omega)).trans g0
  have hn2 : 1 ≤ h2.next := Nat.le_trans hn1 x2.1
  have z2 : ¬ 0 = h2.next := by omega
  have z2' : ¬ h2.next = 0 := by omega
  rcases fieldOf_cases b s one with ⟨er, her, hf⟩ | ⟨L, hf, hb, hs2, hs4, hL1, hL4, hL⟩
  · rw [hf] at s2 ⊢
    simp only at s2 ⊢
    simp [-k_len, her]
    refine k_len_sl (s2.set 0 0 _) (by simp) ?_
    simp
  · rw [hf] at s2 ⊢
    simp only at s2 ⊢
    simp
    refine k_call ?_
    simp
    refine c6 b L.length two _ _ fun c11 h3 x3 s3 => ?_
    have n3 : h2.next + 1 ≤ h3.next := by simpa using x3.1
    have g03 : h3.get 0 = some (.cells [.int .i64 b, .int .i64 s] true) := (x3.2 0 (by simp)).trans (by rw [Hp.get_set, if_neg z2, Hp.get_alloc, if_neg z2]; exact g02)
    have z3 : ¬ 0 = h3.next := by omega
    have z3' : ¬ h3.next = 0 := by omega
    have s2' : IsSl 0 h3 c8 L := (s2.set 0 0 _).ext x3
    rcases fieldOf_cases b L.length two with ⟨er, her, hf2⟩ | ⟨M, hf2, _, hl2, hl4, hM1, hM4, hM⟩
    · rw [hf2] at s3 ⊢
      simp only at s3 ⊢
      simp [-k_len, her]
      refine k_len_sl (s3.set 0 0 _) (by simp) ?_
      simp
    · rw [hf2] at s3 ⊢
      simp only at s3 ⊢
      simp [-k_len]
      refine k_len_sl (s3.set 0 0 _) (by simp) ?_
      simp
      refine loop4a L M hM4 hM (fun x hx => ⟨(hL x hx).1, by have := (hL x hx).2; omega⟩) c8 c11 _ _ _ (s2'.set 0 0 _) (s3.set 0 0 _) _ _ M.length 0 _ (by omega) (by simp; rfl) (by simp) (by simp; rfl) (by simp) (by simp) (by simp) (by simp) (by simp) fun e' q3 q8 q10 q11 q12 => ?_
      simp [q3, q8, q10, q11, q12, z3, z3', g03]
      refine k_call ?_
      simp
      have hcl : (comp L M).length = M.length := by simp [comp]
      have hcin : ∀ x ∈ comp L M, 0 ≤ x ∧ x < s := by
        intro x hx
        simp only [comp, List.mem_map] at hx
        obtain ⟨m, hm, rfl⟩ := hx
        have := hM m hm
        have hmL : m.toNat < L.length := by omega
        simp only [List.getD_eq_getElem?_getD, List.getElem?_eq_getElem hmL, Option.getD_some]
        exact hL _ (List.getElem_mem hmL)
      refine c6 b s ((comp L M).map wd) _ _ fun c16 h4 x4 s4 => ?_
      rw [fieldOf_wd b s hb hs2 hs4 (comp L M) (by omega) (by omega) hcin] at s4 ⊢
      simp only at s4 ⊢
      have n4 : h3.next + 1 ≤ h4.next := by simpa using x4.1
      have g4 : h4.get h3.next = some (.cells [.int .i64 b, .int .i64 M.length] true) := (x4.2 h3.next (by simp)).trans (by simp)
      have w4 : ¬ h3.next = h4.next := by omega
      have w4' : ¬ h4.next = h3.next := by omega
      have t8 : IsSl 0 h4 c8 L := (s2'.set 0 0 _).ext x4
      have t11 : IsSl 0 h4 c11 M := (s3.set 0 0 _).ext x4
      simp [-k_len, g4, w4, w4', q8, q10, q11, fitAll, CK.fits, hcl]
      refine k_len_sl (s4.set 0 0 _) (by simp) ?_
      simp [-k_len, q8, q10, q11]
      refine k_len_sl (t11.set 0 0 _) (by simp) ?_
      simp [-k_len, hcl, q8, q10, q11]
      refine k_len_sl (s4.set 0 0 _) (by simp) ?_
      simp [hcl, q8, q10, q11]
      refine loop4b L M hM4 (fun x hx => hM x hx) c8 c11 c16 _ _ _ _ (t8.set 0 0 _) (t11.set 0 0 _) (s4.set 0 0 _) M.length 0 _ (by omega) (by simp) (by simp) (by simp) (by simp) (by simp) fun e2 => ?_
      simp
end Go.Proofs.Ytmlglmfjbmiflaa.Am
