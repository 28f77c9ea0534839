/-
  CheckWords, over the abstract machine: the built-in variables of the program and of the reference are the same.
-/
import Derived.Test.YtjlebgfbohihfaaGreatAmY2
import Derived.Test.YtjlebgfbohihfaaGreatAmSp
import Derived.Test.YtjlebgfbohihfaaGreatGrT
import Derived.KernelRfl
namespace Go.Proofs.YtjlebgfbohihfaaGreat.Am
open Go
set_option linter.unusedVariables false
set_option linter.unusedSimpArgs false

/-- Whatever was there is as it was. -/
def Ext (h h' : Hp) : Prop := h.next ≤ h'.next ∧ ∀ b, b < h.next → h'.get b = h.get b
theorem Ext.refl (h : Hp) : Ext h h := ⟨Nat.le_refl _, fun _ _ => rfl⟩
theorem Ext.trans {a b c : Hp} (h : Ext a b) (h' : Ext b c) : Ext a c := ⟨Nat.le_trans h.1 h'.1, fun x hx => (h'.2 x (Nat.lt_of_lt_of_le hx h.1)).trans (h.2 x hx)⟩
theorem Ext.alloc (h : Hp) (o : AObj) : Ext h (h.alloc o) := ⟨Nat.le_succ _, fun b hb => by rw [Hp.get_alloc, if_neg (by omega)]⟩
theorem Ext.set {h h' : Hp} (hx : Ext h h') {b : Nat} (hb : h.next ≤ b) (o : AObj) : Ext h (h'.set b o) := ⟨hx.1, fun x hx' => by rw [Hp.get_set, if_neg (by omega)]; exact hx.2 x hx'⟩
theorem Ext.alloc' {h h' : Hp} (hx : Ext h h') (o : AObj) : Ext h (h'.alloc o) := hx.trans (Ext.alloc h' o)
abbrev ty (b s : Int) : AVal := .agg [.int .i64 b, .int .i64 s]
abbrev T : Tab := TG.get
abbrev CallQ := AVal → Hp → Prop

theorem k_callv {Q : AExit → St → Prop} {k : List KI} {e : Env} {h : Hp} {df : List Cell} {d : Nat} {f : Nat} {first caps : List (Nat × Nat)} {x : Opd} {args : List Opd} {l : List AInstr} {rc : Option Nat} (hx : ev e x = .c (.fn f first caps))
    (h1 : wpC T f (first.map (fun p => .c (.ptr p.1 p.2)) ++ args.map (ev e) ++ caps.map (fun p => .c (.ptr p.1 p.2))) h fun v h' => wpK T Q (.ops l :: k) .normal ⟨(d, v) :: e, h', df, rc⟩) :
    wpK T Q (.ops (o d (.callv x args) :: l) :: k) .normal ⟨e, h, df, rc⟩ := wpO_call rfl (by simp only [o, effOp, hx]) h1

theorem c17 (n : Int) (h : Hp) (Q : CallQ) (hQ : ∀ h', Ext h h' → Q (ty 1 n) h') : wpC T 17 [.c (.int .i64 n)] h Q := by
  refine k_code (fn := F17) rfl rfl ?_
  simp [F17]
  refine hQ _ ?_
  exact (Ext.alloc _ _).set (Nat.le_refl _) _
theorem c18 (n : Int) (h : Hp) (Q : CallQ) (hQ : ∀ h', Ext h h' → Q (ty n 1) h') : wpC T 18 [.c (.int .i64 n)] h Q := by
  refine k_code (fn := F18) rfl rfl ?_
  simp [F18]
  refine hQ _ ?_
  exact (Ext.alloc _ _).set (Nat.le_refl _) _
abbrev W1 : List UInt8 := [103,108,95,80,111,115,105,116,105,111,110]
abbrev W2 : List UInt8 := [103,108,95,80,111,105,110,116,83,105,122,101]
abbrev W3 : List UInt8 := [103,108,95,70,114,97,103,67,111,111,114,100]
abbrev W4 : List UInt8 := [103,108,95,70,114,111,110,116,70,97,99,105,110,103]
abbrev W5 : List UInt8 := [103,108,95,80,111,105,110,116,67,111,111,114,100]
abbrev W6 : List UInt8 := [103,108,95,70,114,97,103,67,111,108,111,114]
/-- The built-in variable of a name in a stage. -/
def bwOf (s : List UInt8) (t : Int) : Int × Int × Int × Bool :=
  if t = 1 then (if s = W1 then (-2, 1, 4, true) else if s = W2 then (-3, 1, 1, true) else (0, 0, 0, false))
  else if t = 2 then (if s = W3 then (-4, 1, 4, true) else if s = W4 then (-5, 3, 1, true) else if s = W5 then (-6, 1, 2, true) else if s = W6 then (-7, 1, 4, true) else (0, 0, 0, false))
  else (0, 0, 0, false)
def bwV (r : Int × Int × Int × Bool) : AVal := .tup [.inl (.int .i64 r.1), .inr [.int .i64 r.2.1, .int .i64 r.2.2.1], .inl (.bool r.2.2.2)]
def Bw (f : Nat) : Prop := ∀ (s : List UInt8) (t : Int) (h : Hp) (Q : CallQ), (∀ h', Ext h h' → Q (bwV (bwOf s t)) h') → wpC T f [.c (.str s), .c (.int .i64 t)] h Q

theorem bw_out {h h' : Hp} {o o' : AObj} (hx : Ext (h.alloc o) h') : Ext h (h'.set h.next o') := ((Ext.alloc h o).trans hx).set (Nat.le_refl _) _
theorem c7 : Bw 7 := by
  intro s t h Q hQ
  refine k_code (fn := F7) rfl rfl ?_
  by_cases t1 : t = 1
  · subst t1
    by_cases hs : s = W1
    · skip
      subst hs
      simp [F7]
      refine k_callv (f := 17) (first := []) (caps := []) rfl ?_
      simp
      refine c17 4 _ _ fun h' hx => ?_
      have hg := hx.2 h.next (by simp)
      simp at hg
      simp [hg]
      exact hQ _ (bw_out hx)
    · have nW1 := hs
      clear hs
      by_cases hs : s = W2
      · skip
        clear nW1
        subst hs
        simp [F7, show ¬ (W2 = W1) from by decide]
        refine k_callv (f := 17) (first := []) (caps := []) rfl ?_
        simp
        refine c17 1 _ _ fun h' hx => ?_
        have hg := hx.2 h.next (by simp)
        simp at hg
        simp [hg]
        exact hQ _ (bw_out hx)
      · have nW2 := hs
        generalize ht : (1 : Int) = t at hQ ⊢
        have t1 : t = 1 := ht.symm
        clear ht
        have hv : bwOf s t = (0, 0, 0, false) := by simp [bwOf, t1, nW1, nW2]
        rw [hv] at hQ
        simp [F7, t1, nW1, nW2]
        exact hQ _ ((Ext.alloc _ _).set (Nat.le_refl _) _)
  · by_cases t2 : t = 2
    · subst t2
      by_cases hs : s = W3
      · skip
        subst hs
        simp [F7]
        refine k_callv (f := 17) (first := []) (caps := []) rfl ?_
        simp
        refine c17 4 _ _ fun h' hx => ?_
        have hg := hx.2 h.next (by simp)
        simp at hg
        simp [hg]
        exact hQ _ (bw_out hx)
      · have nW3 := hs
        clear hs
        by_cases hs : s = W4
        · skip
          clear nW3
          subst hs
          simp [F7, show ¬ (W4 = W3) from by decide]
          refine k_call ?_
          simp
          refine c18 3 _ _ fun h' hx => ?_
          have hg := hx.2 h.next (by simp)
          simp at hg
          simp [hg]
          exact hQ _ (bw_out hx)
        · have nW4 := hs
          clear hs
          by_cases hs : s = W5
          · skip
            clear nW3
            clear nW4
            subst hs
            simp [F7, show ¬ (W5 = W3) from by decide, show ¬ (W5 = W4) from by decide]
            refine k_callv (f := 17) (first := []) (caps := []) rfl ?_
            simp
            refine c17 2 _ _ fun h' hx => ?_
            have hg := hx.2 h.next (by simp)
            simp at hg
            simp [hg]
            exact hQ _ (bw_out hx)
          · have nW5 := hs
            clear hs
            by_cases hs : s = W6
            · skip
              clear nW3
              clear nW4
              clear nW5
              subst hs
              simp [F7, show ¬ (W6 = W3) from by decide, show ¬ (W6 = W4) from by decide, show ¬ (W6 = W5) from by decide]
              refine k_callv (f := 17) (first := []) (caps := []) rfl ?_
              simp
              refine c17 4 _ _ fun h' hx => ?_
              have hg := hx.2 h.next (by simp)
              simp at hg
              simp [hg]
              exact hQ _ (bw_out hx)
            · have nW6 := hs
              clear hs
              generalize ht : (2 : Int) = t at hQ ⊢
              have t2 : t = 2 := ht.symm
              clear ht
              have hv : bwOf s t = (0, 0, 0, false) := by simp [bwOf, t2, nW3, nW4, nW5, nW6]
              rw [hv] at hQ
              simp [F7, t2, nW3, nW4, nW5, nW6]
              exact hQ _ ((Ext.alloc _ _).set (Nat.le_refl _) _)
    · skip
      have hv : bwOf s t = (0, 0, 0, false) := by simp [bwOf, t1, t2]
      rw [hv] at hQ
      simp [F7, t1, t2]
      exact hQ _ ((Ext.alloc _ _).set (Nat.le_refl _) _)
theorem bw_out8 (h : Hp) {o o2 o3 o4 o5 o' : AObj} : Ext h ((((((h.alloc o).alloc o2).alloc o3).set (h.next + 1) o4).set (h.next + 1 + 1) o5).set h.next o') :=
  (((((Ext.alloc h o).alloc' o2).alloc' o3).set (by omega) _).set (by omega) _).set (Nat.le_refl _) _
theorem c8 : Bw 8 := by
  intro s t h Q hQ
  refine k_code (fn := F8) rfl rfl ?_
  by_cases t1 : t = 1
  · subst t1
    by_cases hs : s = W1
    · skip
      subst hs
      simp [F8, show ¬ (h.next = h.next + 1 + 1) from by omega, show ¬ (h.next = h.next + 1) from by omega, show ¬ (h.next + 1 = h.next + 1 + 1) from by omega]
      exact hQ _ (bw_out8 h)
    · have nW1 := hs
      clear hs
      by_cases hs : s = W2
      · skip
        clear nW1
        subst hs
        simp [F8, show ¬ (W2 = W1) from by decide, show ¬ (h.next = h.next + 1 + 1) from by omega, show ¬ (h.next = h.next + 1) from by omega, show ¬ (h.next + 1 = h.next + 1 + 1) from by omega]
        exact hQ _ (bw_out8 h)
      · have nW2 := hs
        generalize ht : (1 : Int) = t at hQ ⊢
        have t1 : t = 1 := ht.symm
        clear ht
        have hv : bwOf s t = (0, 0, 0, false) := by simp [bwOf, t1, nW1, nW2]
        rw [hv] at hQ
        simp [F8, t1, nW1, nW2, show ¬ (h.next = h.next + 1 + 1) from by omega, show ¬ (h.next = h.next + 1) from by omega, show ¬ (h.next + 1 = h.next + 1 + 1) from by omega]
        exact hQ _ (bw_out8 h)
  · by_cases t2 : t = 2
    · subst t2
      by_cases hs : s = W3
      · skip
        subst hs
        simp [F8, show ¬ (h.next = h.next + 1 + 1) from by omega, show ¬ (h.next = h.next + 1) from by omega, show ¬ (h.next + 1 = h.next + 1 + 1) from by omega]
        exact hQ _ (bw_out8 h)
      · have nW3 := hs
        clear hs
        by_cases hs : s = W4
        · skip
          clear nW3
          subst hs
          simp [F8, show ¬ (W4 = W3) from by decide, show ¬ (h.next = h.next + 1 + 1) from by omega, show ¬ (h.next = h.next + 1) from by omega, show ¬ (h.next + 1 = h.next + 1 + 1) from by omega]
          exact hQ _ (bw_out8 h)
        · have nW4 := hs
          clear hs
          by_cases hs : s = W5
          · skip
            clear nW3
            clear nW4
            subst hs
            simp [F8, show ¬ (W5 = W3) from by decide, show ¬ (W5 = W4) from by decide, show ¬ (h.next = h.next + 1 + 1) from by omega, show ¬ (h.next = h.next + 1) from by omega, show ¬ (h.next + 1 = h.next + 1 + 1) from by omega]
            exact hQ _ (bw_out8 h)
          · have nW5 := hs
            clear hs
            by_cases hs : s = W6
            · skip
              clear nW3
              clear nW4
              clear nW5
              subst hs
              simp [F8, show ¬ (W6 = W3) from by decide, show ¬ (W6 = W4) from by decide, show ¬ (W6 = W5) from by decide, show ¬ (h.next = h.next + 1 + 1) from by omega, show ¬ (h.next = h.next + 1) from by omega, show ¬ (h.next + 1 = h.next + 1 + 1) from by omega]
              exact hQ _ (bw_out8 h)
            · have nW6 := hs
              clear hs
              generalize ht : (2 : Int) = t at hQ ⊢
              have t2 : t = 2 := ht.symm
              clear ht
              have hv : bwOf s t = (0, 0, 0, false) := by simp [bwOf, t2, nW3, nW4, nW5, nW6]
              rw [hv] at hQ
              simp [F8, t2, nW3, nW4, nW5, nW6, show ¬ (h.next = h.next + 1 + 1) from by omega, show ¬ (h.next = h.next + 1) from by omega, show ¬ (h.next + 1 = h.next + 1 + 1) from by omega]
              exact hQ _ (bw_out8 h)
    · skip
      have hv : bwOf s t = (0, 0, 0, false) := by simp [bwOf, t1, t2]
      rw [hv] at hQ
      simp [F8, t1, t2, show ¬ (h.next = h.next + 1 + 1) from by omega, show ¬ (h.next = h.next + 1) from by omega, show ¬ (h.next + 1 = h.next + 1 + 1) from by omega]
      exact hQ _ (bw_out8 h)
end Go.Proofs.YtjlebgfbohihfaaGreat.Am
