/-
  The contracts of the small functions of the layer kinds, and of its reference.
-/
import Derived.Test.YtmlglmfjbmiflaaAmY2
import Derived.Test.YtmlglmfjbmiflaaSmallT
import Derived.Laws.RangeString
import Derived.Laws.RangeAny
namespace Go.Proofs.Ytmlglmfjbmiflaa.Am
open Go

/-- Whatever was there is as it was. -/
def Ext (h h' : Hp) : Prop := h.next ≤ h'.next ∧ ∀ b, b < h.next → h'.get b = h.get b
theorem Ext.refl (h : Hp) : Ext h h := ⟨Nat.le_refl _, fun _ _ => rfl⟩
theorem Ext.trans {a b c : Hp} (h : Ext a b) (h' : Ext b c) : Ext a c := ⟨Nat.le_trans h.1 h'.1, fun x hx => (h'.2 x (Nat.lt_of_lt_of_le hx h.1)).trans (h.2 x hx)⟩
theorem Ext.alloc (h : Hp) (o : AObj) : Ext h (h.alloc o) := ⟨Nat.le_succ _, fun b hb => by rw [Hp.get_alloc, if_neg (by omega)]⟩
theorem Ext.set {h h' : Hp} (hx : Ext h h') {b : Nat} (hb : h.next ≤ b) (o : AObj) : Ext h (h'.set b o) := ⟨hx.1, fun x hx' => by rw [Hp.get_set, if_neg (by omega)]; exact hx.2 x hx'⟩
theorem Ext.alloc' {h h' : Hp} (hx : Ext h h') (o : AObj) : Ext h (h'.alloc o) := hx.trans (Ext.alloc h' o)
abbrev ty (b s : Int) : AVal := .agg [.int .i64 b, .int .i64 s]
abbrev T : Tab := TS.get
abbrev CallQ := AVal → Hp → Prop
/-- It answers a bool: whether P. -/
def Ans (P : Prop) (h : Hp) (Q : CallQ) : Prop := ∀ (x : Bool) (h' : Hp), (x = true ↔ P) → Ext h h' → Q (.c (.bool x)) h'

theorem c20 (b s : Int) (h : Hp) (Q : CallQ) (hQ : Ans (b = 1 ∨ b = 2) h Q) : wpC T 20 [ty b s] h Q := by
  refine k_code (fn := F20) rfl rfl ?_
  by_cases h1 : b = 1
  · simp [F20, h1]
    refine hQ _ _ ?_ (Ext.alloc _ _); simp [h1]
  · simp [F20, h1]
    refine hQ _ _ ?_ (Ext.alloc _ _); simp [h1]
theorem c11 (b s : Int) (h : Hp) (Q : CallQ) (hQ : Ans (b = 1 ∨ b = 2 ∨ b = 3) h Q) : wpC T 11 [ty b s] h Q := by
  refine k_code (fn := F11) rfl rfl ?_
  simp [F11]
  refine k_call ?_
  simp
  refine c20 b s _ _ fun x h' hx' hx => ?_
  have hx2 := (Ext.alloc h (.cells [.int .i64 b, .int .i64 s] true)).trans hx
  have hg := hx.2 h.next (by simp)
  simp at hg
  cases x with
  | true =>
    simp
    refine hQ _ _ ?_ hx2; simp at hx' ⊢; omega
  | false =>
    simp [hg]
    refine hQ _ _ ?_ hx2; simp at hx' ⊢; omega
theorem c14 (b s : Int) (h : Hp) (Q : CallQ) (hQ : Ans (1 ≤ b ∧ b ≤ 3) h Q) : wpC T 14 [ty b s] h Q := by
  refine k_code (fn := F14) rfl rfl ?_
  by_cases h1 : 1 ≤ b
  · by_cases h2 : b ≤ 3 <;> simp [F14, h1, h2] <;> refine hQ _ _ ?_ (Ext.alloc _ _) <;> simp <;> omega
  · simp [F14, h1]; refine hQ _ _ ?_ (Ext.alloc _ _); simp; omega
def MayB (b s : Int) : Prop := (b = 0 ∧ s = 0) ∨ (b = 4 ∧ s = 1) ∨ ((b = 1 ∨ b = 2 ∨ b = 3) ∧ 1 ≤ s ∧ s ≤ 4)
theorem c13 (b s : Int) (h : Hp) (Q : CallQ) (hQ : Ans (MayB b s) h Q) : wpC T 13 [ty b s] h Q := by
  refine k_code (fn := F13) rfl rfl ?_
  have fin : ∀ x : Bool, (x = true ↔ MayB b s) → Q (.c (.bool x)) (h.alloc (.cells [.int .i64 b, .int .i64 s] true)) := fun x hx => hQ x _ hx (Ext.alloc _ _)
  clear hQ
  by_cases h0 : b = 0
  · subst h0
    simp [F13]
    refine fin _ ?_
    simp [MayB]
  · by_cases h4 : b = 4
    · subst h4
      simp [F13]
      refine fin _ ?_
      simp [MayB]
    · by_cases hb : 0 < b
      · by_cases hb4 : b < 4
        · by_cases hs : 1 ≤ s
          · by_cases hs4 : s ≤ 4
            · simp [F13, h0, h4, hb, hb4, hs, hs4]; refine fin _ ?_; simp [MayB]; omega
            · simp [F13, h0, h4, hb, hb4, hs, hs4]; refine fin _ ?_; simp [MayB]; omega
          · simp [F13, h0, h4, hb, hb4, hs]; refine fin _ ?_; simp [MayB]; omega
        · simp [F13, h0, h4, hb, hb4]; refine fin _ ?_; simp [MayB]; omega
      · simp [F13, h0, h4, hb]; refine fin _ ?_; simp [MayB]; omega

theorem bool_of {x : Bool} {P : Prop} (h : if x = true then P else ¬ P) : x = true ↔ P := by cases x <;> simp_all
theorem c10 (b s : Int) (bk : Nat) (h : Hp) (hb : h.get bk = some (.cells [.int .i64 b, .int .i64 s] true)) (Q : CallQ) (hQ : Ans (MayB b s) h Q) : wpC T 10 [.c (.slice bk 0 1 1 2)] h Q := by
  refine k_code (fn := F10) rfl rfl ?_
  by_cases h1 : 1 ≤ s
  · by_cases h4 : s ≤ 4
    · by_cases b0 : b = 0
      · simp [F10]; refine k_loop ?_; simp [hb, h1, h4, b0]
        by_cases s0 : s = 0
        · omega
        · simp [s0]; refine hQ _ _ ?_ ((Ext.alloc h _).set (Nat.le_refl _) _); simp [MayB]; omega
      · by_cases b4 : b = 4
        · simp [F10]; refine k_loop ?_; simp [hb, h1, h4, b0, b4]
          by_cases s0 : s = 1
          · simp [s0]; refine k_loop ?_; simp; refine hQ _ _ ?_ ((Ext.alloc h _).set (Nat.le_refl _) _); simp [MayB]; omega
          · simp [s0]; refine hQ _ _ ?_ ((Ext.alloc h _).set (Nat.le_refl _) _); simp [MayB]; omega
        · by_cases b1 : b = 1
          · simp [F10]; refine k_loop ?_; simp [hb, h1, h4, b0, b4, b1]; refine k_loop ?_; simp; refine hQ _ _ ?_ ((Ext.alloc h _).set (Nat.le_refl _) _); simp [MayB]; omega
          · by_cases b2 : b = 2
            · simp [F10]; refine k_loop ?_; simp [hb, h1, h4, b0, b4, b1, b2]; refine k_loop ?_; simp; refine hQ _ _ ?_ ((Ext.alloc h _).set (Nat.le_refl _) _); simp [MayB]; omega
            · by_cases b3 : b = 3
              · simp [F10]; refine k_loop ?_; simp [hb, h1, h4, b0, b4, b1, b2, b3]; refine k_loop ?_; simp; refine hQ _ _ ?_ ((Ext.alloc h _).set (Nat.le_refl _) _); simp [MayB]; omega
              · simp [F10]; refine k_loop ?_; simp [hb, h1, h4, b0, b4, b1, b2, b3]; refine hQ _ _ ?_ ((Ext.alloc h _).set (Nat.le_refl _) _); simp [MayB]; omega
    · by_cases b0 : b = 0
      · simp [F10]; refine k_loop ?_; simp [hb, h1, h4, b0]
        by_cases s0 : s = 0
        · omega
        · simp [s0]; refine hQ _ _ ?_ ((Ext.alloc h _).set (Nat.le_refl _) _); simp [MayB]; omega
      · by_cases b4 : b = 4
        · simp [F10]; refine k_loop ?_; simp [hb, h1, h4, b0, b4]
          by_cases s0 : s = 1
          · omega
          · simp [s0]; refine hQ _ _ ?_ ((Ext.alloc h _).set (Nat.le_refl _) _); simp [MayB]; omega
        · by_cases b1 : b = 1
          · simp [F10]; refine k_loop ?_; simp [hb, h1, h4, b0, b4, b1]; refine hQ _ _ ?_ ((Ext.alloc h _).set (Nat.le_refl _) _); simp [MayB]; omega
          · by_cases b2 : b = 2
            · simp [F10]; refine k_loop ?_; simp [hb, h1, h4, b0, b4, b1, b2]; refine hQ _ _ ?_ ((Ext.alloc h _).set (Nat.le_refl _) _); simp [MayB]; omega
            · by_cases b3 : b = 3
              · simp [F10]; refine k_loop ?_; simp [hb, h1, h4, b0, b4, b1, b2, b3]; refine hQ _ _ ?_ ((Ext.alloc h _).set (Nat.le_refl _) _); simp [MayB]; omega
              · simp [F10]; refine k_loop ?_; simp [hb, h1, h4, b0, b4, b1, b2, b3]; refine hQ _ _ ?_ ((Ext.alloc h _).set (Nat.le_refl _) _); simp [MayB]; omega
  · by_cases b0 : b = 0
    · simp [F10]; refine k_loop ?_; simp [hb, h1, b0]
      by_cases s0 : s = 0
      · simp [s0]; refine k_loop ?_; simp; refine hQ _ _ ?_ ((Ext.alloc h _).set (Nat.le_refl _) _); simp [MayB]; omega
      · simp [s0]; refine hQ _ _ ?_ ((Ext.alloc h _).set (Nat.le_refl _) _); simp [MayB]; omega
    · by_cases b4 : b = 4
      · simp [F10]; refine k_loop ?_; simp [hb, h1, b0, b4]
        by_cases s0 : s = 1
        · omega
        · simp [s0]; refine hQ _ _ ?_ ((Ext.alloc h _).set (Nat.le_refl _) _); simp [MayB]; omega
      · by_cases b1 : b = 1
        · simp [F10]; refine k_loop ?_; simp [hb, h1, b0, b4, b1]; refine hQ _ _ ?_ ((Ext.alloc h _).set (Nat.le_refl _) _); simp [MayB]; omega
        · by_cases b2 : b = 2
          · simp [F10]; refine k_loop ?_; simp [hb, h1, b0, b4, b1, b2]; refine hQ _ _ ?_ ((Ext.alloc h _).set (Nat.le_refl _) _); simp [MayB]; omega
          · by_cases b3 : b = 3
            · simp [F10]; refine k_loop ?_; simp [hb, h1, b0, b4, b1, b2, b3]; refine hQ _ _ ?_ ((Ext.alloc h _).set (Nat.le_refl _) _); simp [MayB]; omega
            · simp [F10]; refine k_loop ?_; simp [hb, h1, b0, b4, b1, b2, b3]; refine hQ _ _ ?_ ((Ext.alloc h _).set (Nat.le_refl _) _); simp [MayB]; omega

theorem dec (l : List UInt8) (i : Nat) (hi : i < l.length) (ha : (l[i]).toNat < 128) : Go.Utf8.decode ⟨l.toArray⟩ i = ((l[i]).toNat, 1) :=
  Go.decode_ascii ⟨l.toArray⟩ i hi ha
/-- Where a rune stands in a row of four; z: nowhere. -/
def idx4 (a b c d r z : Int) : Int := if a = r then 0 else if b = r then 1 else if c = r then 2 else if d = r then 3 else z
theorem c12 (a b c d : UInt8) (ha : a.toNat < 128) (hb : b.toNat < 128) (hc : c.toNat < 128) (hd : d.toNat < 128) (r : Int) (h : Hp) (Q : CallQ)
    (hQ : ∀ h', Ext h h' → Q (.c (.int .i64 (idx4 a.toNat b.toNat c.toNat d.toNat r (-1)))) h') : wpC T 12 [.c (.str [a, b, c, d]), .c (.int .i32 r)] h Q := by
  refine k_code (fn := F12) rfl rfl ?_
  have d0 := dec [a, b, c, d] 0 (by simp) ha
  have d1 := dec [a, b, c, d] 1 (by simp) hb
  have d2 := dec [a, b, c, d] 2 (by simp) hc
  have d3 := dec [a, b, c, d] 3 (by simp) hd
  simp at d0 d1 d2 d3
  have x0 : ∀ o, Ext h (h.alloc o) := fun o => Ext.alloc h o
  have xs : ∀ h' o, Ext h h' → Ext h (h'.set h.next o) := fun h' o hx => hx.set (Nat.le_refl _) o
  simp [F12]
  refine k_loop ?_
  simp [d0]
  by_cases e0 : (a.toNat : Int) = r
  · simp [idx4, e0] at hQ ⊢
    exact hQ _ (xs _ _ (x0 _))
  · simp [e0]
    refine k_loop ?_
    simp [d1]
    by_cases e1 : (b.toNat : Int) = r
    · simp [idx4, e0, e1] at hQ ⊢
      exact hQ _ (xs _ _ (xs _ _ (x0 _)))
    · simp [e1]
      refine k_loop ?_
      simp [d2]
      by_cases e2 : (c.toNat : Int) = r
      · simp [idx4, e0, e1, e2] at hQ ⊢
        exact hQ _ (xs _ _ (xs _ _ (xs _ _ (x0 _))))
      · simp [e2]
        refine k_loop ?_
        simp [d3]
        by_cases e3 : (d.toNat : Int) = r
        · simp [idx4, e0, e1, e2, e3] at hQ ⊢
          exact hQ _ (xs _ _ (xs _ _ (xs _ _ (xs _ _ (x0 _)))))
        · simp [e3]
          refine k_loop ?_
          simp [idx4, e0, e1, e2, e3] at hQ ⊢
          exact hQ _ (xs _ _ (xs _ _ (xs _ _ (xs _ _ (x0 _)))))
theorem c15 (a b c d : UInt8) (r : Int) (h : Hp) (Q : CallQ)
    (hQ : Q (.c (.int .i64 (idx4 a.toNat b.toNat c.toNat d.toNat r 9))) h) : wpC T 15 [.c (.str [a, b, c, d]), .c (.int .u8 r)] h Q := by
  refine k_code (fn := F15) rfl rfl ?_
  simp [F15]
  refine k_loop ?_
  simp
  by_cases e0 : (a.toNat : Int) = r
  · simp [idx4, e0] at hQ ⊢
    exact hQ
  · simp [e0]
    refine k_loop ?_
    simp
    by_cases e1 : (b.toNat : Int) = r
    · simp [idx4, e0, e1] at hQ ⊢
      exact hQ
    · simp [e1]
      refine k_loop ?_
      simp
      by_cases e2 : (c.toNat : Int) = r
      · simp [idx4, e0, e1, e2] at hQ ⊢
        exact hQ
      · simp [e2]
        refine k_loop ?_
        simp
        by_cases e3 : (d.toNat : Int) = r
        · simp [idx4, e0, e1, e2, e3] at hQ ⊢
          exact hQ
        · simp [e3]
          refine k_loop ?_
          simp [idx4, e0, e1, e2, e3] at hQ ⊢
          exact hQ
end Go.Proofs.Ytmlglmfjbmiflaa.Am
