/-
  SenseConverts, over the abstract machine: the two conversions.
-/
import Derived.Test.YtjlebgfbohihfaaGreatCw1
namespace Go.Proofs.YtjlebgfbohihfaaGreat.Am
open Go
set_option linter.unusedVariables false
set_option linter.unusedSimpArgs false

/-- A number of the type Fix. -/
def I32 (x : Int) : Prop := -2147483648 ≤ x ∧ x ≤ 2147483647
theorem wrap_i32 {n : Int} (h : I32 n) : IntKind.i32.wrap n = n := by
  obtain ⟨h1, h2⟩ := h
  simp [IntKind.wrap, IntKind.bits, IntKind.signed]; omega
def sat (v : Int) : Int := if v > 2147483647 then 2147483647 else if v < -2147483648 then -2147483648 else v
theorem sat_I32 (v : Int) : I32 (sat v) := by unfold sat I32; split <;> (try split) <;> omega
theorem sat_of {v : Int} (h : I32 v) : sat v = v := by unfold sat; unfold I32 at h; rw [if_neg (by omega), if_neg (by omega)]
def cutI (x a b : Int) : Int := if b < (if a > x then a else x) then b else (if a > x then a else x)
theorem cut_sat (x : Int) : cutI x (-2147483648) 2147483647 = sat x := by unfold cutI sat; repeat' split <;> omega
theorem cut_small (x : Int) : -65536 ≤ cutI x (-65536) 65536 ∧ cutI x (-65536) 65536 ≤ 65536 := by unfold cutI; repeat' split <;> omega
theorem sat_cut (x : Int) : sat (cutI x (-65536) 65536 * 65536) = sat (x * 65536) := by unfold cutI sat; repeat' split <;> omega
theorem c23 (b : Bool) (h : Hp) (Q : CallQ) (hQ : Q (.c (.int .i32 (if b then 1 else 0))) h) : wpC T 23 [.c (.bool b)] h Q := by
  refine k_code (fn := F23) rfl rfl ?_
  cases b <;> simp [F23] <;> exact hQ
theorem c40 (b : Bool) (h : Hp) (Q : CallQ) (hQ : Q (.c (.int .i32 (if b then 1 else 0))) h) : wpC T 40 [.c (.bool b)] h Q := by
  refine k_code (fn := F40) rfl rfl ?_
  cases b <;> simp [F40] <;> exact hQ
theorem c105 (x a b : Int) (h : Hp) (Q : CallQ) (hQ : Q (.c (.int .i64 (cutI x a b))) h) : wpC T 105 [.c (.int .i64 x), .c (.int .i64 a), .c (.int .i64 b)] h Q := by
  refine k_code (fn := F105) rfl rfl ?_
  simp [F105]
  exact hQ
theorem c133 (x a b : Int) (h : Hp) (Q : CallQ) (hQ : Q (.c (.int .i64 (cutI x a b))) h) : wpC T 133 [.c (.int .i64 x), .c (.int .i64 a), .c (.int .i64 b)] h Q := by
  refine k_code (fn := F133) rfl rfl ?_
  simp [F133]
  exact hQ
theorem c82 (x : Int) (h : Hp) (Q : CallQ) (hQ : Q (.c (.int .i32 (sat x))) h) : wpC T 82 [.c (.int .i64 x)] h Q := by
  refine k_code (fn := F82) rfl rfl ?_
  simp [F82]
  refine k_call ?_
  simp
  refine c133 _ _ _ _ _ ?_
  rw [cut_sat]
  simp [wrap_i32 (sat_I32 x)]
  exact hQ
theorem c53 (x : Int) (h : Hp) (Q : CallQ) (hQ : Q (.c (.int .i32 (sat (x * 65536)))) h) : wpC T 53 [.c (.int .i64 x)] h Q := by
  refine k_code (fn := F53) rfl rfl ?_
  simp [F53]
  refine k_call ?_
  simp
  refine c105 _ _ _ _ _ ?_
  have hc := cut_small x
  have hw : IntKind.i64.wrap (cutI x (-65536) 65536 * 65536) = cutI x (-65536) 65536 * 65536 := wrap_i64 (by omega) (by omega)
  simp [intShift, IntKind.bits, hw]
  refine k_call ?_
  simp
  refine c82 _ _ _ ?_
  rw [sat_cut]
  exact hQ
theorem c91 (x : Int) (h : Hp) (Q : CallQ) (hQ : Q (.c (.int .i32 (sat x))) h) : wpC T 91 [.c (.int .i64 x)] h Q := by
  refine k_code (fn := F91) rfl rfl ?_
  by_cases h1 : 2147483647 < x
  · have hs : sat x = 2147483647 := by unfold sat; rw [if_pos (by omega)]
    rw [hs] at hQ
    simp [F91, h1]
    exact hQ
  · by_cases h2 : x < -2147483648
    · have hs : sat x = -2147483648 := by unfold sat; rw [if_neg (by omega), if_pos h2]
      rw [hs] at hQ
      simp [F91, h1, h2]
      exact hQ
    · have hi : I32 x := ⟨by omega, by omega⟩
      rw [sat_of hi] at hQ
      simp [F91, h1, h2, wrap_i32 hi]
      exact hQ
theorem c54 (x : Int) (h : Hp) (Q : CallQ) (hQ : Q (.c (.int .i32 (sat (x * 65536)))) h) : wpC T 54 [.c (.int .i64 x)] h Q := by
  refine k_code (fn := F54) rfl rfl ?_
  by_cases h1 : 40000 < x
  · have hs : sat (x * 65536) = 2147483647 := by unfold sat; rw [if_pos (by omega)]
    rw [hs] at hQ
    simp [F54, h1]
    exact hQ
  · by_cases h2 : x < -40000
    · have hs : sat (x * 65536) = -2147483648 := by unfold sat; rw [if_neg (by omega), if_pos (by omega)]
      rw [hs] at hQ
      simp [F54, h1, h2]
      exact hQ
    · have hw : IntKind.i64.wrap (x * 65536) = x * 65536 := wrap_i64 (by omega) (by omega)
      simp [F54, h1, h2, hw]
      refine k_call ?_
      simp
      refine c91 _ _ _ ?_
      exact hQ
/-- What a number is converted to. -/
def cv (f t x : Int) : Int :=
  if f = t then x else if t = 3 then (if x = 0 then 0 else 1) else if t = 2 ∧ f = 1 then x.tdiv 65536 else if t = 2 then x else if f = 2 then sat (x * 65536) else if x = 0 then 0 else 65536
theorem tdiv_I32 {x : Int} (h : I32 x) : I32 (x.tdiv 65536) := by
  unfold I32 at *
  have h1 : x.tdiv 65536 ≤ 32768 ∧ -32768 ≤ x.tdiv 65536 := by
    rcases Int.le_total 0 x with hx | hx
    · rw [Int.tdiv_eq_ediv_of_nonneg hx]; omega
    · have : x.tdiv 65536 = -((-x).tdiv 65536) := by rw [Int.neg_tdiv]; omega
      rw [this, Int.tdiv_eq_ediv_of_nonneg (by omega)]; omega
  omega
def inB (b : Int) : Prop := b = 1 ∨ b = 2 ∨ b = 3
theorem c14 (f t x : Int) (hf : inB f) (ht : inB t) (hx : I32 x) (h : Hp) (Q : CallQ) (hQ : Q (.c (.int .i32 (cv f t x))) h) : wpC T 14 [.c (.int .i64 f), .c (.int .i64 t), .c (.int .i32 x)] h Q := by
  refine k_code (fn := F14) rfl rfl ?_
  have hw : IntKind.i64.wrap x = x := wrap_i64 (by have := hx.1; omega) (by have := hx.2; omega)
  have hd := tdiv_I32 hx
  have hw2 : IntKind.i64.wrap (x.tdiv 65536) = x.tdiv 65536 := wrap_i64 (by have := hd.1; omega) (by have := hd.2; omega)
  have hw3 : IntKind.i32.wrap (x.tdiv 65536) = x.tdiv 65536 := wrap_i32 hd
  rcases hf with rfl | rfl | rfl
  · rcases ht with rfl | rfl | rfl
    · simp [F14]; simp [cv] at hQ; exact hQ
    · simp [F14, hw, hw2, hw3]; simp [cv] at hQ; exact hQ
    · simp [F14]; refine k_call ?_; simp; refine c40 _ _ _ ?_; by_cases h0 : x = 0 <;> simp [cv, h0] at hQ ⊢ <;> exact hQ
  · rcases ht with rfl | rfl | rfl
    · simp [F14, hw]; refine k_call ?_; simp; refine c54 _ _ _ ?_; simp [cv] at hQ; exact hQ
    · simp [F14]; simp [cv] at hQ; exact hQ
    · simp [F14]; refine k_call ?_; simp; refine c40 _ _ _ ?_; by_cases h0 : x = 0 <;> simp [cv, h0] at hQ ⊢ <;> exact hQ
  · rcases ht with rfl | rfl | rfl
    · simp [F14]; refine k_call ?_; simp; refine c40 _ _ _ ?_; by_cases h0 : x = 0 <;> simp [cv, h0, IntKind.wrap, IntKind.bits, IntKind.signed] at hQ ⊢ <;> exact hQ
    · simp [F14]; simp [cv] at hQ; exact hQ
    · simp [F14]; simp [cv] at hQ; exact hQ
instance (b : Int) : Decidable (inB b) := by unfold inB; infer_instance
def cvR (f t x : Int) : AVal := .tup [.inl (.int .i32 (if inB f ∧ inB t then cv f t x else 0)), .inl (.int .i64 (if inB f ∧ inB t then 0 else 2))]
theorem c13 (f t x : Int) (hx : I32 x) (h : Hp) (Q : CallQ) (hQ : Q (.tup [.inl (.int .i32 (if inB f ∧ inB t then cv f t x else 0)), .inl (.int .i64 (if inB f ∧ inB t then 0 else 2))]) h) : wpC T 13 [.c (.int .i64 f), .c (.int .i64 t), .c (.int .i32 x)] h Q := by
  refine k_code (fn := F13) rfl rfl ?_
  have hw : IntKind.i64.wrap x = x := wrap_i64 (by have := hx.1; omega) (by have := hx.2; omega)
  have hw3 : IntKind.i32.wrap (x.tdiv 65536) = x.tdiv 65536 := wrap_i32 (tdiv_I32 hx)
  simp [F13]
  refine k_loop ?_
  simp
  by_cases f1 : f < 1
  · have : ¬ inB f := by unfold inB; omega
    simp [this] at hQ
    simp [f1]
    exact hQ
  by_cases f3 : 3 < f
  · have : ¬ inB f := by unfold inB; omega
    simp [this] at hQ
    simp [f1, f3]
    exact hQ
  simp [f1, f3]
  refine k_loop ?_
  simp
  by_cases t1 : t < 1
  · have : ¬ inB t := by unfold inB; omega
    simp [this] at hQ
    simp [t1]
    exact hQ
  by_cases t3 : 3 < t
  · have : ¬ inB t := by unfold inB; omega
    simp [this] at hQ
    simp [t1, t3]
    exact hQ
  simp [t1, t3]
  refine k_loop ?_
  have hf : inB f := by unfold inB; omega
  have ht : inB t := by unfold inB; omega
  rw [if_pos ⟨hf, ht⟩, if_pos ⟨hf, ht⟩] at hQ
  clear f1 f3 t1 t3
  rcases hf with rfl | rfl | rfl
  · rcases ht with rfl | rfl | rfl
    · simp; simp [cv] at hQ; exact hQ
    · simp [hw3]; simp [cv] at hQ; exact hQ
    · simp; refine k_call ?_; simp; refine c23 _ _ _ ?_; by_cases h0 : x = 0 <;> simp [cv, h0] at hQ ⊢ <;> exact hQ
  · rcases ht with rfl | rfl | rfl
    · simp [hw]; refine k_call ?_; simp; refine c53 _ _ _ ?_; simp [cv] at hQ; simp; exact hQ
    · simp; simp [cv] at hQ; exact hQ
    · simp; refine k_call ?_; simp; refine c23 _ _ _ ?_; by_cases h0 : x = 0 <;> simp [cv, h0] at hQ ⊢ <;> exact hQ
  · rcases ht with rfl | rfl | rfl
    · by_cases h0 : x = 0 <;> simp [h0] <;> simp [cv, h0] at hQ <;> exact hQ
    · simp; simp [cv] at hQ; exact hQ
    · simp; simp [cv] at hQ; exact hQ
end Go.Proofs.YtjlebgfbohihfaaGreat.Am
