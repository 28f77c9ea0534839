import Derived.Test.YtjlebgfbohihfaaGreatCw1
namespace Go.Proofs.YtjlebgfbohihfaaGreat.Am
open Go
set_option linter.unusedVariables false
set_option linter.unusedSimpArgs false

/-- A number of the type Fix. -/
def I32 (x : Int) : Prop := -2147483648 ≤ x ∧ x ≤ 2147483647
theorem wrap_i32 {n : Int} (h : I32 n) : IntKind.i32.wrap n = n := by
  obtain ⟨h1, h2⟩ := h
  simp [IntKind.wrap, IntKind.bits, IntKind.signed]; omega
def sat (v : Int) : Int := if v > 2147483647 then 2147483647 else if v < -2147483648 then -2147483648 else v
theorem sat_I32 (v : Int) : I32 (sat v) := by unfold sat I32; split <;> (try split) <;> omega
theorem sat_of {v : Int} (h : I32 v) : sat v = v := by unfold sat; unfold I32 at h; rw [if_neg (by omega), if_neg (by omega)]
def cutI (x a b : Int) : Int := if b < (if a > x then a else x) then b else (if a > x then a else x)
theorem cut_sat (x : Int) : cutI x (-2147483648) 2147483647 = sat x := by unfold cutI sat; repeat' split <;> omega
theorem cut_small (x : Int) : -65536 ≤ cutI x (-65536) 65536 ∧ cutI x (-65536) 65536 ≤ 65536 := by unfold cutI; repeat' split <;> omega
theorem sat_cut (x : Int) : sat (cutI x (-65536) 65536 * 65536) = sat (x * 65536) := by unfold cutI sat; repeat' split <;> omega
theorem c23 (b : Bool) (h : Hp) (Q : CallQ) (hQ : Q (.c (.int .i32 (if b then 1 else 0))) h) : wpC T 23 [.c (.bool b)] h Q := by
  refine k_code (fn := F23) rfl rfl ?_
  cases b <;> simp [F23] <;> exact hQ
theorem c40 (b : Bool) (h : Hp) (Q : CallQ) (hQ : Q (.c (.int .i32 (if b then 1 else 0))) h) : wpC T 40 [.c (.bool b)] h Q := by
  refine k_code (fn := F40) rfl rfl ?_
  cases b <;> simp [F40] <;> exact hQ
theorem c105 (x a b : Int) (h : Hp) (Q : CallQ) (hQ : Q (.c (.int .i64 (cutI x a b))) h) : wpC T 105 [.c (.int .i64 x), .c (.int .i64 a), .c (.int .i64 b)] h Q := by
  refine k_code (fn := F105) rfl rfl ?_
  simp [F105]
  exact hQ
theorem c133 (x a b : Int) (h : Hp) (Q : CallQ) (hQ : Q (.c (.int .i64 (cutI x a b))) h) : wpC T 133 [.c (.int .i64 x), .c (.int .i64 a), .c (.int .i64 b)] h Q := by
  refine k_code (fn := F133) rfl rfl ?_
  simp [F133]
  exact hQ
theorem c82 (x : Int) (h : Hp) (Q : CallQ) (hQ : Q (.c (.int .i32 (sat x))) h) : wpC T 82 [.c (.int .i64 x)] h Q := by
  refine k_code (fn := F82) rfl rfl ?_
  simp [F82]
  refine k_call ?_
  simp
  refine c133 _ _ _ _ _ ?_
  rw [cut_sat]
  simp [wrap_i32 (sat_I32 x)]
  exact hQ
theorem c53 (x : Int) (h : Hp) (Q : CallQ) (hQ : Q (.c (.int .i32 (sat (x * 65536)))) h) : wpC T 53 [.c (.int .i64 x)] h Q := by
  refine k_code (fn := F53) rfl rfl ?_
  simp [F53]
  refine k_call ?_
  simp
  refine c105 _ _ _ _ _ ?_
  have hc := cut_small x
  have hw : IntKind.i64.wrap (cutI x (-65536) 65536 * 65536) = cutI x (-65536) 65536 * 65536 := wrap_i64 (by omega) (by omega)
  simp [intShift, IntKind.bits, hw]
  refine k_call ?_
  simp
  refine c82 _ _ _ ?_
  rw [sat_cut]
  exact hQ
theorem c91 (x : Int) (h : Hp) (Q : CallQ) (hQ : Q (.c (.int .i32 (sat x))) h) : wpC T 91 [.c (.int .i64 x)] h Q := by
  refine k_code (fn := F91) rfl rfl ?_
  by_cases h1 : 2147483647 < x
  · have hs : sat x = 2147483647 := by unfold sat; rw [if_pos (by omega)]
    rw [hs] at hQ
    simp [F91, h1]
    exact hQ
  · by_cases h2 : x < -2147483648
    · have hs : sat x = -2147483648 := by unfold sat; rw [if_neg (by omega), if_pos h2]
      rw [hs] at hQ
      simp [F91, h1, h2]
      exact hQ
    · have hi : I32 x := ⟨by omega, by omega⟩
      rw [sat_of hi] at hQ
      simp [F91, h1, h2, wrap_i32 hi]
      exact hQ
theorem c54 (x : Int) (h : Hp) (Q : CallQ) (hQ : Q (.c (.int .i32 (sat (x * 65536)))) h) : wpC T 54 [.c (.int .i64 x)] h Q := by
  refine k_code (fn := F54) rfl rfl ?_
  by_cases h1 : 40000 < x
  · have hs : sat (x * 65536) = 2147483647 := by unfold sat; rw [if_pos (by omega)]
    rw [hs] at hQ
    simp [F54, h1]
    exact hQ
  · by_cases h2 : x < -40000
    · have hs : sat (x * 65536) = -2147483648 := by unfold sat; rw [if_neg (by omega), if_pos (by omega)]
      rw [hs] at hQ
      simp [F54, h1, h2]
      exact hQ
    · have hw : IntKind.i64.wrap (x * 65536) = x * 65536 := wrap_i64 (by omega) (by omega)
      simp [F54, h1, h2, hw]
      refine k_call ?_
      simp
      refine c91 _ _ _ ?_
      exact hQ
/-- What a number is converted to. -/
def cv (f t x : Int) : Int :=
  if f = t then x else if t = 3 then (if x = 0 then 0 else 1) else if t = 2 ∧ f = 1 then x.tdiv 65536 else if t = 2 then x else if f = 2 then sat (x * 65536) else if x = 0 then 0 else 65536
theorem tdiv_I32 {x : Int} (h : I32 x) : I32 (x.tdiv 65536) := by
  unfold I32 at *
  have h1 : x.tdiv 65536 ≤ 32768 ∧ -32768 ≤ x.tdiv 65536 := by
    rcases Int.le_total 0 x with hx | hx
    · rw [Int.tdiv_eq_ediv_of_nonneg hx]; omega
    · have : x.tdiv 65536 = -((-x).tdiv 65536) := by rw [Int.neg_tdiv]; omega
      rw [this, Int.tdiv_eq_ediv_of_nonneg (by omega)]; omega
  omega
def inB (b : Int) : Prop := b = 1 ∨ b = 2 ∨ b = 3
theorem c14 (f t x : Int) (hf : inB f) (ht : inB t) (hx : I32 x) (h : Hp) (Q : CallQ) (hQ : Q (.c (.int .i32 (cv f t x))) h) : wpC T 14 [.c (.int .i64 f), .c (.int .i64 t), .c (.int .i32 x)] h Q := by
  refine k_code (fn := F14) rfl rfl ?_
  have hw : IntKind.i64.wrap x = x := wrap_i64 (by have := hx.1; omega) (by have := hx.2; omega)
  have hd := tdiv_I32 hx
  have hw2 : IntKind.i64.wrap (x.tdiv 65536) = x.tdiv 65536 := wrap_i64 (by have := hd.1; omega) (by have := hd.2; omega)
  have hw3 : IntKind.i32.wrap (x.tdiv 65536) = x.tdiv 65536 := wrap_i32 hd
  rcases hf with rfl | rfl | rfl
  · rcases ht with rfl | rfl | rfl
    · simp [F14]; simp [cv] at hQ; exact hQ
    · simp [F14, hw, hw2, hw3]; simp [cv] at hQ; exact hQ
    · simp [F14]; refine k_call ?_; simp; refine c40 _ _ _ ?_; by_cases h0 : x = 0 <;> simp [cv, h0] at hQ ⊢ <;> exact hQ
  · rcases ht with rfl | rfl | rfl
    · simp [F14, hw]; refine k_call ?_; simp; refine c54 _ _ _ ?_; simp [cv] at hQ; exact hQ
    · simp [F14]; simp [cv] at hQ; exact hQ
    · simp [F14]; refine k_call ?_; simp; refine c40 _ _ _ ?_; by_cases h0 : x = 0 <;> simp [cv, h0] at hQ ⊢ <;> exact hQ
  · rcases ht with rfl | rfl | rfl
    · simp [F14]; refine k_call ?_; simp; refine c40 _ _ _ ?_; by_cases h0 : x = 0 <;> simp [cv, h0, IntKind.wrap, IntKind.bits, IntKind.signed] at hQ ⊢ <;> exact hQ
    · simp [F14]; simp [cv] at hQ; exact hQ
    · simp [F14]; simp [cv] at hQ; exact hQ
instance (b : Int) : Decidable (inB b) := by unfold inB; infer_instance
def cvR (f t x : Int) : AVal := .tup [.inl (.int .i32 (if inB f ∧ inB t then cv f t x else 0)), .inl (.int .i64 (if inB f ∧ inB t then 0 else 2))]
theorem c13 (f t x : Int) (hx : I32 x) (h : Hp) (Q : CallQ) (hQ : Q (.tup [.inl (.int .i32 (if inB f ∧ inB t then cv f t x else 0)), .inl (.int .i64 (if inB f ∧ inB t then 0 else 2))]) h) : wpC T 13 [.c (.int .i64 f), .c (.int .i64 t), .c (.int .i32 x)] h Q := by
  refine k_code (fn := F13) rfl rfl ?_
  have hw : IntKind.i64.wrap x = x := wrap_i64 (by have := hx.1; omega) (by have := hx.2; omega)
  have hw3 : IntKind.i32.wrap (x.tdiv 65536) = x.tdiv 65536 := wrap_i32 (tdiv_I32 hx)
  simp [F13]
  refine k_loop ?_
  simp
  by_cases f1 : f < 1
  · have : ¬ inB f := by unfold inB; omega
    simp [this] at hQ
    simp [f1]
    exact hQ
  by_cases f3 : 3 < f
  · have : ¬ inB f := by unfold inB; omega
    simp [this] at hQ
    simp [f1, f3]
    exact hQ
  simp [f1, f3]
  refine k_loop ?_
  simp
  by_cases t1 : t < 1
  · have : ¬ inB t := by unfold inB; omega
    simp [this] at hQ
    simp [t1]
    exact hQ
  by_cases t3 : 3 < t
  · have : ¬ inB t := by unfold inB; omega
    simp [this] at hQ
    simp [t1, t3]
    exact hQ
  simp [t1, t3]
  refine k_loop ?_
  have hf : inB f := by unfold inB; omega
  have ht : inB t := by unfold inB; omega
  rw [if_pos ⟨hf, ht⟩, if_pos ⟨hf, ht⟩] at hQ
  clear f1 f3 t1 t3
  rcases hf with rfl | rfl | rfl
  · rcases ht with rfl | rfl | rfl
    · simp; simp [cv] at hQ; exact hQ
    · simp [hw3]; simp [cv] at hQ; exact hQ
    · simp; refine k_call ?_; simp; refine c23 _ _ _ ?_; by_cases h0 : x = 0 <;> simp [cv, h0] at hQ ⊢ <;> exact hQ
  · rcases ht with rfl | rfl | rfl
    · simp [hw]; refine k_call ?_; simp; refine c53 _ _ _ ?_; simp [cv] at hQ; simp; exact hQ
    · simp; simp [cv] at hQ; exact hQ
    · simp; refine k_call ?_; simp; refine c23 _ _ _ ?_; by_cases h0 : x = 0 <;> simp [cv, h0] at hQ ⊢ <;> exact hQ
  · rcases ht with rfl | rfl | rfl
    · by_cases h0 : x = 0 <;> simp [h0] <;> simp [cv, h0] at hQ <;> exact hQ
    · simp; simp [cv] at hQ; exact hQ
    · simp; simp [cv] at hQ; exact hQ
end Go.Proofs.YtjlebgfbohihfaaGreat.Am

namespace Go.Proofs.YtjlebgfbohihfaaGreat.Am
open Go
set_option linter.unusedVariables false
set_option linter.unusedSimpArgs false

abbrev fx (x : Int) : AVal := .c (.int .i32 x)
abbrev i64 (x : Int) : AVal := .c (.int .i64 x)
theorem w64 {x : Int} (h : -9223372036854775808 ≤ x ∧ x ≤ 9223372036854775807) : IntKind.i64.wrap x = x := wrap_i64 h.1 h.2
theorem w64_32 {x : Int} (h : I32 x) : IntKind.i64.wrap x = x := w64 ⟨by have := h.1; omega, by have := h.2; omega⟩
def addS (a b : Int) : Int := sat (a + b)
def subS (a b : Int) : Int := sat (a - b)
def negS (a : Int) : Int := sat (-a)
def mulS (a b : Int) : Int := sat ((a * b + 32768) / 65536)
def divS (a b : Int) : Int :=
  if b = 0 then (if 0 < a then 2147483647 else if a < 0 then -2147483648 else 0) else
  if b < 0 then (if 0 < a then sat (-((2 * (a * 65536) + -b) / (2 * -b))) else sat ((2 * -(a * 65536) + -b) / (2 * -b)))
  else (if a < 0 then sat (-((2 * -(a * 65536) + b) / (2 * b))) else sat ((2 * (a * 65536) + b) / (2 * b)))
def floorS (a : Int) : Int := a / 65536 * 65536
def fractS (a : Int) : Int := a % 65536
def signS (a : Int) : Int := if 0 < a then 65536 else if a < 0 then -65536 else 0
def absS (a : Int) : Int := if a < 0 then negS a else a
def modS (a b : Int) : Int := subS a (mulS b (floorS (divS a b)))

theorem floorS_I32 {a : Int} (h : I32 a) : I32 (floorS a) := by unfold I32 floorS at *; omega
theorem divS_I32 (a b : Int) : I32 (divS a b) := by
  unfold divS
  repeat' split
  all_goals first | exact sat_I32 _ | (unfold I32; omega)

section
variable (h : Hp) (Q : CallQ)
theorem c75 (a b : Int) (ha : I32 a) (hb : I32 b) (hQ : Q (fx (addS a b)) h) : wpC T 75 [fx a, fx b] h Q := by
  refine k_code (fn := F75) rfl rfl ?_
  have hw : IntKind.i64.wrap (a + b) = a + b := w64 (by unfold I32 at *; omega)
  simp [F75, w64_32 ha, w64_32 hb, hw]
  refine k_call ?_; simp
  refine c82 _ _ _ ?_
  first | exact hQ | (simp; exact hQ)
theorem c76 (a b : Int) (ha : I32 a) (hb : I32 b) (hQ : Q (fx (subS a b)) h) : wpC T 76 [fx a, fx b] h Q := by
  refine k_code (fn := F76) rfl rfl ?_
  have hw : IntKind.i64.wrap (a - b) = a - b := w64 (by unfold I32 at *; omega)
  simp [F76, w64_32 ha, w64_32 hb, hw]
  refine k_call ?_; simp
  refine c82 _ _ _ ?_
  first | exact hQ | (simp; exact hQ)
theorem c90 (a b : Int) (ha : I32 a) (hb : I32 b) (hQ : Q (fx (addS a b)) h) : wpC T 90 [fx a, fx b] h Q := by
  refine k_code (fn := F90) rfl rfl ?_
  have hw : IntKind.i64.wrap (a + b) = a + b := w64 (by unfold I32 at *; omega)
  simp [F90, w64_32 ha, w64_32 hb, hw]
  refine k_call ?_; simp
  refine c91 _ _ _ ?_
  first | exact hQ | (simp; exact hQ)
theorem c95 (a b : Int) (ha : I32 a) (hb : I32 b) (hQ : Q (fx (subS a b)) h) : wpC T 95 [fx a, fx b] h Q := by
  refine k_code (fn := F95) rfl rfl ?_
  have hw : IntKind.i64.wrap (a - b) = a - b := w64 (by unfold I32 at *; omega)
  simp [F95, w64_32 ha, w64_32 hb, hw]
  refine k_call ?_; simp
  refine c91 _ _ _ ?_
  first | exact hQ | (simp; exact hQ)
theorem c126 (a : Int) (ha : I32 a) (hQ : Q (fx (negS a)) h) : wpC T 126 [fx a] h Q := by
  refine k_code (fn := F126) rfl rfl ?_
  have hw : IntKind.i64.wrap (-a) = -a := w64 (by unfold I32 at *; omega)
  simp [F126, w64_32 ha, hw]
  refine k_call ?_; simp
  refine c82 _ _ _ ?_
  first | exact hQ | (simp; exact hQ)
theorem c50 (a : Int) (ha : I32 a) (hQ : Q (fx (negS a)) h) : wpC T 50 [fx a] h Q := by
  refine k_code (fn := F50) rfl rfl ?_
  have hw : IntKind.i64.wrap (-a) = -a := w64 (by unfold I32 at *; omega)
  simp [F50, w64_32 ha, hw]
  refine k_call ?_; simp
  refine c91 _ _ _ ?_
  first | exact hQ | (simp; exact hQ)
theorem c182 (a b : Int) (hQ : Q (fx (if b > a then b else a)) h) : wpC T 182 [fx a, fx b] h Q := by
  refine k_code (fn := F182) rfl rfl ?_
  simp [F182]; exact hQ
theorem c127 (a : Int) (ha : I32 a) (hQ : Q (fx (absS a)) h) : wpC T 127 [fx a] h Q := by
  refine k_code (fn := F127) rfl rfl ?_
  simp [F127]
  refine k_call ?_; simp
  refine c126 _ _ a ha ?_
  try simp
  refine k_call ?_; simp
  refine c182 _ _ _ _ ?_
  have : (if negS a > a then negS a else a) = absS a := by unfold absS negS sat; unfold I32 at ha; repeat' split <;> omega
  rw [this]
  first | exact hQ | (simp; exact hQ)
theorem c141 (a : Int) (ha : I32 a) (hQ : Q (fx (absS a)) h) : wpC T 141 [fx a] h Q := by
  refine k_code (fn := F141) rfl rfl ?_
  by_cases h0 : a < 0
  · simp [F141, h0]
    refine k_call ?_; simp
    refine c50 _ _ a ha ?_
    simp [absS, h0] at hQ
    first | exact hQ | (simp; exact hQ)
  · simp [F141, h0]
    simp [absS, h0] at hQ
    exact hQ
theorem mul_b {a b : Int} (ha : I32 a) (hb : I32 b) : -4611686018427387904 ≤ a * b ∧ a * b ≤ 4611686018427387904 := by
  obtain ⟨h1, h2⟩ := ha
  obtain ⟨h3, h4⟩ := hb
  have e1 : a.natAbs ≤ 2147483648 := by omega
  have e2 : b.natAbs ≤ 2147483648 := by omega
  have e3 : (a * b).natAbs ≤ 2147483648 * 2147483648 := by rw [Int.natAbs_mul]; exact Nat.mul_le_mul e1 e2
  omega
theorem c72 (a b : Int) (ha : I32 a) (hb : I32 b) (hQ : Q (fx (mulS a b)) h) : wpC T 72 [fx a, fx b] h Q := by
  refine k_code (fn := F72) rfl rfl ?_
  have hm := mul_b ha hb
  have hw : IntKind.i64.wrap (a * b) = a * b := w64 (by omega)
  have hw2 : IntKind.i64.wrap (a * b + 32768) = a * b + 32768 := w64 (by omega)
  have hf : (a * b + 32768).fdiv 65536 = (a * b + 32768) / 65536 := Int.fdiv_eq_ediv_of_nonneg _ (by omega)
  simp [F72, w64_32 ha, w64_32 hb, hw, hw2, intShift, IntKind.bits, hf]
  refine k_call ?_; simp
  refine c82 _ _ _ ?_
  first | exact hQ | (simp; exact hQ)
theorem down_key {n d : Int} (hd : 0 < d) : (n.tmod d < 0 ∧ n.tdiv d = n / d + 1) ∨ (¬ n.tmod d < 0 ∧ n.tdiv d = n / d) := by
  rw [Int.tdiv_eq_ediv, Int.tmod_eq_emod]
  have h1 := Int.emod_nonneg n (show d ≠ 0 by omega)
  have h2 := Int.emod_lt_of_pos n hd
  split
  · right; omega
  · left; rw [Int.sign_eq_one_of_pos hd]; omega
theorem down_b {n d : Int} (hd : 0 < d) (hn : -9223372036854775807 ≤ n ∧ n ≤ 9223372036854775807) : -9223372036854775807 ≤ n / d ∧ n / d ≤ 9223372036854775807 := by
  rcases Int.le_total 0 n with h0 | h0
  · have h1 := Int.ediv_nonneg h0 (Int.le_of_lt hd)
    have h2 := Int.ediv_le_self d h0
    omega
  · have h1 : n ≤ n / d := Int.le_ediv_of_mul_le hd (by
      have := Int.mul_le_mul_of_nonpos_left h0 (show 1 ≤ d by omega)
      omega)
    have h2 : n / d ≤ 0 := by
      have := Int.ediv_le_ediv hd h0
      simpa using this
    omega
theorem c136 (n d : Int) (hd : 0 < d) (hn : -9223372036854775807 ≤ n ∧ n ≤ 9223372036854775807) (hQ : Q (i64 (n / d)) h) : wpC T 136 [i64 n, i64 d] h Q := by
  refine k_code (fn := F136) rfl rfl ?_
  have hb := down_b hd hn
  have d0 : ¬ d = 0 := by omega
  rcases down_key (n := n) hd with ⟨hm, he⟩ | ⟨hm, he⟩
  · have hneg : n < 0 := by
      by_cases h0 : n < 0
      · exact h0
      · have := Int.tmod_nonneg d (show 0 ≤ n by omega); omega
    have hx : n / d ≤ 0 := by have := Int.ediv_le_ediv hd (Int.le_of_lt hneg); simpa using this
    · have hw : IntKind.i64.wrap (n / d + 1) = n / d + 1 := w64 ⟨by omega, by omega⟩
      have hw2 : IntKind.i64.wrap (n / d) = n / d := w64 ⟨by omega, by omega⟩
      simp [F136, d0, he, hm, hw, hw2]
      exact hQ
  · have hw2 : IntKind.i64.wrap (n / d) = n / d := w64 ⟨by omega, by omega⟩
    simp [F136, d0, he, hm, hw2]
    exact hQ
theorem c96 (a b : Int) (ha : I32 a) (hb : I32 b) (hQ : Q (fx (mulS a b)) h) : wpC T 96 [fx a, fx b] h Q := by
  refine k_code (fn := F96) rfl rfl ?_
  have hm := mul_b ha hb
  have hw : IntKind.i64.wrap (a * b) = a * b := w64 (by omega)
  have hw2 : IntKind.i64.wrap (a * b + 32768) = a * b + 32768 := w64 (by omega)
  simp [F96, w64_32 ha, w64_32 hb, hw, hw2]
  refine k_call ?_; simp
  refine c136 _ _ _ _ (by omega) (by omega) ?_
  try simp
  refine k_call ?_; simp
  refine c91 _ _ _ ?_
  first | exact hQ | (simp; exact hQ)
theorem c129 (a : Int) (ha : I32 a) (hQ : Q (fx (floorS a)) h) : wpC T 129 [fx a] h Q := by
  refine k_code (fn := F129) rfl rfl ?_
  have hf : a.fdiv 65536 = a / 65536 := Int.fdiv_eq_ediv_of_nonneg _ (by omega)
  have hw : IntKind.i32.wrap (a / 65536 * 65536) = a / 65536 * 65536 := wrap_i32 (floorS_I32 ha)
  simp [F129, intShift, IntKind.bits, hf, hw]
  exact hQ
theorem c97 (a : Int) (ha : I32 a) (hQ : Q (fx (floorS a)) h) : wpC T 97 [fx a] h Q := by
  refine k_code (fn := F97) rfl rfl ?_
  have hw : IntKind.i64.wrap (a / 65536 * 65536) = a / 65536 * 65536 := w64_32 (floorS_I32 ha)
  simp [F97, w64_32 ha]
  refine k_call ?_; simp
  refine c136 _ _ _ _ (by omega) (by unfold I32 at ha; omega) ?_
  simp [hw]
  refine k_call ?_; simp
  refine c91 _ _ _ ?_
  rw [sat_of (show I32 (a / 65536 * 65536) from floorS_I32 ha)]
  first | exact hQ | (simp; exact hQ)
theorem c142 (a : Int) (ha : I32 a) (hQ : Q (fx (fractS a)) h) : wpC T 142 [fx a] h Q := by
  refine k_code (fn := F142) rfl rfl ?_
  simp [F142]
  refine k_call ?_; simp
  refine c97 _ _ a ha ?_
  try simp
  refine k_call ?_; simp
  refine c95 _ _ _ _ ha (floorS_I32 ha) ?_
  have : subS a (floorS a) = fractS a := by unfold subS floorS fractS; rw [sat_of (by unfold I32; omega)]; omega
  rw [this]
  first | exact hQ | (simp; exact hQ)
theorem and_low {x : Int} : IntKind.i32.wrap ((BitVec.ofInt 32 x &&& BitVec.ofInt 32 65535).toNat : Int) = x % 65536 := by
  have h1 : (BitVec.ofInt 32 x &&& BitVec.ofInt 32 65535).toNat = (x % 65536).toNat := by
    rw [BitVec.toNat_and, BitVec.toNat_ofInt, BitVec.toNat_ofInt]
    rw [show ((65535 : Int) % ((2 ^ 32 : Nat) : Int)).toNat = 2 ^ 16 - 1 from by decide, Nat.and_two_pow_sub_one_eq_mod]
    omega
  rw [h1]
  have : ((x % 65536).toNat : Int) = x % 65536 := by omega
  rw [this]
  exact wrap_i32 (by unfold I32; omega)
theorem c130 (a : Int) (hQ : Q (fx (fractS a)) h) : wpC T 130 [fx a] h Q := by
  refine k_code (fn := F130) rfl rfl ?_
  have := and_low (x := a)
  simp only [fractS] at hQ
  rw [← this] at hQ
  simp [F130, IntKind.bits]
  exact hQ
theorem c128 (a : Int) (hQ : Q (fx (signS a)) h) : wpC T 128 [fx a] h Q := by
  refine k_code (fn := F128) rfl rfl ?_
  by_cases h1 : 0 < a
  · simp [signS, h1] at hQ; simp [F128, h1]; exact hQ
  · by_cases h2 : a < 0
    · simp [signS, h1, h2] at hQ; simp [F128, h1, h2]; exact hQ
    · simp [signS, h1, h2] at hQ; simp [F128, h1, h2]; exact hQ
end
end Go.Proofs.YtjlebgfbohihfaaGreat.Am

namespace Go.Proofs.YtjlebgfbohihfaaGreat.Am
open Go
set_option linter.unusedVariables false
set_option linter.unusedSimpArgs false

theorem w32 {n : Int} (h1 : -2147483648 ≤ n) (h2 : n ≤ 2147483647) : IntKind.i32.wrap n = n := wrap_i32 ⟨h1, h2⟩
theorem quo_b {x d : Int} (hx : 0 ≤ x) (hd : 0 < d) : 0 ≤ x / d ∧ x / d ≤ x ∧ x.tdiv d = x / d :=
  ⟨Int.ediv_nonneg hx (Int.le_of_lt hd), Int.ediv_le_self d hx, Int.tdiv_eq_ediv_of_nonneg hx⟩
theorem div_neg {n d : Int} (hn : -140737488355328 ≤ n ∧ n < 0) (hd : 0 < d ∧ d ≤ 2147483648) : ∃ q, q = (-2 * n + d) / (2 * d) ∧ IntKind.i64.wrap (-2 * n) = -2 * n ∧ IntKind.i64.wrap (-2 * n + d) = -2 * n + d ∧ IntKind.i64.wrap (2 * d) = 2 * d ∧
    (-2 * n + d).tdiv (2 * d) = q ∧ IntKind.i64.wrap q = q ∧ IntKind.i64.wrap (-q) = -q := by
  obtain ⟨q1, q2, q3⟩ := quo_b (x := -2 * n + d) (d := 2 * d) (by omega) (by omega)
  exact ⟨_, rfl, w64 (by omega), w64 (by omega), w64 (by omega), q3, w64 (by omega), w64 (by omega)⟩
theorem div_pos {n d : Int} (hn : 0 ≤ n ∧ n ≤ 140737488355328) (hd : 0 < d ∧ d ≤ 2147483648) : ∃ q, q = (2 * n + d) / (2 * d) ∧ IntKind.i64.wrap (2 * n) = 2 * n ∧ IntKind.i64.wrap (2 * n + d) = 2 * n + d ∧ IntKind.i64.wrap (2 * d) = 2 * d ∧
    (2 * n + d).tdiv (2 * d) = q ∧ IntKind.i64.wrap q = q := by
  obtain ⟨q1, q2, q3⟩ := quo_b (x := 2 * n + d) (d := 2 * d) (by omega) (by omega)
  exact ⟨_, rfl, w64 (by omega), w64 (by omega), w64 (by omega), q3, w64 (by omega)⟩
section
variable (h : Hp) (Q : CallQ)
theorem c79 (a b : Int) (ha : I32 a) (hb : I32 b) (hQ : Q (fx (divS a b)) h) : wpC T 79 [fx a, fx b] h Q := by
  refine k_code (fn := F79) rfl rfl ?_
  obtain ⟨a1, a2⟩ := ha
  obtain ⟨b1, b2⟩ := hb
  unfold divS at hQ
  have hn : IntKind.i64.wrap (a * 65536) = a * 65536 := w64 (by omega)
  have hnn : IntKind.i64.wrap (-(a * 65536)) = -(a * 65536) := w64 (by omega)
  have hbw : IntKind.i64.wrap b = b := w64 (by omega)
  have haw : IntKind.i64.wrap a = a := w64 (by omega)
  have hbn : IntKind.i64.wrap (-b) = -b := w64 (by omega)
  by_cases b0 : b = 0
  · subst b0
    by_cases h1 : 0 < a
    · simp [h1] at hQ
      simp [F79, intShift, IntKind.bits, haw, hn, show 0 < a * 65536 from by omega]
      first | exact hQ | (simp; exact hQ)
    · by_cases h2 : a < 0
      · simp [h1, h2] at hQ
        simp [F79, intShift, IntKind.bits, haw, hn, show ¬ 0 < a * 65536 from by omega, show a * 65536 < 0 from by omega]
        first | exact hQ | (simp; exact hQ)
      · have : a = 0 := by omega
        subst this
        simp at hQ
        simp [F79, intShift, IntKind.bits]
        first | exact hQ | (simp; exact hQ)
  rw [if_neg b0] at hQ
  by_cases bn : b < 0
  · rw [if_pos bn] at hQ
    obtain ⟨n, hnE⟩ : ∃ n, n = -(a * 65536) := ⟨_, rfl⟩
    obtain ⟨d, hdE⟩ : ∃ d, d = -b := ⟨_, rfl⟩
    have hnn' := hnn.trans hnE.symm
    have hbn' := hbn.trans hdE.symm
    by_cases ap : 0 < a
    · rw [if_pos ap] at hQ
      obtain ⟨q, hq, f1, f2, f3, f4, f5, f6⟩ := div_neg (n := n) (d := d) (by omega) (by omega)
      have hq' : (2 * (a * 65536) + -b) / (2 * -b) = q := by rw [hq]; congr 1 <;> omega
      rw [hq'] at hQ
      simp [F79, intShift, IntKind.bits, b0, bn, haw, hbw, hn, hnn', hbn', f1, f2, f3, f4, f5, f6, show n < 0 from by omega, show ¬ d = 0 from by omega, show ¬ 2 * d = 0 from by omega, show ¬ d < 0 from by omega, show ¬ 0 < n from by omega]
      refine k_call ?_; simp
      refine c82 _ _ _ ?_
      first | exact hQ | (simp; exact hQ)
    · rw [if_neg ap] at hQ
      obtain ⟨q, hq, f1, f2, f3, f4, f5⟩ := div_pos (n := n) (d := d) (by omega) (by omega)
      have hq' : (2 * -(a * 65536) + -b) / (2 * -b) = q := by rw [hq]; congr 1 <;> omega
      rw [hq'] at hQ
      simp [F79, intShift, IntKind.bits, b0, bn, haw, hbw, hn, hnn', hbn', f1, f2, f3, f4, f5, show ¬ n < 0 from by omega, show ¬ d = 0 from by omega, show ¬ 2 * d = 0 from by omega, show ¬ d < 0 from by omega]
      refine k_call ?_; simp
      refine c82 _ _ _ ?_
      first | exact hQ | (simp; exact hQ)
  · rw [if_neg bn] at hQ
    obtain ⟨n, hnE⟩ : ∃ n, n = a * 65536 := ⟨_, rfl⟩
    obtain ⟨d, hdE⟩ : ∃ d, d = b := ⟨_, rfl⟩
    have hn' := hn.trans hnE.symm
    have hbw' := hbw.trans hdE.symm
    by_cases an : a < 0
    · rw [if_pos an] at hQ
      obtain ⟨q, hq, f1, f2, f3, f4, f5, f6⟩ := div_neg (n := n) (d := d) (by omega) (by omega)
      have hq' : (2 * -(a * 65536) + b) / (2 * b) = q := by rw [hq]; congr 1 <;> omega
      rw [hq'] at hQ
      simp [F79, intShift, IntKind.bits, b0, bn, haw, hn', hbw', f1, f2, f3, f4, f5, f6, show n < 0 from by omega, show ¬ d = 0 from by omega, show ¬ 2 * d = 0 from by omega, show ¬ d < 0 from by omega, show ¬ 0 < n from by omega]
      refine k_call ?_; simp
      refine c82 _ _ _ ?_
      first | exact hQ | (simp; exact hQ)
    · rw [if_neg an] at hQ
      obtain ⟨q, hq, f1, f2, f3, f4, f5⟩ := div_pos (n := n) (d := d) (by omega) (by omega)
      have hq' : (2 * (a * 65536) + b) / (2 * b) = q := by rw [hq]; congr 1 <;> omega
      rw [hq'] at hQ
      simp [F79, intShift, IntKind.bits, b0, bn, haw, hn', hbw', f1, f2, f3, f4, f5, show ¬ n < 0 from by omega, show ¬ d = 0 from by omega, show ¬ 2 * d = 0 from by omega, show ¬ d < 0 from by omega]
      refine k_call ?_; simp
      refine c82 _ _ _ ?_
      first | exact hQ | (simp; exact hQ)
theorem round_up {N D : Int} (hN : 0 ≤ N) (hD : 0 < D) : (2 * N + D) / (2 * D) = N / D + (if D ≤ 2 * (N % D) then 1 else 0) := by
  have h1 := Int.emod_nonneg N (show D ≠ 0 by omega)
  have h2 := Int.emod_lt_of_pos N hD
  have h3 := Int.mul_ediv_add_emod N D
  have e : 2 * N + D = (2 * (N % D) + D) + 2 * D * (N / D) := by
    have : 2 * D * (N / D) = 2 * (D * (N / D)) := Int.mul_assoc ..
    omega
  rw [e, Int.add_mul_ediv_left _ _ (show 2 * D ≠ 0 by omega)]
  split
  · have : (2 * (N % D) + D) / (2 * D) = 1 := by
      have e2 : 2 * (N % D) + D = (2 * (N % D) - D) + 2 * D * 1 := by omega
      rw [e2, Int.add_mul_ediv_left _ _ (show 2 * D ≠ 0 by omega), Int.ediv_eq_zero_of_lt (by omega) (by omega)]
      rfl
    omega
  · have : (2 * (N % D) + D) / (2 * D) = 0 := Int.ediv_eq_zero_of_lt (by omega) (by omega)
    omega
theorem c88 (a b : Int) (ha : I32 a) (hb : I32 b) (hQ : Q (fx (divS a b)) h) : wpC T 88 [fx a, fx b] h Q := by
  refine k_code (fn := F88) rfl rfl ?_
  obtain ⟨a1, a2⟩ := ha
  obtain ⟨b1, b2⟩ := hb
  unfold divS at hQ
  have hbw : IntKind.i64.wrap b = b := w64 (by omega)
  have haw : IntKind.i64.wrap a = a := w64 (by omega)
  by_cases b0 : b = 0
  · subst b0
    by_cases h1 : 0 < a
    · simp [h1] at hQ
      simp [F88, h1]
      first | exact hQ | (simp; exact hQ)
    · by_cases h2 : a < 0
      · simp [h1, h2] at hQ
        simp [F88, h1, h2]
        first | exact hQ | (simp; exact hQ)
      · have : a = 0 := by omega
        subst this
        simp at hQ
        simp [F88]
        first | exact hQ | (simp; exact hQ)
  rw [if_neg b0] at hQ
  obtain ⟨n, hnE⟩ : ∃ n, n = a * 65536 := ⟨_, rfl⟩
  have hn : IntKind.i64.wrap (a * 65536) = n := (w64 (by omega)).trans hnE.symm
  by_cases bn : b < 0
  · rw [if_pos bn] at hQ
    by_cases a0 : a = 0
    · subst a0
      have e0 : (2 * -((0 : Int) * 65536) + -b) / (2 * -b) = 0 := Int.ediv_eq_zero_of_lt (by omega) (by omega)
      rw [if_neg (by omega), e0] at hQ
      have hDw : IntKind.i64.wrap (-b) = -b := w64 (by omega)
      simp [F88, hbw, b0, bn, hDw, show ¬ -b ≤ 0 from by omega]
      refine k_call ?_; simp
      refine c91 _ _ _ ?_
      first | exact hQ | (simp; exact hQ)
    by_cases ap : 0 < a
    · rw [if_pos ap] at hQ
      obtain ⟨N, hN⟩ : ∃ N, N = n := ⟨_, rfl⟩
      obtain ⟨D, hD⟩ : ∃ D, D = -b := ⟨_, rfl⟩
      obtain ⟨q1, q2, q3⟩ := quo_b (x := N) (d := D) (by omega) (by omega)
      have hr3 : N.tmod D = N % D := Int.tmod_eq_emod_of_nonneg (by omega)
      have hr1 := Int.emod_nonneg N (show D ≠ 0 by omega)
      have hr2 := Int.emod_lt_of_pos N (show 0 < D by omega)
      have hro := round_up (N := N) (D := D) (by omega) (by omega)
      have hDw : IntKind.i64.wrap (-b) = D := (w64 (by omega)).trans hD.symm
      subst hN
      obtain ⟨q, hq⟩ : ∃ q, q = N / D := ⟨_, rfl⟩
      rw [← hq] at q1 q2 q3 hro
      have he : (2 * (a * 65536) + -b) / (2 * -b) = (2 * N + D) / (2 * D) := by congr 1 <;> omega
      rw [he, hro] at hQ
      obtain ⟨r, hrE⟩ : ∃ r, r = N % D := ⟨_, rfl⟩
      rw [← hrE] at hr1 hr2 hr3 hQ
      have g1 : IntKind.i64.wrap q = q := w64 (by omega)
      have g2 : IntKind.i64.wrap (2 * r) = 2 * r := w64 (by omega)
      have g3 : IntKind.i64.wrap (q + 1) = q + 1 := w64 (by omega)
      have g4 : IntKind.i64.wrap (-q) = -q := w64 (by omega)
      have g5 : IntKind.i64.wrap (-(q + 1)) = -(q + 1) := w64 (by omega)
      by_cases up : D ≤ 2 * r
      · rw [if_pos up] at hQ
        simp [F88, haw, hbw, hn, b0, show ¬ N < 0 from by omega, hDw, bn, q3, hr3, g1, g2, g3, g4, g5, show ¬ D = 0 from by omega, up]
        refine k_call ?_; simp
        refine c91 _ _ _ ?_
        first | exact hQ | (simp; exact hQ)
      · rw [if_neg up] at hQ
        simp [F88, haw, hbw, hn, b0, show ¬ N < 0 from by omega, hDw, bn, q3, hr3, g1, g2, g3, g4, g5, show ¬ D = 0 from by omega, up]
        refine k_call ?_; simp
        refine c91 _ _ _ ?_
        rw [Int.add_zero] at hQ
        first | exact hQ | (simp; exact hQ)
    · rw [if_neg ap] at hQ
      obtain ⟨N, hN⟩ : ∃ N, N = -n := ⟨_, rfl⟩
      obtain ⟨D, hD⟩ : ∃ D, D = -b := ⟨_, rfl⟩
      obtain ⟨q1, q2, q3⟩ := quo_b (x := N) (d := D) (by omega) (by omega)
      have hr3 : N.tmod D = N % D := Int.tmod_eq_emod_of_nonneg (by omega)
      have hr1 := Int.emod_nonneg N (show D ≠ 0 by omega)
      have hr2 := Int.emod_lt_of_pos N (show 0 < D by omega)
      have hro := round_up (N := N) (D := D) (by omega) (by omega)
      have hNw : IntKind.i64.wrap (-n) = N := (w64 (by omega)).trans hN.symm
      have hDw : IntKind.i64.wrap (-b) = D := (w64 (by omega)).trans hD.symm
      obtain ⟨q, hq⟩ : ∃ q, q = N / D := ⟨_, rfl⟩
      rw [← hq] at q1 q2 q3 hro
      have he : (2 * -(a * 65536) + -b) / (2 * -b) = (2 * N + D) / (2 * D) := by congr 1 <;> omega
      rw [he, hro] at hQ
      obtain ⟨r, hrE⟩ : ∃ r, r = N % D := ⟨_, rfl⟩
      rw [← hrE] at hr1 hr2 hr3 hQ
      have g1 : IntKind.i64.wrap q = q := w64 (by omega)
      have g2 : IntKind.i64.wrap (2 * r) = 2 * r := w64 (by omega)
      have g3 : IntKind.i64.wrap (q + 1) = q + 1 := w64 (by omega)
      have g4 : IntKind.i64.wrap (-q) = -q := w64 (by omega)
      have g5 : IntKind.i64.wrap (-(q + 1)) = -(q + 1) := w64 (by omega)
      by_cases up : D ≤ 2 * r
      · rw [if_pos up] at hQ
        simp [F88, haw, hbw, hn, b0, hNw, show n < 0 from by omega, hDw, bn, q3, hr3, g1, g2, g3, g4, g5, show ¬ D = 0 from by omega, up]
        refine k_call ?_; simp
        refine c91 _ _ _ ?_
        first | exact hQ | (simp; exact hQ)
      · rw [if_neg up] at hQ
        simp [F88, haw, hbw, hn, b0, hNw, show n < 0 from by omega, hDw, bn, q3, hr3, g1, g2, g3, g4, g5, show ¬ D = 0 from by omega, up]
        refine k_call ?_; simp
        refine c91 _ _ _ ?_
        rw [Int.add_zero] at hQ
        first | exact hQ | (simp; exact hQ)
  · rw [if_neg bn] at hQ
    by_cases an : a < 0
    · rw [if_pos an] at hQ
      obtain ⟨N, hN⟩ : ∃ N, N = -n := ⟨_, rfl⟩
      obtain ⟨D, hD⟩ : ∃ D, D = b := ⟨_, rfl⟩
      obtain ⟨q1, q2, q3⟩ := quo_b (x := N) (d := D) (by omega) (by omega)
      have hr3 : N.tmod D = N % D := Int.tmod_eq_emod_of_nonneg (by omega)
      have hr1 := Int.emod_nonneg N (show D ≠ 0 by omega)
      have hr2 := Int.emod_lt_of_pos N (show 0 < D by omega)
      have hro := round_up (N := N) (D := D) (by omega) (by omega)
      have hNw : IntKind.i64.wrap (-n) = N := (w64 (by omega)).trans hN.symm
      subst hD
      obtain ⟨q, hq⟩ : ∃ q, q = N / D := ⟨_, rfl⟩
      rw [← hq] at q1 q2 q3 hro
      have he : (2 * -(a * 65536) + D) / (2 * D) = (2 * N + D) / (2 * D) := by congr 1 <;> omega
      rw [he, hro] at hQ
      obtain ⟨r, hrE⟩ : ∃ r, r = N % D := ⟨_, rfl⟩
      rw [← hrE] at hr1 hr2 hr3 hQ
      have g1 : IntKind.i64.wrap q = q := w64 (by omega)
      have g2 : IntKind.i64.wrap (2 * r) = 2 * r := w64 (by omega)
      have g3 : IntKind.i64.wrap (q + 1) = q + 1 := w64 (by omega)
      have g4 : IntKind.i64.wrap (-q) = -q := w64 (by omega)
      have g5 : IntKind.i64.wrap (-(q + 1)) = -(q + 1) := w64 (by omega)
      by_cases up : D ≤ 2 * r
      · rw [if_pos up] at hQ
        simp [F88, haw, hbw, hn, b0, hNw, show n < 0 from by omega, bn, q3, hr3, g1, g2, g3, g4, g5, show ¬ D = 0 from by omega, up]
        refine k_call ?_; simp
        refine c91 _ _ _ ?_
        first | exact hQ | (simp; exact hQ)
      · rw [if_neg up] at hQ
        simp [F88, haw, hbw, hn, b0, hNw, show n < 0 from by omega, bn, q3, hr3, g1, g2, g3, g4, g5, show ¬ D = 0 from by omega, up]
        refine k_call ?_; simp
        refine c91 _ _ _ ?_
        rw [Int.add_zero] at hQ
        first | exact hQ | (simp; exact hQ)
    · rw [if_neg an] at hQ
      obtain ⟨N, hN⟩ : ∃ N, N = n := ⟨_, rfl⟩
      obtain ⟨D, hD⟩ : ∃ D, D = b := ⟨_, rfl⟩
      obtain ⟨q1, q2, q3⟩ := quo_b (x := N) (d := D) (by omega) (by omega)
      have hr3 : N.tmod D = N % D := Int.tmod_eq_emod_of_nonneg (by omega)
      have hr1 := Int.emod_nonneg N (show D ≠ 0 by omega)
      have hr2 := Int.emod_lt_of_pos N (show 0 < D by omega)
      have hro := round_up (N := N) (D := D) (by omega) (by omega)
      subst hN
      subst hD
      obtain ⟨q, hq⟩ : ∃ q, q = N / D := ⟨_, rfl⟩
      rw [← hq] at q1 q2 q3 hro
      have he : (2 * (a * 65536) + D) / (2 * D) = (2 * N + D) / (2 * D) := by congr 1 <;> omega
      rw [he, hro] at hQ
      obtain ⟨r, hrE⟩ : ∃ r, r = N % D := ⟨_, rfl⟩
      rw [← hrE] at hr1 hr2 hr3 hQ
      have g1 : IntKind.i64.wrap q = q := w64 (by omega)
      have g2 : IntKind.i64.wrap (2 * r) = 2 * r := w64 (by omega)
      have g3 : IntKind.i64.wrap (q + 1) = q + 1 := w64 (by omega)
      have g4 : IntKind.i64.wrap (-q) = -q := w64 (by omega)
      have g5 : IntKind.i64.wrap (-(q + 1)) = -(q + 1) := w64 (by omega)
      by_cases up : D ≤ 2 * r
      · rw [if_pos up] at hQ
        simp [F88, haw, hbw, hn, b0, show ¬ N < 0 from by omega, bn, q3, hr3, g1, g2, g3, g4, g5, show ¬ D = 0 from by omega, up]
        refine k_call ?_; simp
        refine c91 _ _ _ ?_
        first | exact hQ | (simp; exact hQ)
      · rw [if_neg up] at hQ
        simp [F88, haw, hbw, hn, b0, show ¬ N < 0 from by omega, bn, q3, hr3, g1, g2, g3, g4, g5, show ¬ D = 0 from by omega, up]
        refine k_call ?_; simp
        refine c91 _ _ _ ?_
        rw [Int.add_zero] at hQ
        first | exact hQ | (simp; exact hQ)
end
end Go.Proofs.YtjlebgfbohihfaaGreat.Am

namespace Go.Proofs.YtjlebgfbohihfaaGreat.Am
open Go
set_option linter.unusedVariables false
set_option linter.unusedSimpArgs false

/-- What is done to two numbers. -/
def twoS (op : Int) (a b : Int) : Int :=
  if op = 0 then addS a b else if op = 1 then subS a b else if op = 2 then mulS a b else if op = 3 then divS a b else if op = 4 then (if b < a then b else a)
  else if op = 5 then (if b > a then b else a) else if op = 6 then modS a b else if b < a then 0 else 65536
/-- What is done to one. -/
def oneS (op : Int) (a : Int) : Int :=
  if op = 0 then negS a else if op = 1 then absS a else if op = 3 then floorS a else if op = 4 then fractS a else signS a
theorem mulS_I32 (a b : Int) : I32 (mulS a b) := sat_I32 _
theorem addS_I32 (a b : Int) : I32 (addS a b) := sat_I32 _
theorem subS_I32 (a b : Int) : I32 (subS a b) := sat_I32 _
theorem negS_I32 (a : Int) : I32 (negS a) := sat_I32 _
theorem twoS_I32 {op a b : Int} (ha : I32 a) (hb : I32 b) : I32 (twoS op a b) := by
  unfold twoS
  repeat' split
  all_goals first | exact sat_I32 _ | exact divS_I32 a b | exact ha | exact hb | (unfold I32; omega)
theorem oneS_I32 {op a : Int} (ha : I32 a) : I32 (oneS op a) := by
  unfold oneS
  repeat' split
  · exact sat_I32 _
  · unfold absS; split
    · exact sat_I32 _
    · exact ha
  · exact floorS_I32 ha
  · unfold fractS I32; omega
  · unfold signS I32; repeat' split <;> omega
def opN (op : Int) (k : Nat) : Prop := 0 ≤ op ∧ op < k
section
variable (h : Hp) (Q : CallQ)
theorem c125 (a b : Int) (ha : I32 a) (hb : I32 b) (hQ : Q (fx (modS a b)) h) : wpC T 125 [fx a, fx b] h Q := by
  refine k_code (fn := F125) rfl rfl ?_
  simp [F125]
  refine k_call ?_; simp
  refine c79 _ _ a b ha hb ?_
  try simp
  refine k_call ?_; simp
  refine c129 _ _ _ (divS_I32 a b) ?_
  try simp
  refine k_call ?_; simp
  refine c72 _ _ b _ hb (floorS_I32 (divS_I32 a b)) ?_
  try simp
  refine k_call ?_; simp
  refine c76 _ _ a _ ha (mulS_I32 _ _) ?_
  first | exact hQ | (simp; exact hQ)
theorem op8 {op : Int} (ho : 0 ≤ op ∧ op < 8) : op = 0 ∨ op = 1 ∨ op = 2 ∨ op = 3 ∨ op = 4 ∨ op = 5 ∨ op = 6 ∨ op = 7 := by omega
theorem op5 {op : Int} (ho : 0 ≤ op ∧ op < 5) : op = 0 ∨ op = 1 ∨ op = 2 ∨ op = 3 ∨ op = 4 := by omega
theorem c65 (op a b : Int) (ho : 0 ≤ op ∧ op < 8) (ha : I32 a) (hb : I32 b) (hQ : Q (.tup [.inl (.int .i32 (twoS op a b)), .inl (.bool true)]) h) : wpC T 65 [i64 op, fx a, fx b] h Q := by
  refine k_code (fn := F65) rfl rfl ?_
  rcases op8 ho with rfl | rfl | rfl | rfl | rfl | rfl | rfl | rfl
  · simp [twoS] at hQ; simp [F65]; refine k_call ?_; simp; refine c75 _ _ a b ha hb ?_; first | exact hQ | (simp; exact hQ)
  · simp [twoS] at hQ; simp [F65]; refine k_call ?_; simp; refine c76 _ _ a b ha hb ?_; first | exact hQ | (simp; exact hQ)
  · simp [twoS] at hQ; simp [F65]; refine k_call ?_; simp; refine c72 _ _ a b ha hb ?_; first | exact hQ | (simp; exact hQ)
  · simp [twoS] at hQ; simp [F65]; refine k_call ?_; simp; refine c79 _ _ a b ha hb ?_; first | exact hQ | (simp; exact hQ)
  · simp [twoS] at hQ; simp [F65]; exact hQ
  · simp [twoS] at hQ; simp [F65]; exact hQ
  · simp [twoS] at hQ; simp [F65]; refine k_call ?_; simp; refine c125 _ _ a b ha hb ?_; first | exact hQ | (simp; exact hQ)
  · by_cases hba : a ≤ b
    · simp [twoS, show ¬ b < a from by omega] at hQ; simp [F65, hba]; exact hQ
    · simp [twoS, show b < a from by omega] at hQ; simp [F65, hba]; exact hQ
theorem c49 (op a b : Int) (ho : 0 ≤ op ∧ op < 8) (ha : I32 a) (hb : I32 b) (hQ : Q (fx (twoS op a b)) h) : wpC T 49 [i64 op, fx a, fx b] h Q := by
  refine k_code (fn := F49) rfl rfl ?_
  rcases op8 ho with rfl | rfl | rfl | rfl | rfl | rfl | rfl | rfl
  · simp [twoS] at hQ; simp [F49]; refine k_call ?_; simp; refine c90 _ _ a b ha hb ?_; first | exact hQ | (simp; exact hQ)
  · simp [twoS] at hQ; simp [F49]; refine k_call ?_; simp; refine c95 _ _ a b ha hb ?_; first | exact hQ | (simp; exact hQ)
  · simp [twoS] at hQ; simp [F49]; refine k_call ?_; simp; refine c96 _ _ a b ha hb ?_; first | exact hQ | (simp; exact hQ)
  · simp [twoS] at hQ; simp [F49]; refine k_call ?_; simp; refine c88 _ _ a b ha hb ?_; first | exact hQ | (simp; exact hQ)
  · by_cases h1 : a < b
    · simp [twoS, show ¬ b < a from by omega] at hQ; simp [F49, h1]; exact hQ
    · by_cases h2 : b < a
      · simp [twoS, h2] at hQ; simp [F49, h1]; exact hQ
      · have : a = b := by omega
        subst this; simp [twoS] at hQ; simp [F49]; exact hQ
  · by_cases h1 : b < a
    · simp [twoS, show ¬ a < b from by omega] at hQ; simp [F49, h1]; exact hQ
    · by_cases h2 : a < b
      · simp [twoS, h2] at hQ; simp [F49, h1]; exact hQ
      · have : a = b := by omega
        subst this; simp [twoS] at hQ; simp [F49]; exact hQ
  · simp [twoS] at hQ; simp [F49]
    refine k_call ?_; simp
    refine c88 _ _ a b ha hb ?_
    try simp
    refine k_call ?_; simp
    refine c97 _ _ _ (divS_I32 a b) ?_
    try simp
    refine k_call ?_; simp
    refine c96 _ _ b _ hb (floorS_I32 (divS_I32 a b)) ?_
    try simp
    refine k_call ?_; simp
    refine c95 _ _ a _ ha (mulS_I32 _ _) ?_
    first | exact hQ | (simp; exact hQ)
  · by_cases hba : b < a
    · simp [twoS, hba] at hQ; simp [F49, hba]; exact hQ
    · simp [twoS, hba] at hQ; simp [F49, hba]; exact hQ
theorem c69 (op a : Int) (ho : 0 ≤ op ∧ op < 5) (ha : I32 a) (hQ : Q (.tup [.inl (.int .i32 (oneS op a)), .inl (.bool true)]) h) : wpC T 69 [i64 op, fx a] h Q := by
  refine k_code (fn := F69) rfl rfl ?_
  rcases op5 ho with rfl | rfl | rfl | rfl | rfl
  · simp [oneS] at hQ; simp [F69]; refine k_call ?_; simp; refine c126 _ _ a ha ?_; first | exact hQ | (simp; exact hQ)
  · simp [oneS] at hQ; simp [F69]; refine k_call ?_; simp; refine c127 _ _ a ha ?_; first | exact hQ | (simp; exact hQ)
  · simp [oneS] at hQ; simp [F69]; refine k_call ?_; simp; refine c128 _ _ a ?_; first | exact hQ | (simp; exact hQ)
  · simp [oneS] at hQ; simp [F69]; refine k_call ?_; simp; refine c129 _ _ a ha ?_; first | exact hQ | (simp; exact hQ)
  · simp [oneS] at hQ; simp [F69]; refine k_call ?_; simp; refine c130 _ _ a ?_; first | exact hQ | (simp; exact hQ)
theorem c104 (op a : Int) (ho : 0 ≤ op ∧ op < 5) (ha : I32 a) (hQ : Q (fx (oneS op a)) h) : wpC T 104 [i64 op, fx a] h Q := by
  refine k_code (fn := F104) rfl rfl ?_
  rcases op5 ho with rfl | rfl | rfl | rfl | rfl
  · simp [oneS] at hQ; simp [F104]; refine k_call ?_; simp; refine c50 _ _ a ha ?_; first | exact hQ | (simp; exact hQ)
  · simp [oneS] at hQ; simp [F104]; refine k_call ?_; simp; refine c141 _ _ a ha ?_; first | exact hQ | (simp; exact hQ)
  · by_cases h1 : 0 < a
    · simp [oneS, signS, h1] at hQ; simp [F104, h1]; exact hQ
    · by_cases h2 : a < 0
      · simp [oneS, signS, h1, h2] at hQ; simp [F104, h1, h2]; exact hQ
      · simp [oneS, signS, h1, h2] at hQ; simp [F104, h1, h2]; exact hQ
  · simp [oneS] at hQ; simp [F104]; refine k_call ?_; simp; refine c97 _ _ a ha ?_; first | exact hQ | (simp; exact hQ)
  · simp [oneS] at hQ; simp [F104]; refine k_call ?_; simp; refine c142 _ _ a ha ?_; first | exact hQ | (simp; exact hQ)
/-- A whole number modulo 2 ^ 32. -/
def wrS (x : Int) : Int := IntKind.i32.wrap x
theorem c64 (x : Int) (hQ : Q (fx (wrS x)) h) : wpC T 64 [i64 x] h Q := by
  refine k_code (fn := F64) rfl rfl ?_
  have : IntKind.i32.wrap (IntKind.u32.wrap x) = wrS x := by simp [wrS, IntKind.wrap, IntKind.bits, IntKind.signed]
  simp [F64, this]; exact hQ
theorem c94 (x : Int) (hx : -9223372036854775808 ≤ x ∧ x ≤ 9223372036854775807) (hQ : Q (fx (wrS x)) h) : wpC T 94 [i64 x] h Q := by
  refine k_code (fn := F94) rfl rfl ?_
  obtain ⟨y, hy⟩ : ∃ y, x.tmod 4294967296 = y := ⟨_, rfl⟩
  have hm : (y = x % 4294967296 ∨ y = x % 4294967296 - 4294967296) := by
    rw [← hy, Int.tmod_eq_emod]
    split
    · left; omega
    · right; simp
  have hw : wrS x = if x % 4294967296 ≥ 2147483648 then x % 4294967296 - 4294967296 else x % 4294967296 := by
    simp [wrS, IntKind.wrap, IntKind.bits, IntKind.signed]
  by_cases y1 : y < -2147483648
  · have e1 : IntKind.i64.wrap (y + 4294967296) = y + 4294967296 := w64 (by omega)
    have e2 : IntKind.i32.wrap (y + 4294967296) = y + 4294967296 := w32 (by omega) (by omega)
    have e3 : wrS x = y + 4294967296 := by rw [hw]; split <;> omega
    rw [e3] at hQ
    simp [F94, hy, y1, e1, e2, show ¬ 2147483647 < y + 4294967296 from by omega]
    exact hQ
  · by_cases y2 : 2147483647 < y
    · have e1 : IntKind.i64.wrap (y - 4294967296) = y - 4294967296 := w64 (by omega)
      have e2 : IntKind.i32.wrap (y - 4294967296) = y - 4294967296 := w32 (by omega) (by omega)
      have e3 : wrS x = y - 4294967296 := by rw [hw]; split <;> omega
      rw [e3] at hQ
      simp [F94, hy, y1, y2, e1, e2]
      exact hQ
    · have e2 : IntKind.i32.wrap y = y := w32 (by omega) (by omega)
      have e3 : wrS x = y := by rw [hw]; split <;> omega
      rw [e3] at hQ
      simp [F94, hy, y1, y2, e2]
      exact hQ
end
end Go.Proofs.YtjlebgfbohihfaaGreat.Am

namespace Go.Proofs.YtjlebgfbohihfaaGreat.Am
open Go
set_option linter.unusedVariables false
set_option linter.unusedSimpArgs false

def wholeS (fn a b : Int) : Int :=
  if fn = 24 then wrS (a + b) else if fn = 25 then wrS (a - b) else if fn = 26 then wrS (a * b) else if fn = 28 then wrS (-a) else if b = 0 then 0 else wrS (a.tdiv b)
theorem wrS_I32 (x : Int) : I32 (wrS x) := by
  simp [wrS, IntKind.wrap, IntKind.bits, IntKind.signed, I32]; split <;> omega
theorem wholeS_I32 (fn a b : Int) : I32 (wholeS fn a b) := by
  unfold wholeS
  repeat' split
  all_goals first | exact wrS_I32 _ | (unfold I32; omega)
theorem tdiv_b {a b : Int} (ha : I32 a) : -2147483648 ≤ a.tdiv b ∧ a.tdiv b ≤ 2147483648 := by
  have h1 : (a.tdiv b).natAbs ≤ a.natAbs := by rw [Int.natAbs_tdiv]; exact Nat.div_le_self _ _
  unfold I32 at ha; omega
theorem op28 {fn : Int} (hf : 24 ≤ fn ∧ fn ≤ 28) : fn = 24 ∨ fn = 25 ∨ fn = 26 ∨ fn = 27 ∨ fn = 28 := by omega
section
variable (h : Hp) (Q : CallQ)
theorem c27 (fn a b : Int) (hf : 24 ≤ fn ∧ fn ≤ 28) (ha : I32 a) (hb : I32 b) (hQ : Q (fx (wholeS fn a b)) h) : wpC T 27 [i64 fn, fx a, fx b] h Q := by
  refine k_code (fn := F27) rfl rfl ?_
  have aw := w64_32 ha
  have bw := w64_32 hb
  have hm := mul_b ha hb
  have ht := tdiv_b (b := b) ha
  have e1 : IntKind.i64.wrap (a + b) = a + b := w64 (by unfold I32 at *; omega)
  have e2 : IntKind.i64.wrap (a - b) = a - b := w64 (by unfold I32 at *; omega)
  have e3 : IntKind.i64.wrap (a * b) = a * b := w64 (by omega)
  have e4 : IntKind.i64.wrap (a.tdiv b) = a.tdiv b := w64 (by omega)
  have e5 : IntKind.i64.wrap (-a) = -a := w64 (by unfold I32 at *; omega)
  rcases op28 hf with rfl | rfl | rfl | rfl | rfl
  · simp [wholeS] at hQ; simp [F27, aw, bw, e1]; refine k_call ?_; simp; refine c64 _ _ _ ?_; first | exact hQ | (simp; exact hQ)
  · simp [wholeS] at hQ; simp [F27, aw, bw, e2]; refine k_call ?_; simp; refine c64 _ _ _ ?_; first | exact hQ | (simp; exact hQ)
  · simp [wholeS] at hQ; simp [F27, aw, bw, e3]; refine k_call ?_; simp; refine c64 _ _ _ ?_; first | exact hQ | (simp; exact hQ)
  · by_cases b0 : b = 0
    · simp [wholeS, b0] at hQ; simp [F27, aw, bw, b0]; exact hQ
    · simp [wholeS, b0] at hQ; simp [F27, aw, bw, b0, e4]; refine k_call ?_; simp; refine c64 _ _ _ ?_; first | exact hQ | (simp; exact hQ)
  · simp [wholeS] at hQ; simp [F27, aw, bw, e5]; refine k_call ?_; simp; refine c64 _ _ _ ?_; first | exact hQ | (simp; exact hQ)
theorem c48 (fn a b : Int) (hf : 24 ≤ fn ∧ fn ≤ 28) (ha : I32 a) (hb : I32 b) (hQ : Q (fx (wholeS fn a b)) h) : wpC T 48 [i64 fn, i64 a, i64 b] h Q := by
  refine k_code (fn := F48) rfl rfl ?_
  have hm := mul_b ha hb
  have ht := tdiv_b (b := b) ha
  unfold I32 at ha hb
  have e1 : IntKind.i64.wrap (a + b) = a + b := w64 (by omega)
  have e2 : IntKind.i64.wrap (a - b) = a - b := w64 (by omega)
  have e3 : IntKind.i64.wrap (a * b) = a * b := w64 (by omega)
  have e4 : IntKind.i64.wrap (a.tdiv b) = a.tdiv b := w64 (by omega)
  have e5 : IntKind.i64.wrap (-a) = -a := w64 (by omega)
  rcases op28 hf with rfl | rfl | rfl | rfl | rfl
  · simp [wholeS] at hQ; simp [F48, e1]; refine k_call ?_; simp; refine c94 _ _ _ (by omega) ?_; first | exact hQ | (simp; exact hQ)
  · simp [wholeS] at hQ; simp [F48, e2]; refine k_call ?_; simp; refine c94 _ _ _ (by omega) ?_; first | exact hQ | (simp; exact hQ)
  · simp [wholeS] at hQ; simp [F48, e3]; refine k_call ?_; simp; refine c94 _ _ _ (by omega) ?_; first | exact hQ | (simp; exact hQ)
  · by_cases b0 : b = 0
    · simp [wholeS, b0] at hQ; simp [F48, b0]; exact hQ
    · simp [wholeS, b0] at hQ; simp [F48, b0, e4]; refine k_call ?_; simp; refine c94 _ _ _ (by omega) ?_; first | exact hQ | (simp; exact hQ)
  · simp [wholeS] at hQ; simp [F48, e5]; refine k_call ?_; simp; refine c94 _ _ _ (by omega) ?_; first | exact hQ | (simp; exact hQ)
end

/-! ### Roots -/
def isRoot (n r : Nat) : Prop := r * r ≤ n ∧ n < (r + 1) * (r + 1)
theorem isRoot_unique {n r s : Nat} (h : isRoot n r) (h' : isRoot n s) : r = s := by
  rcases Nat.lt_trichotomy r s with hl | he | hl
  · have := Nat.mul_le_mul (show r + 1 ≤ s from hl) (show r + 1 ≤ s from hl)
    have h1 := h.2; have h2 := h'.1; omega
  · exact he
  · have := Nat.mul_le_mul (show s + 1 ≤ r from hl) (show s + 1 ≤ r from hl)
    have h1 := h'.2; have h2 := h.1; omega
open Classical in
noncomputable def rootS (n : Nat) : Nat := if h : ∃ r, isRoot n r then Classical.choose h else 0
theorem rootS_of {n r : Nat} (h : isRoot n r) : rootS n = r := by
  have hex : ∃ r, isRoot n r := ⟨r, h⟩
  unfold rootS
  rw [dif_pos hex]
  exact isRoot_unique (Classical.choose_spec hex) h
abbrev u64 (x : Int) : AVal := .c (.int .u64 x)
abbrev u32 (x : Int) : AVal := .c (.int .u32 x)
theorem wu64 {x : Int} (h : 0 ≤ x ∧ x ≤ 18446744073709551615) : IntKind.u64.wrap x = x := by
  simp [IntKind.wrap, IntKind.bits, IntKind.signed]; omega
theorem wu32 {x : Int} (h : 0 ≤ x ∧ x ≤ 4294967295) : IntKind.u32.wrap x = x := by
  simp [IntKind.wrap, IntKind.bits, IntKind.signed]; omega
end Go.Proofs.YtjlebgfbohihfaaGreat.Am

namespace Go.Proofs.YtjlebgfbohihfaaGreat.Am
open Go
set_option linter.unusedVariables false
set_option linter.unusedSimpArgs false

def L83 : ACode := (.loop [0,3,4] (.block 1 (.seq (.seq (.ops [o 6 (.mv (.t 3)),o 7 (.mv (.t 4)),o 8 (.bin 0 .or (.t 6) (.t 7)),o 9 (.convi .u64 (.t 8)),o 5 (.mv (.t 9))])
 (.seq (.ops [o 10 (.mv (.t 5)),o 11 (.mv (.t 5)),o 12 (.bin 0 .mul (.t 10) (.t 11)),o 13 (.mv (.t 0)),o 14 (.bin 0 .leq (.t 12) (.t 13))])
 (.cond (.t 14) (.ops [o 15 (.mv (.t 3)),o 16 (.mv (.t 4)),o 17 (.bin 0 .or (.t 15) (.t 16)),o 3 (.mv (.t 17))])
 .skip)))
 (.keep [0,3,4] (.seq (.ops [o 18 (.mv (.t 4)),o 19 (.bin 0 .shr (.t 18) (.k (.c (.int .u64 1)))),o 4 (.mv (.t 19))])
 (.seq (.ops [o 20 (.mv (.t 4)),o 21 (.bin 0 .eql (.t 20) (.k (.c (.int .u32 0))))])
 (.cond (.t 21) (.exit 0)
 .skip)))))))
def L92 : ACode := (.loop [0,3,4] (.seq (.seq (.ops [o 6 (.mv (.t 4)),o 7 (.mv (.t 3)),o 8 (.bin 0 .sub (.t 6) (.t 7)),o 9 (.bin 0 .gtr (.t 8) (.k (.c (.int .u64 1))))])
 (.cond (.t 9) .skip
 (.exit 0)))
 (.block 1 (.seq (.ops [o 10 (.mv (.t 3)),o 11 (.mv (.t 4)),o 12 (.bin 0 .add (.t 10) (.t 11)),o 13 (.bin 0 .quo (.t 12) (.k (.c (.int .u64 2)))),o 5 (.mv (.t 13))])
 (.seq (.ops [o 14 (.mv (.t 5)),o 15 (.mv (.t 5)),o 16 (.bin 0 .mul (.t 14) (.t 15)),o 17 (.mv (.t 0)),o 18 (.bin 0 .leq (.t 16) (.t 17))])
 (.keep [0,3,4,5,18] (.cond (.t 18) (.ops [o 19 (.mv (.t 5)),o 3 (.mv (.t 19))])
 (.ops [o 20 (.mv (.t 5)),o 4 (.mv (.t 20))]))))))))
def orI (k : IntKind) (x y : Int) : Int := k.wrap (BitVec.ofInt k.bits x ||| BitVec.ofInt k.bits y).toNat
theorem intBin_or (k : IntKind) (x y : Int) : intBin .or k x y = some (.int k (orI k x y)) := rfl
theorem or_step (k m : Nat) (hk : 2 ^ (k + 1) * m + 2 ^ k < 2 ^ 32) :
    orI .u32 ((2 ^ (k + 1) * m : Nat) : Int) ((2 ^ k : Nat) : Int) = ((2 ^ (k + 1) * m + 2 ^ k : Nat) : Int) := by
  have hlt : (2 : Nat) ^ k < 2 ^ (k + 1) := Nat.pow_lt_pow_right (by omega) (by omega)
  have h1 : (BitVec.ofInt 32 ((2 ^ (k + 1) * m : Nat) : Int)).toNat = 2 ^ (k + 1) * m := by
    rw [BitVec.ofInt_natCast, BitVec.toNat_ofNat, Nat.mod_eq_of_lt (by omega)]
  have h2 : (BitVec.ofInt 32 ((2 ^ k : Nat) : Int)).toNat = 2 ^ k := by
    rw [BitVec.ofInt_natCast, BitVec.toNat_ofNat, Nat.mod_eq_of_lt (by omega)]
  show IntKind.u32.wrap (BitVec.ofInt 32 ((2 ^ (k + 1) * m : Nat) : Int) ||| BitVec.ofInt 32 ((2 ^ k : Nat) : Int)).toNat = _
  rw [BitVec.toNat_or, h1, h2, ← Nat.two_pow_add_eq_or_of_lt hlt]
  exact wu32 (by omega)
theorem round83 {Q : AExit → St → Prop} {K : List KI} {h : Hp} {n r b b' : Nat} (hx : r + b < 2 ^ 32) (hor : orI .u32 r b = ((r + b : Nat) : Int))
    (hsh : (b : Int).fdiv 2 = (b' : Int)) {e : Env} (h0 : e.get 0 = u64 n) (h3 : e.get 3 = u32 r) (h4 : e.get 4 = u32 b)
    (hgo : ∀ e' : Env, e'.get 0 = u64 n → e'.get 3 = u32 (if (r + b) * (r + b) ≤ n then (r + b : Nat) else r : Nat) → e'.get 4 = u32 b' → if b' = 0 then wpK T Q K (.exit 0) ⟨e', h, [], none⟩ else wpK T Q (.code L83 :: K) .normal ⟨e', h, [], none⟩) :
    wpK T Q (.code L83 :: K) .normal ⟨e, h, [], none⟩ := by
  refine k_loop ?_
  obtain ⟨x, hxe⟩ : ∃ x, r + b = x := ⟨_, rfl⟩
  rw [hxe] at hx hor hgo
  have hX : IntKind.u64.wrap (x : Int) = (x : Int) := wu64 (by omega)
  have hle2 : x * x ≤ (2 ^ 32 - 1) * (2 ^ 32 - 1) := Nat.mul_le_mul (by omega) (by omega)
  have hXX : IntKind.u64.wrap ((x : Int) * (x : Int)) = ((x * x : Nat) : Int) := by
    rw [wu64 (by rw [← Int.natCast_mul]; omega)]; rw [Int.natCast_mul]
  have hor' : IntKind.u32.wrap ((BitVec.ofInt IntKind.u32.bits (r : Int) ||| BitVec.ofInt IntKind.u32.bits (b : Int)).toNat : Int) = (x : Int) := hor
  simp [IntKind.bits] at hor'
  have hsh' : (b : Int).fdiv 2 = (b' : Int) := hsh
  by_cases hc : x * x ≤ n
  · rw [if_pos hc] at hgo
    have hc' : (x : Int) * (x : Int) ≤ (n : Int) := by have := Int.ofNat_le.2 hc; rwa [Int.natCast_mul] at this
    by_cases hb : b' = 0
    · subst hb
      simp only [if_true] at hgo
      simp [L83, h0, h3, h4, hor', hX, hXX, hc', intShift, IntKind.bits, hsh]
      exact hgo _ rfl rfl rfl
    · simp only [if_neg hb] at hgo
      have hbi : ¬ (b' : Int) = 0 := by omega
      simp [L83, h0, h3, h4, hor', hX, hXX, hc', intShift, IntKind.bits, hsh, hb, hbi]
      exact hgo _ rfl rfl rfl
  · rw [if_neg hc] at hgo
    have hc' : ¬ (x : Int) * (x : Int) ≤ (n : Int) := by intro h'; apply hc; apply Int.ofNat_le.1; rwa [Int.natCast_mul]
    by_cases hb : b' = 0
    · subst hb
      simp only [if_true] at hgo
      simp [L83, h0, h3, h4, hor', hX, hXX, hc', intShift, IntKind.bits, hsh]
      exact hgo _ rfl rfl rfl
    · simp only [if_neg hb] at hgo
      have hbi : ¬ (b' : Int) = 0 := by omega
      simp [L83, h0, h3, h4, hor', hX, hXX, hc', intShift, IntKind.bits, hsh, hb, hbi]
      exact hgo _ rfl rfl rfl
theorem loop83 {Q : AExit → St → Prop} {K : List KI} {h : Hp} {n : Nat} (hK : ∀ (r : Nat) (e : Env), isRoot n r → r < 2 ^ 32 → e.get 3 = u32 r → wpK T Q K (.exit 0) ⟨e, h, [], none⟩) :
    ∀ (k m : Nat) (e : Env), k ≤ 31 → e.get 0 = u64 n → e.get 3 = u32 ((2 ^ (k + 1) * m : Nat) : Int) → e.get 4 = u32 ((2 ^ k : Nat) : Int) →
      (2 ^ (k + 1) * m) * (2 ^ (k + 1) * m) ≤ n → n < (2 ^ (k + 1) * m + 2 ^ (k + 1)) * (2 ^ (k + 1) * m + 2 ^ (k + 1)) → 2 ^ (k + 1) * m + 2 ^ (k + 1) ≤ 2 ^ 32 →
      wpK T Q (.code L83 :: K) .normal ⟨e, h, [], none⟩ := by
  intro k
  induction k with
  | zero =>
    intro m e hk h0 h3 h4 hlo hhi hle
    have hor := or_step 0 m (by omega)
    refine round83 (r := 2 ^ (0 + 1) * m) (b := 2 ^ 0) (b' := 0) (by omega) hor (by decide) h0 h3 h4 fun e' g0 g3 g4 => ?_
    rw [if_pos rfl]
    refine hK _ e' ?_ ?_ g3
    · simp only [Nat.zero_add, Nat.pow_one, Nat.pow_zero] at *
      split
      · exact ⟨by assumption, hhi⟩
      · exact ⟨hlo, by omega⟩
    · split <;> omega
  | succ k ih =>
    intro m e hk h0 h3 h4 hlo hhi hle
    have hp : (2 : Nat) ^ (k + 1 + 1) = 2 * 2 ^ (k + 1) := by rw [Nat.pow_succ]; omega
    have hpk : (0 : Nat) < 2 ^ k := Nat.two_pow_pos k
    have hp2 : (2 : Nat) ^ (k + 1) = 2 * 2 ^ k := by rw [Nat.pow_succ]; omega
    have hor := or_step (k + 1) m (by omega)
    have hsh : ((2 ^ (k + 1) : Nat) : Int).fdiv 2 = ((2 ^ k : Nat) : Int) := by
      rw [Int.fdiv_eq_ediv_of_nonneg _ (by omega)]; omega
    refine round83 (r := 2 ^ (k + 1 + 1) * m) (b := 2 ^ (k + 1)) (b' := 2 ^ k) (by omega) hor hsh h0 h3 h4 fun e' g0 g3 g4 => ?_
    rw [if_neg (by omega)]
    have e1 : 2 ^ (k + 1 + 1) * m = 2 ^ (k + 1) * (2 * m) := by rw [hp, Nat.mul_comm 2 (2 ^ (k + 1)), Nat.mul_assoc]
    have e2 : 2 ^ (k + 1 + 1) * m + 2 ^ (k + 1) = 2 ^ (k + 1) * (2 * m + 1) := by rw [e1, Nat.mul_add, Nat.mul_one]
    by_cases hc : (2 ^ (k + 1 + 1) * m + 2 ^ (k + 1)) * (2 ^ (k + 1 + 1) * m + 2 ^ (k + 1)) ≤ n
    · rw [if_pos hc, e2] at g3
      refine ih (2 * m + 1) e' (by omega) g0 g3 g4 (by rw [← e2]; exact hc) ?_ ?_
      · rw [← e2, show 2 ^ (k + 1 + 1) * m + 2 ^ (k + 1) + 2 ^ (k + 1) = 2 ^ (k + 1 + 1) * m + 2 ^ (k + 1 + 1) from by omega]; exact hhi
      · omega
    · rw [if_neg hc, e1] at g3
      refine ih (2 * m) e' (by omega) g0 g3 g4 (by rw [← e1]; exact hlo) ?_ ?_
      · rw [← e1]; omega
      · omega
theorem c83 (n : Nat) (hn : n < 2 ^ 64) (h : Hp) (Q : CallQ) (hQ : rootS n < 2 ^ 32 → Q (u32 (rootS n)) h) : wpC T 83 [u64 n] h Q := by
  refine k_code (fn := F83) rfl rfl ?_
  simp [F83]
  refine loop83 (n := n) ?_ 31 0 _ (by omega) rfl rfl rfl (by omega) (by omega) (by omega)
  intro r e hr hlt h3
  rw [rootS_of hr] at hQ
  simp [h3]
  exact hQ hlt
end Go.Proofs.YtjlebgfbohihfaaGreat.Am

namespace Go.Proofs.YtjlebgfbohihfaaGreat.Am
open Go
set_option linter.unusedVariables false
set_option linter.unusedSimpArgs false

theorem loop92 {Q : AExit → St → Prop} {K : List KI} {h : Hp} {n : Nat} (hK : ∀ (r : Nat) (e : Env), isRoot n r → e.get 3 = u64 r → wpK T Q K (.exit 0) ⟨e, h, [], none⟩) :
    ∀ (d lo hi : Nat) (e : Env), hi - lo ≤ d → lo < hi → hi ≤ 2 ^ 32 → e.get 0 = u64 n → e.get 3 = u64 lo → e.get 4 = u64 hi → lo * lo ≤ n → n < hi * hi →
      wpK T Q (.code L92 :: K) .normal ⟨e, h, [], none⟩ := by
  intro d
  induction d with
  | zero => intro lo hi e hd hl; omega
  | succ d ih =>
    intro lo hi e hd hl hh h0 h3 h4 hlo hhi
    refine k_loop ?_
    have hw : IntKind.u64.wrap ((hi : Int) - (lo : Int)) = (hi : Int) - (lo : Int) := wu64 (by omega)
    by_cases h1 : hi = lo + 1
    · have hc : ¬ (1 : Int) < (hi : Int) - (lo : Int) := by omega
      simp [L92, h0, h3, h4, hw, hc]
      exact hK lo _ ⟨hlo, by rw [← h1]; exact hhi⟩ rfl
    · have hc : (1 : Int) < (hi : Int) - (lo : Int) := by omega
      obtain ⟨m, hm⟩ : ∃ m, m = (lo + hi) / 2 := ⟨_, rfl⟩
      have hw2 : IntKind.u64.wrap ((lo : Int) + (hi : Int)) = (lo : Int) + (hi : Int) := wu64 (by omega)
      have hq : ((lo : Int) + (hi : Int)).tdiv 2 = (m : Int) := by rw [Int.tdiv_eq_ediv_of_nonneg (by omega)]; omega
      have hw3 : IntKind.u64.wrap (m : Int) = (m : Int) := wu64 (by omega)
      have hle2 : m * m ≤ (2 ^ 32 - 1) * (2 ^ 32 - 1) := Nat.mul_le_mul (by omega) (by omega)
      have hw4 : IntKind.u64.wrap ((m : Int) * (m : Int)) = (m : Int) * (m : Int) := by rw [← Int.natCast_mul]; exact wu64 (by omega)
      by_cases hx : m * m ≤ n
      · have hx' : (m : Int) * (m : Int) ≤ (n : Int) := by have := Int.ofNat_le.2 hx; rwa [Int.natCast_mul] at this
        simp [L92, h0, h3, h4, hw, hc, hw2, hq, hw3, hw4, hx']
        exact ih m hi _ (by omega) (by omega) hh rfl rfl rfl hx hhi
      · have hx' : ¬ (m : Int) * (m : Int) ≤ (n : Int) := by intro h'; apply hx; apply Int.ofNat_le.1; rwa [Int.natCast_mul]
        simp [L92, h0, h3, h4, hw, hc, hw2, hq, hw3, hw4, hx']
        exact ih lo m _ (by omega) (by omega) (by omega) rfl rfl rfl hlo (by omega)
theorem c92 (n : Nat) (hn : n < 2 ^ 64) (h : Hp) (Q : CallQ) (hQ : Q (u64 (rootS n)) h) : wpC T 92 [u64 n] h Q := by
  refine k_code (fn := F92) rfl rfl ?_
  simp [F92]
  refine loop92 (n := n) ?_ (2 ^ 32) 0 (2 ^ 32) _ (by omega) (by omega) (by omega) rfl rfl rfl (by omega) (by omega)
  intro r e hr h3
  rw [rootS_of hr] at hQ
  simp [h3]
  exact hQ
/-- The square root, and one over it. -/
noncomputable def sqrtS (x : Int) : Int := if x ≤ 0 then 0 else IntKind.i32.wrap (rootS (x.toNat * 65536))
noncomputable def invS (x : Int) : Int := if x ≤ 0 then 2147483647 else sat (rootS (281474976710656 / x.toNat))
section
variable (h : Hp) (Q : CallQ)
theorem c84 (x : Int) (hx : I32 x) (hQ : Q (fx (sqrtS x)) h) : wpC T 84 [fx x] h Q := by
  refine k_code (fn := F84) rfl rfl ?_
  by_cases h0 : x ≤ 0
  · simp [sqrtS, h0] at hQ; simp [F84, h0]; exact hQ
  · rw [sqrtS, if_neg h0] at hQ
    obtain ⟨k, rfl⟩ := Int.eq_ofNat_of_zero_le (show 0 ≤ x by omega)
    have hk : k ≤ 2147483647 := by have := hx.2; omega
    have e1 : IntKind.u64.wrap (k : Int) = (k : Int) := wu64 (by omega)
    have e2 : IntKind.u64.wrap ((k : Int) * 65536) = ((k * 65536 : Nat) : Int) := by rw [wu64 (by omega)]; omega
    simp [F84, show ¬ k = 0 from by omega, e1, e2, intShift, IntKind.bits]
    refine k_call ?_; simp
    refine c83 (k * 65536) (by omega) _ _ fun _ => ?_
    first | exact hQ | (simp; exact hQ)
theorem c100 (x : Int) (hx : I32 x) (hQ : Q (fx (sqrtS x)) h) : wpC T 100 [fx x] h Q := by
  refine k_code (fn := F100) rfl rfl ?_
  by_cases h0 : x ≤ 0
  · simp [sqrtS, h0] at hQ; simp [F100, h0]; exact hQ
  · rw [sqrtS, if_neg h0] at hQ
    obtain ⟨k, rfl⟩ := Int.eq_ofNat_of_zero_le (show 0 ≤ x by omega)
    have hk : k ≤ 2147483647 := by have := hx.2; omega
    have e1 : IntKind.u64.wrap (k : Int) = (k : Int) := wu64 (by omega)
    have e2 : IntKind.u64.wrap ((k : Int) * 65536) = ((k * 65536 : Nat) : Int) := by rw [wu64 (by omega)]; omega
    simp [F100, show ¬ k = 0 from by omega, e1, e2]
    refine k_call ?_; simp
    refine c92 (k * 65536) (by omega) _ _ ?_
    first | exact hQ | (simp; exact hQ)
theorem root_small {n : Nat} (hn : n ≤ 281474976710656) : rootS n ≤ 16777216 := by
  by_cases hex : ∃ r, isRoot n r
  · obtain ⟨r, hr⟩ := hex
    rw [rootS_of hr]
    rcases Nat.lt_or_ge 16777216 r with h1 | h1
    · have := Nat.mul_le_mul (show 16777217 ≤ r from h1) (show 16777217 ≤ r from h1)
      have := hr.1; omega
    · exact h1
  · unfold rootS; rw [dif_neg hex]; omega
theorem c85 (x : Int) (hx : I32 x) (hQ : Q (fx (invS x)) h) : wpC T 85 [fx x] h Q := by
  refine k_code (fn := F85) rfl rfl ?_
  by_cases h0 : x ≤ 0
  · simp [invS, h0] at hQ; simp [F85, h0]; exact hQ
  · rw [invS, if_neg h0] at hQ
    obtain ⟨k, rfl⟩ := Int.eq_ofNat_of_zero_le (show 0 ≤ x by omega)
    have hk : k ≤ 2147483647 := by have := hx.2; omega
    have k0 : ¬ (k : Int) = 0 := by omega
    have e1 : IntKind.u64.wrap (k : Int) = (k : Int) := wu64 (by omega)
    have k1 : ¬ k = 0 := by omega
    rw [Int.toNat_natCast] at hQ
    have hle : 281474976710656 / k ≤ 281474976710656 := Nat.div_le_self _ _
    have e2 : (281474976710656 : Int).tdiv (k : Int) = ((281474976710656 / k : Nat) : Int) := by rw [Int.tdiv_eq_ediv_of_nonneg (by omega)]; rfl
    obtain ⟨d, hd⟩ : ∃ d, d = 281474976710656 / k := ⟨_, rfl⟩
    rw [← hd] at e2 hle hQ
    have hr := root_small hle
    have e3 : IntKind.u64.wrap (d : Int) = (d : Int) := wu64 (by omega)
    have e4 : IntKind.i64.wrap (rootS d : Int) = (rootS d : Int) := w64 (by omega)
    simp [F85, h0, e1, e2, e3, k1]
    refine k_call ?_; simp
    refine c83 d (by omega) _ _ fun _ => ?_
    simp [e4]
    refine k_call ?_; simp
    refine c82 _ _ _ ?_
    first | exact hQ | (simp; exact hQ)
theorem c101 (x : Int) (hx : I32 x) (hQ : Q (fx (invS x)) h) : wpC T 101 [fx x] h Q := by
  refine k_code (fn := F101) rfl rfl ?_
  by_cases h0 : x ≤ 0
  · simp [invS, h0] at hQ; simp [F101, h0]; exact hQ
  · rw [invS, if_neg h0] at hQ
    obtain ⟨k, rfl⟩ := Int.eq_ofNat_of_zero_le (show 0 ≤ x by omega)
    have hk : k ≤ 2147483647 := by have := hx.2; omega
    have e1 : IntKind.u64.wrap (k : Int) = (k : Int) := wu64 (by omega)
    have k1 : ¬ k = 0 := by omega
    rw [Int.toNat_natCast] at hQ
    have hle : 281474976710656 / k ≤ 281474976710656 := Nat.div_le_self _ _
    have e2 : (281474976710656 : Int).tdiv (k : Int) = ((281474976710656 / k : Nat) : Int) := by rw [Int.tdiv_eq_ediv_of_nonneg (by omega)]; rfl
    obtain ⟨d, hd⟩ : ∃ d, d = 281474976710656 / k := ⟨_, rfl⟩
    rw [← hd] at e2 hle hQ
    have hr := root_small hle
    have e3 : IntKind.u64.wrap (d : Int) = (d : Int) := wu64 (by omega)
    have e4 : IntKind.i64.wrap (rootS d : Int) = (rootS d : Int) := w64 (by omega)
    simp [F101, h0, e1, e2, e3, k1]
    refine k_call ?_; simp
    refine c92 d (by omega) _ _ ?_
    simp [e4]
    refine k_call ?_; simp
    refine c91 _ _ _ ?_
    first | exact hQ | (simp; exact hQ)
end
end Go.Proofs.YtjlebgfbohihfaaGreat.Am
