import Derived.Test.YtjlebgfbohihfaaGreatMA
namespace Go.Proofs.YtjlebgfbohihfaaGreat.Am
open Go
set_option linter.unusedVariables false
set_option linter.unusedSimpArgs false

def L71 : ACode := (.loop [0,3,4,16,17] (.seq (.ops [o 18 (.bin 0 .lss (.t 17) (ki 16))])
 (.seq (.cond (.t 18) .skip
 (.exit 1))
 (.seq (.block 2 (.seq (.ops [o 19 (.mv (.t 17)),o 20 (.ixv 16 none (.t 16) (.t 17)),o 5 (.mv (.t 19)),o 6 (.mv (.t 20))])
 (.seq (.ops [o 21 (.mv (.t 0)),o 22 (.mv (.t 5)),o 23 (.bin 0 .sub (ki 15) (.t 22)),o 24 (.bin 0 .shr (.t 21) (.t 23)),o 25 (.bin 0 .and (.t 24) (.k (.c (.int .i32 1)))),o 26 (.bin 0 .eql (.t 25) (.k (.c (.int .i32 1))))])
 (.keep [0,3,4,6,16,17,26] (.cond (.t 26) (.ops [o 27 (.mv (.t 4)),o 28 (.mv (.t 6)),o 29 (.bin 0 .mul (.t 27) (.t 28)),o 30 (.bin 0 .shr (.t 29) (.k (.c (.int .u64 30)))),o 4 (.mv (.t 30))])
 .skip)))))
 (.ops [o 31 (.bin 0 .add (.t 17) (ki 1)),o 17 (.mv (.t 31))])))))
def L98 : ACode := (.loop [3,4,5,16,17] (.seq (.ops [o 18 (.bin 0 .lss (.t 17) (ki 16))])
 (.seq (.cond (.t 18) .skip
 (.exit 0))
 (.seq (.block 1 (.seq (.ops [o 19 (.mv (.t 17)),o 20 (.ixv 16 none (.t 16) (.t 17)),o 6 (.mv (.t 19)),o 7 (.mv (.t 20))])
 (.seq (.ops [o 21 (.mv (.t 4)),o 22 (.mv (.t 6)),o 23 (.bin 0 .sub (ki 15) (.t 22)),o 24 (.bin 0 .shl (ki 1) (.t 23)),o 25 (.bin 0 .quo (.t 21) (.t 24)),o 26 (.bin 0 .rem (.t 25) (ki 2)),o 27 (.bin 0 .eql (.t 26) (ki 1))])
 (.keep [3,4,5,7,16,17,27] (.cond (.t 27) (.ops [o 28 (.mv (.t 5)),o 29 (.mv (.t 7)),o 30 (.bin 0 .mul (.t 28) (.t 29)),o 31 (.bin 0 .quo (.t 30) (ki 1073741824)),o 5 (.mv (.t 31))])
 .skip)))))
 (.ops [o 32 (.bin 0 .add (.t 17) (ki 1)),o 17 (.mv (.t 32))])))))
abbrev tabC : List Cell := [(.int .i64 1518500250),(.int .i64 1276901417),(.int .i64 1170923762),(.int .i64 1121280436),(.int .i64 1097253708),(.int .i64 1085434106),(.int .i64 1079572136),(.int .i64 1076653033),(.int .i64 1075196443),(.int .i64 1074468888),(.int .i64 1074105294),(.int .i64 1073923544),(.int .i64 1073832680),(.int .i64 1073787251),(.int .i64 1073764537),(.int .i64 1073753181)]
def stepE (x p t r : Int) : Int := if x / p % 2 = 1 then r * t / 1073741824 else r
theorem and_one {v : Int} : IntKind.i32.wrap ((BitVec.ofInt 32 v &&& BitVec.ofInt 32 1).toNat : Int) = v % 2 := by
  have h1 : (BitVec.ofInt 32 v &&& BitVec.ofInt 32 1).toNat = (v % 2).toNat := by
    rw [BitVec.toNat_and, BitVec.toNat_ofInt, BitVec.toNat_ofInt]
    rw [show ((1 : Int) % ((2 ^ 32 : Nat) : Int)).toNat = 2 ^ 1 - 1 from by decide, Nat.and_two_pow_sub_one_eq_mod]
    omega
  rw [h1]
  have : ((v % 2).toNat : Int) = v % 2 := by omega
  rw [this]
  exact wrap_i32 (by unfold I32; omega)
structure At71 (e : Env) (x n r : Int) (i : Int) : Prop where
  g0 : e.get 0 = fx x
  g3 : e.get 3 = i64 n
  g4 : e.get 4 = i64 r
  g16 : e.get 16 = .agg tabC
  g17 : e.get 17 = i64 i
structure At98 (e : Env) (x n r : Int) (i : Int) : Prop where
  g3 : e.get 3 = i64 n
  g4 : e.get 4 = i64 x
  g5 : e.get 5 = i64 r
  g16 : e.get 16 = .agg tabC
  g17 : e.get 17 = i64 i
section
variable {Q : AExit → St → Prop} {K : List KI} {h : Hp} {e : Env} {x n r : Int}
theorem s71_0 (g : At71 e x n r 0) (hr : 0 ≤ r ∧ r ≤ 1073741824) (hgo : ∀ e' : Env, At71 e' x n (stepE x 32768 1518500250 r) 1 → 0 ≤ stepE x 32768 1518500250 r ∧ stepE x 32768 1518500250 r ≤ 1518500251 → wpK T Q (.code L71 :: K) .normal ⟨e', h, [], none⟩) : wpK T Q (.code L71 :: K) .normal ⟨e, h, [], none⟩ := by
  refine k_loop ?_
  have hf : x.fdiv 32768 = x / 32768 := by rw [Int.fdiv_eq_ediv_of_nonneg _ (by omega)]
  have ha : IntKind.i32.wrap ((BitVec.ofInt IntKind.i32.bits (x / 32768) &&& BitVec.ofInt IntKind.i32.bits 1).toNat : Int) = x / 32768 % 2 := and_one
  simp [IntKind.bits] at ha
  have hw : IntKind.i64.wrap (r * 1518500250) = r * 1518500250 := w64 (by omega)
  have hf2 : (r * 1518500250).fdiv 1073741824 = r * 1518500250 / 1073741824 := Int.fdiv_eq_ediv_of_nonneg _ (by omega)
  have hbd : 0 ≤ stepE x 32768 1518500250 r ∧ stepE x 32768 1518500250 r ≤ 1518500251 := by unfold stepE; split <;> omega
  by_cases hb : x / 32768 % 2 = 1
  · simp [L71, g.g0, g.g3, g.g4, g.g16, g.g17, intShift, IntKind.bits, hf, ha, hb, hw, hf2]
    exact hgo _ ⟨rfl, rfl, by rw [stepE, if_pos (by omega)]; rfl, rfl, rfl⟩ hbd
  · simp [L71, g.g0, g.g3, g.g4, g.g16, g.g17, intShift, IntKind.bits, hf, ha, hb]
    exact hgo _ ⟨rfl, rfl, by rw [stepE, if_neg (by omega)]; rfl, rfl, rfl⟩ hbd
theorem s71_1 (g : At71 e x n r 1) (hr : 0 ≤ r ∧ r ≤ 1518500251) (hgo : ∀ e' : Env, At71 e' x n (stepE x 16384 1276901417 r) 2 → 0 ≤ stepE x 16384 1276901417 r ∧ stepE x 16384 1276901417 r ≤ 1805811303 → wpK T Q (.code L71 :: K) .normal ⟨e', h, [], none⟩) : wpK T Q (.code L71 :: K) .normal ⟨e, h, [], none⟩ := by
  refine k_loop ?_
  have hf : x.fdiv 16384 = x / 16384 := by rw [Int.fdiv_eq_ediv_of_nonneg _ (by omega)]
  have ha : IntKind.i32.wrap ((BitVec.ofInt IntKind.i32.bits (x / 16384) &&& BitVec.ofInt IntKind.i32.bits 1).toNat : Int) = x / 16384 % 2 := and_one
  simp [IntKind.bits] at ha
  have hw : IntKind.i64.wrap (r * 1276901417) = r * 1276901417 := w64 (by omega)
  have hf2 : (r * 1276901417).fdiv 1073741824 = r * 1276901417 / 1073741824 := Int.fdiv_eq_ediv_of_nonneg _ (by omega)
  have hbd : 0 ≤ stepE x 16384 1276901417 r ∧ stepE x 16384 1276901417 r ≤ 1805811303 := by unfold stepE; split <;> omega
  by_cases hb : x / 16384 % 2 = 1
  · simp [L71, g.g0, g.g3, g.g4, g.g16, g.g17, intShift, IntKind.bits, hf, ha, hb, hw, hf2]
    exact hgo _ ⟨rfl, rfl, by rw [stepE, if_pos (by omega)]; rfl, rfl, rfl⟩ hbd
  · simp [L71, g.g0, g.g3, g.g4, g.g16, g.g17, intShift, IntKind.bits, hf, ha, hb]
    exact hgo _ ⟨rfl, rfl, by rw [stepE, if_neg (by omega)]; rfl, rfl, rfl⟩ hbd
theorem s71_2 (g : At71 e x n r 2) (hr : 0 ≤ r ∧ r ≤ 1805811303) (hgo : ∀ e' : Env, At71 e' x n (stepE x 8192 1170923762 r) 3 → 0 ≤ stepE x 8192 1170923762 r ∧ stepE x 8192 1170923762 r ≤ 1969251190 → wpK T Q (.code L71 :: K) .normal ⟨e', h, [], none⟩) : wpK T Q (.code L71 :: K) .normal ⟨e, h, [], none⟩ := by
  refine k_loop ?_
  have hf : x.fdiv 8192 = x / 8192 := by rw [Int.fdiv_eq_ediv_of_nonneg _ (by omega)]
  have ha : IntKind.i32.wrap ((BitVec.ofInt IntKind.i32.bits (x / 8192) &&& BitVec.ofInt IntKind.i32.bits 1).toNat : Int) = x / 8192 % 2 := and_one
  simp [IntKind.bits] at ha
  have hw : IntKind.i64.wrap (r * 1170923762) = r * 1170923762 := w64 (by omega)
  have hf2 : (r * 1170923762).fdiv 1073741824 = r * 1170923762 / 1073741824 := Int.fdiv_eq_ediv_of_nonneg _ (by omega)
  have hbd : 0 ≤ stepE x 8192 1170923762 r ∧ stepE x 8192 1170923762 r ≤ 1969251190 := by unfold stepE; split <;> omega
  by_cases hb : x / 8192 % 2 = 1
  · simp [L71, g.g0, g.g3, g.g4, g.g16, g.g17, intShift, IntKind.bits, hf, ha, hb, hw, hf2]
    exact hgo _ ⟨rfl, rfl, by rw [stepE, if_pos (by omega)]; rfl, rfl, rfl⟩ hbd
  · simp [L71, g.g0, g.g3, g.g4, g.g16, g.g17, intShift, IntKind.bits, hf, ha, hb]
    exact hgo _ ⟨rfl, rfl, by rw [stepE, if_neg (by omega)]; rfl, rfl, rfl⟩ hbd
theorem s71_3 (g : At71 e x n r 3) (hr : 0 ≤ r ∧ r ≤ 1969251190) (hgo : ∀ e' : Env, At71 e' x n (stepE x 4096 1121280436 r) 4 → 0 ≤ stepE x 4096 1121280436 r ∧ stepE x 4096 1121280436 r ≤ 2056437389 → wpK T Q (.code L71 :: K) .normal ⟨e', h, [], none⟩) : wpK T Q (.code L71 :: K) .normal ⟨e, h, [], none⟩ := by
  refine k_loop ?_
  have hf : x.fdiv 4096 = x / 4096 := by rw [Int.fdiv_eq_ediv_of_nonneg _ (by omega)]
  have ha : IntKind.i32.wrap ((BitVec.ofInt IntKind.i32.bits (x / 4096) &&& BitVec.ofInt IntKind.i32.bits 1).toNat : Int) = x / 4096 % 2 := and_one
  simp [IntKind.bits] at ha
  have hw : IntKind.i64.wrap (r * 1121280436) = r * 1121280436 := w64 (by omega)
  have hf2 : (r * 1121280436).fdiv 1073741824 = r * 1121280436 / 1073741824 := Int.fdiv_eq_ediv_of_nonneg _ (by omega)
  have hbd : 0 ≤ stepE x 4096 1121280436 r ∧ stepE x 4096 1121280436 r ≤ 2056437389 := by unfold stepE; split <;> omega
  by_cases hb : x / 4096 % 2 = 1
  · simp [L71, g.g0, g.g3, g.g4, g.g16, g.g17, intShift, IntKind.bits, hf, ha, hb, hw, hf2]
    exact hgo _ ⟨rfl, rfl, by rw [stepE, if_pos (by omega)]; rfl, rfl, rfl⟩ hbd
  · simp [L71, g.g0, g.g3, g.g4, g.g16, g.g17, intShift, IntKind.bits, hf, ha, hb]
    exact hgo _ ⟨rfl, rfl, by rw [stepE, if_neg (by omega)]; rfl, rfl, rfl⟩ hbd
theorem s71_4 (g : At71 e x n r 4) (hr : 0 ≤ r ∧ r ≤ 2056437389) (hgo : ∀ e' : Env, At71 e' x n (stepE x 2048 1097253708 r) 5 → 0 ≤ stepE x 2048 1097253708 r ∧ stepE x 2048 1097253708 r ≤ 2101467504 → wpK T Q (.code L71 :: K) .normal ⟨e', h, [], none⟩) : wpK T Q (.code L71 :: K) .normal ⟨e, h, [], none⟩ := by
  refine k_loop ?_
  have hf : x.fdiv 2048 = x / 2048 := by rw [Int.fdiv_eq_ediv_of_nonneg _ (by omega)]
  have ha : IntKind.i32.wrap ((BitVec.ofInt IntKind.i32.bits (x / 2048) &&& BitVec.ofInt IntKind.i32.bits 1).toNat : Int) = x / 2048 % 2 := and_one
  simp [IntKind.bits] at ha
  have hw : IntKind.i64.wrap (r * 1097253708) = r * 1097253708 := w64 (by omega)
  have hf2 : (r * 1097253708).fdiv 1073741824 = r * 1097253708 / 1073741824 := Int.fdiv_eq_ediv_of_nonneg _ (by omega)
  have hbd : 0 ≤ stepE x 2048 1097253708 r ∧ stepE x 2048 1097253708 r ≤ 2101467504 := by unfold stepE; split <;> omega
  by_cases hb : x / 2048 % 2 = 1
  · simp [L71, g.g0, g.g3, g.g4, g.g16, g.g17, intShift, IntKind.bits, hf, ha, hb, hw, hf2]
    exact hgo _ ⟨rfl, rfl, by rw [stepE, if_pos (by omega)]; rfl, rfl, rfl⟩ hbd
  · simp [L71, g.g0, g.g3, g.g4, g.g16, g.g17, intShift, IntKind.bits, hf, ha, hb]
    exact hgo _ ⟨rfl, rfl, by rw [stepE, if_neg (by omega)]; rfl, rfl, rfl⟩ hbd
theorem s71_5 (g : At71 e x n r 5) (hr : 0 ≤ r ∧ r ≤ 2101467504) (hgo : ∀ e' : Env, At71 e' x n (stepE x 1024 1085434106 r) 6 → 0 ≤ stepE x 1024 1085434106 r ∧ stepE x 1024 1085434106 r ≤ 2124350986 → wpK T Q (.code L71 :: K) .normal ⟨e', h, [], none⟩) : wpK T Q (.code L71 :: K) .normal ⟨e, h, [], none⟩ := by
  refine k_loop ?_
  have hf : x.fdiv 1024 = x / 1024 := by rw [Int.fdiv_eq_ediv_of_nonneg _ (by omega)]
  have ha : IntKind.i32.wrap ((BitVec.ofInt IntKind.i32.bits (x / 1024) &&& BitVec.ofInt IntKind.i32.bits 1).toNat : Int) = x / 1024 % 2 := and_one
  simp [IntKind.bits] at ha
  have hw : IntKind.i64.wrap (r * 1085434106) = r * 1085434106 := w64 (by omega)
  have hf2 : (r * 1085434106).fdiv 1073741824 = r * 1085434106 / 1073741824 := Int.fdiv_eq_ediv_of_nonneg _ (by omega)
  have hbd : 0 ≤ stepE x 1024 1085434106 r ∧ stepE x 1024 1085434106 r ≤ 2124350986 := by unfold stepE; split <;> omega
  by_cases hb : x / 1024 % 2 = 1
  · simp [L71, g.g0, g.g3, g.g4, g.g16, g.g17, intShift, IntKind.bits, hf, ha, hb, hw, hf2]
    exact hgo _ ⟨rfl, rfl, by rw [stepE, if_pos (by omega)]; rfl, rfl, rfl⟩ hbd
  · simp [L71, g.g0, g.g3, g.g4, g.g16, g.g17, intShift, IntKind.bits, hf, ha, hb]
    exact hgo _ ⟨rfl, rfl, by rw [stepE, if_neg (by omega)]; rfl, rfl, rfl⟩ hbd
theorem s71_6 (g : At71 e x n r 6) (hr : 0 ≤ r ∧ r ≤ 2124350986) (hgo : ∀ e' : Env, At71 e' x n (stepE x 512 1079572136 r) 7 → 0 ≤ stepE x 512 1079572136 r ∧ stepE x 512 1079572136 r ≤ 2135886002 → wpK T Q (.code L71 :: K) .normal ⟨e', h, [], none⟩) : wpK T Q (.code L71 :: K) .normal ⟨e, h, [], none⟩ := by
  refine k_loop ?_
  have hf : x.fdiv 512 = x / 512 := by rw [Int.fdiv_eq_ediv_of_nonneg _ (by omega)]
  have ha : IntKind.i32.wrap ((BitVec.ofInt IntKind.i32.bits (x / 512) &&& BitVec.ofInt IntKind.i32.bits 1).toNat : Int) = x / 512 % 2 := and_one
  simp [IntKind.bits] at ha
  have hw : IntKind.i64.wrap (r * 1079572136) = r * 1079572136 := w64 (by omega)
  have hf2 : (r * 1079572136).fdiv 1073741824 = r * 1079572136 / 1073741824 := Int.fdiv_eq_ediv_of_nonneg _ (by omega)
  have hbd : 0 ≤ stepE x 512 1079572136 r ∧ stepE x 512 1079572136 r ≤ 2135886002 := by unfold stepE; split <;> omega
  by_cases hb : x / 512 % 2 = 1
  · simp [L71, g.g0, g.g3, g.g4, g.g16, g.g17, intShift, IntKind.bits, hf, ha, hb, hw, hf2]
    exact hgo _ ⟨rfl, rfl, by rw [stepE, if_pos (by omega)]; rfl, rfl, rfl⟩ hbd
  · simp [L71, g.g0, g.g3, g.g4, g.g16, g.g17, intShift, IntKind.bits, hf, ha, hb]
    exact hgo _ ⟨rfl, rfl, by rw [stepE, if_neg (by omega)]; rfl, rfl, rfl⟩ hbd
theorem s71_7 (g : At71 e x n r 7) (hr : 0 ≤ r ∧ r ≤ 2135886002) (hgo : ∀ e' : Env, At71 e' x n (stepE x 256 1076653033 r) 8 → 0 ≤ stepE x 256 1076653033 r ∧ stepE x 256 1076653033 r ≤ 2141676976 → wpK T Q (.code L71 :: K) .normal ⟨e', h, [], none⟩) : wpK T Q (.code L71 :: K) .normal ⟨e, h, [], none⟩ := by
  refine k_loop ?_
  have hf : x.fdiv 256 = x / 256 := by rw [Int.fdiv_eq_ediv_of_nonneg _ (by omega)]
  have ha : IntKind.i32.wrap ((BitVec.ofInt IntKind.i32.bits (x / 256) &&& BitVec.ofInt IntKind.i32.bits 1).toNat : Int) = x / 256 % 2 := and_one
  simp [IntKind.bits] at ha
  have hw : IntKind.i64.wrap (r * 1076653033) = r * 1076653033 := w64 (by omega)
  have hf2 : (r * 1076653033).fdiv 1073741824 = r * 1076653033 / 1073741824 := Int.fdiv_eq_ediv_of_nonneg _ (by omega)
  have hbd : 0 ≤ stepE x 256 1076653033 r ∧ stepE x 256 1076653033 r ≤ 2141676976 := by unfold stepE; split <;> omega
  by_cases hb : x / 256 % 2 = 1
  · simp [L71, g.g0, g.g3, g.g4, g.g16, g.g17, intShift, IntKind.bits, hf, ha, hb, hw, hf2]
    exact hgo _ ⟨rfl, rfl, by rw [stepE, if_pos (by omega)]; rfl, rfl, rfl⟩ hbd
  · simp [L71, g.g0, g.g3, g.g4, g.g16, g.g17, intShift, IntKind.bits, hf, ha, hb]
    exact hgo _ ⟨rfl, rfl, by rw [stepE, if_neg (by omega)]; rfl, rfl, rfl⟩ hbd
theorem s71_8 (g : At71 e x n r 8) (hr : 0 ≤ r ∧ r ≤ 2141676976) (hgo : ∀ e' : Env, At71 e' x n (stepE x 128 1075196443 r) 9 → 0 ≤ stepE x 128 1075196443 r ∧ stepE x 128 1075196443 r ≤ 2144578348 → wpK T Q (.code L71 :: K) .normal ⟨e', h, [], none⟩) : wpK T Q (.code L71 :: K) .normal ⟨e, h, [], none⟩ := by
  refine k_loop ?_
  have hf : x.fdiv 128 = x / 128 := by rw [Int.fdiv_eq_ediv_of_nonneg _ (by omega)]
  have ha : IntKind.i32.wrap ((BitVec.ofInt IntKind.i32.bits (x / 128) &&& BitVec.ofInt IntKind.i32.bits 1).toNat : Int) = x / 128 % 2 := and_one
  simp [IntKind.bits] at ha
  have hw : IntKind.i64.wrap (r * 1075196443) = r * 1075196443 := w64 (by omega)
  have hf2 : (r * 1075196443).fdiv 1073741824 = r * 1075196443 / 1073741824 := Int.fdiv_eq_ediv_of_nonneg _ (by omega)
  have hbd : 0 ≤ stepE x 128 1075196443 r ∧ stepE x 128 1075196443 r ≤ 2144578348 := by unfold stepE; split <;> omega
  by_cases hb : x / 128 % 2 = 1
  · simp [L71, g.g0, g.g3, g.g4, g.g16, g.g17, intShift, IntKind.bits, hf, ha, hb, hw, hf2]
    exact hgo _ ⟨rfl, rfl, by rw [stepE, if_pos (by omega)]; rfl, rfl, rfl⟩ hbd
  · simp [L71, g.g0, g.g3, g.g4, g.g16, g.g17, intShift, IntKind.bits, hf, ha, hb]
    exact hgo _ ⟨rfl, rfl, by rw [stepE, if_neg (by omega)]; rfl, rfl, rfl⟩ hbd
theorem s71_9 (g : At71 e x n r 9) (hr : 0 ≤ r ∧ r ≤ 2144578348) (hgo : ∀ e' : Env, At71 e' x n (stepE x 64 1074468888 r) 10 → 0 ≤ stepE x 64 1074468888 r ∧ stepE x 64 1074468888 r ≤ 2146030509 → wpK T Q (.code L71 :: K) .normal ⟨e', h, [], none⟩) : wpK T Q (.code L71 :: K) .normal ⟨e, h, [], none⟩ := by
  refine k_loop ?_
  have hf : x.fdiv 64 = x / 64 := by rw [Int.fdiv_eq_ediv_of_nonneg _ (by omega)]
  have ha : IntKind.i32.wrap ((BitVec.ofInt IntKind.i32.bits (x / 64) &&& BitVec.ofInt IntKind.i32.bits 1).toNat : Int) = x / 64 % 2 := and_one
  simp [IntKind.bits] at ha
  have hw : IntKind.i64.wrap (r * 1074468888) = r * 1074468888 := w64 (by omega)
  have hf2 : (r * 1074468888).fdiv 1073741824 = r * 1074468888 / 1073741824 := Int.fdiv_eq_ediv_of_nonneg _ (by omega)
  have hbd : 0 ≤ stepE x 64 1074468888 r ∧ stepE x 64 1074468888 r ≤ 2146030509 := by unfold stepE; split <;> omega
  by_cases hb : x / 64 % 2 = 1
  · simp [L71, g.g0, g.g3, g.g4, g.g16, g.g17, intShift, IntKind.bits, hf, ha, hb, hw, hf2]
    exact hgo _ ⟨rfl, rfl, by rw [stepE, if_pos (by omega)]; rfl, rfl, rfl⟩ hbd
  · simp [L71, g.g0, g.g3, g.g4, g.g16, g.g17, intShift, IntKind.bits, hf, ha, hb]
    exact hgo _ ⟨rfl, rfl, by rw [stepE, if_neg (by omega)]; rfl, rfl, rfl⟩ hbd
theorem s71_10 (g : At71 e x n r 10) (hr : 0 ≤ r ∧ r ≤ 2146030509) (hgo : ∀ e' : Env, At71 e' x n (stepE x 32 1074105294 r) 11 → 0 ≤ stepE x 32 1074105294 r ∧ stepE x 32 1074105294 r ≤ 2146756958 → wpK T Q (.code L71 :: K) .normal ⟨e', h, [], none⟩) : wpK T Q (.code L71 :: K) .normal ⟨e, h, [], none⟩ := by
  refine k_loop ?_
  have hf : x.fdiv 32 = x / 32 := by rw [Int.fdiv_eq_ediv_of_nonneg _ (by omega)]
  have ha : IntKind.i32.wrap ((BitVec.ofInt IntKind.i32.bits (x / 32) &&& BitVec.ofInt IntKind.i32.bits 1).toNat : Int) = x / 32 % 2 := and_one
  simp [IntKind.bits] at ha
  have hw : IntKind.i64.wrap (r * 1074105294) = r * 1074105294 := w64 (by omega)
  have hf2 : (r * 1074105294).fdiv 1073741824 = r * 1074105294 / 1073741824 := Int.fdiv_eq_ediv_of_nonneg _ (by omega)
  have hbd : 0 ≤ stepE x 32 1074105294 r ∧ stepE x 32 1074105294 r ≤ 2146756958 := by unfold stepE; split <;> omega
  by_cases hb : x / 32 % 2 = 1
  · simp [L71, g.g0, g.g3, g.g4, g.g16, g.g17, intShift, IntKind.bits, hf, ha, hb, hw, hf2]
    exact hgo _ ⟨rfl, rfl, by rw [stepE, if_pos (by omega)]; rfl, rfl, rfl⟩ hbd
  · simp [L71, g.g0, g.g3, g.g4, g.g16, g.g17, intShift, IntKind.bits, hf, ha, hb]
    exact hgo _ ⟨rfl, rfl, by rw [stepE, if_neg (by omega)]; rfl, rfl, rfl⟩ hbd
theorem s71_11 (g : At71 e x n r 11) (hr : 0 ≤ r ∧ r ≤ 2146756958) (hgo : ∀ e' : Env, At71 e' x n (stepE x 16 1073923544 r) 12 → 0 ≤ stepE x 16 1073923544 r ∧ stepE x 16 1073923544 r ≤ 2147120276 → wpK T Q (.code L71 :: K) .normal ⟨e', h, [], none⟩) : wpK T Q (.code L71 :: K) .normal ⟨e, h, [], none⟩ := by
  refine k_loop ?_
  have hf : x.fdiv 16 = x / 16 := by rw [Int.fdiv_eq_ediv_of_nonneg _ (by omega)]
  have ha : IntKind.i32.wrap ((BitVec.ofInt IntKind.i32.bits (x / 16) &&& BitVec.ofInt IntKind.i32.bits 1).toNat : Int) = x / 16 % 2 := and_one
  simp [IntKind.bits] at ha
  have hw : IntKind.i64.wrap (r * 1073923544) = r * 1073923544 := w64 (by omega)
  have hf2 : (r * 1073923544).fdiv 1073741824 = r * 1073923544 / 1073741824 := Int.fdiv_eq_ediv_of_nonneg _ (by omega)
  have hbd : 0 ≤ stepE x 16 1073923544 r ∧ stepE x 16 1073923544 r ≤ 2147120276 := by unfold stepE; split <;> omega
  by_cases hb : x / 16 % 2 = 1
  · simp [L71, g.g0, g.g3, g.g4, g.g16, g.g17, intShift, IntKind.bits, hf, ha, hb, hw, hf2]
    exact hgo _ ⟨rfl, rfl, by rw [stepE, if_pos (by omega)]; rfl, rfl, rfl⟩ hbd
  · simp [L71, g.g0, g.g3, g.g4, g.g16, g.g17, intShift, IntKind.bits, hf, ha, hb]
    exact hgo _ ⟨rfl, rfl, by rw [stepE, if_neg (by omega)]; rfl, rfl, rfl⟩ hbd
theorem s71_12 (g : At71 e x n r 12) (hr : 0 ≤ r ∧ r ≤ 2147120276) (hgo : ∀ e' : Env, At71 e' x n (stepE x 8 1073832680 r) 13 → 0 ≤ stepE x 8 1073832680 r ∧ stepE x 8 1073832680 r ≤ 2147301958 → wpK T Q (.code L71 :: K) .normal ⟨e', h, [], none⟩) : wpK T Q (.code L71 :: K) .normal ⟨e, h, [], none⟩ := by
  refine k_loop ?_
  have hf : x.fdiv 8 = x / 8 := by rw [Int.fdiv_eq_ediv_of_nonneg _ (by omega)]
  have ha : IntKind.i32.wrap ((BitVec.ofInt IntKind.i32.bits (x / 8) &&& BitVec.ofInt IntKind.i32.bits 1).toNat : Int) = x / 8 % 2 := and_one
  simp [IntKind.bits] at ha
  have hw : IntKind.i64.wrap (r * 1073832680) = r * 1073832680 := w64 (by omega)
  have hf2 : (r * 1073832680).fdiv 1073741824 = r * 1073832680 / 1073741824 := Int.fdiv_eq_ediv_of_nonneg _ (by omega)
  have hbd : 0 ≤ stepE x 8 1073832680 r ∧ stepE x 8 1073832680 r ≤ 2147301958 := by unfold stepE; split <;> omega
  by_cases hb : x / 8 % 2 = 1
  · simp [L71, g.g0, g.g3, g.g4, g.g16, g.g17, intShift, IntKind.bits, hf, ha, hb, hw, hf2]
    exact hgo _ ⟨rfl, rfl, by rw [stepE, if_pos (by omega)]; rfl, rfl, rfl⟩ hbd
  · simp [L71, g.g0, g.g3, g.g4, g.g16, g.g17, intShift, IntKind.bits, hf, ha, hb]
    exact hgo _ ⟨rfl, rfl, by rw [stepE, if_neg (by omega)]; rfl, rfl, rfl⟩ hbd
theorem s71_13 (g : At71 e x n r 13) (hr : 0 ≤ r ∧ r ≤ 2147301958) (hgo : ∀ e' : Env, At71 e' x n (stepE x 4 1073787251 r) 14 → 0 ≤ stepE x 4 1073787251 r ∧ stepE x 4 1073787251 r ≤ 2147392805 → wpK T Q (.code L71 :: K) .normal ⟨e', h, [], none⟩) : wpK T Q (.code L71 :: K) .normal ⟨e, h, [], none⟩ := by
  refine k_loop ?_
  have hf : x.fdiv 4 = x / 4 := by rw [Int.fdiv_eq_ediv_of_nonneg _ (by omega)]
  have ha : IntKind.i32.wrap ((BitVec.ofInt IntKind.i32.bits (x / 4) &&& BitVec.ofInt IntKind.i32.bits 1).toNat : Int) = x / 4 % 2 := and_one
  simp [IntKind.bits] at ha
  have hw : IntKind.i64.wrap (r * 1073787251) = r * 1073787251 := w64 (by omega)
  have hf2 : (r * 1073787251).fdiv 1073741824 = r * 1073787251 / 1073741824 := Int.fdiv_eq_ediv_of_nonneg _ (by omega)
  have hbd : 0 ≤ stepE x 4 1073787251 r ∧ stepE x 4 1073787251 r ≤ 2147392805 := by unfold stepE; split <;> omega
  by_cases hb : x / 4 % 2 = 1
  · simp [L71, g.g0, g.g3, g.g4, g.g16, g.g17, intShift, IntKind.bits, hf, ha, hb, hw, hf2]
    exact hgo _ ⟨rfl, rfl, by rw [stepE, if_pos (by omega)]; rfl, rfl, rfl⟩ hbd
  · simp [L71, g.g0, g.g3, g.g4, g.g16, g.g17, intShift, IntKind.bits, hf, ha, hb]
    exact hgo _ ⟨rfl, rfl, by rw [stepE, if_neg (by omega)]; rfl, rfl, rfl⟩ hbd
theorem s71_14 (g : At71 e x n r 14) (hr : 0 ≤ r ∧ r ≤ 2147392805) (hgo : ∀ e' : Env, At71 e' x n (stepE x 2 1073764537 r) 15 → 0 ≤ stepE x 2 1073764537 r ∧ stepE x 2 1073764537 r ≤ 2147438230 → wpK T Q (.code L71 :: K) .normal ⟨e', h, [], none⟩) : wpK T Q (.code L71 :: K) .normal ⟨e, h, [], none⟩ := by
  refine k_loop ?_
  have hf : x.fdiv 2 = x / 2 := by rw [Int.fdiv_eq_ediv_of_nonneg _ (by omega)]
  have ha : IntKind.i32.wrap ((BitVec.ofInt IntKind.i32.bits (x / 2) &&& BitVec.ofInt IntKind.i32.bits 1).toNat : Int) = x / 2 % 2 := and_one
  simp [IntKind.bits] at ha
  have hw : IntKind.i64.wrap (r * 1073764537) = r * 1073764537 := w64 (by omega)
  have hf2 : (r * 1073764537).fdiv 1073741824 = r * 1073764537 / 1073741824 := Int.fdiv_eq_ediv_of_nonneg _ (by omega)
  have hbd : 0 ≤ stepE x 2 1073764537 r ∧ stepE x 2 1073764537 r ≤ 2147438230 := by unfold stepE; split <;> omega
  by_cases hb : x / 2 % 2 = 1
  · simp [L71, g.g0, g.g3, g.g4, g.g16, g.g17, intShift, IntKind.bits, hf, ha, hb, hw, hf2]
    exact hgo _ ⟨rfl, rfl, by rw [stepE, if_pos (by omega)]; rfl, rfl, rfl⟩ hbd
  · simp [L71, g.g0, g.g3, g.g4, g.g16, g.g17, intShift, IntKind.bits, hf, ha, hb]
    exact hgo _ ⟨rfl, rfl, by rw [stepE, if_neg (by omega)]; rfl, rfl, rfl⟩ hbd
theorem s71_15 (g : At71 e x n r 15) (hr : 0 ≤ r ∧ r ≤ 2147438230) (hgo : ∀ e' : Env, At71 e' x n (stepE x 1 1073753181 r) 16 → 0 ≤ stepE x 1 1073753181 r ∧ stepE x 1 1073753181 r ≤ 2147460944 → wpK T Q (.code L71 :: K) .normal ⟨e', h, [], none⟩) : wpK T Q (.code L71 :: K) .normal ⟨e, h, [], none⟩ := by
  refine k_loop ?_
  have hf : x.fdiv 1 = x := by rw [Int.fdiv_eq_ediv_of_nonneg _ (by omega)]; simp
  have ha : IntKind.i32.wrap ((BitVec.ofInt IntKind.i32.bits (x) &&& BitVec.ofInt IntKind.i32.bits 1).toNat : Int) = x % 2 := and_one
  simp [IntKind.bits] at ha
  have hw : IntKind.i64.wrap (r * 1073753181) = r * 1073753181 := w64 (by omega)
  have hf2 : (r * 1073753181).fdiv 1073741824 = r * 1073753181 / 1073741824 := Int.fdiv_eq_ediv_of_nonneg _ (by omega)
  have hbd : 0 ≤ stepE x 1 1073753181 r ∧ stepE x 1 1073753181 r ≤ 2147460944 := by unfold stepE; split <;> omega
  by_cases hb : x % 2 = 1
  · simp [L71, g.g0, g.g3, g.g4, g.g16, g.g17, intShift, IntKind.bits, hf, ha, hb, hw, hf2]
    exact hgo _ ⟨rfl, rfl, by rw [stepE, if_pos (by omega)]; rfl, rfl, rfl⟩ hbd
  · simp [L71, g.g0, g.g3, g.g4, g.g16, g.g17, intShift, IntKind.bits, hf, ha, hb]
    exact hgo _ ⟨rfl, rfl, by rw [stepE, if_neg (by omega)]; rfl, rfl, rfl⟩ hbd
theorem s98_0 (hx : 0 ≤ x ∧ x ≤ 65535) (g : At98 e x n r 0) (hr : 0 ≤ r ∧ r ≤ 1073741824) (hgo : ∀ e' : Env, At98 e' x n (stepE x 32768 1518500250 r) 1 → 0 ≤ stepE x 32768 1518500250 r ∧ stepE x 32768 1518500250 r ≤ 1518500251 → wpK T Q (.code L98 :: K) .normal ⟨e', h, [], none⟩) : wpK T Q (.code L98 :: K) .normal ⟨e, h, [], none⟩ := by
  refine k_loop ?_
  have hf : x.tdiv 32768 = x / 32768 := by rw [Int.tdiv_eq_ediv_of_nonneg (by omega)]
  have hm : (x / 32768).tmod 2 = x / 32768 % 2 := Int.tmod_eq_emod_of_nonneg (by omega)
  have hxw : IntKind.i64.wrap (x / 32768) = x / 32768 := w64 (by omega)
  have hw : IntKind.i64.wrap (r * 1518500250) = r * 1518500250 := w64 (by omega)
  have hf2 : (r * 1518500250).tdiv 1073741824 = r * 1518500250 / 1073741824 := Int.tdiv_eq_ediv_of_nonneg (by omega)
  have hw2 : IntKind.i64.wrap (r * 1518500250 / 1073741824) = r * 1518500250 / 1073741824 := w64 (by omega)
  have hbd : 0 ≤ stepE x 32768 1518500250 r ∧ stepE x 32768 1518500250 r ≤ 1518500251 := by unfold stepE; split <;> omega
  by_cases hb : x / 32768 % 2 = 1
  · simp [L98, g.g3, g.g4, g.g5, g.g16, g.g17, intShift, IntKind.bits, hf, hm, hxw, hb, hw, hf2, hw2]
    exact hgo _ ⟨rfl, rfl, by rw [stepE, if_pos (by omega)]; rfl, rfl, rfl⟩ hbd
  · simp [L98, g.g3, g.g4, g.g5, g.g16, g.g17, intShift, IntKind.bits, hf, hm, hxw, hb]
    exact hgo _ ⟨rfl, rfl, by rw [stepE, if_neg (by omega)]; rfl, rfl, rfl⟩ hbd
theorem s98_1 (hx : 0 ≤ x ∧ x ≤ 65535) (g : At98 e x n r 1) (hr : 0 ≤ r ∧ r ≤ 1518500251) (hgo : ∀ e' : Env, At98 e' x n (stepE x 16384 1276901417 r) 2 → 0 ≤ stepE x 16384 1276901417 r ∧ stepE x 16384 1276901417 r ≤ 1805811303 → wpK T Q (.code L98 :: K) .normal ⟨e', h, [], none⟩) : wpK T Q (.code L98 :: K) .normal ⟨e, h, [], none⟩ := by
  refine k_loop ?_
  have hf : x.tdiv 16384 = x / 16384 := by rw [Int.tdiv_eq_ediv_of_nonneg (by omega)]
  have hm : (x / 16384).tmod 2 = x / 16384 % 2 := Int.tmod_eq_emod_of_nonneg (by omega)
  have hxw : IntKind.i64.wrap (x / 16384) = x / 16384 := w64 (by omega)
  have hw : IntKind.i64.wrap (r * 1276901417) = r * 1276901417 := w64 (by omega)
  have hf2 : (r * 1276901417).tdiv 1073741824 = r * 1276901417 / 1073741824 := Int.tdiv_eq_ediv_of_nonneg (by omega)
  have hw2 : IntKind.i64.wrap (r * 1276901417 / 1073741824) = r * 1276901417 / 1073741824 := w64 (by omega)
  have hbd : 0 ≤ stepE x 16384 1276901417 r ∧ stepE x 16384 1276901417 r ≤ 1805811303 := by unfold stepE; split <;> omega
  by_cases hb : x / 16384 % 2 = 1
  · simp [L98, g.g3, g.g4, g.g5, g.g16, g.g17, intShift, IntKind.bits, hf, hm, hxw, hb, hw, hf2, hw2]
    exact hgo _ ⟨rfl, rfl, by rw [stepE, if_pos (by omega)]; rfl, rfl, rfl⟩ hbd
  · simp [L98, g.g3, g.g4, g.g5, g.g16, g.g17, intShift, IntKind.bits, hf, hm, hxw, hb]
    exact hgo _ ⟨rfl, rfl, by rw [stepE, if_neg (by omega)]; rfl, rfl, rfl⟩ hbd
theorem s98_2 (hx : 0 ≤ x ∧ x ≤ 65535) (g : At98 e x n r 2) (hr : 0 ≤ r ∧ r ≤ 1805811303) (hgo : ∀ e' : Env, At98 e' x n (stepE x 8192 1170923762 r) 3 → 0 ≤ stepE x 8192 1170923762 r ∧ stepE x 8192 1170923762 r ≤ 1969251190 → wpK T Q (.code L98 :: K) .normal ⟨e', h, [], none⟩) : wpK T Q (.code L98 :: K) .normal ⟨e, h, [], none⟩ := by
  refine k_loop ?_
  have hf : x.tdiv 8192 = x / 8192 := by rw [Int.tdiv_eq_ediv_of_nonneg (by omega)]
  have hm : (x / 8192).tmod 2 = x / 8192 % 2 := Int.tmod_eq_emod_of_nonneg (by omega)
  have hxw : IntKind.i64.wrap (x / 8192) = x / 8192 := w64 (by omega)
  have hw : IntKind.i64.wrap (r * 1170923762) = r * 1170923762 := w64 (by omega)
  have hf2 : (r * 1170923762).tdiv 1073741824 = r * 1170923762 / 1073741824 := Int.tdiv_eq_ediv_of_nonneg (by omega)
  have hw2 : IntKind.i64.wrap (r * 1170923762 / 1073741824) = r * 1170923762 / 1073741824 := w64 (by omega)
  have hbd : 0 ≤ stepE x 8192 1170923762 r ∧ stepE x 8192 1170923762 r ≤ 1969251190 := by unfold stepE; split <;> omega
  by_cases hb : x / 8192 % 2 = 1
  · simp [L98, g.g3, g.g4, g.g5, g.g16, g.g17, intShift, IntKind.bits, hf, hm, hxw, hb, hw, hf2, hw2]
    exact hgo _ ⟨rfl, rfl, by rw [stepE, if_pos (by omega)]; rfl, rfl, rfl⟩ hbd
  · simp [L98, g.g3, g.g4, g.g5, g.g16, g.g17, intShift, IntKind.bits, hf, hm, hxw, hb]
    exact hgo _ ⟨rfl, rfl, by rw [stepE, if_neg (by omega)]; rfl, rfl, rfl⟩ hbd
theorem s98_3 (hx : 0 ≤ x ∧ x ≤ 65535) (g : At98 e x n r 3) (hr : 0 ≤ r ∧ r ≤ 1969251190) (hgo : ∀ e' : Env, At98 e' x n (stepE x 4096 1121280436 r) 4 → 0 ≤ stepE x 4096 1121280436 r ∧ stepE x 4096 1121280436 r ≤ 2056437389 → wpK T Q (.code L98 :: K) .normal ⟨e', h, [], none⟩) : wpK T Q (.code L98 :: K) .normal ⟨e, h, [], none⟩ := by
  refine k_loop ?_
  have hf : x.tdiv 4096 = x / 4096 := by rw [Int.tdiv_eq_ediv_of_nonneg (by omega)]
  have hm : (x / 4096).tmod 2 = x / 4096 % 2 := Int.tmod_eq_emod_of_nonneg (by omega)
  have hxw : IntKind.i64.wrap (x / 4096) = x / 4096 := w64 (by omega)
  have hw : IntKind.i64.wrap (r * 1121280436) = r * 1121280436 := w64 (by omega)
  have hf2 : (r * 1121280436).tdiv 1073741824 = r * 1121280436 / 1073741824 := Int.tdiv_eq_ediv_of_nonneg (by omega)
  have hw2 : IntKind.i64.wrap (r * 1121280436 / 1073741824) = r * 1121280436 / 1073741824 := w64 (by omega)
  have hbd : 0 ≤ stepE x 4096 1121280436 r ∧ stepE x 4096 1121280436 r ≤ 2056437389 := by unfold stepE; split <;> omega
  by_cases hb : x / 4096 % 2 = 1
  · simp [L98, g.g3, g.g4, g.g5, g.g16, g.g17, intShift, IntKind.bits, hf, hm, hxw, hb, hw, hf2, hw2]
    exact hgo _ ⟨rfl, rfl, by rw [stepE, if_pos (by omega)]; rfl, rfl, rfl⟩ hbd
  · simp [L98, g.g3, g.g4, g.g5, g.g16, g.g17, intShift, IntKind.bits, hf, hm, hxw, hb]
    exact hgo _ ⟨rfl, rfl, by rw [stepE, if_neg (by omega)]; rfl, rfl, rfl⟩ hbd
theorem s98_4 (hx : 0 ≤ x ∧ x ≤ 65535) (g : At98 e x n r 4) (hr : 0 ≤ r ∧ r ≤ 2056437389) (hgo : ∀ e' : Env, At98 e' x n (stepE x 2048 1097253708 r) 5 → 0 ≤ stepE x 2048 1097253708 r ∧ stepE x 2048 1097253708 r ≤ 2101467504 → wpK T Q (.code L98 :: K) .normal ⟨e', h, [], none⟩) : wpK T Q (.code L98 :: K) .normal ⟨e, h, [], none⟩ := by
  refine k_loop ?_
  have hf : x.tdiv 2048 = x / 2048 := by rw [Int.tdiv_eq_ediv_of_nonneg (by omega)]
  have hm : (x / 2048).tmod 2 = x / 2048 % 2 := Int.tmod_eq_emod_of_nonneg (by omega)
  have hxw : IntKind.i64.wrap (x / 2048) = x / 2048 := w64 (by omega)
  have hw : IntKind.i64.wrap (r * 1097253708) = r * 1097253708 := w64 (by omega)
  have hf2 : (r * 1097253708).tdiv 1073741824 = r * 1097253708 / 1073741824 := Int.tdiv_eq_ediv_of_nonneg (by omega)
  have hw2 : IntKind.i64.wrap (r * 1097253708 / 1073741824) = r * 1097253708 / 1073741824 := w64 (by omega)
  have hbd : 0 ≤ stepE x 2048 1097253708 r ∧ stepE x 2048 1097253708 r ≤ 2101467504 := by unfold stepE; split <;> omega
  by_cases hb : x / 2048 % 2 = 1
  · simp [L98, g.g3, g.g4, g.g5, g.g16, g.g17, intShift, IntKind.bits, hf, hm, hxw, hb, hw, hf2, hw2]
    exact hgo _ ⟨rfl, rfl, by rw [stepE, if_pos (by omega)]; rfl, rfl, rfl⟩ hbd
  · simp [L98, g.g3, g.g4, g.g5, g.g16, g.g17, intShift, IntKind.bits, hf, hm, hxw, hb]
    exact hgo _ ⟨rfl, rfl, by rw [stepE, if_neg (by omega)]; rfl, rfl, rfl⟩ hbd
theorem s98_5 (hx : 0 ≤ x ∧ x ≤ 65535) (g : At98 e x n r 5) (hr : 0 ≤ r ∧ r ≤ 2101467504) (hgo : ∀ e' : Env, At98 e' x n (stepE x 1024 1085434106 r) 6 → 0 ≤ stepE x 1024 1085434106 r ∧ stepE x 1024 1085434106 r ≤ 2124350986 → wpK T Q (.code L98 :: K) .normal ⟨e', h, [], none⟩) : wpK T Q (.code L98 :: K) .normal ⟨e, h, [], none⟩ := by
  refine k_loop ?_
  have hf : x.tdiv 1024 = x / 1024 := by rw [Int.tdiv_eq_ediv_of_nonneg (by omega)]
  have hm : (x / 1024).tmod 2 = x / 1024 % 2 := Int.tmod_eq_emod_of_nonneg (by omega)
  have hxw : IntKind.i64.wrap (x / 1024) = x / 1024 := w64 (by omega)
  have hw : IntKind.i64.wrap (r * 1085434106) = r * 1085434106 := w64 (by omega)
  have hf2 : (r * 1085434106).tdiv 1073741824 = r * 1085434106 / 1073741824 := Int.tdiv_eq_ediv_of_nonneg (by omega)
  have hw2 : IntKind.i64.wrap (r * 1085434106 / 1073741824) = r * 1085434106 / 1073741824 := w64 (by omega)
  have hbd : 0 ≤ stepE x 1024 1085434106 r ∧ stepE x 1024 1085434106 r ≤ 2124350986 := by unfold stepE; split <;> omega
  by_cases hb : x / 1024 % 2 = 1
  · simp [L98, g.g3, g.g4, g.g5, g.g16, g.g17, intShift, IntKind.bits, hf, hm, hxw, hb, hw, hf2, hw2]
    exact hgo _ ⟨rfl, rfl, by rw [stepE, if_pos (by omega)]; rfl, rfl, rfl⟩ hbd
  · simp [L98, g.g3, g.g4, g.g5, g.g16, g.g17, intShift, IntKind.bits, hf, hm, hxw, hb]
    exact hgo _ ⟨rfl, rfl, by rw [stepE, if_neg (by omega)]; rfl, rfl, rfl⟩ hbd
theorem s98_6 (hx : 0 ≤ x ∧ x ≤ 65535) (g : At98 e x n r 6) (hr : 0 ≤ r ∧ r ≤ 2124350986) (hgo : ∀ e' : Env, At98 e' x n (stepE x 512 1079572136 r) 7 → 0 ≤ stepE x 512 1079572136 r ∧ stepE x 512 1079572136 r ≤ 2135886002 → wpK T Q (.code L98 :: K) .normal ⟨e', h, [], none⟩) : wpK T Q (.code L98 :: K) .normal ⟨e, h, [], none⟩ := by
  refine k_loop ?_
  have hf : x.tdiv 512 = x / 512 := by rw [Int.tdiv_eq_ediv_of_nonneg (by omega)]
  have hm : (x / 512).tmod 2 = x / 512 % 2 := Int.tmod_eq_emod_of_nonneg (by omega)
  have hxw : IntKind.i64.wrap (x / 512) = x / 512 := w64 (by omega)
  have hw : IntKind.i64.wrap (r * 1079572136) = r * 1079572136 := w64 (by omega)
  have hf2 : (r * 1079572136).tdiv 1073741824 = r * 1079572136 / 1073741824 := Int.tdiv_eq_ediv_of_nonneg (by omega)
  have hw2 : IntKind.i64.wrap (r * 1079572136 / 1073741824) = r * 1079572136 / 1073741824 := w64 (by omega)
  have hbd : 0 ≤ stepE x 512 1079572136 r ∧ stepE x 512 1079572136 r ≤ 2135886002 := by unfold stepE; split <;> omega
  by_cases hb : x / 512 % 2 = 1
  · simp [L98, g.g3, g.g4, g.g5, g.g16, g.g17, intShift, IntKind.bits, hf, hm, hxw, hb, hw, hf2, hw2]
    exact hgo _ ⟨rfl, rfl, by rw [stepE, if_pos (by omega)]; rfl, rfl, rfl⟩ hbd
  · simp [L98, g.g3, g.g4, g.g5, g.g16, g.g17, intShift, IntKind.bits, hf, hm, hxw, hb]
    exact hgo _ ⟨rfl, rfl, by rw [stepE, if_neg (by omega)]; rfl, rfl, rfl⟩ hbd
theorem s98_7 (hx : 0 ≤ x ∧ x ≤ 65535) (g : At98 e x n r 7) (hr : 0 ≤ r ∧ r ≤ 2135886002) (hgo : ∀ e' : Env, At98 e' x n (stepE x 256 1076653033 r) 8 → 0 ≤ stepE x 256 1076653033 r ∧ stepE x 256 1076653033 r ≤ 2141676976 → wpK T Q (.code L98 :: K) .normal ⟨e', h, [], none⟩) : wpK T Q (.code L98 :: K) .normal ⟨e, h, [], none⟩ := by
  refine k_loop ?_
  have hf : x.tdiv 256 = x / 256 := by rw [Int.tdiv_eq_ediv_of_nonneg (by omega)]
  have hm : (x / 256).tmod 2 = x / 256 % 2 := Int.tmod_eq_emod_of_nonneg (by omega)
  have hxw : IntKind.i64.wrap (x / 256) = x / 256 := w64 (by omega)
  have hw : IntKind.i64.wrap (r * 1076653033) = r * 1076653033 := w64 (by omega)
  have hf2 : (r * 1076653033).tdiv 1073741824 = r * 1076653033 / 1073741824 := Int.tdiv_eq_ediv_of_nonneg (by omega)
  have hw2 : IntKind.i64.wrap (r * 1076653033 / 1073741824) = r * 1076653033 / 1073741824 := w64 (by omega)
  have hbd : 0 ≤ stepE x 256 1076653033 r ∧ stepE x 256 1076653033 r ≤ 2141676976 := by unfold stepE; split <;> omega
  by_cases hb : x / 256 % 2 = 1
  · simp [L98, g.g3, g.g4, g.g5, g.g16, g.g17, intShift, IntKind.bits, hf, hm, hxw, hb, hw, hf2, hw2]
    exact hgo _ ⟨rfl, rfl, by rw [stepE, if_pos (by omega)]; rfl, rfl, rfl⟩ hbd
  · simp [L98, g.g3, g.g4, g.g5, g.g16, g.g17, intShift, IntKind.bits, hf, hm, hxw, hb]
    exact hgo _ ⟨rfl, rfl, by rw [stepE, if_neg (by omega)]; rfl, rfl, rfl⟩ hbd
theorem s98_8 (hx : 0 ≤ x ∧ x ≤ 65535) (g : At98 e x n r 8) (hr : 0 ≤ r ∧ r ≤ 2141676976) (hgo : ∀ e' : Env, At98 e' x n (stepE x 128 1075196443 r) 9 → 0 ≤ stepE x 128 1075196443 r ∧ stepE x 128 1075196443 r ≤ 2144578348 → wpK T Q (.code L98 :: K) .normal ⟨e', h, [], none⟩) : wpK T Q (.code L98 :: K) .normal ⟨e, h, [], none⟩ := by
  refine k_loop ?_
  have hf : x.tdiv 128 = x / 128 := by rw [Int.tdiv_eq_ediv_of_nonneg (by omega)]
  have hm : (x / 128).tmod 2 = x / 128 % 2 := Int.tmod_eq_emod_of_nonneg (by omega)
  have hxw : IntKind.i64.wrap (x / 128) = x / 128 := w64 (by omega)
  have hw : IntKind.i64.wrap (r * 1075196443) = r * 1075196443 := w64 (by omega)
  have hf2 : (r * 1075196443).tdiv 1073741824 = r * 1075196443 / 1073741824 := Int.tdiv_eq_ediv_of_nonneg (by omega)
  have hw2 : IntKind.i64.wrap (r * 1075196443 / 1073741824) = r * 1075196443 / 1073741824 := w64 (by omega)
  have hbd : 0 ≤ stepE x 128 1075196443 r ∧ stepE x 128 1075196443 r ≤ 2144578348 := by unfold stepE; split <;> omega
  by_cases hb : x / 128 % 2 = 1
  · simp [L98, g.g3, g.g4, g.g5, g.g16, g.g17, intShift, IntKind.bits, hf, hm, hxw, hb, hw, hf2, hw2]
    exact hgo _ ⟨rfl, rfl, by rw [stepE, if_pos (by omega)]; rfl, rfl, rfl⟩ hbd
  · simp [L98, g.g3, g.g4, g.g5, g.g16, g.g17, intShift, IntKind.bits, hf, hm, hxw, hb]
    exact hgo _ ⟨rfl, rfl, by rw [stepE, if_neg (by omega)]; rfl, rfl, rfl⟩ hbd
theorem s98_9 (hx : 0 ≤ x ∧ x ≤ 65535) (g : At98 e x n r 9) (hr : 0 ≤ r ∧ r ≤ 2144578348) (hgo : ∀ e' : Env, At98 e' x n (stepE x 64 1074468888 r) 10 → 0 ≤ stepE x 64 1074468888 r ∧ stepE x 64 1074468888 r ≤ 2146030509 → wpK T Q (.code L98 :: K) .normal ⟨e', h, [], none⟩) : wpK T Q (.code L98 :: K) .normal ⟨e, h, [], none⟩ := by
  refine k_loop ?_
  have hf : x.tdiv 64 = x / 64 := by rw [Int.tdiv_eq_ediv_of_nonneg (by omega)]
  have hm : (x / 64).tmod 2 = x / 64 % 2 := Int.tmod_eq_emod_of_nonneg (by omega)
  have hxw : IntKind.i64.wrap (x / 64) = x / 64 := w64 (by omega)
  have hw : IntKind.i64.wrap (r * 1074468888) = r * 1074468888 := w64 (by omega)
  have hf2 : (r * 1074468888).tdiv 1073741824 = r * 1074468888 / 1073741824 := Int.tdiv_eq_ediv_of_nonneg (by omega)
  have hw2 : IntKind.i64.wrap (r * 1074468888 / 1073741824) = r * 1074468888 / 1073741824 := w64 (by omega)
  have hbd : 0 ≤ stepE x 64 1074468888 r ∧ stepE x 64 1074468888 r ≤ 2146030509 := by unfold stepE; split <;> omega
  by_cases hb : x / 64 % 2 = 1
  · simp [L98, g.g3, g.g4, g.g5, g.g16, g.g17, intShift, IntKind.bits, hf, hm, hxw, hb, hw, hf2, hw2]
    exact hgo _ ⟨rfl, rfl, by rw [stepE, if_pos (by omega)]; rfl, rfl, rfl⟩ hbd
  · simp [L98, g.g3, g.g4, g.g5, g.g16, g.g17, intShift, IntKind.bits, hf, hm, hxw, hb]
    exact hgo _ ⟨rfl, rfl, by rw [stepE, if_neg (by omega)]; rfl, rfl, rfl⟩ hbd
theorem s98_10 (hx : 0 ≤ x ∧ x ≤ 65535) (g : At98 e x n r 10) (hr : 0 ≤ r ∧ r ≤ 2146030509) (hgo : ∀ e' : Env, At98 e' x n (stepE x 32 1074105294 r) 11 → 0 ≤ stepE x 32 1074105294 r ∧ stepE x 32 1074105294 r ≤ 2146756958 → wpK T Q (.code L98 :: K) .normal ⟨e', h, [], none⟩) : wpK T Q (.code L98 :: K) .normal ⟨e, h, [], none⟩ := by
  refine k_loop ?_
  have hf : x.tdiv 32 = x / 32 := by rw [Int.tdiv_eq_ediv_of_nonneg (by omega)]
  have hm : (x / 32).tmod 2 = x / 32 % 2 := Int.tmod_eq_emod_of_nonneg (by omega)
  have hxw : IntKind.i64.wrap (x / 32) = x / 32 := w64 (by omega)
  have hw : IntKind.i64.wrap (r * 1074105294) = r * 1074105294 := w64 (by omega)
  have hf2 : (r * 1074105294).tdiv 1073741824 = r * 1074105294 / 1073741824 := Int.tdiv_eq_ediv_of_nonneg (by omega)
  have hw2 : IntKind.i64.wrap (r * 1074105294 / 1073741824) = r * 1074105294 / 1073741824 := w64 (by omega)
  have hbd : 0 ≤ stepE x 32 1074105294 r ∧ stepE x 32 1074105294 r ≤ 2146756958 := by unfold stepE; split <;> omega
  by_cases hb : x / 32 % 2 = 1
  · simp [L98, g.g3, g.g4, g.g5, g.g16, g.g17, intShift, IntKind.bits, hf, hm, hxw, hb, hw, hf2, hw2]
    exact hgo _ ⟨rfl, rfl, by rw [stepE, if_pos (by omega)]; rfl, rfl, rfl⟩ hbd
  · simp [L98, g.g3, g.g4, g.g5, g.g16, g.g17, intShift, IntKind.bits, hf, hm, hxw, hb]
    exact hgo _ ⟨rfl, rfl, by rw [stepE, if_neg (by omega)]; rfl, rfl, rfl⟩ hbd
theorem s98_11 (hx : 0 ≤ x ∧ x ≤ 65535) (g : At98 e x n r 11) (hr : 0 ≤ r ∧ r ≤ 2146756958) (hgo : ∀ e' : Env, At98 e' x n (stepE x 16 1073923544 r) 12 → 0 ≤ stepE x 16 1073923544 r ∧ stepE x 16 1073923544 r ≤ 2147120276 → wpK T Q (.code L98 :: K) .normal ⟨e', h, [], none⟩) : wpK T Q (.code L98 :: K) .normal ⟨e, h, [], none⟩ := by
  refine k_loop ?_
  have hf : x.tdiv 16 = x / 16 := by rw [Int.tdiv_eq_ediv_of_nonneg (by omega)]
  have hm : (x / 16).tmod 2 = x / 16 % 2 := Int.tmod_eq_emod_of_nonneg (by omega)
  have hxw : IntKind.i64.wrap (x / 16) = x / 16 := w64 (by omega)
  have hw : IntKind.i64.wrap (r * 1073923544) = r * 1073923544 := w64 (by omega)
  have hf2 : (r * 1073923544).tdiv 1073741824 = r * 1073923544 / 1073741824 := Int.tdiv_eq_ediv_of_nonneg (by omega)
  have hw2 : IntKind.i64.wrap (r * 1073923544 / 1073741824) = r * 1073923544 / 1073741824 := w64 (by omega)
  have hbd : 0 ≤ stepE x 16 1073923544 r ∧ stepE x 16 1073923544 r ≤ 2147120276 := by unfold stepE; split <;> omega
  by_cases hb : x / 16 % 2 = 1
  · simp [L98, g.g3, g.g4, g.g5, g.g16, g.g17, intShift, IntKind.bits, hf, hm, hxw, hb, hw, hf2, hw2]
    exact hgo _ ⟨rfl, rfl, by rw [stepE, if_pos (by omega)]; rfl, rfl, rfl⟩ hbd
  · simp [L98, g.g3, g.g4, g.g5, g.g16, g.g17, intShift, IntKind.bits, hf, hm, hxw, hb]
    exact hgo _ ⟨rfl, rfl, by rw [stepE, if_neg (by omega)]; rfl, rfl, rfl⟩ hbd
theorem s98_12 (hx : 0 ≤ x ∧ x ≤ 65535) (g : At98 e x n r 12) (hr : 0 ≤ r ∧ r ≤ 2147120276) (hgo : ∀ e' : Env, At98 e' x n (stepE x 8 1073832680 r) 13 → 0 ≤ stepE x 8 1073832680 r ∧ stepE x 8 1073832680 r ≤ 2147301958 → wpK T Q (.code L98 :: K) .normal ⟨e', h, [], none⟩) : wpK T Q (.code L98 :: K) .normal ⟨e, h, [], none⟩ := by
  refine k_loop ?_
  have hf : x.tdiv 8 = x / 8 := by rw [Int.tdiv_eq_ediv_of_nonneg (by omega)]
  have hm : (x / 8).tmod 2 = x / 8 % 2 := Int.tmod_eq_emod_of_nonneg (by omega)
  have hxw : IntKind.i64.wrap (x / 8) = x / 8 := w64 (by omega)
  have hw : IntKind.i64.wrap (r * 1073832680) = r * 1073832680 := w64 (by omega)
  have hf2 : (r * 1073832680).tdiv 1073741824 = r * 1073832680 / 1073741824 := Int.tdiv_eq_ediv_of_nonneg (by omega)
  have hw2 : IntKind.i64.wrap (r * 1073832680 / 1073741824) = r * 1073832680 / 1073741824 := w64 (by omega)
  have hbd : 0 ≤ stepE x 8 1073832680 r ∧ stepE x 8 1073832680 r ≤ 2147301958 := by unfold stepE; split <;> omega
  by_cases hb : x / 8 % 2 = 1
  · simp [L98, g.g3, g.g4, g.g5, g.g16, g.g17, intShift, IntKind.bits, hf, hm, hxw, hb, hw, hf2, hw2]
    exact hgo _ ⟨rfl, rfl, by rw [stepE, if_pos (by omega)]; rfl, rfl, rfl⟩ hbd
  · simp [L98, g.g3, g.g4, g.g5, g.g16, g.g17, intShift, IntKind.bits, hf, hm, hxw, hb]
    exact hgo _ ⟨rfl, rfl, by rw [stepE, if_neg (by omega)]; rfl, rfl, rfl⟩ hbd
theorem s98_13 (hx : 0 ≤ x ∧ x ≤ 65535) (g : At98 e x n r 13) (hr : 0 ≤ r ∧ r ≤ 2147301958) (hgo : ∀ e' : Env, At98 e' x n (stepE x 4 1073787251 r) 14 → 0 ≤ stepE x 4 1073787251 r ∧ stepE x 4 1073787251 r ≤ 2147392805 → wpK T Q (.code L98 :: K) .normal ⟨e', h, [], none⟩) : wpK T Q (.code L98 :: K) .normal ⟨e, h, [], none⟩ := by
  refine k_loop ?_
  have hf : x.tdiv 4 = x / 4 := by rw [Int.tdiv_eq_ediv_of_nonneg (by omega)]
  have hm : (x / 4).tmod 2 = x / 4 % 2 := Int.tmod_eq_emod_of_nonneg (by omega)
  have hxw : IntKind.i64.wrap (x / 4) = x / 4 := w64 (by omega)
  have hw : IntKind.i64.wrap (r * 1073787251) = r * 1073787251 := w64 (by omega)
  have hf2 : (r * 1073787251).tdiv 1073741824 = r * 1073787251 / 1073741824 := Int.tdiv_eq_ediv_of_nonneg (by omega)
  have hw2 : IntKind.i64.wrap (r * 1073787251 / 1073741824) = r * 1073787251 / 1073741824 := w64 (by omega)
  have hbd : 0 ≤ stepE x 4 1073787251 r ∧ stepE x 4 1073787251 r ≤ 2147392805 := by unfold stepE; split <;> omega
  by_cases hb : x / 4 % 2 = 1
  · simp [L98, g.g3, g.g4, g.g5, g.g16, g.g17, intShift, IntKind.bits, hf, hm, hxw, hb, hw, hf2, hw2]
    exact hgo _ ⟨rfl, rfl, by rw [stepE, if_pos (by omega)]; rfl, rfl, rfl⟩ hbd
  · simp [L98, g.g3, g.g4, g.g5, g.g16, g.g17, intShift, IntKind.bits, hf, hm, hxw, hb]
    exact hgo _ ⟨rfl, rfl, by rw [stepE, if_neg (by omega)]; rfl, rfl, rfl⟩ hbd
theorem s98_14 (hx : 0 ≤ x ∧ x ≤ 65535) (g : At98 e x n r 14) (hr : 0 ≤ r ∧ r ≤ 2147392805) (hgo : ∀ e' : Env, At98 e' x n (stepE x 2 1073764537 r) 15 → 0 ≤ stepE x 2 1073764537 r ∧ stepE x 2 1073764537 r ≤ 2147438230 → wpK T Q (.code L98 :: K) .normal ⟨e', h, [], none⟩) : wpK T Q (.code L98 :: K) .normal ⟨e, h, [], none⟩ := by
  refine k_loop ?_
  have hf : x.tdiv 2 = x / 2 := by rw [Int.tdiv_eq_ediv_of_nonneg (by omega)]
  have hm : (x / 2).tmod 2 = x / 2 % 2 := Int.tmod_eq_emod_of_nonneg (by omega)
  have hxw : IntKind.i64.wrap (x / 2) = x / 2 := w64 (by omega)
  have hw : IntKind.i64.wrap (r * 1073764537) = r * 1073764537 := w64 (by omega)
  have hf2 : (r * 1073764537).tdiv 1073741824 = r * 1073764537 / 1073741824 := Int.tdiv_eq_ediv_of_nonneg (by omega)
  have hw2 : IntKind.i64.wrap (r * 1073764537 / 1073741824) = r * 1073764537 / 1073741824 := w64 (by omega)
  have hbd : 0 ≤ stepE x 2 1073764537 r ∧ stepE x 2 1073764537 r ≤ 2147438230 := by unfold stepE; split <;> omega
  by_cases hb : x / 2 % 2 = 1
  · simp [L98, g.g3, g.g4, g.g5, g.g16, g.g17, intShift, IntKind.bits, hf, hm, hxw, hb, hw, hf2, hw2]
    exact hgo _ ⟨rfl, rfl, by rw [stepE, if_pos (by omega)]; rfl, rfl, rfl⟩ hbd
  · simp [L98, g.g3, g.g4, g.g5, g.g16, g.g17, intShift, IntKind.bits, hf, hm, hxw, hb]
    exact hgo _ ⟨rfl, rfl, by rw [stepE, if_neg (by omega)]; rfl, rfl, rfl⟩ hbd
theorem s98_15 (hx : 0 ≤ x ∧ x ≤ 65535) (g : At98 e x n r 15) (hr : 0 ≤ r ∧ r ≤ 2147438230) (hgo : ∀ e' : Env, At98 e' x n (stepE x 1 1073753181 r) 16 → 0 ≤ stepE x 1 1073753181 r ∧ stepE x 1 1073753181 r ≤ 2147460944 → wpK T Q (.code L98 :: K) .normal ⟨e', h, [], none⟩) : wpK T Q (.code L98 :: K) .normal ⟨e, h, [], none⟩ := by
  refine k_loop ?_
  have hf : x.tdiv 1 = x := by rw [Int.tdiv_eq_ediv_of_nonneg (by omega)]; simp
  have hm : (x).tmod 2 = x % 2 := Int.tmod_eq_emod_of_nonneg (by omega)
  have hxw : IntKind.i64.wrap (x) = x := w64 (by omega)
  have hw : IntKind.i64.wrap (r * 1073753181) = r * 1073753181 := w64 (by omega)
  have hf2 : (r * 1073753181).tdiv 1073741824 = r * 1073753181 / 1073741824 := Int.tdiv_eq_ediv_of_nonneg (by omega)
  have hw2 : IntKind.i64.wrap (r * 1073753181 / 1073741824) = r * 1073753181 / 1073741824 := w64 (by omega)
  have hbd : 0 ≤ stepE x 1 1073753181 r ∧ stepE x 1 1073753181 r ≤ 2147460944 := by unfold stepE; split <;> omega
  by_cases hb : x % 2 = 1
  · simp [L98, g.g3, g.g4, g.g5, g.g16, g.g17, intShift, IntKind.bits, hf, hm, hxw, hb, hw, hf2, hw2]
    exact hgo _ ⟨rfl, rfl, by rw [stepE, if_pos (by omega)]; rfl, rfl, rfl⟩ hbd
  · simp [L98, g.g3, g.g4, g.g5, g.g16, g.g17, intShift, IntKind.bits, hf, hm, hxw, hb]
    exact hgo _ ⟨rfl, rfl, by rw [stepE, if_neg (by omega)]; rfl, rfl, rfl⟩ hbd
def expR (x : Int) : Int := (stepE x 1 1073753181 (stepE x 2 1073764537 (stepE x 4 1073787251 (stepE x 8 1073832680 (stepE x 16 1073923544 (stepE x 32 1074105294 (stepE x 64 1074468888 (stepE x 128 1075196443 (stepE x 256 1076653033 (stepE x 512 1079572136 (stepE x 1024 1085434106 (stepE x 2048 1097253708 (stepE x 4096 1121280436 (stepE x 8192 1170923762 (stepE x 16384 1276901417 (stepE x 32768 1518500250 1073741824))))))))))))))))
theorem all71 (g : At71 e x n 1073741824 0) (hgo : ∀ e' : Env, At71 e' x n (expR x) 16 → 0 ≤ expR x ∧ expR x ≤ 2147460944 → wpK T Q (.code L71 :: K) .normal ⟨e', h, [], none⟩) : wpK T Q (.code L71 :: K) .normal ⟨e, h, [], none⟩ :=
  s71_0 g (by omega) fun _ g0 b0 => s71_1 g0 b0 fun _ g1 b1 => s71_2 g1 b1 fun _ g2 b2 => s71_3 g2 b2 fun _ g3 b3 => s71_4 g3 b3 fun _ g4 b4 => s71_5 g4 b4 fun _ g5 b5 => s71_6 g5 b5 fun _ g6 b6 => s71_7 g6 b6 fun _ g7 b7 => s71_8 g7 b7 fun _ g8 b8 => s71_9 g8 b8 fun _ g9 b9 => s71_10 g9 b9 fun _ g10 b10 => s71_11 g10 b10 fun _ g11 b11 => s71_12 g11 b11 fun _ g12 b12 => s71_13 g12 b12 fun _ g13 b13 => s71_14 g13 b13 fun _ g14 b14 => s71_15 g14 b14 fun _ g15 b15 => hgo _ g15 b15
theorem all98 (hx : 0 ≤ x ∧ x ≤ 65535) (g : At98 e x n 1073741824 0) (hgo : ∀ e' : Env, At98 e' x n (expR x) 16 → 0 ≤ expR x ∧ expR x ≤ 2147460944 → wpK T Q (.code L98 :: K) .normal ⟨e', h, [], none⟩) : wpK T Q (.code L98 :: K) .normal ⟨e, h, [], none⟩ :=
  s98_0 hx g (by omega) fun _ g0 b0 => s98_1 hx g0 b0 fun _ g1 b1 => s98_2 hx g1 b1 fun _ g2 b2 => s98_3 hx g2 b2 fun _ g3 b3 => s98_4 hx g3 b3 fun _ g4 b4 => s98_5 hx g4 b4 fun _ g5 b5 => s98_6 hx g5 b5 fun _ g6 b6 => s98_7 hx g6 b6 fun _ g7 b7 => s98_8 hx g7 b7 fun _ g8 b8 => s98_9 hx g8 b8 fun _ g9 b9 => s98_10 hx g9 b9 fun _ g10 b10 => s98_11 hx g10 b10 fun _ g11 b11 => s98_12 hx g11 b11 fun _ g12 b12 => s98_13 hx g12 b12 fun _ g13 b13 => s98_14 hx g13 b13 fun _ g14 b14 => s98_15 hx g14 b14 fun _ g15 b15 => hgo _ g15 b15
theorem expR_low (x : Int) : expR (x % 65536) = expR x := by
  have key : ∀ p t r : Int, (x % 65536) / p % 2 = x / p % 2 → stepE (x % 65536) p t r = stepE x p t r := fun p t r hh => by unfold stepE; rw [hh]
  unfold expR
  rw [key 1 1073753181 _ (by omega)]
  rw [key 2 1073764537 _ (by omega)]
  rw [key 4 1073787251 _ (by omega)]
  rw [key 8 1073832680 _ (by omega)]
  rw [key 16 1073923544 _ (by omega)]
  rw [key 32 1074105294 _ (by omega)]
  rw [key 64 1074468888 _ (by omega)]
  rw [key 128 1075196443 _ (by omega)]
  rw [key 256 1076653033 _ (by omega)]
  rw [key 512 1079572136 _ (by omega)]
  rw [key 1024 1085434106 _ (by omega)]
  rw [key 2048 1097253708 _ (by omega)]
  rw [key 4096 1121280436 _ (by omega)]
  rw [key 8192 1170923762 _ (by omega)]
  rw [key 16384 1276901417 _ (by omega)]
  rw [key 32768 1518500250 _ (by omega)]

end
end Go.Proofs.YtjlebgfbohihfaaGreat.Am

namespace Go.Proofs.YtjlebgfbohihfaaGreat.Am
open Go
set_option linter.unusedVariables false
set_option linter.unusedSimpArgs false

theorem down_wp {n : Int} {p : Int} (hp : 0 < p) (hn : -9223372036854775807 ≤ n ∧ n ≤ 9223372036854775807) :
    (n.tmod p < 0 ∧ IntKind.i64.wrap (n.tdiv p) = n / p + 1 ∧ IntKind.i64.wrap (n / p + 1 - 1) = n / p) ∨ (¬ n.tmod p < 0 ∧ IntKind.i64.wrap (n.tdiv p) = n / p) := by
  have hb := down_b hp hn
  rcases down_key (n := n) hp with ⟨hm, he⟩ | ⟨hm, he⟩
  · have hneg : n < 0 := by
      by_cases h0 : n < 0
      · exact h0
      · have := Int.tmod_nonneg p (show 0 ≤ n by omega); omega
    have hx : n / p ≤ 0 := by have := Int.ediv_le_ediv hp (Int.le_of_lt hneg); simpa using this
    exact .inl ⟨hm, by rw [he]; exact w64 (by omega), by rw [Int.add_sub_cancel]; exact w64 (by omega)⟩
  · exact .inr ⟨hm, by rw [he]; exact w64 (by omega)⟩
theorem c137_16 (n : Int) (hn : -9223372036854775807 ≤ n ∧ n ≤ 9223372036854775807) (h : Hp) (Q : CallQ) (hQ : Q (i64 (n / 65536)) h) : wpC T 137 [i64 n, i64 16] h Q := by
  refine k_code (fn := F137) rfl rfl ?_
  rcases down_wp (n := n) (p := 65536) (by omega) hn with ⟨h1, h2, h3⟩ | ⟨h1, h2⟩
  · rw [Int.add_sub_cancel] at h3
    simp [F137, intShift, IntKind.bits, h1, h2, h3]
    exact hQ
  · simp [F137, intShift, IntKind.bits, h1, h2]
    exact hQ
theorem c137_30 (n : Int) (hn : -9223372036854775807 ≤ n ∧ n ≤ 9223372036854775807) (h : Hp) (Q : CallQ) (hQ : Q (i64 (n / 1073741824)) h) : wpC T 137 [i64 n, i64 30] h Q := by
  refine k_code (fn := F137) rfl rfl ?_
  rcases down_wp (n := n) (p := 1073741824) (by omega) hn with ⟨h1, h2, h3⟩ | ⟨h1, h2⟩
  · rw [Int.add_sub_cancel] at h3
    simp [F137, intShift, IntKind.bits, h1, h2, h3]
    exact hQ
  · simp [F137, intShift, IntKind.bits, h1, h2]
    exact hQ
theorem c137_14 (n : Int) (hn : -9223372036854775807 ≤ n ∧ n ≤ 9223372036854775807) (h : Hp) (Q : CallQ) (hQ : Q (i64 (n / 16384)) h) : wpC T 137 [i64 n, i64 14] h Q := by
  refine k_code (fn := F137) rfl rfl ?_
  rcases down_wp (n := n) (p := 16384) (by omega) hn with ⟨h1, h2, h3⟩ | ⟨h1, h2⟩
  · rw [Int.add_sub_cancel] at h3
    simp [F137, intShift, IntKind.bits, h1, h2, h3]
    exact hQ
  · simp [F137, intShift, IntKind.bits, h1, h2]
    exact hQ
theorem c131 (h : Hp) (Q : CallQ) (hQ : ∀ h', Ext h h' → Q (.agg tabC) h') : wpC T 131 [] h Q := by
  refine k_code (fn := F131) rfl rfl ?_
  simp [F131]
  exact hQ _ ((Ext.alloc _ _).set (Nat.le_refl _) _)
theorem c138 (h : Hp) (Q : CallQ) (hQ : ∀ h', Ext h h' → Q (.agg tabC) h') : wpC T 138 [] h Q := by
  refine k_code (fn := F138) rfl rfl ?_
  simp [F138]
  exact hQ _ ((Ext.alloc _ _).set (Nat.le_refl _) _)
def expS (x : Int) : Int := if 15 ≤ x / 65536 then 2147483647 else if x / 65536 < -30 then 0 else IntKind.i32.wrap (expR x / 2 ^ (14 - x / 65536).toNat)
theorem wrap_I32 (v : Int) : I32 (IntKind.i32.wrap v) := wrS_I32 v
theorem expS_I32 (x : Int) : I32 (expS x) := by
  unfold expS
  repeat' split
  · unfold I32; omega
  · unfold I32; omega
  · exact wrap_I32 _
theorem c71 (x : Int) (hx : I32 x) (h : Hp) (Q : CallQ) (hQ : ∀ h', Ext h h' → Q (fx (expS x)) h') : wpC T 71 [fx x] h Q := by
  refine k_code (fn := F71) rfl rfl ?_
  have hf : x.fdiv 65536 = x / 65536 := Int.fdiv_eq_ediv_of_nonneg _ (by omega)
  obtain ⟨n, hn⟩ : ∃ n, x / 65536 = n := ⟨_, rfl⟩
  have hnb : -32768 ≤ n ∧ n ≤ 32767 := by unfold I32 at hx; omega
  have hw : IntKind.i64.wrap n = n := w64 (by omega)
  rw [hn] at hf
  unfold expS at hQ
  rw [hn] at hQ
  by_cases h1 : 15 ≤ n
  · rw [if_pos h1] at hQ
    simp [F71, intShift, IntKind.bits, hf, hw, h1]
    exact hQ _ (Ext.refl h)
  rw [if_neg h1] at hQ
  by_cases h2 : n < -30
  · rw [if_pos h2] at hQ
    simp [F71, intShift, IntKind.bits, hf, hw, h1, h2]
    exact hQ _ (Ext.refl h)
  rw [if_neg h2] at hQ
  simp [F71, intShift, IntKind.bits, hf, hw, h1, h2]
  refine k_call ?_; simp
  refine c131 _ _ fun h' hx' => ?_
  try simp
  refine all71 (x := x) (n := n) ⟨rfl, rfl, rfl, rfl, rfl⟩ fun e g b => ?_
  obtain ⟨m, hm⟩ : ∃ m : Nat, (14 - n).toNat = m := ⟨_, rfl⟩
  rw [hm] at hQ
  have hm2 : IntKind.i64.wrap (14 - n) = (m : Int) := by rw [w64 (by omega)]; omega
  have hm3 : min m 64 = m := by omega
  have hm4 : ¬ (m : Int) < 0 := by omega
  have hfd : (expR x).fdiv (2 ^ m) = expR x / 2 ^ m := Int.fdiv_eq_ediv_of_nonneg _ (Int.pow_nonneg (by omega))
  refine k_loop ?_
  simp [L71, g.g0, g.g3, g.g4, g.g16, g.g17, intShift, IntKind.bits, hm2, hm3, hm4, hfd]
  exact hQ _ hx'
theorem c98 (x : Int) (hx : I32 x) (h : Hp) (Q : CallQ) (hQ : ∀ h', Ext h h' → Q (fx (expS x)) h') : wpC T 98 [fx x] h Q := by
  refine k_code (fn := F98) rfl rfl ?_
  obtain ⟨n, hn⟩ : ∃ n, x / 65536 = n := ⟨_, rfl⟩
  have hnb : -32768 ≤ n ∧ n ≤ 32767 := by unfold I32 at hx; omega
  have hw : IntKind.i64.wrap (n * 65536) = n * 65536 := w64 (by omega)
  have hw2 : IntKind.i64.wrap (x - n * 65536) = x % 65536 := by rw [w64 (by omega)]; omega
  unfold expS at hQ
  rw [hn] at hQ
  simp [F98, w64_32 hx]
  refine k_call ?_; simp
  refine c137_16 _ (by unfold I32 at hx; omega) _ _ ?_
  rw [hn]
  simp [w64_32 hx, hw, hw2]
  refine k_call ?_; simp
  refine c138 _ _ fun h' hx' => ?_
  try simp
  refine all98 (x := x % 65536) (n := n) (by omega) ⟨rfl, rfl, rfl, rfl, rfl⟩ fun e g b => ?_
  rw [expR_low] at g b
  by_cases h1 : 15 ≤ n
  · rw [if_pos h1] at hQ
    refine k_loop ?_
    simp [L98, g.g3, g.g4, g.g5, g.g16, g.g17, h1]
    exact hQ _ hx'
  rw [if_neg h1] at hQ
  by_cases h2 : n < -30
  · rw [if_pos h2] at hQ
    refine k_loop ?_
    simp [L98, g.g3, g.g4, g.g5, g.g16, g.g17, h1, h2]
    exact hQ _ hx'
  rw [if_neg h2] at hQ
  obtain ⟨m, hm⟩ : ∃ m : Nat, (14 - n).toNat = m := ⟨_, rfl⟩
  rw [hm] at hQ
  have hm2 : IntKind.i64.wrap (14 - n) = (m : Int) := by rw [w64 (by omega)]; omega
  have hm3 : min m 64 = m := by omega
  have hm4 : ¬ (m : Int) < 0 := by omega
  have hp : (2 : Nat) ^ m ≤ 2 ^ 44 := Nat.pow_le_pow_right (by omega) (by omega)
  have hp0 : 0 < (2 : Nat) ^ m := Nat.two_pow_pos m
  have hpc : ((2 : Int) ^ m) = ((2 ^ m : Nat) : Int) := by rw [Int.natCast_pow]; rfl
  have hp1 : IntKind.i64.wrap ((2 : Int) ^ m) = (2 : Int) ^ m := by rw [hpc]; exact w64 (by omega)
  have hp2 : ¬ (2 : Int) ^ m = 0 := by rw [hpc]; omega
  have hfd : (expR x).tdiv (2 ^ m) = expR x / 2 ^ m := Int.tdiv_eq_ediv_of_nonneg (by omega)
  have hq1 : 0 ≤ expR x / 2 ^ m := by rw [hpc]; exact Int.ediv_nonneg (by omega) (by omega)
  have hq2 : expR x / 2 ^ m ≤ expR x := by exact Int.ediv_le_self _ (by omega)
  have hw3 : IntKind.i64.wrap (expR x / 2 ^ m) = expR x / 2 ^ m := w64 (by omega)
  refine k_loop ?_
  simp [L98, g.g3, g.g4, g.g5, g.g16, g.g17, h1, h2, intShift, IntKind.bits, hm2, hm3, hm4, hp1, hp2, hfd, hw3]
  exact hQ _ hx'
end Go.Proofs.YtjlebgfbohihfaaGreat.Am

namespace Go.Proofs.YtjlebgfbohihfaaGreat.Am
open Go
set_option linter.unusedVariables false
set_option linter.unusedSimpArgs false

def L73 : ACode := (.loop [4,5,19] (.seq (.ops [o 20 (.bin 0 .lss (.t 19) (ki 16))])
 (.seq (.cond (.t 20) .skip
 (.exit 0))
 (.seq (.block 1 (.seq (.ops [o 21 (.mv (.t 4)),o 22 (.mv (.t 4)),o 23 (.bin 0 .mul (.t 21) (.t 22)),o 24 (.bin 0 .shr (.t 23) (.k (.c (.int .u64 30)))),o 4 (.mv (.t 24))])
 (.seq (.ops [o 25 (.mv (.t 5)),o 26 (.bin 0 .shl (.t 25) (.k (.c (.int .u64 1)))),o 5 (.mv (.t 26))])
 (.seq (.ops [o 27 (.mv (.t 4)),o 28 (.bin 0 .geq (.t 27) (ki 2147483648))])
 (.cond (.t 28) (.seq (.ops [o 29 (.mv (.t 4)),o 30 (.bin 0 .shr (.t 29) (.k (.c (.int .u64 1)))),o 4 (.mv (.t 30))])
 (.keep [4,5,19] (.ops [o 31 (.mv (.t 5)),o 32 (.bin 0 .or (.t 31) (ki 1)),o 5 (.mv (.t 32))])))
 .skip)))))
 (.ops [o 33 (.bin 0 .add (.t 19) (ki 1)),o 19 (.mv (.t 33))])))))
def L99 : ACode := (.loop [0,3] (.seq (.seq (.ops [o 8 (.mv (.t 0)),o 9 (.convi .i64 (.t 8)),o 10 (.mv (.t 3)),o 11 (.bin 0 .add (.t 10) (ki 1)),o 12 (.bin 0 .shl (ki 1) (.t 11)),o 13 (.bin 0 .geq (.t 9) (.t 12))])
 (.cond (.t 13) .skip
 (.exit 0)))
 (.block 1 (.ops [o 14 (.mv (.t 3)),o 15 (.bin 0 .add (.t 14) (ki 1)),o 3 (.mv (.t 15))]))))
def L99b : ACode := (.loop [3,4,5,21] (.seq (.ops [o 22 (.bin 0 .lss (.t 21) (ki 16))])
 (.seq (.cond (.t 22) .skip
 (.exit 2))
 (.seq (.block 3 (.seq (.ops [o 23 (.mv (.t 4)),o 24 (.mv (.t 4)),o 25 (.bin 0 .mul (.t 23) (.t 24)),o 26 (.bin 0 .quo (.t 25) (ki 1073741824)),o 4 (.mv (.t 26))])
 (.seq (.ops [o 27 (.mv (.t 5)),o 28 (.bin 0 .mul (.t 27) (ki 2)),o 5 (.mv (.t 28))])
 (.seq (.ops [o 29 (.mv (.t 4)),o 30 (.bin 0 .geq (.t 29) (ki 2147483648))])
 (.keep [3,4,5,21,30] (.cond (.t 30) (.seq (.ops [o 31 (.mv (.t 4)),o 32 (.bin 0 .quo (.t 31) (ki 2)),o 4 (.mv (.t 32))])
 (.ops [o 33 (.mv (.t 5)),o 34 (.bin 0 .add (.t 33) (ki 1)),o 5 (.mv (.t 34))]))
 .skip))))))
 (.ops [o 35 (.bin 0 .add (.t 21) (ki 1)),o 21 (.mv (.t 35))])))))
/-- The digits of a logarithm, one by one. -/
def logD : Nat → Int → Int → Int
  | 0, _, d => d
  | k + 1, m, d => if 2147483648 ≤ m * m / 1073741824 then logD k (m * m / 1073741824 / 2) (d * 2 + 1) else logD k (m * m / 1073741824) (d * 2)
theorem logD_from : ∀ (k : Nat) (m d : Int), logD k m d = d * 2 ^ k + logD k m 0
  | 0, m, d => by simp [logD]
  | k + 1, m, d => by
    simp only [logD]
    split
    · rw [logD_from k _ (d * 2 + 1), logD_from k _ (0 * 2 + 1)]
      simp only [Int.pow_succ, Int.add_mul, Int.zero_mul, Int.zero_add, Int.one_mul, Int.mul_assoc, Int.mul_comm 2]
      omega
    · rw [logD_from k _ (d * 2), logD_from k _ (0 * 2)]
      simp only [Int.pow_succ, Int.zero_mul, Int.zero_add, Int.mul_assoc, Int.mul_comm 2]
theorem or_one {d : Int} (hd : -4611686018427387904 ≤ d ∧ d ≤ 4611686018427387903) : IntKind.i64.wrap ((BitVec.ofInt 64 (d * 2) ||| BitVec.ofInt 64 1).toNat : Int) = d * 2 + 1 := by
  have h1 : (BitVec.ofInt 64 (d * 2) ||| BitVec.ofInt 64 1).toNat = (d * 2 % 18446744073709551616).toNat + 1 := by
    rw [BitVec.toNat_or, BitVec.toNat_ofInt, BitVec.toNat_ofInt]
    obtain ⟨c, hc⟩ : ∃ c : Nat, (d * 2 % 18446744073709551616).toNat = 2 ^ 1 * c := ⟨(d * 2 % 18446744073709551616).toNat / 2, by omega⟩
    have e1 : (d * 2 % ((2 ^ 64 : Nat) : Int)).toNat = 2 ^ 1 * c := by rw [← hc]; rfl
    rw [e1, show ((1 : Int) % ((2 ^ 64 : Nat) : Int)).toNat = 1 from by decide, ← Nat.two_pow_add_eq_or_of_lt (by omega), hc]
  rw [h1]
  simp [IntKind.wrap, IntKind.bits, IntKind.signed]
  omega
theorem sq_b {m : Int} (hm : 1073741824 ≤ m ∧ m ≤ 2147483647) : 1152921504606846976 ≤ m * m ∧ m * m ≤ 4611686014132420609 := by
  constructor
  · have := Int.mul_le_mul hm.1 hm.1 (by omega) (by omega); omega
  · have := Int.mul_le_mul hm.2 hm.2 (by omega) (by omega); omega
theorem loop73 {Q : AExit → St → Prop} {K : List KI} {h : Hp} {R : Int} (hK : ∀ (e : Env), e.get 5 = i64 R → wpK T Q K (.exit 0) ⟨e, h, [], none⟩) :
    ∀ (k : Nat) (m d : Int) (e : Env), k ≤ 16 → e.get 4 = i64 m → e.get 5 = i64 d → e.get 19 = i64 ((16 - k : Nat) : Int) → 1073741824 ≤ m ∧ m ≤ 2147483647 → -((2 : Int) ^ (40 - k)) ≤ d ∧ d < 2 ^ (40 - k) → logD k m d = R →
      wpK T Q (.code L73 :: K) .normal ⟨e, h, [], none⟩ := by
  intro k
  induction k with
  | zero =>
    intro m d e hk h4 h5 h19 hm hd hR
    simp only [logD] at hR
    subst hR
    refine k_loop ?_
    simp [L73, h4, h5, h19]
    exact hK _ rfl
  | succ k ih =>
    intro m d e hk h4 h5 h19 hm hd hR
    obtain ⟨i, hi⟩ : ∃ i : Nat, 16 - (k + 1) = i := ⟨_, rfl⟩
    rw [hi] at h19
    have hp : (2 : Int) ^ (40 - k) = 2 * 2 ^ (40 - (k + 1)) := by rw [show 40 - k = (40 - (k + 1)) + 1 from by omega, Int.pow_succ]; omega
    have hpb : (2 : Nat) ^ (40 - (k + 1)) ≤ 2 ^ 40 := Nat.pow_le_pow_right (by omega) (by omega)
    have hpc : ((2 : Int) ^ (40 - (k + 1))) = ((2 ^ (40 - (k + 1)) : Nat) : Int) := by rw [Int.natCast_pow]; rfl
    have hp0 := Nat.two_pow_pos (40 - (k + 1))
    rw [hpc] at hd hp
    have hsq := sq_b hm
    have hw1 : IntKind.i64.wrap (m * m) = m * m := w64 (by omega)
    have hf1 : (m * m).fdiv 1073741824 = m * m / 1073741824 := Int.fdiv_eq_ediv_of_nonneg _ (by omega)
    have hw2 : IntKind.i64.wrap (d * 2) = d * 2 := w64 (by omega)
    have hor : IntKind.i64.wrap ((BitVec.ofInt IntKind.i64.bits (d * 2) ||| BitVec.ofInt IntKind.i64.bits 1).toNat : Int) = d * 2 + 1 := or_one (by omega)
    simp [IntKind.bits] at hor
    have hi16 : (i : Int) < 16 := by omega
    have hwi : IntKind.i64.wrap ((i : Int) + 1) = (i : Int) + 1 := w64 (by omega)
    have hi1 : ((16 - k : Nat) : Int) = (i : Int) + 1 := by omega
    refine k_loop ?_
    simp only [logD] at hR
    obtain ⟨m1, hm1⟩ : ∃ m1, m * m / 1073741824 = m1 := ⟨_, rfl⟩
    rw [hm1] at hf1 hR
    have hfd2 : m1.fdiv 2 = m1 / 2 := Int.fdiv_eq_ediv_of_nonneg _ (by omega)
    by_cases hc : 2147483648 ≤ m1
    · rw [if_pos hc] at hR
      simp [L73, h4, h5, h19, hi16, hw1, hf1, hw2, hc, hor, hfd2, hwi, intShift, IntKind.bits]
      exact ih (m1 / 2) (d * 2 + 1) _ (by omega) rfl rfl (by rw [hi1]; rfl) (by omega) (by rw [hp]; omega) hR
    · rw [if_neg hc] at hR
      simp [L73, h4, h5, h19, hi16, hw1, hf1, hw2, hc, hwi, intShift, IntKind.bits]
      exact ih m1 (d * 2) _ (by omega) rfl rfl (by rw [hi1]; rfl) (by omega) (by rw [hp]; omega) hR
theorem loop99b {Q : AExit → St → Prop} {K : List KI} {h : Hp} {R n : Int} (hK : ∀ (e : Env), e.get 3 = i64 n → e.get 5 = i64 R → wpK T Q K (.exit 2) ⟨e, h, [], none⟩) :
    ∀ (k : Nat) (m d : Int) (e : Env), k ≤ 16 → e.get 3 = i64 n → e.get 4 = i64 m → e.get 5 = i64 d → e.get 21 = i64 ((16 - k : Nat) : Int) → 1073741824 ≤ m ∧ m ≤ 2147483647 → -((2 : Int) ^ (40 - k)) ≤ d ∧ d < 2 ^ (40 - k) → logD k m d = R →
      wpK T Q (.code L99b :: K) .normal ⟨e, h, [], none⟩ := by
  intro k
  induction k with
  | zero =>
    intro m d e hk h3 h4 h5 h19 hm hd hR
    simp only [logD] at hR
    subst hR
    refine k_loop ?_
    simp [L99b, h3, h4, h5, h19]
    exact hK _ rfl rfl
  | succ k ih =>
    intro m d e hk h3 h4 h5 h19 hm hd hR
    obtain ⟨i, hi⟩ : ∃ i : Nat, 16 - (k + 1) = i := ⟨_, rfl⟩
    rw [hi] at h19
    have hp : (2 : Int) ^ (40 - k) = 2 * 2 ^ (40 - (k + 1)) := by rw [show 40 - k = (40 - (k + 1)) + 1 from by omega, Int.pow_succ]; omega
    have hpb : (2 : Nat) ^ (40 - (k + 1)) ≤ 2 ^ 40 := Nat.pow_le_pow_right (by omega) (by omega)
    have hpc : ((2 : Int) ^ (40 - (k + 1))) = ((2 ^ (40 - (k + 1)) : Nat) : Int) := by rw [Int.natCast_pow]; rfl
    have hp0 := Nat.two_pow_pos (40 - (k + 1))
    rw [hpc] at hd hp
    have hsq := sq_b hm
    have hw1 : IntKind.i64.wrap (m * m) = m * m := w64 (by omega)
    have hf1 : (m * m).tdiv 1073741824 = m * m / 1073741824 := Int.tdiv_eq_ediv_of_nonneg (by omega)
    have hw2 : IntKind.i64.wrap (d * 2) = d * 2 := w64 (by omega)
    have hw3 : IntKind.i64.wrap (d * 2 + 1) = d * 2 + 1 := w64 (by omega)
    have hi16 : (i : Int) < 16 := by omega
    have hwi : IntKind.i64.wrap ((i : Int) + 1) = (i : Int) + 1 := w64 (by omega)
    have hi1 : ((16 - k : Nat) : Int) = (i : Int) + 1 := by omega
    refine k_loop ?_
    simp only [logD] at hR
    obtain ⟨m1, hm1⟩ : ∃ m1, m * m / 1073741824 = m1 := ⟨_, rfl⟩
    rw [hm1] at hf1 hR
    have hw5 : IntKind.i64.wrap m1 = m1 := w64 (by omega)
    have hfd2 : m1.tdiv 2 = m1 / 2 := Int.tdiv_eq_ediv_of_nonneg (by omega)
    have hw6 : IntKind.i64.wrap (m1 / 2) = m1 / 2 := w64 (by omega)
    by_cases hc : 2147483648 ≤ m1
    · rw [if_pos hc] at hR
      simp [L99b, h3, h4, h5, h19, hi16, hw1, hf1, hw2, hw3, hw5, hw6, hc, hfd2, hwi]
      exact ih (m1 / 2) (d * 2 + 1) _ (by omega) rfl rfl rfl (by rw [hi1]; rfl) (by omega) (by rw [hp]; omega) hR
    · rw [if_neg hc] at hR
      simp [L99b, h3, h4, h5, h19, hi16, hw1, hf1, hw2, hw5, hc, hwi]
      exact ih m1 (d * 2) _ (by omega) rfl rfl rfl (by rw [hi1]; rfl) (by omega) (by rw [hp]; omega) hR
end Go.Proofs.YtjlebgfbohihfaaGreat.Am

namespace Go.Proofs.YtjlebgfbohihfaaGreat.Am
open Go
set_option linter.unusedVariables false
set_option linter.unusedSimpArgs false

theorem log2_of {n k : Nat} (h1 : 2 ^ k ≤ n) (h2 : n < 2 ^ (k + 1)) : n.log2 = k := by
  have hn : n ≠ 0 := by have := Nat.two_pow_pos k; omega
  have a := (Nat.le_log2 hn).2 h1
  have b := (Nat.log2_lt hn).2 h2
  omega
theorem log2_lo {n : Nat} (hn : n ≠ 0) : 2 ^ n.log2 ≤ n := Nat.log2_self_le hn
theorem log2_hi {n : Nat} (hn : n ≠ 0) : n < 2 ^ (n.log2 + 1) := (Nat.log2_lt hn).1 (Nat.lt_succ_self _)
theorem log2_shift {n : Nat} (s : Nat) (hn : 2 ^ s ≤ n) : n.log2 = (n / 2 ^ s).log2 + s := by
  have hp := Nat.two_pow_pos s
  have hy : n / 2 ^ s ≠ 0 := by
    have := Nat.div_pos hn hp; omega
  have h1 := log2_lo hy
  have h2 := log2_hi hy
  apply log2_of
  · rw [Nat.pow_add]; exact (Nat.le_div_iff_mul_le hp).1 h1
  · rw [show (n / 2 ^ s).log2 + s + 1 = ((n / 2 ^ s).log2 + 1) + s from by omega, Nat.pow_add]; exact (Nat.div_lt_iff_lt_mul hp).1 h2
def lenTab : List UInt8 := bs [0,1,2,2,3,3,3,3,4,4,4,4,4,4,4,4,5,5,5,5,5,5,5,5,5,5,5,5,5,5,5,5,6,6,6,6,6,6,6,6,6,6,6,6,6,6,6,6,6,6,6,6,6,6,6,6,6,6,6,6,6,6,6,6,7,7,7,7,7,7,7,7,7,7,7,7,7,7,7,7,7,7,7,7,7,7,7,7,7,7,7,7,7,7,7,7,7,7,7,7,7,7,7,7,7,7,7,7,7,7,7,7,7,7,7,7,7,7,7,7,7,7,7,7,7,7,7,7,8,8,8,8,8,8,8,8,8,8,8,8,8,8,8,8,8,8,8,8,8,8,8,8,8,8,8,8,8,8,8,8,8,8,8,8,8,8,8,8,8,8,8,8,8,8,8,8,8,8,8,8,8,8,8,8,8,8,8,8,8,8,8,8,8,8,8,8,8,8,8,8,8,8,8,8,8,8,8,8,8,8,8,8,8,8,8,8,8,8,8,8,8,8,8,8,8,8,8,8,8,8,8,8,8,8,8,8,8,8,8,8,8,8,8,8,8,8,8,8,8,8,8,8,8,8,8,8]
theorem lenTab_all : (List.range 256).all (fun y => y == 0 || lenTab[y]? == some (UInt8.ofNat (y.log2 + 1))) = true := by decide +kernel
theorem lenTab_at {y : Nat} (h0 : y ≠ 0) (h : y < 256) : lenTab[y]? = some (UInt8.ofNat (y.log2 + 1)) := by
  have := List.all_eq_true.1 lenTab_all y (List.mem_range.2 h)
  rw [Bool.or_eq_true, beq_iff_eq, beq_iff_eq] at this
  exact this.resolve_left h0
/-- The function's code with its table behind a name. -/
theorem F132_eq : F132 = ⟨1,
 (.seq (.ops [o 2 (.mv (ki 0))])
 (.seq (.seq (.ops [o 3 (.mv (.t 0)),o 4 (.bin 0 .geq (.t 3) (.k (.c (.int .u32 65536))))])
 (.cond (.t 4) (.seq (.ops [o 5 (.mv (.t 0)),o 6 (.bin 0 .shr (.t 5) (.k (.c (.int .u64 16)))),o 0 (.mv (.t 6))])
 (.ops [o 2 (.mv (ki 16))]))
 .skip))
 (.seq (.seq (.ops [o 7 (.mv (.t 0)),o 8 (.bin 0 .geq (.t 7) (.k (.c (.int .u32 256))))])
 (.cond (.t 8) (.seq (.ops [o 9 (.mv (.t 0)),o 10 (.bin 0 .shr (.t 9) (.k (.c (.int .u64 8)))),o 0 (.mv (.t 10))])
 (.ops [o 11 (.mv (.t 2)),o 12 (.bin 0 .add (.t 11) (ki 8)),o 2 (.mv (.t 12))]))
 .skip))
 (.keep [0,2] (.seq (.ops [o 13 (.mv (.t 2)),o 14 (.mv (.t 0)),o 15 (.convi .u8 (.t 14)),o 16 (.ixs (.k (.c (.str lenTab))) (.t 15)),o 17 (.convi .i64 (.t 16)),o 18 (.bin 0 .add (.t 13) (.t 17)),o 2 (.mv (.t 18))])
 .ret))))),
 [.tmp 2]⟩ := rfl
theorem wu8 {x : Int} (h : 0 ≤ x ∧ x ≤ 255) : IntKind.u8.wrap x = x := by
  simp [IntKind.wrap, IntKind.bits, IntKind.signed]; omega
theorem c132 (x : Nat) (h0 : x ≠ 0) (hx : x < 2 ^ 32) (h : Hp) (Q : CallQ) (hQ : Q (i64 ((x.log2 + 1 : Nat) : Int)) h) : wpC T 132 [u32 x] h Q := by
  refine k_code (fn := F132) rfl rfl ?_
  rw [F132_eq]
  have tail : ∀ (y : Nat) (s : Nat), y ≠ 0 → y < 256 → s ≤ 24 → x.log2 = y.log2 + s → ∃ b : UInt8, IntKind.u8.wrap (y : Int) = (y : Int) ∧ lenTab[y]? = some b ∧
      IntKind.i64.wrap ((b.toNat : Nat) : Int) = (b.toNat : Int) ∧ IntKind.i64.wrap ((s : Int) + (b.toNat : Int)) = ((x.log2 + 1 : Nat) : Int) ∧ (s = 0 → (b.toNat : Int) = ((x.log2 + 1 : Nat) : Int)) := by
    intro y s y0 y1 hs he
    have hl : y.log2 < 8 := (Nat.log2_lt y0).2 (by omega)
    have hm : (UInt8.ofNat (y.log2 + 1)).toNat = y.log2 + 1 := by rw [UInt8.toNat_ofNat']; omega
    refine ⟨UInt8.ofNat (y.log2 + 1), wu8 (by omega), lenTab_at y0 y1, ?_, ?_, ?_⟩
    · rw [hm]; exact w64 (by omega)
    · rw [hm, w64 (by omega)]; omega
    · intro h0; rw [hm]; omega
  obtain ⟨R, hR⟩ : ∃ R : Int, R = ((x.log2 + 1 : Nat) : Int) := ⟨_, rfl⟩
  rw [← hR] at hQ tail
  by_cases x1 : 65536 ≤ x
  · have x1i : (65536 : Int) ≤ (x : Int) := by omega
    obtain ⟨y, hy⟩ : ∃ y, x / 65536 = y := ⟨_, rfl⟩
    have hf : (x : Int).fdiv 65536 = (y : Int) := by rw [Int.fdiv_eq_ediv_of_nonneg _ (by omega)]; omega
    have l1 : x.log2 = y.log2 + 16 := by rw [← hy]; exact log2_shift 16 x1
    by_cases y1 : 256 ≤ y
    · have y1i : (256 : Int) ≤ (y : Int) := by omega
      obtain ⟨z, hz⟩ : ∃ z, y / 256 = z := ⟨_, rfl⟩
      have hf2 : (y : Int).fdiv 256 = (z : Int) := by rw [Int.fdiv_eq_ediv_of_nonneg _ (by omega)]; omega
      have l2 : y.log2 = z.log2 + 8 := by rw [← hz]; exact log2_shift 8 y1
      obtain ⟨b, f1, f2, f3, f4, f5⟩ := tail z 24 (by omega) (by omega) (by omega) (by omega)
      simp at f4
      simp [x1i, hf, y1i, hf2, f1, f2, f3, f4, intShift, IntKind.bits]
      exact hQ
    · have y1i : ¬ (256 : Int) ≤ (y : Int) := by omega
      obtain ⟨b, f1, f2, f3, f4, f5⟩ := tail y 16 (by omega) (by omega) (by omega) (by omega)
      simp at f4
      simp [x1i, hf, y1i, f1, f2, f3, f4, intShift, IntKind.bits]
      exact hQ
  · have x1i : ¬ (65536 : Int) ≤ (x : Int) := by omega
    by_cases y1 : 256 ≤ x
    · have y1i : (256 : Int) ≤ (x : Int) := by omega
      obtain ⟨z, hz⟩ : ∃ z, x / 256 = z := ⟨_, rfl⟩
      have hf2 : (x : Int).fdiv 256 = (z : Int) := by rw [Int.fdiv_eq_ediv_of_nonneg _ (by omega)]; omega
      have l2 : x.log2 = z.log2 + 8 := by rw [← hz]; exact log2_shift 8 y1
      obtain ⟨b, f1, f2, f3, f4, f5⟩ := tail z 8 (by omega) (by omega) (by omega) (by omega)
      simp at f4
      simp [x1i, y1i, hf2, f1, f2, f3, f4, intShift, IntKind.bits]
      exact hQ
    · have y1i : ¬ (256 : Int) ≤ (x : Int) := by omega
      obtain ⟨b, f1, f2, f3, f4, f5⟩ := tail x 0 (by omega) (by omega) (by omega) (by omega)
      have f6 := f5 rfl
      simp [x1i, y1i, f1, f2, f3]
      rw [f6]
      exact hQ
end Go.Proofs.YtjlebgfbohihfaaGreat.Am

namespace Go.Proofs.YtjlebgfbohihfaaGreat.Am
open Go
set_option linter.unusedVariables false
set_option linter.unusedSimpArgs false

/-- The logarithm. -/
def logS (x : Int) : Int := if x ≤ 0 then -2147483648 else IntKind.i32.wrap (logD 16 (x * 2 ^ (30 - x.toNat.log2)) ((x.toNat.log2 : Int) - 16))
theorem logS_I32 (x : Int) : I32 (logS x) := by
  unfold logS; split
  · unfold I32; omega
  · exact wrap_I32 _
/-- The number, with its first digit at place 30. -/
theorem first_at {k : Nat} (k0 : k ≠ 0) (hk : k ≤ 2147483647) : k.log2 ≤ 30 ∧ 1073741824 ≤ k * 2 ^ (30 - k.log2) ∧ k * 2 ^ (30 - k.log2) ≤ 2147483647 := by
  have h1 := log2_lo k0
  have h2 := log2_hi k0
  have hl : k.log2 ≤ 30 := by have := (Nat.log2_lt k0 (k := 31)).2 (by omega); omega
  obtain ⟨e, he⟩ : ∃ e, k.log2 = e := ⟨_, rfl⟩
  rw [he] at h1 h2 hl ⊢
  have a1 := Nat.mul_le_mul_right (2 ^ (30 - e)) h1
  have a2 := Nat.mul_lt_mul_of_pos_right h2 (Nat.two_pow_pos (30 - e))
  rw [← Nat.pow_add, show e + (30 - e) = 30 from by omega] at a1
  rw [← Nat.pow_add, show e + 1 + (30 - e) = 31 from by omega] at a2
  exact ⟨hl, a1, by omega⟩
theorem logD_b : ∀ (k : Nat) (m : Int), 0 ≤ logD k m 0 ∧ logD k m 0 < 2 ^ k
  | 0, m => by simp [logD]
  | k + 1, m => by
    have hp : (2 : Int) ^ (k + 1) = 2 * 2 ^ k := by rw [Int.pow_succ]; omega
    have hp0 : (0 : Int) < 2 ^ k := Int.pow_pos (by omega)
    rw [hp]
    simp only [logD]
    split
    · have := logD_b k (m * m / 1073741824 / 2)
      rw [logD_from]; omega
    · have := logD_b k (m * m / 1073741824)
      rw [logD_from]; omega
section
variable (h : Hp) (Q : CallQ)
theorem c73 (x : Int) (hx : I32 x) (hQ : Q (fx (logS x)) h) : wpC T 73 [fx x] h Q := by
  refine k_code (fn := F73) rfl rfl ?_
  by_cases h0 : x ≤ 0
  · simp [logS, h0] at hQ; simp [F73, h0]; exact hQ
  · rw [logS, if_neg h0] at hQ
    obtain ⟨k, rfl⟩ := Int.eq_ofNat_of_zero_le (show 0 ≤ x by omega)
    have hk : k ≤ 2147483647 := by have := hx.2; omega
    have k0 : k ≠ 0 := by omega
    rw [Int.toNat_natCast] at hQ
    obtain ⟨hl, hm1, hm2⟩ := first_at k0 hk
    obtain ⟨e, he⟩ : ∃ e, k.log2 = e := ⟨_, rfl⟩
    have e1 : IntKind.u32.wrap (k : Int) = (k : Int) := wu32 (by omega)
    have e2 : IntKind.i64.wrap (k : Int) = (k : Int) := w64 (by omega)
    simp [F73, k0, e1]
    refine k_call ?_; simp
    refine c132 k k0 (by omega) _ _ ?_
    rw [he] at hl hm1 hm2 hQ ⊢
    have e3 : IntKind.i64.wrap ((e : Int)) = (e : Int) := w64 (by omega)
    obtain ⟨m, hm⟩ : ∃ m : Nat, 30 - e = m := ⟨_, rfl⟩
    rw [hm] at hm1 hm2 hQ
    have e4 : IntKind.i64.wrap (30 - (e : Int)) = (m : Int) := by rw [w64 (by omega)]; omega
    have e5 : min m 64 = m := by omega
    have e6 : ¬ (m : Int) < 0 := by omega
    have hpc : ((2 : Int) ^ m) = ((2 ^ m : Nat) : Int) := by rw [Int.natCast_pow]; rfl
    have e7 : IntKind.i64.wrap ((k : Int) * 2 ^ m) = (k : Int) * 2 ^ m := by rw [hpc, ← Int.natCast_mul]; exact w64 (by omega)
    have e8 : IntKind.i64.wrap ((e : Int) - 16) = (e : Int) - 16 := w64 (by omega)
    have hb : 1073741824 ≤ (k : Int) * 2 ^ m ∧ (k : Int) * 2 ^ m ≤ 2147483647 := by rw [hpc, ← Int.natCast_mul]; omega
    have hd16 : -((2 : Int) ^ (40 - 16)) ≤ (e : Int) - 16 ∧ (e : Int) - 16 < 2 ^ (40 - 16) := by rw [show (2 : Int) ^ (40 - 16) = 16777216 from by decide]; omega
    simp [e2, e3, e4, e5, e6, e7, e8, intShift, IntKind.bits]
    refine loop73 (R := logD 16 ((k : Int) * 2 ^ m) ((e : Int) - 16)) (fun e' g5 => ?_) 16 _ _ _ (by omega) rfl rfl rfl hb hd16 rfl
    simp [g5]
    exact hQ
theorem loop99 {Q : AExit → St → Prop} {K : List KI} {h : Hp} {k : Nat} (k0 : k ≠ 0) (hk : k ≤ 2147483647) (hK : ∀ (e : Env), e.get 0 = fx k → e.get 3 = i64 (k.log2 : Int) → wpK T Q K (.exit 0) ⟨e, h, [], none⟩) :
    ∀ (d i : Nat) (e : Env), i + d = k.log2 → e.get 0 = fx k → e.get 3 = i64 (i : Int) → wpK T Q (.code L99 :: K) .normal ⟨e, h, [], none⟩ := by
  have hl := (first_at k0 hk).1
  have e2 : IntKind.i64.wrap (k : Int) = (k : Int) := w64 (by omega)
  intro d
  induction d with
  | zero =>
    intro i e hi g0 g3
    have hi : i = k.log2 := by omega
    refine k_loop ?_
    have a := log2_hi k0
    rw [← hi] at a hl hK
    have hpb : (2 : Nat) ^ (i + 1) ≤ 2 ^ 31 := Nat.pow_le_pow_right (by omega) (by omega)
    have hpc : ((2 : Int) ^ (i + 1)) = ((2 ^ (i + 1) : Nat) : Int) := by rw [Int.natCast_pow]; rfl
    have e3 : IntKind.i64.wrap ((i : Int) + 1) = ((i + 1 : Nat) : Int) := by rw [w64 (by omega)]; omega
    have e5 : min (i + 1) 64 = i + 1 := by omega
    have e6 : ¬ ((i + 1 : Nat) : Int) < 0 := by omega
    have e7 : IntKind.i64.wrap ((2 : Int) ^ (i + 1)) = (2 : Int) ^ (i + 1) := by rw [hpc]; exact w64 (by omega)
    have hc : ¬ (2 : Int) ^ (i + 1) ≤ (k : Int) := by rw [hpc]; omega
    obtain ⟨j, hj⟩ : ∃ j, i + 1 = j := ⟨_, rfl⟩
    rw [hj] at e3 e5 e6 e7 hc
    simp [L99, g0, g3, e2, e3, e5, e6, e7, hc, intShift, IntKind.bits]
    exact hK _ rfl rfl
  | succ d ih =>
    intro i e hi g0 g3
    refine k_loop ?_
    have a := log2_lo k0
    have hpb : (2 : Nat) ^ (i + 1) ≤ 2 ^ k.log2 := Nat.pow_le_pow_right (by omega) (by omega)
    have hp0 := Nat.two_pow_pos (i + 1)
    have hpb2 : (2 : Nat) ^ (i + 1) ≤ 2 ^ 31 := Nat.pow_le_pow_right (by omega) (by omega)
    have hpc : ((2 : Int) ^ (i + 1)) = ((2 ^ (i + 1) : Nat) : Int) := by rw [Int.natCast_pow]; rfl
    have e3 : IntKind.i64.wrap ((i : Int) + 1) = ((i + 1 : Nat) : Int) := by rw [w64 (by omega)]; omega
    have e5 : min (i + 1) 64 = i + 1 := by omega
    have e6 : ¬ ((i + 1 : Nat) : Int) < 0 := by omega
    have e7 : IntKind.i64.wrap ((2 : Int) ^ (i + 1)) = (2 : Int) ^ (i + 1) := by rw [hpc]; exact w64 (by omega)
    have hc : (2 : Int) ^ (i + 1) ≤ (k : Int) := by rw [hpc]; omega
    obtain ⟨j, hj⟩ : ∃ j, i + 1 = j := ⟨_, rfl⟩
    rw [hj] at e3 e5 e6 e7 hc
    simp [L99, g0, g3, e2, e3, e5, e6, e7, hc, intShift, IntKind.bits]
    exact ih j _ (by omega) rfl rfl
theorem c99 (x : Int) (hx : I32 x) (hQ : Q (fx (logS x)) h) : wpC T 99 [fx x] h Q := by
  refine k_code (fn := F99) rfl rfl ?_
  by_cases h0 : x ≤ 0
  · simp [logS, h0] at hQ; simp [F99, h0]; exact hQ
  · rw [logS, if_neg h0] at hQ
    obtain ⟨k, rfl⟩ := Int.eq_ofNat_of_zero_le (show 0 ≤ x by omega)
    have hk : k ≤ 2147483647 := by have := hx.2; omega
    have k0 : k ≠ 0 := by omega
    rw [Int.toNat_natCast] at hQ
    obtain ⟨hl, hm1, hm2⟩ := first_at k0 hk
    have e2 : IntKind.i64.wrap (k : Int) = (k : Int) := w64 (by omega)
    simp [F99, k0]
    refine loop99 k0 hk (fun e' g0 g3 => ?_) k.log2 0 _ (by omega) rfl rfl
    obtain ⟨e, he⟩ : ∃ e, k.log2 = e := ⟨_, rfl⟩
    rw [he] at hl hm1 hm2 hQ g3
    obtain ⟨m, hm⟩ : ∃ m : Nat, 30 - e = m := ⟨_, rfl⟩
    rw [hm] at hm1 hm2 hQ
    have e4 : IntKind.i64.wrap (30 - (e : Int)) = (m : Int) := by rw [w64 (by omega)]; omega
    have e5 : min m 64 = m := by omega
    have e6 : ¬ (m : Int) < 0 := by omega
    have hpc : ((2 : Int) ^ m) = ((2 ^ m : Nat) : Int) := by rw [Int.natCast_pow]; rfl
    have e7 : IntKind.i64.wrap ((k : Int) * 2 ^ m) = (k : Int) * 2 ^ m := by rw [hpc, ← Int.natCast_mul]; exact w64 (by omega)
    have e8 : IntKind.i64.wrap ((e : Int) - 16) = (e : Int) - 16 := w64 (by omega)
    have e9 : IntKind.i64.wrap (((e : Int) - 16) * 65536) = ((e : Int) - 16) * 65536 := w64 (by omega)
    have hb : 1073741824 ≤ (k : Int) * 2 ^ m ∧ (k : Int) * 2 ^ m ≤ 2147483647 := by rw [hpc, ← Int.natCast_mul]; omega
    simp [g0, g3, e2, e4, e5, e6, e7, intShift, IntKind.bits]
    refine loop99b (n := (e : Int)) (R := logD 16 ((k : Int) * 2 ^ m) 0) (fun e' g3 g5 => ?_) 16 _ _ _ (by omega) rfl rfl rfl rfl hb (by decide) rfl
    rw [logD_from] at hQ
    obtain ⟨R, hR⟩ : ∃ R, logD 16 ((k : Int) * 2 ^ m) 0 = R := ⟨_, rfl⟩
    have hRb := logD_b 16 ((k : Int) * 2 ^ m)
    rw [hR] at hQ hRb g5
    rw [show (2 : Int) ^ 16 = 65536 from by decide] at hQ hRb
    have ea : IntKind.i64.wrap (((e : Int) - 16) * 65536 + R) = ((e : Int) - 16) * 65536 + R := w64 (by omega)
    simp [g3, g5, e8, e9, ea]
    exact hQ
/-- The power. -/
def powS (x y : Int) : Int := if x ≤ 0 then 0 else expS (mulS y (logS x))
theorem powS_I32 (x y : Int) : I32 (powS x y) := by
  unfold powS; split
  · unfold I32; omega
  · exact expS_I32 _
theorem c31 (x y : Int) (hx : I32 x) (hy : I32 y) (hQ : ∀ h', Ext h h' → Q (fx (powS x y)) h') : wpC T 31 [fx x, fx y] h Q := by
  refine k_code (fn := F31) rfl rfl ?_
  by_cases h0 : x ≤ 0
  · simp [powS, h0] at hQ; simp [F31, h0]; exact hQ _ (Ext.refl h)
  · rw [powS, if_neg h0] at hQ
    simp [F31, h0]
    refine k_call ?_; simp
    refine c73 _ _ x hx ?_
    try simp
    refine k_call ?_; simp
    refine c72 _ _ y _ hy (logS_I32 x) ?_
    try simp
    refine k_call ?_; simp
    refine c71 _ (mulS_I32 _ _) _ _ fun h' hx' => ?_
    first | exact hQ _ hx' | (simp; exact hQ _ hx')
theorem c51 (x y : Int) (hx : I32 x) (hy : I32 y) (hQ : ∀ h', Ext h h' → Q (fx (powS x y)) h') : wpC T 51 [fx x, fx y] h Q := by
  refine k_code (fn := F51) rfl rfl ?_
  by_cases h0 : x ≤ 0
  · simp [powS, h0] at hQ; simp [F51, h0]; exact hQ _ (Ext.refl h)
  · rw [powS, if_neg h0] at hQ
    simp [F51, h0]
    refine k_call ?_; simp
    refine c99 _ _ x hx ?_
    try simp
    refine k_call ?_; simp
    refine c96 _ _ y _ hy (logS_I32 x) ?_
    try simp
    refine k_call ?_; simp
    refine c98 _ (mulS_I32 _ _) _ _ fun h' hx' => ?_
    first | exact hQ _ hx' | (simp; exact hQ _ hx')
end
end Go.Proofs.YtjlebgfbohihfaaGreat.Am

namespace Go.Proofs.YtjlebgfbohihfaaGreat.Am
open Go
set_option linter.unusedVariables false
set_option linter.unusedSimpArgs false

def sinY (s : Int) : Int := 1686629713 - (693598668 - (85569306 - (5026995 - 172272 * s / 1073741824) * s / 1073741824) * s / 1073741824) * s / 1073741824
def sineS (p : Int) : Int :=
  let q := p / 1073741824
  let r := if q % 2 = 1 then 1073741824 - p % 1073741824 else p % 1073741824
  let z0 := (sinY (r * r / 1073741824) * r / 1073741824 + 8192) / 16384
  let z := if 65536 < z0 then 65536 else z0
  IntKind.i32.wrap (if 2 ≤ q then -z else z)
def phaseS (x : Int) : Int := (x * 683565276 / 65536) % 4294967296
theorem sineS_I32 (p : Int) : I32 (sineS p) := wrap_I32 _
theorem ms {y s C : Int} (hy : 0 ≤ y ∧ y ≤ C) (hC : C ≤ 2147483648) (hs : 0 ≤ s ∧ s ≤ 1073741824) :
    0 ≤ y * s ∧ y * s ≤ 2305843009213693952 ∧ 0 ≤ y * s / 1073741824 ∧ y * s / 1073741824 ≤ C ∧ IntKind.i64.wrap (y * s) = y * s ∧ (y * s).fdiv 1073741824 = y * s / 1073741824 := by
  have h1 : 0 ≤ y * s := Int.mul_nonneg hy.1 hs.1
  have h2 : y * s ≤ C * 1073741824 := Int.mul_le_mul hy.2 hs.2 hs.1 (by omega)
  have h3 : y * s / 1073741824 ≤ C := by
    have := Int.ediv_le_ediv (show (0 : Int) < 1073741824 by omega) h2
    rwa [Int.mul_ediv_cancel _ (by omega)] at this
  refine ⟨h1, by omega, by omega, h3, w64 (by omega), Int.fdiv_eq_ediv_of_nonneg _ (by omega)⟩
/-- What a sine is made of. -/
structure Sin (r : Int) (s a1 y1 a2 y2 a3 y3 a4 y4 a5 z0 z : Int) : Prop where
  rr : IntKind.i64.wrap (r * r) = r * r
  es : (r * r).fdiv 1073741824 = s
  es' : r * r / 1073741824 = s
  m1 : IntKind.i64.wrap (172272 * s) = 172272 * s
  ea1 : (172272 * s).fdiv 1073741824 = a1
  ea1' : 172272 * s / 1073741824 = a1
  ey1 : IntKind.i64.wrap (5026995 - a1) = y1
  m2 : IntKind.i64.wrap (y1 * s) = y1 * s
  ea2 : (y1 * s).fdiv 1073741824 = a2
  ea2' : y1 * s / 1073741824 = a2
  ey2 : IntKind.i64.wrap (85569306 - a2) = y2
  m3 : IntKind.i64.wrap (y2 * s) = y2 * s
  ea3 : (y2 * s).fdiv 1073741824 = a3
  ea3' : y2 * s / 1073741824 = a3
  ey3 : IntKind.i64.wrap (693598668 - a3) = y3
  m4 : IntKind.i64.wrap (y3 * s) = y3 * s
  ea4 : (y3 * s).fdiv 1073741824 = a4
  ea4' : y3 * s / 1073741824 = a4
  ey4 : IntKind.i64.wrap (1686629713 - a4) = y4
  m5 : IntKind.i64.wrap (y4 * r) = y4 * r
  ea5 : (y4 * r).fdiv 1073741824 = a5
  ea5' : y4 * r / 1073741824 = a5
  w5 : IntKind.i64.wrap (a5 + 8192) = a5 + 8192
  ez0 : (a5 + 8192).fdiv 16384 = z0
  ez0' : (a5 + 8192) / 16384 = z0
  zE : z = if 65536 < z0 then 65536 else z0
  zw : IntKind.i64.wrap z = z
  zn : IntKind.i64.wrap (-z) = -z
  b1 : 0 ≤ r * r ∧ r * r ≤ 4611686018427387904
  b2 : 0 ≤ s ∧ s ≤ 1073741824
  c1 : 0 ≤ 172272 * s ∧ 172272 * s ≤ 4611686018427387904
  c2 : 0 ≤ y1 * s ∧ y1 * s ≤ 4611686018427387904
  c3 : 0 ≤ y2 * s ∧ y2 * s ≤ 4611686018427387904
  c4 : 0 ≤ y3 * s ∧ y3 * s ≤ 4611686018427387904
  c5 : 0 ≤ y4 * r ∧ y4 * r ≤ 4611686018427387904
  c6 : 0 ≤ a5 + 8192 ∧ a5 + 8192 ≤ 4611686018427387904
  all : (if 65536 < (sinY (r * r / 1073741824) * r / 1073741824 + 8192) / 16384 then 65536 else (sinY (r * r / 1073741824) * r / 1073741824 + 8192) / 16384) = z
theorem sin_parts {r : Int} (hr : 0 ≤ r ∧ r ≤ 1073741824) : ∃ s a1 y1 a2 y2 a3 y3 a4 y4 a5 z0 z, Sin r s a1 y1 a2 y2 a3 y3 a4 y4 a5 z0 z := by
  obtain ⟨r1, r2, r3, r4, r5, r6⟩ := ms (C := 1073741824) hr (by omega) hr
  obtain ⟨s, hs⟩ : ∃ s, r * r / 1073741824 = s := ⟨_, rfl⟩
  rw [hs] at r3 r4 r6
  have sb : 0 ≤ s ∧ s ≤ 1073741824 := ⟨r3, r4⟩
  obtain ⟨p1, p2, p3, p4, p5, p6⟩ := ms (y := 172272) (C := 172272) (by omega) (by omega) sb
  obtain ⟨a1, ha1⟩ : ∃ a, 172272 * s / 1073741824 = a := ⟨_, rfl⟩
  rw [ha1] at p3 p4 p6
  obtain ⟨q1, q2, q3, q4, q5, q6⟩ := ms (y := 5026995 - a1) (C := 5026995) (by omega) (by omega) sb
  obtain ⟨y1, hy1⟩ : ∃ y, 5026995 - a1 = y := ⟨_, rfl⟩
  rw [hy1] at q1 q2 q3 q4 q5 q6
  obtain ⟨a2, ha2⟩ : ∃ a, y1 * s / 1073741824 = a := ⟨_, rfl⟩
  rw [ha2] at q3 q4 q6
  obtain ⟨t1, t2, t3, t4, t5, t6⟩ := ms (y := 85569306 - a2) (C := 85569306) (by omega) (by omega) sb
  obtain ⟨y2, hy2⟩ : ∃ y, 85569306 - a2 = y := ⟨_, rfl⟩
  rw [hy2] at t1 t2 t3 t4 t5 t6
  obtain ⟨a3, ha3⟩ : ∃ a, y2 * s / 1073741824 = a := ⟨_, rfl⟩
  rw [ha3] at t3 t4 t6
  obtain ⟨u1, u2, u3, u4, u5, u6⟩ := ms (y := 693598668 - a3) (C := 693598668) (by omega) (by omega) sb
  obtain ⟨y3, hy3⟩ : ∃ y, 693598668 - a3 = y := ⟨_, rfl⟩
  rw [hy3] at u1 u2 u3 u4 u5 u6
  obtain ⟨a4, ha4⟩ : ∃ a, y3 * s / 1073741824 = a := ⟨_, rfl⟩
  rw [ha4] at u3 u4 u6
  obtain ⟨v1, v2, v3, v4, v5, v6⟩ := ms (y := 1686629713 - a4) (C := 1686629713) (by omega) (by omega) hr
  obtain ⟨y4, hy4⟩ : ∃ y, 1686629713 - a4 = y := ⟨_, rfl⟩
  rw [hy4] at v1 v2 v3 v4 v5 v6
  obtain ⟨a5, ha5⟩ : ∃ a, y4 * r / 1073741824 = a := ⟨_, rfl⟩
  rw [ha5] at v3 v4 v6
  obtain ⟨z0, hz0⟩ : ∃ z, (a5 + 8192) / 16384 = z := ⟨_, rfl⟩
  have hzf : (a5 + 8192).fdiv 16384 = z0 := by rw [Int.fdiv_eq_ediv_of_nonneg _ (by omega), hz0]
  obtain ⟨z, hz⟩ : ∃ z, z = if 65536 < z0 then 65536 else z0 := ⟨_, rfl⟩
  have hzb : 0 ≤ z ∧ z ≤ 65536 := by rw [hz]; split <;> omega
  have hall : sinY s = y4 := by unfold sinY; rw [ha1, hy1, ha2, hy2, ha3, hy3, ha4, hy4]
  exact ⟨s, a1, y1, a2, y2, a3, y3, a4, y4, a5, z0, z, ⟨r5, r6, hs, p5, p6, ha1, by rw [w64 (by omega), hy1], q5, q6, ha2, by rw [w64 (by omega), hy2], t5, t6, ha3, by rw [w64 (by omega), hy3],
    u5, u6, ha4, by rw [w64 (by omega), hy4], v5, v6, ha5, w64 (by omega), hzf, hz0, hz, w64 (by omega), w64 (by omega), by omega, sb, by omega, by omega, by omega, by omega, by omega, by omega, by rw [hs, hall, ha5, hz0, hz]⟩⟩
theorem and_30 {v : Int} : IntKind.u32.wrap ((BitVec.ofInt 32 v &&& BitVec.ofInt 32 1073741823).toNat : Int) = v % 1073741824 := by
  have h1 : (BitVec.ofInt 32 v &&& BitVec.ofInt 32 1073741823).toNat = (v % 1073741824).toNat := by
    rw [BitVec.toNat_and, BitVec.toNat_ofInt, BitVec.toNat_ofInt]
    rw [show ((1073741823 : Int) % ((2 ^ 32 : Nat) : Int)).toNat = 2 ^ 30 - 1 from by decide, Nat.and_two_pow_sub_one_eq_mod]
    omega
  rw [h1]
  have : ((v % 1073741824).toNat : Int) = v % 1073741824 := by omega
  rw [this]
  exact wu32 (by omega)
theorem q_cases {p : Int} (hp : 0 ≤ p ∧ p < 4294967296) : p / 1073741824 = 0 ∨ p / 1073741824 = 1 ∨ p / 1073741824 = 2 ∨ p / 1073741824 = 3 := by omega
section
variable (h : Hp) (Q : CallQ)
theorem c134 (p : Int) (hp : 0 ≤ p ∧ p < 4294967296) (hQ : Q (fx (sineS p)) h) : wpC T 134 [u32 p] h Q := by
  refine k_code (fn := F134) rfl rfl ?_
  have f1 : p.fdiv 1073741824 = p / 1073741824 := Int.fdiv_eq_ediv_of_nonneg _ (by omega)
  have ha : IntKind.u32.wrap ((BitVec.ofInt IntKind.u32.bits p &&& BitVec.ofInt IntKind.u32.bits 1073741823).toNat : Int) = p % 1073741824 := and_30
  simp [IntKind.bits] at ha
  obtain ⟨r0, hr0⟩ : ∃ r0, p % 1073741824 = r0 := ⟨_, rfl⟩
  have hrb : 0 ≤ r0 ∧ r0 < 1073741824 := by omega
  have g1 : IntKind.i64.wrap r0 = r0 := w64 (by omega)
  have o1 : IntKind.u32.wrap ((BitVec.ofInt IntKind.u32.bits 1 &&& BitVec.ofInt IntKind.u32.bits 1).toNat : Int) = 1 := by decide
  have o3 : IntKind.u32.wrap ((BitVec.ofInt IntKind.u32.bits 3 &&& BitVec.ofInt IntKind.u32.bits 1).toNat : Int) = 1 := by decide
  have o0 : IntKind.u32.wrap ((BitVec.ofInt IntKind.u32.bits 0 &&& BitVec.ofInt IntKind.u32.bits 1).toNat : Int) = 0 := by decide
  have o2 : IntKind.u32.wrap ((BitVec.ofInt IntKind.u32.bits 2 &&& BitVec.ofInt IntKind.u32.bits 1).toNat : Int) = 0 := by decide
  simp [IntKind.bits] at o0 o1 o2 o3
  rw [hr0] at ha
  simp only [sineS] at hQ
  rw [hr0] at hQ
  rcases q_cases hp with hq | hq | hq | hq
  · rw [hq] at f1 hQ
    rw [if_neg (show ¬ ((0 : Int) % 2 = 1) by decide)] at hQ
    obtain ⟨s, a1, y1, a2, y2, a3, y3, a4, y4, a5, z0, z, S⟩ := sin_parts (r := r0) (by omega)
    rw [S.all, if_neg (show ¬ ((2 : Int) ≤ 0) by decide)] at hQ
    simp [F134, f1, ha, g1, intShift, IntKind.bits, o0, o1, o2, o3, S.rr, S.es]
    refine k_loop ?_
    simp [S.m1, S.ea1, S.ey1, intShift, IntKind.bits]
    refine k_loop ?_
    simp [S.m2, S.ea2, S.ey2, intShift, IntKind.bits]
    refine k_loop ?_
    simp [S.m3, S.ea3, S.ey3, intShift, IntKind.bits]
    refine k_loop ?_
    simp [S.m4, S.ea4, S.ey4, intShift, IntKind.bits]
    refine k_loop ?_
    simp [S.m5, S.ea5, S.w5, S.ez0, ← S.zE, S.zn, intShift, IntKind.bits]
    exact hQ
  · rw [hq] at f1 hQ
    rw [if_pos (show ((1 : Int) % 2 = 1) by decide)] at hQ
    obtain ⟨s, a1, y1, a2, y2, a3, y3, a4, y4, a5, z0, z, S⟩ := sin_parts (r := 1073741824 - r0) (by omega)
    rw [S.all, if_neg (show ¬ ((2 : Int) ≤ 1) by decide)] at hQ
    obtain ⟨r, hr⟩ : ∃ r, 1073741824 - r0 = r := ⟨_, rfl⟩
    have g2 : IntKind.i64.wrap (1073741824 - r0) = r := by rw [w64 (by omega)]; exact hr
    rw [hr] at S
    simp [F134, f1, ha, g1, g2, intShift, IntKind.bits, o0, o1, o2, o3, S.rr, S.es]
    refine k_loop ?_
    simp [S.m1, S.ea1, S.ey1, intShift, IntKind.bits]
    refine k_loop ?_
    simp [S.m2, S.ea2, S.ey2, intShift, IntKind.bits]
    refine k_loop ?_
    simp [S.m3, S.ea3, S.ey3, intShift, IntKind.bits]
    refine k_loop ?_
    simp [S.m4, S.ea4, S.ey4, intShift, IntKind.bits]
    refine k_loop ?_
    simp [S.m5, S.ea5, S.w5, S.ez0, ← S.zE, S.zn, intShift, IntKind.bits]
    exact hQ
  · rw [hq] at f1 hQ
    rw [if_neg (show ¬ ((2 : Int) % 2 = 1) by decide)] at hQ
    obtain ⟨s, a1, y1, a2, y2, a3, y3, a4, y4, a5, z0, z, S⟩ := sin_parts (r := r0) (by omega)
    rw [S.all, if_pos (show ((2 : Int) ≤ 2) by decide)] at hQ
    simp [F134, f1, ha, g1, intShift, IntKind.bits, o0, o1, o2, o3, S.rr, S.es]
    refine k_loop ?_
    simp [S.m1, S.ea1, S.ey1, intShift, IntKind.bits]
    refine k_loop ?_
    simp [S.m2, S.ea2, S.ey2, intShift, IntKind.bits]
    refine k_loop ?_
    simp [S.m3, S.ea3, S.ey3, intShift, IntKind.bits]
    refine k_loop ?_
    simp [S.m4, S.ea4, S.ey4, intShift, IntKind.bits]
    refine k_loop ?_
    simp [S.m5, S.ea5, S.w5, S.ez0, ← S.zE, S.zn, intShift, IntKind.bits]
    exact hQ
  · rw [hq] at f1 hQ
    rw [if_pos (show ((3 : Int) % 2 = 1) by decide)] at hQ
    obtain ⟨s, a1, y1, a2, y2, a3, y3, a4, y4, a5, z0, z, S⟩ := sin_parts (r := 1073741824 - r0) (by omega)
    rw [S.all, if_pos (show ((2 : Int) ≤ 3) by decide)] at hQ
    obtain ⟨r, hr⟩ : ∃ r, 1073741824 - r0 = r := ⟨_, rfl⟩
    have g2 : IntKind.i64.wrap (1073741824 - r0) = r := by rw [w64 (by omega)]; exact hr
    rw [hr] at S
    simp [F134, f1, ha, g1, g2, intShift, IntKind.bits, o0, o1, o2, o3, S.rr, S.es]
    refine k_loop ?_
    simp [S.m1, S.ea1, S.ey1, intShift, IntKind.bits]
    refine k_loop ?_
    simp [S.m2, S.ea2, S.ey2, intShift, IntKind.bits]
    refine k_loop ?_
    simp [S.m3, S.ea3, S.ey3, intShift, IntKind.bits]
    refine k_loop ?_
    simp [S.m4, S.ea4, S.ey4, intShift, IntKind.bits]
    refine k_loop ?_
    simp [S.m5, S.ea5, S.w5, S.ez0, ← S.zE, S.zn, intShift, IntKind.bits]
    exact hQ
theorem c137w_30 (n : Int) {m : Int} (hm : n / 1073741824 = m) (hn : 0 ≤ n ∧ n ≤ 4611686018427387904) (hQ : Q (i64 m) h) : wpC T 137 [i64 n, i64 30] h Q :=
  c137_30 n (by omega) h Q (by rw [hm]; exact hQ)
theorem c137w_14 (n : Int) {m : Int} (hm : n / 16384 = m) (hn : 0 ≤ n ∧ n ≤ 4611686018427387904) (hQ : Q (i64 m) h) : wpC T 137 [i64 n, i64 14] h Q :=
  c137_14 n (by omega) h Q (by rw [hm]; exact hQ)
theorem c139 (p : Int) (hp : 0 ≤ p ∧ p < 4294967296) (hQ : Q (fx (sineS p)) h) : wpC T 139 [i64 p] h Q := by
  refine k_code (fn := F139) rfl rfl ?_
  have f1 : p.tdiv 1073741824 = p / 1073741824 := Int.tdiv_eq_ediv_of_nonneg (by omega)
  have f2 : p.tmod 1073741824 = p % 1073741824 := Int.tmod_eq_emod_of_nonneg (by omega)
  obtain ⟨r0, hr0⟩ : ∃ r0, p % 1073741824 = r0 := ⟨_, rfl⟩
  have hrb : 0 ≤ r0 ∧ r0 < 1073741824 := by omega
  rw [hr0] at f2
  simp only [sineS] at hQ
  rw [hr0] at hQ
  rcases q_cases hp with hq | hq | hq | hq
  · rw [hq] at f1 hQ
    rw [if_neg (show ¬ ((0 : Int) % 2 = 1) by decide)] at hQ
    obtain ⟨s, a1, y1, a2, y2, a3, y3, a4, y4, a5, z0, z, S⟩ := sin_parts (r := r0) (by omega)
    rw [S.all, if_neg (show ¬ ((2 : Int) ≤ 0) by decide)] at hQ
    simp [F139, f1, f2, S.rr]
    refine k_call ?_; simp
    refine c137w_30 _ _ _ S.es' S.b1 ?_
    try simp
    refine k_loop ?_
    simp [S.m1]
    refine k_call ?_; simp
    refine c137w_30 _ _ _ S.ea1' S.c1 ?_
    simp [S.ey1]
    refine k_loop ?_
    simp [S.m2]
    refine k_call ?_; simp
    refine c137w_30 _ _ _ S.ea2' S.c2 ?_
    simp [S.ey2]
    refine k_loop ?_
    simp [S.m3]
    refine k_call ?_; simp
    refine c137w_30 _ _ _ S.ea3' S.c3 ?_
    simp [S.ey3]
    refine k_loop ?_
    simp [S.m4]
    refine k_call ?_; simp
    refine c137w_30 _ _ _ S.ea4' S.c4 ?_
    simp [S.ey4]
    refine k_loop ?_
    simp [S.m5]
    refine k_call ?_; simp
    refine c137w_30 _ _ _ S.ea5' S.c5 ?_
    simp [S.w5]
    refine k_call ?_; simp
    refine c137w_14 _ _ _ S.ez0' S.c6 ?_
    simp [← S.zE, S.zn]
    exact hQ
  · rw [hq] at f1 hQ
    rw [if_pos (show ((1 : Int) % 2 = 1) by decide)] at hQ
    obtain ⟨s, a1, y1, a2, y2, a3, y3, a4, y4, a5, z0, z, S⟩ := sin_parts (r := 1073741824 - r0) (by omega)
    rw [S.all, if_neg (show ¬ ((2 : Int) ≤ 1) by decide)] at hQ
    obtain ⟨r, hr⟩ : ∃ r, 1073741824 - r0 = r := ⟨_, rfl⟩
    have g2 : IntKind.i64.wrap (1073741824 - r0) = r := by rw [w64 (by omega)]; exact hr
    rw [hr] at S
    simp [F139, f1, f2, g2, S.rr]
    refine k_call ?_; simp
    refine c137w_30 _ _ _ S.es' S.b1 ?_
    try simp
    refine k_loop ?_
    simp [S.m1]
    refine k_call ?_; simp
    refine c137w_30 _ _ _ S.ea1' S.c1 ?_
    simp [S.ey1]
    refine k_loop ?_
    simp [S.m2]
    refine k_call ?_; simp
    refine c137w_30 _ _ _ S.ea2' S.c2 ?_
    simp [S.ey2]
    refine k_loop ?_
    simp [S.m3]
    refine k_call ?_; simp
    refine c137w_30 _ _ _ S.ea3' S.c3 ?_
    simp [S.ey3]
    refine k_loop ?_
    simp [S.m4]
    refine k_call ?_; simp
    refine c137w_30 _ _ _ S.ea4' S.c4 ?_
    simp [S.ey4]
    refine k_loop ?_
    simp [S.m5]
    refine k_call ?_; simp
    refine c137w_30 _ _ _ S.ea5' S.c5 ?_
    simp [S.w5]
    refine k_call ?_; simp
    refine c137w_14 _ _ _ S.ez0' S.c6 ?_
    simp [← S.zE, S.zn]
    exact hQ
  · rw [hq] at f1 hQ
    rw [if_neg (show ¬ ((2 : Int) % 2 = 1) by decide)] at hQ
    obtain ⟨s, a1, y1, a2, y2, a3, y3, a4, y4, a5, z0, z, S⟩ := sin_parts (r := r0) (by omega)
    rw [S.all, if_pos (show ((2 : Int) ≤ 2) by decide)] at hQ
    simp [F139, f1, f2, S.rr]
    refine k_call ?_; simp
    refine c137w_30 _ _ _ S.es' S.b1 ?_
    try simp
    refine k_loop ?_
    simp [S.m1]
    refine k_call ?_; simp
    refine c137w_30 _ _ _ S.ea1' S.c1 ?_
    simp [S.ey1]
    refine k_loop ?_
    simp [S.m2]
    refine k_call ?_; simp
    refine c137w_30 _ _ _ S.ea2' S.c2 ?_
    simp [S.ey2]
    refine k_loop ?_
    simp [S.m3]
    refine k_call ?_; simp
    refine c137w_30 _ _ _ S.ea3' S.c3 ?_
    simp [S.ey3]
    refine k_loop ?_
    simp [S.m4]
    refine k_call ?_; simp
    refine c137w_30 _ _ _ S.ea4' S.c4 ?_
    simp [S.ey4]
    refine k_loop ?_
    simp [S.m5]
    refine k_call ?_; simp
    refine c137w_30 _ _ _ S.ea5' S.c5 ?_
    simp [S.w5]
    refine k_call ?_; simp
    refine c137w_14 _ _ _ S.ez0' S.c6 ?_
    simp [← S.zE, S.zn]
    exact hQ
  · rw [hq] at f1 hQ
    rw [if_pos (show ((3 : Int) % 2 = 1) by decide)] at hQ
    obtain ⟨s, a1, y1, a2, y2, a3, y3, a4, y4, a5, z0, z, S⟩ := sin_parts (r := 1073741824 - r0) (by omega)
    rw [S.all, if_pos (show ((2 : Int) ≤ 3) by decide)] at hQ
    obtain ⟨r, hr⟩ : ∃ r, 1073741824 - r0 = r := ⟨_, rfl⟩
    have g2 : IntKind.i64.wrap (1073741824 - r0) = r := by rw [w64 (by omega)]; exact hr
    rw [hr] at S
    simp [F139, f1, f2, g2, S.rr]
    refine k_call ?_; simp
    refine c137w_30 _ _ _ S.es' S.b1 ?_
    try simp
    refine k_loop ?_
    simp [S.m1]
    refine k_call ?_; simp
    refine c137w_30 _ _ _ S.ea1' S.c1 ?_
    simp [S.ey1]
    refine k_loop ?_
    simp [S.m2]
    refine k_call ?_; simp
    refine c137w_30 _ _ _ S.ea2' S.c2 ?_
    simp [S.ey2]
    refine k_loop ?_
    simp [S.m3]
    refine k_call ?_; simp
    refine c137w_30 _ _ _ S.ea3' S.c3 ?_
    simp [S.ey3]
    refine k_loop ?_
    simp [S.m4]
    refine k_call ?_; simp
    refine c137w_30 _ _ _ S.ea4' S.c4 ?_
    simp [S.ey4]
    refine k_loop ?_
    simp [S.m5]
    refine k_call ?_; simp
    refine c137w_30 _ _ _ S.ea5' S.c5 ?_
    simp [S.w5]
    refine k_call ?_; simp
    refine c137w_14 _ _ _ S.ez0' S.c6 ?_
    simp [← S.zE, S.zn]
    exact hQ
end
end Go.Proofs.YtjlebgfbohihfaaGreat.Am

namespace Go.Proofs.YtjlebgfbohihfaaGreat.Am
open Go
set_option linter.unusedVariables false
set_option linter.unusedSimpArgs false

theorem wu32_mod (v : Int) : IntKind.u32.wrap v = v % 4294967296 := by simp [IntKind.wrap, IntKind.bits, IntKind.signed]
theorem phaseS_b (x : Int) : 0 ≤ phaseS x ∧ phaseS x < 4294967296 := by unfold phaseS; omega
def sinS (x : Int) : Int := sineS (phaseS x)
def cosS (x : Int) : Int := sineS ((phaseS x + 1073741824) % 4294967296)
section
variable (h : Hp) (Q : CallQ)
theorem c135 (x : Int) (hx : I32 x) (hQ : Q (u32 (phaseS x)) h) : wpC T 135 [fx x] h Q := by
  refine k_code (fn := F135) rfl rfl ?_
  have hw : IntKind.i64.wrap (x * 683565276) = x * 683565276 := w64 (by unfold I32 at hx; omega)
  have hf : (x * 683565276).fdiv 65536 = x * 683565276 / 65536 := Int.fdiv_eq_ediv_of_nonneg _ (by omega)
  have hm : IntKind.u32.wrap (x * 683565276 / 65536) = phaseS x := wu32_mod _
  simp [F135, w64_32 hx, hw, hf, hm, intShift, IntKind.bits]
  exact hQ
theorem c140 (x : Int) (hx : I32 x) (hQ : Q (i64 (phaseS x)) h) : wpC T 140 [fx x] h Q := by
  refine k_code (fn := F140) rfl rfl ?_
  have hw : IntKind.i64.wrap (x * 683565276) = x * 683565276 := w64 (by unfold I32 at hx; omega)
  simp [F140, w64_32 hx, hw]
  refine k_call ?_; simp
  refine c137_16 _ (by unfold I32 at hx; omega) _ _ ?_
  obtain ⟨v, hv⟩ : ∃ v, x * 683565276 / 65536 = v := ⟨_, rfl⟩
  obtain ⟨y, hy⟩ : ∃ y, v.tmod 4294967296 = y := ⟨_, rfl⟩
  have hp : phaseS x = v % 4294967296 := by unfold phaseS; rw [hv]
  have hm : (y = v % 4294967296 ∨ y = v % 4294967296 - 4294967296) := by
    rw [← hy, Int.tmod_eq_emod]
    split
    · left; omega
    · right; simp
  rw [hv]
  rw [hp] at hQ
  by_cases h0 : y < 0
  · have e1 : IntKind.i64.wrap (y + 4294967296) = v % 4294967296 := by rw [w64 (by omega)]; omega
    simp [hy, h0, e1]
    exact hQ
  · have e1 : y = v % 4294967296 := by omega
    simp [hy, h0]
    rw [e1]; exact hQ
theorem c86 (x : Int) (hx : I32 x) (hQ : Q (fx (sinS x)) h) : wpC T 86 [fx x] h Q := by
  refine k_code (fn := F86) rfl rfl ?_
  simp [F86]
  refine k_call ?_; simp
  refine c135 _ _ x hx ?_
  try simp
  refine k_call ?_; simp
  refine c134 _ _ _ (phaseS_b x) ?_
  first | exact hQ | (simp; exact hQ)
theorem c102 (x : Int) (hx : I32 x) (hQ : Q (fx (sinS x)) h) : wpC T 102 [fx x] h Q := by
  refine k_code (fn := F102) rfl rfl ?_
  simp [F102]
  refine k_call ?_; simp
  refine c140 _ _ x hx ?_
  try simp
  refine k_call ?_; simp
  refine c139 _ _ _ (phaseS_b x) ?_
  first | exact hQ | (simp; exact hQ)
theorem c87 (x : Int) (hx : I32 x) (hQ : Q (fx (cosS x)) h) : wpC T 87 [fx x] h Q := by
  refine k_code (fn := F87) rfl rfl ?_
  simp [F87]
  refine k_call ?_; simp
  refine c135 _ _ x hx ?_
  have hm := wu32_mod (phaseS x + 1073741824)
  simp [hm]
  refine k_call ?_; simp
  refine c134 _ _ _ (by omega) ?_
  first | exact hQ | (simp; exact hQ)
theorem c103 (x : Int) (hx : I32 x) (hQ : Q (fx (cosS x)) h) : wpC T 103 [fx x] h Q := by
  refine k_code (fn := F103) rfl rfl ?_
  have hb := phaseS_b x
  simp [F103]
  refine k_call ?_; simp
  refine c140 _ _ x hx ?_
  have hw : IntKind.i64.wrap (phaseS x + 1073741824) = phaseS x + 1073741824 := w64 (by omega)
  have hm : (phaseS x + 1073741824).tmod 4294967296 = (phaseS x + 1073741824) % 4294967296 := Int.tmod_eq_emod_of_nonneg (by omega)
  simp [hw, hm]
  refine k_call ?_; simp
  refine c139 _ _ _ (by omega) ?_
  first | exact hQ | (simp; exact hQ)
end
end Go.Proofs.YtjlebgfbohihfaaGreat.Am
