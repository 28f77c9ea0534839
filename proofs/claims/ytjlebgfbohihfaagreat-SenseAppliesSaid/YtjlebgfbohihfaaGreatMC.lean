import Derived.Test.YtjlebgfbohihfaaGreatMB
namespace Go.Proofs.YtjlebgfbohihfaaGreat.Am
open Go
set_option linter.unusedVariables false
set_option linter.unusedSimpArgs false

def L67 : ACode := (.loop [1,4,5,7,8] (.seq (.ops [o 9 (.bin 0 .lss (.t 8) (.t 7))])
 (.seq (.cond (.t 9) .skip
 (.exit 0))
 (.seq (.block 1 (.seq (.ops [o 10 (.mv (.t 8)),o 6 (.mv (.t 10))])
 (.ops [o 11 (.mv (.t 6)),o 12 (.mv (.t 1)),o 13 (.mv (.t 6)),o 14 (.callv (.t 12) [(.t 13)]),o 15 (.ixp 4 1 (.t 5) (.t 11)),e (.st 1 (.t 15) (.t 14))])))
 (.ops [o 16 (.bin 0 .add (.t 8) (ki 1)),o 8 (.mv (.t 16))])))))
abbrev vc (v : Nat → Int) : List Cell := [.int .i32 (v 0), .int .i32 (v 1), .int .i32 (v 2), .int .i32 (v 3)]
abbrev vv (v : Nat → Int) : AVal := .agg (vc v)
abbrev vb (v : Nat → Int) : AObj := .cells (vc v) true
def VI (v : Nat → Int) : Prop := ∀ i, I32 (v i)
def upto (n : Nat) (F : Nat → Int) : Nat → Int := fun i => if i < n then F i else 0
def upd (w : Nat → Int) (i : Nat) (x : Int) : Nat → Int := fun j => if j = i then x else w j
theorem upd_upto (F : Nat → Int) (i : Nat) : upd (upto i F) i (F i) = upto (i + 1) F := by
  funext j
  unfold upd upto
  by_cases h1 : j = i
  · subst h1; simp
  · by_cases h2 : j < i
    · rw [if_neg h1, if_pos h2, if_pos (by omega)]
    · rw [if_neg h1, if_neg h2, if_neg (by omega)]
abbrev ptrs (caps : List (Nat × Nat)) : List AVal := caps.map fun p => .c (.ptr p.1 p.2)
/-- A function value that tells the i-th number. -/
def Tells (g : Nat) (caps : List (Nat × Nat)) (n : Nat) (F : Nat → Int) (h : Hp) : Prop :=
  ∀ i : Nat, i < n → ∀ h', Ext h h' → ∀ Q : CallQ, (∀ h'', Ext h' h'' → Q (fx (F i)) h'') → wpC T g (i64 (i : Int) :: ptrs caps) h' Q
theorem lt4 {i : Nat} (h : i < 4) : i = 0 ∨ i = 1 ∨ i = 2 ∨ i = 3 := by omega
theorem round67 {Q : AExit → St → Prop} {K : List KI} {e : Env} {H : Hp} {g : Nat} {caps : List (Nat × Nat)} {n i b4 b5 : Nat} {w : Nat → Int} {x : Int}
    (g1 : e.get 1 = .c (.fn g [] caps)) (g4 : e.get 4 = .c (.ptr b4 0)) (g5 : e.get 5 = .c (.ptr b5 0)) (g7 : e.get 7 = i64 (n : Int)) (g8 : e.get 8 = i64 (i : Int)) (hi : i < n) (hn : n ≤ 4)
    (hb : H.get b5 = some (vb w)) (hlt : b5 < H.next) (hf : ∀ Q : CallQ, (∀ h'', Ext H h'' → Q (fx x) h'') → wpC T g (i64 (i : Int) :: ptrs caps) H Q)
    (hgo : ∀ (e' : Env) (h'' : Hp), Ext H h'' → e'.get 1 = .c (.fn g [] caps) → e'.get 4 = .c (.ptr b4 0) → e'.get 5 = .c (.ptr b5 0) → e'.get 7 = i64 (n : Int) → e'.get 8 = i64 ((i + 1 : Nat) : Int) →
      wpK T Q (.code L67 :: K) .normal ⟨e', h''.set b5 (vb (upd w i x)), [], none⟩) :
    wpK T Q (.code L67 :: K) .normal ⟨e, H, [], none⟩ := by
  refine k_loop ?_
  have hin : (i : Int) < (n : Int) := by omega
  rcases lt4 (show i < 4 by omega) with rfl | rfl | rfl | rfl
  all_goals
    simp at hin
    simp [L67, g1, g4, g5, g7, g8, hin]
    refine k_callv (f := g) (first := []) (caps := caps) ?_ ?_
    · simp
    simp
    refine hf _ fun h'' hx => ?_
    have hb' : h''.get b5 = some (vb w) := (hx.2 b5 hlt).trans hb
    simp [hb']
    exact hgo _ h'' hx rfl rfl rfl rfl rfl
theorem loop67 {Q : AExit → St → Prop} {K : List KI} {H0 : Hp} {g : Nat} {caps : List (Nat × Nat)} {n b4 : Nat} {F : Nat → Int} (hn : n ≤ 4) (hT : Tells g caps n F H0)
    (hK : ∀ (e : Env) (H : Hp), Ext H0 H → e.get 4 = .c (.ptr b4 0) → e.get 5 = .c (.ptr H0.next 0) → H.get H0.next = some (vb (upto n F)) → wpK T Q K (.exit 0) ⟨e, H, [], none⟩) :
    ∀ (d i : Nat) (e : Env) (H : Hp), i + d = n → Ext H0 H → H.get H0.next = some (vb (upto i F)) → H0.next < H.next → e.get 1 = .c (.fn g [] caps) → e.get 4 = .c (.ptr b4 0) → e.get 5 = .c (.ptr H0.next 0) → e.get 7 = i64 (n : Int) → e.get 8 = i64 (i : Int) →
      wpK T Q (.code L67 :: K) .normal ⟨e, H, [], none⟩ := by
  intro d
  induction d with
  | zero =>
    intro i e H hi hx hb hlt g1 g4 g5 g7 g8
    obtain rfl : i = n := by omega
    refine k_loop ?_
    simp [L67, g1, g4, g5, g7, g8]
    exact hK _ H hx rfl rfl hb
  | succ d ih =>
    intro i e H hi hx hb hlt g1 g4 g5 g7 g8
    refine round67 g1 g4 g5 g7 g8 (by omega) hn hb hlt (hT i (by omega) H hx) fun e' h'' hx' k1 k4 k5 k7 k8 => ?_
    refine ih (i + 1) e' _ (by omega) ((hx.trans hx').set (Nat.le_refl _) _) ?_ ?_ k1 k4 k5 k7 k8
    · rw [Hp.get_set, if_pos rfl, upd_upto]
    · have := hx'.1; simp; omega
theorem Tells.ext {g : Nat} {caps : List (Nat × Nat)} {n : Nat} {F : Nat → Int} {h h' : Hp} (hT : Tells g caps n F h) (hx : Ext h h') : Tells g caps n F h' := fun i hi H hH => hT i hi H (hx.trans hH)
section
variable (h : Hp) (Q : CallQ)
theorem c67 (g : Nat) (caps : List (Nat × Nat)) (n : Nat) (F : Nat → Int) (hn : n ≤ 4) (hT : Tells g caps n F h) (hQ : ∀ h', Ext h h' → Q (vv (upto n F)) h') : wpC T 67 [i64 (n : Int), .c (.fn g [] caps)] h Q := by
  refine k_code (fn := F67) rfl rfl ?_
  simp [F67]
  refine loop67 (H0 := h.alloc (.cells [.int .i32 0, .int .i32 0, .int .i32 0, .int .i32 0] true)) (b4 := h.next) hn (hT.ext (Ext.alloc _ _)) ?_ n 0 _ _ (by omega) (Ext.alloc _ _) ?_ (by simp) rfl rfl ?_ rfl rfl
  rotate_left
  · simp [upto]
  · simp
  intro e H hx k4 k5 hb
  have hb4 := hx.2 h.next (by simp)
  simp at hb4 k5 hb
  simp [k4, k5, hb, hb4]
  exact hQ _ (((Ext.alloc h _).trans hx).set (Nat.le_refl _) _)
theorem c25 (g : Nat) (caps : List (Nat × Nat)) (n : Nat) (F : Nat → Int) (hn : n ≤ 4) (hT : Tells g caps n F h) (hQ : ∀ h', Ext h h' → Q (vv (upto n F)) h') : wpC T 25 [i64 (n : Int), .c (.fn g [] caps)] h Q := by
  refine k_code (fn := F25) rfl rfl ?_
  simp [F25]
  refine loop67 (H0 := h.alloc (.cells [.int .i32 0, .int .i32 0, .int .i32 0, .int .i32 0] true)) (b4 := h.next) hn (hT.ext (Ext.alloc _ _)) ?_ n 0 _ _ (by omega) (Ext.alloc _ _) ?_ (by simp) rfl rfl ?_ rfl rfl
  rotate_left
  · simp [upto]
  · simp
  intro e H hx k4 k5 hb
  have hb4 := hx.2 h.next (by simp)
  simp at hb4 k5 hb
  simp [k4, k5, hb, hb4]
  exact hQ _ (((Ext.alloc h _).trans hx).set (Nat.le_refl _) _)
end
end Go.Proofs.YtjlebgfbohihfaaGreat.Am

namespace Go.Proofs.YtjlebgfbohihfaaGreat.Am
open Go
set_option linter.unusedVariables false
set_option linter.unusedSimpArgs false

@[simp] theorem o_op (d : Nat) (op : AOp) : (o d op).op = op := rfl
@[simp] theorem o_guard (d : Nat) (op : AOp) : (o d op).guard = none := rfl
@[simp] theorem o_dst (d : Nat) (op : AOp) : (o d op).dst = some d := rfl
theorem tells68 {op : Int} {a b : Nat → Int} {bo ba bb : Nat} {h : Hp} (ho : 0 ≤ op ∧ op < 8) (ha : VI a) (hb : VI b) (lo : bo < h.next) (la : ba < h.next) (lb : bb < h.next)
    (go : h.get bo = some (.cells [.int .i64 op] true)) (ga : h.get ba = some (vb a)) (gb : h.get bb = some (vb b)) : Tells 68 [(bo, 0), (ba, 0), (bb, 0)] 4 (fun i => twoS op (a i) (b i)) h := by
  intro i hi h' hx Q hQ
  have ko := (hx.2 bo lo).trans go
  have ka := (hx.2 ba la).trans ga
  have kb := (hx.2 bb lb).trans gb
  refine k_code (fn := F68) rfl rfl ?_
  rcases lt4 hi with rfl | rfl | rfl | rfl
  all_goals
    simp [F68, ko, ka, kb]
    refine k_call ?_; simp
    refine c65 _ _ op _ _ ho (ha _) (hb _) ?_
    try simp
    exact hQ _ (Ext.refl _)
theorem tells70 {op : Int} {a : Nat → Int} {bo ba : Nat} {h : Hp} (ho : 0 ≤ op ∧ op < 5) (ha : VI a) (lo : bo < h.next) (la : ba < h.next)
    (go : h.get bo = some (.cells [.int .i64 op] true)) (ga : h.get ba = some (vb a)) : Tells 70 [(bo, 0), (ba, 0)] 4 (fun i => oneS op (a i)) h := by
  intro i hi h' hx Q hQ
  have ko := (hx.2 bo lo).trans go
  have ka := (hx.2 ba la).trans ga
  refine k_code (fn := F70) rfl rfl ?_
  rcases lt4 hi with rfl | rfl | rfl | rfl
  all_goals
    simp [F70, ko, ka]
    refine k_call ?_; simp
    refine c69 _ _ op _ ho (ha _) ?_
    try simp
    exact hQ _ (Ext.refl _)
theorem tells26 {fn : Int} {a b : Nat → Int} {bo ba bb : Nat} {h : Hp} (ho : 24 ≤ fn ∧ fn ≤ 28) (ha : VI a) (hb : VI b) (lo : bo < h.next) (la : ba < h.next) (lb : bb < h.next)
    (go : h.get bo = some (.cells [.int .i64 fn] true)) (ga : h.get ba = some (vb a)) (gb : h.get bb = some (vb b)) : Tells 26 [(bo, 0), (ba, 0), (bb, 0)] 4 (fun i => wholeS fn (a i) (b i)) h := by
  intro i hi h' hx Q hQ
  have ko := (hx.2 bo lo).trans go
  have ka := (hx.2 ba la).trans ga
  have kb := (hx.2 bb lb).trans gb
  refine k_code (fn := F26) rfl rfl ?_
  rcases lt4 hi with rfl | rfl | rfl | rfl
  all_goals
    simp [F26, ko, ka, kb]
    refine k_call ?_; simp
    refine c27 _ _ fn _ _ ho (ha _) (hb _) ?_
    try simp
    exact hQ _ (Ext.refl _)
theorem tells30 {a b : Nat → Int} {ba bb : Nat} {h : Hp} (ha : VI a) (hb : VI b) (la : ba < h.next) (lb : bb < h.next)
    (ga : h.get ba = some (vb a)) (gb : h.get bb = some (vb b)) : Tells 30 [(ba, 0), (bb, 0)] 4 (fun i => powS (a i) (b i)) h := by
  intro i hi h' hx Q hQ
  have ka := (hx.2 ba la).trans ga
  have kb := (hx.2 bb lb).trans gb
  refine k_code (fn := F30) rfl rfl ?_
  rcases lt4 hi with rfl | rfl | rfl | rfl
  all_goals
    simp [F30, ka, kb]
    refine k_call ?_; simp
    refine c31 _ _ _ _ (ha _) (hb _) fun h'' hx' => ?_
    first | exact hQ _ hx' | (simp; exact hQ _ hx')
def mixS (a b t : Int) : Int := addS a (mulS (subS b a) t)
theorem tells74 {a b t : Nat → Int} {ba bb bt : Nat} {h : Hp} (ha : VI a) (hb : VI b) (ht : VI t) (la : ba < h.next) (lb : bb < h.next) (lt : bt < h.next)
    (ga : h.get ba = some (vb a)) (gb : h.get bb = some (vb b)) (gt : h.get bt = some (vb t)) : Tells 74 [(ba, 0), (bb, 0), (bt, 0)] 4 (fun i => mixS (a i) (b i) (t i)) h := by
  intro i hi h' hx Q hQ
  have ka := (hx.2 ba la).trans ga
  have kb := (hx.2 bb lb).trans gb
  have kt := (hx.2 bt lt).trans gt
  refine k_code (fn := F74) rfl rfl ?_
  rcases lt4 hi with rfl | rfl | rfl | rfl
  all_goals
    simp [F74, ka, kb, kt]
    refine k_call ?_; simp
    refine c76 _ _ _ _ (hb _) (ha _) ?_
    try simp [ka, kb, kt]
    refine k_call ?_; simp
    refine c72 _ _ _ _ (subS_I32 _ _) (ht _) ?_
    try simp [ka, kb, kt]
    refine k_call ?_; simp
    refine c75 _ _ _ _ (ha _) (mulS_I32 _ _) ?_
    first | exact hQ _ (Ext.refl _) | (simp; exact hQ _ (Ext.refl _))
def clampS (x l u : Int) : Int := twoS 4 (twoS 5 x l) u
theorem tells77 {a b t : Nat → Int} {ba bb bt : Nat} {h : Hp} (la : ba < h.next) (lb : bb < h.next) (lt : bt < h.next)
    (ga : h.get ba = some (vb a)) (gb : h.get bb = some (vb b)) (gt : h.get bt = some (vb t)) : Tells 77 [(ba, 0), (bb, 0), (bt, 0)] 4 (fun i => clampS (a i) (b i) (t i)) h := by
  intro i hi h' hx Q hQ
  have ka := (hx.2 ba la).trans ga
  have kb := (hx.2 bb lb).trans gb
  have kt := (hx.2 bt lt).trans gt
  have hQ := hQ h' (Ext.refl _)
  simp [clampS, twoS] at hQ
  refine k_code (fn := F77) rfl rfl ?_
  rcases lt4 hi with rfl | rfl | rfl | rfl
  all_goals
    simp [F77, ka, kb, kt]
    exact hQ
def crossS (a b : Nat → Int) (i : Nat) : Int := subS (mulS (a ((i + 1) % 3)) (b ((i + 2) % 3))) (mulS (a ((i + 2) % 3)) (b ((i + 1) % 3)))
theorem tells78 {a b : Nat → Int} {ba bb : Nat} {h : Hp} (ha : VI a) (hb : VI b) (la : ba < h.next) (lb : bb < h.next)
    (ga : h.get ba = some (vb a)) (gb : h.get bb = some (vb b)) : Tells 78 [(ba, 0), (bb, 0)] 3 (crossS a b) h := by
  intro i hi h' hx Q hQ
  have ka := (hx.2 ba la).trans ga
  have kb := (hx.2 bb lb).trans gb
  refine k_code (fn := F78) rfl rfl ?_
  rcases (show i = 0 ∨ i = 1 ∨ i = 2 by omega) with rfl | rfl | rfl
  all_goals
    simp [F78, ka, kb]
    refine k_call ?_; simp
    refine c72 _ _ _ _ (ha _) (hb _) ?_
    try simp [ka, kb]
    refine k_call ?_; simp
    refine c72 _ _ _ _ (ha _) (hb _) ?_
    try simp [ka, kb]
    refine k_call ?_; simp
    refine c76 _ _ _ _ (mulS_I32 _ _) (mulS_I32 _ _) ?_
    first | exact hQ _ (Ext.refl _) | (simp; exact hQ _ (Ext.refl _))
end Go.Proofs.YtjlebgfbohihfaaGreat.Am

namespace Go.Proofs.YtjlebgfbohihfaaGreat.Am
open Go
set_option linter.unusedVariables false
set_option linter.unusedSimpArgs false

@[simp] theorem nx1 (n : Nat) : (n = n + 1) = False := eq_false (by omega)
@[simp] theorem xn1 (n : Nat) : (n + 1 = n) = False := eq_false (by omega)
@[simp] theorem nx2 (n : Nat) : (n = n + 1 + 1) = False := eq_false (by omega)
@[simp] theorem xn2 (n : Nat) : (n + 1 + 1 = n) = False := eq_false (by omega)
@[simp] theorem nx3 (n : Nat) : (n = n + 1 + 1 + 1) = False := eq_false (by omega)
@[simp] theorem xn3 (n : Nat) : (n + 1 + 1 + 1 = n) = False := eq_false (by omega)
@[simp] theorem nx4 (n : Nat) : (n = n + 1 + 1 + 1 + 1) = False := eq_false (by omega)
@[simp] theorem xn4 (n : Nat) : (n + 1 + 1 + 1 + 1 = n) = False := eq_false (by omega)
@[simp] theorem nx5 (n : Nat) : (n = n + 1 + 1 + 1 + 1 + 1) = False := eq_false (by omega)
@[simp] theorem xn5 (n : Nat) : (n + 1 + 1 + 1 + 1 + 1 = n) = False := eq_false (by omega)
@[simp] theorem nx6 (n : Nat) : (n = n + 1 + 1 + 1 + 1 + 1 + 1) = False := eq_false (by omega)
@[simp] theorem xn6 (n : Nat) : (n + 1 + 1 + 1 + 1 + 1 + 1 = n) = False := eq_false (by omega)
@[simp] theorem nx7 (n : Nat) : (n = n + 1 + 1 + 1 + 1 + 1 + 1 + 1) = False := eq_false (by omega)
@[simp] theorem xn7 (n : Nat) : (n + 1 + 1 + 1 + 1 + 1 + 1 + 1 = n) = False := eq_false (by omega)
theorem Tells.le {g : Nat} {caps : List (Nat × Nat)} {n m : Nat} {F : Nat → Int} {h : Hp} (hT : Tells g caps n F h) (hm : m ≤ n) : Tells g caps m F h := fun i hi => hT i (by omega)
theorem zero_I32 : I32 0 := by unfold I32; omega
section
variable (h : Hp) (Q : CallQ)
theorem c66 (n : Nat) (hn : 1 ≤ n ∧ n ≤ 4) (hQ : Q (.c (.bool true)) h) : wpC T 66 [i64 (n : Int)] h Q := by
  refine k_code (fn := F66) rfl rfl ?_
  simp [F66, show (1 : Int) ≤ (n : Int) from by omega, show (n : Int) ≤ 4 from by omega]
  exact hQ
theorem c28 (op : Int) (n : Nat) (a b : Nat → Int) (ho : 0 ≤ op ∧ op < 8) (hn : 1 ≤ n ∧ n ≤ 4) (ha : VI a) (hb : VI b)
    (hQ : ∀ h', Ext h h' → Q (.tup [.inr (vc (upto n fun i => twoS op (a i) (b i))), .inl (.int .i64 0)]) h') : wpC T 28 [i64 op, i64 (n : Int), vv a, vv b] h Q := by
  refine k_code (fn := F28) rfl rfl ?_
  simp [F28]
  refine k_call ?_; simp
  refine c65 _ _ op 0 0 ho zero_I32 zero_I32 ?_
  simp
  refine k_call ?_; simp
  refine c66 _ _ n hn ?_
  simp
  refine k_call ?_; simp
  refine c67 _ _ 68 _ n _ hn.2 ((tells68 (h := ((((h.alloc (.cells [.int .i64 op] true)).alloc (vb a)).alloc (vb b)).alloc (.cells [.int .i32 0, .int .i32 0, .int .i32 0, .int .i32 0] true))) ho ha hb ?_ ?_ ?_ ?_ ?_ ?_).le hn.2) fun h' hx => ?_
  all_goals try (simp; done)
  all_goals try (simp; omega)
  have hz := hx.2 (h.next + 1 + 1 + 1) (by simp)
  simp at hz
  simp [hz]
  exact hQ _ ((((((Ext.alloc h _).alloc' _).alloc' _).alloc' _).trans hx).set (by omega) _)
theorem c29 (op : Int) (n : Nat) (a : Nat → Int) (ho : 0 ≤ op ∧ op < 5) (hn : 1 ≤ n ∧ n ≤ 4) (ha : VI a)
    (hQ : ∀ h', Ext h h' → Q (.tup [.inr (vc (upto n fun i => oneS op (a i))), .inl (.int .i64 0)]) h') : wpC T 29 [i64 op, i64 (n : Int), vv a] h Q := by
  refine k_code (fn := F29) rfl rfl ?_
  simp [F29]
  refine k_call ?_; simp
  refine c69 _ _ op 0 ho zero_I32 ?_
  simp
  refine k_call ?_; simp
  refine c66 _ _ n hn ?_
  simp
  refine k_call ?_; simp
  refine c67 _ _ 70 _ n _ hn.2 ((tells70 (h := (((h.alloc (.cells [.int .i64 op] true)).alloc (vb a)).alloc (.cells [.int .i32 0, .int .i32 0, .int .i32 0, .int .i32 0] true))) ho ha ?_ ?_ ?_ ?_).le hn.2) fun h' hx => ?_
  all_goals try (simp; done)
  all_goals try (simp; omega)
  have hz := hx.2 (h.next + 1 + 1) (by simp)
  simp at hz
  simp [hz]
  exact hQ _ (((((Ext.alloc h _).alloc' _).alloc' _).trans hx).set (by omega) _)
theorem c32 (n : Nat) (a b t : Nat → Int) (hn : 1 ≤ n ∧ n ≤ 4) (ha : VI a) (hb : VI b) (ht : VI t)
    (hQ : ∀ h', Ext h h' → Q (.tup [.inr (vc (upto n fun i => mixS (a i) (b i) (t i))), .inl (.int .i64 0)]) h') : wpC T 32 [i64 (n : Int), vv a, vv b, vv t] h Q := by
  refine k_code (fn := F32) rfl rfl ?_
  simp [F32]
  refine k_call ?_; simp
  refine c66 _ _ n hn ?_
  simp
  refine k_call ?_; simp
  refine c67 _ _ 74 _ n _ hn.2 ((tells74 (h := ((((h.alloc (vb a)).alloc (vb b)).alloc (vb t)).alloc (.cells [.int .i32 0, .int .i32 0, .int .i32 0, .int .i32 0] true))) ha hb ht ?_ ?_ ?_ ?_ ?_ ?_).le hn.2) fun h' hx => ?_
  all_goals try (simp; done)
  all_goals try (simp; omega)
  have hz := hx.2 (h.next + 1 + 1 + 1) (by simp)
  simp at hz
  simp [hz]
  exact hQ _ ((((((Ext.alloc h _).alloc' _).alloc' _).alloc' _).trans hx).set (by omega) _)
theorem c33 (n : Nat) (a b t : Nat → Int) (hn : 1 ≤ n ∧ n ≤ 4)
    (hQ : ∀ h', Ext h h' → Q (.tup [.inr (vc (upto n fun i => clampS (a i) (b i) (t i))), .inl (.int .i64 0)]) h') : wpC T 33 [i64 (n : Int), vv a, vv b, vv t] h Q := by
  refine k_code (fn := F33) rfl rfl ?_
  simp [F33]
  refine k_call ?_; simp
  refine c66 _ _ n hn ?_
  simp
  refine k_call ?_; simp
  refine c67 _ _ 77 _ n _ hn.2 ((tells77 (a := a) (b := b) (t := t) (h := ((((h.alloc (vb a)).alloc (vb b)).alloc (vb t)).alloc (.cells [.int .i32 0, .int .i32 0, .int .i32 0, .int .i32 0] true))) ?_ ?_ ?_ ?_ ?_ ?_).le hn.2) fun h' hx => ?_
  all_goals try (simp; done)
  all_goals try (simp; omega)
  have hz := hx.2 (h.next + 1 + 1 + 1) (by simp)
  simp at hz
  simp [hz]
  exact hQ _ ((((((Ext.alloc h _).alloc' _).alloc' _).alloc' _).trans hx).set (by omega) _)
theorem c35 (a b : Nat → Int) (ha : VI a) (hb : VI b) (hQ : ∀ h', Ext h h' → Q (vv (upto 3 (crossS a b))) h') : wpC T 35 [vv a, vv b] h Q := by
  refine k_code (fn := F35) rfl rfl ?_
  simp [F35]
  refine k_call ?_; simp
  refine c67 _ _ 78 _ 3 _ (by omega) (tells78 (h := (((h.alloc (vb a)).alloc (vb b)).alloc (.cells [.int .i32 0, .int .i32 0, .int .i32 0, .int .i32 0] true))) ha hb ?_ ?_ ?_ ?_) fun h' hx => ?_
  all_goals try (simp; done)
  all_goals try (simp; omega)
  have hz := hx.2 (h.next + 1 + 1) (by simp)
  simp at hz
  simp [hz]
  exact hQ _ (((((Ext.alloc h _).alloc' _).alloc' _).trans hx).set (by omega) _)
end
/-- The sum of the products, up to the k-th. -/
def dotI (a b : Nat → Int) : Nat → Int
  | 0 => mulS (a 0) (b 0)
  | k + 1 => addS (dotI a b k) (mulS (a (k + 1)) (b (k + 1)))
theorem dotI_I32 (a b : Nat → Int) : ∀ k, I32 (dotI a b k)
  | 0 => mulS_I32 _ _
  | k + 1 => addS_I32 _ _
def L34 : ACode := (.loop [0,4,5,8,9] (.seq (.seq (.ops [o 18 (.mv (.t 9)),o 19 (.mv (.t 0)),o 20 (.bin 0 .lss (.t 18) (.t 19))])
 (.cond (.t 20) .skip
 (.exit 0)))
 (.seq (.block 1 (.dops [.op 0 (o 23 (.mv (.t 8))),.op 1 (o 24 (.mv (.t 9))),.op 4 (o 27 (.mv (.t 9))),.op 2 (o 25 (.ixp 4 1 (.t 4) (.t 24))),.op 5 (o 28 (.ixp 4 1 (.t 5) (.t 27))),.op 3 (o 26 (.ld (.t 25))),.op 6 (o 29 (.ld (.t 28))),.eff 7 (o 30 (.call 72 [(.t 26),(.t 29)])) [],.eff 8 (o 31 (.call 75 [(.t 23),(.t 30)])) [],.eff 9 (o 8 (.mv (.t 31))) []]))
 (.keep [0,4,5,8,9] (.ops [o 21 (.mv (.t 9)),o 22 (.bin 0 .add (.t 21) (ki 1)),o 9 (.mv (.t 22))])))))
theorem loop34 {Q : AExit → St → Prop} {K : List KI} {H : Hp} {n ba bb : Nat} {a b : Nat → Int} (hn : n ≤ 4) (ha : VI a) (hb : VI b) (ga : H.get ba = some (vb a)) (gb : H.get bb = some (vb b))
    (hK : ∀ e : Env, e.get 8 = fx (dotI a b (n - 1)) → wpK T Q K (.exit 0) ⟨e, H, [], none⟩) :
    ∀ (d i : Nat) (e : Env), 1 ≤ i → i + d = n → e.get 0 = i64 (n : Int) → e.get 4 = .c (.ptr ba 0) → e.get 5 = .c (.ptr bb 0) → e.get 8 = fx (dotI a b (i - 1)) → e.get 9 = i64 (i : Int) → wpK T Q (.code L34 :: K) .normal ⟨e, H, [], none⟩ := by
  intro d
  induction d with
  | zero =>
    intro i e h1 hi g0 g4 g5 g8 g9
    obtain rfl : i = n := by omega
    refine k_loop ?_
    simp [L34, g0, g4, g5, g8, g9]
    exact hK _ rfl
  | succ d ih =>
    intro i e h1 hi g0 g4 g5 g8 g9
    refine k_loop ?_
    have hin : (i : Int) < (n : Int) := by omega
    have hI := dotI_I32 a b (i - 1)
    have ih' := ih (i + 1)
    rcases (show i = 1 ∨ i = 2 ∨ i = 3 by omega) with rfl | rfl | rfl
    all_goals
      simp at hin
      simp [L34, g0, g4, g5, g8, g9, hin, ga, gb]
      refine k_call ?_; simp
      refine c72 _ _ _ _ (ha _) (hb _) ?_
      try simp
      refine k_call ?_; simp
      refine c75 _ _ _ _ hI (mulS_I32 _ _) ?_
      try simp
      exact ih' _ (by omega) (by omega) rfl rfl rfl rfl rfl
theorem c34 (n : Nat) (a b : Nat → Int) (hn : 1 ≤ n ∧ n ≤ 4) (ha : VI a) (hb : VI b) (h : Hp) (Q : CallQ)
    (hQ : ∀ h', Ext h h' → Q (.tup [.inl (.int .i32 (dotI a b (n - 1))), .inl (.int .i64 0)]) h') : wpC T 34 [i64 (n : Int), vv a, vv b] h Q := by
  refine k_code (fn := F34) rfl rfl ?_
  simp [F34]
  refine k_call ?_; simp
  refine c66 _ _ n hn ?_
  simp
  refine k_call ?_; simp
  refine c72 _ _ _ _ (ha _) (hb _) ?_
  try simp
  refine loop34 (n := n) (a := a) (b := b) (ba := h.next) (bb := h.next + 1) hn.2 ha hb (by simp) (by simp) (fun e g8 => ?_) (n - 1) 1 _ (by omega) (by omega) rfl rfl rfl rfl rfl
  simp [g8]
  exact hQ _ ((Ext.alloc h _).alloc' _)
end Go.Proofs.YtjlebgfbohihfaaGreat.Am

namespace Go.Proofs.YtjlebgfbohihfaaGreat.Am
open Go
set_option linter.unusedVariables false
set_option linter.unusedSimpArgs false

def L37 : ACode := (.loop [5,6,7,14,15,16] (.seq (.ops [o 17 (.bin 0 .lss (.t 16) (.t 15))])
 (.seq (.cond (.t 17) .skip
 (.exit 0))
 (.seq (.block 1 (.seq (.ops [o 18 (.ixa 1 (.t 14) (.t 16)),o 19 (.ld (.t 18)),o 9 (.mv (.t 19))])
 (.ops [o 20 (.mv (.t 7)),o 21 (.mv (.t 9)),o 22 (.callv (.t 20) [(.t 21)])])))
 (.ops [o 23 (.bin 0 .add (.t 16) (ki 1)),o 16 (.mv (.t 23))])))))
def L46 : ACode := (.loop [1,2,5,6] (.seq (.seq (.ops [o 8 (.mv (.t 6)),o 9 (.mv (.t 1)),o 10 (.mn [(.t 9),(ki 4)]),o 11 (.bin 0 .lss (.t 8) (.t 10))])
 (.cond (.t 11) .skip
 (.exit 0)))
 (.seq (.block 1 (.seq (.ops [o 14 (.mv (.t 6)),o 15 (.ixp 4 1 (.t 2) (.t 14)),o 16 (.ld (.t 15)),o 17 (.convi .i64 (.t 16)),o 7 (.mv (.t 17))])
 (.seq (.ops [o 18 (.mv (.t 5)),o 19 (.mv (.t 7)),o 20 (.mv (.t 7)),o 21 (.bin 0 .mul (.t 19) (.t 20)),o 22 (.convi .u64 (.t 21)),o 23 (.bin 0 .add (.t 18) (.t 22)),o 5 (.mv (.t 23))])
 (.keep [1,2,5,6] (.seq (.ops [o 24 (.mv (.t 5)),o 25 (.bin 0 .geq (.t 24) (.k (.c (.int .u64 4611686018427387904))))])
 (.cond (.t 25) (.seq (.ops [o 4 (.mv (.k (.c (.int .i32 2147483647))))])
 .ret)
 .skip))))))
 (.ops [o 12 (.mv (.t 6)),o 13 (.bin 0 .add (.t 12) (ki 1)),o 6 (.mv (.t 13))]))))
/-- The sum of the squares, as a whole number. -/
def sqS (v : Nat → Int) : Nat → Nat
  | 0 => 0
  | k + 1 => sqS v k + (v k * v k).toNat
theorem sq_le {x : Int} (hx : I32 x) : 0 ≤ x * x ∧ x * x ≤ 4611686018427387904 := by
  refine ⟨?_, ?_⟩
  · rcases Int.le_total 0 x with h | h
    · exact Int.mul_nonneg h h
    · exact Int.mul_nonneg_of_nonpos_of_nonpos h h
  · have := mul_b hx hx; omega
theorem sqS_le {v : Nat → Int} (hv : VI v) : ∀ k, sqS v k ≤ k * 4611686018427387904
  | 0 => by simp [sqS]
  | k + 1 => by
    have h1 := sqS_le hv k
    have h2 := sq_le (hv k)
    simp only [sqS]
    omega
/-- A length. -/
noncomputable def lenS (v : Nat → Int) (n : Nat) : Int := if 4611686018427387904 ≤ sqS v n then 2147483647 else sat (rootS (sqS v n))
theorem lenS_I32 (v : Nat → Int) (n : Nat) : I32 (lenS v n) := by
  unfold lenS; split
  · unfold I32; omega
  · exact sat_I32 _
theorem isRoot_big {n r : Nat} (h : isRoot n r) (hn : 4611686018427387904 ≤ n) : 2147483648 ≤ r := by
  rcases Nat.lt_or_ge r 2147483648 with h1 | h1
  · have := Nat.mul_le_mul (show r + 1 ≤ 2147483648 from h1) (show r + 1 ≤ 2147483648 from h1)
    have := h.2; omega
  · exact h1
/-- Whatever is found lies where a root lies. -/
theorem c83r (n : Nat) (hn : n < 2 ^ 64) (h : Hp) (Q : CallQ) (hQ : ∀ r, isRoot n r → r < 2 ^ 32 → Q (u32 r) h) : wpC T 83 [u64 n] h Q := by
  refine k_code (fn := F83) rfl rfl ?_
  simp [F83]
  refine loop83 (n := n) ?_ 31 0 _ (by omega) rfl rfl rfl (by omega) (by omega) (by omega)
  intro r e hr hlt h3
  simp [h3]
  exact hQ r hr hlt
theorem c81 (x y : Int) (hx : 0 ≤ x) (hy : 0 ≤ y) (h : Hp) (Q : CallQ) (hQ : Q (.tup [.inl (.int .u64 ((x + y + 0) % 18446744073709551616)), .inl (.int .u64 ((x + y + 0) / 18446744073709551616))]) h) :
    wpC T 81 [u64 x, u64 y, u64 0] h Q := by
  refine wpC_of (n := 0) (v := .tup [.inl (.int .u64 ((x + y + 0) % 18446744073709551616)), .inl (.int .u64 ((x + y + 0) / 18446744073709551616))]) (h' := h) ?_ hQ
  have ht : T 81 = some (.spec specAdd64) := rfl
  simp only [callN, callWith, ht, specAdd64]
  rw [if_pos ⟨hx, hy, by omega, by omega⟩]
theorem c80 (x : Int) (s o : Nat) (b5 b6 : Nat) (hx : I32 x) (hs : s < 2 ^ 64) (ho : o < 4) (h : Hp) (Q : CallQ) (hne : b5 ≠ b6) (g5 : h.get b5 = some (.cells [.int .u64 s] true)) (g6 : h.get b6 = some (.cells [.int .u64 o] true))
    (hQ : ∀ v, Q v ((h.set b5 (.cells [.int .u64 (((s + (x * x).toNat) % 2 ^ 64 : Nat) : Int)] true)).set b6 (.cells [.int .u64 ((o + (s + (x * x).toNat) / 2 ^ 64 : Nat) : Int)] true))) : wpC T 80 [fx x, .c (.ptr b5 0), .c (.ptr b6 0)] h Q := by
  refine k_code (fn := F80) rfl rfl ?_
  have hq := sq_le hx
  have e1 : IntKind.i64.wrap (x * x) = x * x := w64 (by omega)
  obtain ⟨q, hqe⟩ : ∃ q : Nat, x * x = (q : Int) := ⟨(x * x).toNat, by omega⟩
  rw [hqe] at e1 hq hQ
  rw [Int.toNat_natCast] at hQ
  have e2 : IntKind.u64.wrap (q : Int) = (q : Int) := wu64 (by omega)
  simp [F80, g5, w64_32 hx, hqe, e1, e2]
  refine k_call ?_; simp
  refine c81 _ _ (by omega) (by omega) _ _ ?_
  have f1 : ((s : Int) + (q : Int) + 0) % 18446744073709551616 = (((s + q) % 2 ^ 64 : Nat) : Int) := by omega
  have f2 : ((s : Int) + (q : Int) + 0) / 18446744073709551616 = (((s + q) / 2 ^ 64 : Nat) : Int) := by omega
  rw [f1, f2]
  obtain ⟨u, hu⟩ : ∃ u, (s + q) % 2 ^ 64 = u := ⟨_, rfl⟩
  obtain ⟨c, hc⟩ : ∃ c, (s + q) / 2 ^ 64 = c := ⟨_, rfl⟩
  have f3 : IntKind.u64.wrap ((o : Int) + (c : Int)) = ((o + c : Nat) : Int) := by rw [wu64 (by omega)]; omega
  rw [hu, hc] at hQ ⊢
  simp [g5, g6, hne, Ne.symm hne, f3]
  exact hQ _
theorem sq_div (v : Nat → Int) (hv : VI v) (k : Nat) (hk : k ≤ 4) : sqS v k / 2 ^ 64 < 4 := by have := sqS_le hv k; omega
theorem loop37 {Q : AExit → St → Prop} {K : List KI} {h0 : Hp} {n bv b5 b6 : Nat} {v : Nat → Int} (hn : n ≤ 4) (hv : VI v) (n1 : bv ≠ b5) (n2 : bv ≠ b6) (n3 : b5 ≠ b6) (l5 : h0.next ≤ b5) (l6 : h0.next ≤ b6)
    (hK : ∀ (e : Env) (H : Hp), Ext h0 H → e.get 5 = .c (.ptr b5 0) → e.get 6 = .c (.ptr b6 0) → H.get b5 = some (.cells [.int .u64 ((sqS v n % 2 ^ 64 : Nat) : Int)] true) → H.get b6 = some (.cells [.int .u64 ((sqS v n / 2 ^ 64 : Nat) : Int)] true) → wpK T Q K (.exit 0) ⟨e, H, [], none⟩) :
    ∀ (d i : Nat) (e : Env) (H : Hp), i + d = n → Ext h0 H → e.get 5 = .c (.ptr b5 0) → e.get 6 = .c (.ptr b6 0) → e.get 7 = .c (.fn 80 [] [(b5, 0), (b6, 0)]) → e.get 14 = .c (.slice bv 0 n 4 1) → e.get 15 = i64 (n : Int) → e.get 16 = i64 (i : Int) →
      H.get bv = some (vb v) → H.get b5 = some (.cells [.int .u64 ((sqS v i % 2 ^ 64 : Nat) : Int)] true) → H.get b6 = some (.cells [.int .u64 ((sqS v i / 2 ^ 64 : Nat) : Int)] true) → wpK T Q (.code L37 :: K) .normal ⟨e, H, [], none⟩ := by
  intro d
  induction d with
  | zero =>
    intro i e H hi hx g5 g6 g7 g14 g15 g16 hb h5 h6
    obtain rfl : i = n := by omega
    refine k_loop ?_
    simp [L37, g5, g6, g7, g14, g15, g16]
    exact hK _ H hx rfl rfl h5 h6
  | succ d ih =>
    intro i e H hi hx g5 g6 g7 g14 g15 g16 hb h5 h6
    refine k_loop ?_
    have hin : (i : Int) < (n : Int) := by omega
    have hin2 : i < n := by omega
    have ih' := ih (i + 1)
    have hd := sq_div v hv i (by omega)
    have hs := sq_le (hv i)
    have hlt : sqS v i % 2 ^ 64 < 2 ^ 64 := Nat.mod_lt _ (by decide)
    have e1 : (sqS v i % 2 ^ 64 + (v i * v i).toNat) % 2 ^ 64 = sqS v (i + 1) % 2 ^ 64 := by simp only [sqS]; omega
    have e2 : sqS v i / 2 ^ 64 + (sqS v i % 2 ^ 64 + (v i * v i).toNat) / 2 ^ 64 = sqS v (i + 1) / 2 ^ 64 := by simp only [sqS]; omega
    have key := fun (Q' : CallQ) (hQ' : ∀ v', Q' v' ((H.set b5 (.cells [.int .u64 ((sqS v (i + 1) % 2 ^ 64 : Nat) : Int)] true)).set b6 (.cells [.int .u64 ((sqS v (i + 1) / 2 ^ 64 : Nat) : Int)] true))) =>
      c80 (v i) (sqS v i % 2 ^ 64) (sqS v i / 2 ^ 64) b5 b6 (hv i) hlt hd H Q' n3 h5 h6 (by rw [e1, e2]; exact hQ')
    have done := fun (e' : Env) k5 k6 k7 k14 k15 k16 => ih' e' ((H.set b5 (.cells [.int .u64 ((sqS v (i + 1) % 2 ^ 64 : Nat) : Int)] true)).set b6 (.cells [.int .u64 ((sqS v (i + 1) / 2 ^ 64 : Nat) : Int)] true)) (by omega) ((hx.set l5 _).set l6 _) k5 k6 k7 k14 k15 k16
      (by rw [Hp.get_set, if_neg n2, Hp.get_set, if_neg n1]; exact hb) (by rw [Hp.get_set, if_neg n3, Hp.get_set, if_pos rfl]) (by rw [Hp.get_set, if_pos rfl])
    clear ih ih' e1 e2 hK
    rcases lt4 (show i < 4 by omega) with rfl | rfl | rfl | rfl
    all_goals
      simp at hin
      simp [L37, g5, g6, g7, g14, g15, g16, hin, hin2, hb]
      refine k_callv (f := 80) (first := []) (caps := [(b5, 0), (b6, 0)]) ?_ ?_
      · simp
      simp only [List.map_nil, List.nil_append, List.map_cons]
      refine key _ fun v' => ?_
      simp
      exact done _ rfl rfl rfl rfl rfl rfl
theorem c37 (v : Nat → Int) (n : Nat) (hn : 1 ≤ n ∧ n ≤ 4) (hv : VI v) (h : Hp) (Q : CallQ) (hQ : ∀ h', Ext h h' → Q (fx (lenS v n)) h') : wpC T 37 [vv v, i64 (n : Int)] h Q := by
  refine k_code (fn := F37) rfl rfl ?_
  simp [F37, ptrOf, bnd, bndO, show ¬ (n : Int) < 0 from by omega, show ¬ (4 : Int) < (n : Int) from by omega, show (n : Int) ≤ 4 from by omega]
  refine loop37 (h0 := h) (n := n) (bv := h.next) (b5 := h.next + 1) (b6 := h.next + 1 + 1) (v := v) hn.2 hv (by omega) (by omega) (by omega) (by omega) (by omega) ?_ n 0 _ _ (by omega) (((((Ext.alloc h _).alloc' _).alloc' _).set (by omega) _).set (by omega) _) rfl rfl rfl rfl rfl rfl (by simp) (by simp [sqS]) (by simp [sqS])
  intro e H hx k5 k6 h5 h6
  have hs := sqS_le hv n
  obtain ⟨S, hS⟩ : ∃ S, sqS v n = S := ⟨_, rfl⟩
  unfold lenS at hQ
  rw [hS] at h5 h6 hs hQ
  by_cases hbig : 2 ^ 64 ≤ S
  · have e1 : S / 2 ^ 64 = 1 := by omega
    rw [e1] at h6
    rw [if_pos (by omega)] at hQ
    simp [k5, k6, h6]
    exact hQ H hx
  · have e1 : S / 2 ^ 64 = 0 := by omega
    have e2 : S % 2 ^ 64 = S := by omega
    rw [e1] at h6
    rw [e2] at h5
    simp [k5, k6, h5, h6]
    refine k_call ?_; simp
    refine c83r S (by omega) _ _ fun r hr hlt => ?_
    have e3 : IntKind.i64.wrap (r : Int) = (r : Int) := w64 (by omega)
    simp [e3]
    refine k_call ?_; simp
    refine c82 _ _ _ ?_
    by_cases h62 : 4611686018427387904 ≤ S
    · have hb := isRoot_big hr h62
      have : sat (r : Int) = 2147483647 := by unfold sat; rcases Nat.lt_or_ge 2147483647 r with h1 | h1
                                              · rw [if_pos (by omega)]
                                              · omega
      rw [if_pos h62] at hQ
      rw [this]
      first | exact hQ H hx | (simp; exact hQ H hx)
    · rw [if_neg h62, rootS_of hr] at hQ
      first | exact hQ H hx | (simp; exact hQ H hx)
theorem loop46 {Q : AExit → St → Prop} {K : List KI} {H : Hp} {n bv : Nat} {v : Nat → Int} (hn : n ≤ 4) (hv : VI v) (hb : H.get bv = some (vb v))
    (hK : ∀ e : Env, sqS v n < 4611686018427387904 → e.get 5 = u64 (sqS v n : Int) → wpK T Q K (.exit 0) ⟨e, H, [], none⟩)
    (hR : ∀ e : Env, 4611686018427387904 ≤ sqS v n → e.get 4 = fx 2147483647 → wpK T Q K .ret ⟨e, H, [], none⟩) :
    ∀ (d i : Nat) (e : Env), i + d = n → sqS v i < 4611686018427387904 → e.get 1 = i64 (n : Int) → e.get 2 = .c (.ptr bv 0) → e.get 5 = u64 (sqS v i : Int) → e.get 6 = i64 (i : Int) → wpK T Q (.code L46 :: K) .normal ⟨e, H, [], none⟩ := by
  intro d
  induction d with
  | zero =>
    intro i e hi hlt g1 g2 g5 g6
    obtain rfl : i = n := by omega
    refine k_loop ?_
    simp [L46, g1, g2, g5, g6, show ¬ (4 : Int) < (i : Int) from by omega]
    exact hK _ hlt rfl
  | succ d ih =>
    intro i e hi hlt g1 g2 g5 g6
    refine k_loop ?_
    have hin : (i : Int) < (n : Int) := by omega
    have hin2 : i < n := by omega
    have h4n : ¬ (4 : Int) < (n : Int) := by omega
    have hs := sq_le (hv i)
    have e1 : IntKind.i64.wrap (v i * v i) = v i * v i := w64 (by omega)
    obtain ⟨q, hq⟩ : ∃ q : Nat, v i * v i = (q : Int) := ⟨(v i * v i).toNat, by omega⟩
    have hsq : sqS v (i + 1) = sqS v i + q := by simp only [sqS, hq, Int.toNat_natCast]
    rw [hq] at e1 hs
    have e2 : IntKind.u64.wrap (q : Int) = (q : Int) := wu64 (by omega)
    have e3 : IntKind.u64.wrap ((sqS v i : Int) + (q : Int)) = (sqS v (i + 1) : Int) := by rw [wu64 (by omega)]; omega
    have mono : ∀ a b, a ≤ b → sqS v a ≤ sqS v b := by
      intro a b hab
      induction b with
      | zero => simp_all
      | succ b ihb =>
        rcases Nat.lt_or_ge a (b + 1) with h1 | h1
        · have := ihb (by omega); simp only [sqS]; omega
        · obtain rfl : a = b + 1 := by omega
          omega
    have hmn := mono (i + 1) n (by omega)
    have ih' := ih (i + 1)
    have hw := w64_32 (hv i)
    clear ih
    obtain ⟨s1, hs1⟩ : ∃ s1, sqS v (i + 1) = s1 := ⟨_, rfl⟩
    rw [hs1] at e3 hmn ih'
    by_cases hc : 4611686018427387904 ≤ s1
    · have hc' : (4611686018427387904 : Int) ≤ (s1 : Int) := by omega
      have hR' := hR
      rcases lt4 (show i < 4 by omega) with rfl | rfl | rfl | rfl
      all_goals
        simp at hin
        simp [L46, g1, g2, g5, g6, hin, hin2, h4n, hb, hw, hq, e1, e2, e3, hc, hc']
        exact hR' _ (by omega) rfl
    · have hc' : ¬ (4611686018427387904 : Int) ≤ (s1 : Int) := by omega
      rcases lt4 (show i < 4 by omega) with rfl | rfl | rfl | rfl
      all_goals
        simp at hin
        simp [L46, g1, g2, g5, g6, hin, hin2, h4n, hb, hw, hq, e1, e2, e3, hc, hc']
        exact ih' _ (by omega) (by omega) rfl rfl rfl rfl
theorem c46 (v : Nat → Int) (n : Nat) (hn : 1 ≤ n ∧ n ≤ 4) (hv : VI v) (h : Hp) (Q : CallQ) (hQ : ∀ h', Ext h h' → Q (fx (lenS v n)) h') : wpC T 46 [vv v, i64 (n : Int)] h Q := by
  refine k_code (fn := F46) rfl rfl ?_
  simp [F46]
  unfold lenS at hQ
  refine loop46 (n := n) (bv := h.next) (v := v) hn.2 hv (by simp) (fun e hlt g5 => ?_) (fun e hge g4 => ?_) n 0 _ (by omega) (by simp [sqS]) rfl rfl (by simp [sqS]) rfl
  · rw [if_neg (by omega)] at hQ
    simp [g5]
    refine k_call ?_; simp
    refine c92 (sqS v n) (by omega) _ _ ?_
    have hr : rootS (sqS v n) < 2 ^ 32 := by
      unfold rootS; split
      · rename_i hex
        have := Classical.choose_spec hex
        rcases Nat.lt_or_ge (Classical.choose hex) (2 ^ 32) with h1 | h1
        · exact h1
        · have := Nat.mul_le_mul h1 h1
          have := (Classical.choose_spec hex).1; omega
      · omega
    have e3 : IntKind.i64.wrap (rootS (sqS v n) : Int) = (rootS (sqS v n) : Int) := w64 (by omega)
    simp [e3]
    refine k_call ?_; simp
    refine c91 _ _ _ ?_
    first | exact hQ _ (Ext.alloc _ _) | (simp; exact hQ _ (Ext.alloc _ _))
  · rw [if_pos hge] at hQ
    simp [g4]
    exact hQ _ (Ext.alloc _ _)
end Go.Proofs.YtjlebgfbohihfaaGreat.Am

namespace Go.Proofs.YtjlebgfbohihfaaGreat.Am
open Go
set_option linter.unusedVariables false
set_option linter.unusedSimpArgs false

def L36 : ACode := (.loop [2,4,5,6,16,17] (.seq (.ops [o 18 (.bin 0 .lss (.t 17) (.t 16))])
 (.seq (.cond (.t 18) .skip
 (.exit 0))
 (.seq (.block 1 (.seq (.ops [o 19 (.mv (.t 17)),o 7 (.mv (.t 19))])
 (.ops [o 20 (.mv (.t 7)),o 21 (.mv (.t 7)),o 22 (.ixp 4 1 (.t 2) (.t 21)),o 23 (.ld (.t 22)),o 24 (.mv (.t 6)),o 25 (.call 79 [(.t 23),(.t 24)]),o 26 (.ixp 4 1 (.t 5) (.t 20)),e (.st 1 (.t 26) (.t 25))])))
 (.keep [2,4,5,6,16,17] (.ops [o 27 (.bin 0 .add (.t 17) (ki 1)),o 17 (.mv (.t 27))]))))))
def L42 : ACode := (.loop [1,2,4,5,6,7] (.seq (.seq (.ops [o 11 (.mv (.t 7)),o 12 (.mv (.t 1)),o 13 (.mn [(.t 12),(ki 4)]),o 14 (.bin 0 .lss (.t 11) (.t 13)),o 15 (.mv (.t 14)),⟨(some 16),(.mv (.t 6)),some (15,true)⟩,⟨(some 17),(.bin 0 .neq (.t 16) (.k (.c (.int .i32 0)))),some (15,true)⟩,o 18 (.pick (.t 15) (.t 17) (.k (.c (.bool false))))])
 (.cond (.t 18) .skip
 (.exit 0)))
 (.seq (.block 1 (.ops [o 21 (.mv (.t 7)),o 22 (.mv (.t 7)),o 23 (.ixp 4 1 (.t 2) (.t 22)),o 24 (.ld (.t 23)),o 25 (.mv (.t 6)),o 26 (.call 88 [(.t 24),(.t 25)]),o 27 (.ixp 4 1 (.t 5) (.t 21)),e (.st 1 (.t 27) (.t 26))]))
 (.keep [1,2,4,5,6,7] (.ops [o 19 (.mv (.t 7)),o 20 (.bin 0 .add (.t 19) (ki 1)),o 7 (.mv (.t 20))])))))
def L24 : ACode := (.loop [4,5,8,9] (.seq (.ops [o 10 (.bin 0 .lss (.t 9) (.t 8))])
 (.seq (.cond (.t 10) .skip
 (.exit 0))
 (.seq (.block 1 (.seq (.ops [o 11 (.mv (.t 9)),o 7 (.mv (.t 11))])
 (.seq (.dops [.op 0 (o 12 (.mv (.t 7))),.op 3 (o 15 (.mv (.t 7))),.op 1 (o 13 (.ixp 4 1 (.t 4) (.t 12))),.op 4 (o 16 (.ixp 4 1 (.t 5) (.t 15))),.op 2 (o 14 (.ld (.t 13))),.op 5 (o 17 (.ld (.t 16))),.op 6 (o 18 (.bin 0 .neq (.t 14) (.t 17)))])
 (.cond (.t 18) (.seq (.ops [o 6 (.mv (.k (.c (.bool false))))])
 .ret)
 .skip))))
 (.keep [4,5,8,9] (.ops [o 19 (.bin 0 .add (.t 9) (ki 1)),o 9 (.mv (.t 19))]))))))
def L41 : ACode := (.loop [0,4,5,7] (.seq (.seq (.ops [o 8 (.mv (.t 7)),o 9 (.mv (.t 0)),o 10 (.bin 0 .lss (.t 8) (.t 9))])
 (.cond (.t 10) .skip
 (.exit 0)))
 (.seq (.block 1 (.seq (.dops [.op 0 (o 13 (.mv (.t 7))),.op 3 (o 16 (.mv (.t 7))),.op 1 (o 14 (.ixp 4 1 (.t 4) (.t 13))),.op 4 (o 17 (.ixp 4 1 (.t 5) (.t 16))),.op 2 (o 15 (.ld (.t 14))),.op 5 (o 18 (.ld (.t 17))),.op 6 (o 19 (.bin 0 .neq (.t 15) (.t 18)))])
 (.cond (.t 19) (.seq (.ops [o 6 (.mv (.k (.c (.bool false))))])
 .ret)
 .skip)))
 (.keep [0,4,5,7] (.ops [o 11 (.mv (.t 7)),o 12 (.bin 0 .add (.t 11) (ki 1)),o 7 (.mv (.t 12))])))))
noncomputable def normS (v : Nat → Int) (n : Nat) : Nat → Int := if lenS v n = 0 then upto 0 (fun i => 0) else upto n (fun i => divS (v i) (lenS v n))
theorem loop36 {Q : AExit → St → Prop} {K : List KI} {h0 : Hp} {n bv b4 b5 : Nat} {v : Nat → Int} {l : Int} (hn : n ≤ 4) (hv : VI v) (hl : I32 l) (n1 : bv ≠ b5) (n2 : b4 ≠ b5) (l5 : h0.next ≤ b5)
    (hK : ∀ (e : Env) (H : Hp), Ext h0 H → e.get 4 = .c (.ptr b4 0) → e.get 5 = .c (.ptr b5 0) → H.get b5 = some (vb (upto n fun i => divS (v i) l)) → H.get b4 = some (vb fun _ => 0) → wpK T Q K (.exit 0) ⟨e, H, [], none⟩) :
    ∀ (d i : Nat) (e : Env) (H : Hp), i + d = n → Ext h0 H → e.get 2 = .c (.ptr bv 0) → e.get 4 = .c (.ptr b4 0) → e.get 5 = .c (.ptr b5 0) → e.get 6 = fx l → e.get 16 = i64 (n : Int) → e.get 17 = i64 (i : Int) →
      H.get bv = some (vb v) → H.get b4 = some (vb fun _ => 0) → H.get b5 = some (vb (upto i fun i => divS (v i) l)) → wpK T Q (.code L36 :: K) .normal ⟨e, H, [], none⟩ := by
  intro d
  induction d with
  | zero =>
    intro i e H hi hx g2 g4 g5 g6 g16 g17 hb h4 h5
    obtain rfl : i = n := by omega
    refine k_loop ?_
    simp [L36, g2, g4, g5, g6, g16, g17]
    exact hK _ H hx rfl rfl h5 h4
  | succ d ih =>
    intro i e H hi hx g2 g4 g5 g6 g16 g17 hb h4 h5
    refine k_loop ?_
    have hin : (i : Int) < (n : Int) := by omega
    have hin2 : i < n := by omega
    have fin := fun (e' : Env) k2 k4 k5 k6 k16 k17 => ih (i + 1) e' (H.set b5 (vb (upd (upto i fun i => divS (v i) l) i (divS (v i) l)))) (by omega) (hx.set l5 _) k2 k4 k5 k6 k16 k17
      (by rw [Hp.get_set, if_neg n1]; exact hb) (by rw [Hp.get_set, if_neg n2]; exact h4) (by rw [Hp.get_set, if_pos rfl]; exact congrArg (fun w => some (vb w)) (upd_upto (fun i => divS (v i) l) i))
    clear ih hK
    rcases lt4 (show i < 4 by omega) with rfl | rfl | rfl | rfl
    all_goals
      simp at hin
      simp [L36, g2, g4, g5, g6, g16, g17, hin, hin2, hb]
      refine k_call ?_; simp
      refine c79 _ _ _ _ (hv _) hl ?_
      simp [h5]
      exact fin _ rfl rfl rfl rfl rfl rfl
theorem c36 (v : Nat → Int) (n : Nat) (hn : 1 ≤ n ∧ n ≤ 4) (hv : VI v) (h : Hp) (Q : CallQ) (hQ : ∀ h', Ext h h' → Q (vv (normS v n)) h') : wpC T 36 [vv v, i64 (n : Int)] h Q := by
  refine k_code (fn := F36) rfl rfl ?_
  simp [F36]
  refine k_call ?_; simp
  refine c37 v n hn hv _ _ fun h1 hx1 => ?_
  have hb0 := hx1.2 h.next (by simp; omega)
  have hb1 := hx1.2 (h.next + 1) (by simp)
  have hb2 := hx1.2 (h.next + 1 + 1) (by simp)
  simp at hb0 hb1 hb2
  have hx0 : Ext h h1 := (((Ext.alloc h _).alloc' _).alloc' _).trans hx1
  unfold normS at hQ
  by_cases hl : lenS v n = 0
  · rw [if_pos hl] at hQ
    simp [hl, hb0, hb1, hb2]
    exact hQ _ (hx0.set (by omega) _)
  · rw [if_neg hl] at hQ
    simp [hl, hb0, hb1, hb2, show ¬ (n : Int) < 0 from by omega, show ¬ (4 : Int) < (n : Int) from by omega]
    refine loop36 (h0 := h) (n := n) (bv := h.next) (b4 := h.next + 1) (b5 := h.next + 1 + 1) (v := v) (l := lenS v n) hn.2 hv (lenS_I32 v n) (by omega) (by omega) (by omega) ?_ n 0 _ h1 (by omega) hx0 rfl rfl rfl rfl rfl rfl hb0 hb1 (by simp [hb2, upto])
    intro e H hx k4 k5 h5 h4
    simp [k4, k5, h5, h4]
    exact hQ _ (hx.set (by omega) _)
theorem loop42 {Q : AExit → St → Prop} {K : List KI} {h0 : Hp} {n bv b4 b5 : Nat} {v : Nat → Int} {l : Int} (hn : n ≤ 4) (hv : VI v) (hl : I32 l) (hl0 : l ≠ 0) (n1 : bv ≠ b5) (n2 : b4 ≠ b5) (l5 : h0.next ≤ b5)
    (hK : ∀ (e : Env) (H : Hp), Ext h0 H → e.get 4 = .c (.ptr b4 0) → e.get 5 = .c (.ptr b5 0) → H.get b5 = some (vb (upto n fun i => divS (v i) l)) → H.get b4 = some (vb fun _ => 0) → wpK T Q K (.exit 0) ⟨e, H, [], none⟩) :
    ∀ (d i : Nat) (e : Env) (H : Hp), i + d = n → Ext h0 H → e.get 1 = i64 (n : Int) → e.get 2 = .c (.ptr bv 0) → e.get 4 = .c (.ptr b4 0) → e.get 5 = .c (.ptr b5 0) → e.get 6 = fx l → e.get 7 = i64 (i : Int) →
      H.get bv = some (vb v) → H.get b4 = some (vb fun _ => 0) → H.get b5 = some (vb (upto i fun i => divS (v i) l)) → wpK T Q (.code L42 :: K) .normal ⟨e, H, [], none⟩ := by
  intro d
  induction d with
  | zero =>
    intro i e H hi hx g1 g2 g4 g5 g6 g7 hb h4 h5
    obtain rfl : i = n := by omega
    refine k_loop ?_
    simp [L42, g1, g2, g4, g5, g6, g7, show ¬ (4 : Int) < (i : Int) from by omega]
    exact hK _ H hx rfl rfl h5 h4
  | succ d ih =>
    intro i e H hi hx g1 g2 g4 g5 g6 g7 hb h4 h5
    refine k_loop ?_
    have hin : (i : Int) < (n : Int) := by omega
    have hin2 : i < n := by omega
    have h4n : ¬ (4 : Int) < (n : Int) := by omega
    have fin := fun (e' : Env) k1 k2 k4 k5 k6 k7 => ih (i + 1) e' (H.set b5 (vb (upd (upto i fun i => divS (v i) l) i (divS (v i) l)))) (by omega) (hx.set l5 _) k1 k2 k4 k5 k6 k7
      (by rw [Hp.get_set, if_neg n1]; exact hb) (by rw [Hp.get_set, if_neg n2]; exact h4) (by rw [Hp.get_set, if_pos rfl]; exact congrArg (fun w => some (vb w)) (upd_upto (fun i => divS (v i) l) i))
    clear ih hK
    rcases lt4 (show i < 4 by omega) with rfl | rfl | rfl | rfl
    all_goals
      simp at hin
      simp [L42, g1, g2, g4, g5, g6, g7, hin, hin2, h4n, hb, hl0]
      refine k_call ?_; simp
      refine c88 _ _ _ _ (hv _) hl ?_
      simp [h5]
      exact fin _ rfl rfl rfl rfl rfl rfl
theorem loop42z {Q : AExit → St → Prop} {K : List KI} {H : Hp} {n : Nat} {e : Env} (hn : 1 ≤ n ∧ n ≤ 4) (g1 : e.get 1 = i64 (n : Int)) (g6 : e.get 6 = fx 0) (g7 : e.get 7 = i64 0)
    (hK : ∀ e' : Env, e'.get 4 = e.get 4 → e'.get 5 = e.get 5 → wpK T Q K (.exit 0) ⟨e', H, [], none⟩) : wpK T Q (.code L42 :: K) .normal ⟨e, H, [], none⟩ := by
  refine k_loop ?_
  simp [L42, g1, g6, g7, show ¬ (4 : Int) < (n : Int) from by omega, show 0 < n from by omega]
  exact hK _ rfl rfl
theorem c42 (v : Nat → Int) (n : Nat) (hn : 1 ≤ n ∧ n ≤ 4) (hv : VI v) (h : Hp) (Q : CallQ) (hQ : ∀ h', Ext h h' → Q (vv (normS v n)) h') : wpC T 42 [vv v, i64 (n : Int)] h Q := by
  refine k_code (fn := F42) rfl rfl ?_
  simp [F42]
  refine k_call ?_; simp
  refine c46 v n hn hv _ _ fun h1 hx1 => ?_
  have hb0 := hx1.2 h.next (by simp; omega)
  have hb1 := hx1.2 (h.next + 1) (by simp)
  have hb2 := hx1.2 (h.next + 1 + 1) (by simp)
  simp at hb0 hb1 hb2
  have hx0 : Ext h h1 := (((Ext.alloc h _).alloc' _).alloc' _).trans hx1
  unfold normS at hQ
  by_cases hl : lenS v n = 0
  · rw [if_pos hl] at hQ
    simp [hl]
    refine loop42z hn rfl rfl rfl fun e' k4 k5 => ?_
    simp at k4 k5
    simp [k4, k5, hb0, hb1, hb2]
    exact hQ _ (hx0.set (by omega) _)
  · rw [if_neg hl] at hQ
    skip
    refine loop42 (h0 := h) (n := n) (bv := h.next) (b4 := h.next + 1) (b5 := h.next + 1 + 1) (v := v) (l := lenS v n) hn.2 hv (lenS_I32 v n) hl (by omega) (by omega) (by omega) ?_ n 0 _ h1 (by omega) hx0 rfl rfl rfl rfl rfl rfl hb0 hb1 (by simp [hb2, upto])
    intro e H hx k4 k5 h5 h4
    simp [k4, k5, h5, h4]
    exact hQ _ (hx.set (by omega) _)
/-- Whether the first n of the two are the same, each by each. -/
def sameS (v w : Nat → Int) : Nat → Bool
  | 0 => true
  | k + 1 => sameS v w k && decide (v k = w k)
theorem sameS_lt {v w : Nat → Int} {i n : Nat} (h : v i ≠ w i) (hi : i < n) : sameS v w n = false := by
  induction n with
  | zero => omega
  | succ n ih =>
    rcases Nat.lt_or_ge i n with h1 | h1
    · simp [sameS, ih h1]
    · obtain rfl : i = n := by omega
      simp [sameS, h]
theorem loop24 {Q : AExit → St → Prop} {K : List KI} {H : Hp} {n ba bb : Nat} {v w : Nat → Int} (hn : n ≤ 4) (ga : H.get ba = some (vb v)) (gb : H.get bb = some (vb w))
    (hK : ∀ e : Env, sameS v w n = true → wpK T Q K (.exit 0) ⟨e, H, [], none⟩) (hR : ∀ e : Env, sameS v w n = false → e.get 6 = .c (.bool false) → wpK T Q K .ret ⟨e, H, [], none⟩) :
    ∀ (d i : Nat) (e : Env), i + d = n → sameS v w i = true → e.get 4 = .c (.ptr ba 0) → e.get 5 = .c (.ptr bb 0) → e.get 8 = i64 (n : Int) → e.get 9 = i64 (i : Int) → wpK T Q (.code L24 :: K) .normal ⟨e, H, [], none⟩ := by
  intro d
  induction d with
  | zero =>
    intro i e hi hs g4 g5 g8 g9
    obtain rfl : i = n := by omega
    refine k_loop ?_
    simp [L24, g4, g5, g8, g9]
    exact hK _ hs
  | succ d ih =>
    intro i e hi hs g4 g5 g8 g9
    refine k_loop ?_
    have hin : (i : Int) < (n : Int) := by omega
    have hin2 : i < n := by omega
    by_cases hvw : v i = w i
    · have fin := fun (e' : Env) => ih (i + 1) e' (by omega) (by simp [sameS, hs, hvw])
      clear ih hK hR
      rcases lt4 (show i < 4 by omega) with rfl | rfl | rfl | rfl
      all_goals
        simp at hin
        simp [L24, g4, g5, g8, g9, hin, hin2, ga, gb, hvw]
        exact fin _ rfl rfl rfl rfl
    · have fin := fun (e' : Env) => hR e' (sameS_lt hvw hin2)
      clear ih hK hR
      rcases lt4 (show i < 4 by omega) with rfl | rfl | rfl | rfl
      all_goals
        simp at hin
        simp [L24, g4, g5, g8, g9, hin, hin2, ga, gb, hvw]
        exact fin _ rfl
theorem c24 (n : Nat) (v w : Nat → Int) (hn : n ≤ 4) (h : Hp) (Q : CallQ) (hQ : ∀ h', Ext h h' → Q (.c (.bool (sameS v w n))) h') : wpC T 24 [i64 (n : Int), vv v, vv w] h Q := by
  refine k_code (fn := F24) rfl rfl ?_
  simp [F24]
  refine loop24 (n := n) (v := v) (w := w) (ba := h.next) (bb := h.next + 1) hn (by simp) (by simp) (fun e hs => ?_) (fun e hs k6 => ?_) n 0 _ (by omega) rfl rfl rfl rfl rfl
  · rw [hs] at hQ; simp; exact hQ _ ((Ext.alloc h _).alloc' _)
  · rw [hs] at hQ; simp [k6]; exact hQ _ ((Ext.alloc h _).alloc' _)
theorem loop41 {Q : AExit → St → Prop} {K : List KI} {H : Hp} {n ba bb : Nat} {v w : Nat → Int} (hn : n ≤ 4) (ga : H.get ba = some (vb v)) (gb : H.get bb = some (vb w))
    (hK : ∀ e : Env, sameS v w n = true → wpK T Q K (.exit 0) ⟨e, H, [], none⟩) (hR : ∀ e : Env, sameS v w n = false → e.get 6 = .c (.bool false) → wpK T Q K .ret ⟨e, H, [], none⟩) :
    ∀ (d i : Nat) (e : Env), i + d = n → sameS v w i = true → e.get 4 = .c (.ptr ba 0) → e.get 5 = .c (.ptr bb 0) → e.get 0 = i64 (n : Int) → e.get 7 = i64 (i : Int) → wpK T Q (.code L41 :: K) .normal ⟨e, H, [], none⟩ := by
  intro d
  induction d with
  | zero =>
    intro i e hi hs g4 g5 g8 g9
    obtain rfl : i = n := by omega
    refine k_loop ?_
    simp [L41, g4, g5, g8, g9]
    exact hK _ hs
  | succ d ih =>
    intro i e hi hs g4 g5 g8 g9
    refine k_loop ?_
    have hin : (i : Int) < (n : Int) := by omega
    have hin2 : i < n := by omega
    by_cases hvw : v i = w i
    · have fin := fun (e' : Env) => ih (i + 1) e' (by omega) (by simp [sameS, hs, hvw])
      clear ih hK hR
      rcases lt4 (show i < 4 by omega) with rfl | rfl | rfl | rfl
      all_goals
        simp at hin
        simp [L41, g4, g5, g8, g9, hin, hin2, ga, gb, hvw]
        exact fin _ rfl rfl rfl rfl
    · have fin := fun (e' : Env) => hR e' (sameS_lt hvw hin2)
      clear ih hK hR
      rcases lt4 (show i < 4 by omega) with rfl | rfl | rfl | rfl
      all_goals
        simp at hin
        simp [L41, g4, g5, g8, g9, hin, hin2, ga, gb, hvw]
        exact fin _ rfl
theorem c41 (n : Nat) (v w : Nat → Int) (hn : n ≤ 4) (h : Hp) (Q : CallQ) (hQ : ∀ h', Ext h h' → Q (.c (.bool (sameS v w n))) h') : wpC T 41 [i64 (n : Int), vv v, vv w] h Q := by
  refine k_code (fn := F41) rfl rfl ?_
  simp [F41]
  refine loop41 (n := n) (v := v) (w := w) (ba := h.next) (bb := h.next + 1) hn (by simp) (by simp) (fun e hs => ?_) (fun e hs k6 => ?_) n 0 _ (by omega) rfl rfl rfl rfl rfl
  · rw [hs] at hQ; simp; exact hQ _ ((Ext.alloc h _).alloc' _)
  · rw [hs] at hQ; simp [k6]; exact hQ _ ((Ext.alloc h _).alloc' _)
end Go.Proofs.YtjlebgfbohihfaaGreat.Am

namespace Go.Proofs.YtjlebgfbohihfaaGreat.Am
open Go
set_option linter.unusedVariables false
set_option linter.unusedSimpArgs false

def L89 : ACode := (.loop [0,1,6,7,8,9,10] (.seq (.seq (.ops [o 11 (.mv (.t 10)),o 12 (.mv (.t 1)),o 13 (.bin 0 .lss (.t 11) (.t 12))])
 (.cond (.t 13) .skip
 (.exit 0)))
 (.seq (.block 1 (.dops [.op 0 (o 16 (.mv (.t 10))),.op 1 (o 17 (.mv (.t 0))),.op 2 (o 18 (.mv (.t 10))),.op 5 (o 21 (.mv (.t 10))),.op 3 (o 19 (.ixp 4 1 (.t 6) (.t 18))),.op 6 (o 22 (.ixp 4 1 (.t 7) (.t 21))),.op 4 (o 20 (.ld (.t 19))),.op 7 (o 23 (.ld (.t 22))),.eff 8 (o 24 (.call 49 [(.t 17),(.t 20),(.t 23)])) [],.op 9 (o 25 (.ixp 4 1 (.t 9) (.t 16))),.eff 10 (e (.st 1 (.t 25) (.t 24))) []]))
 (.keep [0,1,6,7,8,9,10] (.ops [o 14 (.mv (.t 10)),o 15 (.bin 0 .add (.t 14) (ki 1)),o 10 (.mv (.t 15))])))))
def L45 : ACode := (.loop [0,7,8,9] (.seq (.seq (.ops [o 16 (.mv (.t 9)),o 17 (.mv (.t 0)),o 18 (.bin 0 .lss (.t 16) (.t 17))])
 (.cond (.t 18) .skip
 (.exit 0)))
 (.seq (.block 1 (.ops [o 21 (.mv (.t 8)),o 22 (.mv (.t 9)),o 23 (.ixp 4 1 (.t 7) (.t 22)),o 24 (.ld (.t 23)),o 25 (.call 90 [(.t 21),(.t 24)]),o 8 (.mv (.t 25))]))
 (.ops [o 19 (.mv (.t 9)),o 20 (.bin 0 .add (.t 19) (ki 1)),o 9 (.mv (.t 20))]))))
theorem upto_VI {F : Nat → Int} {n : Nat} (h : ∀ i, I32 (F i)) : VI (upto n F) := fun i => by
  unfold upto; split
  · exact h i
  · exact zero_I32
theorem upto_lt {F : Nat → Int} {n i : Nat} (h : i < n) : upto n F i = F i := if_pos h
theorem loop89 {Q : AExit → St → Prop} {K : List KI} {h0 : Hp} {n ba bb b8 b9 : Nat} {op : Int} {a b : Nat → Int} (hn : n ≤ 4) (ho : 0 ≤ op ∧ op < 8) (ha : VI a) (hb : VI b) (n1 : ba ≠ b9) (n2 : bb ≠ b9) (n3 : b8 ≠ b9) (l9 : h0.next ≤ b9)
    (hK : ∀ (e : Env) (H : Hp), Ext h0 H → e.get 8 = .c (.ptr b8 0) → e.get 9 = .c (.ptr b9 0) → H.get b8 = some (vb fun _ => 0) → H.get b9 = some (vb (upto n fun i => twoS op (a i) (b i))) → wpK T Q K (.exit 0) ⟨e, H, [], none⟩) :
    ∀ (d i : Nat) (e : Env) (H : Hp), i + d = n → Ext h0 H → e.get 0 = i64 op → e.get 1 = i64 (n : Int) → e.get 6 = .c (.ptr ba 0) → e.get 7 = .c (.ptr bb 0) → e.get 8 = .c (.ptr b8 0) → e.get 9 = .c (.ptr b9 0) → e.get 10 = i64 (i : Int) →
      H.get ba = some (vb a) → H.get bb = some (vb b) → H.get b8 = some (vb fun _ => 0) → H.get b9 = some (vb (upto i fun i => twoS op (a i) (b i))) → wpK T Q (.code L89 :: K) .normal ⟨e, H, [], none⟩ := by
  intro d
  induction d with
  | zero =>
    intro i e H hi hx g0 g1 g6 g7 g8 g9 g10 k1 k2 k3 k4
    obtain rfl : i = n := by omega
    refine k_loop ?_
    simp [L89, g0, g1, g6, g7, g8, g9, g10]
    exact hK _ H hx rfl rfl k3 k4
  | succ d ih =>
    intro i e H hi hx g0 g1 g6 g7 g8 g9 g10 k1 k2 k3 k4
    refine k_loop ?_
    have hin : (i : Int) < (n : Int) := by omega
    have hin2 : i < n := by omega
    have fin := fun (e' : Env) k0 k1' k6 k7 k8 k9 k10 => ih (i + 1) e' (H.set b9 (vb (upd (upto i fun i => twoS op (a i) (b i)) i (twoS op (a i) (b i))))) (by omega) (hx.set l9 _) k0 k1' k6 k7 k8 k9 k10
      (by rw [Hp.get_set, if_neg n1]; exact k1) (by rw [Hp.get_set, if_neg n2]; exact k2) (by rw [Hp.get_set, if_neg n3]; exact k3) (by rw [Hp.get_set, if_pos rfl]; exact congrArg (fun w => some (vb w)) (upd_upto (fun i => twoS op (a i) (b i)) i))
    clear ih hK
    rcases lt4 (show i < 4 by omega) with rfl | rfl | rfl | rfl
    all_goals
      simp at hin
      simp [L89, g0, g1, g6, g7, g8, g9, g10, hin, hin2, k1, k2]
      refine k_call ?_; simp
      refine c49 _ _ op _ _ ho (ha _) (hb _) ?_
      simp [k4]
      exact fin _ rfl rfl rfl rfl rfl rfl rfl
section
variable (h : Hp) (Q : CallQ)
theorem c89 (op : Int) (n : Nat) (a b : Nat → Int) (ho : 0 ≤ op ∧ op < 8) (hn : n ≤ 4) (ha : VI a) (hb : VI b)
    (hQ : ∀ h', Ext h h' → Q (vv (upto n fun i => twoS op (a i) (b i))) h') : wpC T 89 [i64 op, i64 (n : Int), vv a, vv b] h Q := by
  refine k_code (fn := F89) rfl rfl ?_
  simp [F89]
  refine loop89 (h0 := h) (n := n) (op := op) (a := a) (b := b) (ba := h.next) (bb := h.next + 1) (b8 := h.next + 1 + 1) (b9 := h.next + 1 + 1 + 1) hn ho ha hb (by omega) (by omega) (by omega) (by omega) ?_ n 0 _ _ (by omega) ((((Ext.alloc h _).alloc' _).alloc' _).alloc' _) rfl rfl rfl rfl rfl rfl rfl (by simp) (by simp) (by simp) (by simp [upto])
  intro e H hx k8 k9 h8 h9
  simp [k8, k9, h8, h9]
  exact hQ _ (hx.set (by omega) _)
theorem upto_mix (a b t : Nat → Int) (n : Nat) : (upto n fun i => twoS 0 (a i) ((upto n fun i => twoS 2 ((upto n fun i => twoS 1 (b i) (a i)) i) (t i)) i)) = upto n fun i => mixS (a i) (b i) (t i) := by
  funext i
  unfold upto
  by_cases h : i < n
  · simp [h, mixS, twoS]
  · simp [h]
theorem upto_clamp (a b t : Nat → Int) (n : Nat) : (upto n fun i => twoS 4 ((upto n fun i => twoS 5 (a i) (b i)) i) (t i)) = upto n fun i => clampS (a i) (b i) (t i) := by
  funext i
  unfold upto
  by_cases h : i < n
  · simp [h, clampS]
  · simp [h]
theorem c43 (n : Nat) (a b t : Nat → Int) (hn : n ≤ 4) (ha : VI a) (hb : VI b) (ht : VI t)
    (hQ : ∀ h', Ext h h' → Q (vv (upto n fun i => mixS (a i) (b i) (t i))) h') : wpC T 43 [i64 (n : Int), vv a, vv b, vv t] h Q := by
  refine k_code (fn := F43) rfl rfl ?_
  rw [← upto_mix] at hQ
  have w1 := upto_VI (n := n) (F := fun i => twoS 1 (b i) (a i)) (fun i => twoS_I32 (hb i) (ha i))
  have w2 := upto_VI (n := n) (F := fun i => twoS 2 ((upto n fun i => twoS 1 (b i) (a i)) i) (t i)) (fun i => twoS_I32 (w1 i) (ht i))
  obtain ⟨V1, hV1⟩ : ∃ V, (upto n fun i => twoS 1 (b i) (a i)) = V := ⟨_, rfl⟩
  have r1 := fun (h : Hp) (Q : CallQ) => c89 h Q 1 n b a (by omega) hn hb ha
  rw [hV1] at hQ w1 w2 r1
  have r2 := fun (h : Hp) (Q : CallQ) => c89 h Q 2 n V1 t (by omega) hn w1 ht
  obtain ⟨V2, hV2⟩ : ∃ V, (upto n fun i => twoS 2 (V1 i) (t i)) = V := ⟨_, rfl⟩
  rw [hV2] at hQ w2 r2
  have r3 := fun (h : Hp) (Q : CallQ) => c89 h Q 0 n a V2 (by omega) hn ha w2
  obtain ⟨V3, hV3⟩ : ∃ V, (upto n fun i => twoS 0 (a i) (V2 i)) = V := ⟨_, rfl⟩
  rw [hV3] at hQ r3
  simp [F43]
  refine k_call ?_; simp
  refine r1 _ _ fun h1 hx1 => ?_
  have a0 := hx1.2 h.next (by simp; omega)
  have a1 := hx1.2 (h.next + 1) (by simp)
  have a2 := hx1.2 (h.next + 1 + 1) (by simp)
  have a3 := hx1.2 (h.next + 1 + 1 + 1) (by simp)
  simp at a0 a1 a2 a3
  have e1 : Ext h h1 := ((((Ext.alloc h _).alloc' _).alloc' _).alloc' _).trans hx1
  have b1 := hx1.1
  simp at b1
  simp [a0, a1, a2, a3]
  refine k_call ?_; simp
  refine r2 _ _ fun h2 hx2 => ?_
  have c0 := (hx2.2 h.next (by omega)).trans a0
  have c3 := (hx2.2 (h.next + 1 + 1 + 1) (by omega)).trans a3
  have b2 := hx2.1
  simp [c0, c3]
  refine k_call ?_; simp
  refine r3 _ _ fun h3 hx3 => ?_
  have d3 := (hx3.2 (h.next + 1 + 1 + 1) (by omega)).trans c3
  simp [d3]
  exact hQ _ (((e1.trans hx2).trans hx3).set (by omega) _)
theorem c44 (n : Nat) (a b t : Nat → Int) (hn : n ≤ 4) (ha : VI a) (hb : VI b) (ht : VI t)
    (hQ : ∀ h', Ext h h' → Q (vv (upto n fun i => clampS (a i) (b i) (t i))) h') : wpC T 44 [i64 (n : Int), vv a, vv b, vv t] h Q := by
  refine k_code (fn := F44) rfl rfl ?_
  rw [← upto_clamp] at hQ
  have w1 := upto_VI (n := n) (F := fun i => twoS 5 (a i) (b i)) (fun i => twoS_I32 (ha i) (hb i))
  obtain ⟨V1, hV1⟩ : ∃ V, (upto n fun i => twoS 5 (a i) (b i)) = V := ⟨_, rfl⟩
  have r1 := fun (h : Hp) (Q : CallQ) => c89 h Q 5 n a b (by omega) hn ha hb
  rw [hV1] at hQ w1 r1
  have r2 := fun (h : Hp) (Q : CallQ) => c89 h Q 4 n V1 t (by omega) hn w1 ht
  obtain ⟨V2, hV2⟩ : ∃ V, (upto n fun i => twoS 4 (V1 i) (t i)) = V := ⟨_, rfl⟩
  rw [hV2] at hQ r2
  simp [F44]
  refine k_call ?_; simp
  refine r1 _ _ fun h1 hx1 => ?_
  have a2 := hx1.2 (h.next + 1 + 1) (by simp)
  have a3 := hx1.2 (h.next + 1 + 1 + 1) (by simp)
  simp at a2 a3
  have e1 : Ext h h1 := ((((Ext.alloc h _).alloc' _).alloc' _).alloc' _).trans hx1
  have b1 := hx1.1
  simp at b1
  simp [a2, a3]
  refine k_call ?_; simp
  refine r2 _ _ fun h2 hx2 => ?_
  have c3 := (hx2.2 (h.next + 1 + 1 + 1) (by omega)).trans a3
  simp [c3]
  exact hQ _ ((e1.trans hx2).set (by omega) _)
theorem c93 (x y z w : Int) (hx : I32 x) (hy : I32 y) (hz : I32 z) (hw : I32 w) (hQ : Q (fx (subS (mulS x y) (mulS z w))) h) : wpC T 93 [fx x, fx y, fx z, fx w] h Q := by
  refine k_code (fn := F93) rfl rfl ?_
  simp [F93]
  refine k_call ?_; simp
  refine c96 _ _ _ _ hx hy ?_
  try simp
  refine k_call ?_; simp
  refine c96 _ _ _ _ hz hw ?_
  try simp
  refine k_call ?_; simp
  refine c95 _ _ _ _ (mulS_I32 _ _) (mulS_I32 _ _) ?_
  first | exact hQ | (simp; exact hQ)
end
theorem loop45 {Q : AExit → St → Prop} {K : List KI} {H : Hp} {n b7 : Nat} {a b : Nat → Int} (hn : n ≤ 4) (g : H.get b7 = some (vb (upto n fun i => twoS 2 (a i) (b i))))
    (hK : ∀ e : Env, e.get 8 = fx (dotI a b (n - 1)) → wpK T Q K (.exit 0) ⟨e, H, [], none⟩) :
    ∀ (d i : Nat) (e : Env), 1 ≤ i → i + d = n → e.get 0 = i64 (n : Int) → e.get 7 = .c (.ptr b7 0) → e.get 8 = fx (dotI a b (i - 1)) → e.get 9 = i64 (i : Int) → wpK T Q (.code L45 :: K) .normal ⟨e, H, [], none⟩ := by
  intro d
  induction d with
  | zero =>
    intro i e h1 hi g0 g7 g8 g9
    obtain rfl : i = n := by omega
    refine k_loop ?_
    simp [L45, g0, g7, g8, g9]
    exact hK _ rfl
  | succ d ih =>
    intro i e h1 hi g0 g7 g8 g9
    refine k_loop ?_
    have hin : (i : Int) < (n : Int) := by omega
    have hI := dotI_I32 a b (i - 1)
    have ih' := ih (i + 1)
    have hu : upto n (fun i => twoS 2 (a i) (b i)) i = mulS (a i) (b i) := by rw [upto_lt (by omega)]; simp [twoS]
    rcases (show i = 1 ∨ i = 2 ∨ i = 3 by omega) with rfl | rfl | rfl
    all_goals
      simp at hin
      simp [L45, g0, g7, g8, g9, hin, g, hu]
      refine k_call ?_; simp
      refine c90 _ _ _ _ hI (mulS_I32 _ _) ?_
      try simp
      exact ih' _ (by omega) (by omega) rfl rfl rfl rfl
theorem c45 (n : Nat) (a b : Nat → Int) (hn : 1 ≤ n ∧ n ≤ 4) (ha : VI a) (hb : VI b) (h : Hp) (Q : CallQ)
    (hQ : ∀ h', Ext h h' → Q (fx (dotI a b (n - 1))) h') : wpC T 45 [i64 (n : Int), vv a, vv b] h Q := by
  refine k_code (fn := F45) rfl rfl ?_
  simp [F45]
  refine k_call ?_; simp
  refine c89 _ _ 2 n a b (by omega) hn.2 ha hb fun h1 hx1 => ?_
  have hu : upto n (fun i => twoS 2 (a i) (b i)) 0 = dotI a b 0 := by rw [upto_lt (by omega)]; simp [twoS, dotI]
  simp
  refine loop45 (n := n) (a := a) (b := b) (b7 := h1.next) hn.2 (by simp) (fun e g8 => ?_) (n - 1) 1 _ (by omega) (by omega) rfl rfl (by simp [hu]) rfl
  simp [g8]
  exact hQ _ ((((Ext.alloc h _).alloc' _).trans hx1).trans ((Ext.alloc _ _).set (Nat.le_refl _) _))
theorem c47 (a b : Nat → Int) (ha : VI a) (hb : VI b) (h : Hp) (Q : CallQ) (hQ : ∀ h', Ext h h' → Q (vv (upto 3 (crossS a b))) h') : wpC T 47 [vv a, vv b] h Q := by
  refine k_code (fn := F47) rfl rfl ?_
  simp [vv, vc, upto, crossS] at hQ
  simp [F47]
  refine k_call ?_; simp
  refine c93 _ _ _ _ _ _ (ha _) (hb _) (ha _) (hb _) ?_
  simp
  refine k_call ?_; simp
  refine c93 _ _ _ _ _ _ (ha _) (hb _) (ha _) (hb _) ?_
  simp
  refine k_call ?_; simp
  refine c93 _ _ _ _ _ _ (ha _) (hb _) (ha _) (hb _) ?_
  simp
  exact hQ _ ((((Ext.alloc h _).alloc' _).alloc' _).set (by omega) _)
/-- What is done to one number by a function of one. -/
noncomputable def sglS (fn x : Int) : Int :=
  if fn = 5 then sqrtS x else if fn = 6 then invS x else if fn = 7 then expS x else if fn = 8 then logS x else if fn = 9 then sinS x else if fn = 10 then cosS x else oneS fn x
theorem c52 (fn x : Int) (hf : 1 ≤ fn ∧ fn ≤ 10) (hx : I32 x) (h : Hp) (Q : CallQ) (hQ : ∀ h', Ext h h' → Q (fx (sglS fn x)) h') : wpC T 52 [i64 fn, fx x] h Q := by
  refine k_code (fn := F52) rfl rfl ?_
  rcases (show fn = 5 ∨ fn = 6 ∨ fn = 7 ∨ fn = 8 ∨ fn = 9 ∨ fn = 10 ∨ fn < 5 by omega) with rfl | rfl | rfl | rfl | rfl | rfl | hlt
  · simp [sglS] at hQ; simp [F52]; refine k_call ?_; simp; refine c100 _ _ x hx ?_; first | exact hQ _ (Ext.refl _) | (simp; exact hQ _ (Ext.refl _))
  · simp [sglS] at hQ; simp [F52]; refine k_call ?_; simp; refine c101 _ _ x hx ?_; first | exact hQ _ (Ext.refl _) | (simp; exact hQ _ (Ext.refl _))
  · simp [sglS] at hQ; simp [F52]; refine k_call ?_; simp; refine c98 x hx _ _ fun h' hx' => ?_; first | exact hQ _ hx' | (simp; exact hQ _ hx')
  · simp [sglS] at hQ; simp [F52]; refine k_call ?_; simp; refine c99 _ _ x hx ?_; first | exact hQ _ (Ext.refl _) | (simp; exact hQ _ (Ext.refl _))
  · simp [sglS] at hQ; simp [F52]; refine k_call ?_; simp; refine c102 _ _ x hx ?_; first | exact hQ _ (Ext.refl _) | (simp; exact hQ _ (Ext.refl _))
  · simp [sglS] at hQ; simp [F52]; refine k_call ?_; simp; refine c103 _ _ x hx ?_; first | exact hQ _ (Ext.refl _) | (simp; exact hQ _ (Ext.refl _))
  · have e5 : ¬ fn = 5 := by omega
    have e6 : ¬ fn = 6 := by omega
    have e7 : ¬ fn = 7 := by omega
    have e8 : ¬ fn = 8 := by omega
    have e9 : ¬ fn = 9 := by omega
    have e10 : ¬ fn = 10 := by omega
    simp [sglS, e5, e6, e7, e8, e9, e10] at hQ
    simp [F52, e5, e6, e7, e8, e9, e10]
    refine k_call ?_; simp
    refine c104 _ _ fn x (by omega) hx ?_
    first | exact hQ _ (Ext.refl _) | (simp; exact hQ _ (Ext.refl _))
/-- The function value for a function of one. -/
def rootF (fn : Int) : Nat := if fn = 5 then 84 else if fn = 6 then 85 else if fn = 7 then 71 else if fn = 8 then 73 else if fn = 9 then 86 else 87
theorem six {fn : Int} (hf : 5 ≤ fn ∧ fn ≤ 10) : fn = 5 ∨ fn = 6 ∨ fn = 7 ∨ fn = 8 ∨ fn = 9 ∨ fn = 10 := by omega
theorem c38 (fn : Int) (hf : 5 ≤ fn ∧ fn ≤ 10) (h : Hp) (Q : CallQ) (hQ : Q (.c (.fn (rootF fn) [] [])) h) : wpC T 38 [i64 fn] h Q := by
  refine k_code (fn := F38) rfl rfl ?_
  rcases six hf with rfl | rfl | rfl | rfl | rfl | rfl <;> simp [rootF] at hQ <;> simp [F38] <;> exact hQ
theorem tells39 {fn : Int} {a : Nat → Int} {bf ba : Nat} {h : Hp} (hf : 5 ≤ fn ∧ fn ≤ 10) (ha : VI a) (lf : bf < h.next) (la : ba < h.next)
    (gf : h.get bf = some (.cells [.fn (rootF fn) [] []] true)) (ga : h.get ba = some (vb a)) : Tells 39 [(bf, 0), (ba, 0)] 4 (fun i => sglS fn (a i)) h := by
  intro i hi h' hx Q hQ
  have kf := (hx.2 bf lf).trans gf
  have ka := (hx.2 ba la).trans ga
  refine k_code (fn := F39) rfl rfl ?_
  rcases six hf with rfl | rfl | rfl | rfl | rfl | rfl
  · simp [rootF] at kf
    simp [sglS] at hQ
    rcases lt4 hi with rfl | rfl | rfl | rfl
    all_goals
      simp [F39, kf, ka]
      refine k_callv (f := 84) (first := []) (caps := []) ?_ ?_
      · simp
      try simp
      refine c84 _ _ _ (ha _) ?_
      first | exact hQ _ (Ext.refl _) | (simp; exact hQ _ (Ext.refl _))
  · simp [rootF] at kf
    simp [sglS] at hQ
    rcases lt4 hi with rfl | rfl | rfl | rfl
    all_goals
      simp [F39, kf, ka]
      refine k_callv (f := 85) (first := []) (caps := []) ?_ ?_
      · simp
      try simp
      refine c85 _ _ _ (ha _) ?_
      first | exact hQ _ (Ext.refl _) | (simp; exact hQ _ (Ext.refl _))
  · simp [rootF] at kf
    simp [sglS] at hQ
    rcases lt4 hi with rfl | rfl | rfl | rfl
    all_goals
      simp [F39, kf, ka]
      refine k_callv (f := 71) (first := []) (caps := []) ?_ ?_
      · simp
      try simp
      refine c71 _ (ha _) _ _ fun h'' hx' => ?_
      first | exact hQ _ hx' | (simp; exact hQ _ hx')
  · simp [rootF] at kf
    simp [sglS] at hQ
    rcases lt4 hi with rfl | rfl | rfl | rfl
    all_goals
      simp [F39, kf, ka]
      refine k_callv (f := 73) (first := []) (caps := []) ?_ ?_
      · simp
      try simp
      refine c73 _ _ _ (ha _) ?_
      first | exact hQ _ (Ext.refl _) | (simp; exact hQ _ (Ext.refl _))
  · simp [rootF] at kf
    simp [sglS] at hQ
    rcases lt4 hi with rfl | rfl | rfl | rfl
    all_goals
      simp [F39, kf, ka]
      refine k_callv (f := 86) (first := []) (caps := []) ?_ ?_
      · simp
      try simp
      refine c86 _ _ _ (ha _) ?_
      first | exact hQ _ (Ext.refl _) | (simp; exact hQ _ (Ext.refl _))
  · simp [rootF] at kf
    simp [sglS] at hQ
    rcases lt4 hi with rfl | rfl | rfl | rfl
    all_goals
      simp [F39, kf, ka]
      refine k_callv (f := 87) (first := []) (caps := []) ?_ ?_
      · simp
      try simp
      refine c87 _ _ _ (ha _) ?_
      first | exact hQ _ (Ext.refl _) | (simp; exact hQ _ (Ext.refl _))
end Go.Proofs.YtjlebgfbohihfaaGreat.Am

namespace Go.Proofs.YtjlebgfbohihfaaGreat.Am
open Go
set_option linter.unusedVariables false
set_option linter.unusedSimpArgs false

/-- How many an operation takes, whatever the base. -/
def tkS (fn : Int) : Int :=
  if fn = 17 ∨ fn = 18 then 3 else if (1 ≤ fn ∧ fn ≤ 11) ∨ fn = 20 ∨ fn = 28 ∨ fn = 35 then 1
  else if (12 ≤ fn ∧ fn ≤ 16) ∨ fn = 19 ∨ fn = 21 ∨ (24 ≤ fn ∧ fn ≤ 27) ∨ (29 ≤ fn ∧ fn ≤ 34) then 2 else 0
/-- Whether the base may have the operation. -/
def maS (fn base : Int) : Bool :=
  if base = 1 then decide (fn ≠ 35) else if base = 2 then decide (24 ≤ fn ∧ fn ≤ 34) else if base = 3 then decide (33 ≤ fn ∧ fn ≤ 35) else false
/-- How many an operation takes of this base, or none. -/
def rtS (fn base : Int) : Int := if tkS fn = 0 ∨ maS fn base = false then 0 else tkS fn
theorem fn35 {fn : Int} (h : 1 ≤ fn ∧ fn ≤ 35) : fn = 1 ∨ fn = 2 ∨ fn = 3 ∨ fn = 4 ∨ fn = 5 ∨ fn = 6 ∨ fn = 7 ∨ fn = 8 ∨ fn = 9 ∨ fn = 10 ∨ fn = 11 ∨ fn = 12 ∨ fn = 13 ∨ fn = 14 ∨ fn = 15 ∨ fn = 16 ∨ fn = 17 ∨ fn = 18 ∨ fn = 19 ∨ fn = 20 ∨ fn = 21 ∨ fn = 22 ∨ fn = 23 ∨ fn = 24 ∨ fn = 25 ∨ fn = 26 ∨ fn = 27 ∨ fn = 28 ∨ fn = 29 ∨ fn = 30 ∨ fn = 31 ∨ fn = 32 ∨ fn = 33 ∨ fn = 34 ∨ fn = 35 := by omega
section
variable (h : Hp) (Q : CallQ)
theorem c21 (fn : Int) (hQ : Q (i64 (tkS fn)) h) : wpC T 21 [i64 fn] h Q := by
  refine k_code (fn := F21) rfl rfl ?_
  rcases (show (1 ≤ fn ∧ fn ≤ 35) ∨ fn < 1 ∨ 35 < fn by omega) with hf | hf | hf
  · rcases fn35 hf with rfl | rfl | rfl | rfl | rfl | rfl | rfl | rfl | rfl | rfl | rfl | rfl | rfl | rfl | rfl | rfl | rfl | rfl | rfl | rfl | rfl | rfl | rfl | rfl | rfl | rfl | rfl | rfl | rfl | rfl | rfl | rfl | rfl | rfl | rfl
    all_goals
      simp [tkS] at hQ
      simp [F21]
      exact hQ
  · have ht : tkS fn = 0 := by unfold tkS; rw [if_neg (by omega), if_neg (by omega), if_neg (by omega)]
    rw [ht] at hQ
    simp [F21, show ¬ fn = 17 from by omega, show ¬ fn = 18 from by omega, show ¬ fn = 20 from by omega, show ¬ fn = 28 from by omega, show ¬ fn = 35 from by omega, show ¬ fn = 19 from by omega, show ¬ fn = 21 from by omega, show ¬ fn = 33 from by omega, show ¬ fn = 34 from by omega, show ¬ 1 ≤ fn from by omega, show ¬ 12 ≤ fn from by omega, show ¬ 24 ≤ fn from by omega, show ¬ 29 ≤ fn from by omega, show fn ≤ 11 from by omega, show fn ≤ 16 from by omega, show fn ≤ 27 from by omega, show fn ≤ 34 from by omega]
    exact hQ
  · have ht : tkS fn = 0 := by unfold tkS; rw [if_neg (by omega), if_neg (by omega), if_neg (by omega)]
    rw [ht] at hQ
    simp [F21, show ¬ fn = 17 from by omega, show ¬ fn = 18 from by omega, show ¬ fn = 20 from by omega, show ¬ fn = 28 from by omega, show ¬ fn = 35 from by omega, show ¬ fn = 19 from by omega, show ¬ fn = 21 from by omega, show ¬ fn = 33 from by omega, show ¬ fn = 34 from by omega, show 1 ≤ fn from by omega, show 12 ≤ fn from by omega, show 24 ≤ fn from by omega, show 29 ≤ fn from by omega, show ¬ fn ≤ 11 from by omega, show ¬ fn ≤ 16 from by omega, show ¬ fn ≤ 27 from by omega, show ¬ fn ≤ 34 from by omega, show ¬ fn < 1 from by omega, show 21 < fn from by omega]
    exact hQ
theorem c22 (fn base : Int) (hQ : Q (.c (.bool (maS fn base))) h) : wpC T 22 [i64 fn, i64 base] h Q := by
  refine k_code (fn := F22) rfl rfl ?_
  by_cases b1 : base = 1
  · subst b1; simp [maS] at hQ; simp [F22]; exact hQ
  by_cases b2 : base = 2
  · subst b2
    by_cases f1 : 24 ≤ fn
    · by_cases f2 : fn ≤ 34
      · simp [maS, f1, f2] at hQ; simp [F22, f1, f2]; exact hQ
      · simp [maS, f1, f2] at hQ; simp [F22, f1, f2]; exact hQ
    · simp [maS, f1] at hQ; simp [F22, f1]; exact hQ
  by_cases b3 : base = 3
  · subst b3
    by_cases f1 : 33 ≤ fn
    · by_cases f2 : fn ≤ 35
      · simp [maS, f1, f2] at hQ; simp [F22, f1, f2]; exact hQ
      · simp [maS, f1, f2] at hQ; simp [F22, f1, f2]; exact hQ
    · simp [maS, f1] at hQ; simp [F22, f1]; exact hQ
  simp [maS, b1, b2, b3] at hQ; simp [F22, b1, b2, b3]; exact hQ
theorem base4 (base : Int) : base = 1 ∨ base = 2 ∨ base = 3 ∨ (base ≠ 1 ∧ base ≠ 2 ∧ base ≠ 3) := by omega
theorem c10_in (fn base : Int) (hf : 1 ≤ fn ∧ fn ≤ 35) (hb : base = 1) (hQ : Q (i64 (rtS fn base)) h) : wpC T 10 [i64 fn, i64 base] h Q := by
  refine k_code (fn := F10) rfl rfl ?_
  subst hb
  rcases fn35 hf with rfl | rfl | rfl | rfl | rfl | rfl | rfl | rfl | rfl | rfl | rfl | rfl | rfl | rfl | rfl | rfl | rfl | rfl | rfl | rfl | rfl | rfl | rfl | rfl | rfl | rfl | rfl | rfl | rfl | rfl | rfl | rfl | rfl | rfl | rfl
  all_goals
    simp [rtS, tkS, maS] at hQ
    simp [F10]
    exact hQ
theorem c10_in2 (fn base : Int) (hf : 1 ≤ fn ∧ fn ≤ 35) (hb : base = 2) (hQ : Q (i64 (rtS fn base)) h) : wpC T 10 [i64 fn, i64 base] h Q := by
  refine k_code (fn := F10) rfl rfl ?_
  subst hb
  rcases fn35 hf with rfl | rfl | rfl | rfl | rfl | rfl | rfl | rfl | rfl | rfl | rfl | rfl | rfl | rfl | rfl | rfl | rfl | rfl | rfl | rfl | rfl | rfl | rfl | rfl | rfl | rfl | rfl | rfl | rfl | rfl | rfl | rfl | rfl | rfl | rfl
  all_goals
    simp [rtS, tkS, maS] at hQ
    simp [F10]
    exact hQ
theorem c10_in3 (fn base : Int) (hf : 1 ≤ fn ∧ fn ≤ 35) (hb : base = 3) (hQ : Q (i64 (rtS fn base)) h) : wpC T 10 [i64 fn, i64 base] h Q := by
  refine k_code (fn := F10) rfl rfl ?_
  subst hb
  rcases fn35 hf with rfl | rfl | rfl | rfl | rfl | rfl | rfl | rfl | rfl | rfl | rfl | rfl | rfl | rfl | rfl | rfl | rfl | rfl | rfl | rfl | rfl | rfl | rfl | rfl | rfl | rfl | rfl | rfl | rfl | rfl | rfl | rfl | rfl | rfl | rfl
  all_goals
    simp [rtS, tkS, maS] at hQ
    simp [F10]
    exact hQ
theorem c10_in4 (fn base : Int) (hf : 1 ≤ fn ∧ fn ≤ 35) (n1 : ¬ base = 1) (n2 : ¬ base = 2) (n3 : ¬ base = 3) (hQ : Q (i64 (rtS fn base)) h) : wpC T 10 [i64 fn, i64 base] h Q := by
  refine k_code (fn := F10) rfl rfl ?_
  have ht : rtS fn base = 0 := by unfold rtS maS; simp [n1, n2, n3]
  rw [ht] at hQ
  rcases fn35 hf with rfl | rfl | rfl | rfl | rfl | rfl | rfl | rfl | rfl | rfl | rfl | rfl | rfl | rfl | rfl | rfl | rfl | rfl | rfl | rfl | rfl | rfl | rfl | rfl | rfl | rfl | rfl | rfl | rfl | rfl | rfl | rfl | rfl | rfl | rfl
  all_goals
    simp [F10, n1, n2, n3]
    exact hQ
theorem c10 (fn base : Int) (hQ : Q (i64 (rtS fn base)) h) : wpC T 10 [i64 fn, i64 base] h Q := by
  rcases (show (1 ≤ fn ∧ fn ≤ 35) ∨ fn < 1 ∨ 35 < fn by omega) with hf | hf | hf
  · rcases base4 base with h1 | h1 | h1 | ⟨n1, n2, n3⟩
    · exact c10_in h Q fn base hf h1 hQ
    · exact c10_in2 h Q fn base hf h1 hQ
    · exact c10_in3 h Q fn base hf h1 hQ
    · exact c10_in4 h Q fn base hf n1 n2 n3 hQ
  · have ht0 : tkS fn = 0 := by unfold tkS; rw [if_neg (by omega), if_neg (by omega), if_neg (by omega)]
    have ht : rtS fn base = 0 := by unfold rtS; rw [ht0]; simp
    rw [ht] at hQ
    refine k_code (fn := F10) rfl rfl ?_
    rcases base4 base with rfl | rfl | rfl | ⟨n1, n2, n3⟩
    · simp [F10, show ¬ fn = 17 from by omega, show ¬ fn = 18 from by omega, show ¬ fn = 20 from by omega, show ¬ fn = 28 from by omega, show ¬ fn = 35 from by omega, show ¬ fn = 19 from by omega, show ¬ fn = 21 from by omega, show ¬ fn = 33 from by omega, show ¬ fn = 34 from by omega, show ¬ 1 ≤ fn from by omega, show ¬ 12 ≤ fn from by omega, show ¬ 24 ≤ fn from by omega, show ¬ 29 ≤ fn from by omega, show fn ≤ 11 from by omega, show fn ≤ 16 from by omega, show fn ≤ 27 from by omega, show fn ≤ 34 from by omega, hf]; exact hQ
    · simp [F10, show ¬ fn = 17 from by omega, show ¬ fn = 18 from by omega, show ¬ fn = 20 from by omega, show ¬ fn = 28 from by omega, show ¬ fn = 35 from by omega, show ¬ fn = 19 from by omega, show ¬ fn = 21 from by omega, show ¬ fn = 33 from by omega, show ¬ fn = 34 from by omega, show ¬ 1 ≤ fn from by omega, show ¬ 12 ≤ fn from by omega, show ¬ 24 ≤ fn from by omega, show ¬ 29 ≤ fn from by omega, show fn ≤ 11 from by omega, show fn ≤ 16 from by omega, show fn ≤ 27 from by omega, show fn ≤ 34 from by omega, hf]; exact hQ
    · simp [F10, show ¬ fn = 17 from by omega, show ¬ fn = 18 from by omega, show ¬ fn = 20 from by omega, show ¬ fn = 28 from by omega, show ¬ fn = 35 from by omega, show ¬ fn = 19 from by omega, show ¬ fn = 21 from by omega, show ¬ fn = 33 from by omega, show ¬ fn = 34 from by omega, show ¬ 1 ≤ fn from by omega, show ¬ 12 ≤ fn from by omega, show ¬ 24 ≤ fn from by omega, show ¬ 29 ≤ fn from by omega, show fn ≤ 11 from by omega, show fn ≤ 16 from by omega, show fn ≤ 27 from by omega, show fn ≤ 34 from by omega, hf]; exact hQ
    · simp [F10, show ¬ fn = 17 from by omega, show ¬ fn = 18 from by omega, show ¬ fn = 20 from by omega, show ¬ fn = 28 from by omega, show ¬ fn = 35 from by omega, show ¬ fn = 19 from by omega, show ¬ fn = 21 from by omega, show ¬ fn = 33 from by omega, show ¬ fn = 34 from by omega, show ¬ 1 ≤ fn from by omega, show ¬ 12 ≤ fn from by omega, show ¬ 24 ≤ fn from by omega, show ¬ 29 ≤ fn from by omega, show fn ≤ 11 from by omega, show fn ≤ 16 from by omega, show fn ≤ 27 from by omega, show fn ≤ 34 from by omega, n1, n2, n3, hf]; exact hQ
  · have ht0 : tkS fn = 0 := by unfold tkS; rw [if_neg (by omega), if_neg (by omega), if_neg (by omega)]
    have ht : rtS fn base = 0 := by unfold rtS; rw [ht0]; simp
    rw [ht] at hQ
    refine k_code (fn := F10) rfl rfl ?_
    rcases base4 base with rfl | rfl | rfl | ⟨n1, n2, n3⟩
    · simp [F10, show ¬ fn = 17 from by omega, show ¬ fn = 18 from by omega, show ¬ fn = 20 from by omega, show ¬ fn = 28 from by omega, show ¬ fn = 35 from by omega, show ¬ fn = 19 from by omega, show ¬ fn = 21 from by omega, show ¬ fn = 33 from by omega, show ¬ fn = 34 from by omega, show 1 ≤ fn from by omega, show 12 ≤ fn from by omega, show 24 ≤ fn from by omega, show 29 ≤ fn from by omega, show ¬ fn ≤ 11 from by omega, show ¬ fn ≤ 16 from by omega, show ¬ fn ≤ 27 from by omega, show ¬ fn ≤ 34 from by omega, show ¬ fn < 1 from by omega, show 21 < fn from by omega, hf]; exact hQ
    · simp [F10, show ¬ fn = 17 from by omega, show ¬ fn = 18 from by omega, show ¬ fn = 20 from by omega, show ¬ fn = 28 from by omega, show ¬ fn = 35 from by omega, show ¬ fn = 19 from by omega, show ¬ fn = 21 from by omega, show ¬ fn = 33 from by omega, show ¬ fn = 34 from by omega, show 1 ≤ fn from by omega, show 12 ≤ fn from by omega, show 24 ≤ fn from by omega, show 29 ≤ fn from by omega, show ¬ fn ≤ 11 from by omega, show ¬ fn ≤ 16 from by omega, show ¬ fn ≤ 27 from by omega, show ¬ fn ≤ 34 from by omega, show ¬ fn < 1 from by omega, show 21 < fn from by omega, hf]; exact hQ
    · simp [F10, show ¬ fn = 17 from by omega, show ¬ fn = 18 from by omega, show ¬ fn = 20 from by omega, show ¬ fn = 28 from by omega, show ¬ fn = 35 from by omega, show ¬ fn = 19 from by omega, show ¬ fn = 21 from by omega, show ¬ fn = 33 from by omega, show ¬ fn = 34 from by omega, show 1 ≤ fn from by omega, show 12 ≤ fn from by omega, show 24 ≤ fn from by omega, show 29 ≤ fn from by omega, show ¬ fn ≤ 11 from by omega, show ¬ fn ≤ 16 from by omega, show ¬ fn ≤ 27 from by omega, show ¬ fn ≤ 34 from by omega, show ¬ fn < 1 from by omega, show 21 < fn from by omega, hf]; exact hQ
    · simp [F10, show ¬ fn = 17 from by omega, show ¬ fn = 18 from by omega, show ¬ fn = 20 from by omega, show ¬ fn = 28 from by omega, show ¬ fn = 35 from by omega, show ¬ fn = 19 from by omega, show ¬ fn = 21 from by omega, show ¬ fn = 33 from by omega, show ¬ fn = 34 from by omega, show 1 ≤ fn from by omega, show 12 ≤ fn from by omega, show 24 ≤ fn from by omega, show 29 ≤ fn from by omega, show ¬ fn ≤ 11 from by omega, show ¬ fn ≤ 16 from by omega, show ¬ fn ≤ 27 from by omega, show ¬ fn ≤ 34 from by omega, show ¬ fn < 1 from by omega, show 21 < fn from by omega, n1, n2, n3, hf]; exact hQ
end
end Go.Proofs.YtjlebgfbohihfaaGreat.Am

namespace Go.Proofs.YtjlebgfbohihfaaGreat.Am
open Go
set_option linter.unusedVariables false
set_option linter.unusedSimpArgs false

def L12 : ACode := (.loop [0,1,2,9,10,12,13,14] (.seq (.seq (.ops [o 110 (.mv (.t 14)),o 111 (.mv (.t 2)),o 112 (.bin 0 .lss (.t 110) (.t 111))])
 (.cond (.t 112) .skip
 (.exit 0)))
 (.seq (.block 1 (.seq (.ops [o 115 (.mv (.t 1)),o 116 (.bin 0 .eql (.t 115) (ki 2))])
 (.cond (.t 116) (.dops [.op 0 (o 117 (.mv (.t 14))),.op 1 (o 118 (.mv (.t 0))),.op 2 (o 119 (.mv (.t 14))),.op 6 (o 123 (.mv (.t 14))),.op 3 (o 120 (.ixp 4 1 (.t 9) (.t 119))),.op 7 (o 124 (.ixp 4 1 (.t 10) (.t 123))),.op 4 (o 121 (.ld (.t 120))),.op 8 (o 125 (.ld (.t 124))),.op 5 (o 122 (.convi .i64 (.t 121))),.op 9 (o 126 (.convi .i64 (.t 125))),.eff 10 (o 127 (.call 48 [(.t 118),(.t 122),(.t 126)])) [],.op 11 (o 128 (.ixp 4 1 (.t 13) (.t 117))),.eff 12 (e (.st 1 (.t 128) (.t 127))) []])
 (.seq (.ops [o 129 (.mv (.t 0)),o 130 (.bin 0 .geq (.t 129) (ki 24)),o 131 (.mv (.t 130)),⟨(some 132),(.mv (.t 0)),some (131,true)⟩,⟨(some 133),(.bin 0 .leq (.t 132) (ki 27)),some (131,true)⟩,o 134 (.pick (.t 131) (.t 133) (.k (.c (.bool false))))])
 (.keep [0,1,2,9,10,12,13,14,134] (.cond (.t 134) (.dops [.op 0 (o 135 (.mv (.t 14))),.op 1 (o 136 (.mv (.t 0))),.op 3 (o 138 (.mv (.t 14))),.op 6 (o 141 (.mv (.t 14))),.op 2 (o 137 (.bin 0 .sub (.t 136) (ki 24))),.op 4 (o 139 (.ixp 4 1 (.t 9) (.t 138))),.op 7 (o 142 (.ixp 4 1 (.t 10) (.t 141))),.op 5 (o 140 (.ld (.t 139))),.op 8 (o 143 (.ld (.t 142))),.eff 9 (o 144 (.call 49 [(.t 137),(.t 140),(.t 143)])) [],.op 10 (o 145 (.ixp 4 1 (.t 13) (.t 135))),.eff 11 (e (.st 1 (.t 145) (.t 144))) []])
 (.seq (.ops [o 146 (.mv (.t 0)),o 147 (.bin 0 .eql (.t 146) (ki 28))])
 (.cond (.t 147) (.ops [o 148 (.mv (.t 14)),o 149 (.mv (.t 14)),o 150 (.ixp 4 1 (.t 9) (.t 149)),o 151 (.ld (.t 150)),o 152 (.call 50 [(.t 151)]),o 153 (.ixp 4 1 (.t 13) (.t 148)),e (.st 1 (.t 153) (.t 152))])
 (.seq (.ops [o 154 (.mv (.t 0)),o 155 (.bin 0 .eql (.t 154) (ki 15))])
 (.cond (.t 155) (.dops [.op 0 (o 156 (.mv (.t 14))),.op 1 (o 157 (.mv (.t 14))),.op 4 (o 160 (.mv (.t 14))),.op 2 (o 158 (.ixp 4 1 (.t 9) (.t 157))),.op 5 (o 161 (.ixp 4 1 (.t 10) (.t 160))),.op 3 (o 159 (.ld (.t 158))),.op 6 (o 162 (.ld (.t 161))),.eff 7 (o 163 (.call 51 [(.t 159),(.t 162)])) [],.op 8 (o 164 (.ixp 4 1 (.t 13) (.t 156))),.eff 9 (e (.st 1 (.t 164) (.t 163))) []])
 (.seq (.ops [o 165 (.mv (.t 0)),o 166 (.bin 0 .geq (.t 165) (ki 12)),o 167 (.mv (.t 166)),⟨(some 168),(.mv (.t 0)),some (167,true)⟩,⟨(some 169),(.bin 0 .leq (.t 168) (ki 14)),some (167,true)⟩,o 170 (.pick (.t 167) (.t 169) (.k (.c (.bool false))))])
 (.keep [0,1,2,9,10,12,13,14,170] (.cond (.t 170) (.dops [.op 0 (o 171 (.mv (.t 14))),.op 1 (o 172 (.mv (.t 0))),.op 3 (o 174 (.mv (.t 14))),.op 6 (o 177 (.mv (.t 14))),.op 2 (o 173 (.bin 0 .sub (.t 172) (ki 8))),.op 4 (o 175 (.ixp 4 1 (.t 9) (.t 174))),.op 7 (o 178 (.ixp 4 1 (.t 10) (.t 177))),.op 5 (o 176 (.ld (.t 175))),.op 8 (o 179 (.ld (.t 178))),.eff 9 (o 180 (.call 49 [(.t 173),(.t 176),(.t 179)])) [],.op 10 (o 181 (.ixp 4 1 (.t 13) (.t 171))),.eff 11 (e (.st 1 (.t 181) (.t 180))) []])
 (.seq (.ops [o 182 (.mv (.t 0)),o 183 (.bin 0 .eql (.t 182) (ki 16))])
 (.cond (.t 183) (.dops [.op 0 (o 184 (.mv (.t 14))),.op 1 (o 185 (.mv (.t 14))),.op 4 (o 188 (.mv (.t 14))),.op 2 (o 186 (.ixp 4 1 (.t 9) (.t 185))),.op 5 (o 189 (.ixp 4 1 (.t 10) (.t 188))),.op 3 (o 187 (.ld (.t 186))),.op 6 (o 190 (.ld (.t 189))),.eff 7 (o 191 (.call 49 [(ki 7),(.t 187),(.t 190)])) [],.op 8 (o 192 (.ixp 4 1 (.t 13) (.t 184))),.eff 9 (e (.st 1 (.t 192) (.t 191))) []])
 (.ops [o 193 (.mv (.t 14)),o 194 (.mv (.t 0)),o 195 (.mv (.t 14)),o 196 (.ixp 4 1 (.t 9) (.t 195)),o 197 (.ld (.t 196)),o 198 (.call 52 [(.t 194),(.t 197)]),o 199 (.ixp 4 1 (.t 13) (.t 193)),e (.st 1 (.t 199) (.t 198))]))))))))))))))))
 (.keep [0,1,2,9,10,12,13,14] (.ops [o 113 (.mv (.t 14)),o 114 (.bin 0 .add (.t 113) (ki 1)),o 14 (.mv (.t 114))])))))
/-- What is done to each place. -/
noncomputable def elS (fn base x y : Int) : Int :=
  if base = 2 then wholeS fn x y else if 24 ≤ fn ∧ fn ≤ 27 then twoS (fn - 24) x y else if fn = 28 then oneS 0 x else if fn = 15 then powS x y
  else if 12 ≤ fn ∧ fn ≤ 14 then twoS (fn - 8) x y else if fn = 16 then twoS 7 x y else sglS fn x
/-- One number alone. -/
def onlyS (x : Int) : Nat → Int := upto 1 fun _ => x
def bitS (b : Bool) : Int := if b then 1 else 0
/-- The answer. -/
noncomputable def appS (fn base : Int) (n : Nat) (a b t : Nat → Int) : Nat → Int :=
  if fn = 29 then onlyS (bitS (decide (a 0 < b 0))) else if fn = 30 then onlyS (bitS (decide (b 0 < a 0))) else if fn = 31 then onlyS (bitS (decide (a 0 ≤ b 0)))
  else if fn = 32 then onlyS (bitS (decide (b 0 ≤ a 0))) else if fn = 33 then onlyS (bitS (sameS a b n)) else if fn = 34 then onlyS (bitS (!sameS a b n))
  else if fn = 35 then onlyS (bitS (decide (a 0 = 0))) else if fn = 11 then normS a n else if fn = 17 then upto n (fun i => mixS (a i) (b i) (t i))
  else if fn = 18 then upto n (fun i => clampS (a i) (b i) (t i)) else if fn = 19 then onlyS (dotI a b (n - 1)) else if fn = 20 then onlyS (lenS a n)
  else if fn = 21 then upto 3 (crossS a b) else upto n fun i => elS fn base (a i) (b i)
/-- The operations that are done place by place. -/
def Place (fn base : Int) : Prop := (base = 2 ∧ 24 ≤ fn ∧ fn ≤ 28) ∨ (base ≠ 2 ∧ ((1 ≤ fn ∧ fn ≤ 10) ∨ fn = 12 ∨ fn = 13 ∨ fn = 14 ∨ fn = 15 ∨ fn = 16 ∨ (24 ≤ fn ∧ fn ≤ 27) ∨ fn = 28))
theorem step12_0 {Q : AExit → St → Prop} {K : List KI} {n i ba bb b12 b13 : Nat} {fn base : Int} {a b : Nat → Int} {e : Env} {H : Hp} (hi4 : i < 4) (hin2 : i < n) (h2 : base = 2) (hf : 24 ≤ fn ∧ fn ≤ 28) (ha : VI a) (hb : VI b) (hl : b13 < H.next)
    (g0 : e.get 0 = i64 fn) (g1 : e.get 1 = i64 base) (g2 : e.get 2 = i64 (n : Int)) (g9 : e.get 9 = .c (.ptr ba 0)) (g10 : e.get 10 = .c (.ptr bb 0)) (g12 : e.get 12 = .c (.ptr b12 0)) (g13 : e.get 13 = .c (.ptr b13 0)) (g14 : e.get 14 = i64 (i : Int))
    (k1 : H.get ba = some (vb a)) (k2 : H.get bb = some (vb b)) (kb : ∀ h'', Ext H h'' → h''.get b13 = some (vb (upto i fun i => elS fn base (a i) (b i))))
    (fin : ∀ (x : Int) (hx' : elS fn base (a i) (b i) = x) (h'' : Hp) (hx'' : Ext H h'') (e' : Env), e'.get 0 = i64 fn → e'.get 1 = i64 base → e'.get 2 = i64 (n : Int) → e'.get 9 = .c (.ptr ba 0) → e'.get 10 = .c (.ptr bb 0) → e'.get 12 = .c (.ptr b12 0) → e'.get 13 = .c (.ptr b13 0) → e'.get 14 = i64 ((i + 1 : Nat) : Int) →
      wpK T Q (.code L12 :: K) .normal ⟨e', h''.set b13 (vb (upd (upto i fun i => elS fn base (a i) (b i)) i x)), [], none⟩) :
    wpK T Q (.code L12 :: K) .normal ⟨e, H, [], none⟩ := by
  refine k_loop ?_
  have hin : (i : Int) < (n : Int) := by omega
  have wa := w64_32 (ha i)
  have wb := w64_32 (hb i)
  subst h2
  obtain ⟨x, hX⟩ : ∃ x, wholeS fn (a i) (b i) = x := ⟨_, rfl⟩
  have fin' := fin x (by rw [← hX]; simp [elS])
  rcases lt4 hi4 with rfl | rfl | rfl | rfl
  all_goals
    simp at hin
    simp [L12, g0, g1, g2, g9, g10, g12, g13, g14, hin, hin2, k1, k2, wa, wb]
    refine k_call ?_; simp
    refine c48 _ _ fn _ _ hf (ha _) (hb _) ?_
    rw [hX]
    simp [kb _ (Ext.refl H)]
    exact fin' _ (Ext.refl H) _ rfl rfl rfl rfl rfl rfl rfl rfl
theorem step12_1 {Q : AExit → St → Prop} {K : List KI} {n i ba bb b12 b13 : Nat} {fn base : Int} {a b : Nat → Int} {e : Env} {H : Hp} (hi4 : i < 4) (hin2 : i < n) (h2 : base ≠ 2) (hf : 1 ≤ fn ∧ fn ≤ 10) (ha : VI a) (hb : VI b) (hl : b13 < H.next)
    (g0 : e.get 0 = i64 fn) (g1 : e.get 1 = i64 base) (g2 : e.get 2 = i64 (n : Int)) (g9 : e.get 9 = .c (.ptr ba 0)) (g10 : e.get 10 = .c (.ptr bb 0)) (g12 : e.get 12 = .c (.ptr b12 0)) (g13 : e.get 13 = .c (.ptr b13 0)) (g14 : e.get 14 = i64 (i : Int))
    (k1 : H.get ba = some (vb a)) (k2 : H.get bb = some (vb b)) (kb : ∀ h'', Ext H h'' → h''.get b13 = some (vb (upto i fun i => elS fn base (a i) (b i))))
    (fin : ∀ (x : Int) (hx' : elS fn base (a i) (b i) = x) (h'' : Hp) (hx'' : Ext H h'') (e' : Env), e'.get 0 = i64 fn → e'.get 1 = i64 base → e'.get 2 = i64 (n : Int) → e'.get 9 = .c (.ptr ba 0) → e'.get 10 = .c (.ptr bb 0) → e'.get 12 = .c (.ptr b12 0) → e'.get 13 = .c (.ptr b13 0) → e'.get 14 = i64 ((i + 1 : Nat) : Int) →
      wpK T Q (.code L12 :: K) .normal ⟨e', h''.set b13 (vb (upd (upto i fun i => elS fn base (a i) (b i)) i x)), [], none⟩) :
    wpK T Q (.code L12 :: K) .normal ⟨e, H, [], none⟩ := by
  refine k_loop ?_
  have hin : (i : Int) < (n : Int) := by omega
  have wa := w64_32 (ha i)
  have wb := w64_32 (hb i)
  obtain ⟨x, hX⟩ : ∃ x, sglS fn (a i) = x := ⟨_, rfl⟩
  have fin' := fin x (by rw [← hX]; simp [elS, h2, show ¬ 24 ≤ fn from by omega, show ¬ fn = 28 from by omega, show ¬ fn = 15 from by omega, show ¬ 12 ≤ fn from by omega, show ¬ fn = 16 from by omega])
  rcases lt4 hi4 with rfl | rfl | rfl | rfl
  all_goals
    simp at hin
    simp [L12, g0, g1, g2, g9, g10, g12, g13, g14, hin, hin2, k1, k2, h2, show ¬ 24 ≤ fn from by omega, show ¬ fn = 28 from by omega, show ¬ fn = 15 from by omega, show ¬ 12 ≤ fn from by omega, show ¬ fn = 16 from by omega]
    refine k_call ?_; simp
    refine c52 fn _ hf (ha _) _ _ fun h'' hx'' => ?_
    rw [hX]
    simp [kb _ hx'']
    exact fin' _ hx'' _ rfl rfl rfl rfl rfl rfl rfl rfl
theorem step12_2 {Q : AExit → St → Prop} {K : List KI} {n i ba bb b12 b13 : Nat} {fn base : Int} {a b : Nat → Int} {e : Env} {H : Hp} (hi4 : i < 4) (hin2 : i < n) (h2 : base ≠ 2) (hf : fn = 12) (ha : VI a) (hb : VI b) (hl : b13 < H.next)
    (g0 : e.get 0 = i64 fn) (g1 : e.get 1 = i64 base) (g2 : e.get 2 = i64 (n : Int)) (g9 : e.get 9 = .c (.ptr ba 0)) (g10 : e.get 10 = .c (.ptr bb 0)) (g12 : e.get 12 = .c (.ptr b12 0)) (g13 : e.get 13 = .c (.ptr b13 0)) (g14 : e.get 14 = i64 (i : Int))
    (k1 : H.get ba = some (vb a)) (k2 : H.get bb = some (vb b)) (kb : ∀ h'', Ext H h'' → h''.get b13 = some (vb (upto i fun i => elS fn base (a i) (b i))))
    (fin : ∀ (x : Int) (hx' : elS fn base (a i) (b i) = x) (h'' : Hp) (hx'' : Ext H h'') (e' : Env), e'.get 0 = i64 fn → e'.get 1 = i64 base → e'.get 2 = i64 (n : Int) → e'.get 9 = .c (.ptr ba 0) → e'.get 10 = .c (.ptr bb 0) → e'.get 12 = .c (.ptr b12 0) → e'.get 13 = .c (.ptr b13 0) → e'.get 14 = i64 ((i + 1 : Nat) : Int) →
      wpK T Q (.code L12 :: K) .normal ⟨e', h''.set b13 (vb (upd (upto i fun i => elS fn base (a i) (b i)) i x)), [], none⟩) :
    wpK T Q (.code L12 :: K) .normal ⟨e, H, [], none⟩ := by
  refine k_loop ?_
  have hin : (i : Int) < (n : Int) := by omega
  have wa := w64_32 (ha i)
  have wb := w64_32 (hb i)
  subst hf
  obtain ⟨x, hX⟩ : ∃ x, twoS 4 (a i) (b i) = x := ⟨_, rfl⟩
  have fin' := fin x (by rw [← hX]; simp [elS, h2])
  rcases lt4 hi4 with rfl | rfl | rfl | rfl
  all_goals
    simp at hin
    simp [L12, g0, g1, g2, g9, g10, g12, g13, g14, hin, hin2, k1, k2, h2]
    refine k_call ?_; simp
    refine c49 _ _ 4 _ _ (by omega) (ha _) (hb _) ?_
    rw [hX]
    simp [kb _ (Ext.refl H)]
    exact fin' _ (Ext.refl H) _ rfl rfl rfl rfl rfl rfl rfl rfl
theorem step12_3 {Q : AExit → St → Prop} {K : List KI} {n i ba bb b12 b13 : Nat} {fn base : Int} {a b : Nat → Int} {e : Env} {H : Hp} (hi4 : i < 4) (hin2 : i < n) (h2 : base ≠ 2) (hf : fn = 13) (ha : VI a) (hb : VI b) (hl : b13 < H.next)
    (g0 : e.get 0 = i64 fn) (g1 : e.get 1 = i64 base) (g2 : e.get 2 = i64 (n : Int)) (g9 : e.get 9 = .c (.ptr ba 0)) (g10 : e.get 10 = .c (.ptr bb 0)) (g12 : e.get 12 = .c (.ptr b12 0)) (g13 : e.get 13 = .c (.ptr b13 0)) (g14 : e.get 14 = i64 (i : Int))
    (k1 : H.get ba = some (vb a)) (k2 : H.get bb = some (vb b)) (kb : ∀ h'', Ext H h'' → h''.get b13 = some (vb (upto i fun i => elS fn base (a i) (b i))))
    (fin : ∀ (x : Int) (hx' : elS fn base (a i) (b i) = x) (h'' : Hp) (hx'' : Ext H h'') (e' : Env), e'.get 0 = i64 fn → e'.get 1 = i64 base → e'.get 2 = i64 (n : Int) → e'.get 9 = .c (.ptr ba 0) → e'.get 10 = .c (.ptr bb 0) → e'.get 12 = .c (.ptr b12 0) → e'.get 13 = .c (.ptr b13 0) → e'.get 14 = i64 ((i + 1 : Nat) : Int) →
      wpK T Q (.code L12 :: K) .normal ⟨e', h''.set b13 (vb (upd (upto i fun i => elS fn base (a i) (b i)) i x)), [], none⟩) :
    wpK T Q (.code L12 :: K) .normal ⟨e, H, [], none⟩ := by
  refine k_loop ?_
  have hin : (i : Int) < (n : Int) := by omega
  have wa := w64_32 (ha i)
  have wb := w64_32 (hb i)
  subst hf
  obtain ⟨x, hX⟩ : ∃ x, twoS 5 (a i) (b i) = x := ⟨_, rfl⟩
  have fin' := fin x (by rw [← hX]; simp [elS, h2])
  rcases lt4 hi4 with rfl | rfl | rfl | rfl
  all_goals
    simp at hin
    simp [L12, g0, g1, g2, g9, g10, g12, g13, g14, hin, hin2, k1, k2, h2]
    refine k_call ?_; simp
    refine c49 _ _ 5 _ _ (by omega) (ha _) (hb _) ?_
    rw [hX]
    simp [kb _ (Ext.refl H)]
    exact fin' _ (Ext.refl H) _ rfl rfl rfl rfl rfl rfl rfl rfl
theorem step12_4 {Q : AExit → St → Prop} {K : List KI} {n i ba bb b12 b13 : Nat} {fn base : Int} {a b : Nat → Int} {e : Env} {H : Hp} (hi4 : i < 4) (hin2 : i < n) (h2 : base ≠ 2) (hf : fn = 14) (ha : VI a) (hb : VI b) (hl : b13 < H.next)
    (g0 : e.get 0 = i64 fn) (g1 : e.get 1 = i64 base) (g2 : e.get 2 = i64 (n : Int)) (g9 : e.get 9 = .c (.ptr ba 0)) (g10 : e.get 10 = .c (.ptr bb 0)) (g12 : e.get 12 = .c (.ptr b12 0)) (g13 : e.get 13 = .c (.ptr b13 0)) (g14 : e.get 14 = i64 (i : Int))
    (k1 : H.get ba = some (vb a)) (k2 : H.get bb = some (vb b)) (kb : ∀ h'', Ext H h'' → h''.get b13 = some (vb (upto i fun i => elS fn base (a i) (b i))))
    (fin : ∀ (x : Int) (hx' : elS fn base (a i) (b i) = x) (h'' : Hp) (hx'' : Ext H h'') (e' : Env), e'.get 0 = i64 fn → e'.get 1 = i64 base → e'.get 2 = i64 (n : Int) → e'.get 9 = .c (.ptr ba 0) → e'.get 10 = .c (.ptr bb 0) → e'.get 12 = .c (.ptr b12 0) → e'.get 13 = .c (.ptr b13 0) → e'.get 14 = i64 ((i + 1 : Nat) : Int) →
      wpK T Q (.code L12 :: K) .normal ⟨e', h''.set b13 (vb (upd (upto i fun i => elS fn base (a i) (b i)) i x)), [], none⟩) :
    wpK T Q (.code L12 :: K) .normal ⟨e, H, [], none⟩ := by
  refine k_loop ?_
  have hin : (i : Int) < (n : Int) := by omega
  have wa := w64_32 (ha i)
  have wb := w64_32 (hb i)
  subst hf
  obtain ⟨x, hX⟩ : ∃ x, twoS 6 (a i) (b i) = x := ⟨_, rfl⟩
  have fin' := fin x (by rw [← hX]; simp [elS, h2])
  rcases lt4 hi4 with rfl | rfl | rfl | rfl
  all_goals
    simp at hin
    simp [L12, g0, g1, g2, g9, g10, g12, g13, g14, hin, hin2, k1, k2, h2]
    refine k_call ?_; simp
    refine c49 _ _ 6 _ _ (by omega) (ha _) (hb _) ?_
    rw [hX]
    simp [kb _ (Ext.refl H)]
    exact fin' _ (Ext.refl H) _ rfl rfl rfl rfl rfl rfl rfl rfl
theorem step12_5 {Q : AExit → St → Prop} {K : List KI} {n i ba bb b12 b13 : Nat} {fn base : Int} {a b : Nat → Int} {e : Env} {H : Hp} (hi4 : i < 4) (hin2 : i < n) (h2 : base ≠ 2) (hf : fn = 15) (ha : VI a) (hb : VI b) (hl : b13 < H.next)
    (g0 : e.get 0 = i64 fn) (g1 : e.get 1 = i64 base) (g2 : e.get 2 = i64 (n : Int)) (g9 : e.get 9 = .c (.ptr ba 0)) (g10 : e.get 10 = .c (.ptr bb 0)) (g12 : e.get 12 = .c (.ptr b12 0)) (g13 : e.get 13 = .c (.ptr b13 0)) (g14 : e.get 14 = i64 (i : Int))
    (k1 : H.get ba = some (vb a)) (k2 : H.get bb = some (vb b)) (kb : ∀ h'', Ext H h'' → h''.get b13 = some (vb (upto i fun i => elS fn base (a i) (b i))))
    (fin : ∀ (x : Int) (hx' : elS fn base (a i) (b i) = x) (h'' : Hp) (hx'' : Ext H h'') (e' : Env), e'.get 0 = i64 fn → e'.get 1 = i64 base → e'.get 2 = i64 (n : Int) → e'.get 9 = .c (.ptr ba 0) → e'.get 10 = .c (.ptr bb 0) → e'.get 12 = .c (.ptr b12 0) → e'.get 13 = .c (.ptr b13 0) → e'.get 14 = i64 ((i + 1 : Nat) : Int) →
      wpK T Q (.code L12 :: K) .normal ⟨e', h''.set b13 (vb (upd (upto i fun i => elS fn base (a i) (b i)) i x)), [], none⟩) :
    wpK T Q (.code L12 :: K) .normal ⟨e, H, [], none⟩ := by
  refine k_loop ?_
  have hin : (i : Int) < (n : Int) := by omega
  have wa := w64_32 (ha i)
  have wb := w64_32 (hb i)
  subst hf
  obtain ⟨x, hX⟩ : ∃ x, powS (a i) (b i) = x := ⟨_, rfl⟩
  have fin' := fin x (by rw [← hX]; simp [elS, h2])
  rcases lt4 hi4 with rfl | rfl | rfl | rfl
  all_goals
    simp at hin
    simp [L12, g0, g1, g2, g9, g10, g12, g13, g14, hin, hin2, k1, k2, h2]
    refine k_call ?_; simp
    refine c51 _ _ _ _ (ha _) (hb _) fun h'' hx'' => ?_
    rw [hX]
    simp [kb _ hx'']
    exact fin' _ hx'' _ rfl rfl rfl rfl rfl rfl rfl rfl
theorem step12_6 {Q : AExit → St → Prop} {K : List KI} {n i ba bb b12 b13 : Nat} {fn base : Int} {a b : Nat → Int} {e : Env} {H : Hp} (hi4 : i < 4) (hin2 : i < n) (h2 : base ≠ 2) (hf : fn = 16) (ha : VI a) (hb : VI b) (hl : b13 < H.next)
    (g0 : e.get 0 = i64 fn) (g1 : e.get 1 = i64 base) (g2 : e.get 2 = i64 (n : Int)) (g9 : e.get 9 = .c (.ptr ba 0)) (g10 : e.get 10 = .c (.ptr bb 0)) (g12 : e.get 12 = .c (.ptr b12 0)) (g13 : e.get 13 = .c (.ptr b13 0)) (g14 : e.get 14 = i64 (i : Int))
    (k1 : H.get ba = some (vb a)) (k2 : H.get bb = some (vb b)) (kb : ∀ h'', Ext H h'' → h''.get b13 = some (vb (upto i fun i => elS fn base (a i) (b i))))
    (fin : ∀ (x : Int) (hx' : elS fn base (a i) (b i) = x) (h'' : Hp) (hx'' : Ext H h'') (e' : Env), e'.get 0 = i64 fn → e'.get 1 = i64 base → e'.get 2 = i64 (n : Int) → e'.get 9 = .c (.ptr ba 0) → e'.get 10 = .c (.ptr bb 0) → e'.get 12 = .c (.ptr b12 0) → e'.get 13 = .c (.ptr b13 0) → e'.get 14 = i64 ((i + 1 : Nat) : Int) →
      wpK T Q (.code L12 :: K) .normal ⟨e', h''.set b13 (vb (upd (upto i fun i => elS fn base (a i) (b i)) i x)), [], none⟩) :
    wpK T Q (.code L12 :: K) .normal ⟨e, H, [], none⟩ := by
  refine k_loop ?_
  have hin : (i : Int) < (n : Int) := by omega
  have wa := w64_32 (ha i)
  have wb := w64_32 (hb i)
  subst hf
  obtain ⟨x, hX⟩ : ∃ x, twoS 7 (a i) (b i) = x := ⟨_, rfl⟩
  have fin' := fin x (by rw [← hX]; simp [elS, h2])
  rcases lt4 hi4 with rfl | rfl | rfl | rfl
  all_goals
    simp at hin
    simp [L12, g0, g1, g2, g9, g10, g12, g13, g14, hin, hin2, k1, k2, h2]
    refine k_call ?_; simp
    refine c49 _ _ 7 _ _ (by omega) (ha _) (hb _) ?_
    rw [hX]
    simp [kb _ (Ext.refl H)]
    exact fin' _ (Ext.refl H) _ rfl rfl rfl rfl rfl rfl rfl rfl
theorem step12_7 {Q : AExit → St → Prop} {K : List KI} {n i ba bb b12 b13 : Nat} {fn base : Int} {a b : Nat → Int} {e : Env} {H : Hp} (hi4 : i < 4) (hin2 : i < n) (h2 : base ≠ 2) (hf : 24 ≤ fn ∧ fn ≤ 27) (ha : VI a) (hb : VI b) (hl : b13 < H.next)
    (g0 : e.get 0 = i64 fn) (g1 : e.get 1 = i64 base) (g2 : e.get 2 = i64 (n : Int)) (g9 : e.get 9 = .c (.ptr ba 0)) (g10 : e.get 10 = .c (.ptr bb 0)) (g12 : e.get 12 = .c (.ptr b12 0)) (g13 : e.get 13 = .c (.ptr b13 0)) (g14 : e.get 14 = i64 (i : Int))
    (k1 : H.get ba = some (vb a)) (k2 : H.get bb = some (vb b)) (kb : ∀ h'', Ext H h'' → h''.get b13 = some (vb (upto i fun i => elS fn base (a i) (b i))))
    (fin : ∀ (x : Int) (hx' : elS fn base (a i) (b i) = x) (h'' : Hp) (hx'' : Ext H h'') (e' : Env), e'.get 0 = i64 fn → e'.get 1 = i64 base → e'.get 2 = i64 (n : Int) → e'.get 9 = .c (.ptr ba 0) → e'.get 10 = .c (.ptr bb 0) → e'.get 12 = .c (.ptr b12 0) → e'.get 13 = .c (.ptr b13 0) → e'.get 14 = i64 ((i + 1 : Nat) : Int) →
      wpK T Q (.code L12 :: K) .normal ⟨e', h''.set b13 (vb (upd (upto i fun i => elS fn base (a i) (b i)) i x)), [], none⟩) :
    wpK T Q (.code L12 :: K) .normal ⟨e, H, [], none⟩ := by
  refine k_loop ?_
  have hin : (i : Int) < (n : Int) := by omega
  have wa := w64_32 (ha i)
  have wb := w64_32 (hb i)
  have hw : IntKind.i64.wrap (fn - 24) = fn - 24 := w64 (by omega)
  obtain ⟨x, hX⟩ : ∃ x, twoS (fn - 24) (a i) (b i) = x := ⟨_, rfl⟩
  have fin' := fin x (by rw [← hX]; simp [elS, h2, hf.1, hf.2])
  rcases lt4 hi4 with rfl | rfl | rfl | rfl
  all_goals
    simp at hin
    simp [L12, g0, g1, g2, g9, g10, g12, g13, g14, hin, hin2, k1, k2, h2, hf.1, hf.2, hw]
    refine k_call ?_; simp
    refine c49 _ _ (fn - 24) _ _ (by omega) (ha _) (hb _) ?_
    rw [hX]
    simp [kb _ (Ext.refl H)]
    exact fin' _ (Ext.refl H) _ rfl rfl rfl rfl rfl rfl rfl rfl
theorem step12_8 {Q : AExit → St → Prop} {K : List KI} {n i ba bb b12 b13 : Nat} {fn base : Int} {a b : Nat → Int} {e : Env} {H : Hp} (hi4 : i < 4) (hin2 : i < n) (h2 : base ≠ 2) (hf : fn = 28) (ha : VI a) (hb : VI b) (hl : b13 < H.next)
    (g0 : e.get 0 = i64 fn) (g1 : e.get 1 = i64 base) (g2 : e.get 2 = i64 (n : Int)) (g9 : e.get 9 = .c (.ptr ba 0)) (g10 : e.get 10 = .c (.ptr bb 0)) (g12 : e.get 12 = .c (.ptr b12 0)) (g13 : e.get 13 = .c (.ptr b13 0)) (g14 : e.get 14 = i64 (i : Int))
    (k1 : H.get ba = some (vb a)) (k2 : H.get bb = some (vb b)) (kb : ∀ h'', Ext H h'' → h''.get b13 = some (vb (upto i fun i => elS fn base (a i) (b i))))
    (fin : ∀ (x : Int) (hx' : elS fn base (a i) (b i) = x) (h'' : Hp) (hx'' : Ext H h'') (e' : Env), e'.get 0 = i64 fn → e'.get 1 = i64 base → e'.get 2 = i64 (n : Int) → e'.get 9 = .c (.ptr ba 0) → e'.get 10 = .c (.ptr bb 0) → e'.get 12 = .c (.ptr b12 0) → e'.get 13 = .c (.ptr b13 0) → e'.get 14 = i64 ((i + 1 : Nat) : Int) →
      wpK T Q (.code L12 :: K) .normal ⟨e', h''.set b13 (vb (upd (upto i fun i => elS fn base (a i) (b i)) i x)), [], none⟩) :
    wpK T Q (.code L12 :: K) .normal ⟨e, H, [], none⟩ := by
  refine k_loop ?_
  have hin : (i : Int) < (n : Int) := by omega
  have wa := w64_32 (ha i)
  have wb := w64_32 (hb i)
  subst hf
  obtain ⟨x, hX⟩ : ∃ x, negS (a i) = x := ⟨_, rfl⟩
  have fin' := fin x (by rw [← hX]; simp [elS, h2, oneS])
  rcases lt4 hi4 with rfl | rfl | rfl | rfl
  all_goals
    simp at hin
    simp [L12, g0, g1, g2, g9, g10, g12, g13, g14, hin, hin2, k1, k2, h2]
    refine k_call ?_; simp
    refine c50 _ _ _ (ha _) ?_
    rw [hX]
    simp [kb _ (Ext.refl H)]
    exact fin' _ (Ext.refl H) _ rfl rfl rfl rfl rfl rfl rfl rfl
theorem loop12 {Q : AExit → St → Prop} {K : List KI} {h0 : Hp} {n ba bb b12 b13 : Nat} {fn base : Int} {a b : Nat → Int} (hn : n ≤ 4) (hP : Place fn base) (ha : VI a) (hb : VI b)
    (n1 : ba < b13) (n2 : bb < b13) (n3 : b12 < b13) (l13 : h0.next ≤ b13)
    (hK : ∀ (e : Env) (H : Hp), Ext h0 H → e.get 12 = .c (.ptr b12 0) → e.get 13 = .c (.ptr b13 0) → H.get b12 = some (vb fun _ => 0) → H.get b13 = some (vb (upto n fun i => elS fn base (a i) (b i))) → wpK T Q K (.exit 0) ⟨e, H, [], none⟩) :
    ∀ (d i : Nat) (e : Env) (H : Hp), i + d = n → Ext h0 H → b13 < H.next → e.get 0 = i64 fn → e.get 1 = i64 base → e.get 2 = i64 (n : Int) → e.get 9 = .c (.ptr ba 0) → e.get 10 = .c (.ptr bb 0) → e.get 12 = .c (.ptr b12 0) → e.get 13 = .c (.ptr b13 0) → e.get 14 = i64 (i : Int) →
      H.get ba = some (vb a) → H.get bb = some (vb b) → H.get b12 = some (vb fun _ => 0) → H.get b13 = some (vb (upto i fun i => elS fn base (a i) (b i))) → wpK T Q (.code L12 :: K) .normal ⟨e, H, [], none⟩ := by
  intro d
  induction d with
  | zero =>
    intro i e H hi hx hl g0 g1 g2 g9 g10 g12 g13 g14 k1 k2 k3 k4
    obtain rfl : i = n := by omega
    refine k_loop ?_
    simp [L12, g0, g1, g2, g9, g10, g12, g13, g14]
    exact hK _ H hx rfl rfl k3 k4
  | succ d ih =>
    intro i e H hi hx hl g0 g1 g2 g9 g10 g12 g13 g14 k1 k2 k3 k4
    have hin : (i : Int) < (n : Int) := by omega
    have hin2 : i < n := by omega
    have fin := fun (x : Int) (hx' : elS fn base (a i) (b i) = x) (h'' : Hp) (hx'' : Ext H h'') (e' : Env) r0 r1 r2 r9 r10 r12 r13 r14 =>
      ih (i + 1) e' (h''.set b13 (vb (upd (upto i fun i => elS fn base (a i) (b i)) i x))) (by omega) ((hx.trans hx'').set l13 _) (by have := hx''.1; simp; omega) r0 r1 r2 r9 r10 r12 r13 r14
      (by rw [Hp.get_set, if_neg (by omega), hx''.2 _ (by omega)]; exact k1) (by rw [Hp.get_set, if_neg (by omega), hx''.2 _ (by omega)]; exact k2) (by rw [Hp.get_set, if_neg (by omega), hx''.2 _ (by omega)]; exact k3)
      (by rw [Hp.get_set, if_pos rfl, ← hx']; exact congrArg (fun w => some (vb w)) (upd_upto (fun i => elS fn base (a i) (b i)) i))
    have kb := fun (h'' : Hp) (hx'' : Ext H h'') => (hx''.2 b13 hl).trans k4
    have hi4 : i < 4 := by omega
    clear ih hK
    rcases hP with ⟨h2, hf⟩ | ⟨h2, hf | hf | hf | hf | hf | hf | hf | hf⟩
    · exact step12_0 hi4 hin2 h2 hf ha hb hl g0 g1 g2 g9 g10 g12 g13 g14 k1 k2 kb fin
    · exact step12_1 hi4 hin2 h2 hf ha hb hl g0 g1 g2 g9 g10 g12 g13 g14 k1 k2 kb fin
    · exact step12_2 hi4 hin2 h2 hf ha hb hl g0 g1 g2 g9 g10 g12 g13 g14 k1 k2 kb fin
    · exact step12_3 hi4 hin2 h2 hf ha hb hl g0 g1 g2 g9 g10 g12 g13 g14 k1 k2 kb fin
    · exact step12_4 hi4 hin2 h2 hf ha hb hl g0 g1 g2 g9 g10 g12 g13 g14 k1 k2 kb fin
    · exact step12_5 hi4 hin2 h2 hf ha hb hl g0 g1 g2 g9 g10 g12 g13 g14 k1 k2 kb fin
    · exact step12_6 hi4 hin2 h2 hf ha hb hl g0 g1 g2 g9 g10 g12 g13 g14 k1 k2 kb fin
    · exact step12_7 hi4 hin2 h2 hf ha hb hl g0 g1 g2 g9 g10 g12 g13 g14 k1 k2 kb fin
    · exact step12_8 hi4 hin2 h2 hf ha hb hl g0 g1 g2 g9 g10 g12 g13 g14 k1 k2 kb fin
end Go.Proofs.YtjlebgfbohihfaaGreat.Am

namespace Go.Proofs.YtjlebgfbohihfaaGreat.Am
open Go
set_option linter.unusedVariables false
set_option linter.unusedSimpArgs false

theorem vv_only (x : Int) : vv (onlyS x) = .agg [.int .i32 x, .int .i32 0, .int .i32 0, .int .i32 0] := rfl
section
variable (h : Hp) (Q : CallQ) (base : Int) (n : Nat) (a b t : Nat → Int)
theorem c12_29 (hQ : ∀ h', Ext h h' → Q (vv (onlyS (bitS (decide (a 0 < b 0))))) h') : wpC T 12 [i64 29, i64 base, i64 (n : Int), vv a, vv b, vv t] h Q := by
  refine k_code (fn := F12) rfl rfl ?_
  rw [vv_only] at hQ
  simp [F12]
  refine k_call ?_; simp
  refine c40 _ _ _ ?_
  obtain ⟨x, hX⟩ : ∃ x, bitS (decide (a 0 < b 0)) = x := ⟨_, rfl⟩
  have hX' : (if decide (a 0 < b 0) = true then (1 : Int) else 0) = x := hX
  rw [hX] at hQ
  rw [hX']
  simp
  exact hQ _ (((((Ext.alloc h _).alloc' _).alloc' _).alloc' _).set (by omega) _)
theorem c12_30 (hQ : ∀ h', Ext h h' → Q (vv (onlyS (bitS (decide (b 0 < a 0))))) h') : wpC T 12 [i64 30, i64 base, i64 (n : Int), vv a, vv b, vv t] h Q := by
  refine k_code (fn := F12) rfl rfl ?_
  rw [vv_only] at hQ
  simp [F12]
  refine k_call ?_; simp
  refine c40 _ _ _ ?_
  obtain ⟨x, hX⟩ : ∃ x, bitS (decide (b 0 < a 0)) = x := ⟨_, rfl⟩
  have hX' : (if decide (b 0 < a 0) = true then (1 : Int) else 0) = x := hX
  rw [hX] at hQ
  rw [hX']
  simp
  exact hQ _ (((((Ext.alloc h _).alloc' _).alloc' _).alloc' _).set (by omega) _)
theorem c12_31 (hQ : ∀ h', Ext h h' → Q (vv (onlyS (bitS (decide (a 0 ≤ b 0))))) h') : wpC T 12 [i64 31, i64 base, i64 (n : Int), vv a, vv b, vv t] h Q := by
  refine k_code (fn := F12) rfl rfl ?_
  rw [vv_only] at hQ
  simp [F12]
  refine k_call ?_; simp
  refine c40 _ _ _ ?_
  obtain ⟨x, hX⟩ : ∃ x, bitS (decide (a 0 ≤ b 0)) = x := ⟨_, rfl⟩
  have hX' : (if decide (a 0 ≤ b 0) = true then (1 : Int) else 0) = x := hX
  rw [hX] at hQ
  rw [hX']
  simp
  exact hQ _ (((((Ext.alloc h _).alloc' _).alloc' _).alloc' _).set (by omega) _)
theorem c12_32 (hQ : ∀ h', Ext h h' → Q (vv (onlyS (bitS (decide (b 0 ≤ a 0))))) h') : wpC T 12 [i64 32, i64 base, i64 (n : Int), vv a, vv b, vv t] h Q := by
  refine k_code (fn := F12) rfl rfl ?_
  rw [vv_only] at hQ
  simp [F12]
  refine k_call ?_; simp
  refine c40 _ _ _ ?_
  obtain ⟨x, hX⟩ : ∃ x, bitS (decide (b 0 ≤ a 0)) = x := ⟨_, rfl⟩
  have hX' : (if decide (b 0 ≤ a 0) = true then (1 : Int) else 0) = x := hX
  rw [hX] at hQ
  rw [hX']
  simp
  exact hQ _ (((((Ext.alloc h _).alloc' _).alloc' _).alloc' _).set (by omega) _)
theorem c12_35 (hQ : ∀ h', Ext h h' → Q (vv (onlyS (bitS (decide (a 0 = 0))))) h') : wpC T 12 [i64 35, i64 base, i64 (n : Int), vv a, vv b, vv t] h Q := by
  refine k_code (fn := F12) rfl rfl ?_
  rw [vv_only] at hQ
  simp [F12]
  refine k_call ?_; simp
  refine c40 _ _ _ ?_
  obtain ⟨x, hX⟩ : ∃ x, bitS (decide (a 0 = 0)) = x := ⟨_, rfl⟩
  have hX' : (if decide (a 0 = 0) = true then (1 : Int) else 0) = x := hX
  rw [hX] at hQ
  rw [hX']
  simp
  exact hQ _ (((((Ext.alloc h _).alloc' _).alloc' _).alloc' _).set (by omega) _)
theorem c12_33 (hn : n ≤ 4) (hQ : ∀ h', Ext h h' → Q (vv (onlyS (bitS (sameS a b n)))) h') : wpC T 12 [i64 33, i64 base, i64 (n : Int), vv a, vv b, vv t] h Q := by
  refine k_code (fn := F12) rfl rfl ?_
  rw [vv_only] at hQ
  simp [F12]
  refine k_call ?_; simp
  refine c41 n a b hn _ _ fun h1 hx1 => ?_
  have a3 := hx1.2 (h.next + 1 + 1 + 1) (by simp)
  simp at a3
  obtain ⟨s, hS⟩ : ∃ s, sameS a b n = s := ⟨_, rfl⟩
  rw [hS] at hQ
  rw [hS]
  cases s
  all_goals
    simp [bitS] at hQ
    simp
    refine k_call ?_; simp
    refine c40 _ _ _ ?_
    simp [a3]
    exact hQ _ ((((((Ext.alloc h _).alloc' _).alloc' _).alloc' _).trans hx1).set (by omega) _)
theorem c12_34 (hn : n ≤ 4) (hQ : ∀ h', Ext h h' → Q (vv (onlyS (bitS (!sameS a b n)))) h') : wpC T 12 [i64 34, i64 base, i64 (n : Int), vv a, vv b, vv t] h Q := by
  refine k_code (fn := F12) rfl rfl ?_
  rw [vv_only] at hQ
  simp [F12]
  refine k_call ?_; simp
  refine c41 n a b hn _ _ fun h1 hx1 => ?_
  have a3 := hx1.2 (h.next + 1 + 1 + 1) (by simp)
  simp at a3
  obtain ⟨s, hS⟩ : ∃ s, sameS a b n = s := ⟨_, rfl⟩
  rw [hS] at hQ
  rw [hS]
  cases s
  all_goals
    simp [bitS] at hQ
    simp
    refine k_call ?_; simp
    refine c40 _ _ _ ?_
    simp [a3]
    exact hQ _ ((((((Ext.alloc h _).alloc' _).alloc' _).alloc' _).trans hx1).set (by omega) _)
theorem c12_11 (hn : 1 ≤ n ∧ n ≤ 4) (ha : VI a) (hQ : ∀ h', Ext h h' → Q (vv (normS a n)) h') : wpC T 12 [i64 11, i64 base, i64 (n : Int), vv a, vv b, vv t] h Q := by
  refine k_code (fn := F12) rfl rfl ?_
  obtain ⟨R, hR⟩ : ∃ R, normS a n = R := ⟨_, rfl⟩
  rw [hR] at hQ
  simp [F12]
  refine k_call ?_; simp
  refine c42 a n hn ha _ _ fun h1 hx1 => ?_
  rw [hR]
  have a3 := hx1.2 (h.next + 1 + 1 + 1) (by simp)
  simp at a3
  simp [a3]
  exact hQ _ ((((((Ext.alloc h _).alloc' _).alloc' _).alloc' _).trans hx1).set (by omega) _)
theorem c12_17 (hn : n ≤ 4) (ha : VI a) (hb : VI b) (ht : VI t) (hQ : ∀ h', Ext h h' → Q (vv ((upto n fun i => mixS (a i) (b i) (t i)))) h') : wpC T 12 [i64 17, i64 base, i64 (n : Int), vv a, vv b, vv t] h Q := by
  refine k_code (fn := F12) rfl rfl ?_
  obtain ⟨R, hR⟩ : ∃ R, (upto n fun i => mixS (a i) (b i) (t i)) = R := ⟨_, rfl⟩
  rw [hR] at hQ
  simp [F12]
  refine k_call ?_; simp
  refine c43 _ _ n a b t hn ha hb ht fun h1 hx1 => ?_
  rw [hR]
  have a3 := hx1.2 (h.next + 1 + 1 + 1) (by simp)
  simp at a3
  simp [a3]
  exact hQ _ ((((((Ext.alloc h _).alloc' _).alloc' _).alloc' _).trans hx1).set (by omega) _)
theorem c12_18 (hn : n ≤ 4) (ha : VI a) (hb : VI b) (ht : VI t) (hQ : ∀ h', Ext h h' → Q (vv ((upto n fun i => clampS (a i) (b i) (t i)))) h') : wpC T 12 [i64 18, i64 base, i64 (n : Int), vv a, vv b, vv t] h Q := by
  refine k_code (fn := F12) rfl rfl ?_
  obtain ⟨R, hR⟩ : ∃ R, (upto n fun i => clampS (a i) (b i) (t i)) = R := ⟨_, rfl⟩
  rw [hR] at hQ
  simp [F12]
  refine k_call ?_; simp
  refine c44 _ _ n a b t hn ha hb ht fun h1 hx1 => ?_
  rw [hR]
  have a3 := hx1.2 (h.next + 1 + 1 + 1) (by simp)
  simp at a3
  simp [a3]
  exact hQ _ ((((((Ext.alloc h _).alloc' _).alloc' _).alloc' _).trans hx1).set (by omega) _)
theorem c12_19 (hn : 1 ≤ n ∧ n ≤ 4) (ha : VI a) (hb : VI b) (hQ : ∀ h', Ext h h' → Q (vv (onlyS (dotI a b (n - 1)))) h') : wpC T 12 [i64 19, i64 base, i64 (n : Int), vv a, vv b, vv t] h Q := by
  refine k_code (fn := F12) rfl rfl ?_
  rw [vv_only] at hQ
  obtain ⟨R, hR⟩ : ∃ R, dotI a b (n - 1) = R := ⟨_, rfl⟩
  rw [hR] at hQ
  simp [F12]
  refine k_call ?_; simp
  refine c45 n a b hn ha hb _ _ fun h1 hx1 => ?_
  rw [hR]
  have a3 := hx1.2 (h.next + 1 + 1 + 1) (by simp)
  simp at a3
  simp [a3]
  exact hQ _ ((((((Ext.alloc h _).alloc' _).alloc' _).alloc' _).trans hx1).set (by omega) _)
theorem c12_20 (hn : 1 ≤ n ∧ n ≤ 4) (ha : VI a) (hQ : ∀ h', Ext h h' → Q (vv (onlyS (lenS a n))) h') : wpC T 12 [i64 20, i64 base, i64 (n : Int), vv a, vv b, vv t] h Q := by
  refine k_code (fn := F12) rfl rfl ?_
  rw [vv_only] at hQ
  obtain ⟨R, hR⟩ : ∃ R, lenS a n = R := ⟨_, rfl⟩
  rw [hR] at hQ
  simp [F12]
  refine k_call ?_; simp
  refine c46 a n hn ha _ _ fun h1 hx1 => ?_
  rw [hR]
  have a3 := hx1.2 (h.next + 1 + 1 + 1) (by simp)
  simp at a3
  simp [a3]
  exact hQ _ ((((((Ext.alloc h _).alloc' _).alloc' _).alloc' _).trans hx1).set (by omega) _)
theorem c12_21 (ha : VI a) (hb : VI b) (hQ : ∀ h', Ext h h' → Q (vv (upto 3 (crossS a b))) h') : wpC T 12 [i64 21, i64 base, i64 (n : Int), vv a, vv b, vv t] h Q := by
  refine k_code (fn := F12) rfl rfl ?_
  obtain ⟨R, hR⟩ : ∃ R, upto 3 (crossS a b) = R := ⟨_, rfl⟩
  rw [hR] at hQ
  simp [F12]
  refine k_call ?_; simp
  refine c47 a b ha hb _ _ fun h1 hx1 => ?_
  rw [hR]
  have a3 := hx1.2 (h.next + 1 + 1 + 1) (by simp)
  simp at a3
  simp [a3]
  exact hQ _ ((((((Ext.alloc h _).alloc' _).alloc' _).alloc' _).trans hx1).set (by omega) _)
theorem c12_loop (fn : Int) (hP : Place fn base) (hn : n ≤ 4) (ha : VI a) (hb : VI b) (hQ : ∀ h', Ext h h' → Q (vv (upto n fun i => elS fn base (a i) (b i))) h') : wpC T 12 [i64 fn, i64 base, i64 (n : Int), vv a, vv b, vv t] h Q := by
  refine k_code (fn := F12) rfl rfl ?_
  have hr : 1 ≤ fn ∧ fn ≤ 28 ∧ fn ≠ 11 ∧ (fn < 17 ∨ 24 ≤ fn) := by rcases hP with h1 | h1 <;> omega
  simp [F12, show ¬ fn = 29 from by omega, show ¬ fn = 30 from by omega, show ¬ fn = 31 from by omega, show ¬ fn = 32 from by omega, show ¬ fn = 33 from by omega, show ¬ fn = 34 from by omega, show ¬ fn = 35 from by omega, show ¬ fn = 11 from by omega, show ¬ fn = 17 from by omega, show ¬ fn = 18 from by omega, show ¬ fn = 19 from by omega, show ¬ fn = 20 from by omega, show ¬ fn = 21 from by omega]
  refine loop12 (h0 := h) (n := n) (a := a) (b := b) (fn := fn) (base := base) (ba := h.next) (bb := h.next + 1) (b12 := h.next + 1 + 1 + 1) (b13 := h.next + 1 + 1 + 1 + 1) hn hP ha hb (by omega) (by omega) (by omega) (by omega) ?_ n 0 _ _ (by omega) (((((Ext.alloc h _).alloc' _).alloc' _).alloc' _).alloc' _) (by simp) rfl rfl rfl rfl rfl rfl rfl rfl (by simp) (by simp) (by simp) (by simp [upto])
  intro e H hx k12 k13 h12 h13
  simp [k12, k13, h12, h13]
  exact hQ _ (hx.set (by omega) _)
theorem rt_ne {fn base : Int} (hr : rtS fn base ≠ 0) : 1 ≤ fn ∧ fn ≤ 35 ∧ fn ≠ 22 ∧ fn ≠ 23 ∧ (base = 1 ∨ base = 2 ∨ base = 3) ∧ (base = 1 → fn ≠ 35) ∧ (base = 2 → 24 ≤ fn ∧ fn ≤ 34) ∧ (base = 3 → 33 ≤ fn) := by
  unfold rtS at hr
  split at hr
  · exact absurd rfl hr
  · rename_i hc
    rw [not_or] at hc
    obtain ⟨h1, h2⟩ := hc
    unfold tkS at h1
    have hf : 1 ≤ fn ∧ fn ≤ 35 ∧ fn ≠ 22 ∧ fn ≠ 23 := by
      revert h1
      repeat' split
      all_goals intro h1
      all_goals first | omega | exact absurd rfl h1
    unfold maS at h2
    refine ⟨hf.1, hf.2.1, hf.2.2.1, hf.2.2.2, ?_⟩
    by_cases b1 : base = 1
    · subst b1; simp at h2; omega
    by_cases b2 : base = 2
    · subst b2; simp at h2; omega
    by_cases b3 : base = 3
    · subst b3; simp at h2; omega
    simp [b1, b2, b3] at h2
theorem c12 (fn : Int) (hr : rtS fn base ≠ 0) (hn : 1 ≤ n ∧ n ≤ 4) (ha : VI a) (hb : VI b) (ht : VI t) (hQ : ∀ h', Ext h h' → Q (vv (appS fn base n a b t)) h') : wpC T 12 [i64 fn, i64 base, i64 (n : Int), vv a, vv b, vv t] h Q := by
  have hf := rt_ne hr
  unfold appS at hQ
  by_cases e29 : fn = 29
  · rw [if_pos e29] at hQ; subst e29; exact c12_29 h Q base n a b t hQ
  rw [if_neg e29] at hQ
  by_cases e30 : fn = 30
  · rw [if_pos e30] at hQ; subst e30; exact c12_30 h Q base n a b t hQ
  rw [if_neg e30] at hQ
  by_cases e31 : fn = 31
  · rw [if_pos e31] at hQ; subst e31; exact c12_31 h Q base n a b t hQ
  rw [if_neg e31] at hQ
  by_cases e32 : fn = 32
  · rw [if_pos e32] at hQ; subst e32; exact c12_32 h Q base n a b t hQ
  rw [if_neg e32] at hQ
  by_cases e33 : fn = 33
  · rw [if_pos e33] at hQ; subst e33; exact c12_33 h Q base n a b t hn.2 hQ
  rw [if_neg e33] at hQ
  by_cases e34 : fn = 34
  · rw [if_pos e34] at hQ; subst e34; exact c12_34 h Q base n a b t hn.2 hQ
  rw [if_neg e34] at hQ
  by_cases e35 : fn = 35
  · rw [if_pos e35] at hQ; subst e35; exact c12_35 h Q base n a b t hQ
  rw [if_neg e35] at hQ
  by_cases e11 : fn = 11
  · rw [if_pos e11] at hQ; subst e11; exact c12_11 h Q base n a b t hn ha hQ
  rw [if_neg e11] at hQ
  by_cases e17 : fn = 17
  · rw [if_pos e17] at hQ; subst e17; exact c12_17 h Q base n a b t hn.2 ha hb ht hQ
  rw [if_neg e17] at hQ
  by_cases e18 : fn = 18
  · rw [if_pos e18] at hQ; subst e18; exact c12_18 h Q base n a b t hn.2 ha hb ht hQ
  rw [if_neg e18] at hQ
  by_cases e19 : fn = 19
  · rw [if_pos e19] at hQ; subst e19; exact c12_19 h Q base n a b t hn ha hb hQ
  rw [if_neg e19] at hQ
  by_cases e20 : fn = 20
  · rw [if_pos e20] at hQ; subst e20; exact c12_20 h Q base n a b t hn ha hQ
  rw [if_neg e20] at hQ
  by_cases e21 : fn = 21
  · rw [if_pos e21] at hQ; subst e21; exact c12_21 h Q base n a b t ha hb hQ
  rw [if_neg e21] at hQ
  exact c12_loop h Q base n a b t fn (by unfold Place; omega) hn.2 ha hb hQ
end
end Go.Proofs.YtjlebgfbohihfaaGreat.Am
