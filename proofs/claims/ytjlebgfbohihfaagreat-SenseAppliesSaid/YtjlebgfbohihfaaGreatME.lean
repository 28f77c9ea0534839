import Derived.Test.YtjlebgfbohihfaaGreatCw1
import Derived.Test.YtjlebgfbohihfaaGreatMD
namespace Go.Proofs.YtjlebgfbohihfaaGreat.Am
open Go
/-- The block 0 after an answer of true. -/
def lookG (r : CRes) : Option (Option AObj) := match r with
  | .ok (.c (.bool true)) h => bif h.next == 0 then none else some (h.get 0)
  | _ => none
theorem lookG_of {r : CRes} {O : AObj} (h : lookG r = some (some O)) : ∃ h', r = .ok (.c (.bool true)) h' ∧ 0 < h'.next ∧ h'.get 0 = some O := by
  unfold lookG at h
  split at h
  · rename_i h'
    simp only [Bool.cond_eq_ite, beq_iff_eq] at h
    by_cases hz : h'.next = 0
    · rw [if_pos hz] at h; cases h
    · rw [if_neg hz, Option.some.injEq] at h
      exact ⟨h', rfl, Nat.pos_of_ne_zero hz, h⟩
  · cases h
set_option maxRecDepth 100000 in
theorem wakes9k : (fun O : AObj => lookG (callF TG 100000 9 [] (Hp.empty.alloc O))) = fun O => some (some O) := by kernel_rfl
theorem c9k (O : AObj) (Q : CallQ) (hQ : ∀ h', 0 < h'.next → h'.get 0 = some O → Q (.c (.bool true)) h') : wpC T 9 [] (Hp.empty.alloc O) Q := by
  obtain ⟨h', hr, hp, h0⟩ := lookG_of (congrFun wakes9k O)
  rw [callF_eq] at hr
  exact wpC_of hr (hQ h' hp h0)
end Go.Proofs.YtjlebgfbohihfaaGreat.Am

namespace Go.Proofs.YtjlebgfbohihfaaGreat.Am
open Go
set_option linter.unusedVariables false
set_option linter.unusedSimpArgs false

def L4i : ACode := (.loop [0,1,5,7,8,9,29] (.seq (.ops [o 30 (.bin 0 .lss (.t 29) (ki 4))])
 (.seq (.cond (.t 30) .skip
 (.exit 2))
 (.seq (.block 3 (.seq (.ops [o 31 (.mv (.t 29)),o 10 (.mv (.t 31))])
 (.seq (.ops [o 33 (.mv (.t 0)),o 34 (.mv (.t 1)),o 35 (.mv (.t 9)),o 36 (.mv (.t 8)),o 37 (.mv (.t 10)),o 38 (.slc 4 (.t 36) none (some (.t 37)) none),o 39 (.call 11 [(.t 33),(.t 34),(.t 35),(.t 38)]),o 32 (.mv (.t 39)),o 40 (.ext 0 (.t 32)),o 41 (.ext 1 (.t 32)),o 11 (.alloc [(.int .i32 0),(.int .i32 0),(.int .i32 0),(.int .i32 0)]),e (.st 4 (.t 11) (.t 40)),o 12 (.mv (.t 41))])
 (.keep [0,1,5,7,8,9,10,11,12,29] (.seq (.ops [o 42 (.mv (.t 7)),o 43 (.bin 0 .eql (.t 42) (ki 0)),o 44 (.mv (.t 43)),⟨(some 45),(.mv (.t 10)),some (44,false)⟩,⟨(some 46),(.mv (.t 7)),some (44,false)⟩,⟨(some 47),(.bin 0 .neq (.t 45) (.t 46)),some (44,false)⟩,o 48 (.pick (.t 44) (.k (.c (.bool true))) (.t 47)),o 49 (.mv (.t 48)),⟨(some 50),(.mv (.t 9)),some (49,false)⟩,⟨(some 51),(.bin 0 .lss (.t 50) (ki 1)),some (49,false)⟩,o 52 (.pick (.t 49) (.k (.c (.bool true))) (.t 51)),o 53 (.mv (.t 52)),⟨(some 54),(.mv (.t 9)),some (53,false)⟩,⟨(some 55),(.bin 0 .gtr (.t 54) (ki 4)),some (53,false)⟩,o 56 (.pick (.t 53) (.k (.c (.bool true))) (.t 55))])
 (.keep [0,1,5,7,8,9,11,12,29,56] (.cond (.t 56) (.seq (.ops [o 57 (.ldn 4 (.t 11)),o 58 (.agg [(.int .i32 0),(.int .i32 0),(.int .i32 0),(.int .i32 0)] []),o 59 (.eqa true [(.int .i32),(.int .i32),(.int .i32),(.int .i32)] (.t 57) (.t 58)),o 60 (.mv (.t 59)),⟨(some 61),(.mv (.t 12)),some (60,false)⟩,⟨(some 62),(.bin 0 .neq (.t 61) (ki 2)),some (60,false)⟩,o 63 (.pick (.t 60) (.k (.c (.bool true))) (.t 62))])
 (.keep [0,1,5,7,8,9,29,63] (.cond (.t 63) (.seq (.ops [o 6 (.mv (.k (.c (.bool false))))])
 .ret)
 .skip)))
 (.seq (.dops [.op 0 (o 64 (.mv (.t 12))),.op 1 (o 65 (.bin 0 .neq (.t 64) (ki 0))),.op 2 (o 66 (.mv (.t 65))),.op 3 (⟨(some 67),(.ldn 4 (.t 11)),some (66,false)⟩),.op 4 (⟨(some 68),(.mv (.t 0)),some (66,false)⟩),.op 5 (⟨(some 69),(.mv (.t 1)),some (66,false)⟩),.op 6 (⟨(some 70),(.mv (.t 9)),some (66,false)⟩),.op 7 (⟨(some 71),(.fa 0 (.t 5)),some (66,false)⟩),.op 9 (⟨(some 73),(.fa 4 (.t 5)),some (66,false)⟩),.op 11 (⟨(some 75),(.fa 8 (.t 5)),some (66,false)⟩),.op 8 (⟨(some 72),(.ldn 4 (.t 71)),some (66,false)⟩),.op 10 (⟨(some 74),(.ldn 4 (.t 73)),some (66,false)⟩),.op 12 (⟨(some 76),(.ldn 4 (.t 75)),some (66,false)⟩),.eff 13 (⟨(some 77),(.call 12 [(.t 68),(.t 69),(.t 70),(.t 72),(.t 74),(.t 76)]),some (66,false)⟩) [⟨(some 67),(.ldn 4 (.t 11)),some (66,false)⟩],.op 14 (⟨(some 78),(.eqa true [(.int .i32),(.int .i32),(.int .i32),(.int .i32)] (.t 67) (.t 77)),some (66,false)⟩),.op 15 (o 79 (.pick (.t 66) (.k (.c (.bool true))) (.t 78)))])
 (.keep [0,1,5,7,8,9,29,79] (.cond (.t 79) (.seq (.ops [o 6 (.mv (.k (.c (.bool false))))])
 .ret)
 .skip))))))))))
 (.ops [o 80 (.bin 0 .add (.t 29) (ki 1)),o 29 (.mv (.t 80))])))))
def L4o : ACode := (.loop [0,1,5,7,8,9] (.seq (.seq (.ops [o 25 (.mv (.t 9)),o 26 (.bin 0 .leq (.t 25) (ki 5))])
 (.cond (.t 26) .skip
 (.exit 0)))
 (.seq (.block 1 (.seq (.ops [o 29 (.mv (ki 0))])
 (.block 2 L4i)))
 (.ops [o 27 (.mv (.t 9)),o 28 (.bin 0 .add (.t 27) (ki 1)),o 9 (.mv (.t 28))]))))
def F4b : AFun := ⟨3,
 (.seq (.ops [o 5 (.box (.t 2)),o 6 (.mv (.k (.c (.bool false))))])
 (.seq (.seq (.ops [o 13 (.call 9 []),o 14 (.un .not (.t 13))])
 (.cond (.t 14) (.seq (.ops [o 6 (.mv (.k (.c (.bool false))))])
 .ret)
 .skip))
 (.seq (.ops [o 15 (.mv (.t 0)),o 16 (.mv (.t 1)),o 17 (.call 10 [(.t 15),(.t 16)]),o 7 (.mv (.t 17))])
 (.seq (.ops [o 18 (.fa 0 (.t 5)),o 19 (.ldn 4 (.t 18)),o 20 (.fa 4 (.t 5)),o 21 (.ldn 4 (.t 20)),o 22 (.fa 8 (.t 5)),o 23 (.ldn 4 (.t 22)),o 24 (.mks [(.int .i32 0),(.int .i32 0),(.int .i32 0),(.int .i32 0)] 3 [(0,4,(.t 19)),(4,4,(.t 21)),(8,4,(.t 23))]),o 8 (.mv (.t 24))])
 (.keep [0,1,5,7,8] (.seq (.seq (.ops [o 9 (.mv (ki 0))])
 (.block 0 L4o))
 (.seq (.ops [o 6 (.mv (.k (.c (.bool true))))])
 .ret))))))),
 [.tmp 6]⟩
/-- What the inner round ends with. -/
abbrev Go4 (Q : AExit → St → Prop) (K : List KI) (H : Hp) (fn base : Int) (bs n m : Nat) : Prop :=
  ∀ (e' : Env) (H' : Hp), Ext H H' → e'.get 0 = i64 fn → e'.get 1 = i64 base → e'.get 5 = .c (.ptr 0 0) → e'.get 7 = i64 (rtS fn base) → e'.get 8 = .c (.slice bs 0 3 3 4) → e'.get 9 = i64 (n : Int) → e'.get 29 = i64 ((m + 1 : Nat) : Int) →
    wpK T Q (.code L4i :: K) .normal ⟨e', H', [], none⟩
@[simp] theorem k_dopg {Q : AExit → St → Prop} {k : List KI} {T : Tab} {e : Env} {h : Hp} {df : List Cell} {ts : List Nat} {j d : Nat} {op : AOp} {g : Nat × Bool} {dl : List DIt} : wpK T Q (.dops ts (.op j ⟨some d, op, some g⟩ :: dl) :: k) .normal ⟨e, h, df, none⟩ ↔
    wpK T Q (.dops ts (.op j (gdI d op (wanted e (some g))) :: dl) :: k) .normal ⟨e, h, df, none⟩ := by
  have hr : ∀ cf, runDIt cf (.op j ⟨some d, op, some g⟩) ⟨e, h, df, none⟩ = runDIt cf (.op j (gdI d op (wanted e (some g)))) ⟨e, h, df, none⟩ := by
    intro cf
    cases hw : wanted e (some g) with
    | none => unfold runDIt; dsimp only; rw [hw]; rfl
    | some b => cases b <;> (unfold runDIt; dsimp only; rw [hw]; rfl)
  constructor
  · rintro ⟨n, s', h1, h2⟩
    refine ⟨n, s', ?_, h2⟩
    unfold runDops at h1 ⊢
    rw [← hr]
    exact h1
  · rintro ⟨n, s', h1, h2⟩
    refine ⟨n, s', ?_, h2⟩
    unfold runDops at h1 ⊢
    rw [hr]
    exact h1
theorem fit4 (x y z w : Int) : fitAll [.int .i32, .int .i32, .int .i32, .int .i32] [.int .i32 x, .int .i32 y, .int .i32 z, .int .i32 w] = true := rfl
theorem round_no {Q : AExit → St → Prop} {K : List KI} {n m bs : Nat} {fn base : Int} {a b t : Nat → Int} {e : Env} {H : Hp} (hm : m < 4) (hno : rtS fn base = 0 ∨ (m : Int) ≠ rtS fn base ∨ n < 1 ∨ 4 < n) (ha : VI a) (hb : VI b) (ht : VI t)
    (g0 : e.get 0 = i64 fn) (g1 : e.get 1 = i64 base) (g5 : e.get 5 = .c (.ptr 0 0)) (g7 : e.get 7 = i64 (rtS fn base)) (g8 : e.get 8 = .c (.slice bs 0 3 3 4)) (g9 : e.get 9 = i64 (n : Int)) (g29 : e.get 29 = i64 (m : Int))
    (k0 : H.get 0 = some (.cells (vx a b t) true)) (kb : H.get bs = some (.cells (vx a b t) true)) (l0 : 0 < H.next) (lb : bs < H.next) (hgo : Go4 Q K H fn base bs n m) : wpK T Q (.code L4i :: K) .normal ⟨e, H, [], none⟩ := by
  refine k_loop ?_
  have hno' : rtS fn base = 0 ∨ (rtS fn base ≠ 0 ∧ (m : Int) ≠ rtS fn base) ∨ (rtS fn base ≠ 0 ∧ (m : Int) = rtS fn base ∧ n < 1) ∨ (rtS fn base ≠ 0 ∧ (m : Int) = rtS fn base ∧ ¬ n < 1 ∧ 4 < n) := by omega
  have call := fun (Q : CallQ) => c11_no H Q fn base n m bs hno
  obtain ⟨k, hk⟩ : ∃ k, rtS fn base = k := ⟨_, rfl⟩
  unfold Go4 at hgo
  rw [hk] at hno' g7 hgo
  clear hno
  rcases lt4 hm with rfl | rfl | rfl | rfl
  all_goals
    simp [L4i, g0, g1, g5, g7, g8, g9, g29, bndO, bndH, bnd]
    refine k_call ?_; simp
    refine call _ fun h1 hx1 => ?_
    have hx2 : Ext H ((h1.alloc (.cells [.int .i32 0, .int .i32 0, .int .i32 0, .int .i32 0] true)).set h1.next (.cells [.int .i32 0, .int .i32 0, .int .i32 0, .int .i32 0] true)) := hx1.trans ((Ext.alloc _ _).set (Nat.le_refl _) _)
    rcases hno' with h | ⟨h, h'⟩ | ⟨h, h', h''⟩ | ⟨h, h', h'', h4⟩
    · subst h
      simp [fit4]
      exact hgo _ _ hx2 rfl rfl rfl rfl rfl rfl rfl
    · simp at h'
      simp [h, h', fit4]
      exact hgo _ _ hx2 rfl rfl rfl rfl rfl rfl rfl
    · have : n = 0 := by omega
      subst this
      subst h'
      simp [fit4]
      exact hgo _ _ hx2 rfl rfl rfl rfl rfl rfl rfl
    · subst h'
      simp [fit4, h'', h4, show ¬ (n : Int) < 1 from by omega, show (4 : Int) < (n : Int) from by omega, show ¬ n = 0 from by omega]
      exact hgo _ _ hx2 rfl rfl rfl rfl rfl rfl rfl
theorem round_1 {Q : AExit → St → Prop} {K : List KI} {n m bs : Nat} {fn base : Int} {a b t : Nat → Int} {e : Env} {H : Hp} (hm : m < 4) (hr : rtS fn base ≠ 0) (hmk : rtS fn base = 1) (hm1 : m = 1) (hn : 1 ≤ n ∧ n ≤ 4) (ha : VI a) (hb : VI b) (ht : VI t)
    (g0 : e.get 0 = i64 fn) (g1 : e.get 1 = i64 base) (g5 : e.get 5 = .c (.ptr 0 0)) (g7 : e.get 7 = i64 (rtS fn base)) (g8 : e.get 8 = .c (.slice bs 0 3 3 4)) (g9 : e.get 9 = i64 (n : Int)) (g29 : e.get 29 = i64 (m : Int))
    (k0 : H.get 0 = some (.cells (vx a b t) true)) (kb : H.get bs = some (.cells (vx a b t) true)) (l0 : 0 < H.next) (lb : bs < H.next) (hgo : Go4 Q K H fn base bs n m) : wpK T Q (.code L4i :: K) .normal ⟨e, H, [], none⟩ := by
  refine k_loop ?_
  subst hm1
  have htk : tkS fn = 1 := (rt_tk hr).1.symm.trans hmk
  have c12' := fun (h : Hp) (Q : CallQ) => c12 h Q base n a b t fn hr hn ha hb ht
  have call := fun (Q : CallQ) => c11_1 H Q fn base n bs a b t hr htk hn ha hb ht kb lb
  obtain ⟨V, hV⟩ : ∃ V, appS fn base n a b t = V := ⟨_, rfl⟩
  rw [hV] at c12' call
  unfold Go4 at hgo
  rw [hmk] at g7 hgo
  simp [L4i, g0, g1, g5, g7, g8, g9, g29, bndO, bndH, bnd]
  refine k_call ?_; simp
  refine call _ fun h1 hx1 => ?_
  have hl1 := hx1.1
  have q0 := (hx1.2 0 l0).trans k0
  simp [show ¬ n < 1 from by omega, show ¬ n = 0 from by omega, show ¬ 4 < n from by omega, show ¬ (n : Int) < 1 from by omega, show ¬ (4 : Int) < (n : Int) from by omega, fit4, q0, show ¬ 0 = h1.next from by omega, show ¬ h1.next = 0 from by omega]
  refine k_call ?_; simp
  refine c12' _ _ fun h2 hx2 => ?_
  have q1 := hx2.2 h1.next (by simp)
  simp at q1
  simp [q1, fit4]
  exact hgo _ _ ((hx1.trans ((Ext.alloc _ _).set (Nat.le_refl _) _)).trans hx2) rfl rfl rfl rfl rfl rfl rfl
theorem round_2 {Q : AExit → St → Prop} {K : List KI} {n m bs : Nat} {fn base : Int} {a b t : Nat → Int} {e : Env} {H : Hp} (hm : m < 4) (hr : rtS fn base ≠ 0) (hmk : rtS fn base = 2) (hm2 : m = 2) (hn : 1 ≤ n ∧ n ≤ 4) (ha : VI a) (hb : VI b) (ht : VI t)
    (g0 : e.get 0 = i64 fn) (g1 : e.get 1 = i64 base) (g5 : e.get 5 = .c (.ptr 0 0)) (g7 : e.get 7 = i64 (rtS fn base)) (g8 : e.get 8 = .c (.slice bs 0 3 3 4)) (g9 : e.get 9 = i64 (n : Int)) (g29 : e.get 29 = i64 (m : Int))
    (k0 : H.get 0 = some (.cells (vx a b t) true)) (kb : H.get bs = some (.cells (vx a b t) true)) (l0 : 0 < H.next) (lb : bs < H.next) (hgo : Go4 Q K H fn base bs n m) : wpK T Q (.code L4i :: K) .normal ⟨e, H, [], none⟩ := by
  refine k_loop ?_
  subst hm2
  have htk : tkS fn = 2 := (rt_tk hr).1.symm.trans hmk
  have c12' := fun (h : Hp) (Q : CallQ) => c12 h Q base n a b t fn hr hn ha hb ht
  have call := fun (Q : CallQ) => c11_2 H Q fn base n bs a b t hr htk hn ha hb ht kb lb
  obtain ⟨V, hV⟩ : ∃ V, appS fn base n a b t = V := ⟨_, rfl⟩
  rw [hV] at c12' call
  unfold Go4 at hgo
  rw [hmk] at g7 hgo
  simp [L4i, g0, g1, g5, g7, g8, g9, g29, bndO, bndH, bnd]
  refine k_call ?_; simp
  refine call _ fun h1 hx1 => ?_
  have hl1 := hx1.1
  have q0 := (hx1.2 0 l0).trans k0
  simp [show ¬ n < 1 from by omega, show ¬ n = 0 from by omega, show ¬ 4 < n from by omega, show ¬ (n : Int) < 1 from by omega, show ¬ (4 : Int) < (n : Int) from by omega, fit4, q0, show ¬ 0 = h1.next from by omega, show ¬ h1.next = 0 from by omega]
  refine k_call ?_; simp
  refine c12' _ _ fun h2 hx2 => ?_
  have q1 := hx2.2 h1.next (by simp)
  simp at q1
  simp [q1, fit4]
  exact hgo _ _ ((hx1.trans ((Ext.alloc _ _).set (Nat.le_refl _) _)).trans hx2) rfl rfl rfl rfl rfl rfl rfl
theorem round_3 {Q : AExit → St → Prop} {K : List KI} {n m bs : Nat} {fn base : Int} {a b t : Nat → Int} {e : Env} {H : Hp} (hm : m < 4) (hr : rtS fn base ≠ 0) (hmk : rtS fn base = 3) (hm3 : m = 3) (hn : 1 ≤ n ∧ n ≤ 4) (ha : VI a) (hb : VI b) (ht : VI t)
    (g0 : e.get 0 = i64 fn) (g1 : e.get 1 = i64 base) (g5 : e.get 5 = .c (.ptr 0 0)) (g7 : e.get 7 = i64 (rtS fn base)) (g8 : e.get 8 = .c (.slice bs 0 3 3 4)) (g9 : e.get 9 = i64 (n : Int)) (g29 : e.get 29 = i64 (m : Int))
    (k0 : H.get 0 = some (.cells (vx a b t) true)) (kb : H.get bs = some (.cells (vx a b t) true)) (l0 : 0 < H.next) (lb : bs < H.next) (hgo : Go4 Q K H fn base bs n m) : wpK T Q (.code L4i :: K) .normal ⟨e, H, [], none⟩ := by
  refine k_loop ?_
  subst hm3
  have htk : tkS fn = 3 := (rt_tk hr).1.symm.trans hmk
  have c12' := fun (h : Hp) (Q : CallQ) => c12 h Q base n a b t fn hr hn ha hb ht
  have call := fun (Q : CallQ) => c11_3 H Q fn base n bs a b t hr htk hn ha hb ht kb lb
  obtain ⟨V, hV⟩ : ∃ V, appS fn base n a b t = V := ⟨_, rfl⟩
  rw [hV] at c12' call
  unfold Go4 at hgo
  rw [hmk] at g7 hgo
  simp [L4i, g0, g1, g5, g7, g8, g9, g29, bndO, bndH, bnd]
  refine k_call ?_; simp
  refine call _ fun h1 hx1 => ?_
  have hl1 := hx1.1
  have q0 := (hx1.2 0 l0).trans k0
  simp [show ¬ n < 1 from by omega, show ¬ n = 0 from by omega, show ¬ 4 < n from by omega, show ¬ (n : Int) < 1 from by omega, show ¬ (4 : Int) < (n : Int) from by omega, fit4, q0, show ¬ 0 = h1.next from by omega, show ¬ h1.next = 0 from by omega]
  refine k_call ?_; simp
  refine c12' _ _ fun h2 hx2 => ?_
  have q1 := hx2.2 h1.next (by simp)
  simp at q1
  simp [q1, fit4]
  exact hgo _ _ ((hx1.trans ((Ext.alloc _ _).set (Nat.le_refl _) _)).trans hx2) rfl rfl rfl rfl rfl rfl rfl
theorem loop4i {Q : AExit → St → Prop} {K : List KI} {n bs : Nat} {fn base : Int} {a b t : Nat → Int} {H0 : Hp} (ha : VI a) (hb : VI b) (ht : VI t)
    (k0 : H0.get 0 = some (.cells (vx a b t) true)) (kb : H0.get bs = some (.cells (vx a b t) true)) (l0 : 0 < H0.next) (lb : bs < H0.next)
    (hK : ∀ (e' : Env) (H' : Hp), Ext H0 H' → e'.get 0 = i64 fn → e'.get 1 = i64 base → e'.get 5 = .c (.ptr 0 0) → e'.get 7 = i64 (rtS fn base) → e'.get 8 = .c (.slice bs 0 3 3 4) → e'.get 9 = i64 (n : Int) → wpK T Q K (.exit 2) ⟨e', H', [], none⟩) :
    ∀ (d m : Nat) (e : Env) (H : Hp), m + d = 4 → Ext H0 H → e.get 0 = i64 fn → e.get 1 = i64 base → e.get 5 = .c (.ptr 0 0) → e.get 7 = i64 (rtS fn base) → e.get 8 = .c (.slice bs 0 3 3 4) → e.get 9 = i64 (n : Int) → e.get 29 = i64 (m : Int) →
      wpK T Q (.code L4i :: K) .normal ⟨e, H, [], none⟩ := by
  intro d
  induction d with
  | zero =>
    intro m e H hm hx g0 g1 g5 g7 g8 g9 g29
    obtain rfl : m = 4 := by omega
    refine k_loop ?_
    simp [L4i, g0, g1, g5, g7, g8, g9, g29]
    exact hK _ H hx rfl rfl rfl rfl rfl rfl
  | succ d ih =>
    intro m e H hm hx g0 g1 g5 g7 g8 g9 g29
    have kk0 := (hx.2 0 l0).trans k0
    have kkb := (hx.2 bs lb).trans kb
    have hn0 := hx.1
    have hgo : Go4 Q K H fn base bs n m := fun e' H' hx' r0 r1 r5 r7 r8 r9 r29 => ih (m + 1) e' H' (by omega) (hx.trans hx') r0 r1 r5 r7 r8 r9 r29
    by_cases hno : rtS fn base = 0 ∨ (m : Int) ≠ rtS fn base ∨ n < 1 ∨ 4 < n
    · exact round_no (by omega) hno ha hb ht g0 g1 g5 g7 g8 g9 g29 kk0 kkb (by omega) (by omega) hgo
    · have hr : rtS fn base ≠ 0 := by omega
      have hn : 1 ≤ n ∧ n ≤ 4 := by omega
      rcases (show m = 1 ∨ m = 2 ∨ m = 3 by omega) with h | h | h
      · exact round_1 (by omega) hr (by omega) h hn ha hb ht g0 g1 g5 g7 g8 g9 g29 kk0 kkb (by omega) (by omega) hgo
      · exact round_2 (by omega) hr (by omega) h hn ha hb ht g0 g1 g5 g7 g8 g9 g29 kk0 kkb (by omega) (by omega) hgo
      · exact round_3 (by omega) hr (by omega) h hn ha hb ht g0 g1 g5 g7 g8 g9 g29 kk0 kkb (by omega) (by omega) hgo
theorem loop4o {Q : AExit → St → Prop} {K : List KI} {bs : Nat} {fn base : Int} {a b t : Nat → Int} {H0 : Hp} (ha : VI a) (hb : VI b) (ht : VI t)
    (k0 : H0.get 0 = some (.cells (vx a b t) true)) (kb : H0.get bs = some (.cells (vx a b t) true)) (l0 : 0 < H0.next) (lb : bs < H0.next)
    (hK : ∀ (e' : Env) (H' : Hp), wpK T Q K (.exit 0) ⟨e', H', [], none⟩) :
    ∀ (d n : Nat) (e : Env) (H : Hp), n + d = 6 → Ext H0 H → e.get 0 = i64 fn → e.get 1 = i64 base → e.get 5 = .c (.ptr 0 0) → e.get 7 = i64 (rtS fn base) → e.get 8 = .c (.slice bs 0 3 3 4) → e.get 9 = i64 (n : Int) →
      wpK T Q (.code L4o :: K) .normal ⟨e, H, [], none⟩ := by
  intro d
  induction d with
  | zero =>
    intro n e H hn hx g0 g1 g5 g7 g8 g9
    obtain rfl : n = 6 := by omega
    refine k_loop ?_
    simp [L4o, g0, g1, g5, g7, g8, g9]
    exact hK _ H
  | succ d ih =>
    intro n e H hn hx g0 g1 g5 g7 g8 g9
    have kk0 := (hx.2 0 l0).trans k0
    have kkb := (hx.2 bs lb).trans kb
    have hn0 := hx.1
    refine k_loop ?_
    simp [L4o, g0, g1, g5, g7, g8, g9, show (n : Int) ≤ 5 from by omega, show n ≤ 5 from by omega]
    refine loop4i (n := n) (bs := bs) (fn := fn) (base := base) (H0 := H) ha hb ht kk0 kkb (by omega) (by omega) (fun e' H' hx' r0 r1 r5 r7 r8 r9 => ?_) 4 0 _ H (by omega) (Ext.refl H) rfl rfl rfl rfl rfl rfl rfl
    simp [r0, r1, r5, r7, r8, r9, show IntKind.i64.wrap ((n : Int) + 1) = ((n + 1 : Nat) : Int) from w64 (by omega)]
    exact ih (n + 1) _ H' (by omega) (hx.trans hx') (by simp [r0]) (by simp [r1]) (by simp [r5]) (by simp [r7]) (by simp [r8]) (by simp)
theorem c4 (fn base : Int) (a b t : Nat → Int) (ha : VI a) (hb : VI b) (ht : VI t) : wpC T 4 [i64 fn, i64 base, .agg (vx a b t)] Hp.empty fun v _ => v = .c (.bool true) := by
  refine k_code (fn := F4b) rfl rfl ?_
  simp [F4b]
  refine k_call ?_
  simp
  refine c9k _ _ fun h1 hp h0 => ?_
  simp
  refine k_call ?_
  simp
  refine c10 _ _ fn base ?_
  simp [h0, show Hp.empty.next = 0 from rfl, fillAt]
  refine loop4o (bs := h1.next) (fn := fn) (base := base) (a := a) (b := b) (t := t) (H0 := h1.alloc (.cells (vx a b t) true)) ha hb ht ?_ ?_ ?_ ?_ ?_ 6 0 _ _ (by omega) (Ext.refl _) rfl rfl rfl rfl rfl rfl
  · rw [Hp.get_alloc, if_neg (by omega)]; exact h0
  · simp
  · simp
  · simp
  · intro e H
    simp
end Go.Proofs.YtjlebgfbohihfaaGreat.Am
