/-
  The law KindsFields, over the abstract machine.
-/
import Derived.Test.YtmlglmfjbmiflaaKin3
import Derived.KernelRfl
namespace Go.Proofs.Ytmlglmfjbmiflaa.Am
open Go

def lookW (r : CRes) : Option (AVal × Option AObj × Nat) := match r with | .ok v h => some (v, h.get 0, h.next) | _ => none
theorem wakes0 (b s : Int) : lookW (callN TS.get 100000 5 [] (Hp.empty.alloc (.cells [.int .i64 b, .int .i64 s] true))) = some (.c (.bool true), some (.cells [.int .i64 b, .int .i64 s] true), 67) := by kernel_rfl
theorem c5 (b s : Int) (Q : CallQ) (hQ : ∀ h', h'.get 0 = some (.cells [.int .i64 b, .int .i64 s] true) → 1 ≤ h'.next → Q (.c (.bool true)) h') : wpC T 5 [] (Hp.empty.alloc (.cells [.int .i64 b, .int .i64 s] true)) Q := by
  have h := wakes0 b s
  unfold lookW at h
  split at h
  · rename_i v h' hr
    simp only [Option.some.injEq, Prod.mk.injEq] at h
    obtain ⟨rfl, h2, h3⟩ := h
    exact wpC_of hr (hQ h' h2 (by omega))
  · cases h
def L3 : ACode := (.loop [6,9,44,45] (.seq (.ops [o 46 (.bin 0 .lss (.t 45) (.t 44))])
 (.seq (.cond (.t 46) .skip
 (.exit 0))
 (.seq (.block 1 (.seq (.ops [o 47 (.mv (.t 45)),o 11 (.mv (.t 47))])
 (.seq (.dops [.op 0 (o 48 (.mv (.t 6))),.op 1 (o 49 (.mv (.t 11))),.op 4 (o 52 (.mv (.t 9))),.op 5 (o 53 (.mv (.t 11))),.op 2 (o 50 (.ixa 1 (.t 48) (.t 49))),.op 6 (o 54 (.ixa 1 (.t 52) (.t 53))),.op 3 (o 51 (.ld (.t 50))),.op 7 (o 55 (.ld (.t 54))),.op 8 (o 56 (.bin 0 .neq (.t 51) (.t 55)))])
 (.keep [6,9,44,45,56] (.cond (.t 56) (.seq (.ops [o 4 (.mv (.k (.c (.bool false))))])
 .ret)
 .skip)))))
 (.ops [o 57 (.bin 0 .add (.t 45) (ki 1)),o 45 (.mv (.t 57))])))))
theorem IsSl.at {n : Nat} {h : Hp} {c : Cell} {L : List Int} (hs : IsSl n h c L) (hne : L ≠ []) : ∃ bk, c = .slice bk 0 L.length L.length 1 ∧ h.get bk = some (.cells (L.map (.int .i64)) false) := by
  rcases hs with ⟨h1, _⟩ | ⟨bk, _, _, h3, h4⟩
  · exact absurd h1 hne
  · exact ⟨bk, h3, h4⟩
theorem loop3 (L : List Int) (hL : (L.length : Int) < 9223372036854775807) (c6 c9 : Cell) (h : Hp) (n m : Nat) (h6 : IsSl n h c6 L) (h9 : IsSl m h c9 L) {Q : AExit → St → Prop} {k : List KI} :
    ∀ (j i : Nat) (e : Env), i + j = L.length → e.get 6 = .c c6 → e.get 9 = .c c9 → e.get 44 = .c (.int .i64 L.length) → e.get 45 = .c (.int .i64 i) →
    (∀ e', wpK T Q k (.exit 0) ⟨e', h, [], none⟩) → wpK T Q (.code L3 :: k) .normal ⟨e, h, [], none⟩ := by
  intro j
  induction j with
  | zero =>
    intro i e hi e6 e9 e44 e45 hq
    refine k_loop ?_
    simp [e6, e9, e44, e45, show ¬ (i < L.length) from by omega, show ¬ ((i : Int) < L.length) from by omega]
    exact hq _
  | succ j ih =>
    intro i e hi e6 e9 e44 e45 hq
    have hne : L ≠ [] := by intro h0; rw [h0] at hi; simp at hi
    obtain ⟨b6, rfl, g6⟩ := h6.at hne
    obtain ⟨b9, rfl, g9⟩ := h9.at hne
    have hlt : i < L.length := by omega
    have hltI : (i : Int) < L.length := by omega
    have hw : IntKind.i64.wrap ((i : Int) + 1) = ((i + 1 : Nat) : Int) := by rw [wrap_i64 (by omega) (by omega)]; simp
    refine k_loop ?_
    simp [e6, e9, e44, e45, hlt, hltI, g6, g9, hw]
    refine ih (i + 1) _ (by omega) ?_ ?_ ?_ ?_ hq <;> simp
theorem fieldOf_len (b s : Int) (name : List UInt8) : (fieldOf b s name).2.2.1.length ≤ 4 := by
  have hr : ∀ (a b c d : UInt8) (l : List UInt8) M, rowRun a b c d s l = some M → M.length = l.length := by
    intro a b c d l
    induction l with
    | nil => intro M h; simp [rowRun] at h; simp [h]
    | cons x xs ih =>
      intro M h
      simp only [rowRun] at h
      split at h
      · simp only [Option.map_eq_some_iff] at h
        obtain ⟨M', h1, rfl⟩ := h
        simp [ih _ h1]
      · cases h
  unfold fieldOf
  split
  · simp
  · split
    · simp
    · rename_i hbad
      simp only [not_or] at hbad
      split
      · rename_i M h; simp [hr _ _ _ _ _ _ h]; omega
      · split
        · rename_i M h; simp [hr _ _ _ _ _ _ h]; omega
        · split
          · rename_i M h; simp [hr _ _ _ _ _ _ h]; omega
          · simp
theorem kindsFields (b s : Int) (name : List UInt8) : wpC T 3 [ty b s, .c (.str name)] Hp.empty fun v _ => v = .c (.bool true) := by
  refine k_code (fn := F3) rfl rfl ?_
  simp [F3]
  refine k_call ?_
  simp
  refine c5 b s _ fun h1 g0 hn1 => ?_
  simp [g0, Hp.empty]
  refine k_call ?_
  simp
  refine c6 b s name _ _ fun c6 h2 x2 s2 => ?_
  have hlen := fieldOf_len b s name
  obtain ⟨R0, hR0⟩ : ∃ R, fieldOf b s name = R := ⟨_, rfl⟩
  rw [hR0] at s2 hlen ⊢
  have g02 : h2.get 0 = some (.cells [.int .i64 b, .int .i64 s] true) := (x2.2 0 (by omega)).trans g0
  have hn2 : 1 ≤ h2.next := Nat.le_trans hn1 x2.1
  have z2 : ¬ 0 = h2.next := by omega
  have z2' : ¬ h2.next = 0 := by omega
  simp [g02, z2, z2']
  refine k_call ?_
  simp
  refine c7 b s name _ _ fun c9 h3 x3 s3 => ?_
  have hR3 : fieldOf b s name = R0 := hR0
  rw [hR3] at s3
  rw [hR3]
  obtain ⟨u1, u2, L, er⟩ := R0
  simp only at s2 s3 hlen ⊢
  have n3 : h2.next + 1 ≤ h3.next := by simpa using x3.1
  have k5 : h3.get h2.next = some (.cells [.int .i64 u1, .int .i64 u2] true) := (x3.2 h2.next (by simp)).trans (by simp)
  have s2' : IsSl 0 h3 c6 L := by
    rcases s2 with hh | ⟨bk, p1, p2, p3, p4⟩
    · exact .inl hh
    · exact .inr ⟨bk, Nat.zero_le _, by omega, p3, (x3.2 bk (by simp; omega)).trans (by rw [Hp.get_set, if_neg (by omega), Hp.get_alloc, if_neg (by omega)]; exact p4)⟩
  have w3 : ¬ h3.next = h2.next := by omega
  have w3' : ¬ h2.next = h3.next := by omega
  have s2'' : ∀ o, IsSl 0 ((h3.alloc (.cells [.int .i64 0, .int .i64 0] true)).set h3.next o) c6 L := fun o => s2'.keep (m := 0) (fun b _ hb => by rw [Hp.get_set, if_neg (by omega), Hp.get_alloc, if_neg (by omega)]) (Nat.le_succ _)
  have s3' : ∀ o, IsSl (h2.next + 1) ((h3.alloc (.cells [.int .i64 0, .int .i64 0] true)).set h3.next o) c9 L := fun o => s3.keep (m := 0) (fun b _ hb => by rw [Hp.get_set, if_neg (by omega), Hp.get_alloc, if_neg (by omega)]) (Nat.le_succ _)
  simp [-k_len, k5, w3, w3', fitAll, CK.fits]
  refine k_len_sl (s2'' _) (by simp) ?_
  simp [-k_len]
  refine k_len_sl (s3' _) (by simp) ?_
  simp [-k_len]
  refine k_len_sl (s2'' _) (by simp) ?_
  simp
  refine loop3 L (by omega) c6 c9 _ _ _ (s2'' _) (s3' _) L.length 0 _ (by omega) (by simp) (by simp) (by simp) (by simp) fun e' => ?_
  simp
end Go.Proofs.Ytmlglmfjbmiflaa.Am
