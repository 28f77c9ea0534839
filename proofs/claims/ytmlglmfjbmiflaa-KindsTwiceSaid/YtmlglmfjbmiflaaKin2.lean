/-
  Field, of the layer kinds.
-/
import Derived.Test.YtmlglmfjbmiflaaKin1
namespace Go.Proofs.Ytmlglmfjbmiflaa.Am
open Go

def rowRun (a b c d : UInt8) (s : Int) : List UInt8 → Option (List Int)
  | [] => some []
  | x :: xs => if idx4 a.toNat b.toNat c.toNat d.toNat x.toNat 9 < s then (rowRun a b c d s xs).map (idx4 a.toNat b.toNat c.toNat d.toNat x.toNat 9 :: ·) else none
/-- A slice of numbers that nothing else writes: from block n on. -/
def IsSl (n : Nat) (h : Hp) (c : Cell) (L : List Int) : Prop :=
  (L = [] ∧ c = .nilslice) ∨ ∃ bk, n ≤ bk ∧ bk < h.next ∧ c = .slice bk 0 L.length L.length 1 ∧ h.get bk = some (.cells (L.map (.int .i64)) false)
def L6 : ACode := (.loop [1,2,4,8,9,36,37,41] (.seq (.ops [o 42 (.nxt (.t 41)),o 43 (.ext 0 (.t 42))])
 (.seq (.cond (.t 43) .skip
 (.exit 2))
 (.block 3 (.seq (.ops [o 44 (.ext 2 (.t 42)),o 11 (.mv (.t 44))])
 (.seq (.ops [o 45 (.mv (.t 8)),o 46 (.mv (.t 11)),o 47 (.call 12 [(.t 45),(.t 46)]),o 12 (.mv (.t 47))])
 (.keep [1,2,4,8,9,12,36,37,41] (.seq (.seq (.ops [o 48 (.mv (.t 12)),o 49 (.bin 0 .lss (.t 48) (ki 0)),o 50 (.mv (.t 49)),⟨(some 51),(.mv (.t 12)),some (50,false)⟩,⟨(some 52),(.fa 1 (.t 2)),some (50,false)⟩,⟨(some 53),(.ld (.t 52)),some (50,false)⟩,⟨(some 54),(.bin 0 .geq (.t 51) (.t 53)),some (50,false)⟩,o 55 (.pick (.t 50) (.k (.c (.bool true))) (.t 54))])
 (.keep [1,2,4,8,9,12,36,37,41,55] (.cond (.t 55) (.exit 1)
 .skip)))
 (.ops [o 56 (.mv (.t 9)),o 57 (.mv (.t 12)),o 58 (.mks [(.int .i64 0)] 1 [(0,1,(.t 57))]),o 59 (.app 1 8 (.t 56) (.t 58)),o 9 (.mv (.t 59))])))))))))
/-- Below n nothing is changed. -/
def Low (n : Nat) (h h' : Hp) : Prop := h.next ≤ h'.next ∧ ∀ b, b < n → h'.get b = h.get b
theorem Low.refl (n : Nat) (h : Hp) : Low n h h := ⟨Nat.le_refl _, fun _ _ => rfl⟩
theorem Low.trans {n : Nat} {a b c : Hp} (h : Low n a b) (h' : Low n b c) : Low n a c := ⟨Nat.le_trans h.1 h'.1, fun x hx => (h'.2 x hx).trans (h.2 x hx)⟩
theorem Low.set {n : Nat} (h : Hp) {b : Nat} (hb : n ≤ b) (o : AObj) : Low n h (h.set b o) := ⟨Nat.le_refl _, fun x hx => by rw [Hp.get_set, if_neg (by omega)]⟩
theorem Low.alloc {n : Nat} (h : Hp) (hn : n ≤ h.next) (o : AObj) : Low n h (h.alloc o) := ⟨Nat.le_succ _, fun x hx => by rw [Hp.get_alloc, if_neg (by omega)]⟩
theorem Low.ext {n : Nat} {h h' : Hp} (hn : n ≤ h.next) (hx : Ext h h') : Low n h h' := ⟨hx.1, fun b hb => hx.2 b (by omega)⟩

theorem idx4_lo (a b c d r : Int) : idx4 a b c d r (-1) < 0 → idx4 a b c d r 9 = 9 := by
  unfold idx4; (repeat' split) <;> omega
theorem idx4_hi (a b c d r : Int) : ¬ idx4 a b c d r (-1) < 0 → idx4 a b c d r 9 = idx4 a b c d r (-1) ∧ idx4 a b c d r (-1) < 4 := by
  unfold idx4; (repeat' split) <;> omega
theorem idx4_far (a b c d r : Int) (ha : a < 128) (hb : b < 128) (hc : c < 128) (hd : d < 128) (hr : 128 ≤ r) : idx4 a b c d r (-1) = -1 ∧ idx4 a b c d r 9 = 9 := by
  unfold idx4; (repeat' split) <;> omega
theorem IsSl.keep {n m : Nat} {h h' : Hp} {c : Cell} {L : List Int} (hs : IsSl n h c L) (hx : ∀ b, n ≤ b → b < h.next → h'.get b = h.get b) (hn : h.next ≤ h'.next) : IsSl n h' c L := by
  rcases hs with hs | ⟨bk, h1, h2, h3, h4⟩
  · exact .inl hs
  · exact .inr ⟨bk, h1, by omega, h3, (hx bk h1 h2).trans h4⟩
/-- One number more at a slice's end. -/
theorem IsSl.app {n : Nat} {h : Hp} {c : Cell} {L : List Int} (hs : IsSl n h c L) (hn : n ≤ h.next) (hl : L.length ≤ 3) (i : Int) :
    ∃ c' h', appOp (h.alloc (.cells [.int .i64 i] true)) 1 8 c (.slice h.next 0 1 1 1) = some (.c c', h') ∧ IsSl n h' c' (L ++ [i]) ∧ Low n h h' := by
  rcases hs with ⟨rfl, rfl⟩ | ⟨bk, h1, h2, rfl, h4⟩
  · refine ⟨.slice (h.next + 1) 0 1 1 1, (h.alloc (.cells [.int .i64 i] true)).alloc (.cells [.int .i64 i] false), ?_, .inr ⟨h.next + 1, by omega, by simp, rfl, by simp⟩, ?_⟩
    · simp [appOp, lenCell, capCell, sliceCells, spent]
    · exact (Low.alloc h hn _).trans (Low.alloc _ (by simp; omega) _)
  · have hne : bk ≠ h.next := by omega
    refine ⟨.slice (h.next + 1) 0 (L.length + 1) (L.length + 1) 1, ((h.alloc (.cells [.int .i64 i] true)).set bk .dead).alloc (.cells ((L ++ [i]).map (.int .i64)) false), ?_, .inr ⟨h.next + 1, by omega, by simp, by simp, by simp⟩, ?_⟩
    · have hle : (L.length + 1) * 8 ≤ 140737488355328 ∧ L.length + 1 ≤ 140737488355328 := by omega
      have hnle : ¬ (L.length + 1 ≤ L.length) := by omega
      simp [appOp, lenCell, capCell, sliceCells, spent, hne, h4, hle, hnle]
      rw [List.take_of_length_le (by simp)]
    · exact ((Low.alloc h hn _).trans (Low.set _ h1 _)).trans (Low.alloc _ (by simp; omega) _)

theorem inner6 (a b c d : UInt8) (ha : a.toNat < 128) (hb : b.toNat < 128) (hc : c.toNat < 128) (hd : d.toNat < 128) (name : List UInt8) (hlen : name.length ≤ 4) (s : Int) (hs : s ≤ 4) (b2 b4 it : Nat) (h2 : b2 < it) (bb : Int)
    {Q : AExit → St → Prop} {k : List KI} (v36 v37 v4 : AVal) : ∀ (suf : List UInt8) (p : Nat) (L : List Int) (c9 : Cell) (e : Env) (h : Hp), name.drop p = suf → L.length + suf.length ≤ 4 → it < h.next →
    h.get it = some (.siter name p) → h.get b2 = some (.cells [.int .i64 bb, .int .i64 s] true) → IsSl (it + 1) h c9 L →
    e.get 1 = .c (.str name) → e.get 2 = .c (.ptr b2 0) → e.get 4 = v4 → e.get 8 = .c (.str [a, b, c, d]) → e.get 9 = .c c9 → e.get 36 = v36 → e.get 37 = v37 → e.get 41 = .c (.ptr it 0) →
    (rowRun a b c d s suf = none → ∀ e' h', Low it h h' → e'.get 1 = .c (.str name) → e'.get 2 = .c (.ptr b2 0) → e'.get 4 = v4 → e'.get 36 = v36 → e'.get 37 = v37 → wpK T Q k (.exit 1) ⟨e', h', [], none⟩) →
    (∀ M, rowRun a b c d s suf = some M → ∀ e' h' c9', Low it h h' → IsSl (it + 1) h' c9' (L ++ M) → e'.get 2 = .c (.ptr b2 0) → e'.get 4 = v4 → e'.get 9 = .c c9' → wpK T Q k (.exit 2) ⟨e', h', [], none⟩) →
    wpK T Q (.code L6 :: k) .normal ⟨e, h, [], none⟩ := by
  intro suf
  induction suf with
  | nil =>
    intro p L c9 e h hp hl hit hi hb2 hsl e1 e2 e4 e8 e9 e36 e37 e41 hnone hsome
    have hp' : ¬ p < name.length := by
      have := congrArg List.length hp
      simp at this; omega
    refine k_loop ?_
    simp [e1, e2, e4, e8, e9, e36, e37, e41, hi, hp']
    refine hsome [] rfl _ _ c9 (Low.refl _ _) (by simpa using hsl) ?_ ?_ ?_ <;> simp
  | cons x xs ih =>
    intro p L c9 e h hp hl hit hi hb2 hsl e1 e2 e4 e8 e9 e36 e37 e41 hnone hsome
    have hpl : p < name.length := by
      have := congrArg List.length hp
      simp at this; omega
    refine k_loop ?_
    simp [e1, e2, e4, e8, e9, e36, e37, e41, hi, hpl]
    have hx : name[p] = x := by
      have h1 : name[p]? = some x := by
        have := congrArg (fun l => l[0]?) hp
        simpa using this
      rw [List.getElem?_eq_getElem hpl] at h1; simpa using h1
    have hxs : name.drop (p + 1) = xs := by
      have := congrArg List.tail hp
      simpa using this
    -- What the rune is.
    have hD : (x.toNat < 128 ∧ Go.Utf8.decode ⟨name.toArray⟩ p = (x.toNat, 1)) ∨ (128 ≤ x.toNat ∧ 128 ≤ (Go.Utf8.decode ⟨name.toArray⟩ p).1) := by
      by_cases hlt : x.toNat < 128
      · refine .inl ⟨hlt, ?_⟩
        have := dec name p hpl (by rw [hx]; exact hlt)
        rw [hx] at this; exact this
      · exact .inr ⟨by omega, (Go.decode_high ⟨name.toArray⟩ p hpl (by show 128 ≤ (name[p]).toNat; rw [hx]; omega)).1⟩
    generalize Go.Utf8.decode ⟨name.toArray⟩ p = D at hD ⊢
    refine k_call ?_
    simp
    refine c12 a b c d ha hb hc hd _ _ _ fun h' hx' => ?_
    have hnx : h.next ≤ h'.next := hx'.1
    have hget : ∀ b, b < h.next → b ≠ it → h'.get b = h.get b := fun b hb hne => (hx'.2 b hb).trans (by rw [Hp.get_set, if_neg hne])
    have hit' : h'.get it = some (.siter name (p + D.2)) := (hx'.2 it hit).trans (by rw [Hp.get_set, if_pos rfl])
    have hb2' : h'.get b2 = some (.cells [.int .i64 bb, .int .i64 s] true) := (hget b2 (by omega) (by omega)).trans hb2
    have hlow : Low it h h' := ⟨hnx, fun b hb => hget b (by omega) (by omega)⟩
    by_cases hneg : idx4 a.toNat b.toNat c.toNat d.toNat D.1 (-1) < 0
    · simp [hneg, e1, e2, e4, e8, e9, e36, e37, e41]
      refine hnone ?_ _ _ hlow ?_ ?_ ?_ ?_ ?_ <;> try (simp; done)
      have : idx4 a.toNat b.toNat c.toNat d.toNat x.toNat 9 = 9 := by
        rcases hD with ⟨_, rfl⟩ | ⟨hh, _⟩
        · exact idx4_lo _ _ _ _ _ hneg
        · exact (idx4_far a.toNat b.toNat c.toNat d.toNat x.toNat (by omega) (by omega) (by omega) (by omega) (by omega)).2
      simp only [rowRun]
      rw [if_neg (by rw [this]; omega)]
    · obtain ⟨hlt, rfl⟩ : x.toNat < 128 ∧ D = (x.toNat, 1) := by
        rcases hD with hh | ⟨_, hh⟩
        · exact hh
        · exact absurd (idx4_far a.toNat b.toNat c.toNat d.toNat (D.1 : Int) (by omega) (by omega) (by omega) (by omega) (by omega)).1 (by omega)
      simp only at hneg hit'
      obtain ⟨h9, h3⟩ := idx4_hi _ _ _ _ _ hneg
      by_cases hbig : s ≤ idx4 a.toNat b.toNat c.toNat d.toNat x.toNat (-1)
      · simp [hneg, hbig, hb2', e1, e2, e4, e8, e9, e36, e37, e41]
        refine hnone ?_ _ _ hlow ?_ ?_ ?_ ?_ ?_ <;> try (simp; done)
        simp only [rowRun]
        rw [if_neg (by rw [h9]; omega)]
      · simp at hl
        have hsl' := hsl.keep (m := 0) (fun b hb hb' => hget b hb' (by omega)) hnx
        obtain ⟨c', h'', happ, hsl2, hlow2⟩ := hsl'.app (by omega) (by omega) (idx4 a.toNat b.toNat c.toNat d.toNat x.toNat (-1))
        simp [hneg, hbig, hb2', e1, e2, e4, e8, e9, e36, e37, e41, reps, happ]
        have hlow3 : Low it h h'' := hlow.trans ⟨hlow2.1, fun b hb => hlow2.2 b (by omega)⟩
        refine ih (p + 1) (L ++ [idx4 a.toNat b.toNat c.toNat d.toNat x.toNat (-1)]) c' _ h'' hxs (by simp; omega) (by have := hlow3.1; omega)
          ((hlow2.2 it (by omega)).trans hit') ((hlow2.2 b2 (by omega)).trans hb2') hsl2 ?_ ?_ ?_ ?_ ?_ ?_ ?_ ?_ ?_ ?_
        any_goals (simp; done)
        · intro hr e' h3' hl3 q1 q2 q4 q36 q37
          refine hnone ?_ e' h3' (hlow3.trans hl3) q1 q2 q4 q36 q37
          simp only [rowRun]
          rw [if_pos (by rw [h9]; omega), hr]; rfl
        · intro M hr e' h3' c9' hl3 hs3 q2 q4 q9
          refine hsome (idx4 a.toNat b.toNat c.toNat d.toNat x.toNat 9 :: M) ?_ e' h3' c9' (hlow3.trans hl3) ?_ q2 q4 q9
          · simp only [rowRun]
            rw [if_pos (by rw [h9]; omega), hr]; rfl
          · rw [h9]; simpa using hs3

instance (b s : Int) : Decidable (MayB b s) := by unfold MayB; infer_instance
/-- What comes of a field: the type, the places, the error. -/
def fieldOf (b s : Int) (name : List UInt8) : Int × Int × List Int × Int :=
  if ¬ MayB b s then (0, 0, [], 2) else
  if ¬ (b = 1 ∨ b = 2 ∨ b = 3) ∨ s = 1 ∨ name = [] ∨ 4 < name.length then (0, 0, [], 231) else
  match rowRun 120 121 122 119 s name with
  | some M => (b, M.length, M, 0)
  | none => match rowRun 114 103 98 97 s name with
    | some M => (b, M.length, M, 0)
    | none => match rowRun 115 116 112 113 s name with
      | some M => (b, M.length, M, 0)
      | none => (0, 0, [], 231)
theorem c6 (b s : Int) (name : List UInt8) (h : Hp) (Q : CallQ)
    (hQ : ∀ c h', Ext h h' → IsSl h.next h' c (fieldOf b s name).2.2.1 → Q (.tup [.inr [.int .i64 (fieldOf b s name).1, .int .i64 (fieldOf b s name).2.1], .inl c, .inl (.int .i64 (fieldOf b s name).2.2.2)]) h') :
    wpC T 6 [ty b s, .c (.str name)] h Q := by
  refine k_code (fn := F6) rfl rfl ?_
  simp [F6]
  refine k_call ?_
  simp
  refine c10 b s (h.next + 2) _ (by simp) _ fun x h1 hx1 hext1 => ?_
  have g2 : h1.get h.next = some (.cells [.int .i64 b, .int .i64 s] true) := (hext1.2 h.next (by simp; omega)).trans (by simp)
  have g4 : h1.get (h.next + 1) = some (.cells [.int .i64 0, .int .i64 0] true) := (hext1.2 (h.next + 1) (by simp)).trans (by simp)
  have hn1 : h.next + 3 ≤ h1.next := by simpa using hext1.1
  have hext : Ext h h1 := (((Ext.alloc h _).alloc' _).alloc' _).trans hext1
  -- The three answers that say no.
  have no : ∀ (er : Int) (h2 : Hp), Ext h h2 → fieldOf b s name = (0, 0, [], er) → Q (.tup [.inr [.int .i64 0, .int .i64 0], .inl .nilslice, .inl (.int .i64 er)]) h2 := by
    intro er h2 hx2 hf
    have := hQ .nilslice h2 hx2 (by rw [hf]; exact .inl ⟨rfl, rfl⟩)
    rw [hf] at this; exact this
  cases x with
  | false =>
    have hm : ¬ MayB b s := by simpa using hx1
    simp [g4]
    refine no 2 _ (hext.set (by omega) _) ?_
    simp [fieldOf, hm]
  | true =>
    have hm : MayB b s := by simpa using hx1
    simp [g2]
    refine k_call ?_
    simp
    refine c11 b s _ _ fun y h2 hx2 hext2 => ?_
    have g2' : h2.get h.next = some (.cells [.int .i64 b, .int .i64 s] true) := (hext2.2 h.next (by omega)).trans g2
    have g4' : h2.get (h.next + 1) = some (.cells [.int .i64 0, .int .i64 0] true) := (hext2.2 (h.next + 1) (by omega)).trans g4
    have hn2 : h.next + 3 ≤ h2.next := Nat.le_trans hn1 hext2.1
    have hext' : Ext h h2 := hext.trans hext2
    have xset : ∀ o, Ext h (h2.set (h.next + 1) o) := fun o => hext'.set (by omega) o
    by_cases hbad : ¬ (b = 1 ∨ b = 2 ∨ b = 3) ∨ s = 1 ∨ name = [] ∨ 4 < name.length
    · have hf : fieldOf b s name = (0, 0, [], 231) := by
        unfold fieldOf
        rw [if_neg (by simpa using hm), if_pos hbad]
      have fin := fun h3 hx3 => no 231 h3 hx3 hf
      cases y with
      | false => simp [g4']; exact fin _ (xset _)
      | true =>
        by_cases hs1 : s = 1
        · simp [g2', g4', hs1]; exact fin _ (xset _)
        · by_cases hnm : name = []
          · simp [g2', g4', hs1, hnm]; exact fin _ (xset _)
          · have hbb : b = 1 ∨ b = 2 ∨ b = 3 := by simpa using hx2
            have h4 : 4 < name.length := by
              rcases hbad with hh | hh | hh | hh
              · exact absurd hbb hh
              · exact absurd hh hs1
              · exact absurd hh hnm
              · exact hh
            have h4' : (4 : Int) < name.length := by omega
            simp [g2', g4', hs1, hnm, h4, h4']; exact fin _ (xset _)
    · have hall := hbad
      simp only [not_or] at hall
      obtain ⟨hb, hs1, hnm, hlen⟩ := hall
      have hb : b = 1 ∨ b = 2 ∨ b = 3 := by omega
      have hy : y = true := hx2.2 hb
      subst hy
      have hlen' : ¬ (4 : Int) < name.length := by omega
      have hs4 : s ≤ 4 := by unfold MayB at hm; omega
      have hf : fieldOf b s name = match rowRun 120 121 122 119 s name with
        | some M => (b, (M.length : Int), M, (0 : Int))
        | none => match rowRun 114 103 98 97 s name with
          | some M => (b, (M.length : Int), M, 0)
          | none => match rowRun 115 116 112 113 s name with
            | some M => (b, (M.length : Int), M, 0)
            | none => (0, 0, [], 231) := by
        unfold fieldOf
        rw [if_neg (by simpa using hm), if_neg hbad]
      simp [g2', hs1, hnm, hlen, hlen']
      refine k_loop ?_
      simp
      refine inner6 120 121 122 119 (by decide) (by decide) (by decide) (by decide) name (by omega) s hs4 h.next (h.next + 1) h2.next (by omega) b _ _ _ name 0 [] .nilslice _ _ rfl (by simp; omega) (by simp) (by simp) (by simp; rw [if_neg (by omega)]; exact g2') (.inl ⟨rfl, rfl⟩) (by simp) (by simp) (by simp; rfl) (by simp) (by simp) (by simp; rfl) (by simp; rfl) (by simp) ?_ ?_
      · intro ra ea ja la q1 q2 q4 q36 q37
        have g2a : ja.get h.next = some (.cells [.int .i64 b, .int .i64 s] true) := (la.2 h.next (by omega)).trans (by rw [Hp.get_alloc, if_neg (by omega)]; exact g2')
        have g4a : ja.get (h.next + 1) = some (.cells [.int .i64 0, .int .i64 0] true) := (la.2 (h.next + 1) (by omega)).trans (by rw [Hp.get_alloc, if_neg (by omega)]; exact g4')
        have hna : h.next + 3 ≤ ja.next := by have := la.1; simp at this; omega
        have xa : Ext h ja := ⟨by omega, fun x hx => (la.2 x (by omega)).trans (by rw [Hp.get_alloc, if_neg (by omega)]; exact hext'.2 x hx)⟩
        simp [q1, q2, q4, q36, q37]
        refine k_loop ?_
        simp [q1, q2, q4, q36, q37]
        clear q1 q2 q4 q36 q37
        refine inner6 114 103 98 97 (by decide) (by decide) (by decide) (by decide) name (by omega) s hs4 h.next (h.next + 1) ja.next (by omega) b _ _ _ name 0 [] .nilslice _ _ rfl (by simp; omega) (by simp) (by simp) (by simp; rw [if_neg (by omega)]; exact g2a) (.inl ⟨rfl, rfl⟩) (by simp) (by simp) (by simp; rfl) (by simp) (by simp) (by simp; rfl) (by simp; rfl) (by simp) ?_ ?_
        · intro rb eb jb lb q1 q2 q4 q36 q37
          have g2b : jb.get h.next = some (.cells [.int .i64 b, .int .i64 s] true) := (lb.2 h.next (by omega)).trans (by rw [Hp.get_alloc, if_neg (by omega)]; exact g2a)
          have g4b : jb.get (h.next + 1) = some (.cells [.int .i64 0, .int .i64 0] true) := (lb.2 (h.next + 1) (by omega)).trans (by rw [Hp.get_alloc, if_neg (by omega)]; exact g4a)
          have hnb : h.next + 3 ≤ jb.next := by have := lb.1; simp at this; omega
          have xb : Ext h jb := ⟨by omega, fun x hx => (lb.2 x (by omega)).trans (by rw [Hp.get_alloc, if_neg (by omega)]; exact xa.2 x hx)⟩
          simp [q1, q2, q4, q36, q37]
          refine k_loop ?_
          simp [q1, q2, q4, q36, q37]
          clear q1 q2 q4 q36 q37
          refine inner6 115 116 112 113 (by decide) (by decide) (by decide) (by decide) name (by omega) s hs4 h.next (h.next + 1) jb.next (by omega) b _ _ _ name 0 [] .nilslice _ _ rfl (by simp; omega) (by simp) (by simp) (by simp; rw [if_neg (by omega)]; exact g2b) (.inl ⟨rfl, rfl⟩) (by simp) (by simp) (by simp; rfl) (by simp) (by simp) (by simp; rfl) (by simp; rfl) (by simp) ?_ ?_
          · intro rc ec jc lc q1 q2 q4 q36 q37
            have g2c : jc.get h.next = some (.cells [.int .i64 b, .int .i64 s] true) := (lc.2 h.next (by omega)).trans (by rw [Hp.get_alloc, if_neg (by omega)]; exact g2b)
            have g4c : jc.get (h.next + 1) = some (.cells [.int .i64 0, .int .i64 0] true) := (lc.2 (h.next + 1) (by omega)).trans (by rw [Hp.get_alloc, if_neg (by omega)]; exact g4b)
            have hnc : h.next + 3 ≤ jc.next := by have := lc.1; simp at this; omega
            have xc : Ext h jc := ⟨by omega, fun x hx => (lc.2 x (by omega)).trans (by rw [Hp.get_alloc, if_neg (by omega)]; exact xb.2 x hx)⟩
            simp [q1, q2, q4, q36, q37]
            refine k_loop ?_
            simp [q1, q2, q4, q36, q37]
            simp [g4c]
            refine no 231 _ (xc.set (by omega) _) ?_
            rw [hf, ra, rb, rc]
          · intro M hr e' h' c9 hlow hsl q2 q4 q9
            have k2 : h'.get h.next = some (.cells [.int .i64 b, .int .i64 s] true) := (hlow.2 h.next (by omega)).trans (by rw [Hp.get_alloc, if_neg (by omega)]; exact g2b)
            have k4 : h'.get (h.next + 1) = some (.cells [.int .i64 0, .int .i64 0] true) := (hlow.2 (h.next + 1) (by omega)).trans (by rw [Hp.get_alloc, if_neg (by omega)]; exact g4b)
            have hq : ∀ o, Q (.tup [.inr [.int .i64 b, .int .i64 M.length], .inl c9, .inl (.int .i64 0)]) (h'.set (h.next + 1) o) := fun o => by
              have hxx : Ext h (h'.set (h.next + 1) o) := Ext.set ⟨by have := hlow.1; simp at this; have := xb.1; omega, fun x hx => (hlow.2 x (by omega)).trans (by rw [Hp.get_alloc, if_neg (by omega)]; exact xb.2 x hx)⟩ (by omega) o
              have hss : IsSl h.next (h'.set (h.next + 1) o) c9 M := by
                rcases hsl with hs | ⟨bk, p1, p2, p3, p4⟩
                · exact .inl hs
                · exact .inr ⟨bk, by omega, p2, p3, by rw [Hp.get_set, if_neg (by omega)]; exact p4⟩
              have := hQ c9 _ hxx (by rw [hf, ra, rb, hr]; exact hss)
              rw [hf, ra, rb, hr] at this; exact this
            rcases hsl with ⟨hM, rfl⟩ | ⟨bk, p1, p2, p3, p4⟩
            · simp at hM
              subst hM
              simp [q2, q4, q9, k2, k4]
              simpa using hq _
            · simp at p3
              subst p3
              simp [q2, q4, q9, k2, k4]
              exact hq _
        · intro M hr e' h' c9 hlow hsl q2 q4 q9
          have k2 : h'.get h.next = some (.cells [.int .i64 b, .int .i64 s] true) := (hlow.2 h.next (by omega)).trans (by rw [Hp.get_alloc, if_neg (by omega)]; exact g2a)
          have k4 : h'.get (h.next + 1) = some (.cells [.int .i64 0, .int .i64 0] true) := (hlow.2 (h.next + 1) (by omega)).trans (by rw [Hp.get_alloc, if_neg (by omega)]; exact g4a)
          have hq : ∀ o, Q (.tup [.inr [.int .i64 b, .int .i64 M.length], .inl c9, .inl (.int .i64 0)]) (h'.set (h.next + 1) o) := fun o => by
            have hxx : Ext h (h'.set (h.next + 1) o) := Ext.set ⟨by have := hlow.1; simp at this; have := xa.1; omega, fun x hx => (hlow.2 x (by omega)).trans (by rw [Hp.get_alloc, if_neg (by omega)]; exact xa.2 x hx)⟩ (by omega) o
            have hss : IsSl h.next (h'.set (h.next + 1) o) c9 M := by
              rcases hsl with hs | ⟨bk, p1, p2, p3, p4⟩
              · exact .inl hs
              · exact .inr ⟨bk, by omega, p2, p3, by rw [Hp.get_set, if_neg (by omega)]; exact p4⟩
            have := hQ c9 _ hxx (by rw [hf, ra, hr]; exact hss)
            rw [hf, ra, hr] at this; exact this
          rcases hsl with ⟨hM, rfl⟩ | ⟨bk, p1, p2, p3, p4⟩
          · simp at hM
            subst hM
            simp [q2, q4, q9, k2, k4]
            simpa using hq _
          · simp at p3
            subst p3
            simp [q2, q4, q9, k2, k4]
            exact hq _
      · intro M hr e' h' c9 hlow hsl q2 q4 q9
        have k2 : h'.get h.next = some (.cells [.int .i64 b, .int .i64 s] true) := (hlow.2 h.next (by omega)).trans (by rw [Hp.get_alloc, if_neg (by omega)]; exact g2')
        have k4 : h'.get (h.next + 1) = some (.cells [.int .i64 0, .int .i64 0] true) := (hlow.2 (h.next + 1) (by omega)).trans (by rw [Hp.get_alloc, if_neg (by omega)]; exact g4')
        have hq : ∀ o, Q (.tup [.inr [.int .i64 b, .int .i64 M.length], .inl c9, .inl (.int .i64 0)]) (h'.set (h.next + 1) o) := fun o => by
          have hxx : Ext h (h'.set (h.next + 1) o) := Ext.set ⟨by have := hlow.1; simp at this; have := hext'.1; omega, fun x hx => (hlow.2 x (by omega)).trans (by rw [Hp.get_alloc, if_neg (by omega)]; exact hext'.2 x hx)⟩ (by omega) o
          have hss : IsSl h.next (h'.set (h.next + 1) o) c9 M := by
            rcases hsl with hs | ⟨bk, p1, p2, p3, p4⟩
            · exact .inl hs
            · exact .inr ⟨bk, by omega, p2, p3, by rw [Hp.get_set, if_neg (by omega)]; exact p4⟩
          have := hQ c9 _ hxx (by rw [hf, hr]; exact hss)
          rw [hf, hr] at this; exact this
        rcases hsl with ⟨hM, rfl⟩ | ⟨bk, p1, p2, p3, p4⟩
        · simp at hM
          subst hM
          simp [q2, q4, q9, k2, k4]
          simpa using hq _
        · simp at p3
          subst p3
          simp [q2, q4, q9, k2, k4]
          exact hq _
end Go.Proofs.Ytmlglmfjbmiflaa.Am
