/-
  Field, of the reference.
-/
import Derived.Test.YtmlglmfjbmiflaaKin2
namespace Go.Proofs.Ytmlglmfjbmiflaa.Am
open Go

def filterRun (a b c d : UInt8) (s : Int) : List UInt8 → List Int
  | [] => []
  | x :: xs => if idx4 a.toNat b.toNat c.toNat d.toNat x.toNat 9 < s then idx4 a.toNat b.toNat c.toNat d.toNat x.toNat 9 :: filterRun a b c d s xs else filterRun a b c d s xs
theorem filterRun_le (a b c d : UInt8) (s : Int) : ∀ l, (filterRun a b c d s l).length ≤ l.length
  | [] => Nat.le_refl _
  | x :: xs => by
    have := filterRun_le a b c d s xs
    simp only [filterRun]
    split <;> simp <;> omega
theorem rowRun_filter (a b c d : UInt8) (s : Int) : ∀ l, rowRun a b c d s l = if (filterRun a b c d s l).length = l.length then some (filterRun a b c d s l) else none
  | [] => rfl
  | x :: xs => by
    have ih := rowRun_filter a b c d s xs
    have hle := filterRun_le a b c d s xs
    simp only [filterRun, rowRun]
    split
    · rw [ih]
      by_cases h : (filterRun a b c d s xs).length = xs.length
      · rw [if_pos h, if_pos (by simp [h])]; rfl
      · rw [if_neg h, if_neg (by simpa using h)]; rfl
    · rw [if_neg (by simp; omega)]
def L7 : ACode := (.loop [1,2,4,7,8,9] (.seq (.seq (.ops [o 38 (.mv (.t 9)),o 39 (.mv (.t 1)),o 40 (.len 0 (.t 39)),o 41 (.bin 0 .lss (.t 38) (.t 40))])
 (.cond (.t 41) .skip
 (.exit 2)))
 (.seq (.block 3 (.seq (.dops [.op 1 (o 45 (.mv (.t 7))),.op 4 (o 48 (.mv (.t 1))),.op 5 (o 49 (.mv (.t 9))),.op 6 (o 50 (.ixs (.t 48) (.t 49))),.eff 0 (o 44 (.mks [(.str (bs []))] 3 [(0,1,(.k (.c (.str (bs [120,121,122,119]))))),(1,1,(.k (.c (.str (bs [114,103,98,97]))))),(2,1,(.k (.c (.str (bs [115,116,112,113])))))])) [],.op 2 (o 46 (.ixa 1 (.t 44) (.t 45))),.op 3 (o 47 (.ld (.t 46))),.eff 7 (o 51 (.call 15 [(.t 47),(.t 50)])) [],.op 8 (o 10 (.mv (.t 51)))])
 (.keep [1,2,4,7,8,9,10] (.seq (.ops [o 52 (.mv (.t 10)),o 53 (.fa 1 (.t 2)),o 54 (.ld (.t 53)),o 55 (.bin 0 .lss (.t 52) (.t 54))])
 (.cond (.t 55) (.ops [o 56 (.mv (.t 8)),o 57 (.mv (.t 10)),o 58 (.mks [(.int .i64 0)] 1 [(0,1,(.t 57))]),o 59 (.app 1 8 (.t 56) (.t 58)),o 8 (.mv (.t 59))])
 .skip)))))
 (.keep [1,2,4,7,8,9] (.ops [o 42 (.mv (.t 9)),o 43 (.bin 0 .add (.t 42) (ki 1)),o 9 (.mv (.t 43))])))))
theorem inner7 (a b c d : UInt8) (kk : Int) (hk0 : 0 ≤ kk) (hk3 : kk < 3) (hrow : [Cell.str [120, 121, 122, 119], Cell.str [114, 103, 98, 97], Cell.str [115, 116, 112, 113]][kk.toNat]? = some (.str [a, b, c, d]))
    (name : List UInt8) (hlen : name.length ≤ 4) (s : Int) (b2 n : Nat) (h2 : b2 < n) (bb : Int)
    {Q : AExit → St → Prop} {k : List KI} (v4 : AVal) : ∀ (suf : List UInt8) (p : Nat) (L : List Int) (c8 : Cell) (e : Env) (h : Hp), name.drop p = suf → L.length + suf.length ≤ 4 → n ≤ h.next →
    h.get b2 = some (.cells [.int .i64 bb, .int .i64 s] true) → IsSl n h c8 L →
    e.get 1 = .c (.str name) → e.get 2 = .c (.ptr b2 0) → e.get 4 = v4 → e.get 7 = .c (.int .i64 kk) → e.get 8 = .c c8 → e.get 9 = .c (.int .i64 p) →
    (∀ e' h' c8', Low n h h' → IsSl n h' c8' (L ++ filterRun a b c d s suf) → e'.get 1 = .c (.str name) → e'.get 2 = .c (.ptr b2 0) → e'.get 4 = v4 → e'.get 7 = .c (.int .i64 kk) → e'.get 8 = .c c8' → wpK T Q k (.exit 2) ⟨e', h', [], none⟩) →
    wpK T Q (.code L7 :: k) .normal ⟨e, h, [], none⟩ := by
  intro suf
  induction suf with
  | nil =>
    intro p L c8 e h hp hl hn hb2 hsl e1 e2 e4 e7 e8 e9 hq
    have hp' : ¬ p < name.length := by
      have := congrArg List.length hp
      simp at this; omega
    refine k_loop ?_
    simp [e1, e2, e4, e7, e8, e9, hp']
    refine hq _ _ c8 (Low.refl _ _) (by simpa [filterRun] using hsl) ?_ ?_ ?_ ?_ ?_ <;> simp
  | cons x xs ih =>
    intro p L c8 e h hp hl hn hb2 hsl e1 e2 e4 e7 e8 e9 hq
    have hpl : p < name.length := by
      have := congrArg List.length hp
      simp at this; omega
    have hx : name[p]? = some x := by
      have := congrArg (fun l => l[0]?) hp
      simpa using this
    have hxs : name.drop (p + 1) = xs := by
      have := congrArg List.tail hp
      simpa using this
    have hw : IntKind.i64.wrap ((p : Int) + 1) = ((p + 1 : Nat) : Int) := by rw [wrap_i64 (by omega) (by omega)]; simp
    refine k_loop ?_
    have hk3' : kk.toNat < 3 := by omega
    have hrow' : [Cell.str [120, 121, 122, 119], Cell.str [114, 103, 98, 97], Cell.str [115, 116, 112, 113]][kk.toNat]'hk3' = .str [a, b, c, d] := by
      rw [List.getElem?_eq_getElem hk3'] at hrow
      simpa using hrow
    have hx' : name[p] = x := by
      rw [List.getElem?_eq_getElem hpl] at hx
      simpa using hx
    simp [e1, e2, e4, e7, e8, e9, hpl, hk0, hk3, hk3', hrow', hx']
    refine k_call ?_
    simp [hrow', hx']
    refine c15 a b c d _ _ _ ?_
    have hbig : Low n h (h.alloc (.cells [Cell.str [120, 121, 122, 119], Cell.str [114, 103, 98, 97], Cell.str [115, 116, 112, 113]] true)) := Low.alloc h hn _
    generalize hh1 : h.alloc (.cells [Cell.str [120, 121, 122, 119], Cell.str [114, 103, 98, 97], Cell.str [115, 116, 112, 113]] true) = h1 at hbig ⊢
    have hn1 : h.next + 1 = h1.next := by rw [← hh1]; rfl
    have hb21 : h1.get b2 = some (.cells [.int .i64 bb, .int .i64 s] true) := (hbig.2 b2 h2).trans hb2
    have hsl1 : IsSl n h1 c8 L := hsl.keep (m := 0) (fun b hb hb' => by rw [← hh1, Hp.get_alloc, if_neg (by omega)]) hbig.1
    simp at hl
    by_cases hlt : idx4 a.toNat b.toNat c.toNat d.toNat x.toNat 9 < s
    · obtain ⟨c', h'', happ, hsl2, hlow2⟩ := hsl1.app (by omega) (by omega) (idx4 a.toNat b.toNat c.toNat d.toNat x.toNat 9)
      simp [e1, e2, e4, e7, e8, e9, hb21, hlt, happ, hw]
      have hlow3 : Low n h h'' := hbig.trans hlow2
      refine ih (p + 1) (L ++ [idx4 a.toNat b.toNat c.toNat d.toNat x.toNat 9]) c' _ h'' hxs (by simp; omega) (by have := hlow3.1; omega) ((hlow2.2 b2 h2).trans hb21) hsl2 ?_ ?_ ?_ ?_ ?_ ?_ ?_
      any_goals (simp; done)
      intro e' h' c8' hl3 hs3 q1 q2 q4 q7 q8
      refine hq e' h' c8' (hlow3.trans hl3) ?_ q1 q2 q4 q7 q8
      simp only [filterRun]
      rw [if_pos hlt]
      simpa using hs3
    · simp [e1, e2, e4, e7, e8, e9, hb21, hlt, hw]
      refine ih (p + 1) L c8 _ h1 hxs (by omega) (by omega) hb21 hsl1 ?_ ?_ ?_ ?_ ?_ ?_ ?_
      any_goals (simp; done)
      intro e' h' c8' hl3 hs3 q1 q2 q4 q7 q8
      refine hq e' h' c8' (hbig.trans hl3) ?_ q1 q2 q4 q7 q8
      simp only [filterRun]
      rw [if_neg hlt]
      exact hs3

theorem k_len_sl {Q : AExit → St → Prop} {k : List KI} {e : Env} {h : Hp} {df : List Cell} {d n : Nat} {x : Opd} {l : List AInstr} {c : Cell} {L : List Int} (hs : IsSl n h c L) (hx : ev e x = .c c)
    (h1 : wpK T Q (.ops l :: k) .normal ⟨(d, .c (.int .i64 L.length)) :: e, h, df, none⟩) : wpK T Q (.ops (o d (.len 1 x) :: l) :: k) .normal ⟨e, h, df, none⟩ := by
  rw [k_len]
  have : pureOp e h (.len 1 x) = some (.c (.int .i64 L.length)) := by
    simp only [pureOp]
    rw [hx]
    rcases hs with ⟨rfl, rfl⟩ | ⟨bk, _, _, rfl, _⟩ <;> rfl
  rw [this]
  exact h1
theorem c7 (b s : Int) (name : List UInt8) (h : Hp) (Q : CallQ)
    (hQ : ∀ c h', Ext h h' → IsSl h.next h' c (fieldOf b s name).2.2.1 → Q (.tup [.inr [.int .i64 (fieldOf b s name).1, .int .i64 (fieldOf b s name).2.1], .inl c, .inl (.int .i64 (fieldOf b s name).2.2.2)]) h') :
    wpC T 7 [ty b s, .c (.str name)] h Q := by
  refine k_code (fn := F7) rfl rfl ?_
  simp [F7]
  refine k_call ?_
  simp
  refine c13 b s _ _ fun x h1 hx1 hext1 => ?_
  have g2 : h1.get h.next = some (.cells [.int .i64 b, .int .i64 s] true) := (hext1.2 h.next (by simp; omega)).trans (by simp)
  have g4 : h1.get (h.next + 1) = some (.cells [.int .i64 0, .int .i64 0] true) := (hext1.2 (h.next + 1) (by simp)).trans (by simp)
  have hn1 : h.next + 2 ≤ h1.next := by simpa using hext1.1
  have hext : Ext h h1 := ((Ext.alloc h _).alloc' _).trans hext1
  have no : ∀ (er : Int) (h2 : Hp), Ext h h2 → fieldOf b s name = (0, 0, [], er) → Q (.tup [.inr [.int .i64 0, .int .i64 0], .inl .nilslice, .inl (.int .i64 er)]) h2 := by
    intro er h2 hx2 hf
    have := hQ .nilslice h2 hx2 (by rw [hf]; exact .inl ⟨rfl, rfl⟩)
    rw [hf] at this; exact this
  cases x with
  | false =>
    have hm : ¬ MayB b s := by simpa using hx1
    simp [g4]
    refine no 2 _ (hext.set (by omega) _) ?_
    simp [fieldOf, hm]
  | true =>
    have hm : MayB b s := by simpa using hx1
    simp [g2]
    refine k_loop ?_
    simp [g2]
    refine k_call ?_
    simp
    refine c14 b s _ _ fun y h2 hx2 hext2 => ?_
    have g2' : h2.get h.next = some (.cells [.int .i64 b, .int .i64 s] true) := (hext2.2 h.next (by omega)).trans g2
    have g4' : h2.get (h.next + 1) = some (.cells [.int .i64 0, .int .i64 0] true) := (hext2.2 (h.next + 1) (by omega)).trans g4
    have hn2 : h.next + 2 ≤ h2.next := Nat.le_trans hn1 hext2.1
    have hext' : Ext h h2 := hext.trans hext2
    have xset : ∀ o, Ext h (h2.set (h.next + 1) o) := fun o => hext'.set (by omega) o
    by_cases hbad : ¬ (b = 1 ∨ b = 2 ∨ b = 3) ∨ s = 1 ∨ name = [] ∨ 4 < name.length
    · have hf : fieldOf b s name = (0, 0, [], 231) := by
        unfold fieldOf
        rw [if_neg (by simpa using hm), if_pos hbad]
      have fin := fun h3 hx3 => no 231 h3 hx3 hf
      cases y with
      | false => simp [g4']; exact fin _ (xset _)
      | true =>
        have hb : 1 ≤ b ∧ b ≤ 3 := by simpa using hx2
        by_cases hs1 : 1 < s
        · by_cases hnm : name = []
          · subst hnm
            simp [g2', g4', hs1]; exact fin _ (xset _)
          · have h4 : 4 < name.length := by
              rcases hbad with hh | hh | hh | hh
              · omega
              · omega
              · exact absurd hh hnm
              · exact hh
            have h4' : ¬ (name.length : Int) ≤ 4 := by omega
            have h5' : (1 : Int) ≤ name.length := by omega
            simp [g2', g4', hs1, h4', h5']; exact fin _ (xset _)
        · simp [g2', g4', hs1]; exact fin _ (xset _)
    · have hall := hbad
      simp only [not_or] at hall
      obtain ⟨hb, hs1, hnm, hlen⟩ := hall
      have hb : 1 ≤ b ∧ b ≤ 3 := by omega
      have hy : y = true := hx2.2 hb
      subst hy
      have hs1' : 1 < s := by unfold MayB at hm; omega
      have hlen' : (name.length : Int) ≤ 4 := by omega
      have hlen1 : (1 : Int) ≤ name.length := by
        have : name.length ≠ 0 := by simpa using hnm
        omega
      have hf : fieldOf b s name = match rowRun 120 121 122 119 s name with
        | some M => (b, (M.length : Int), M, (0 : Int))
        | none => match rowRun 114 103 98 97 s name with
          | some M => (b, (M.length : Int), M, 0)
          | none => match rowRun 115 116 112 113 s name with
            | some M => (b, (M.length : Int), M, 0)
            | none => (0, 0, [], 231) := by
        unfold fieldOf
        rw [if_neg (by simpa using hm), if_neg hbad]
        rfl
      simp [g2', hs1', hlen1, hlen']
      refine inner7 120 121 122 119 0 (by decide) (by decide) rfl name (by omega) s h.next h2.next (by omega) b _ name 0 [] .nilslice _ _ rfl (by simp; omega) (Nat.le_refl _) g2' (.inl ⟨rfl, rfl⟩) (by simp) (by simp) (by simp; rfl) (by simp) (by simp) (by simp) ?_
      intro ea ja ca la sa q1 q2 q4 q7 q8
      have g2a : ja.get h.next = some (.cells [.int .i64 b, .int .i64 s] true) := (la.2 h.next (by omega)).trans g2'
      have g4a : ja.get (h.next + 1) = some (.cells [.int .i64 0, .int .i64 0] true) := (la.2 (h.next + 1) (by omega)).trans g4'
      have hna : h.next + 2 ≤ ja.next := Nat.le_trans hn2 la.1
      have xa : Ext h ja := ⟨by omega, fun x hx => (la.2 x (by omega)).trans (hext'.2 x hx)⟩
      simp only [List.nil_append] at sa
      have hra := rowRun_filter 120 121 122 119 s name
      simp [-k_len, q1, q2, q4, q7, q8]
      refine k_len_sl sa (by simp [q8]) ?_
      simp [q1, q2, q4, q7, q8]
      by_cases hfulla : (filterRun 120 121 122 119 s name).length = name.length
      · rw [if_pos hfulla] at hra
        have hq : ∀ o, Q (.tup [.inr [.int .i64 b, .int .i64 (filterRun 120 121 122 119 s name).length], .inl ca, .inl (.int .i64 0)]) (ja.set (h.next + 1) o) := fun o => by
          have hss : IsSl h.next (ja.set (h.next + 1) o) ca (filterRun 120 121 122 119 s name) := by
            rcases sa with hs | ⟨bk, p1, p2, p3, p4⟩
            · exact .inl hs
            · exact .inr ⟨bk, by omega, p2, p3, by rw [Hp.get_set, if_neg (by omega)]; exact p4⟩
          have := hQ ca (ja.set (h.next + 1) o) (xa.set (by omega) o) (by rw [hf, hra]; exact hss)
          rw [hf, hra] at this; exact this
        simp [-k_len, hfulla, g2a, q1, q2, q4, q7, q8]
        refine k_len_sl sa (by simp [q8]) ?_
        rcases sa with ⟨hM, rfl⟩ | ⟨bk, p1, p2, rfl, p4⟩
        · simp [g2a, g4a, q1, q2, q4, q7, q8]
          exact hq _
        · simp [g2a, g4a, q1, q2, q4, q7, q8]
          exact hq _
      · rw [if_neg hfulla] at hra
        simp [show ¬ (((filterRun 120 121 122 119 s name).length : Int) = name.length) from by omega, q1, q2, q4, q7, q8]
        refine k_loop ?_
        simp [q1, q2, q4, q7, g2a]
        refine k_call ?_
        simp
        refine c14 b s _ _ fun yb ib hyb hib => ?_
        have hyy : yb = true := hyb.2 hb
        subst hyy
        have u2b : ib.get h.next = some (.cells [.int .i64 b, .int .i64 s] true) := (hib.2 h.next (by omega)).trans g2a
        have u4b : ib.get (h.next + 1) = some (.cells [.int .i64 0, .int .i64 0] true) := (hib.2 (h.next + 1) (by omega)).trans g4a
        have unb : h.next + 2 ≤ ib.next := Nat.le_trans hna hib.1
        have uxb : Ext h ib := xa.trans hib
        simp [u2b, hs1', hlen1, hlen']
        clear q1 q2 q4 q7 q8
        refine inner7 114 103 98 97 1 (by decide) (by decide) rfl name (by omega) s h.next ib.next (by omega) b _ name 0 [] .nilslice _ _ rfl (by simp; omega) (Nat.le_refl _) u2b (.inl ⟨rfl, rfl⟩) (by simp) (by simp) (by simp; rfl) (by simp) (by simp) (by simp) ?_
        intro eb jb cb lb sb q1 q2 q4 q7 q8
        have g2b : jb.get h.next = some (.cells [.int .i64 b, .int .i64 s] true) := (lb.2 h.next (by omega)).trans u2b
        have g4b : jb.get (h.next + 1) = some (.cells [.int .i64 0, .int .i64 0] true) := (lb.2 (h.next + 1) (by omega)).trans u4b
        have hnb : h.next + 2 ≤ jb.next := Nat.le_trans unb lb.1
        have xb : Ext h jb := ⟨by omega, fun x hx => (lb.2 x (by omega)).trans (uxb.2 x hx)⟩
        simp only [List.nil_append] at sb
        have hrb := rowRun_filter 114 103 98 97 s name
        simp [-k_len, q1, q2, q4, q7, q8]
        refine k_len_sl sb (by simp [q8]) ?_
        simp [q1, q2, q4, q7, q8]
        by_cases hfullb : (filterRun 114 103 98 97 s name).length = name.length
        · rw [if_pos hfullb] at hrb
          have hq : ∀ o, Q (.tup [.inr [.int .i64 b, .int .i64 (filterRun 114 103 98 97 s name).length], .inl cb, .inl (.int .i64 0)]) (jb.set (h.next + 1) o) := fun o => by
            have hss : IsSl h.next (jb.set (h.next + 1) o) cb (filterRun 114 103 98 97 s name) := by
              rcases sb with hs | ⟨bk, p1, p2, p3, p4⟩
              · exact .inl hs
              · exact .inr ⟨bk, by omega, p2, p3, by rw [Hp.get_set, if_neg (by omega)]; exact p4⟩
            have := hQ cb (jb.set (h.next + 1) o) (xb.set (by omega) o) (by rw [hf, hra, hrb]; exact hss)
            rw [hf, hra, hrb] at this; exact this
          simp [-k_len, hfullb, g2b, q1, q2, q4, q7, q8]
          refine k_len_sl sb (by simp [q8]) ?_
          rcases sb with ⟨hM, rfl⟩ | ⟨bk, p1, p2, rfl, p4⟩
          · simp [g2b, g4b, q1, q2, q4, q7, q8]
            exact hq _
          · simp [g2b, g4b, q1, q2, q4, q7, q8]
            exact hq _
        · rw [if_neg hfullb] at hrb
          simp [show ¬ (((filterRun 114 103 98 97 s name).length : Int) = name.length) from by omega, q1, q2, q4, q7, q8]
          refine k_loop ?_
          simp [q1, q2, q4, q7, g2b]
          refine k_call ?_
          simp
          refine c14 b s _ _ fun yc ic hyc hic => ?_
          have hyy : yc = true := hyc.2 hb
          subst hyy
          have u2c : ic.get h.next = some (.cells [.int .i64 b, .int .i64 s] true) := (hic.2 h.next (by omega)).trans g2b
          have u4c : ic.get (h.next + 1) = some (.cells [.int .i64 0, .int .i64 0] true) := (hic.2 (h.next + 1) (by omega)).trans g4b
          have unc : h.next + 2 ≤ ic.next := Nat.le_trans hnb hic.1
          have uxc : Ext h ic := xb.trans hic
          simp [u2c, hs1', hlen1, hlen']
          clear q1 q2 q4 q7 q8
          refine inner7 115 116 112 113 2 (by decide) (by decide) rfl name (by omega) s h.next ic.next (by omega) b _ name 0 [] .nilslice _ _ rfl (by simp; omega) (Nat.le_refl _) u2c (.inl ⟨rfl, rfl⟩) (by simp) (by simp) (by simp; rfl) (by simp) (by simp) (by simp) ?_
          intro ec jc cc lc sc q1 q2 q4 q7 q8
          have g2c : jc.get h.next = some (.cells [.int .i64 b, .int .i64 s] true) := (lc.2 h.next (by omega)).trans u2c
          have g4c : jc.get (h.next + 1) = some (.cells [.int .i64 0, .int .i64 0] true) := (lc.2 (h.next + 1) (by omega)).trans u4c
          have hnc : h.next + 2 ≤ jc.next := Nat.le_trans unc lc.1
          have xc : Ext h jc := ⟨by omega, fun x hx => (lc.2 x (by omega)).trans (uxc.2 x hx)⟩
          simp only [List.nil_append] at sc
          have hrc := rowRun_filter 115 116 112 113 s name
          simp [-k_len, q1, q2, q4, q7, q8]
          refine k_len_sl sc (by simp [q8]) ?_
          simp [q1, q2, q4, q7, q8]
          by_cases hfullc : (filterRun 115 116 112 113 s name).length = name.length
          · rw [if_pos hfullc] at hrc
            have hq : ∀ o, Q (.tup [.inr [.int .i64 b, .int .i64 (filterRun 115 116 112 113 s name).length], .inl cc, .inl (.int .i64 0)]) (jc.set (h.next + 1) o) := fun o => by
              have hss : IsSl h.next (jc.set (h.next + 1) o) cc (filterRun 115 116 112 113 s name) := by
                rcases sc with hs | ⟨bk, p1, p2, p3, p4⟩
                · exact .inl hs
                · exact .inr ⟨bk, by omega, p2, p3, by rw [Hp.get_set, if_neg (by omega)]; exact p4⟩
              have := hQ cc (jc.set (h.next + 1) o) (xc.set (by omega) o) (by rw [hf, hra, hrb, hrc]; exact hss)
              rw [hf, hra, hrb, hrc] at this; exact this
            simp [-k_len, hfullc, g2c, q1, q2, q4, q7, q8]
            refine k_len_sl sc (by simp [q8]) ?_
            rcases sc with ⟨hM, rfl⟩ | ⟨bk, p1, p2, rfl, p4⟩
            · simp [g2c, g4c, q1, q2, q4, q7, q8]
              exact hq _
            · simp [g2c, g4c, q1, q2, q4, q7, q8]
              exact hq _
          · rw [if_neg hfullc] at hrc
            simp [show ¬ (((filterRun 115 116 112 113 s name).length : Int) = name.length) from by omega, q1, q2, q4, q7, q8]
            refine k_loop ?_
            simp [q1, q2, q4, q7, g4c]
            refine no 231 _ (xc.set (by omega) _) ?_
            rw [hf, hra, hrb, hrc]
end Go.Proofs.Ytmlglmfjbmiflaa.Am
