/-
  Structs and arrays held against each other: cell by cell.
-/
import Derived.Test.YtjlebgfbohihfaaGreatAmE
import Derived.ChangeKeysEq
namespace Go.Proofs.YtjlebgfbohihfaaGreat.Am
open Go
set_option linter.unusedVariables false
set_option linter.unusedSimpArgs false

def litV : Cell → Value
  | .int k n => .int k n
  | .str s => .string ⟨s.toArray⟩
  | .bool b => .bool b
  | _ => undef
theorem fits_lit {ρ : Ren} {s : CK} {c : Cell} {v : Value} (hf : s.fits c = true) (h : CR ρ c v) : v = litV c := by
  cases s <;> cases c <;> simp [CK.fits] at hf <;> exact h
theorem fitAll_length : ∀ {l : List CK} {cs : List Cell}, fitAll l cs = true → cs.length = l.length
  | [], [], _ => rfl
  | _ :: _, _ :: _, h => by simp [fitAll] at h; simp [fitAll_length h.2]
  | [], _ :: _, h => by simp [fitAll] at h
  | _ :: _, [], h => by simp [fitAll] at h
theorem fitAll_lits {ρ : Ren} : ∀ {l : List CK} {cs : List Cell} {vs : List Value}, fitAll l cs = true → All2 (CR ρ) cs vs → vs = cs.map litV
  | [], [], [], _, _ => rfl
  | _ :: _, _ :: _, _ :: _, h, h' => by
    simp [fitAll] at h
    simp only [List.map_cons]
    rw [← fits_lit h.1 h'.1, ← fitAll_lits h.2 h'.2]
  | [], _ :: _, _, h, _ => by simp [fitAll] at h
  | _ :: _, [], _, h, _ => by simp [fitAll] at h
  | _, [], _ :: _, _, h => h.elim
  | _, _ :: _, [], _, h => h.elim
theorem fitAll_split : ∀ {l1 l2 : List CK} {cs : List Cell}, fitAll (l1 ++ l2) cs = true → ∃ c1 c2, cs = c1 ++ c2 ∧ fitAll l1 c1 = true ∧ fitAll l2 c2 = true
  | [], l2, cs, h => ⟨[], cs, rfl, rfl, h⟩
  | s :: l1, l2, [], h => by simp [fitAll] at h
  | s :: l1, l2, c :: cs, h => by
    simp only [List.cons_append, fitAll, Bool.and_eq_true] at h
    obtain ⟨c1, c2, rfl, h1, h2⟩ := fitAll_split h.2
    exact ⟨c :: c1, c2, rfl, by simp [fitAll, h.1, h1], h2⟩
theorem append_decide {c1 c2 d1 d2 : List Cell} (h : c1.length = d1.length) : decide (c1 ++ c2 = d1 ++ d2) = (decide (c1 = d1) && decide (c2 = d2)) := by
  rw [Bool.eq_iff_iff]
  simp only [decide_eq_true_iff, Bool.and_eq_true]
  exact ⟨fun e => List.append_inj e h, fun ⟨a, b⟩ => by rw [a, b]⟩
def mkV (agg : Bool) (cs : List Cell) : Value := if agg then .agg (cs.map litV).toArray else match cs with | c :: _ => litV c | [] => undef
theorem fit_int {k : IntKind} {cs : List Cell} (h : fitAll [.int k] cs = true) : ∃ n, cs = [.int k n] := by
  match cs, h with
  | [c], h => cases c <;> simp [fitAll, CK.fits] at h; subst h; exact ⟨_, rfl⟩
  | [], h => simp [fitAll] at h
  | _ :: _ :: _, h => simp [fitAll] at h
theorem fit_str {cs : List Cell} (h : fitAll [.str] cs = true) : ∃ n, cs = [.str n] := by
  match cs, h with
  | [c], h => cases c <;> simp [fitAll, CK.fits] at h; exact ⟨_, rfl⟩
  | [], h => simp [fitAll] at h
  | _ :: _ :: _, h => simp [fitAll] at h
theorem fit_bool {cs : List Cell} (h : fitAll [.bool] cs = true) : ∃ n, cs = [.bool n] := by
  match cs, h with
  | [c], h => cases c <;> simp [fitAll, CK.fits] at h; exact ⟨_, rfl⟩
  | [], h => simp [fitAll] at h
  | _ :: _ :: _, h => simp [fitAll] at h
section
variable {P : Program}
def EqV (P : Program) (D : Nat) (t : TypeId) (l : List CK) : Prop := ∃ b, aggT P t = some b ∧ sizeT P t = some l.length ∧
  ∀ (w : World) (cs ds : List Cell), fitAll l cs = true → fitAll l ds = true → (Op.equalIn D t (mkV b cs) (mkV b ds)).run P w = .ok (decide (cs = ds)) w
theorem run_part {t : TypeId} {b : Bool} {l : List CK} (hb : aggT P t = some b) (hs : sizeT P t = some l.length) (h1 : b = false → l.length = 1) (w : World) (xs : Array Value) (pre cs post : List Cell)
    (hx : xs.toList = (pre ++ cs ++ post).map litV) (hf : fitAll l cs = true) : (part t xs pre.length).run P w = .ok (mkV b cs) w := by
  have hlen := fitAll_length hf
  have hxs : xs = ((pre ++ cs ++ post).map litV).toArray := by rw [← hx]
  cases b with
  | true =>
    simp only [part, Sem.run_bind, run_isAgg hb, Result.andThen_ok, if_true, run_sizeOf hs, Sem.run_pure, mkV]
    congr 2
    apply Array.ext'
    rw [hxs]
    simp [← hlen]
  | false =>
    have h1 := h1 rfl
    simp only [part, Sem.run_bind, run_isAgg hb, Result.andThen_ok, Bool.false_eq_true, if_false]
    match cs, hlen with
    | [c], _ =>
      have : xs[pre.length]? = some (litV c) := by
        rw [hxs]; simp
      simp [this, mkV]
    | [], hl => simp [h1] at hl
    | _ :: _ :: _, hl => simp [h1] at hl
theorem eqFields_skel {D : Nat} {g : TypeId → Option (List CK)} (hg : ∀ t l, g t = some l → EqV P D t l ∧ (aggT P t = some false → l.length = 1)) (xs ys : Array Value) :
    ∀ (fs : List Field) (pre pre' cs ds post post' : List Cell) (l : List CK) (w : World), skelFs g fs pre.length = some l → pre.length = pre'.length →
      xs.toList = (pre ++ cs ++ post).map litV → ys.toList = (pre' ++ ds ++ post').map litV → fitAll l cs = true → fitAll l ds = true →
      (Op.eqFields D xs ys fs).run P w = .ok (decide (cs = ds)) w
  | [], pre, pre', cs, ds, post, post', l, w, hl, _, _, _, hc, hd => by
    simp [skelFs] at hl; subst hl
    have := fitAll_length hc; have := fitAll_length hd
    simp at *; subst_vars
    simp [Op.eqFields]
  | f :: fs, pre, pre', cs, ds, post, post', l, w, hl, hp, hx, hy, hc, hd => by
    simp only [skelFs] at hl
    split at hl
    · rename_i hname
      split at hl
      · rename_i l1 hl1
        simp only [Option.map_eq_some_iff] at hl
        obtain ⟨l2, hl2, rfl⟩ := hl
        obtain ⟨⟨b, hb, hs, heq⟩, h1⟩ := hg _ _ hl1
        obtain ⟨c1, c2, rfl, hc1, hc2⟩ := fitAll_split hc
        obtain ⟨d1, d2, rfl, hd1, hd2⟩ := fitAll_split hd
        have e1 := fitAll_length hc1
        have e2 := fitAll_length hd1
        have p1 := run_part hb hs (fun hbf => h1 (hbf ▸ hb)) w xs pre c1 (c2 ++ post) (by rw [hx]; simp) hc1
        have p2 := run_part hb hs (fun hbf => h1 (hbf ▸ hb)) w ys pre' d1 (d2 ++ post') (by rw [hy]; simp) hd1
        simp only [Op.eqFields, hname.1, ne_eq, not_false_eq_true, if_true, Sem.run_bind, hname.2, p1, Result.andThen_ok]
        rw [hp, p2]
        simp only [Result.andThen_ok, heq w c1 d1 hc1 hd1]
        rw [append_decide (by omega)]
        by_cases hcd : c1 = d1
        · simp only [hcd, decide_true, Bool.not_true, Bool.false_eq_true, if_false, Bool.true_and]
          exact eqFields_skel hg xs ys fs (pre ++ c1) (pre' ++ d1) c2 d2 post post' l2 w (by simpa [e1] using hl2) (by simp [hp, e1, e2]) (by rw [hx]; simp) (by rw [hy]; simp) hc2 hd2
        · simp [hcd]
      · simp at hl
    · simp at hl
theorem eqItems_skel {D : Nat} {e : TypeId} {l1 : List CK} (hg : EqV P D e l1) (h1 : aggT P e = some false → l1.length = 1) (hcell : P.cellsOf e = l1.length) (xs ys : Array Value) :
    ∀ (m j : Nat) (pre pre' cs ds post post' : List Cell) (w : World), pre.length = j * l1.length → pre'.length = j * l1.length →
      xs.toList = (pre ++ cs ++ post).map litV → ys.toList = (pre' ++ ds ++ post').map litV → fitAll (repsK m l1) cs = true → fitAll (repsK m l1) ds = true →
      (Op.eqItems D e (P.cellsOf e) xs ys (List.range' j m)).run P w = .ok (decide (cs = ds)) w
  | 0, j, pre, pre', cs, ds, post, post', w, _, _, _, _, hc, hd => by
    have := fitAll_length hc; have := fitAll_length hd
    simp [repsK] at *; subst_vars
    simp [Op.eqItems]
  | m + 1, j, pre, pre', cs, ds, post, post', w, hp, hp', hx, hy, hc, hd => by
    simp only [repsK] at hc hd
    obtain ⟨b, hb, hs, heq⟩ := hg
    obtain ⟨c1, c2, rfl, hc1, hc2⟩ := fitAll_split hc
    obtain ⟨d1, d2, rfl, hd1, hd2⟩ := fitAll_split hd
    have e1 := fitAll_length hc1
    have e2 := fitAll_length hd1
    have p1 := run_part hb hs (fun hbf => h1 (hbf ▸ hb)) w xs pre c1 (c2 ++ post) (by rw [hx]; simp) hc1
    have p2 := run_part hb hs (fun hbf => h1 (hbf ▸ hb)) w ys pre' d1 (d2 ++ post') (by rw [hy]; simp) hd1
    rw [hp] at p1; rw [hp'] at p2
    simp only [List.range'_succ, Op.eqItems, Sem.run_bind, hcell, p1, p2, Result.andThen_ok, heq w c1 d1 hc1 hd1]
    rw [append_decide (by omega)]
    by_cases hcd : c1 = d1
    · simp only [hcd, decide_true, Bool.not_true, Bool.false_eq_true, if_false, Bool.true_and]
      have ih := eqItems_skel ⟨b, hb, hs, heq⟩ h1 hcell xs ys m (j + 1) (pre ++ c1) (pre' ++ d1) c2 d2 post post' w (by simp [hp, e1, Nat.add_mul]) (by simp [hp', e2, Nat.add_mul]) (by rw [hx]; simp) (by rw [hy]; simp) hc2 hd2
      rw [hcell] at ih
      exact ih
    · simp [hcd]
theorem repsK_length : ∀ (n : Nat) (l : List CK), (repsK n l).length = n * l.length
  | 0, _ => by simp [repsK]
  | n + 1, l => by simp [repsK, repsK_length n l, Nat.add_mul, Nat.add_comm]
theorem skel_eq : ∀ (d : Nat) (t : TypeId) (l : List CK), skel P d t = some l → ∀ D, EqV P (D + d) t l ∧ (aggT P t = some false → l.length = 1)
  | 0, _, _, h, _ => by simp [skel] at h
  | d + 1, t, l, h, D => by
    simp only [skel] at h
    split at h
    · rename_i k hu hs
      simp at h; subst h
      refine ⟨⟨false, by simp [aggT, hu], hs, ?_⟩, fun _ => rfl⟩
      intro w cs ds hc hd
      obtain ⟨n1, rfl⟩ := fit_int hc
      obtain ⟨n2, rfl⟩ := fit_int hd
      · simp only [mkV, Bool.false_eq_true, if_false, litV]
        rw [show D + (d + 1) = (D + d) + 1 from rfl, run_equalIn_int w (D + d) t k _ n1 n2 hu]
        congr 1
        rw [Bool.eq_iff_iff]; simp
    · rename_i hu hs
      simp at h; subst h
      refine ⟨⟨false, by simp [aggT, hu], hs, ?_⟩, fun _ => rfl⟩
      intro w cs ds hc hd
      obtain ⟨s1, rfl⟩ := fit_str hc
      obtain ⟨s2, rfl⟩ := fit_str hd
      · simp only [mkV, Bool.false_eq_true, if_false, litV]
        rw [show D + (d + 1) = (D + d) + 1 from rfl, run_equalIn_string w (D + d) t _ _ hu, toList_mk, toList_mk]
        congr 1
        rw [Bool.eq_iff_iff]; simp
    · rename_i hu hs
      simp at h; subst h
      refine ⟨⟨false, by simp [aggT, hu], hs, ?_⟩, fun _ => rfl⟩
      intro w cs ds hc hd
      obtain ⟨s1, rfl⟩ := fit_bool hc
      obtain ⟨s2, rfl⟩ := fit_bool hd
      · simp only [mkV, Bool.false_eq_true, if_false, litV]
        rw [show D + (d + 1) = (D + d) + 1 from rfl, run_equalIn_bool' w (D + d) t _ _ hu]
        congr 1
        rw [Bool.eq_iff_iff]; simp
    · rename_i fs n hu hs
      split at h
      · rename_i hst
        split at h
        · rename_i l' hl'
          split at h
          · rename_i hn
            simp at h; subst h
            have hat : aggT P t = some true := by simp [aggT, hu]
            refine ⟨⟨true, hat, by rw [hs, hn], ?_⟩, fun h => by rw [hat] at h; simp at h⟩
            intro w cs ds hc hd
            have hfs : P.fieldsOf t = fs := by simp [Program.fieldsOf, hu]
            simp only [mkV, if_true]
            rw [show D + (d + 1) = (D + d) + 1 from rfl, run_equalIn_struct w (D + d) t _ _ (by rw [hfs]; exact hu) hst, hfs]
            exact eqFields_skel (D := D + d) (fun t l h => skel_eq d t l h D) _ _ fs.toList [] [] cs ds [] [] l' w hl' rfl (by simp) (by simp) hc hd
          · simp at h
        · simp at h
      · simp at h
    · rename_i m e n hu hs
      split at h
      · rename_i l' hl'
        split at h
        · rename_i hn
          simp at h; subst h
          have hat : aggT P t = some true := by simp [aggT, hu]
          refine ⟨⟨true, hat, by rw [hs, repsK_length, hn], ?_⟩, fun h => by rw [hat] at h; simp at h⟩
          intro w cs ds hc hd
          obtain ⟨hg, h1⟩ := skel_eq d e l' hl' D
          obtain ⟨b, hb, hse, heq⟩ := hg
          have hse' := hse
          unfold sizeT at hse'
          simp only [Option.map_eq_some_iff] at hse'
          obtain ⟨i, hi, hil⟩ := hse'
          have hcell : P.cellsOf e = l'.length := by simp [Program.cellsOf, hi, hil]
          simp only [mkV, if_true]
          rw [show D + (d + 1) = (D + d) + 1 from rfl, run_equalIn_array w (D + d) _ _ hu hi, List.range_eq_range']
          exact eqItems_skel ⟨b, hb, hse, heq⟩ h1 hcell _ _ m 0 [] [] cs ds [] [] w (by simp) (by simp) (by simp) (by simp) hc hd
        · simp at h
      · simp at h
    · simp at h
end
end Go.Proofs.YtjlebgfbohihfaaGreat.Am
