/-
  Every operation, whatever it does.
-/
import Derived.Test.YtjlebgfbohihfaaGreatAmL
namespace Go.Proofs.YtjlebgfbohihfaaGreat.Am
open Go
set_option linter.unusedVariables false
set_option linter.unusedSimpArgs false

section
variable {P : Program} {ρ : Ren} {h : Hp} {w : World} {e : Env} {a : Act}

def DefR (ρ : Ren) : Cell → Deferred → Prop
  | .fn f first caps, d => ∃ caps', d.target = .fn (.func f) caps' ∧ All2 (ptrR ρ) first d.args.toList ∧ All2 (ptrR ρ) caps caps'.toList
  | .map r, d => d = { target := .collected r, args := #[] }
  | _, _ => False
theorem DefR.mono {ρ ρ' : Ren} (hle : ρ.le ρ') {c : Cell} {d : Deferred} (h : DefR ρ c d) : DefR ρ' c d := by
  cases c with
  | map r => exact h
  | fn f first caps =>
    obtain ⟨caps', h1, h2, h3⟩ := h
    exact ⟨caps', h1, h2.mono fun _ _ => ptrR.mono hle, h3.mono fun _ _ => ptrR.mono hle⟩
  | _ => exact h.elim

def EffR (P : Program) (ρ : Ren) (h : Hp) (w : World) (s : Sem Next) : ORes → Prop
  | .val v h' => ∃ u w' ρ', s.run P w = .ok (.value u) w' ∧ After ρ h w h' ρ' w' ∧ VR ρ' v u
  | .skip h' => ∃ w' ρ', s.run P w = .ok .skip w' ∧ After ρ h w h' ρ' w'
  | .call f args => ∃ vals : Array Value, s.run P w = (callFunc f vals).run P w ∧ All2 (VR ρ) args vals.toList
  | .dfr c => ∃ d, s.run P w = .ok (.defer d) w ∧ DefR ρ c d
  | .rcv => s.run P w = .ok .recover w
  | .pan => ∃ t x, s.run P w = .halt (.panic (.iface t x)) w
  | .stuck => True

theorem default_sound (hR : Rel ρ h w.heap) (hE : EnvR ρ e a.tmps) {o : Oper} {op : AOp} (ho : absOp P o.op = some op) :
    EffR P ρ h w (execOp a.eval o) (match newOp e op with
    | some (ob, v) => .val (v h.next) (h.alloc ob)
    | none => match pureOp e h op with
      | some v => .val v h
      | none => .stuck) := by
  split
  · rename_i ob f hn
    obtain ⟨u, O, r, hrun, hr, hor, hvr, hnd⟩ := new_sound (w := w) hE ho hn
    have hle := Ren.add_le (n := h.next) (r := r) hR.fresh
    refine ⟨u, _, ρ.add h.next r, hrun, ⟨Grow.alloc hR hr rfl rfl rfl rfl, hR.alloc hr rfl (hor _ hle _ (by simp))⟩, hvr _ _ (Ren.add_same _ _ _)⟩
  · split
    · rename_i v hp
      obtain ⟨u, hrun, hvr⟩ := pure_sound hR hE ho hp
      exact ⟨u, w, ρ, hrun, ⟨Grow.refl _ _ _, hR⟩, hvr⟩
    · trivial

theorem skip_run {s : Sem Unit} {w' : World} (hs : s.run P w = .ok () w') : (do s; pure Next.skip : Sem Next).run P w = .ok .skip w' := by simp [hs]

theorem All2.ptr_VR {ps : List (Nat × Nat)} {vs : List Value} (h : All2 (ptrR ρ) ps vs) : All2 (VR ρ) (ps.map fun p => AVal.c (.ptr p.1 p.2)) vs := by
  have := h.map (S := VR ρ) (fun p : Nat × Nat => AVal.c (.ptr p.1 p.2)) (fun v => v) (fun a b hab => hab)
  simpa using this

theorem callv_sound (hE : EnvR ρ e a.tmps) {x : Operand} {xs : Array Operand} {y : Opd} {ys : List Opd} (hy : absOpd x = some y) (hys : absOpds xs.toList = some ys) {ats : Array TypeId} {dst : Option Tmp} {type : TypeId} {pos : String} {after : Array Edge} {guard : Option (Nat × Bool)} :
    EffR P ρ h w (execOp a.eval ⟨dst, .call ⟨.value x, xs, ats⟩, type, pos, after, guard⟩) (effOp e h (.callv y ys)) := by
  have hxv := ev_VR hE hy
  have hargs := absOpds_VR hE hys
  simp only [effOp]
  split
  · rename_i f first caps hxe
    rw [hxe] at hxv
    obtain ⟨A, C, hv, hA, hC⟩ := hxv
    refine ⟨A ++ xs.map a.eval ++ C, ?_, ?_⟩
    · simp [execOp, resolve, hv, Deferred.ofValue, invoke]
    · rw [Array.toList_append, Array.toList_append, Array.toList_map]
      exact (hA.ptr_VR.append hargs).append hC.ptr_VR
  · trivial

theorem eff_sound (hR : Rel ρ h w.heap) (hE : EnvR ρ e a.tmps) {o : Oper} {op : AOp} (ho : absOp P o.op = some op) : EffR P ρ h w (execOp a.eval o) (effOp e h op) := by
  have hdef := default_sound hR hE ho
  obtain ⟨dst, oop, type, pos, after, guard⟩ := o
  simp only at ho
  cases oop with
  | store t x y =>
    simp only [absOp] at ho
    split at ho
    · rename_i n x' y' hn hx hy
      simp at ho; subst ho
      have hxv := ev_VR hE hx
      have hyv := ev_VR hE hy
      cases hs : effOp e h (.st n x' y') with
      | skip h' =>
        obtain ⟨w', hrun, hA⟩ := st_sound (P := P) hR hxv hyv hs hn
        exact ⟨w', ρ, skip_run hrun, hA⟩
      | stuck => trivial
      | _ => simp only [effOp] at hs; (repeat' split at hs) <;> (try (rw [Bool.cond_eq_ite] at hs)) <;> (repeat' split at hs) <;> (try (rw [Bool.cond_eq_ite] at hs)) <;> (repeat' split at hs) <;> simp at hs
    · simp at ho
  | convert s d x =>
    simp only [absOp] at ho
    split at ho
    · simp at ho; subst ho; exact hdef
    · simp at ho; subst ho; exact hdef
    · rename_i el x' hs hd hx
      split at ho
      · rename_i he
        simp at ho; subst ho
        have hxv := ev_VR hE hx
        cases hv : effOp e h (.convb x') with
        | val v h' =>
          obtain ⟨r, w', ρ', hrun, hA, hvr⟩ := convb_sound (P := P) hR hxv hv hs hd he
          exact ⟨r, w', ρ', val_run hrun, hA, hvr⟩
        | stuck => trivial
        | _ => simp only [effOp] at hv; split at hv <;> simp at hv
      · simp at ho
    · simp at ho
  | insert t m k v =>
    simp only [absOp] at ho
    split at ho
    · rename_i q el m' k' v' hu hm hk hv
      simp only [Option.map_eq_some_iff] at ho
      obtain ⟨ks, hks, rfl⟩ := ho
      cases hs : effOp e h (.mup ks m' k' v') with
      | skip h' =>
        obtain ⟨w', hrun, hA⟩ := mup_sound (P := P) hR (ev_VR hE hm) (ev_VR hE hk) (ev_VR hE hv) hs hu hks
        exact ⟨w', ρ, skip_run hrun, hA⟩
      | stuck => trivial
      | _ => simp only [effOp] at hs; (repeat' split at hs) <;> (try (rw [Bool.cond_eq_ite] at hs)) <;> (repeat' split at hs) <;> simp at hs
    · simp at ho
  | mapUpdate t m k v =>
    simp only [absOp] at ho
    split at ho
    · rename_i q el m' k' v' hu hm hk hv
      simp only [Option.map_eq_some_iff] at ho
      obtain ⟨ks, hks, rfl⟩ := ho
      cases hs : effOp e h (.mup ks m' k' v') with
      | skip h' =>
        obtain ⟨w', hrun, hA⟩ := mup_sound (P := P) hR (ev_VR hE hm) (ev_VR hE hk) (ev_VR hE hv) hs hu hks
        exact ⟨w', ρ, skip_run hrun, hA⟩
      | stuck => trivial
      | _ => simp only [effOp] at hs; (repeat' split at hs) <;> (try (rw [Bool.cond_eq_ite] at hs)) <;> (repeat' split at hs) <;> simp at hs
    · simp at ho
  | next x s =>
    cases s with
    | true =>
      simp only [absOp, Option.map_eq_some_iff] at ho
      obtain ⟨y, hy, rfl⟩ := ho
      cases hv : effOp e h (.nxt y) with
      | val v h' =>
        obtain ⟨r, w', hrun, hA, hvr⟩ := nxt_sound (P := P) hR (ev_VR hE hy) hv type
        exact ⟨r, w', ρ, val_run hrun, hA, hvr⟩
      | stuck => trivial
      | _ => simp only [effOp] at hv; (repeat' split at hv) <;> simp at hv
    | false => simp [absOp] at ho
  | defer c =>
    obtain ⟨callee, args, ats⟩ := c
    simp only [absOp] at ho
    split at ho
    · rename_i v _ hargs
      simp only [Option.map_eq_some_iff] at ho
      obtain ⟨y, hy, rfl⟩ := ho
      have hxv := ev_VR hE hy
      simp only [effOp]
      split
      · rename_i f first caps hxe
        rw [hxe] at hxv
        obtain ⟨A, C, hv, hA, hC⟩ := hxv
        have hargs0 : args = #[] := by apply Array.ext'; simpa using hargs
        subst hargs0
        exact ⟨{ target := .fn (.func f) C, args := A }, by simp [execOp, resolve, hv, Deferred.ofValue], C, rfl, hA, hC⟩
      · trivial
    · simp at ho
  | panic x =>
    simp only [absOp, Option.map_eq_some_iff] at ho
    obtain ⟨y, hy, rfl⟩ := ho
    have hxv := ev_VR hE hy
    simp only [effOp]
    split
    · rename_i hxe
      rw [hxe] at hxv
      obtain ⟨t, v, hv⟩ := hxv
      exact ⟨t, v, by simp [execOp, Instr.panic, hv]⟩
    · trivial
  | call c =>
    obtain ⟨callee, args, ats⟩ := c
    simp only [absOp, absCall] at ho
    split at ho
    · rename_i f
      simp only [Option.map_eq_some_iff] at ho
      obtain ⟨ys, hys, rfl⟩ := ho
      refine ⟨args.map a.eval, ?_, ?_⟩
      · simp [execOp, resolve, Act.eval, Deferred.ofValue, invoke]
      · rw [Array.toList_map]; exact absOpds_VR hE hys
    · split at ho
      · rename_i y ys hy hys
        simp at ho; subst ho
        exact callv_sound hE hy hys
      · simp at ho
    · simp at ho
    · rename_i bi
      split at ho
      · -- len
        split at ho
        · simp only [Option.map_eq_some_iff] at ho
          obtain ⟨y, hy, rfl⟩ := ho; exact hdef
        · simp only [Option.map_eq_some_iff] at ho
          obtain ⟨y, hy, rfl⟩ := ho; exact hdef
        · simp only [Option.map_eq_some_iff] at ho
          obtain ⟨y, hy, rfl⟩ := ho; exact hdef
        · simp at ho
      · rename_i t u s x hat hax
        obtain rfl : ats = #[t, u] := by apply Array.ext'; simpa using hat
        obtain rfl : args = #[s, x] := by apply Array.ext'; simpa using hax
        split at ho
        · rename_i el eu s' x' ht hu hs hx
          split at ho
          · rename_i zs bytes hz hb
            split at ho
            · rename_i hpos
              simp at ho; subst ho
              have hsv := ev_VR hE hs
              have hxv := ev_VR hE hx
              simp only [effOp]
              split
              · rename_i c d hce hde
                rw [hce] at hsv; rw [hde] at hxv
                split
                · rename_i v h' hv
                  have hcu : c ≠ .unk := by rintro rfl; simp [appOp, lenCell] at hv
                  have hdu : d ≠ .unk := by
                    rintro rfl
                    unfold appOp at hv
                    simp [lenCell] at hv
                  obtain ⟨r, w', ρ', hrun, hA, hvr⟩ := app_sound (P := P) (ty := type) hR (hsv.to_CR hcu) (hxv.to_CR hdu) hv ht hu hz rfl hpos hb
                  refine ⟨r, w', ρ', ?_, hA, hvr⟩
                  exact val_run (s := Builtin.append_ #[t, u] type (#[s, x].map a.eval)) (by simpa using hrun)
                · trivial
              · trivial
            · simp at ho
          · simp at ho
        · simp at ho
      · rename_i t u s x hat hax
        obtain rfl : ats = #[t, u] := by apply Array.ext'; simpa using hat
        obtain rfl : args = #[s, x] := by apply Array.ext'; simpa using hax
        split at ho
        · rename_i el eu s' x' ht hu hs hx
          split at ho
          · rename_i size hsz
            simp at ho; subst ho
            cases hv : effOp e h (.cpy size s' x') with
            | val v h' =>
              obtain ⟨r, w', hrun, hA, hvr⟩ := cpy_sound (P := P) (u := u) (eu := eu) (ty := type) hR (ev_VR hE hs) (ev_VR hE hx) hv ht hsz
              refine ⟨r, w', ρ, ?_, hA, hvr⟩
              exact val_run (s := Builtin.copy_ #[t, u] type (#[s, x].map a.eval)) (by simpa using hrun)
            | stuck => trivial
            | _ => simp only [effOp] at hv; (repeat' split at hv) <;> simp at hv
          · simp at ho
        · simp at ho
      · rename_i t x hat hax
        obtain rfl : ats = #[t] := by apply Array.ext'; simpa using hat
        obtain rfl : args = #[x] := by apply Array.ext'; simpa using hax
        split at ho
        · rename_i el x' ht hx
          split at ho
          · rename_i zs hz
            split at ho
            · rename_i hpos
              simp at ho; subst ho
              cases hv : effOp e h (.clr zs x') with
              | val v h' =>
                obtain ⟨r, w', hrun, hA, hvr⟩ := clr_sound (P := P) (ty := type) hR (ev_VR hE hx) hv ht hz hpos
                refine ⟨r, w', ρ, ?_, hA, hvr⟩
                exact val_run (s := Builtin.clear_ #[t] type (#[x].map a.eval)) (by simpa using hrun)
              | stuck => trivial
              | _ => simp only [effOp] at hv; (repeat' split at hv) <;> simp at hv
            · simp at ho
          · simp at ho
        · simp at ho
      · rename_i t t2 m k hat hax
        obtain rfl : ats = #[t, t2] := by apply Array.ext'; simpa using hat
        obtain rfl : args = #[m, k] := by apply Array.ext'; simpa using hax
        split at ho
        · rename_i q el m' k' ht hm hk
          simp only [Option.map_eq_some_iff] at ho
          obtain ⟨ks, hks, rfl⟩ := ho
          cases hv : effOp e h (.mdel ks m' k') with
          | val v h' =>
            obtain ⟨r, w', hrun, hA, hvr⟩ := mdel_sound (P := P) (t2 := t2) (ty := type) hR (ev_VR hE hm) (ev_VR hE hk) hv ht hks
            refine ⟨r, w', ρ, ?_, hA, hvr⟩
            exact val_run (s := Builtin.delete_ #[t, t2] type (#[m, k].map a.eval)) (by simpa using hrun)
          | stuck => trivial
          | _ => simp only [effOp] at hv; (repeat' split at hv) <;> (try (rw [Bool.cond_eq_ite] at hv)) <;> (repeat' split at hv) <;> simp at hv
        · simp at ho
      · simp only [Option.map_eq_some_iff] at ho
        obtain ⟨ys, hys, rfl⟩ := ho; exact hdef
      · simp only [Option.map_eq_some_iff] at ho
        obtain ⟨ys, hys, rfl⟩ := ho; exact hdef
      · simp at ho; subst ho
        rename_i hax
        obtain rfl : args = #[] := by apply Array.ext'; simpa using hax
        show (execOp a.eval _).run P w = _
        simp [execOp, resolve, invoke, builtin]
      · simp at ho
  | makeFunc fn first caps =>
    cases fn with
    | func g =>
      simp only [absOp] at ho
      split at ho
      · simp at ho; subst ho; exact hdef
      · simp at ho
    | _ => simp [absOp] at ho
  | makeMap t r =>
    cases r with
    | none => simp [absOp] at ho; subst ho; exact hdef
    | some r => simp [absOp] at ho
  | move x => simp only [absOp, Option.map_eq_some_iff] at ho; obtain ⟨y, _, rfl⟩ := ho; exact hdef
  | assign x => simp only [absOp, Option.map_eq_some_iff] at ho; obtain ⟨y, _, rfl⟩ := ho; exact hdef
  | _ =>
    simp only [absOp] at ho
    (repeat' split at ho) <;> (first | (simp at ho; done) | (simp only [Option.map_eq_some_iff] at ho; obtain ⟨y, _, rfl⟩ := ho; exact hdef) | (simp at ho; subst ho; exact hdef))
end
end Go.Proofs.YtjlebgfbohihfaaGreat.Am
