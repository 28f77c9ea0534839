/-
  What only reads comes to the same in the model: all operations together.
-/
import Derived.Test.YtjlebgfbohihfaaGreatAmG
namespace Go.Proofs.YtjlebgfbohihfaaGreat.Am
open Go
set_option linter.unusedVariables false
set_option linter.unusedSimpArgs false

section
variable {P : Program} {ρ : Ren} {h : Hp} {w : World} {e : Env} {a : Act}

theorem mapM_ptrs (hE : EnvR ρ e a.tmps) : ∀ {xs : List Operand} {ys : List Opd} {ps : List (Nat × Nat)}, absOpds xs = some ys →
    (ys.mapM fun x => ptrOf (ev e x)) = some ps → All2 (ptrR ρ) ps (xs.map a.eval)
  | [], ys, ps, h1, h2 => by
    simp [absOpds] at h1; subst h1
    simp at h2; subst h2; trivial
  | x :: xs, ys, ps, h1, h2 => by
    simp only [absOpds] at h1
    split at h1
    · rename_i y ys' hy hys
      simp at h1; subst h1
      simp only [List.mapM_cons, Option.bind_eq_bind, Option.bind_eq_some_iff] at h2
      obtain ⟨p, hp, ps', hps, hr⟩ := h2
      simp at hr; subst hr
      unfold ptrOf at hp
      split at hp
      · rename_i b o hx
        simp at hp; subst hp
        have := ev_VR hE hy
        rw [hx] at this
        exact ⟨this, mapM_ptrs hE hys hps⟩
      · simp at hp
    · simp at h1

def KeyKind (ks : Bool) (kd : TypeDesc) : Prop := if ks then kd = .string else ∃ q, kd = .int q
theorem sameNow_sound {ks : Bool} {kd : TypeDesc} (hkd : KeyKind ks kd) {k q : Cell} {kv qv : Value} (hik : isKey ks k = true) (hk : CR ρ k kv) (hq : CR ρ q qv) {b : Bool} (hb : keyEq k q = some b) :
    Instr.sameNow kd kv qv = some b ∧ (b = true → CR ρ k qv) := by
  cases k <;> simp [isKey] at hik
  · subst hik
    obtain ⟨qk, rfl⟩ : ∃ q, kd = .int q := hkd
    rename_i j n
    cases q <;> simp [keyEq] at hb
    rename_i j' n'
    obtain ⟨rfl, rfl⟩ := hb
    have hk : kv = .int j n := hk
    have hq : qv = .int j n' := hq
    rw [hk, hq]
    refine ⟨by simp [Instr.sameNow], fun h => ?_⟩
    simp at h; subst h; rfl
  · subst hik
    have hkd : kd = .string := hkd
    subst hkd
    rename_i s
    cases q <;> simp [keyEq] at hb
    rename_i s'
    subst hb
    have hk : kv = .string ⟨s.toArray⟩ := hk
    have hq : qv = .string ⟨s'.toArray⟩ := hq
    rw [hk, hq]
    have : ((⟨s.toArray⟩ : ByteArray) == ⟨s'.toArray⟩) = decide (s = s') := by
      rw [beq_toListBytes, toList_mk, toList_mk, Bool.eq_iff_iff]; simp
    refine ⟨by simp only [Instr.sameNow, this], fun h => ?_⟩
    simp at h; subst h; rfl
theorem findNow_sound {ks : Bool} {kd : TypeDesc} (hkd : KeyKind ks kd) {k : Cell} {kv : Value} (hik : isKey ks k = true) (hk : CR ρ k kv) :
    ∀ {es : List (Cell × AVal)} {ES : List MapEntry} {i : Nat} {r : Option (Nat × AVal)}, All2 (fun (e : Cell × AVal) (E : MapEntry) => e.2.one = true ∧ CR ρ e.1 E.key ∧ VR ρ e.2 E.val) es ES →
      findIn k es i = some r →
      ∃ R, Instr.findNow kd kv ES i = some R ∧ (match r, R with
        | none, none => True
        | some (j, v), some (j', V) => j = j' ∧ VR ρ v V ∧ v.one = true ∧ ∃ m E, j = i + m ∧ ES[m]? = some E ∧ E.val = V ∧ CR ρ k E.key
        | _, _ => False)
  | [], [], i, r, _, hf => by
    simp [findIn] at hf; subst hf
    exact ⟨none, rfl, trivial⟩
  | (q, v) :: es, E :: ES, i, r, hall, hf => by
    simp only [findIn] at hf
    obtain ⟨⟨h1, h3, h4⟩, hrest⟩ := hall
    split at hf
    · rename_i hb
      simp at hf; subst hf
      obtain ⟨hn, hc⟩ := sameNow_sound hkd hik hk h3 hb
      exact ⟨some (i, E.val), by simp [Instr.findNow, hn], rfl, h4, h1, 0, E, by omega, rfl, rfl, hc rfl⟩
    · rename_i hb
      obtain ⟨hn, _⟩ := sameNow_sound hkd hik hk h3 hb
      obtain ⟨R, hR, hm⟩ := findNow_sound hkd hik hk (es := es) (ES := ES) (i := i + 1) hrest hf
      refine ⟨R, by simp [Instr.findNow, hn, hR], ?_⟩
      cases r with
      | none => cases R <;> exact hm
      | some p =>
        cases R with
        | none => exact hm
        | some p' =>
          obtain ⟨a1, a2, a3, m, E', a4, a5, a6, a7⟩ := hm
          exact ⟨a1, a2, a3, m + 1, E', by omega, by simpa using a5, a6, a7⟩
    · simp at hf
  | [], _ :: _, _, _, hall, _ => hall.elim
  | _ :: _, [], _, _, hall, _ => hall.elim

theorem keyKinds {k : TypeId} {ks : Bool} (hk : keyOk P k = some ks) : ∃ kd, P.underlying k = some kd ∧ KeyKind ks kd := by
  unfold keyOk at hk
  split at hk
  · rename_i q hu; simp at hk; subst hk; exact ⟨_, hu, ⟨q, rfl⟩⟩
  · rename_i hu; simp at hk; subst hk; exact ⟨_, hu, rfl⟩
  · simp at hk
theorem checkKey_run {k : TypeId} {kd : TypeDesc} {ks : Bool} (hu : P.underlying k = some kd) (hkd : KeyKind ks kd) (b : Bool) (n : Nat) (v : Value) (w : World) :
    (Instr.checkKey b (n + 1) k v).run P w = .ok () w := by
  unfold KeyKind at hkd
  split at hkd
  · subst hkd; simp [Instr.checkKey, run_underlying hu]
  · obtain ⟨q, rfl⟩ := hkd; simp [Instr.checkKey, run_underlying hu]
theorem findKey_run {k : TypeId} {kd : TypeDesc} (hu : P.underlying k = some kd) {kv : Value} {ES : List MapEntry} {R : Option (Nat × Value)} (h : Instr.findNow kd kv ES 0 = some R) (w : World) :
    (Instr.findKey k kv ES).run P w = .ok R w := by
  simp [Instr.findKey, run_underlying hu, h]

theorem sum_VR {x : AVal} (h1 : x.one = true) {v : Value} (hx : VR ρ x v) : (match x.sum with
      | .inl .unk => True
      | .inl x => CR ρ x v
      | .inr cs => ∃ b, v = .agg b ∧ All2 (CR ρ) cs b.toList : Prop) := by
  cases x with
  | c x => cases x <;> first | trivial | exact hx
  | agg cs => exact hx
  | tup xs => simp [AVal.one] at h1
theorem ofSum_VR {s : Sum Cell (List Cell)} {v : Value} (h : (match s with
      | .inl .unk => True
      | .inl x => CR ρ x v
      | .inr cs => ∃ b, v = .agg b ∧ All2 (CR ρ) cs b.toList : Prop)) : VR ρ (AVal.ofSum s) v := by
  cases s with
  | inl x => cases x <;> first | trivial | exact h
  | inr cs => exact h

theorem lk_sound (hR : Rel ρ h w.heap) {ks : Bool} {z : AVal} {ok : Bool} {m k : Opd} {mv kv : Value} {v : AVal} (hm : VR ρ (ev e m) mv) (hk : VR ρ (ev e k) kv) (hv : pureOp e h (.lk ks z ok m k) = some v)
    {t q el : TypeId} (ht : P.underlying t = some (.map q el)) (hq : keyOk P q = some ks) (hz : zval P el = some z) :
    ∃ r, (Instr.lookup t mv kv ok).run P w = .ok r w ∧ VR ρ v r := by
  obtain ⟨kd, hu, hkd⟩ := keyKinds hq
  obtain ⟨zv, hzr, hza, hz1⟩ := run_zval (P := P) hz w
  have hzv : VR ρ z zv := absVal_VR hza
  simp only [pureOp] at hv
  split at hv
  · rename_i r0 c hmx hkx
    rw [hmx] at hm; rw [hkx] at hk
    obtain ⟨r, hr, rfl⟩ := hm
    split at hv
    · rename_i es hb
      rw [Bool.cond_eq_ite] at hv
      split at hv
      · rename_i hik
        obtain ⟨ES, clock, hH, hall⟩ := hR.ob _ r _ hr hb
        have hkc : CR ρ c kv := hk.to_CR (by rintro rfl; simp [isKey] at hik)
        have hget : (getObj r.blk).run P w = .ok (.map ES clock) w := by simp [getObj, Sem.run, hH]
        split at hv
        · rename_i i vv hf
          obtain ⟨R, hRn, hmm⟩ := findNow_sound (ρ := ρ) hkd hik hkc hall hf
          cases R with
          | none => exact hmm.elim
          | some p =>
            obtain ⟨j, V⟩ := p
            obtain ⟨rfl, hVR, hone, _⟩ := hmm
            simp at hv; subst hv
            refine ⟨if ok then .tuple #[V, .bool true] else V, ?_, ?_⟩
            · simp only [Instr.lookup, Sem.run_bind, run_underlying ht, Result.andThen_ok, hget, Sem.run_pure, checkKey_run hu hkd _ 9999, findKey_run hu hRn]
            · cases ok
              · exact hVR
              · exact ⟨#[V, .bool true], rfl, sum_VR hone hVR, rfl, trivial⟩
        · rename_i hf
          obtain ⟨R, hRn, hmm⟩ := findNow_sound (ρ := ρ) hkd hik hkc hall hf
          cases R with
          | some p => exact hmm.elim
          | none =>
            simp at hv; subst hv
            refine ⟨if ok then .tuple #[zv, .bool false] else zv, ?_, ?_⟩
            · simp only [Instr.lookup, Sem.run_bind, run_underlying ht, Result.andThen_ok, hget, Sem.run_pure, checkKey_run hu hkd _ 9999, findKey_run hu hRn, hzr]
            · cases ok
              · exact hzv
              · exact ⟨#[zv, .bool false], rfl, sum_VR hz1 hzv, rfl, trivial⟩
        · simp at hv
      · simp at hv
    · simp at hv
  · rename_i c hmx hkx
    rw [hmx] at hm; rw [hkx] at hk
    have hm : mv = .map none := hm
    subst hm
    rw [Bool.cond_eq_ite] at hv
    split at hv
    · simp at hv; subst hv
      have hRn : Instr.findNow kd kv [] 0 = some none := rfl
      refine ⟨if ok then .tuple #[zv, .bool false] else zv, ?_, ?_⟩
      · simp only [Instr.lookup, Sem.run_bind, run_underlying ht, Result.andThen_ok, Sem.run_pure, checkKey_run hu hkd _ 9999, findKey_run hu hRn, hzr]
      · cases ok
        · exact hzv
        · exact ⟨#[zv, .bool false], rfl, sum_VR hz1 hzv, rfl, trivial⟩
    · simp at hv
  · simp at hv
end
end Go.Proofs.YtjlebgfbohihfaaGreat.Am
