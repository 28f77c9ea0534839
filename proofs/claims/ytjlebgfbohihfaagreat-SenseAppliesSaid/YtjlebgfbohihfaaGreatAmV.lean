/-
  Deferred calls, calls, and the whole.
-/
import Derived.Test.YtjlebgfbohihfaaGreatAmU
namespace Go.Proofs.YtjlebgfbohihfaaGreat.Am
open Go
set_option linter.unusedVariables false
set_option linter.unusedSimpArgs false

section
variable {P : Program} {T : Tab}

theorem leave_sound {fn : AFun} {f : Nat} {F : Func} (hres : resOk P F.results.toList fn.res = true) {e : AExit} {s : St} {h : Hp} {v : AVal} (hl : leave fn e s h = some v) {ρ : Ren} {w : World} {a : Act} (hR : Rel ρ h w.heap) (hE : EnvR ρ s.env a.tmps) :
    ∃ u, (results F a.tmps).run P w = .ok u w ∧ VR ρ v u := by
  unfold leave at hl
  split at hl
  · exact results_sound hR hE hres hl
  · exact results_sound hR hE hres hl
  · simp at hl

def RunsD (P : Program) (ρ : Ren) (h : Hp) (w : World) (h' : Hp) (rc' : Nat) : Ending → FrameMode → World → Prop
  | .returned _, u', w' => ∃ ρ', Grow ρ h.next w ρ' h'.next w' ∧ Rel ρ' h' w'.heap ∧ ModeR rc' u'
  | _, _, _ => False

theorem leave_exit {fn : AFun} {e : AExit} {s : St} {h : Hp} {v : AVal} (hl : leave fn e s h = some v) : e = .normal ∨ e = .ret := by
  cases e with
  | normal => exact .inl rfl
  | ret => exact .inr rfl
  | exit id => simp [leave] at hl
  | goto l => simp [leave] at hl

theorem runDefer_sound {n : Nat} (hE : ES P T n) (hT : TabOk P T) {c : Cell} {rc : Nat} {h : Hp} {h' : Hp} {rc' : Nat} (hr : runDefer (exec T n) T c rc h = some (h', rc'))
    {ρ : Ren} {w : World} (hR : Rel ρ h w.heap) {d : Deferred} (hd : DefR ρ c d) {u : FrameMode} (hu : ModeR rc u) :
    ∃ fv cap f args, d.target = .fn fv cap ∧ (invoke d.target d.args).run P w = .ok (.enter f args) w ∧ CallsD P f args u w (RunsD P ρ h w h' rc') := by
  unfold runDefer at hr
  split at hr
  · rename_i f first caps
    obtain ⟨caps', ht, hfirst, hcaps⟩ := hd
    split at hr
    · rename_i fn hTf
      have hcode := hT.code f fn hTf
      obtain ⟨F, body, hF, hb, hname, hok, hres⟩ := hcode.is
      refine ⟨.func f, caps', f, d.args ++ caps', ht, ?_, ?_⟩
      · rw [ht]; simp only [invoke]; exact hcode.run _ _
      · have hpv : All2 (VR ρ) ((first ++ caps).map fun p => AVal.c (.ptr p.1 p.2)) (d.args ++ caps').toList := by
          rw [List.map_append, Array.toList_append]
          exact hfirst.ptr_VR.append hcaps.ptr_VR
        have hpre : ∀ r, Pre ρ { env := params 0 ((first ++ caps).map fun p => .c (.ptr p.1 p.2)), heap := h, defs := [], rc := r }
            { tmps := (d.args ++ caps') ++ Array.replicate (F.ntmps - (d.args ++ caps').size) undef, defers := [] } w := fun r => ⟨params_VR hpv, hR, trivial⟩
        have hsz : F.ntmps ≤ ((d.args ++ caps') ++ Array.replicate (F.ntmps - (d.args ++ caps').size) undef).size := by simp; omega
        simp only at hr
        split at hr
        · -- The first region asks what panics.
          rename_i dst g l b hfc
          rw [hfc] at hok
          cases body with
          | seq c1 c2 =>
            simp only [codeOk, Bool.and_eq_true] at hok
            obtain ⟨hok1, hok2⟩ := hok
            cases c1 with
            | region id ops dr =>
              cases dr with
              | true => simp [codeOk] at hok1
              | false =>
                simp only [codeOk] at hok1
                split at hr
                · rename_i s1 hs1
                  split at hr
                  · rename_i r e s hrc1 hex
                    split at hr
                    · rename_i v hdefs hlv
                      simp at hr
                      obtain ⟨rfl, rfl⟩ := hr
                      refine callsD_of_wpS hF hb fun c0 cs hc0 => ?_
                      refine wpS_seq (wpS_region ?_)
                      rw [List.range_eq_range']
                      have hc0' : c0 = { c0 with mode := u } := by rw [← hc0]
                      rw [hc0', show ops.size = ops.toList.length from by simp]
                      refine ops_wpS (P := P) (nt := F.ntmps) (ops := ops) (cs := cs) _ ops.toList 0 ρ _ _ w rc u (hpre (some rc)) rfl hu hsz hok1 (fun j o hj => by simpa using hj) s1 hs1 ?_
                      intro a' w' u' r' hpost hr' hu'
                      obtain ⟨ρ1, g1, p1, z1⟩ := hpost.pre
                      rw [hrc1] at hr'; simp at hr'; subst hr'
                      refine wpS_of_wp ?_
                      refine hE F.ntmps c2 b hok2 ρ1 { s1 with rc := none } a' w' ⟨p1.env, p1.rel, p1.defs⟩ rfl (by rw [z1]; exact hsz) _ ?_
                      rw [hex]
                      intro a2 w2 hpost2
                      obtain ⟨ρ2, g2, p2, z2⟩ := hpost2.pre
                      obtain ⟨uv, huv, _⟩ := leave_sound (P := P) (F := F) (f := f) hres hlv p2.rel p2.env
                      have hdn : a2.defers = [] := by
                        have := p2.defs.length
                        rw [hdefs] at this
                        exact List.length_eq_zero_iff.1 this.symm
                      have fin : RunsD P ρ h w s.heap r (.returned uv) u' w2 := ⟨ρ2, g1.trans g2, p2.rel, hu'⟩
                      rcases leave_exit hlv with rfl | rfl
                      · exact ⟨hdn, u', rfl, uv, huv, fin⟩
                      · exact ⟨hdn, u', rfl, uv, huv, fin⟩
                    · simp at hr
                  · simp at hr
                · simp at hr
            | _ => simp [codeOk] at hok1
          | _ => simp [codeOk] at hok
        · split at hr
          · rename_i e s hex
            split at hr
            · rename_i v hdefs hlv
              simp at hr
              obtain ⟨rfl, rfl⟩ := hr
              refine (callsD_of_wp (R := fun e w' => match e with | .returned _ => ∃ ρ', Grow ρ h.next w ρ' s.heap.next w' ∧ Rel ρ' s.heap w'.heap | _ => False) hF hb ?_).mono ?_
              · refine hE F.ntmps body fn.code hok ρ _ _ w (hpre none) rfl hsz _ ?_
                rw [hex]
                intro a2 w2 hpost2
                obtain ⟨ρ2, g2, p2, z2⟩ := hpost2.pre
                obtain ⟨uv, huv, _⟩ := leave_sound (P := P) (F := F) (f := f) hres hlv p2.rel p2.env
                have hdn : a2.defers = [] := by
                  have := p2.defs.length
                  rw [hdefs] at this
                  exact List.length_eq_zero_iff.1 this.symm
                rcases leave_exit hlv with rfl | rfl
                · exact ⟨hdn, uv, huv, ρ2, g2, p2.rel⟩
                · exact ⟨hdn, uv, huv, ρ2, g2, p2.rel⟩
              · rintro e u' w' ⟨rfl, hh⟩
                cases e with
                | returned v => obtain ⟨ρ', g, r⟩ := hh; exact ⟨ρ', g, r, hu⟩
                | panicked c => exact hh.elim
                | outgrown => exact hh.elim
            · simp at hr
          · simp at hr
    · simp at hr
  · simp at hr

theorem leaves_sound {n : Nat} (hE : ES P T n) (hT : TabOk P T) {F : Func} {tmps : Array Value} {R : Ending → World → Prop} :
    ∀ (ds : List Cell) (dfs : List Deferred) (rc : Nat) (h : Hp) (ρ : Ren) (w : World) (u : FrameMode) (h' : Hp) (rc' : Nat), runDefers (exec T n) T ds rc h = some (h', rc') → (rc = 0 ∨ rc = 1) → ModeR rc u →
      Rel ρ h w.heap → All2 (DefR ρ) ds dfs → (∀ ρ2 w2 u2, (rc' = 0 ∨ rc' = 1) → Grow ρ h.next w ρ2 h'.next w2 → Rel ρ2 h' w2.heap → ModeR rc' u2 → Leaves P F tmps R [] u2 w2) → Leaves P F tmps R dfs u w
  | [], [], rc, h, ρ, w, u, h', rc', hr, h01, hu, hR, _, hk => by
    simp [runDefers] at hr
    obtain ⟨rfl, rfl⟩ := hr
    exact hk ρ w u h01 (Grow.refl _ _ _) hR hu
  | c :: ds, d :: dfs, rc, h, ρ, w, u, h', rc', hr, h01, hu, hR, hd, hk => by
    simp only [runDefers] at hr
    split at hr
    · rename_i h1 rc1 h1r
      obtain ⟨fv, cap, f, args, ht, hi, hcall⟩ := runDefer_sound hE hT h1r hR hd.1 hu
      refine ⟨?_, fv, cap, f, args, ht, hi, hcall.mono fun e u' w' he => ?_⟩
      · rcases h01 with rfl | rfl
        · rw [show u = .returning from hu]; simp
        · obtain ⟨t, x, rfl⟩ := hu; simp
      · cases e with
        | panicked c => exact he.elim
        | outgrown => exact he.elim
        | returned v =>
          obtain ⟨ρ1, g1, R1, m1⟩ := he
          have hset : (rc1 = 0 ∨ rc1 = 1 ∨ rc1 = 2) ∧ ModeR (if rc1 = 2 then 0 else rc1) (settle u') := by
            match rc1, m1 with
            | 0, m1 => rw [show u' = .returning from m1]; exact ⟨.inl rfl, rfl⟩
            | 1, m1 => obtain ⟨t, x, rfl⟩ := m1; exact ⟨.inr (.inl rfl), t, x, rfl⟩
            | 2, m1 => obtain ⟨t, x, rfl⟩ := m1; exact ⟨.inr (.inr rfl), rfl⟩
            | _ + 3, m1 => exact m1.elim
          refine leaves_sound hE hT ds dfs _ h1 ρ1 w' (settle u') h' rc' hr ?_ hset.2 R1 (hd.2.defs_mono g1.le) fun ρ2 w2 u2 h01' g2 R2 m2 => hk ρ2 w2 u2 h01' (g1.trans g2) R2 m2
          rcases hset.1 with e | e | e <;> rw [e] <;> simp
    · simp at hr
  | [], _ :: _, _, _, _, _, _, _, _, _, _, _, _, hd, _ => hd.elim
  | _ :: _, [], _, _, _, _, _, _, _, _, _, _, _, hd, _ => hd.elim

theorem call_sound {n : Nat} (hE : ES P T n) (hT : TabOk P T) : CallSound P (callWith (exec T n) T) := by
  intro ρ h w f args vals hR hargs
  cases hcw : callWith (exec T n) T f args h with
  | stuck => trivial
  | ok v h' =>
    simp only
    unfold callWith at hcw
    split at hcw
    · rename_i fn hTf
      have hcode := hT.code f fn hTf
      obtain ⟨F, body, hF, hb, hname, hok, hres⟩ := hcode.is
      unfold CallR
      rw [hcode.run]
      simp only
      rw [Bool.cond_eq_ite] at hcw
      split at hcw
      · have hsz : F.ntmps ≤ (vals ++ Array.replicate (F.ntmps - vals.size) undef).size := by simp; omega
        refine calls_of_wp_defers hF hb (hE F.ntmps body fn.code hok ρ { env := params 0 args, heap := h, defs := [], rc := none } { tmps := vals ++ Array.replicate (F.ntmps - vals.size) undef, defers := [] } w ⟨params_VR hargs, hR, trivial⟩ rfl hsz _ ?_)
        cases hex : exec T n fn.code { env := params 0 args, heap := h, defs := [], rc := none } with
        | stuck => rw [hex] at hcw; simp at hcw
        | ok e s =>
          rw [hex] at hcw
          simp only at hcw
          intro a' w' hpost
          obtain ⟨ρ1, g1, p1, z1⟩ := hpost.pre
          unfold finish at hcw
          split at hcw
          · rename_i h2 hrd
            split at hcw
            · rename_i v' hlv
              simp at hcw
              obtain ⟨rfl, rfl⟩ := hcw
              have key : Leaves P F a'.tmps (fun e w' => ∃ ρ' u, e = Ending.returned u ∧ VR ρ' v' u ∧ After ρ h w h2 ρ' w') a'.defers .returning w' := by
                refine leaves_sound hE hT s.defs a'.defers 0 s.heap ρ1 w' .returning h2 0 hrd (.inl rfl) rfl p1.rel p1.defs ?_
                intro ρ2 w2 u2 _ g2 R2 m2
                rw [show u2 = .returning from m2]
                obtain ⟨uv, huv, hvr⟩ := leave_sound (P := P) (F := F) (f := f) hres hlv R2 (p1.env.mono g2.le)
                exact ⟨uv, huv, ρ2, uv, rfl, hvr, g1.trans g2, R2⟩
              rcases leave_exit hlv with rfl | rfl
              · exact key
              · exact key
            · simp at hcw
          · exact absurd (show CRes.stuck = _ from hcw) (by simp)
          · simp at hcw
        | panic s =>
          rw [hex] at hcw
          simp only at hcw
          intro t x a' w' hpost
          obtain ⟨ρ1, g1, p1, z1⟩ := hpost.pre
          unfold finish at hcw
          split at hcw
          · rename_i h2 hrd
            split at hcw
            · rename_i v' hlv
              simp at hcw
              obtain ⟨rfl, rfl⟩ := hcw
              refine leaves_sound hE hT s.defs a'.defers 1 s.heap ρ1 w' _ h2 0 hrd (.inr rfl) ⟨t, x, rfl⟩ p1.rel p1.defs ?_
              intro ρ2 w2 u2 _ g2 R2 m2
              rw [show u2 = .returning from m2]
              obtain ⟨uv, huv, hvr⟩ := leave_sound (P := P) (F := F) (f := f) hres hlv R2 (p1.env.mono g2.le)
              exact ⟨uv, huv, ρ2, uv, rfl, hvr, g1.trans g2, R2⟩
            · simp at hcw
          · simp at hcw
          · simp at hcw
      · simp at hcw
    · rename_i g hTf
      split at hcw
      · rename_i v' h2 hg
        simp at hcw
        obtain ⟨rfl, rfl⟩ := hcw
        exact hT.spec f g hTf ρ h w args vals hR hargs v' h2 hg
      · simp at hcw
    · simp at hcw
  | panic h' =>
    simp only
    unfold callWith at hcw
    split at hcw
    · rename_i fn hTf
      have hcode := hT.code f fn hTf
      obtain ⟨F, body, hF, hb, hname, hok, hres⟩ := hcode.is
      unfold CallR
      rw [hcode.run]
      simp only
      rw [Bool.cond_eq_ite] at hcw
      split at hcw
      · have hsz : F.ntmps ≤ (vals ++ Array.replicate (F.ntmps - vals.size) undef).size := by simp; omega
        refine calls_of_wp_defers hF hb (hE F.ntmps body fn.code hok ρ { env := params 0 args, heap := h, defs := [], rc := none } { tmps := vals ++ Array.replicate (F.ntmps - vals.size) undef, defers := [] } w ⟨params_VR hargs, hR, trivial⟩ rfl hsz _ ?_)
        cases hex : exec T n fn.code { env := params 0 args, heap := h, defs := [], rc := none } with
        | stuck => rw [hex] at hcw; simp at hcw
        | ok e s =>
          exfalso
          rw [hex] at hcw
          simp only at hcw
          unfold finish at hcw
          split at hcw
          · split at hcw <;> simp at hcw
          · exact absurd (show CRes.stuck = _ from hcw) (by simp)
          · simp at hcw
        | panic s =>
          rw [hex] at hcw
          simp only at hcw
          intro t x a' w' hpost
          obtain ⟨ρ1, g1, p1, z1⟩ := hpost.pre
          unfold finish at hcw
          split at hcw
          · split at hcw <;> simp at hcw
          · rename_i h2 hrd
            have hcw : CRes.panic h2 = CRes.panic h' := hcw
            simp at hcw
            subst hcw
            refine leaves_sound hE hT s.defs a'.defers 1 s.heap ρ1 w' _ h2 1 hrd (.inr rfl) ⟨t, x, rfl⟩ p1.rel p1.defs ?_
            intro ρ2 w2 u2 _ g2 R2 m2
            obtain ⟨t2, x2, rfl⟩ := m2
            exact ⟨ρ2, t2, x2, rfl, g1.trans g2, R2⟩
          · simp at hcw
      · simp at hcw
    · rename_i g hTf
      split at hcw <;> simp at hcw
    · simp at hcw

/-- Whatever the abstract machine reckons comes to pass. -/
theorem sound (hT : TabOk P T) : ∀ n, ES P T n ∧ LS P T n ∧ JS P T n
  | 0 => ⟨ES.zero, LS.zero, JS.zero⟩
  | n + 1 => by
    obtain ⟨hE, hL, hJ⟩ := sound hT n
    have hL' := LS.succ hE hL
    have hJ' := JS.succ hE hJ
    exact ⟨ES.succ hT.mixed (call_sound hE hT) hE hL' hJ', hL', hJ'⟩
theorem callN_sound (hT : TabOk P T) (n : Nat) : CallSound P (callN T n) := call_sound (sound hT n).1 hT
end
end Go.Proofs.YtjlebgfbohihfaaGreat.Am
