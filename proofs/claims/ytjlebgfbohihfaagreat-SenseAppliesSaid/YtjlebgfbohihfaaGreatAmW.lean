/-
  The table of functions, and short names for its code.
-/
import Derived.Test.YtjlebgfbohihfaaGreatAmV
namespace Go.Proofs.YtjlebgfbohihfaaGreat.Am
open Go
set_option linter.unusedVariables false
set_option linter.unusedSimpArgs false

def ki (n : Int) : Opd := .k (.c (.int .i64 n))
def o (d : Nat) (op : AOp) : AInstr := ⟨some d, op, none⟩
def e (op : AOp) : AInstr := ⟨none, op, none⟩

inductive TT where
  | e
  | n (l : TT) (k : Nat) (v : AFn) (r : TT)
def TT.get : TT → Nat → Option AFn
  | .e, _ => none
  | .n l k v r, f => bif Nat.beq f k then some v else bif Nat.ble f k then l.get f else r.get f
def br (l : TT) (k : Nat) (f : AFun) (r : TT) : TT := .n l k (.code f) r
def lf (k : Nat) (f : AFun) : TT := .n .e k (.code f) .e
def TT.All (Q : Nat → AFn → Prop) : TT → Prop
  | .e => True
  | .n l k v r => l.All Q ∧ Q k v ∧ r.All Q
theorem TT.get_all {Q : Nat → AFn → Prop} : ∀ {t : TT}, t.All Q → ∀ {f : Nat} {v : AFn}, t.get f = some v → Q f v
  | .e, _, _, _, h => by simp [TT.get] at h
  | .n l k v r, ha, f, u, h => by
    simp only [TT.get] at h
    rw [nbeq, bif_decide, Bool.cond_eq_ite] at h
    split at h
    · subst_vars; simp at h; subst h; exact ha.2.1
    · split at h
      · exact TT.get_all ha.1 h
      · exact TT.get_all ha.2.2 h
def FnOk (P : Program) (f : Nat) : AFn → Prop
  | .code fn => CodeFor P f fn
  | .spec g => SpecFor P f g
theorem tabOk {P : Program} (hm : P.follows .mixedOrders = true) {t : TT} (h : t.All (FnOk P)) : TabOk P t.get :=
  ⟨hm, fun _ _ e => TT.get_all h e, fun _ _ e => TT.get_all h e⟩

def funOk (P : Program) (F : Func) (fn : AFun) : Bool :=
  match F.body with
  | some b => !(F.name == "runtime.NumGoroutine") && resOk P F.results.toList fn.res && codeOk P F.ntmps b fn.code
  | none => false
theorem CodeFor.of {P : Program} {f : Nat} {F : Func} {fn : AFun} (h1 : P.funcs[f]? = some F) (h2 : funOk P F fn = true) : CodeFor P f fn := by
  unfold funOk at h2
  split at h2
  · rename_i b hb
    simp only [Bool.and_eq_true, Bool.not_eq_true'] at h2
    exact ⟨F, b, h1, hb, h2.1.1, h2.2, h2.1.2⟩
  · simp at h2
end Go.Proofs.YtjlebgfbohihfaaGreat.Am
