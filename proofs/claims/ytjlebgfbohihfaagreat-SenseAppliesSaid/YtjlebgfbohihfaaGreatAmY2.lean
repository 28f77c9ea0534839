/-
  The walking rules, one for each operation.
-/
import Derived.Test.YtjlebgfbohihfaaGreatAmY
namespace Go.Proofs.YtjlebgfbohihfaaGreat.Am
open Go
set_option linter.unusedVariables false
set_option linter.unusedSimpArgs false
section
variable {T : Tab} {Q : AExit → St → Prop} {k : List KI} {e : Env} {h : Hp} {df : List Cell} {d : Nat} {l : List AInstr}
def wpKO (T : Tab) (Q : AExit → St → Prop) (k : List KI) : Option St → Prop
  | some s => wpK T Q k .normal s
  | none => False
@[simp] theorem wpKO_some {s : St} : wpKO T Q k (some s) = wpK T Q k .normal s := rfl
@[simp] theorem wpKO_none : wpKO T Q k none = False := rfl
def mkP (d : Nat) (e : Env) (h : Hp) (df : List Cell) : Option AVal → Option St
  | some v => some ⟨(d, v) :: e, h, df, none⟩
  | none => none
@[simp] theorem mkP_some {v : AVal} : mkP d e h df (some v) = some ⟨(d, v) :: e, h, df, none⟩ := rfl
@[simp] theorem mkP_none : mkP d e h df none = none := rfl
theorem k_pure {op : AOp} (hc : isCall op = false) (he : effOp e h op = match pureOp e h op with | some v => .val v h | none => .stuck) : wpK T Q (.ops (o d op :: l) :: k) .normal ⟨e, h, df, none⟩ ↔
    wpKO T Q (.ops l :: k) (mkP d e h df (pureOp e h op)) := by
  rw [k_o hc, he]
  cases pureOp e h op <;> rfl
def mkN (d : Nat) (e : Env) (h : Hp) (df : List Cell) : Option (AObj × (Nat → AVal)) → Option St
  | some p => some ⟨(d, p.2 h.next) :: e, h.alloc p.1, df, none⟩
  | none => none
@[simp] theorem mkN_some {p : AObj × (Nat → AVal)} : mkN d e h df (some p) = some ⟨(d, p.2 h.next) :: e, h.alloc p.1, df, none⟩ := rfl
@[simp] theorem mkN_none : mkN d e h df none = none := rfl
theorem k_new {op : AOp} (hc : isCall op = false) (hp : ∀ h, pureOp e h op = none) (he : effOp e h op = match newOp e op with | some (o, v) => .val (v h.next) (h.alloc o) | none => match pureOp e h op with | some v => .val v h | none => .stuck) :
    wpK T Q (.ops (o d op :: l) :: k) .normal ⟨e, h, df, none⟩ ↔ wpKO T Q (.ops l :: k) (mkN d e h df (newOp e op)) := by
  rw [k_o hc, he, hp]
  cases newOp e op <;> rfl
def mkE (d : Option Nat) (e : Env) (df : List Cell) : ORes → Option St
  | .val v h => some ⟨e.put d v, h, df, none⟩
  | .skip h => some ⟨e.put d (.c .unk), h, df, none⟩
  | _ => none
@[simp] theorem mkE_val {d : Option Nat} {v : AVal} {h : Hp} : mkE d e df (.val v h) = some ⟨e.put d v, h, df, none⟩ := rfl
@[simp] theorem mkE_skip {d : Option Nat} {h : Hp} : mkE d e df (.skip h) = some ⟨e.put d (.c .unk), h, df, none⟩ := rfl
@[simp] theorem mkE_stuck {d : Option Nat} : mkE d e df .stuck = none := rfl
@[simp] theorem put_some {v : AVal} : Env.put e (some d) v = (d, v) :: e := rfl
@[simp] theorem put_none {v : AVal} : Env.put e none v = e := rfl
theorem k_eff {op : AOp} (hc : isCall op = false) (hd : ∀ c, effOp e h op ≠ .dfr c) : wpK T Q (.ops (o d op :: l) :: k) .normal ⟨e, h, df, none⟩ ↔
    wpKO T Q (.ops l :: k) (mkE (some d) e df (effOp e h op)) := by
  rw [k_o hc]
  cases he : effOp e h op <;> first | rfl | exact absurd he (hd _)
theorem k_effn {op : AOp} (hc : isCall op = false) (hd : ∀ c, effOp e h op ≠ .dfr c) : wpK T Q (.ops (Am.e op :: l) :: k) .normal ⟨e, h, df, none⟩ ↔
    wpKO T Q (.ops l :: k) (mkE none e df (effOp e h op)) := by
  rw [k_e hc]
  cases he : effOp e h op <;> first | rfl | exact absurd he (hd _)
@[simp] theorem k_mv {x : Opd} : wpK T Q (.ops (o d (.mv x) :: l) :: k) .normal ⟨e, h, df, none⟩ ↔
    wpKO T Q (.ops l :: k) (mkP d e h df (pureOp e h (.mv x))) := k_pure rfl rfl
@[simp] theorem k_pick {c : Opd} {a : Opd} {b : Opd} : wpK T Q (.ops (o d (.pick c a b) :: l) :: k) .normal ⟨e, h, df, none⟩ ↔
    wpKO T Q (.ops l :: k) (mkP d e h df (pureOp e h (.pick c a b))) := k_pure rfl rfl
@[simp] theorem k_agg {zs : List Cell} {ps : List (Nat × Nat × Opd)} : wpK T Q (.ops (o d (.agg zs ps) :: l) :: k) .normal ⟨e, h, df, none⟩ ↔
    wpKO T Q (.ops l :: k) (mkP d e h df (pureOp e h (.agg zs ps))) := k_pure rfl rfl
@[simp] theorem k_ld {x : Opd} : wpK T Q (.ops (o d (.ld x) :: l) :: k) .normal ⟨e, h, df, none⟩ ↔
    wpKO T Q (.ops l :: k) (mkP d e h df (pureOp e h (.ld x))) := k_pure rfl rfl
@[simp] theorem k_ldn {n : Nat} {x : Opd} : wpK T Q (.ops (o d (.ldn n x) :: l) :: k) .normal ⟨e, h, df, none⟩ ↔
    wpKO T Q (.ops l :: k) (mkP d e h df (pureOp e h (.ldn n x))) := k_pure rfl rfl
@[simp] theorem k_nilck {x : Opd} : wpK T Q (.ops (o d (.nilck x) :: l) :: k) .normal ⟨e, h, df, none⟩ ↔
    wpKO T Q (.ops l :: k) (mkP d e h df (pureOp e h (.nilck x))) := k_pure rfl rfl
@[simp] theorem k_bin {t : Nat} {p : BinOp} {x : Opd} {y : Opd} : wpK T Q (.ops (o d (.bin t p x y) :: l) :: k) .normal ⟨e, h, df, none⟩ ↔
    wpKO T Q (.ops l :: k) (mkP d e h df (pureOp e h (.bin t p x y))) := k_pure rfl rfl
@[simp] theorem k_eqa {n : Bool} {sk : List CK} {x : Opd} {y : Opd} : wpK T Q (.ops (o d (.eqa n sk x y) :: l) :: k) .normal ⟨e, h, df, none⟩ ↔
    wpKO T Q (.ops l :: k) (mkP d e h df (pureOp e h (.eqa n sk x y))) := k_pure rfl rfl
@[simp] theorem k_un {p : UnOp} {x : Opd} : wpK T Q (.ops (o d (.un p x) :: l) :: k) .normal ⟨e, h, df, none⟩ ↔
    wpKO T Q (.ops l :: k) (mkP d e h df (pureOp e h (.un p x))) := k_pure rfl rfl
@[simp] theorem k_convi {q : IntKind} {x : Opd} : wpK T Q (.ops (o d (.convi q x) :: l) :: k) .normal ⟨e, h, df, none⟩ ↔
    wpKO T Q (.ops l :: k) (mkP d e h df (pureOp e h (.convi q x))) := k_pure rfl rfl
@[simp] theorem k_convr {x : Opd} : wpK T Q (.ops (o d (.convr x) :: l) :: k) .normal ⟨e, h, df, none⟩ ↔
    wpKO T Q (.ops l :: k) (mkP d e h df (pureOp e h (.convr x))) := k_pure rfl rfl
@[simp] theorem k_mki {x : Opd} : wpK T Q (.ops (o d (.mki x) :: l) :: k) .normal ⟨e, h, df, none⟩ ↔
    wpKO T Q (.ops l :: k) (mkP d e h df (pureOp e h (.mki x))) := k_pure rfl rfl
@[simp] theorem k_mkf {f : Nat} {a : List Opd} {b : List Opd} : wpK T Q (.ops (o d (.mkf f a b) :: l) :: k) .normal ⟨e, h, df, none⟩ ↔
    wpKO T Q (.ops l :: k) (mkP d e h df (pureOp e h (.mkf f a b))) := k_pure rfl rfl
@[simp] theorem k_slcs {x : Opd} {lo : Option Opd} {hi : Option Opd} : wpK T Q (.ops (o d (.slcs x lo hi) :: l) :: k) .normal ⟨e, h, df, none⟩ ↔
    wpKO T Q (.ops l :: k) (mkP d e h df (pureOp e h (.slcs x lo hi))) := k_pure rfl rfl
@[simp] theorem k_slc {z : Nat} {x : Opd} {lo : Option Opd} {hi : Option Opd} {mx : Option Opd} : wpK T Q (.ops (o d (.slc z x lo hi mx) :: l) :: k) .normal ⟨e, h, df, none⟩ ↔
    wpKO T Q (.ops l :: k) (mkP d e h df (pureOp e h (.slc z x lo hi mx))) := k_pure rfl rfl
@[simp] theorem k_slca {n : Nat} {z : Nat} {x : Opd} {lo : Option Opd} {hi : Option Opd} : wpK T Q (.ops (o d (.slca n z x lo hi) :: l) :: k) .normal ⟨e, h, df, none⟩ ↔
    wpKO T Q (.ops l :: k) (mkP d e h df (pureOp e h (.slca n z x lo hi))) := k_pure rfl rfl
@[simp] theorem k_fa {n : Nat} {x : Opd} : wpK T Q (.ops (o d (.fa n x) :: l) :: k) .normal ⟨e, h, df, none⟩ ↔
    wpKO T Q (.ops l :: k) (mkP d e h df (pureOp e h (.fa n x))) := k_pure rfl rfl
@[simp] theorem k_fv {n : Nat} {z : Option Nat} {x : Opd} : wpK T Q (.ops (o d (.fv n z x) :: l) :: k) .normal ⟨e, h, df, none⟩ ↔
    wpKO T Q (.ops l :: k) (mkP d e h df (pureOp e h (.fv n z x))) := k_pure rfl rfl
@[simp] theorem k_ixa {z : Nat} {x : Opd} {i : Opd} : wpK T Q (.ops (o d (.ixa z x i) :: l) :: k) .normal ⟨e, h, df, none⟩ ↔
    wpKO T Q (.ops l :: k) (mkP d e h df (pureOp e h (.ixa z x i))) := k_pure rfl rfl
@[simp] theorem k_ixp {n : Nat} {z : Nat} {x : Opd} {i : Opd} : wpK T Q (.ops (o d (.ixp n z x i) :: l) :: k) .normal ⟨e, h, df, none⟩ ↔
    wpKO T Q (.ops l :: k) (mkP d e h df (pureOp e h (.ixp n z x i))) := k_pure rfl rfl
@[simp] theorem k_ixv {n : Nat} {z : Option Nat} {x : Opd} {i : Opd} : wpK T Q (.ops (o d (.ixv n z x i) :: l) :: k) .normal ⟨e, h, df, none⟩ ↔
    wpKO T Q (.ops l :: k) (mkP d e h df (pureOp e h (.ixv n z x i))) := k_pure rfl rfl
@[simp] theorem k_ixs {x : Opd} {i : Opd} : wpK T Q (.ops (o d (.ixs x i) :: l) :: k) .normal ⟨e, h, df, none⟩ ↔
    wpKO T Q (.ops l :: k) (mkP d e h df (pureOp e h (.ixs x i))) := k_pure rfl rfl
@[simp] theorem k_lk {ks : Bool} {z : AVal} {ok : Bool} {m : Opd} {q : Opd} : wpK T Q (.ops (o d (.lk ks z ok m q) :: l) :: k) .normal ⟨e, h, df, none⟩ ↔
    wpKO T Q (.ops l :: k) (mkP d e h df (pureOp e h (.lk ks z ok m q))) := k_pure rfl rfl
@[simp] theorem k_ext {i : Nat} {x : Opd} : wpK T Q (.ops (o d (.ext i x) :: l) :: k) .normal ⟨e, h, df, none⟩ ↔
    wpKO T Q (.ops l :: k) (mkP d e h df (pureOp e h (.ext i x))) := k_pure rfl rfl
@[simp] theorem k_len {t : Nat} {x : Opd} : wpK T Q (.ops (o d (.len t x) :: l) :: k) .normal ⟨e, h, df, none⟩ ↔
    wpKO T Q (.ops l :: k) (mkP d e h df (pureOp e h (.len t x))) := k_pure rfl rfl
@[simp] theorem k_mx {xs : List Opd} : wpK T Q (.ops (o d (.mx xs) :: l) :: k) .normal ⟨e, h, df, none⟩ ↔
    wpKO T Q (.ops l :: k) (mkP d e h df (pureOp e h (.mx xs))) := k_pure rfl rfl
@[simp] theorem k_mn {xs : List Opd} : wpK T Q (.ops (o d (.mn xs) :: l) :: k) .normal ⟨e, h, df, none⟩ ↔
    wpKO T Q (.ops l :: k) (mkP d e h df (pureOp e h (.mn xs))) := k_pure rfl rfl
@[simp] theorem k_alloc {zs : List Cell} : wpK T Q (.ops (o d (.alloc zs) :: l) :: k) .normal ⟨e, h, df, none⟩ ↔
    wpKO T Q (.ops l :: k) (mkN d e h df (newOp e (.alloc zs))) := k_new rfl (fun _ => rfl) rfl
@[simp] theorem k_box {x : Opd} : wpK T Q (.ops (o d (.box x) :: l) :: k) .normal ⟨e, h, df, none⟩ ↔
    wpKO T Q (.ops l :: k) (mkN d e h df (newOp e (.box x))) := k_new rfl (fun _ => rfl) rfl
@[simp] theorem k_mks {zs : List Cell} {n : Nat} {ps : List (Nat × Nat × Opd)} : wpK T Q (.ops (o d (.mks zs n ps) :: l) :: k) .normal ⟨e, h, df, none⟩ ↔
    wpKO T Q (.ops l :: k) (mkN d e h df (newOp e (.mks zs n ps))) := k_new rfl (fun _ => rfl) rfl
@[simp] theorem k_mkm  : wpK T Q (.ops (o d (.mkm ) :: l) :: k) .normal ⟨e, h, df, none⟩ ↔
    wpKO T Q (.ops l :: k) (mkN d e h df (newOp e (.mkm ))) := k_new rfl (fun _ => rfl) rfl
@[simp] theorem k_mksd {zs : List Cell} {b : Nat} {x : Opd} {y : Opd} : wpK T Q (.ops (o d (.mksd zs b x y) :: l) :: k) .normal ⟨e, h, df, none⟩ ↔
    wpKO T Q (.ops l :: k) (mkN d e h df (newOp e (.mksd zs b x y))) := k_new rfl (fun _ => rfl) rfl
@[simp] theorem k_rng {x : Opd} : wpK T Q (.ops (o d (.rng x) :: l) :: k) .normal ⟨e, h, df, none⟩ ↔
    wpKO T Q (.ops l :: k) (mkN d e h df (newOp e (.rng x))) := k_new rfl (fun _ => rfl) rfl
@[simp] theorem k_convb {x : Opd} : wpK T Q (.ops (o d (.convb x) :: l) :: k) .normal ⟨e, h, df, none⟩ ↔
    wpKO T Q (.ops l :: k) (mkE (some d) e df (effOp e h (.convb x))) := k_eff rfl (fun _ => by simp only [effOp, Bool.cond_eq_ite]; (repeat' split) <;> simp)
@[simp] theorem k_mdel {ks : Bool} {m : Opd} {q : Opd} : wpK T Q (.ops (o d (.mdel ks m q) :: l) :: k) .normal ⟨e, h, df, none⟩ ↔
    wpKO T Q (.ops l :: k) (mkE (some d) e df (effOp e h (.mdel ks m q))) := k_eff rfl (fun _ => by simp only [effOp, Bool.cond_eq_ite]; (repeat' split) <;> simp)
@[simp] theorem k_nxt {x : Opd} : wpK T Q (.ops (o d (.nxt x) :: l) :: k) .normal ⟨e, h, df, none⟩ ↔
    wpKO T Q (.ops l :: k) (mkE (some d) e df (effOp e h (.nxt x))) := k_eff rfl (fun _ => by simp only [effOp, Bool.cond_eq_ite]; (repeat' split) <;> simp)
@[simp] theorem k_app {z : Nat} {b : Nat} {s : Opd} {x : Opd} : wpK T Q (.ops (o d (.app z b s x) :: l) :: k) .normal ⟨e, h, df, none⟩ ↔
    wpKO T Q (.ops l :: k) (mkE (some d) e df (effOp e h (.app z b s x))) := k_eff rfl (fun _ => by simp only [effOp, Bool.cond_eq_ite]; (repeat' split) <;> simp)
@[simp] theorem k_cpy {z : Nat} {x : Opd} {y : Opd} : wpK T Q (.ops (o d (.cpy z x y) :: l) :: k) .normal ⟨e, h, df, none⟩ ↔
    wpKO T Q (.ops l :: k) (mkE (some d) e df (effOp e h (.cpy z x y))) := k_eff rfl (fun _ => by simp only [effOp, Bool.cond_eq_ite]; (repeat' split) <;> simp)
@[simp] theorem k_clr {zs : List Cell} {x : Opd} : wpK T Q (.ops (o d (.clr zs x) :: l) :: k) .normal ⟨e, h, df, none⟩ ↔
    wpKO T Q (.ops l :: k) (mkE (some d) e df (effOp e h (.clr zs x))) := k_eff rfl (fun _ => by simp only [effOp, Bool.cond_eq_ite]; (repeat' split) <;> simp)
@[simp] theorem k_st {n : Nat} {x : Opd} {y : Opd} : wpK T Q (.ops (Am.e (.st n x y) :: l) :: k) .normal ⟨e, h, df, none⟩ ↔
    wpKO T Q (.ops l :: k) (mkE none e df (effOp e h (.st n x y))) := k_effn rfl (fun _ => by simp only [effOp, Bool.cond_eq_ite]; (repeat' split) <;> simp)
@[simp] theorem k_mup {ks : Bool} {m : Opd} {q : Opd} {x : Opd} : wpK T Q (.ops (Am.e (.mup ks m q x) :: l) :: k) .normal ⟨e, h, df, none⟩ ↔
    wpKO T Q (.ops l :: k) (mkE none e df (effOp e h (.mup ks m q x))) := k_effn rfl (fun _ => by simp only [effOp, Bool.cond_eq_ite]; (repeat' split) <;> simp)
@[simp] theorem c_mv {x : Opd} : isCall (.mv x) = false := by unfold isCall; rfl
@[simp] theorem c_pick {c : Opd} {a : Opd} {b : Opd} : isCall (.pick c a b) = false := by unfold isCall; rfl
@[simp] theorem c_agg {zs : List Cell} {ps : List (Nat × Nat × Opd)} : isCall (.agg zs ps) = false := by unfold isCall; rfl
@[simp] theorem c_ld {x : Opd} : isCall (.ld x) = false := by unfold isCall; rfl
@[simp] theorem c_ldn {n : Nat} {x : Opd} : isCall (.ldn n x) = false := by unfold isCall; rfl
@[simp] theorem c_nilck {x : Opd} : isCall (.nilck x) = false := by unfold isCall; rfl
@[simp] theorem c_bin {t : Nat} {p : BinOp} {x : Opd} {y : Opd} : isCall (.bin t p x y) = false := by unfold isCall; rfl
@[simp] theorem c_eqa {n : Bool} {sk : List CK} {x : Opd} {y : Opd} : isCall (.eqa n sk x y) = false := by unfold isCall; rfl
@[simp] theorem c_un {p : UnOp} {x : Opd} : isCall (.un p x) = false := by unfold isCall; rfl
@[simp] theorem c_convi {q : IntKind} {x : Opd} : isCall (.convi q x) = false := by unfold isCall; rfl
@[simp] theorem c_convr {x : Opd} : isCall (.convr x) = false := by unfold isCall; rfl
@[simp] theorem c_mki {x : Opd} : isCall (.mki x) = false := by unfold isCall; rfl
@[simp] theorem c_mkf {f : Nat} {a : List Opd} {b : List Opd} : isCall (.mkf f a b) = false := by unfold isCall; rfl
@[simp] theorem c_slcs {x : Opd} {lo : Option Opd} {hi : Option Opd} : isCall (.slcs x lo hi) = false := by unfold isCall; rfl
@[simp] theorem c_slc {z : Nat} {x : Opd} {lo : Option Opd} {hi : Option Opd} {mx : Option Opd} : isCall (.slc z x lo hi mx) = false := by unfold isCall; rfl
@[simp] theorem c_slca {n : Nat} {z : Nat} {x : Opd} {lo : Option Opd} {hi : Option Opd} : isCall (.slca n z x lo hi) = false := by unfold isCall; rfl
@[simp] theorem c_fa {n : Nat} {x : Opd} : isCall (.fa n x) = false := by unfold isCall; rfl
@[simp] theorem c_fv {n : Nat} {z : Option Nat} {x : Opd} : isCall (.fv n z x) = false := by unfold isCall; rfl
@[simp] theorem c_ixa {z : Nat} {x : Opd} {i : Opd} : isCall (.ixa z x i) = false := by unfold isCall; rfl
@[simp] theorem c_ixp {n : Nat} {z : Nat} {x : Opd} {i : Opd} : isCall (.ixp n z x i) = false := by unfold isCall; rfl
@[simp] theorem c_ixv {n : Nat} {z : Option Nat} {x : Opd} {i : Opd} : isCall (.ixv n z x i) = false := by unfold isCall; rfl
@[simp] theorem c_ixs {x : Opd} {i : Opd} : isCall (.ixs x i) = false := by unfold isCall; rfl
@[simp] theorem c_lk {ks : Bool} {z : AVal} {ok : Bool} {m : Opd} {q : Opd} : isCall (.lk ks z ok m q) = false := by unfold isCall; rfl
@[simp] theorem c_ext {i : Nat} {x : Opd} : isCall (.ext i x) = false := by unfold isCall; rfl
@[simp] theorem c_len {t : Nat} {x : Opd} : isCall (.len t x) = false := by unfold isCall; rfl
@[simp] theorem c_mx {xs : List Opd} : isCall (.mx xs) = false := by unfold isCall; rfl
@[simp] theorem c_mn {xs : List Opd} : isCall (.mn xs) = false := by unfold isCall; rfl
@[simp] theorem c_alloc {zs : List Cell} : isCall (.alloc zs) = false := by unfold isCall; rfl
@[simp] theorem c_box {x : Opd} : isCall (.box x) = false := by unfold isCall; rfl
@[simp] theorem c_mks {zs : List Cell} {n : Nat} {ps : List (Nat × Nat × Opd)} : isCall (.mks zs n ps) = false := by unfold isCall; rfl
@[simp] theorem c_mkm  : isCall (.mkm ) = false := by unfold isCall; rfl
@[simp] theorem c_mksd {zs : List Cell} {b : Nat} {x : Opd} {y : Opd} : isCall (.mksd zs b x y) = false := by unfold isCall; rfl
@[simp] theorem c_rng {x : Opd} : isCall (.rng x) = false := by unfold isCall; rfl
@[simp] theorem c_convb {x : Opd} : isCall (.convb x) = false := by unfold isCall; rfl
@[simp] theorem c_mdel {ks : Bool} {m : Opd} {q : Opd} : isCall (.mdel ks m q) = false := by unfold isCall; rfl
@[simp] theorem c_nxt {x : Opd} : isCall (.nxt x) = false := by unfold isCall; rfl
@[simp] theorem c_app {z : Nat} {b : Nat} {s : Opd} {x : Opd} : isCall (.app z b s x) = false := by unfold isCall; rfl
@[simp] theorem c_cpy {z : Nat} {x : Opd} {y : Opd} : isCall (.cpy z x y) = false := by unfold isCall; rfl
@[simp] theorem c_clr {zs : List Cell} {x : Opd} : isCall (.clr zs x) = false := by unfold isCall; rfl
@[simp] theorem c_st {n : Nat} {x : Opd} {y : Opd} : isCall (.st n x y) = false := by unfold isCall; rfl
@[simp] theorem c_mup {ks : Bool} {m : Opd} {q : Opd} {x : Opd} : isCall (.mup ks m q x) = false := by unfold isCall; rfl
/-- A guarded instruction: where it is not wanted, its temporary holds nothing. -/
def gdI (d : Nat) (op : AOp) : Option Bool → AInstr
  | some true => o d op
  | some false => o d (.mv (.k (.tup [])))
  | none => o d .bad
@[simp] theorem gdI_t {op : AOp} : gdI d op (some true) = o d op := rfl
@[simp] theorem gdI_f {op : AOp} : gdI d op (some false) = o d (.mv (.k (.tup []))) := rfl
@[simp] theorem k_gd {op : AOp} {g : Nat × Bool} : wpK T Q (.ops (⟨some d, op, some g⟩ :: l) :: k) .normal ⟨e, h, df, none⟩ ↔
    wpK T Q (.ops (gdI d op (wanted e (some g)) :: l) :: k) .normal ⟨e, h, df, none⟩ := by
  cases hw : wanted e (some g) with
  | none =>
    constructor
    · rintro ⟨n, s', h1, h2⟩
      simp [runOps, runInstr, hw] at h1
    · rintro ⟨n, s', h1, h2⟩
      simp [gdI, o, runOps, runInstr, wanted, effOp, newOp, pureOp] at h1
  | some b =>
    cases b with
    | false =>
      rw [gdI_f, k_mv]
      constructor
      · rintro ⟨n, s', h1, h2⟩
        simp only [runOps, runInstr, hw] at h1
        exact ⟨n, s', h1, h2⟩
      · rintro ⟨n, s', h1, h2⟩
        refine ⟨n, s', ?_, h2⟩
        simp only [runOps, runInstr, hw]
        exact h1
    | true =>
      rw [gdI_t]
      constructor
      · rintro ⟨n, s', h1, h2⟩
        refine ⟨n, s', ?_, h2⟩
        simp only [runOps, runInstr, hw] at h1
        simp only [o, runOps, runInstr, wanted]
        exact h1
      · rintro ⟨n, s', h1, h2⟩
        refine ⟨n, s', ?_, h2⟩
        simp only [o, runOps, runInstr, wanted] at h1
        simp only [runOps, runInstr, hw]
        exact h1
/-- Which way a branch goes. -/
def condK (a b : ACode) : AVal → KI
  | .c (.bool true) => .code a
  | .c (.bool false) => .code b
  | _ => .code .bad
@[simp] theorem condK_t {a b : ACode} : condK a b (.c (.bool true)) = .code a := rfl
@[simp] theorem condK_f {a b : ACode} : condK a b (.c (.bool false)) = .code b := rfl
@[simp] theorem k_if {x : Opd} {a b : ACode} {rc : Option Nat} : wpK T Q (.code (.cond x a b) :: k) .normal ⟨e, h, df, rc⟩ ↔ wpK T Q (condK a b (ev e x) :: k) .normal ⟨e, h, df, rc⟩ := by
  have bad : ∀ s, ¬ wpK T Q (.code .bad :: k) .normal s := by
    rintro s ⟨n, x, s', h1, h2⟩
    cases n with
    | zero => cases h1
    | succ n => rw [exec_succ] at h1; cases h1
  rw [k_cond]
  generalize ev e x = v
  unfold condK
  split
  · rename_i t
    cases t <;> simp
  · rename_i hn
    split
    · exact absurd rfl (hn true)
    · exact absurd rfl (hn false)
    · simp [bad]
@[simp] theorem condK_exit {a b : ACode} {v : AVal} {x : AExit} {s : St} (hx : x ≠ .normal) : wpK T Q (condK a b v :: k) x s = wpK T Q k x s := by
  unfold condK
  split <;> (cases x <;> first | rfl | exact absurd rfl hx)
@[simp] theorem k_dop {ts : List Nat} {j : Nat} {op : AOp} {dl : List DIt} : wpK T Q (.dops ts (.op j (o d op) :: dl) :: k) .normal ⟨e, h, df, none⟩ ↔
    wpKO T Q (.dops ts dl :: k) (mkP d e h df (pureOp e h op)) := by
  constructor
  · rintro ⟨n, s', h1, h2⟩
    simp only [runDops, runDIt, o, wanted] at h1
    cases hp : pureOp e h op with
    | none => rw [hp] at h1; simp at h1
    | some v => rw [hp] at h1; exact ⟨n, s', h1, h2⟩
  · intro h1
    cases hp : pureOp e h op with
    | none => rw [hp] at h1; exact h1.elim
    | some v =>
      rw [hp] at h1
      obtain ⟨n, s', h1, h2⟩ := h1
      refine ⟨n, s', ?_, h2⟩
      simp only [runDops, runDIt, o, wanted, hp]
      exact h1
@[simp] theorem k_dflt {ts : List Nat} {j : Nat} {op : AOp} {re : List AInstr} {dl : List DIt} : wpK T Q (.dops ts (.flt j (o d op) re :: dl) :: k) .normal ⟨e, h, df, none⟩ ↔
    wpKO T Q (.chk re :: .dops ts dl :: k) (mkN d e h df (newOp e op)) := by
  constructor
  · rintro ⟨n, s', h1, h2⟩
    simp only [runDops, runDIt, o, Bool.cond_eq_ite] at h1
    cases hp : newOp e op with
    | none => rw [hp] at h1; simp at h1
    | some p =>
      rw [hp] at h1
      simp only at h1
      split at h1
      · rename_i s1 hs1
        split at hs1
        · rename_i hre; cases hs1; exact ⟨hre, n, s', h1, h2⟩
        · cases hs1
      · cases h1
      · cases h1
  · intro h1
    cases hp : newOp e op with
    | none => rw [hp] at h1; exact h1.elim
    | some p =>
      rw [hp] at h1
      obtain ⟨hre, n, s', h1, h2⟩ := h1
      refine ⟨n, s', ?_, h2⟩
      simp only [runDops, runDIt, o, hp]
      simp only [Env.put, hre, cond_true]
      exact h1
@[simp] theorem env_get (k : Nat) (v : AVal) (r : Env) (t : Nat) : Env.get ((k, v) :: r) t = if k = t then v else Env.get r t := by
  simp only [Env.get]; rw [nbeq, bif_decide]
attribute [simp] k_dops k_dops_nil k_deff k_chk_nil k_chk stillAll still stillP isNew k_scope k_scp k_scp_exit k_scp_ret bs k_seq k_ops k_ops_nil k_nil k_ret k_exit k_skip k_label k_block k_blk k_blk_exit k_blk_ret k_code_exit k_code_ret k_keep pureOp newOp effOp ev Env.prune params ki AVal.one AVal.cells wanted binCell intBin strBin strBin
attribute [simp] Hp.get_alloc Hp.get_set Hp.next_alloc Hp.next_set fillAt setAt storeTo retOf retVals retVal bothEq isShift unCell AVal.sum AVal.ofSum
@[simp] theorem wrap_i64 {n : Int} (h1 : -9223372036854775808 ≤ n) (h2 : n ≤ 9223372036854775807) : IntKind.i64.wrap n = n := by
  simp [IntKind.wrap, IntKind.bits, IntKind.signed]; omega
@[simp] theorem ibeq (a b : Int) : (a == b) = decide (a = b) := by rw [Bool.eq_iff_iff]; simp
@[simp] theorem ibne (a b : Int) : (a != b) = !decide (a = b) := by rw [Bool.eq_iff_iff]; simp
@[simp] theorem env_nil (t : Nat) : Env.get [] t = .c .unk := rfl
@[simp] theorem nble_s (a b : Nat) : Nat.ble a b = decide (a ≤ b) := by
  rw [Bool.eq_iff_iff, decide_eq_true_iff]; exact ⟨Nat.le_of_ble_eq_true, Nat.ble_eq_true_of_le⟩
attribute [simp] reps
@[simp] theorem nbeq_s (a b : Nat) : Nat.beq a b = decide (a = b) := nbeq a b
end
end Go.Proofs.YtjlebgfbohihfaaGreat.Am
