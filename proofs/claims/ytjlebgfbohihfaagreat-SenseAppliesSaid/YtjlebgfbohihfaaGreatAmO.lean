/-
  What an operation looks at: the temporaries that its operands name, and nothing else.
-/
import Derived.Test.YtjlebgfbohihfaaGreatAmN
namespace Go.Proofs.YtjlebgfbohihfaaGreat.Am
open Go
set_option linter.unusedVariables false
set_option linter.unusedSimpArgs false

def otemps : Opd → List Nat
  | .t n => [n]
  | _ => []
def ptemps (l : List Opd) : List Nat := l.flatMap otemps
def oo (x : Option Opd) : List Nat := match x with | some y => otemps y | none => []
def atemps : AOp → List Nat
  | .mv x => otemps x
  | .pick c a b => otemps c ++ (otemps a ++ otemps b)
  | .alloc _ => []
  | .box x => otemps x
  | .agg _ ps => ps.flatMap fun p => otemps p.2.2
  | .mks _ _ ps => ps.flatMap fun p => otemps p.2.2
  | .ld x => otemps x
  | .ldn _ x => otemps x
  | .st _ x v => otemps x ++ otemps v
  | .nilck x => otemps x
  | .bin _ _ x y => otemps x ++ otemps y
  | .eqa _ _ x y => otemps x ++ otemps y
  | .un _ x => otemps x
  | .convi _ x => otemps x
  | .convr x => otemps x
  | .convb x => otemps x
  | .mki x => otemps x
  | .mkf _ a b => ptemps a ++ ptemps b
  | .mkm => []
  | .mksd _ _ l c => otemps l ++ otemps c
  | .slcs x lo hi => otemps x ++ (oo lo ++ oo hi)
  | .slc _ x lo hi mx => otemps x ++ (oo lo ++ (oo hi ++ oo mx))
  | .slca _ _ x lo hi => otemps x ++ (oo lo ++ oo hi)
  | .fa _ x => otemps x
  | .fv _ _ x => otemps x
  | .ixa _ x i => otemps x ++ otemps i
  | .ixp _ _ x i => otemps x ++ otemps i
  | .ixv _ _ x i => otemps x ++ otemps i
  | .ixs x i => otemps x ++ otemps i
  | .lk _ _ _ m k => otemps m ++ otemps k
  | .mup _ m k v => otemps m ++ (otemps k ++ otemps v)
  | .mdel _ m k => otemps m ++ otemps k
  | .rng x => otemps x
  | .nxt x => otemps x
  | .ext _ x => otemps x
  | .len _ x => otemps x
  | .app _ _ s x => otemps s ++ otemps x
  | .cpy _ d s => otemps d ++ otemps s
  | .clr _ x => otemps x
  | .mx xs => ptemps xs
  | .mn xs => ptemps xs
  | .rcv => []
  | .call _ args => ptemps args
  | .callv x args => otemps x ++ ptemps args
  | .dfr x => otemps x
  | .pnc x => otemps x
  | .bad => []

def SameOn (e e' : Env) (l : List Nat) : Prop := ∀ t ∈ l, e.get t = e'.get t
theorem SameOn.left {e e' : Env} {l m : List Nat} (h : SameOn e e' (l ++ m)) : SameOn e e' l := fun t ht => h t (by simp [ht])
theorem SameOn.right {e e' : Env} {l m : List Nat} (h : SameOn e e' (l ++ m)) : SameOn e e' m := fun t ht => h t (by simp [ht])
theorem ev_congr {e e' : Env} {x : Opd} (h : SameOn e e' (otemps x)) : ev e x = ev e' x := by
  cases x with
  | t n => exact h n (by simp [otemps])
  | _ => rfl
theorem map_ev_congr {e e' : Env} : ∀ {l : List Opd}, SameOn e e' (ptemps l) → l.map (ev e) = l.map (ev e')
  | [], _ => rfl
  | x :: l, h => by
    have h : SameOn e e' (otemps x ++ ptemps l) := h
    simp only [List.map_cons, ev_congr h.left, map_ev_congr h.right]
theorem fillAt_congr {e e' : Env} : ∀ {l : List (Nat × Nat × Opd)} {cs : List Cell}, SameOn e e' (l.flatMap fun p => otemps p.2.2) → fillAt e cs l = fillAt e' cs l
  | [], _, _ => rfl
  | (off, size, x) :: l, cs, h => by
    have h : SameOn e e' (otemps x ++ l.flatMap fun p => otemps p.2.2) := h
    simp only [fillAt, ev_congr h.left]
    rw [Bool.cond_eq_ite, Bool.cond_eq_ite]
    split
    · exact fillAt_congr h.right
    · rfl
theorem ptrs_congr {e e' : Env} : ∀ {l : List Opd}, SameOn e e' (ptemps l) →
    (l.mapM fun x => ptrOf (ev e x)) = (l.mapM fun x => ptrOf (ev e' x))
  | [], _ => rfl
  | x :: l, h => by
    have h : SameOn e e' (otemps x ++ ptemps l) := h
    simp only [List.mapM_cons, ev_congr h.left, ptrs_congr h.right]
theorem bnd_congr {e e' : Env} {x : Opd} (h : SameOn e e' (otemps x)) (m : Nat) : bnd e x m = bnd e' x m := by unfold bnd; rw [ev_congr h]
theorem bndO_congr {e e' : Env} {x : Option Opd} (h : SameOn e e' (oo x)) (m d : Nat) : bndO e x m d = bndO e' x m d := by
  cases x with
  | none => rfl
  | some y => exact bnd_congr h m
theorem bndH_congr {e e' : Env} {x : Option Opd} (h : SameOn e e' (oo x)) (mx : Option Opd) (m d : Nat) : bndH e x mx m d = bndH e' x mx m d := by
  cases x with
  | none => rfl
  | some y => exact bnd_congr h m
theorem fold_congr {e e' : Env} (f : Int → Int → Int) : ∀ {l : List Opd} {acc : AVal}, SameOn e e' (ptemps l) →
    (l.foldlM (fun a y => match a, ev e y with | .c (.int k p), .c (.int _ q) => some (.c (.int k (f p q))) | _, _ => none) acc : Option AVal) =
    l.foldlM (fun a y => match a, ev e' y with | .c (.int k p), .c (.int _ q) => some (.c (.int k (f p q))) | _, _ => none) acc
  | [], _, _ => rfl
  | x :: l, acc, h => by
    have h : SameOn e e' (otemps x ++ ptemps l) := h
    simp only [List.foldlM_cons, ev_congr h.left]
    congr 1
    funext b
    exact fold_congr f h.right

theorem pureOp_congr {e e' : Env} {hp : Hp} {op : AOp} (h : SameOn e e' (atemps op)) : pureOp e hp op = pureOp e' hp op := by
  cases op with
  | pick c a b => simp only [pureOp]; simp only [atemps] at h; rw [ev_congr h.left, ev_congr h.right.left, ev_congr h.right.right]
  | agg zs ps => simp only [pureOp, fillAt_congr (cs := zs) h]
  | mkf f a b => simp only [pureOp]; simp only [atemps] at h; rw [ptrs_congr h.left, ptrs_congr h.right]
  | slcs x lo hi =>
    simp only [pureOp]; simp only [atemps] at h
    rw [ev_congr h.left]
    have h1 := fun m d => bndO_congr h.right.left m d
    have h2 := fun m d => bndO_congr h.right.right m d
    simp only [h1, h2]
  | slc sz x lo hi mx =>
    simp only [pureOp]; simp only [atemps] at h
    rw [ev_congr h.left]
    have h1 := fun m d => bndO_congr h.right.left m d
    have h2 := fun m d => bndH_congr h.right.right.left mx m d
    have h3 := fun m d => bndO_congr h.right.right.right m d
    simp only [h1, h2, h3]
  | slca n sz x lo hi =>
    simp only [pureOp]; simp only [atemps] at h
    rw [ev_congr h.left]
    have h1 := fun m d => bndO_congr h.right.left m d
    have h2 := fun m d => bndO_congr h.right.right m d
    simp only [h1, h2]
  | mx xs =>
    cases xs with
    | nil => rfl
    | cons x xs =>
      have h : SameOn e e' (otemps x ++ ptemps xs) := h
      simp only [pureOp, ev_congr h.left]
      exact fold_congr (fun p q => if q > p then q else p) h.right
  | mn xs =>
    cases xs with
    | nil => rfl
    | cons x xs =>
      have h : SameOn e e' (otemps x ++ ptemps xs) := h
      simp only [pureOp, ev_congr h.left]
      exact fold_congr (fun p q => if q < p then q else p) h.right
  | mv x => simp only [pureOp, ev_congr (x := x) h]
  | ld x => simp only [pureOp, ev_congr (x := x) h]
  | ldn n x => simp only [pureOp, ev_congr (x := x) h]
  | nilck x => simp only [pureOp, ev_congr (x := x) h]
  | un u x => simp only [pureOp, ev_congr (x := x) h]
  | convi k x => simp only [pureOp, ev_congr (x := x) h]
  | convr x => simp only [pureOp, ev_congr (x := x) h]
  | mki x => simp only [pureOp, ev_congr (x := x) h]
  | fa o x => simp only [pureOp, ev_congr (x := x) h]
  | fv o n x => simp only [pureOp, ev_congr (x := x) h]
  | ext i x => simp only [pureOp, ev_congr (x := x) h]
  | len t x => simp only [pureOp, ev_congr (x := x) h]
  | bin t o x y => simp only [atemps] at h; simp only [pureOp, ev_congr h.left, ev_congr h.right]
  | eqa t o x y => simp only [atemps] at h; simp only [pureOp, ev_congr h.left, ev_congr h.right]
  | ixa t x y => simp only [atemps] at h; simp only [pureOp, ev_congr h.left, ev_congr h.right]
  | ixp t o x y => simp only [atemps] at h; simp only [pureOp, ev_congr h.left, ev_congr h.right]
  | ixv t o x y => simp only [atemps] at h; simp only [pureOp, ev_congr h.left, ev_congr h.right]
  | ixs x y => simp only [atemps] at h; simp only [pureOp, ev_congr h.left, ev_congr h.right]
  | lk ks z ok x y => simp only [atemps] at h; simp only [pureOp, ev_congr h.left, ev_congr h.right]
  | _ => rfl
theorem newOp_congr {e e' : Env} {op : AOp} (h : SameOn e e' (atemps op)) : newOp e op = newOp e' op := by
  cases op with
  | box x => simp only [newOp, ev_congr (x := x) h]
  | mks zs len ps => simp only [newOp, fillAt_congr (cs := reps len zs) h]
  | mksd zs b x y => simp only [atemps] at h; simp only [newOp, ev_congr h.left, ev_congr h.right]
  | rng x => simp only [newOp, ev_congr (x := x) h]
  | _ => rfl
theorem effOp_congr {e e' : Env} {hp : Hp} {op : AOp} (h : SameOn e e' (atemps op)) : effOp e hp op = effOp e' hp op := by
  cases op with
  | st n x v => simp only [atemps] at h; simp only [effOp, ev_congr h.left, ev_congr h.right]
  | convb x => simp only [effOp, ev_congr (x := x) h]
  | mup ks m k v => simp only [atemps] at h; simp only [effOp, ev_congr h.left, ev_congr h.right.left, ev_congr h.right.right]
  | mdel ks m k => simp only [atemps] at h; simp only [effOp, ev_congr h.left, ev_congr h.right]
  | nxt x => simp only [effOp, ev_congr (x := x) h]
  | app a b s x => simp only [atemps] at h; simp only [effOp, ev_congr h.left, ev_congr h.right]
  | cpy a s x => simp only [atemps] at h; simp only [effOp, ev_congr h.left, ev_congr h.right]
  | clr a x => simp only [effOp, ev_congr (x := x) h]
  | call f args => simp only [effOp, map_ev_congr h]
  | callv x args => simp only [atemps] at h; simp only [effOp, ev_congr h.left, map_ev_congr h.right]
  | dfr x => simp only [effOp, ev_congr (x := x) h]
  | pnc x => simp only [effOp, ev_congr (x := x) h]
  | rcv => rfl
  | _ => simp only [effOp, newOp_congr h, pureOp_congr h]
def gtemps (g : Option (Nat × Bool)) : List Nat := match g with | some (t, _) => [t] | none => []
theorem wanted_congr {e e' : Env} {g : Option (Nat × Bool)} (h : SameOn e e' (gtemps g)) : wanted e g = wanted e' g := by
  cases g with
  | none => rfl
  | some p => obtain ⟨t, b⟩ := p; simp only [wanted, h t (by simp [gtemps])]
/-- What does not read the heap comes to the same over every heap. -/
theorem pureOp_heap {e : Env} {h h' : Hp} {op : AOp} (hr : reads op = false) : pureOp e h op = pureOp e h' op := by
  cases op <;> first | rfl | (simp [reads] at hr)
end Go.Proofs.YtjlebgfbohihfaaGreat.Am
