/-
  The abstract machine: values, heap, operations, code, and what a run of them comes to (a function, by fuel).
-/
import GoSem.Core.View
import GoSem.Core.Ast
import GoSem.Core.Utf8
namespace Go.Proofs.YtjlebgfbohihfaaGreat.Am
open Go (IntKind BinOp UnOp)
set_option linter.unusedVariables false
set_option linter.unusedSimpArgs false

inductive Cell where
  | unk
  | int (k : IntKind) (n : Int)
  | bool (b : Bool)
  | str (s : List UInt8)
  | ptr (b o : Nat)
  | nilptr
  | slice (b o len cap sz : Nat)
  | nilslice
  | map (r : Nat)
  | nilmap
  | fn (f : Nat) (first caps : List (Nat × Nat))
  | nilfn
  | yl (l : Nat)
  | iface
  | nilIface
  deriving DecidableEq, Inhabited

inductive AVal where
  | c (x : Cell)
  | agg (cs : List Cell)
  | tup (xs : List (Sum Cell (List Cell)))
  deriving DecidableEq, Inhabited

def AVal.cells : AVal → List Cell
  | .c x => [x]
  | .agg cs => cs
  | .tup _ => []
def AVal.one : AVal → Bool
  | .tup _ => false
  | .c .unk => false
  | _ => true
def AVal.sum : AVal → Sum Cell (List Cell)
  | .c x => .inl x
  | .agg cs => .inr cs
  | .tup _ => .inl .unk
def AVal.ofSum : Sum Cell (List Cell) → AVal
  | .inl x => .c x
  | .inr cs => .agg cs

inductive Opd where
  | t (n : Nat)
  | k (v : AVal)
  | f (n : Nat)
  deriving DecidableEq, Inhabited

/-- What a cell of an aggregate that is held against another one may be. -/
inductive CK where
  | int (k : IntKind)
  | str
  | bool
  deriving DecidableEq, Inhabited
def CK.fits : CK → Cell → Bool
  | .int k, .int j _ => decide (k = j)
  | .str, .str _ => true
  | .bool, .bool _ => true
  | _, _ => false
def fitAll : List CK → List Cell → Bool
  | [], [] => true
  | s :: ss, c :: cs => s.fits c && fitAll ss cs
  | _, _ => false

/-! ### The heap -/
inductive AObj where
  | cells (cs : List Cell) (exact : Bool)
  | map (es : List (Cell × AVal))
  | siter (s : List UInt8) (pos : Nat)
  | dead
  deriving DecidableEq, Inhabited

inductive Tr where
  | e
  | n (l : Tr) (v : Option AObj) (r : Tr)
def Tr.get : Tr → Nat → Option AObj
  | .e, _ => none
  | .n l v r, k => bif Nat.beq k 0 then v else bif Nat.beq (k % 2) 1 then l.get (k / 2) else r.get (k / 2 - 1)
def Tr.set : Nat → Tr → Nat → AObj → Tr
  | 0, t, _, _ => t
  | f + 1, .e, k, o => bif Nat.beq k 0 then .n .e (some o) .e else bif Nat.beq (k % 2) 1 then .n (Tr.set f .e (k / 2) o) none .e else .n .e none (Tr.set f .e (k / 2 - 1) o)
  | f + 1, .n l v r, k, o => bif Nat.beq k 0 then .n l (some o) r else bif Nat.beq (k % 2) 1 then .n (Tr.set f l (k / 2) o) v r else .n l v (Tr.set f r (k / 2 - 1) o)

structure Hp where
  next : Nat
  t : Tr
def Hp.get (h : Hp) (b : Nat) : Option AObj := h.t.get b
def Hp.set (h : Hp) (b : Nat) (o : AObj) : Hp := { h with t := h.t.set (b + 1) b o }
def Hp.alloc (h : Hp) (o : AObj) : Hp := { next := h.next + 1, t := h.t.set (h.next + 1) h.next o }
def Hp.empty : Hp := { next := 0, t := .e }

/-! ### Operations -/
inductive AOp where
  | mv (x : Opd)
  | pick (c a b : Opd)
  | alloc (zs : List Cell)
  | box (x : Opd)
  | agg (zs : List Cell) (parts : List (Nat × Nat × Opd))
  | mks (zs : List Cell) (len : Nat) (parts : List (Nat × Nat × Opd))
  | ld (x : Opd)
  | ldn (n : Nat) (x : Opd)
  | st (n : Nat) (x v : Opd)
  | nilck (x : Opd)
  | bin (tc : Nat) (op : BinOp) (x y : Opd)
  | eqa (neg : Bool) (sk : List CK) (x y : Opd)
  | un (op : UnOp) (x : Opd)
  | convi (k : IntKind) (x : Opd)
  | convr (x : Opd)
  | convb (x : Opd)
  | mki (x : Opd)
  | mkf (f : Nat) (first caps : List Opd)
  | mkm
  | mksd (zs : List Cell) (bytes : Nat) (len cap : Opd)
  | slcs (x : Opd) (lo hi : Option Opd)
  | slc (sz : Nat) (x : Opd) (lo hi mx : Option Opd)
  | slca (n sz : Nat) (x : Opd) (lo hi : Option Opd)
  | fa (off : Nat) (x : Opd)
  | fv (off : Nat) (n : Option Nat) (x : Opd)
  | ixa (sz : Nat) (x i : Opd)
  | ixp (n sz : Nat) (x i : Opd)
  | ixv (n : Nat) (sz : Option Nat) (x i : Opd)
  | ixs (x i : Opd)
  | lk (ks : Bool) (z : AVal) (ok : Bool) (m k : Opd)
  | mup (ks : Bool) (m k v : Opd)
  | mdel (ks : Bool) (m k : Opd)
  | rng (x : Opd)
  | nxt (x : Opd)
  | ext (i : Nat) (x : Opd)
  | len (tk : Nat) (x : Opd)
  | app (sz bytes : Nat) (s x : Opd)
  | cpy (sz : Nat) (d s : Opd)
  | clr (zs : List Cell) (x : Opd)
  | mx (xs : List Opd)
  | mn (xs : List Opd)
  | rcv
  | call (f : Nat) (args : List Opd)
  | callv (x : Opd) (args : List Opd)
  | dfr (x : Opd)
  | pnc (x : Opd)
  | bad
  deriving DecidableEq, Inhabited

structure AInstr where
  dst : Option Nat
  op : AOp
  guard : Option (Nat × Bool)
  deriving DecidableEq, Inhabited

abbrev Env := List (Nat × AVal)
def Env.get : Env → Nat → AVal
  | [], _ => .c .unk
  | (k, v) :: r, t => bif Nat.beq k t then v else Env.get r t
def Env.put (e : Env) (d : Option Nat) (v : AVal) : Env :=
  match d with
  | some t => (t, v) :: e
  | none => e
def Env.prune (keep : List Nat) (e : Env) : Env := keep.map fun t => (t, e.get t)
def ev (e : Env) : Opd → AVal
  | .t n => e.get n
  | .k v => v
  | .f n => .c (.fn n [] [])

/-- What an operation comes to. -/
inductive ORes where
  | val (v : AVal) (h : Hp)
  | skip (h : Hp)
  | call (f : Nat) (args : List AVal)
  | dfr (c : Cell)
  | rcv
  | pan
  | stuck

def intBin (op : BinOp) (k : IntKind) (x y : Int) : Option Cell :=
  match op with
  | .add => some (.int k (k.wrap (x + y)))
  | .sub => some (.int k (k.wrap (x - y)))
  | .mul => some (.int k (k.wrap (x * y)))
  | .quo => if y = 0 then none else some (.int k (k.wrap (x.tdiv y)))
  | .rem => if y = 0 then none else some (.int k (x.tmod y))
  | .and => some (.int k (k.wrap (BitVec.ofInt k.bits x &&& BitVec.ofInt k.bits y).toNat))
  | .or => some (.int k (k.wrap (BitVec.ofInt k.bits x ||| BitVec.ofInt k.bits y).toNat))
  | .xor => some (.int k (k.wrap (BitVec.ofInt k.bits x ^^^ BitVec.ofInt k.bits y).toNat))
  | .andNot => some (.int k (k.wrap (BitVec.ofInt k.bits x &&& ~~~BitVec.ofInt k.bits y).toNat))
  | .eql => some (.bool (x == y))
  | .neq => some (.bool (x != y))
  | .lss => some (.bool (decide (x < y)))
  | .leq => some (.bool (decide (x ≤ y)))
  | .gtr => some (.bool (decide (x > y)))
  | .geq => some (.bool (decide (x ≥ y)))
  | _ => none
def intShift (op : BinOp) (k : IntKind) (x y : Int) : Option Cell :=
  if y < 0 then none else
  match op with
  | .shl => some (.int k (k.wrap (x * 2 ^ (min y.toNat k.bits))))
  | .shr => some (.int k (x.fdiv (2 ^ (min y.toNat k.bits))))
  | _ => none
def isShift : BinOp → Bool
  | .shl | .shr => true
  | _ => false
def bothEq (op : BinOp) (b : Bool) : Option Cell :=
  match op with
  | .eql => some (.bool b)
  | .neq => some (.bool (!b))
  | _ => none
def strBin (op : BinOp) (x y : List UInt8) : Option Cell :=
  match op with
  | .add => if x.length + y.length ≤ 9223372036854775807 then some (.str (x ++ y)) else none
  | .eql => some (.bool (decide (x = y)))
  | .neq => some (.bool (!decide (x = y)))
  | _ => none
/-- tc: the type's kind: 0 a number or a string, 1 bool, 2 a pointer, 3 a slice, 4 an interface. -/
def binCell (tc : Nat) (op : BinOp) : Cell → Cell → Option Cell
  | .int k x, .int j y => if isShift op then intShift op k x y else if k = j then intBin op k x y else none
  | .str x, .str y => strBin op x y
  | .bool x, .bool y => bif Nat.beq tc 1 then bothEq op (x == y) else none
  | .ptr _ _, .nilptr => bif Nat.beq tc 2 then bothEq op false else none
  | .nilptr, .nilptr => bif Nat.beq tc 2 then bothEq op true else none
  | .slice _ _ _ _ _, .nilslice => bif Nat.beq tc 3 then bothEq op false else none
  | .nilslice, .nilslice => bif Nat.beq tc 3 then bothEq op true else none
  | .iface, .nilIface => bif Nat.beq tc 4 then bothEq op false else none
  | .nilIface, .nilIface => bif Nat.beq tc 4 then bothEq op true else none
  | _, _ => none
def unCell (op : UnOp) : Cell → Option Cell
  | .int k n => match op with
    | .neg => some (.int k (k.wrap (0 - n)))
    | .xor => some (.int k (k.wrap (BitVec.ofInt k.bits (if k.signed then -1 else k.max) ^^^ BitVec.ofInt k.bits n).toNat))
    | _ => none
  | .bool b => match op with | .not => some (.bool (!b)) | _ => none
  | _ => none

def setAt {α : Type} (cs : List α) (off : Nat) : List α → List α
  | [] => cs
  | v :: vs => setAt (cs.set off v) (off + 1) vs
def fillAt (e : Env) (cs : List Cell) : List (Nat × Nat × Opd) → Option (List Cell)
  | [] => some cs
  | (off, size, x) :: rest =>
    bif (ev e x).one && Nat.beq (ev e x).cells.length size && Nat.ble (off + size) cs.length then fillAt e (setAt cs off (ev e x).cells) rest else none
def reps : Nat → List Cell → List Cell
  | 0, _ => []
  | n + 1, zs => zs ++ reps n zs

/-- A bound of a slice expression. -/
def bnd (e : Env) (x : Opd) (most : Nat) : Option Nat :=
  match ev e x with
  | .c (.int _ i) => if 0 ≤ i ∧ i ≤ most then some i.toNat else none
  | _ => none
def bndO (e : Env) (x : Option Opd) (most dflt : Nat) : Option Nat :=
  match x with
  | none => some dflt
  | some o => bnd e o most

def bndH (e : Env) (x mx : Option Opd) (m len : Nat) : Option Nat :=
  match x with
  | some o => bnd e o m
  | none => if mx.isSome then none else some len

/-- The cells of the first n elements of a slice. -/
def sliceCells (h : Hp) (sz : Nat) : Cell → Option (List Cell)
  | .nilslice => some []
  | .slice b o len _ z =>
    match h.get b with
    | some (.cells cs _) => if z = sz ∧ o + len * sz ≤ cs.length then some ((cs.drop o).take (len * sz)) else none
    | _ => none
  | _ => none
def lenCell : Cell → Option Nat
  | .nilslice => some 0
  | .slice _ _ len _ _ => some len
  | _ => none
def capCell : Cell → Option Nat
  | .nilslice => some 0
  | .slice _ _ _ cap _ => some cap
  | _ => none

def keyEq : Cell → Cell → Option Bool
  | .int k a, .int j b => if k = j then some (a == b) else none
  | .str a, .str b => some (decide (a = b))
  | _, _ => none
/-- May it be a key of a map? ks: of strings; else of numbers. -/
def isKey (ks : Bool) : Cell → Bool
  | .int _ _ => !ks
  | .str _ => ks
  | _ => false
/-- Where a key stands; none: a key of another kind is met. -/
def findIn (k : Cell) : List (Cell × AVal) → Nat → Option (Option (Nat × AVal))
  | [], _ => some none
  | (q, v) :: es, i =>
    match keyEq k q with
    | some true => some (some (i, v))
    | some false => findIn k es (i + 1)
    | none => none
def setVal (k : Cell) (v : AVal) : List (Cell × AVal) → Nat → List (Cell × AVal)
  | [], _ => []
  | (q, x) :: es, i => match i with | 0 => (k, v) :: es | i + 1 => (q, x) :: setVal k v es i

def ptrOf : AVal → Option (Nat × Nat)
  | .c (.ptr b o) => some (b, o)
  | _ => none
/-- What reads or reckons, and leaves the heap as it is. -/
def pureOp (e : Env) (h : Hp) : AOp → Option AVal
  | .mv x => some (ev e x)
  | .pick c a b => match ev e c with | .c (.bool t) => some (if t then ev e a else ev e b) | _ => none
  | .agg zs parts => (fillAt e zs parts).map .agg
  | .ld x => match ev e x with
    | .c (.ptr b o) => match h.get b with
      | some (.cells cs _) => (cs[o]?).map .c
      | _ => none
    | _ => none
  | .ldn n x => match ev e x with
    | .c (.ptr b o) => match h.get b with
      | some (.cells cs _) => if o + n ≤ cs.length then some (.agg ((cs.drop o).take n)) else none
      | _ => none
    | _ => none
  | .nilck x => match ev e x with
    | .c (.ptr b o) => some (.c (.ptr b o))
    | .c (.fn f a b) => some (.c (.fn f a b))
    | _ => none
  | .bin tc op x y => match ev e x, ev e y with
    | .c a, .c b => (binCell tc op a b).map .c
    | _, _ => none
  | .eqa neg sk x y => match ev e x, ev e y with
    | .agg a, .agg b => if fitAll sk a && fitAll sk b then some (.c (.bool (neg != decide (a = b)))) else none
    | _, _ => none
  | .un op x => match ev e x with | .c a => (unCell op a).map .c | _ => none
  | .convi k x => match ev e x with | .c (.int _ n) => some (.c (.int k (k.wrap n))) | _ => none
  | .convr x => match ev e x with | .c (.int _ n) => some (.c (.str (Go.Utf8.encode n).data.toList)) | _ => none
  | .mki x => if (ev e x).one then some (.c .iface) else none
  | .mkf f first caps =>
    match first.mapM (fun x => ptrOf (ev e x)), caps.mapM (fun x => ptrOf (ev e x)) with
    | some a, some b => some (.c (.fn f a b))
    | _, _ => none
  | .slcs x lo hi => match ev e x with
    | .c (.str s) => match bndO e hi s.length s.length with
      | some hh => match bndO e lo hh 0 with
        | some l => some (.c (.str ((s.take hh).drop l)))
        | none => none
      | none => none
    | _ => none
  | .slc sz x lo hi mx => match ev e x with
    | .c (.slice b o len cap z) => match bndO e mx cap cap with
      | some m => match bndH e hi mx m len with
        | some hh => match bndO e lo hh 0 with
          | some l => if hh ≤ m ∧ z = sz then some (.c (.slice b (if m = l then o else o + l * sz) (hh - l) (m - l) sz)) else none
          | none => none
        | none => none
      | none => none
    | .c .nilslice => match bndO e mx 0 0 with
      | some m => match bndH e hi mx m 0 with
        | some hh => match bndO e lo hh 0 with
          | some _ => some (.c .nilslice)
          | none => none
        | none => none
      | none => none
    | _ => none
  | .slca n sz x lo hi => match ev e x with
    | .c (.ptr b o) => match bndO e hi n n with
      | some hh => match bndO e lo hh 0 with
        | some l => match h.get b with
          | some (.cells cs true) => if o + n * sz = cs.length then some (.c (.slice b (if n = l then o else o + l * sz) (hh - l) (n - l) sz)) else none
          | _ => none
        | none => none
      | none => none
    | _ => none
  | .fa off x => match ev e x with | .c (.ptr b o) => some (.c (.ptr b (o + off))) | _ => none
  | .fv off n x => match ev e x with
    | .agg cs => match n with
      | none => (cs[off]?).map .c
      | some n => some (.agg ((cs.drop off).take n))
    | _ => none
  | .ixa sz x i => match ev e x, ev e i with
    | .c (.slice b o len _ z), .c (.int _ i) => if 0 ≤ i ∧ i < len ∧ z = sz then some (.c (.ptr b (o + i.toNat * sz))) else none
    | _, _ => none
  | .ixp n sz x i => match ev e x, ev e i with
    | .c (.ptr b o), .c (.int _ i) => if 0 ≤ i ∧ i < n then some (.c (.ptr b (o + i.toNat * sz))) else none
    | _, _ => none
  | .ixv n sz x i => match ev e x, ev e i with
    | .agg cs, .c (.int _ i) => if 0 ≤ i ∧ i < n then (match sz with
      | none => (cs[i.toNat]?).map .c
      | some sz => some (.agg ((cs.drop (i.toNat * sz)).take sz))) else none
    | _, _ => none
  | .ixs x i => match ev e x, ev e i with
    | .c (.str s), .c (.int _ i) => if 0 ≤ i then (s[i.toNat]?).map fun b => .c (.int .u8 b.toNat) else none
    | _, _ => none
  | .lk ks z ok m k => match ev e m, ev e k with
    | .c (.map r), .c k => match h.get r with
      | some (.map es) => bif isKey ks k then (match findIn k es 0 with
        | some (some (_, v)) => some (if ok then .tup [v.sum, .inl (.bool true)] else v)
        | some none => some (if ok then .tup [z.sum, .inl (.bool false)] else z)
        | none => none) else none
      | _ => none
    | .c .nilmap, .c k => bif isKey ks k then some (if ok then .tup [z.sum, .inl (.bool false)] else z) else none
    | _, _ => none
  | .ext i x => match ev e x with | .tup xs => (xs[i]?).map .ofSum | _ => none
  | .len tk x => match ev e x with
    | .c (.str s) => bif Nat.beq tk 0 then some (.c (.int .i64 s.length)) else none
    | .c .nilslice => bif Nat.beq tk 1 then some (.c (.int .i64 0)) else none
    | .c (.slice _ _ n _ _) => bif Nat.beq tk 1 then some (.c (.int .i64 n)) else none
    | .c (.map r) => bif Nat.beq tk 2 then (match h.get r with
      | some (.map es) => some (.c (.int .i64 es.length))
      | _ => none) else none
    | .c .nilmap => bif Nat.beq tk 2 then some (.c (.int .i64 0)) else none
    | _ => none
  | .mx xs => match xs with
    | x :: rest => rest.foldlM (fun a y => match a, ev e y with | .c (.int k p), .c (.int _ q) => some (.c (.int k (if q > p then q else p))) | _, _ => none) (ev e x)
    | [] => none
  | .mn xs => match xs with
    | x :: rest => rest.foldlM (fun a y => match a, ev e y with | .c (.int k p), .c (.int _ q) => some (.c (.int k (if q < p then q else p))) | _, _ => none) (ev e x)
    | [] => none
  | _ => none

/-- Does it read the heap? -/
def reads : AOp → Bool
  | .ld _ | .ldn _ _ | .slca .. | .lk .. | .len _ _ => true
  | _ => false

/-- A new block by an operation that hangs on its operands alone: what it holds, and what is handed back of its number. -/
def newOp (e : Env) : AOp → Option (AObj × (Nat → AVal))
  | .alloc zs => some (.cells zs true, fun b => .c (.ptr b 0))
  | .box x => if (ev e x).one then some (.cells (ev e x).cells true, fun b => .c (.ptr b 0)) else none
  | .mks zs len parts => (fillAt e (reps len zs) parts).map fun cs => (.cells cs true, fun b => .c (.slice b 0 len len (zs.length)))
  | .mkm => some (.map [], fun b => .c (.map b))
  | .mksd zs bytes l c => match ev e l, ev e c with
    | .c (.int .i64 l), .c (.int .i64 c) => if 0 ≤ l ∧ l ≤ c ∧ c * bytes ≤ 281474976710656 ∧ c ≤ 9223372036854775807 then
        some (.cells (reps c.toNat zs) true, fun b => .c (.slice b 0 l.toNat c.toNat zs.length)) else none
    | _, _ => none
  | .rng x => match ev e x with
    | .c (.str s) => some (.siter s 0, fun b => .c (.ptr b 0))
    | _ => none
  | _ => none

def storeTo (h : Hp) (b o : Nat) (vs : List Cell) : Option Hp :=
  match h.get b with
  | some (.cells cs x) => if o + vs.length ≤ cs.length then some (h.set b (.cells (setAt cs o vs) x)) else none
  | _ => none

/-- The heap without the block of a slice that was outgrown, where the model may have written in place. -/
def spent (h : Hp) (s : Cell) : Hp :=
  match s with
  | .slice b _ _ _ _ => match h.get b with
    | some (.cells _ true) => h
    | _ => h.set b .dead
  | _ => h
/-- append -/
def appOp (h : Hp) (sz bytes : Nat) (s x : Cell) : Option (AVal × Hp) :=
  match lenCell s, capCell s, lenCell x, sliceCells h sz x with
  | some len, some cap, some n, some new =>
    if len + n ≤ cap then
      match s with
      | .slice b o _ _ z => if z = sz then (match storeTo h b (o + len * sz) new with
        | some h' => some (.c (.slice b o (len + n) cap sz), h')
        | none => none) else none
      | s => some (.c s, h)
    else if (len + n) * bytes ≤ 140737488355328 ∧ len + n ≤ 140737488355328 then
      match sliceCells h sz s with
      | some old =>
        let h' := spent h s
        some (.c (.slice h'.next 0 (len + n) (len + n) sz), h'.alloc (.cells (old ++ new) false))
      | none => none
    else none
  | _, _, _, _ => none

/-- What writes, or makes memory. -/
def effOp (e : Env) (h : Hp) (op : AOp) : ORes :=
  match op with
  | .st n x v => match ev e x with
    | .c (.ptr b o) => bif (ev e v).one && Nat.beq (ev e v).cells.length n then
        (bif Nat.beq n 0 then .skip h else match storeTo h b o (ev e v).cells with | some h' => .skip h' | none => .stuck) else .stuck
    | _ => .stuck
  | .convb x => match ev e x with
    | .c (.str s) => .val (.c (.slice h.next 0 s.length s.length 1)) (h.alloc (.cells (s.map fun b => .int .u8 b.toNat) false))
    | _ => .stuck
  | .mup ks m k v => match ev e m, ev e k with
    | .c (.map r), .c k => match h.get r with
      | some (.map es) => bif isKey ks k && (ev e v).one then (match findIn k es 0 with
        | some (some (i, _)) => .skip (h.set r (.map (setVal k (ev e v) es i)))
        | some none => .skip (h.set r (.map (es ++ [(k, ev e v)])))
        | none => .stuck) else .stuck
      | _ => .stuck
    | _, _ => .stuck
  | .mdel ks m k => match ev e m, ev e k with
    | .c (.map r), .c k => match h.get r with
      | some (.map es) => bif isKey ks k then (match findIn k es 0 with
        | some (some (i, _)) => .val (.tup []) (h.set r (.map (es.eraseIdx i)))
        | some none => .val (.tup []) h
        | none => .stuck) else .stuck
      | _ => .stuck
    | _, _ => .stuck
  | .nxt x => match ev e x with
    | .c (.ptr b 0) => match h.get b with
      | some (.siter s pos) => if pos < s.length then
          let d := Go.Utf8.decode ⟨s.toArray⟩ pos
          .val (.tup [.inl (.bool true), .inl (.int .i64 pos), .inl (.int .i32 d.1)]) (h.set b (.siter s (pos + d.2)))
        else .val (.tup [.inl (.bool false)]) h
      | _ => .stuck
    | _ => .stuck
  | .app sz bytes s x => match ev e s, ev e x with
    | .c s, .c x => match appOp h sz bytes s x with | some (v, h') => .val v h' | none => .stuck
    | _, _ => .stuck
  | .cpy sz d s => match ev e d, ev e s with
    | .c d, .c s => match lenCell d, lenCell s, sliceCells h sz s with
      | some dl, some sl, some cs =>
        match d with
        | .slice b o _ _ z => if z = sz then (match storeTo h b o (cs.take (min sl dl * sz)) with
          | some h' => .val (.c (.int .i64 (min sl dl : Nat))) h'
          | none => .stuck) else .stuck
        | _ => .val (.c (.int .i64 0)) h
      | _, _, _ => .stuck
    | _, _ => .stuck
  | .clr zs x => match ev e x with
    | .c .nilslice => .val (.tup []) h
    | .c (.slice b o n _ z) => if n = 0 then .val (.tup []) h else if z = zs.length then (match storeTo h b o (reps n zs) with
      | some h' => .val (.tup []) h'
      | none => .stuck) else .stuck
    | _ => .stuck
  | .call f args => .call f (args.map (ev e))
  | .callv x args => match ev e x with
    | .c (.fn f first caps) => .call f (first.map (fun p => .c (.ptr p.1 p.2)) ++ args.map (ev e) ++ caps.map (fun p => .c (.ptr p.1 p.2)))
    | _ => .stuck
  | .dfr x => match ev e x with
    | .c (.fn f first caps) => .dfr (.fn f first caps)
    | _ => .stuck
  | .pnc x => match ev e x with | .c .iface => .pan | _ => .stuck
  | .rcv => .rcv
  | op => match newOp e op with
    | some (o, v) => .val (v h.next) (h.alloc o)
    | none => match pureOp e h op with
      | some v => .val v h
      | none => .stuck

/-! ### Code -/
inductive DIt where
  | op (j : Nat) (i : AInstr)
  | eff (j : Nat) (i : AInstr) (re : List AInstr)
  | flt (j : Nat) (i : AInstr) (re : List AInstr)
  deriving DecidableEq, Inhabited

inductive ACode where
  | skip
  | ops (l : List AInstr)
  | dops (l : List DIt)
  | seq (a b : ACode)
  | cond (c : Opd) (a b : ACode)
  | block (id : Nat) (a : ACode)
  | loop (keep : List Nat) (a : ACode)
  | scope (a : ACode)
  | jscope (l : Nat) (a rest : ACode)
  | goto (l : Nat)
  | exit (id : Nat)
  | label (l : Nat)
  | ret
  | keep (l : List Nat) (a : ACode)
  | bad
  deriving DecidableEq, Inhabited

inductive AExit where
  | normal
  | exit (id : Nat)
  | goto (l : Nat)
  | ret
  deriving DecidableEq

structure St where
  env : Env
  heap : Hp
  defs : List Cell
  rc : Option Nat

inductive XRes where
  | ok (e : AExit) (s : St)
  | panic (s : St)
  | stuck
inductive SRes where
  | ok (s : St)
  | panic (s : St)
  | stuck
inductive CRes where
  | ok (v : AVal) (h : Hp)
  | panic (h : Hp)
  | stuck

inductive ARet where
  | tmp (t : Nat)
  | cell (t : Nat)
  | celln (t n : Nat)
  deriving DecidableEq, Inhabited
structure AFun where
  np : Nat
  code : ACode
  res : List ARet
inductive AFn where
  | code (f : AFun)
  | spec (g : List AVal → Hp → Option (AVal × Hp))
abbrev Tab := Nat → Option AFn

def wanted (e : Env) : Option (Nat × Bool) → Option Bool
  | none => some true
  | some (t, b) => match e.get t with
    | .c (.bool x) => some (x == b)
    | .tup [] => some false
    | _ => none

section
variable (callf : Nat → List AVal → Hp → CRes)
def runInstr (i : AInstr) (s : St) : SRes :=
  match wanted s.env i.guard with
  | none => .stuck
  | some false => .ok { s with env := s.env.put i.dst (.tup []) }
  | some true =>
    match effOp s.env s.heap i.op with
    | .val v h => .ok { s with env := s.env.put i.dst v, heap := h }
    | .skip h => .ok { s with env := s.env.put i.dst (.c .unk), heap := h }
    | .call f args => match callf f args s.heap with
      | .ok v h => .ok { s with env := s.env.put i.dst v, heap := h }
      | .panic h => .panic { s with heap := h }
      | .stuck => .stuck
    | .dfr c => .ok { s with env := s.env.put i.dst (.c .unk), defs := c :: s.defs }
    | .rcv => match s.rc with
      | some 0 => .ok { s with env := s.env.put i.dst (.c .nilIface) }
      | some 1 => .ok { s with env := s.env.put i.dst (.c .iface), rc := some 2 }
      | some 2 => .ok { s with env := s.env.put i.dst (.c .nilIface) }
      | _ => .stuck
    | .pan => .panic s
    | .stuck => .stuck
def runOps : List AInstr → St → SRes
  | [], s => .ok s
  | i :: l, s => match runInstr callf i s with
    | .ok s' => runOps l s'
    | .panic s' => .panic s'
    | .stuck => .stuck
/-- Does an operation that was carried out still come to what it came to? -/
def stillP (s : St) (r : AInstr) : Bool :=
  match wanted s.env r.guard, r.dst with
  | some true, some t => match pureOp s.env s.heap r.op with
    | some v => decide (v = s.env.get t)
    | none => false
  | some false, some t => decide (s.env.get t = .tup [])
  | _, _ => false
def blkOf : AVal → Option Nat
  | .c (.ptr b _) => some b
  | .c (.slice b _ _ _ _) => some b
  | .c (.map b) => some b
  | _ => none
/-- Does the block that an operation made still hold what it was made with? -/
def stillN (s : St) (r : AInstr) : Bool :=
  match r.dst with
  | some t => match newOp s.env r.op, blkOf (s.env.get t) with
    | some (o, f), some b => decide (f b = s.env.get t) && decide (s.heap.get b = some o)
    | _, _ => false
  | none => false
def isNew : AOp → Bool
  | .alloc .. | .box .. | .mks .. | .mkm | .mksd .. | .rng .. => true
  | _ => false
def still (s : St) (r : AInstr) : Bool := bif isNew r.op then stillN s r else stillP s r
def stillAll (s : St) : List AInstr → Bool
  | [] => true
  | r :: l => still s r && stillAll s l
def runDIt (d : DIt) (s : St) : SRes :=
  match d with
  | .op _ i => match wanted s.env i.guard with
    | none => .stuck
    | some false => .ok { s with env := s.env.put i.dst (.tup []) }
    | some true => match pureOp s.env s.heap i.op with
      | some v => .ok { s with env := s.env.put i.dst v }
      | none => .stuck
  | .flt _ i re => match newOp s.env i.op with
    | some (o, v) =>
      let s' : St := { s with env := s.env.put i.dst (v s.heap.next), heap := s.heap.alloc o }
      bif stillAll s' re then .ok s' else .stuck
    | none => .stuck
  | .eff _ i re => match runInstr callf i s with
    | .ok s' => bif stillAll s' re then .ok s' else .stuck
    | r => r
def DIt.instr : DIt → AInstr
  | .op _ i => i
  | .eff _ i _ => i
  | .flt _ i _ => i
/-- An environment without what stands in some temporaries. -/
def hide (ts : List Nat) (e : Env) : Env := ts.map (fun t => (t, .c .unk)) ++ e
/-- A panic on the way leaves open what the region's own temporaries hold. -/
def runDops (ts : List Nat) : List DIt → St → SRes
  | [], s => .ok s
  | d :: l, s => match runDIt callf d s with
    | .ok s' => runDops ts l s'
    | .panic s' => .panic { s' with env := hide ts s'.env }
    | .stuck => .stuck
end

def XRes.ofS : SRes → XRes
  | .ok s => .ok .normal s
  | .panic s => .panic s
  | .stuck => .stuck

def retVal (e : Env) (h : Hp) (r : ARet) : Option AVal :=
  match r with
  | .tmp t => some (e.get t)
  | .cell t => pureOp e h (.ld (.t t))
  | .celln t n => pureOp e h (.ldn n (.t t))
def retVals (e : Env) (h : Hp) : List ARet → Option (List AVal)
  | [] => some []
  | r :: rs => match retVal e h r, retVals e h rs with
    | some v, some vs => some (v :: vs)
    | _, _ => none
def retOf (e : Env) (h : Hp) (rs : List ARet) : Option AVal :=
  match retVals e h rs with
  | some [v] => some v
  | some vs => if vs.all AVal.one then some (.tup (vs.map AVal.sum)) else none
  | none => none

def params : Nat → List AVal → Env
  | _, [] => []
  | n, v :: vs => (n, v) :: params (n + 1) vs

section
variable (ex : ACode → St → XRes) (T : Tab)
/-- What a function hands back where it left off. -/
def leave (fn : AFun) (e : AExit) (s : St) (h : Hp) : Option AVal :=
  match e with
  | .normal | .ret => retOf s.env h fn.res
  | _ => none
/-- A deferred call: behind it the heap, and whether a panic was recovered. Its first region may ask what panics. -/
def runDefer (c : Cell) (rc : Nat) (h : Hp) : Option (Hp × Nat) :=
  match c with
  | .fn f first caps => match T f with
    | some (.code fn) =>
      let s0 : St := { env := params 0 ((first ++ caps).map fun p => .c (.ptr p.1 p.2)), heap := h, defs := [], rc := none }
      match fn.code with
      | .seq (.ops (⟨d, .rcv, g⟩ :: l)) b => match runOps (fun _ _ _ => .stuck) (⟨d, .rcv, g⟩ :: l) { s0 with rc := some rc } with
        | .ok s1 => match s1.rc, ex b { s1 with rc := none } with
          | some r, .ok e s => match s.defs, leave fn e s s.heap with | [], some _ => some (s.heap, r) | _, _ => none
          | _, _ => none
        | _ => none
      | c => match ex c s0 with
        | .ok e s => match s.defs, leave fn e s s.heap with | [], some _ => some (s.heap, rc) | _, _ => none
        | _ => none
    | _ => none
  | _ => none
/-- The deferred calls, last first; rc: 0 nothing panics, 1 a panic goes on. -/
def runDefers : List Cell → Nat → Hp → Option (Hp × Nat)
  | [], rc, h => some (h, rc)
  | d :: ds, rc, h => match runDefer ex T d rc h with
    | some (h', rc') => runDefers ds (if rc' = 2 then 0 else rc') h'
    | none => none
def finish (fn : AFun) (e : AExit) (s : St) (rc : Nat) : CRes :=
  match runDefers ex T s.defs rc s.heap with
  | some (h, 0) => match leave fn e s h with
    | some v => .ok v h
    | none => .stuck
  | some (h, 1) => bif Nat.beq rc 1 then .panic h else .stuck
  | _ => .stuck
def callWith (f : Nat) (args : List AVal) (h : Hp) : CRes :=
  match T f with
  | some (.code fn) =>
    bif Nat.beq args.length fn.np then
      match ex fn.code { env := params 0 args, heap := h, defs := [], rc := none } with
      | .ok e s => finish ex T fn e s 0
      | .panic s => finish ex T fn .ret s 1
      | _ => .stuck
    else .stuck
  | some (.spec g) => match g args h with
    | some (v, h') => .ok v h'
    | none => .stuck
  | none => .stuck
def execStep (c : ACode) (s : St) : XRes :=
  match c with
  | .skip => .ok .normal s
  | .label _ => .ok .normal s
  | .ops l => .ofS (runOps (callWith ex T) l s)
  | .dops l => .ofS (runDops (callWith ex T) (l.filterMap fun d => d.instr.dst) l s)
  | .seq a b => match ex a s with
    | .ok .normal s' => ex b s'
    | r => r
  | .cond x a b => match ev s.env x with
    | .c (.bool t) => if t then ex a s else ex b s
    | _ => .stuck
  | .block id a => match ex a s with
    | .ok (.exit j) s' => bif Nat.beq j id then .ok .normal s' else .ok (.exit j) s'
    | r => r
  | .loop kp a => match ex a { s with env := s.env.prune kp } with
    | .ok .normal s' => ex (.loop kp a) s'
    | r => r
  | .scope a => match ex a s with
    | .ok (.goto _) _ => .stuck
    | r => r
  | .jscope l a rest => match ex a s with
    | .ok (.goto j) s' => bif Nat.beq j l then ex (.jscope l rest rest) s' else .stuck
    | r => r
  | .goto l => .ok (.goto l) s
  | .exit id => .ok (.exit id) s
  | .ret => .ok .ret s
  | .keep l a => ex a { s with env := s.env.prune l }
  | .bad => .stuck
end
def exec (T : Tab) (n : Nat) : ACode → St → XRes :=
  Nat.rec (motive := fun _ => ACode → St → XRes) (fun _ _ => .stuck) (fun _ ih => execStep ih T) n
def callN (T : Tab) (n : Nat) (f : Nat) (args : List AVal) (h : Hp) : CRes := callWith (exec T n) T f args h
theorem exec_zero (T : Tab) (c : ACode) (s : St) : exec T 0 c s = .stuck := rfl
theorem exec_succ (T : Tab) (n : Nat) (c : ACode) (s : St) : exec T (n + 1) c s = execStep (exec T n) T c s := rfl

def bs (l : List Nat) : List UInt8 := l.map UInt8.ofNat
end Go.Proofs.YtjlebgfbohihfaaGreat.Am
