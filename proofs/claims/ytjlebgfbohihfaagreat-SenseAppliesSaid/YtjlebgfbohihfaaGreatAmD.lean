/-
  Which abstract operation an operation of the model is; and that those that only read come to the same.
-/
import Derived.Test.YtjlebgfbohihfaaGreatAmC
import Derived.Laws.Build
namespace Go.Proofs.YtjlebgfbohihfaaGreat.Am
open Go
set_option linter.unusedVariables false
set_option linter.unusedSimpArgs false

def sizeT (P : Program) (t : TypeId) : Option Nat := (P.info? t).map (·.size)
def bytesT (P : Program) (t : TypeId) : Option Nat := (P.info? t).map (·.bytes)
def aggT (P : Program) (t : TypeId) : Option Bool :=
  match P.underlying t with
  | some (.struct _) => some true
  | some (.array _ _) => some true
  | some _ => some false
  | none => none
/-- The zero value's cells, as many as the type has. -/
def zcells (P : Program) (t : TypeId) : Option (List Cell) :=
  match P.info? t with
  | some i => match i.zero with
    | some z => match absCells z.cells.toList with
      | some cs => if cs.length = i.size then some cs else none
      | none => none
    | none => none
  | none => none
def zval (P : Program) (t : TypeId) : Option AVal :=
  match P.info? t with
  | some i => match i.zero with
    | some z => match absVal z with
      | some v => if v.one then some v else none
      | none => none
    | none => none
  | none => none
def absOpds : List Operand → Option (List Opd)
  | [] => some []
  | x :: xs => match absOpd x, absOpds xs with
    | some y, some ys => some (y :: ys)
    | _, _ => none
def absOpt : Option Operand → Option (Option Opd)
  | none => some none
  | some x => (absOpd x).map some
def absParts (place : Nat → Option (Nat × Nat)) : List (Nat × Operand) → Option (List (Nat × Nat × Opd))
  | [] => some []
  | (i, x) :: ps => match place i, absOpd x, absParts place ps with
    | some (off, size), some y, some ys => some ((off, size, y) :: ys)
    | _, _, _ => none
def isConstO : Operand → Bool
  | .const _ => true
  | _ => false
def eqOp : BinOp → Bool
  | .eql => true
  | .neq => true
  | _ => false
/-- The kind of a type that is neither a struct's nor an array's; none: the operator may not stand there. -/
def binTc (P : Program) (op : BinOp) (t : TypeId) (x y : Operand) : Option Nat :=
  match P.underlying t with
  | some (.int _) => some 0
  | some .string => some 0
  | some .bool => some 1
  | some (.pointer _) => some 2
  | some (.slice _) => some 3
  | some (.interface _) => if isConstO x || isConstO y then some 4 else none
  | _ => none
def keyOk (P : Program) (k : TypeId) : Option Bool :=
  match P.underlying k with
  | some (.int _) => some false
  | some .string => some true
  | _ => none
def skelFs (g : TypeId → Option (List CK)) : List Field → Nat → Option (List CK)
  | [], _ => some []
  | f :: fs, off => if f.name ≠ "_" ∧ f.offset = off then match g f.type with
    | some l => (skelFs g fs (off + l.length)).map (l ++ ·)
    | none => none
    else none
def repsK : Nat → List CK → List CK
  | 0, _ => []
  | n + 1, zs => zs ++ repsK n zs
/-- What the cells of a struct or an array are that may be held against another one. -/
def skel (P : Program) : Nat → TypeId → Option (List CK)
  | 0, _ => none
  | d + 1, t => match P.underlying t, sizeT P t with
    | some (.int k), some 1 => some [.int k]
    | some .string, some 1 => some [.str]
    | some .bool, some 1 => some [.bool]
    | some (.struct fs), some n => if P.stoodInHeld t = false then match skelFs (skel P d) fs.toList 0 with
      | some l => if l.length = n then some l else none
      | none => none
      else none
    | some (.array m e), some n => match skel P d e with
      | some l => if m * l.length = n then some (repsK m l) else none
      | none => none
    | _, _ => none
def isAggDesc : Option TypeDesc → Bool
  | some (.struct _) => true
  | some (.array _ _) => true
  | _ => false

def absCall (P : Program) (c : Call) : Option AOp :=
  match c.callee with
  | .value (.func f) => (absOpds c.args.toList).map (.call f)
  | .value v => match absOpd v, absOpds c.args.toList with
    | some x, some xs => some (.callv x xs)
    | _, _ => none
  | .invoke _ _ => none
  | .builtin b => match b, c.argTypes.toList, c.args.toList with
    | .len, [t], [x] => match P.underlying t with
      | some .string => (absOpd x).map (.len 0)
      | some (.slice _) => (absOpd x).map (.len 1)
      | some (.map _ _) => (absOpd x).map (.len 2)
      | _ => none
    | .append, [t, u], [s, x] => match P.underlying t, P.underlying u, absOpd s, absOpd x with
      | some (.slice e), some (.slice _), some s, some x => match zcells P e, bytesT P e with
        | some zs, some bytes => if 0 < zs.length then some (.app zs.length bytes s x) else none
        | _, _ => none
      | _, _, _, _ => none
    | .copy, [t, u], [s, x] => match P.underlying t, P.underlying u, absOpd s, absOpd x with
      | some (.slice e), some (.slice _), some s, some x => match sizeT P e with
        | some size => some (.cpy size s x)
        | _ => none
      | _, _, _, _ => none
    | .clear, [t], [x] => match P.underlying t, absOpd x with
      | some (.slice e), some x => match zcells P e with
        | some zs => if 0 < zs.length then some (.clr zs x) else none
        | _ => none
      | _, _ => none
    | .delete, [t, _], [m, k] => match P.underlying t, absOpd m, absOpd k with
      | some (.map q _), some m, some k => (keyOk P q).map fun ks => .mdel ks m k
      | _, _, _ => none
    | .max, _, xs => (absOpds xs).map .mx
    | .min, _, xs => (absOpds xs).map .mn
    | .recover, _, [] => some .rcv
    | _, _, _ => none

/-- The abstract operation. -/
def absOp (P : Program) (o : Op) : Option AOp :=
  match o with
  | .move x => (absOpd x).map .mv
  | .assign x => (absOpd x).map .mv
  | .pick c a b => match absOpd c, absOpd a, absOpd b with
    | some c, some a, some b => some (.pick c a b)
    | _, _, _ => none
  | .alloc t => (zcells P t).map .alloc
  | .box _ x => (absOpd x).map .box
  | .build t ps => match zcells P t, P.underlying t with
    | some z, some (.struct fs) => match absParts (fun i => match fs[i]? with | some f => (sizeT P f.type).map fun n => (f.offset, n) | none => none) ps.toList with
      | some l => if fs.all fun f => (sizeT P f.type).isSome then some (.agg z l) else none
      | none => none
    | some z, some (.array _ e) => match sizeT P e with
      | some size => (absParts (fun i => some (i * size, size)) ps.toList).map (.agg z)
      | none => none
    | _, _ => none
  | .buildSlice t len ps => match P.underlying t with
    | some (.slice e) => match zcells P e with
      | some zs => if 0 < zs.length ∧ len * zs.length ≤ 16777216 then (absParts (fun i => some (i * zs.length, zs.length)) ps.toList).map (.mks zs len) else none
      | none => none
    | _ => none
  | .load t x => match aggT P t, sizeT P t, absOpd x with
    | some true, some n, some x => some (.ldn n x)
    | some false, some _, some x => some (.ld x)
    | _, _, _ => none
  | .store t x v => match sizeT P t, absOpd x, absOpd v with
    | some n, some x, some v => some (.st n x v)
    | _, _, _ => none
  | .nilCheck x => (absOpd x).map .nilck
  | .binOp op t x y _ => match absOpd x, absOpd y with
    | some a, some b => if isAggDesc (P.underlying t) then (if eqOp op ∧ P.eqGuardType P.depth t = false then (skel P 8 t).map fun sk => .eqa (op == .neq) sk a b else none) else (binTc P op t x y).map fun tc => .bin tc op a b
    | _, _ => none
  | .unOp op _ x => (absOpd x).map (.un op)
  | .convert s d x => match P.underlying s, P.underlying d, absOpd x with
    | some (.int _), some (.int k), some x => some (.convi k x)
    | some (.int _), some .string, some x => some (.convr x)
    | some .string, some (.slice e), some x => match P.underlying e with
      | some (.int .u8) => some (.convb x)
      | _ => none
    | _, _, _ => none
  | .makeInterface t x => match P.underlying t, absOpd x with
    | some (.interface _), _ => none
    | some _, some x => some (.mki x)
    | _, _ => none
  | .makeFunc (.func f) first caps => match absOpds first.toList, absOpds caps.toList with
    | some a, some c => some (.mkf f a c)
    | _, _ => none
  | .makeMap _ none => some .mkm
  | .makeSlice t l c => match P.underlying t with
    | some (.slice e) => match zcells P e, bytesT P e, absOpd l, absOpd c with
      | some zs, some bytes, some l, some c => if 0 < zs.length then some (.mksd zs bytes l c) else none
      | _, _, _, _ => none
    | _ => none
  | .slice t x lo hi mx => match P.underlying t, absOpd x, absOpt lo, absOpt hi, absOpt mx with
    | some .string, some x, some lo, some hi, some none => some (.slcs x lo hi)
    | some (.slice e), some x, some lo, some hi, some mx => (sizeT P e).map fun n => .slc n x lo hi mx
    | some (.array n e), some x, some lo, some hi, some none => (sizeT P e).map fun s => .slca n s x lo hi
    | _, _, _, _, _ => none
  | .fieldAddr t x f => match P.underlying t, absOpd x with
    | some (.struct fs), some x => match fs[f]? with
      | some f => match sizeT P f.type with
        | some n => if n = 0 then none else some (.fa f.offset x)
        | none => none
      | none => none
    | _, _ => none
  | .field t x f => match P.underlying t, absOpd x with
    | some (.struct fs), some x => match fs[f]? with
      | some f => match aggT P f.type, sizeT P f.type with
        | some true, some n => some (.fv f.offset (some n) x)
        | some false, some _ => some (.fv f.offset none x)
        | _, _ => none
      | none => none
    | _, _ => none
  | .indexAddr t x i => match P.underlying t, absOpd x, absOpd i with
    | some (.slice e), some x, some i => (sizeT P e).map fun n => .ixa n x i
    | some (.array n e), some x, some i => (sizeT P e).map fun s => .ixp n s x i
    | _, _, _ => none
  | .index t x i => match P.underlying t, absOpd x, absOpd i with
    | some .string, some x, some i => some (.ixs x i)
    | some (.array n e), some x, some i => match aggT P e, sizeT P e with
      | some true, some s => some (.ixv n (some s) x i)
      | some false, some s => if s = 1 then some (.ixv n none x i) else none
      | _, _ => none
    | _, _, _ => none
  | .lookup t m k ok => match P.underlying t, absOpd m, absOpd k with
    | some (.map q e), some m, some k => match keyOk P q with | some ks => (zval P e).map fun z => .lk ks z ok m k | none => none
    | _, _, _ => none
  | .mapUpdate t m k v => match P.underlying t, absOpd m, absOpd k, absOpd v with
    | some (.map q _), some m, some k, some v => (keyOk P q).map fun ks => .mup ks m k v
    | _, _, _, _ => none
  | .insert t m k v => match P.underlying t, absOpd m, absOpd k, absOpd v with
    | some (.map q _), some m, some k, some v => (keyOk P q).map fun ks => .mup ks m k v
    | _, _, _, _ => none
  | .range t x => match P.underlying t, absOpd x with
    | some .string, some x => some (.rng x)
    | _, _ => none
  | .next x true => (absOpd x).map .nxt
  | .extract x i => (absOpd x).map (.ext i)
  | .call c => absCall P c
  | .defer c => match c.callee, c.args.toList with
    | .value v, [] => (absOpd v).map .dfr
    | _, _ => none
  | .panic x => (absOpd x).map .pnc
  | _ => none
end Go.Proofs.YtjlebgfbohihfaaGreat.Am
