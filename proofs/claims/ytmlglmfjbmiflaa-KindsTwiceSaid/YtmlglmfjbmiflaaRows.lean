/-
  No cell of these rows narrows 'for every input' (looked for: loops, veiled, ifaces, maps, wideKeys, modest, calm, conditions, laid).
  DERIVED. THE GIVEN ROWS OF THIS SEAT. 2 by the template 'for every input the law returns true; each argument reads behind the call as it read before'; 0 by the template 'total and deterministic' (their statements: YtmlglmfjbmiflaaTotals.lean).
  GIVEN WITH THE SEED: the statements are not yours to turn. If you find one false, say at which input.
  Laid BY PROGRAM, IN A SANDBOX (cutbox-rows.mjs): the forced cells as the released guide's own fill.sh prints them over the translation ad9039bdbd475b77… (all of the seat's roots in one cut). By AI agents, Wed Nov 11 2026. No macro, syntax, notation, axiom, sorry.
-/
import Derived.Test.YtmlglmfjbmiflaaChecked
import GoSem.Claim
import GoSem.ClaimJoined
import GoSem.ClaimMapViews
import Derived.JoinedTies
import Derived.KernelRfl
namespace Go.Proofs.Ytmlglmfjbmiflaa
/- THE CELL 'sum', in the pinned program and in every row, IS THE sha256 OF THE DUMP (.gsa) THAT YtmlglmfjbmiflaaProg.lean LOADS. Nothing in Lean hashes anything: it is a label: what it is worth is what the hold of that sum in a sandbox is worth. -/
noncomputable def Try.pinned : Pinned := { name := "ytmlglmfjbmiflaa", sum := "ad9039bdbd475b7797398f6040ff07047a864bed5da7932133e0912288045f6a", checked := Try.checked }
namespace Rows
def none {H : Type} : Left H := { results := [], args := [] }

/-- 'paintboxlaw13.KindsFields': WHATEVER THE INPUT: true; the input reads as it did. -/
def kindsFieldsSpec : ChangeSpec := { name := "kindsFields", fn := fun _ => fun
  | [d1, d2] => { results := [.lit (.bool true)], args := [d1, d2] }
  | _ => none }
def kindsFieldsRow : OpenClaim := { program := "ytmlglmfjbmiflaa", sum := "ad9039bdbd475b7797398f6040ff07047a864bed5da7932133e0912288045f6a", func := "paintbox/paintboxlaw13.KindsFields", spec := "kindsFields", inPlace := ["internal/bytealg.IndexByteString", "internal/bytealg.IndexString"], named := ["internal/bytealg.MaxLen"], apart := false }
def KindsFieldsSaid : Prop := kindsFieldsRow.holds Try.pinned (OpenSpec.ofChange kindsFieldsSpec)

/-- ITS FALSE NEIGHBOUR: 'it returns false'. Refute it at one input. -/
def kindsFieldsWrong : ChangeSpec := { name := "kindsFields", fn := fun _ => fun
  | [d1, d2] => { results := [.lit (.bool false)], args := [d1, d2] }
  | _ => none }
def KindsFieldsWrongFalsely : Prop := kindsFieldsRow.holds Try.pinned (OpenSpec.ofChange kindsFieldsWrong)

/-- 'paintboxlaw13.KindsTwice': WHATEVER THE INPUT: true; the input reads as it did. -/
def kindsTwiceSpec : ChangeSpec := { name := "kindsTwice", fn := fun _ => fun
  | [d1, d2, d3] => { results := [.lit (.bool true)], args := [d1, d2, d3] }
  | _ => none }
def kindsTwiceRow : OpenClaim := { program := "ytmlglmfjbmiflaa", sum := "ad9039bdbd475b7797398f6040ff07047a864bed5da7932133e0912288045f6a", func := "paintbox/paintboxlaw13.KindsTwice", spec := "kindsTwice", inPlace := ["internal/bytealg.IndexByteString", "internal/bytealg.IndexString"], named := ["internal/bytealg.MaxLen"], apart := false }
def KindsTwiceSaid : Prop := kindsTwiceRow.holds Try.pinned (OpenSpec.ofChange kindsTwiceSpec)

/-- ITS FALSE NEIGHBOUR: 'it returns false'. Refute it at one input. -/
def kindsTwiceWrong : ChangeSpec := { name := "kindsTwice", fn := fun _ => fun
  | [d1, d2, d3] => { results := [.lit (.bool false)], args := [d1, d2, d3] }
  | _ => none }
def KindsTwiceWrongFalsely : Prop := kindsTwiceRow.holds Try.pinned (OpenSpec.ofChange kindsTwiceWrong)

/- THE SECOND FORM. 'bulk': how many values and letters a reading holds, each counted each time it is reached (what is shared counts as often as it is met; a slice's spare places count too). A statement '..UptoSaid' is the law's where the arguments, and the package variables that the reading takes, are together of bulk at most 1048576: NARROWER than '..Said'. Prove '..Said' where nothing that the law and all that it calls make is longer than what came in: it says more and counts as full. Else prove '..UptoSaid'. A law counts once. -/
mutual
def uptoBulk {H : Type} : DataW H → Nat
  | .lit (.string bytes) => bytes.length + 1
  | .lit _ => 1
  | .nil => 1
  | .ptr d => uptoBulk d + 1
  | .slice elems spare => uptoBulkAll elems + uptoBulkAll spare + 1
  | .agg parts => uptoBulkAll parts + 1
  | .iface _ d => uptoBulk d + 1
  | .map entries => uptoBulkEntries entries + 1
  | .held _ => 1
def uptoBulkAll {H : Type} : List (DataW H) → Nat
  | [] => 0
  | d :: r => uptoBulk d + uptoBulkAll r
def uptoBulkEntries {H : Type} : List (Lit × DataW H) → Nat
  | [] => 0
  | x :: r => uptoBulkEntry x + uptoBulkEntries r
def uptoBulkEntry {H : Type} : Lit × DataW H → Nat
  | (.string bytes, d) => bytes.length + uptoBulk d + 1
  | (_, d) => uptoBulk d + 1
 end
def uptoSmall : (H : Type) → List (DataW H) → Bool := fun _ ds => decide (uptoBulkAll ds ≤ 1048576)
def OpenSpec.upto (s : _root_.Go.ChangeSpec) : _root_.Go.OpenSpec := { _root_.Go.OpenSpec.ofChange s with cond := some uptoSmall }

/-- 'paintboxlaw13.KindsFields', WHERE WHAT IT READS IS OF BULK AT MOST 1048576: true; the input reads as it did. -/
def kindsFieldsUptoRow : OpenClaim := { program := "ytmlglmfjbmiflaa", sum := "ad9039bdbd475b7797398f6040ff07047a864bed5da7932133e0912288045f6a", func := "paintbox/paintboxlaw13.KindsFields", spec := "kindsFields", inPlace := ["internal/bytealg.IndexByteString", "internal/bytealg.IndexString"], named := ["internal/bytealg.MaxLen"], apart := false, narrowed := true }
def KindsFieldsUptoSaid : Prop := kindsFieldsUptoRow.holds Try.pinned (OpenSpec.upto kindsFieldsSpec)

/-- 'paintboxlaw13.KindsTwice', WHERE WHAT IT READS IS OF BULK AT MOST 1048576: true; the input reads as it did. -/
def kindsTwiceUptoRow : OpenClaim := { program := "ytmlglmfjbmiflaa", sum := "ad9039bdbd475b7797398f6040ff07047a864bed5da7932133e0912288045f6a", func := "paintbox/paintboxlaw13.KindsTwice", spec := "kindsTwice", inPlace := ["internal/bytealg.IndexByteString", "internal/bytealg.IndexString"], named := ["internal/bytealg.MaxLen"], apart := false, narrowed := true }
def KindsTwiceUptoSaid : Prop := kindsTwiceUptoRow.holds Try.pinned (OpenSpec.upto kindsTwiceSpec)

end Rows
end Go.Proofs.Ytmlglmfjbmiflaa
