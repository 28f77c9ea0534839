/-
  No cell of these rows narrows 'for every input' (looked for: loops, veiled, ifaces, maps, wideKeys, modest, calm, conditions, laid).
  DERIVED. THE GIVEN ROWS OF THIS SEAT. 3 by the template 'for every input the law returns true; each argument reads behind the call as it read before'; 0 by the template 'total and deterministic' (their statements: YtjlebgfbohihfaaGreatTotals.lean).
  GIVEN WITH THE SEED: the statements are not yours to turn. If you find one false, say at which input.
  Laid BY PROGRAM, IN A SANDBOX (cutbox-rows.mjs): the forced cells as the released guide's own fill.sh prints them over the translation f668cae978a74ca6… (all of the seat's roots in one cut). By AI agents, Wed Nov 11 2026. No macro, syntax, notation, axiom, sorry.
-/
import Derived.Test.YtjlebgfbohihfaaGreatChecked
import GoSem.Claim
import GoSem.ClaimJoined
import GoSem.ClaimMapViews
import Derived.JoinedTies
import Derived.KernelRfl
namespace Go.Proofs.YtjlebgfbohihfaaGreat
/- THE CELL 'sum', in the pinned program and in every row, IS THE sha256 OF THE DUMP (.gsa) THAT YtjlebgfbohihfaaGreatProg.lean LOADS. Nothing in Lean hashes anything: it is a label: what it is worth is what the hold of that sum in a sandbox is worth. -/
noncomputable def Tryz.pinned : Pinned := { name := "ytjlebgfbohihfaagreat", sum := "f668cae978a74ca61122e40dabaf9129b23de6e7ac3bc9ca89d438012ced0acd", checked := Tryz.checked }
namespace Rows
def none {H : Type} : Left H := { results := [], args := [] }

/-- 'paintboxlaw14.CheckWords': WHATEVER THE INPUT: true; the input reads as it did. -/
def checkWordsSpec : ChangeSpec := { name := "checkWords", fn := fun _ => fun
  | [d1, d2] => { results := [.lit (.bool true)], args := [d1, d2] }
  | _ => none }
def checkWordsRow : OpenClaim := { program := "ytjlebgfbohihfaagreat", sum := "f668cae978a74ca61122e40dabaf9129b23de6e7ac3bc9ca89d438012ced0acd", func := "paintbox/paintboxlaw14.CheckWords", spec := "checkWords", inPlace := ["internal/bytealg.CountString", "internal/bytealg.IndexByteString", "internal/bytealg.IndexString"], unfollowed := true, recurses := true, named := ["internal/bytealg.MaxLen"], apart := false }
def CheckWordsSaid : Prop := checkWordsRow.holds Tryz.pinned (OpenSpec.ofChange checkWordsSpec)

/-- ITS FALSE NEIGHBOUR: 'it returns false'. Refute it at one input. -/
def checkWordsWrong : ChangeSpec := { name := "checkWords", fn := fun _ => fun
  | [d1, d2] => { results := [.lit (.bool false)], args := [d1, d2] }
  | _ => none }
def CheckWordsWrongFalsely : Prop := checkWordsRow.holds Tryz.pinned (OpenSpec.ofChange checkWordsWrong)

/-- 'paintboxlaw15.SenseApplies': WHATEVER THE INPUT: true; the input reads as it did. -/
def senseAppliesSpec : ChangeSpec := { name := "senseApplies", fn := fun _ => fun
  | [d1, d2, d3] => { results := [.lit (.bool true)], args := [d1, d2, d3] }
  | _ => none }
def senseAppliesRow : OpenClaim := { program := "ytjlebgfbohihfaagreat", sum := "f668cae978a74ca61122e40dabaf9129b23de6e7ac3bc9ca89d438012ced0acd", func := "paintbox/paintboxlaw15.SenseApplies", spec := "senseApplies", inPlace := ["internal/bytealg.CountString", "internal/bytealg.IndexByteString", "internal/bytealg.IndexString", "math/bits.Add64"], unfollowed := true, recurses := true, named := ["internal/bytealg.MaxLen"], apart := false }
def SenseAppliesSaid : Prop := senseAppliesRow.holds Tryz.pinned (OpenSpec.ofChange senseAppliesSpec)

/-- ITS FALSE NEIGHBOUR: 'it returns false'. Refute it at one input. -/
def senseAppliesWrong : ChangeSpec := { name := "senseApplies", fn := fun _ => fun
  | [d1, d2, d3] => { results := [.lit (.bool false)], args := [d1, d2, d3] }
  | _ => none }
def SenseAppliesWrongFalsely : Prop := senseAppliesRow.holds Tryz.pinned (OpenSpec.ofChange senseAppliesWrong)

/-- 'paintboxlaw15.SenseConverts': WHATEVER THE INPUT: true; the input reads as it did. -/
def senseConvertsSpec : ChangeSpec := { name := "senseConverts", fn := fun _ => fun
  | [d1, d2, d3] => { results := [.lit (.bool true)], args := [d1, d2, d3] }
  | _ => none }
def senseConvertsRow : OpenClaim := { program := "ytjlebgfbohihfaagreat", sum := "f668cae978a74ca61122e40dabaf9129b23de6e7ac3bc9ca89d438012ced0acd", func := "paintbox/paintboxlaw15.SenseConverts", spec := "senseConverts", inPlace := ["internal/bytealg.CountString", "internal/bytealg.IndexByteString", "internal/bytealg.IndexString", "math/bits.Add64"], unfollowed := true, recurses := true, named := ["internal/bytealg.MaxLen"], apart := false }
def SenseConvertsSaid : Prop := senseConvertsRow.holds Tryz.pinned (OpenSpec.ofChange senseConvertsSpec)

/-- ITS FALSE NEIGHBOUR: 'it returns false'. Refute it at one input. -/
def senseConvertsWrong : ChangeSpec := { name := "senseConverts", fn := fun _ => fun
  | [d1, d2, d3] => { results := [.lit (.bool false)], args := [d1, d2, d3] }
  | _ => none }
def SenseConvertsWrongFalsely : Prop := senseConvertsRow.holds Tryz.pinned (OpenSpec.ofChange senseConvertsWrong)

/- THE SECOND FORM. 'bulk': how many values and letters a reading holds, each counted each time it is reached (what is shared counts as often as it is met; a slice's spare places count too). A statement '..UptoSaid' is the law's where the arguments, and the package variables that the reading takes, are together of bulk at most 1048576: NARROWER than '..Said'. Prove '..Said' where nothing that the law and all that it calls make is longer than what came in: it says more and counts as full. Else prove '..UptoSaid'. A law counts once. -/
mutual
def uptoBulk {H : Type} : DataW H → Nat
  | .lit (.string bytes) => bytes.length + 1
  | .lit _ => 1
  | .nil => 1
  | .ptr d => uptoBulk d + 1
  | .slice elems spare => uptoBulkAll elems + uptoBulkAll spare + 1
  | .agg parts => uptoBulkAll parts + 1
  | .iface _ d => uptoBulk d + 1
  | .map entries => uptoBulkEntries entries + 1
  | .held _ => 1
def uptoBulkAll {H : Type} : List (DataW H) → Nat
  | [] => 0
  | d :: r => uptoBulk d + uptoBulkAll r
def uptoBulkEntries {H : Type} : List (Lit × DataW H) → Nat
  | [] => 0
  | x :: r => uptoBulkEntry x + uptoBulkEntries r
def uptoBulkEntry {H : Type} : Lit × DataW H → Nat
  | (.string bytes, d) => bytes.length + uptoBulk d + 1
  | (_, d) => uptoBulk d + 1
 end
def uptoSmall : (H : Type) → List (DataW H) → Bool := fun _ ds => decide (uptoBulkAll ds ≤ 1048576)
def OpenSpec.upto (s : _root_.Go.ChangeSpec) : _root_.Go.OpenSpec := { _root_.Go.OpenSpec.ofChange s with cond := some uptoSmall }

/-- 'paintboxlaw14.CheckWords', WHERE WHAT IT READS IS OF BULK AT MOST 1048576: true; the input reads as it did. -/
def checkWordsUptoRow : OpenClaim := { program := "ytjlebgfbohihfaagreat", sum := "f668cae978a74ca61122e40dabaf9129b23de6e7ac3bc9ca89d438012ced0acd", func := "paintbox/paintboxlaw14.CheckWords", spec := "checkWords", inPlace := ["internal/bytealg.CountString", "internal/bytealg.IndexByteString", "internal/bytealg.IndexString"], unfollowed := true, recurses := true, named := ["internal/bytealg.MaxLen"], apart := false, narrowed := true }
def CheckWordsUptoSaid : Prop := checkWordsUptoRow.holds Tryz.pinned (OpenSpec.upto checkWordsSpec)

/-- 'paintboxlaw15.SenseApplies', WHERE WHAT IT READS IS OF BULK AT MOST 1048576: true; the input reads as it did. -/
def senseAppliesUptoRow : OpenClaim := { program := "ytjlebgfbohihfaagreat", sum := "f668cae978a74ca61122e40dabaf9129b23de6e7ac3bc9ca89d438012ced0acd", func := "paintbox/paintboxlaw15.SenseApplies", spec := "senseApplies", inPlace := ["internal/bytealg.CountString", "internal/bytealg.IndexByteString", "internal/bytealg.IndexString", "math/bits.Add64"], unfollowed := true, recurses := true, named := ["internal/bytealg.MaxLen"], apart := false, narrowed := true }
def SenseAppliesUptoSaid : Prop := senseAppliesUptoRow.holds Tryz.pinned (OpenSpec.upto senseAppliesSpec)

/-- 'paintboxlaw15.SenseConverts', WHERE WHAT IT READS IS OF BULK AT MOST 1048576: true; the input reads as it did. -/
def senseConvertsUptoRow : OpenClaim := { program := "ytjlebgfbohihfaagreat", sum := "f668cae978a74ca61122e40dabaf9129b23de6e7ac3bc9ca89d438012ced0acd", func := "paintbox/paintboxlaw15.SenseConverts", spec := "senseConverts", inPlace := ["internal/bytealg.CountString", "internal/bytealg.IndexByteString", "internal/bytealg.IndexString", "math/bits.Add64"], unfollowed := true, recurses := true, named := ["internal/bytealg.MaxLen"], apart := false, narrowed := true }
def SenseConvertsUptoSaid : Prop := senseConvertsUptoRow.holds Tryz.pinned (OpenSpec.upto senseConvertsSpec)

end Rows
end Go.Proofs.YtjlebgfbohihfaaGreat
