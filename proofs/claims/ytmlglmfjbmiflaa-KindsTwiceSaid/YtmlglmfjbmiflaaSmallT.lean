import Derived.Test.YtmlglmfjbmiflaaSmall
import Derived.Laws.StandIn
namespace Go.Proofs.Ytmlglmfjbmiflaa.Am
/-- Where a byte stands first in a string. -/
def specIndexByte : List AVal → Hp → Option (AVal × Hp)
  | [.c (.str s), .c (.int .u8 n)], h => some (.c (.int .i64 (Go.firstIdx ⟨s.toArray⟩ n.toNat.toUInt8)), h)
  | _, _ => none
def TS : TT := (br (br (br (br (lf 3 F3) 4 F4 (lf 5 F5)) 6 F6 (br (lf 7 F7) 8 F8 (lf 9 F9))) 10 F10 (br (br (lf 11 F11) 12 F12 (lf 13 F13)) 14 F14 (br (lf 15 F15) 16 F16 .e))) 17 F17 (br (br (br (lf 18 F18) 19 F19 (lf 20 F20)) 21 F21 (br (lf 22 F22) 23 F23 (lf 24 F24))) 25 F25 (br (br (lf 26 F26) 27 F27 (.n .e 28 (.spec specIndexByte) .e)) 30 F30 (br (lf 31 F31) 32 F32 .e))))
end Go.Proofs.Ytmlglmfjbmiflaa.Am
