/- Bytes of the memory that was there before, as an argument. -/
import Derived.Test.YtdpielghjaehbaaLa
set_option linter.unusedVariables false
namespace Go.Proofs.Ytdpielghjaehbaa.Ev
open Go.RowKit

/-- Bytes that were there before. -/
def BytesIn (mem : Nat → Nat → Option Value) (x : AC) (l : List UInt8) : Prop :=
  (x = .sl0 ∧ l = []) ∨ ∃ a cap, x = .raw (.slice (some a) l.length cap) ∧ ∀ (i : Nat) b, l[i]? = some b → a.spot = none ∧ mem a.block (a.off + i) = some (.int .u8 (b.toNat : Int))

end Go.Proofs.Ytdpielghjaehbaa.Ev
