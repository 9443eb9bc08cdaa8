/- Bytes of the memory that was there before, as an argument. -/
import Derived.Test.YtdpielghjaehbaaLa
set_option linter.unusedVariables false
namespace Go.Proofs.Ytdpielghjaehbaa.Ev
open Go.RowKit

/-- Bytes that were there before. -/
def BytesIn (mem : Nat → Nat → Option Value) (x : AC) (l : List UInt8) : Prop :=
  (x = .sl0 ∧ l = []) ∨ ∃ a cap, x = .raw (.slice (some a) l.length cap) ∧ l.length ≤ cap ∧ ∀ (i : Nat) b, l[i]? = some b → a.spot = none ∧ mem a.block (a.off + i) = some (.int .u8 (b.toNat : Int))

/-- The first k of them. -/
theorem BytesIn.cut {mem : Nat → Nat → Option Value} {a : Addr} {cap k : Nat} {l : List UInt8} (hk : k < l.length) (hc : l.length ≤ cap) (h : ∀ (i : Nat) b, l[i]? = some b → a.spot = none ∧ mem a.block (a.off + i) = some (.int .u8 (b.toNat : Int))) :
    BytesIn mem (.raw (.slice (some a) k cap)) (l.take k) := by
  refine .inr ⟨a, cap, by rw [List.length_take, Nat.min_eq_left (by omega)], by rw [List.length_take]; omega, fun i b hb => ?_⟩
  rw [List.getElem?_take] at hb
  split at hb
  · exact h i b hb
  · cases hb

end Go.Proofs.Ytdpielghjaehbaa.Ev
