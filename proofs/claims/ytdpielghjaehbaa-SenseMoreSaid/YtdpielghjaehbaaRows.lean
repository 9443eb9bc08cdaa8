/-
  No cell of these rows narrows 'for every input' (looked for: loops, veiled, ifaces, maps, wideKeys, modest, calm, conditions, laid).
  DERIVED. THE GIVEN ROWS OF THIS SEAT. 5 by the template 'for every input the law returns true; each argument reads behind the call as it read before'; 0 by the template 'total and deterministic' (their statements: YtdpielghjaehbaaTotals.lean).
  GIVEN WITH THE SEED: the statements are not yours to turn. If you find one false, say at which input.
  Laid BY PROGRAM, IN A SANDBOX (cutbox-rows.mjs): the forced cells as the released guide's own fill.sh prints them over the translation 66ad5b41e848f4a3… (all of the seat's roots in one cut). By AI agents, Wed Nov 11 2026. No macro, syntax, notation, axiom, sorry.
-/
import Derived.Test.YtdpielghjaehbaaChecked
import GoSem.Claim
import GoSem.ClaimJoined
import GoSem.ClaimMapViews
import Derived.JoinedTies
import Derived.KernelRfl
namespace Go.Proofs.Ytdpielghjaehbaa
/- THE CELL 'sum', in the pinned program and in every row, IS THE sha256 OF THE DUMP (.gsa) THAT YtdpielghjaehbaaProg.lean LOADS. Nothing in Lean hashes anything: it is a label: what it is worth is what the hold of that sum in a sandbox is worth. -/
noncomputable def Try.pinned : Pinned := { name := "ytdpielghjaehbaa", sum := "66ad5b41e848f4a36d029f52a66a365c301902d7fc852990e3e126f9973dbf20", checked := Try.checked }
namespace Rows
def none {H : Type} : Left H := { results := [], args := [] }

/-- 'regletlaw06.SenseBytes': WHATEVER THE INPUT: true; the input reads as it did. -/
def senseBytesSpec : ChangeSpec := { name := "senseBytes", fn := fun _ => fun
  | [d1, d2] => { results := [.lit (.bool true)], args := [d1, d2] }
  | _ => none }
def senseBytesRow : OpenClaim := { program := "ytdpielghjaehbaa", sum := "66ad5b41e848f4a36d029f52a66a365c301902d7fc852990e3e126f9973dbf20", func := "reglet/regletlaw06.SenseBytes", spec := "senseBytes", inPlace := ["maps.clone"], unfollowed := true, recurses := true, plainKeys := false, apart := false }
def SenseBytesSaid : Prop := senseBytesRow.holds Try.pinned (OpenSpec.ofChange senseBytesSpec)

/-- ITS FALSE NEIGHBOUR: 'it returns false'. Refute it at one input. -/
def senseBytesWrong : ChangeSpec := { name := "senseBytes", fn := fun _ => fun
  | [d1, d2] => { results := [.lit (.bool false)], args := [d1, d2] }
  | _ => none }
def SenseBytesWrongFalsely : Prop := senseBytesRow.holds Try.pinned (OpenSpec.ofChange senseBytesWrong)

/-- 'regletlaw06.SenseSides': WHATEVER THE INPUT: true; the input reads as it did. -/
def senseSidesSpec : ChangeSpec := { name := "senseSides", fn := fun _ => fun
  | [d] => { results := [.lit (.bool true)], args := [d] }
  | _ => none }
def senseSidesRow : OpenClaim := { program := "ytdpielghjaehbaa", sum := "66ad5b41e848f4a36d029f52a66a365c301902d7fc852990e3e126f9973dbf20", func := "reglet/regletlaw06.SenseSides", spec := "senseSides", inPlace := ["maps.clone"], unfollowed := true, recurses := true, plainKeys := false, apart := false }
def SenseSidesSaid : Prop := senseSidesRow.holds Try.pinned (OpenSpec.ofChange senseSidesSpec)

/-- ITS FALSE NEIGHBOUR: 'it returns false'. Refute it at one input. -/
def senseSidesWrong : ChangeSpec := { name := "senseSides", fn := fun _ => fun
  | [d] => { results := [.lit (.bool false)], args := [d] }
  | _ => none }
def SenseSidesWrongFalsely : Prop := senseSidesRow.holds Try.pinned (OpenSpec.ofChange senseSidesWrong)

/-- 'regletlaw06.SenseMore': WHATEVER THE INPUT: true; the input reads as it did. -/
def senseMoreSpec : ChangeSpec := { name := "senseMore", fn := fun _ => fun
  | [d1, d2, d3] => { results := [.lit (.bool true)], args := [d1, d2, d3] }
  | _ => none }
def senseMoreRow : OpenClaim := { program := "ytdpielghjaehbaa", sum := "66ad5b41e848f4a36d029f52a66a365c301902d7fc852990e3e126f9973dbf20", func := "reglet/regletlaw06.SenseMore", spec := "senseMore", inPlace := ["maps.clone"], unfollowed := true, recurses := true, plainKeys := false, apart := false }
def SenseMoreSaid : Prop := senseMoreRow.holds Try.pinned (OpenSpec.ofChange senseMoreSpec)

/-- ITS FALSE NEIGHBOUR: 'it returns false'. Refute it at one input. -/
def senseMoreWrong : ChangeSpec := { name := "senseMore", fn := fun _ => fun
  | [d1, d2, d3] => { results := [.lit (.bool false)], args := [d1, d2, d3] }
  | _ => none }
def SenseMoreWrongFalsely : Prop := senseMoreRow.holds Try.pinned (OpenSpec.ofChange senseMoreWrong)

/-- 'regletlaw06.SenseRepeats': WHATEVER THE INPUT: true; the input reads as it did. -/
def senseRepeatsSpec : ChangeSpec := { name := "senseRepeats", fn := fun _ => fun
  | [d1, d2, d3, d4] => { results := [.lit (.bool true)], args := [d1, d2, d3, d4] }
  | _ => none }
def senseRepeatsRow : OpenClaim := { program := "ytdpielghjaehbaa", sum := "66ad5b41e848f4a36d029f52a66a365c301902d7fc852990e3e126f9973dbf20", func := "reglet/regletlaw06.SenseRepeats", spec := "senseRepeats", inPlace := ["maps.clone"], unfollowed := true, recurses := true, plainKeys := false, apart := false }
def SenseRepeatsSaid : Prop := senseRepeatsRow.holds Try.pinned (OpenSpec.ofChange senseRepeatsSpec)

/-- ITS FALSE NEIGHBOUR: 'it returns false'. Refute it at one input. -/
def senseRepeatsWrong : ChangeSpec := { name := "senseRepeats", fn := fun _ => fun
  | [d1, d2, d3, d4] => { results := [.lit (.bool false)], args := [d1, d2, d3, d4] }
  | _ => none }
def SenseRepeatsWrongFalsely : Prop := senseRepeatsRow.holds Try.pinned (OpenSpec.ofChange senseRepeatsWrong)

/-- 'regletlaw06.SenseBrackets': WHATEVER THE INPUT: true; the input reads as it did. -/
def senseBracketsSpec : ChangeSpec := { name := "senseBrackets", fn := fun _ => fun
  | [d] => { results := [.lit (.bool true)], args := [d] }
  | _ => none }
def senseBracketsRow : OpenClaim := { program := "ytdpielghjaehbaa", sum := "66ad5b41e848f4a36d029f52a66a365c301902d7fc852990e3e126f9973dbf20", func := "reglet/regletlaw06.SenseBrackets", spec := "senseBrackets", inPlace := ["maps.clone"], unfollowed := true, recurses := true, plainKeys := false, apart := false }
def SenseBracketsSaid : Prop := senseBracketsRow.holds Try.pinned (OpenSpec.ofChange senseBracketsSpec)

/-- ITS FALSE NEIGHBOUR: 'it returns false'. Refute it at one input. -/
def senseBracketsWrong : ChangeSpec := { name := "senseBrackets", fn := fun _ => fun
  | [d] => { results := [.lit (.bool false)], args := [d] }
  | _ => none }
def SenseBracketsWrongFalsely : Prop := senseBracketsRow.holds Try.pinned (OpenSpec.ofChange senseBracketsWrong)

/- THE SECOND FORM. 'bulk': how many values and letters a reading holds, each counted each time it is reached (what is shared counts as often as it is met; a slice's spare places count too). A statement '..UptoSaid' is the law's where the arguments, and the package variables that the reading takes, are together of bulk at most 1048576: NARROWER than '..Said'. Prove '..Said' where nothing that the law and all that it calls make is longer than what came in: it says more and counts as full. Else prove '..UptoSaid'. A law counts once. -/
mutual
def uptoBulk {H : Type} : DataW H → Nat
  | .lit (.string bytes) => bytes.length + 1
  | .lit _ => 1
  | .nil => 1
  | .ptr d => uptoBulk d + 1
  | .slice elems spare => uptoBulkAll elems + uptoBulkAll spare + 1
  | .agg parts => uptoBulkAll parts + 1
  | .iface _ d => uptoBulk d + 1
  | .map entries => uptoBulkEntries entries + 1
  | .held _ => 1
def uptoBulkAll {H : Type} : List (DataW H) → Nat
  | [] => 0
  | d :: r => uptoBulk d + uptoBulkAll r
def uptoBulkEntries {H : Type} : List (Lit × DataW H) → Nat
  | [] => 0
  | x :: r => uptoBulkEntry x + uptoBulkEntries r
def uptoBulkEntry {H : Type} : Lit × DataW H → Nat
  | (.string bytes, d) => bytes.length + uptoBulk d + 1
  | (_, d) => uptoBulk d + 1
 end
def uptoSmall : (H : Type) → List (DataW H) → Bool := fun _ ds => decide (uptoBulkAll ds ≤ 1048576)
def OpenSpec.upto (s : _root_.Go.ChangeSpec) : _root_.Go.OpenSpec := { _root_.Go.OpenSpec.ofChange s with cond := some uptoSmall }

/-- 'regletlaw06.SenseBytes', WHERE WHAT IT READS IS OF BULK AT MOST 1048576: true; the input reads as it did. -/
def senseBytesUptoRow : OpenClaim := { program := "ytdpielghjaehbaa", sum := "66ad5b41e848f4a36d029f52a66a365c301902d7fc852990e3e126f9973dbf20", func := "reglet/regletlaw06.SenseBytes", spec := "senseBytes", inPlace := ["maps.clone"], unfollowed := true, recurses := true, plainKeys := false, apart := false, narrowed := true }
def SenseBytesUptoSaid : Prop := senseBytesUptoRow.holds Try.pinned (OpenSpec.upto senseBytesSpec)

/-- 'regletlaw06.SenseSides', WHERE WHAT IT READS IS OF BULK AT MOST 1048576: true; the input reads as it did. -/
def senseSidesUptoRow : OpenClaim := { program := "ytdpielghjaehbaa", sum := "66ad5b41e848f4a36d029f52a66a365c301902d7fc852990e3e126f9973dbf20", func := "reglet/regletlaw06.SenseSides", spec := "senseSides", inPlace := ["maps.clone"], unfollowed := true, recurses := true, plainKeys := false, apart := false, narrowed := true }
def SenseSidesUptoSaid : Prop := senseSidesUptoRow.holds Try.pinned (OpenSpec.upto senseSidesSpec)

/-- 'regletlaw06.SenseMore', WHERE WHAT IT READS IS OF BULK AT MOST 1048576: true; the input reads as it did. -/
def senseMoreUptoRow : OpenClaim := { program := "ytdpielghjaehbaa", sum := "66ad5b41e848f4a36d029f52a66a365c301902d7fc852990e3e126f9973dbf20", func := "reglet/regletlaw06.SenseMore", spec := "senseMore", inPlace := ["maps.clone"], unfollowed := true, recurses := true, plainKeys := false, apart := false, narrowed := true }
def SenseMoreUptoSaid : Prop := senseMoreUptoRow.holds Try.pinned (OpenSpec.upto senseMoreSpec)

/-- 'regletlaw06.SenseRepeats', WHERE WHAT IT READS IS OF BULK AT MOST 1048576: true; the input reads as it did. -/
def senseRepeatsUptoRow : OpenClaim := { program := "ytdpielghjaehbaa", sum := "66ad5b41e848f4a36d029f52a66a365c301902d7fc852990e3e126f9973dbf20", func := "reglet/regletlaw06.SenseRepeats", spec := "senseRepeats", inPlace := ["maps.clone"], unfollowed := true, recurses := true, plainKeys := false, apart := false, narrowed := true }
def SenseRepeatsUptoSaid : Prop := senseRepeatsUptoRow.holds Try.pinned (OpenSpec.upto senseRepeatsSpec)

/-- 'regletlaw06.SenseBrackets', WHERE WHAT IT READS IS OF BULK AT MOST 1048576: true; the input reads as it did. -/
def senseBracketsUptoRow : OpenClaim := { program := "ytdpielghjaehbaa", sum := "66ad5b41e848f4a36d029f52a66a365c301902d7fc852990e3e126f9973dbf20", func := "reglet/regletlaw06.SenseBrackets", spec := "senseBrackets", inPlace := ["maps.clone"], unfollowed := true, recurses := true, plainKeys := false, apart := false, narrowed := true }
def SenseBracketsUptoSaid : Prop := senseBracketsUptoRow.holds Try.pinned (OpenSpec.upto senseBracketsSpec)

end Rows
end Go.Proofs.Ytdpielghjaehbaa
