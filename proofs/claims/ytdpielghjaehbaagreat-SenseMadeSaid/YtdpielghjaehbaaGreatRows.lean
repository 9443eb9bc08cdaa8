/-
  No cell of these rows narrows 'for every input' (looked for: loops, veiled, ifaces, maps, wideKeys, modest, calm, conditions, laid).
  DERIVED. THE GIVEN ROWS OF THIS SEAT. 3 by the template 'for every input the law returns true; each argument reads behind the call as it read before'; 0 by the template 'total and deterministic' (their statements: YtdpielghjaehbaaGreatTotals.lean).
  GIVEN WITH THE SEED: the statements are not yours to turn. If you find one false, say at which input.
  Laid BY PROGRAM, IN A SANDBOX (cutbox-rows.mjs): the forced cells as the released guide's own fill.sh prints them over the translation 8b8efb6b7750634d… (all of the seat's roots in one cut). By AI agents, Wed Nov 11 2026. No macro, syntax, notation, axiom, sorry.
-/
import Derived.Test.YtdpielghjaehbaaGreatChecked
import GoSem.Claim
import GoSem.ClaimJoined
import GoSem.ClaimMapViews
import Derived.JoinedTies
import Derived.KernelRfl
namespace Go.Proofs.YtdpielghjaehbaaGreat
/- THE CELL 'sum', in the pinned program and in every row, IS THE sha256 OF THE DUMP (.gsa) THAT YtdpielghjaehbaaGreatProg.lean LOADS. Nothing in Lean hashes anything: it is a label: what it is worth is what the hold of that sum in a sandbox is worth. -/
noncomputable def Tryz.pinned : Pinned := { name := "ytdpielghjaehbaagreat", sum := "8b8efb6b7750634d9fdc22f740d8b02aa0f82b2966389d2bee4c0b1103861996", checked := Tryz.checked }
namespace Rows
def none {H : Type} : Left H := { results := [], args := [] }

/-- 'regletlaw06.SenseGrammars': WHATEVER THE INPUT: true; the input reads as it did. -/
def senseGrammarsSpec : ChangeSpec := { name := "senseGrammars", fn := fun _ => fun
  | [d1, d2, d3] => { results := [.lit (.bool true)], args := [d1, d2, d3] }
  | _ => none }
def senseGrammarsRow : OpenClaim := { program := "ytdpielghjaehbaagreat", sum := "8b8efb6b7750634d9fdc22f740d8b02aa0f82b2966389d2bee4c0b1103861996", func := "reglet/regletlaw06.SenseGrammars", spec := "senseGrammars", inPlace := ["maps.clone"], unfollowed := true, recurses := true, plainKeys := false, apart := false }
def SenseGrammarsSaid : Prop := senseGrammarsRow.holds Tryz.pinned (OpenSpec.ofChange senseGrammarsSpec)

/-- ITS FALSE NEIGHBOUR: 'it returns false'. Refute it at one input. -/
def senseGrammarsWrong : ChangeSpec := { name := "senseGrammars", fn := fun _ => fun
  | [d1, d2, d3] => { results := [.lit (.bool false)], args := [d1, d2, d3] }
  | _ => none }
def SenseGrammarsWrongFalsely : Prop := senseGrammarsRow.holds Tryz.pinned (OpenSpec.ofChange senseGrammarsWrong)

/-- 'regletlaw06.SenseMade': WHATEVER THE INPUT: true; the input reads as it did. -/
def senseMadeSpec : ChangeSpec := { name := "senseMade", fn := fun _ => fun
  | [d1, d2, d3, d4] => { results := [.lit (.bool true)], args := [d1, d2, d3, d4] }
  | _ => none }
def senseMadeRow : OpenClaim := { program := "ytdpielghjaehbaagreat", sum := "8b8efb6b7750634d9fdc22f740d8b02aa0f82b2966389d2bee4c0b1103861996", func := "reglet/regletlaw06.SenseMade", spec := "senseMade", inPlace := ["maps.clone"], unfollowed := true, recurses := true, plainKeys := false, apart := false }
def SenseMadeSaid : Prop := senseMadeRow.holds Tryz.pinned (OpenSpec.ofChange senseMadeSpec)

/-- ITS FALSE NEIGHBOUR: 'it returns false'. Refute it at one input. -/
def senseMadeWrong : ChangeSpec := { name := "senseMade", fn := fun _ => fun
  | [d1, d2, d3, d4] => { results := [.lit (.bool false)], args := [d1, d2, d3, d4] }
  | _ => none }
def SenseMadeWrongFalsely : Prop := senseMadeRow.holds Tryz.pinned (OpenSpec.ofChange senseMadeWrong)

/-- 'regletlaw06.SenseSpans': WHATEVER THE INPUT: true; the input reads as it did. -/
def senseSpansSpec : ChangeSpec := { name := "senseSpans", fn := fun _ => fun
  | [d1, d2, d3, d4] => { results := [.lit (.bool true)], args := [d1, d2, d3, d4] }
  | _ => none }
def senseSpansRow : OpenClaim := { program := "ytdpielghjaehbaagreat", sum := "8b8efb6b7750634d9fdc22f740d8b02aa0f82b2966389d2bee4c0b1103861996", func := "reglet/regletlaw06.SenseSpans", spec := "senseSpans", inPlace := ["maps.clone"], unfollowed := true, recurses := true, plainKeys := false, apart := false }
def SenseSpansSaid : Prop := senseSpansRow.holds Tryz.pinned (OpenSpec.ofChange senseSpansSpec)

/-- ITS FALSE NEIGHBOUR: 'it returns false'. Refute it at one input. -/
def senseSpansWrong : ChangeSpec := { name := "senseSpans", fn := fun _ => fun
  | [d1, d2, d3, d4] => { results := [.lit (.bool false)], args := [d1, d2, d3, d4] }
  | _ => none }
def SenseSpansWrongFalsely : Prop := senseSpansRow.holds Tryz.pinned (OpenSpec.ofChange senseSpansWrong)

/- THE SECOND FORM. 'bulk': how many values and letters a reading holds, each counted each time it is reached (what is shared counts as often as it is met; a slice's spare places count too). A statement '..UptoSaid' is the law's where the arguments, and the package variables that the reading takes, are together of bulk at most 1048576: NARROWER than '..Said'. Prove '..Said' where nothing that the law and all that it calls make is longer than what came in: it says more and counts as full. Else prove '..UptoSaid'. A law counts once. -/
mutual
def uptoBulk {H : Type} : DataW H → Nat
  | .lit (.string bytes) => bytes.length + 1
  | .lit _ => 1
  | .nil => 1
  | .ptr d => uptoBulk d + 1
  | .slice elems spare => uptoBulkAll elems + uptoBulkAll spare + 1
  | .agg parts => uptoBulkAll parts + 1
  | .iface _ d => uptoBulk d + 1
  | .map entries => uptoBulkEntries entries + 1
  | .held _ => 1
def uptoBulkAll {H : Type} : List (DataW H) → Nat
  | [] => 0
  | d :: r => uptoBulk d + uptoBulkAll r
def uptoBulkEntries {H : Type} : List (Lit × DataW H) → Nat
  | [] => 0
  | x :: r => uptoBulkEntry x + uptoBulkEntries r
def uptoBulkEntry {H : Type} : Lit × DataW H → Nat
  | (.string bytes, d) => bytes.length + uptoBulk d + 1
  | (_, d) => uptoBulk d + 1
 end
def uptoSmall : (H : Type) → List (DataW H) → Bool := fun _ ds => decide (uptoBulkAll ds ≤ 1048576)
def OpenSpec.upto (s : _root_.Go.ChangeSpec) : _root_.Go.OpenSpec := { _root_.Go.OpenSpec.ofChange s with cond := some uptoSmall }

/-- 'regletlaw06.SenseGrammars', WHERE WHAT IT READS IS OF BULK AT MOST 1048576: true; the input reads as it did. -/
def senseGrammarsUptoRow : OpenClaim := { program := "ytdpielghjaehbaagreat", sum := "8b8efb6b7750634d9fdc22f740d8b02aa0f82b2966389d2bee4c0b1103861996", func := "reglet/regletlaw06.SenseGrammars", spec := "senseGrammars", inPlace := ["maps.clone"], unfollowed := true, recurses := true, plainKeys := false, apart := false, narrowed := true }
def SenseGrammarsUptoSaid : Prop := senseGrammarsUptoRow.holds Tryz.pinned (OpenSpec.upto senseGrammarsSpec)

/-- 'regletlaw06.SenseMade', WHERE WHAT IT READS IS OF BULK AT MOST 1048576: true; the input reads as it did. -/
def senseMadeUptoRow : OpenClaim := { program := "ytdpielghjaehbaagreat", sum := "8b8efb6b7750634d9fdc22f740d8b02aa0f82b2966389d2bee4c0b1103861996", func := "reglet/regletlaw06.SenseMade", spec := "senseMade", inPlace := ["maps.clone"], unfollowed := true, recurses := true, plainKeys := false, apart := false, narrowed := true }
def SenseMadeUptoSaid : Prop := senseMadeUptoRow.holds Tryz.pinned (OpenSpec.upto senseMadeSpec)

/-- 'regletlaw06.SenseSpans', WHERE WHAT IT READS IS OF BULK AT MOST 1048576: true; the input reads as it did. -/
def senseSpansUptoRow : OpenClaim := { program := "ytdpielghjaehbaagreat", sum := "8b8efb6b7750634d9fdc22f740d8b02aa0f82b2966389d2bee4c0b1103861996", func := "reglet/regletlaw06.SenseSpans", spec := "senseSpans", inPlace := ["maps.clone"], unfollowed := true, recurses := true, plainKeys := false, apart := false, narrowed := true }
def SenseSpansUptoSaid : Prop := senseSpansUptoRow.holds Tryz.pinned (OpenSpec.upto senseSpansSpec)

end Rows
end Go.Proofs.YtdpielghjaehbaaGreat
