/- What regletlaw06.Read gives of one fixed text, by the evaluator and the kernel. -/
import Derived.Test.YtdpielghjaehbaaGreatEvRead
import Derived.Test.YtdpielghjaehbaaGreatTexts
namespace Go.Proofs.YtdpielghjaehbaaGreat
open Go.RowKit
theorem run_g8 : Ev.readsAs Ev.env 3000 6 text_g8 gram_g8 = true := by kernel_rfl
theorem read_g8 (w : World) : Calls Tryz.prog 6 #[.string ⟨text_g8.toArray⟩] w fun e w' => ∃ v, e = .returned v ∧ RulesAt w' w'.heap.size v gram_g8 ∧ Below w.heap.size w w' := Ev.reads_ok run_g8 w
end Go.Proofs.YtdpielghjaehbaaGreat
