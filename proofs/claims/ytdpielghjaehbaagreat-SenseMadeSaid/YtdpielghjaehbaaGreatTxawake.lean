/- What regletlaw06.Read gives of one fixed text, by the evaluator and the kernel. -/
import Derived.Test.YtdpielghjaehbaaGreatEvRead
import Derived.Test.YtdpielghjaehbaaGreatTexts
namespace Go.Proofs.YtdpielghjaehbaaGreat
open Go.RowKit
theorem run_awake : Ev.readsAs Ev.env 3000 6 text_awake gram_awake = true := by kernel_rfl
theorem read_awake (w : World) : Calls Tryz.prog 6 #[.string ⟨text_awake.toArray⟩] w fun e w' => ∃ v, e = .returned v ∧ RulesAt w' w'.heap.size v gram_awake ∧ Below w.heap.size w w' := Ev.reads_ok run_awake w
end Go.Proofs.YtdpielghjaehbaaGreat
