/- What regletlaw06.Read gives of one fixed text, by the evaluator and the kernel. -/
import Derived.Test.YtdpielghjaehbaaEvRead
import Derived.Test.YtdpielghjaehbaaTexts
namespace Go.Proofs.Ytdpielghjaehbaa
open Go.RowKit
theorem run_g7 : Ev.readsAs Ev.env 3000 13 text_g7 gram_g7 = true := by kernel_rfl
theorem read_g7 (w : World) : Calls Try.prog 13 #[.string ⟨text_g7.toArray⟩] w fun e w' => ∃ v, e = .returned v ∧ RulesAt w' w'.heap.size v gram_g7 ∧ Below w.heap.size w w' := Ev.reads_ok run_g7 w
end Go.Proofs.Ytdpielghjaehbaa
