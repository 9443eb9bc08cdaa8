/- What regletlaw06.Read gives of one fixed text, by the evaluator and the kernel. -/
import Derived.Test.YtdpielghjaehbaaEvRead
import Derived.Test.YtdpielghjaehbaaTexts
namespace Go.Proofs.Ytdpielghjaehbaa
open Go.RowKit
theorem run_g2 : Ev.readsAs Ev.env 3000 13 text_g2 gram_g2 = true := by kernel_rfl
theorem read_g2 (w : World) : Calls Try.prog 13 #[.string ⟨text_g2.toArray⟩] w fun e w' => ∃ v, e = .returned v ∧ RulesAt w' w'.heap.size v gram_g2 ∧ Below w.heap.size w w' := Ev.reads_ok run_g2 w
end Go.Proofs.Ytdpielghjaehbaa
