/- What regletlaw06.Read gives of one fixed text, by the evaluator and the kernel. -/
import Derived.Test.YtdpielghjaehbaaEvRead
import Derived.Test.YtdpielghjaehbaaTexts
namespace Go.Proofs.Ytdpielghjaehbaa
open Go.RowKit
theorem run_awake : Ev.readsAs Ev.env 3000 13 text_awake gram_awake = true := by kernel_rfl
theorem read_awake (w : World) : Calls Try.prog 13 #[.string ⟨text_awake.toArray⟩] w fun e w' => ∃ v, e = .returned v ∧ RulesAt w' w'.heap.size v gram_awake ∧ Below w.heap.size w w' := Ev.reads_ok run_awake w
end Go.Proofs.Ytdpielghjaehbaa
