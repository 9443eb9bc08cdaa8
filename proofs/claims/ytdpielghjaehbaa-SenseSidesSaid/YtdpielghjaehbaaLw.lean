/- A byte's bounds, from a row's literal. -/
import Derived.Test.YtdpielghjaehbaaRows
set_option linter.unusedVariables false
namespace Go.Proofs.Ytdpielghjaehbaa.Ev

theorem wf_u8 {n : Int} (h : (Lit.int .u8 n).wf = true) : 0 ≤ n ∧ n < 256 := by
  simp only [Lit.wf, Bool.and_eq_true, decide_eq_true_eq] at h
  have h1 : IntKind.u8.min = 0 := rfl
  have h2 : IntKind.u8.max = 255 := rfl
  omega

end Go.Proofs.Ytdpielghjaehbaa.Ev
