/- The statement BitsConsts over the printed Lean functions: it answers true. No conditions. -/
import Derived.Test.YtjmhlmfiodhjhaaPureA
namespace Go.Proofs.Ytjmhlmfiodhjhaa.Pure
set_option linter.unusedVariables false
open Go.RowKit Go.Proofs.Ytjmhlmfiodhjhaa.Q Go.Proofs.YtjmhlmfiodhjhaaW.PrintWords Go.Proofs.YtjmhlmfiodhjhaaW.PrintLast

theorem BitsConsts : lathelaw01_BitsConsts.Pure := by
  refine ⟨20, ?_⟩
  unfold lathelaw01_BitsConsts.f
  rw [surely]; rfl

end Go.Proofs.Ytjmhlmfiodhjhaa.Pure
