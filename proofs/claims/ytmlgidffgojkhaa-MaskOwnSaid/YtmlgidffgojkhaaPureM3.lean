/- What the statements of masks ask whatever the input is: sure answers true. No conditions. -/
import Derived.Test.YtmlgidffgojkhaaPureM2
import Derived.Test.YtmlgidffgojkhaaQx5
namespace Go.Proofs.Ytmlgidffgojkhaa.Pure
set_option linter.unusedVariables false
open Go.RowKit Go.Proofs.Ytmlgidffgojkhaa.Q Go.Proofs.YtmlgidffgojkhaaW.PrintWords Go.Proofs.YtmlgidffgojkhaaW.PrintLast

theorem surely : lathelaw11_sure.f 30 = some true := by decide +kernel
theorem surely_k {k : Nat} (h : 30 ≤ k) : lathelaw11_sure.f k = some true := more lathelaw11_sure.mono surely h
end Go.Proofs.Ytmlgidffgojkhaa.Pure
