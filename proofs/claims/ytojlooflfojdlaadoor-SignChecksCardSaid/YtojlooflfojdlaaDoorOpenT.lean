/- Each struct type of this translation that a law takes, opened: a value that reads as data is a Lean value of its kind, within the reading's own bounds. Conditions: none. -/
import Derived.Test.YtojlooflfojdlaaDoorQx0
import Derived.Test.YtojlooflfojdlaaDoorOpen
namespace Go.Proofs.YtojlooflfojdlaaDoor.Q
open Go.RowKit Go.Proofs.YtojlooflfojdlaaDoor.Opens Go.Proofs.YtojlooflfojdlaaDoorW.PrintWords
set_option linter.unusedVariables false
set_option maxRecDepth 100000
def ok39 (x : S39) : Prop := x.f0.size ≤ 140737488351232 ∧ (Lit.int .i64 x.f1).wf = true ∧ (Lit.int .i64 x.f2).wf = true
theorem opens39 (n : Nat) : OpensN Tryd.prog n 39 k39 ok39 := opens_iso (g := fun a => ⟨a.1, a.2.1, a.2.2⟩) (f := fun x : S39 => (x.f0, x.f1, x.f2)) (B := fun a => a.1.size ≤ 140737488351232 ∧ (Lit.int .i64 a.2.1).wf = true ∧ (Lit.int .i64 a.2.2).wf = true) (fun _ => rfl) (opens_struct Tryd.underlying39 (by exact (show Tryd.prog.cellsOf 39 = 3 by kernel_rfl)) (fun m_ hm_ => (opens_cons rfl (by exact (show Tryd.prog.cellsOf 9 = 1 by kernel_rfl)) (opens_string Tryd.underlying9) (opens_cons rfl (by exact (show Tryd.prog.cellsOf 3 = 1 by kernel_rfl)) (opens_int Tryd.underlying3) (opens_one rfl (by exact (show Tryd.prog.cellsOf 3 = 1 by kernel_rfl)) (opens_int Tryd.underlying3))))))
end Go.Proofs.YtojlooflfojdlaaDoor.Q
