/- The pure form of SignPrints: for every argument the law's Lean function answers true. Conditions: those that the theorem names. -/
import Derived.Test.YtojlooflfojdlaaDoorSignE
import Derived.Test.YtojlooflfojdlaaDoorOpenT
namespace Go.Proofs.YtojlooflfojdlaaDoor.Pure
set_option linter.unusedVariables false
open Go.RowKit Go.Proofs.YtojlooflfojdlaaDoor.Q Go.Proofs.YtojlooflfojdlaaDoorW.PrintWords Go.Proofs.YtojlooflfojdlaaDoorW.PrintLast

theorem SignPrints (l0 : (List S39)) (b0 : (l0.length * Tryd.prog.bytesOf 39 ≤ 140737488351232 ∧ ∀ x_ ∈ l0, ok39 x_)) : ∃ k, lathelaw10_SignPrints.f k l0 = some true := by
  obtain ⟨K1, h1⟩ := print_ev l0
  obtain ⟨K2, h2⟩ := rprint_ev l0
  obtain ⟨K4, h4⟩ := works_ev
  refine ⟨K1 + K2 + K4, ?_⟩
  have g1 := h1 (K1 + K2 + K4) (by omega)
  have g2 := h2 (K1 + K2 + K4) (by omega)
  have g4 := h4 (K1 + K2 + K4) (by omega)
  generalize K1 + K2 + K4 = k at *
  dsimp only at g1 g2 g4
  unfold lathelaw10_SignPrints.f
  rw [g1, Option.bind_some, g2, Option.bind_some, if_pos rfl, if_pos rfl, g4, Option.bind_some]

end Go.Proofs.YtojlooflfojdlaaDoor.Pure
