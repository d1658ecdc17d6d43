/- The pure form of SignReads: for every argument the law's Lean function answers true. Conditions: those that the theorem names. -/
import Derived.Test.YtojlooflfojdlaaDoorSignE
import Derived.Test.YtojlooflfojdlaaDoorOpenT
namespace Go.Proofs.YtojlooflfojdlaaDoor.Pure
set_option linter.unusedVariables false
open Go.RowKit Go.Proofs.YtojlooflfojdlaaDoor.Q Go.Proofs.YtojlooflfojdlaaDoorW.PrintWords Go.Proofs.YtojlooflfojdlaaDoorW.PrintLast

theorem SignReads (a0 : ByteArray) (b0 : a0.size ≤ 140737488351232) : ∃ k, lathelaw10_SignReads.f k a0 = some true := by
  obtain ⟨K1, h1⟩ := parse_ev a0
  obtain ⟨K2, h2⟩ := rparse_ev a0
  obtain ⟨K3, h3⟩ := same_ev (readP a0).1 (by have := (readP_props a0).1; omega)
  obtain ⟨K4, h4⟩ := works_ev
  refine ⟨K1 + K2 + K3 + K4, ?_⟩
  have g1 := h1 (K1 + K2 + K3 + K4) (by omega)
  have g2 := h2 (K1 + K2 + K3 + K4) (by omega)
  have g3 := h3 (K1 + K2 + K3 + K4) (by omega)
  have g4 := h4 (K1 + K2 + K3 + K4) (by omega)
  generalize K1 + K2 + K3 + K4 = k at *
  dsimp only at g1 g2 g3 g4
  unfold lathelaw10_SignReads.f
  rw [g1, Option.bind_some, g2, Option.bind_some, g3, Option.bind_some, if_pos rfl, if_pos rfl, if_pos rfl, g4, Option.bind_some]

end Go.Proofs.YtojlooflfojdlaaDoor.Pure
