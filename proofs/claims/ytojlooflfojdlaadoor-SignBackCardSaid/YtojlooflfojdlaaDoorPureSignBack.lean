/- The pure form of SignBack: for every argument the law's Lean function answers true. Conditions: those that the theorem names. -/
import Derived.Test.YtojlooflfojdlaaDoorSignE
import Derived.Test.YtojlooflfojdlaaDoorOpenT
namespace Go.Proofs.YtojlooflfojdlaaDoor.Pure
set_option linter.unusedVariables false
open Go.RowKit Go.Proofs.YtojlooflfojdlaaDoor.Q Go.Proofs.YtojlooflfojdlaaDoorW.PrintWords Go.Proofs.YtojlooflfojdlaaDoorW.PrintLast

theorem back_j0 (s : ByteArray) : Ev (fun k => lathelaw10_SignBack.j0 k s) true := by
  obtain ⟨K1, h1⟩ := parse_ev s
  obtain ⟨K2, h2⟩ := print_ev (readP s).1
  obtain ⟨K3, h3⟩ := parse_ev (text (readP s).1)
  obtain ⟨K4, h4⟩ := check_ev (readP s).1
  obtain ⟨K5, h5⟩ := same_ev (readP s).1 (by have := (readP_props s).1; omega)
  obtain ⟨K6, h6⟩ := works_ev
  refine ⟨K1 + K2 + K3 + K4 + K5 + K6 + 1, fun k hk => ?_⟩
  obtain ⟨k, rfl⟩ : ∃ m, k = m + 1 := ⟨k - 1, by omega⟩
  have g1 := h1 k (by omega)
  have g2 := h2 k (by omega)
  have g3 := h3 k (by omega)
  have g4 := h4 k (by omega)
  have g5 := h5 k (by omega)
  have g6 := h6 k (by omega)
  obtain ⟨_, p2, p3⟩ := readP_props s
  dsimp only at g1 g2 g3 g4 g5 g6 ⊢
  rw [lathelaw10_SignBack.j0, g1, Option.bind_some]
  by_cases h : (readP s).2.1 = 0
  · obtain ⟨hc, _⟩ := p2 h
    unfold wr at g2
    rw [if_pos hc] at g2
    rw [back _ hc] at g3
    rw [if_pos h, g2, Option.bind_some, g3, Option.bind_some, g4, hc, Option.bind_some, if_pos rfl, if_pos rfl, if_pos rfl, g5, Option.bind_some, if_pos rfl, g6, Option.bind_some]
  · rw [if_neg h, p3 h, if_pos (show ((([] : List Pm).length : Nat) : Int) = 0 from rfl), g6, Option.bind_some]
theorem SignBack (l0 : (List S39)) (a1 : ByteArray) (b0 : (l0.length * Tryd.prog.bytesOf 39 ≤ 140737488351232 ∧ ∀ x_ ∈ l0, ok39 x_)) (b1 : a1.size ≤ 140737488351232) : ∃ k, lathelaw10_SignBack.f k l0 a1 = some true := by
  obtain ⟨K1, h1⟩ := print_ev l0
  obtain ⟨K2, h2⟩ := back_j0 a1
  by_cases h : chk l0 = 0
  · obtain ⟨K3, h3⟩ := parse_ev (text l0)
    obtain ⟨K4, h4⟩ := same_ev l0 (by have := (chk_zero h).1; omega)
    refine ⟨K1 + K2 + K3 + K4, ?_⟩
    have g1 := h1 (K1 + K2 + K3 + K4) (by omega)
    have g2 := h2 (K1 + K2 + K3 + K4) (by omega)
    have g3 := h3 (K1 + K2 + K3 + K4) (by omega)
    have g4 := h4 (K1 + K2 + K3 + K4) (by omega)
    generalize K1 + K2 + K3 + K4 = k at *
    dsimp only at g1 g2 g3 g4
    unfold wr at g1
    rw [if_pos h] at g1
    rw [back _ h] at g3
    unfold lathelaw10_SignBack.f
    rw [g1, Option.bind_some, if_pos rfl, g3, Option.bind_some, if_pos rfl, if_pos rfl, g4, Option.bind_some, if_pos rfl, g2]
  · refine ⟨K1 + K2, ?_⟩
    have g1 := h1 (K1 + K2) (by omega)
    have g2 := h2 (K1 + K2) (by omega)
    generalize K1 + K2 = k at *
    dsimp only at g1 g2
    unfold wr at g1
    rw [if_neg h] at g1
    unfold lathelaw10_SignBack.f
    rw [g1, Option.bind_some, if_neg h, g2]

end Go.Proofs.YtojlooflfojdlaaDoor.Pure
