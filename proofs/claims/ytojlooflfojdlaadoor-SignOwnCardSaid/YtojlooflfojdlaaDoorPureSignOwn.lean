/- The pure form of SignOwn: for every argument the law's Lean function answers true. Conditions: those that the theorem names. -/
import Derived.Test.YtojlooflfojdlaaDoorSignE
import Derived.Test.YtojlooflfojdlaaDoorOpenT
namespace Go.Proofs.YtojlooflfojdlaaDoor.Pure
set_option linter.unusedVariables false
open Go.RowKit Go.Proofs.YtojlooflfojdlaaDoor.Q Go.Proofs.YtojlooflfojdlaaDoorW.PrintWords Go.Proofs.YtojlooflfojdlaaDoorW.PrintLast

theorem own_l0 (s : ByteArray) : ∀ (d i : Nat) (x3 : List Pm), x3.length - i = d → i ≤ x3.length → x3.length ≤ 1000000 → Ev (fun k => lathelaw10_SignOwn.l0 k s x3 (readP s).1 (readP s).1 (i : Int)) true := by
  intro d
  induction d with
  | zero =>
    intro i x3 h hi hl
    obtain ⟨K1, h1⟩ := parse_ev s
    obtain ⟨K2, h2⟩ := same_ev (readP s).1 (by have := (readP_props s).1; omega)
    obtain ⟨K3, h3⟩ := works_ev
    refine ⟨K1 + K2 + K3 + 1, fun k hk => ?_⟩
    obtain ⟨k, rfl⟩ : ∃ m, k = m + 1 := ⟨k - 1, by omega⟩
    have g1 := h1 k (by omega)
    have g2 := h2 k (by omega)
    have g3 := h3 k (by omega)
    dsimp only at g1 g2 g3 ⊢
    rw [lathelaw10_SignOwn.l0, if_neg (by omega), Option.bind_some, if_pos (by simp only [List.length_cons, List.length_nil]; omega), g1, Option.bind_some, if_pos (by simp only [List.length_append, List.length_cons, List.length_nil]; omega), g2, Option.bind_some, if_pos rfl, Option.bind_some, if_pos rfl, g3, Option.bind_some]
  | succ d ih =>
    intro i x3 h hi hl
    refine Ev.step (fun k => ?_) (ih (i + 1) (x3.set i (⟨(⟨#[115, 112, 111, 105, 108, 116]⟩ : ByteArray), 0, 0⟩ : S39)) (by rw [List.length_set]; omega) (by rw [List.length_set]; omega) (by rw [List.length_set]; omega))
    rw [lathelaw10_SignOwn.l0, if_pos (by omega), if_pos (by omega), wr64 _ (by omega) (by omega), Int.toNat_natCast]
    rfl
theorem SignOwn (a0 : ByteArray) (b0 : a0.size ≤ 140737488351232) : ∃ k, lathelaw10_SignOwn.f k a0 = some true := by
  obtain ⟨K1, h1⟩ := parse_ev a0
  obtain ⟨K2, h2⟩ := rparse_ev a0
  obtain ⟨K3, h3⟩ := own_l0 a0 _ 0 (readP a0).1 rfl (by omega) (readP_props a0).1
  refine ⟨K1 + K2 + K3, ?_⟩
  have g1 := h1 (K1 + K2 + K3) (by omega)
  have g2 := h2 (K1 + K2 + K3) (by omega)
  have g3 := h3 (K1 + K2 + K3) (by omega)
  generalize K1 + K2 + K3 = k at *
  dsimp only at g1 g2 g3
  unfold lathelaw10_SignOwn.f
  rw [g1, Option.bind_some, Option.bind_some, g2, Option.bind_some]
  exact g3

end Go.Proofs.YtojlooflfojdlaaDoor.Pure
