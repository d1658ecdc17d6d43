/- The pure form of SignChecks: for every argument the law's Lean function answers true. Conditions: those that the theorem names. -/
import Derived.Test.YtojlooflfojdlaaDoorSignE
import Derived.Test.YtojlooflfojdlaaDoorOpenT
import Derived.Test.YtojlooflfojdlaaDoorQx10
namespace Go.Proofs.YtojlooflfojdlaaDoor.Pure
set_option linter.unusedVariables false
open Go.RowKit Go.Proofs.YtojlooflfojdlaaDoor.Q Go.Proofs.YtojlooflfojdlaaDoorW.PrintWords Go.Proofs.YtojlooflfojdlaaDoorW.PrintLast

theorem bytes_pm_checks : Tryd.prog.bytesOf 39 = 32 := by kernel_rfl
theorem checks_l0 (l : List Pm) (hl : l.length ≤ 4398046511103) : ∀ (d i : Nat), l.length - i = d → i ≤ l.length → Ev (fun k => lathelaw10_SignChecks.l0 k l l (i : Int)) true := by
  intro d
  induction d with
  | zero =>
    intro i h hi
    refine Ev.step (f := fun k => (lathelaw10_same.f k l l).bind fun t => if t = true then (lathelaw10_works.f k).bind fun t => some t else some false) (fun k => ?_) (Ev.bind (same_ev l (by omega)) (Ev.congr (fun k => if_pos rfl) (Ev.bind works_ev (Ev.now true))))
    rw [lathelaw10_SignChecks.l0, if_neg (by omega)]
  | succ d ih =>
    intro i h hi
    refine Ev.step (f := fun k => (latheref10_Numbers.f k (rd_T39 l (i : Int)).f0 (rd_T39 l (i : Int)).f1 (rd_T39 l (i : Int)).f2).bind fun t => if numB ⟨(rd_T39 l (i : Int)).f0, (rd_T39 l (i : Int)).f1, (rd_T39 l (i : Int)).f2⟩ = t then lathelaw10_SignChecks.l0 k l l ((i + 1 : Nat) : Int) else some false) (fun k => ?_) (Ev.bind (num_ev (rd_T39 l (i : Int)).f0 (rd_T39 l (i : Int)).f1 (rd_T39 l (i : Int)).f2) (Ev.congr (fun k => if_pos rfl) (ih (i + 1) (by omega) (by omega))))
    rw [lathelaw10_SignChecks.l0, if_pos (by omega), if_pos (by omega), num_eq, Option.bind_some, wr64 _ (by omega) (by omega)]
    rfl
theorem SignChecks (l0 : (List S39)) (a1 : ByteArray) (b0 : (l0.length * Tryd.prog.bytesOf 39 ≤ 140737488351232 ∧ ∀ x_ ∈ l0, ok39 x_)) (b1 : a1.size ≤ 140737488351232) : ∃ k, lathelaw10_SignChecks.f k l0 a1 = some true := by
  have hl : l0.length ≤ 4398046511103 := by have h := b0.1; rw [bytes_pm_checks] at h; omega
  obtain ⟨K1, h1⟩ := find_ev l0 a1 (by omega)
  obtain ⟨K2, h2⟩ := rfind_ev l0 a1 (by omega)
  obtain ⟨K3, h3⟩ := check_ev l0
  obtain ⟨K4, h4⟩ := rcheck_ev l0
  obtain ⟨K5, h5⟩ := total_ev l0 (by omega)
  obtain ⟨K6, h6⟩ := rtotal_ev l0 (by omega)
  obtain ⟨K7, h7⟩ := checks_l0 l0 hl _ 0 rfl (by omega)
  refine ⟨K1 + K2 + K3 + K4 + K5 + K6 + K7 + 1, ?_⟩
  have g1 := h1 (K1 + K2 + K3 + K4 + K5 + K6 + K7 + 1) (by omega)
  have g2 := h2 (K1 + K2 + K3 + K4 + K5 + K6 + K7 + 1) (by omega)
  have g3 := h3 (K1 + K2 + K3 + K4 + K5 + K6 + K7 + 1) (by omega)
  have g4 := h4 (K1 + K2 + K3 + K4 + K5 + K6 + K7 + 1) (by omega)
  have g5 := h5 (K1 + K2 + K3 + K4 + K5 + K6 + K7 + 1) (by omega)
  have g6 := h6 (K1 + K2 + K3 + K4 + K5 + K6 + K7 + 1) (by omega)
  have g7 := h7 (K1 + K2 + K3 + K4 + K5 + K6 + K7) (by omega)
  generalize K1 + K2 + K3 + K4 + K5 + K6 + K7 = k at *
  dsimp only at g1 g2 g3 g4 g5 g6 g7
  unfold lathelaw10_SignChecks.f
  rw [if_pos (by simp only [List.length_nil]; omega), List.nil_append, Option.bind_some, g1, Option.bind_some, g2, Option.bind_some, g3, Option.bind_some, g4, Option.bind_some, if_pos rfl, g5, Option.bind_some, g6, Option.bind_some, if_pos rfl, if_pos rfl]
  rw [lathelaw10_SignChecks.j0, if_neg (by simp)]
  exact g7

end Go.Proofs.YtojlooflfojdlaaDoor.Pure
