/- The statement BitsParts over the printed Lean functions: it answers true for every pattern and all parts. Conditions: the numbers are of their kinds. -/
import Derived.Test.YtjmhlmfiodhjhaaPureA
namespace Go.Proofs.Ytjmhlmfiodhjhaa.Pure
set_option linter.unusedVariables false
open Go.RowKit Go.Proofs.Ytjmhlmfiodhjhaa.Q Go.Proofs.YtjmhlmfiodhjhaaW.PrintWords Go.Proofs.YtjmhlmfiodhjhaaW.PrintLast

theorem makes (k : Nat) (m : Bool) (e f : Int) (he0 : -9223372036854775808 ≤ e) (he1 : e ≤ 9223372036854775807) : ∃ x y, bits_Make.f (k + 1) m e f = some (x, y) ∧ latheref01_Make.f (k + 1) m e f = some (x, y) ∧ 0 ≤ x ∧ x ≤ 4294967295 := by
  unfold bits_Make.f latheref01_Make.f
  by_cases c1 : e < 0
  · rw [if_pos c1, if_pos c1]; exact ⟨0, 1, rfl, rfl, by omega, by omega⟩
  · rw [if_neg c1, if_neg c1]
    by_cases c2 : e > 255
    · rw [if_pos c2, if_pos c2]; exact ⟨0, 1, rfl, rfl, by omega, by omega⟩
    · rw [if_neg c2, if_neg c2]
      by_cases c3 : f < 0
      · rw [if_pos c3, if_pos c3]; exact ⟨0, 1, rfl, rfl, by omega, by omega⟩
      · rw [if_neg c3, if_neg c3]
        by_cases c4 : f > 8388607
        · refine ⟨0, 1, ?_, ?_, by omega, by omega⟩
          · rw [bits_Make.j0, if_pos (by simpa using c4)]
          · rw [latheref01_Make.j0, if_pos (by simp; omega)]
        · have e1 : (e % 4294967296 * 8388608) % 4294967296 = e * 8388608 := by omega
          have e2 : f % 4294967296 = f := by omega
          have e3 : wrap64 (e * 8388608) = e * 8388608 := wr _ (by omega) (by omega)
          have e4 : wrap64 (e * 8388608 + f) = e * 8388608 + f := wr _ (by omega) (by omega)
          have e5 : bits .or .u32 (e * 8388608) f = e * 8388608 + f := or_join 23 _ _ (by omega) (by omega) (by omega) (by omega) (by omega) (by omega)
          have d1 : decide (f > 8388607) = false := decide_eq_false (by omega)
          have d2 : decide (f ≥ 8388608) = false := decide_eq_false (by omega)
          rw [bits_Make.j0, latheref01_Make.j0, d1, d2, e1, e2, e3, e4, e5, or_sign _ (by omega) (by omega), wr (e * 8388608 + f + 2147483648) (by omega) (by omega)]
          cases m with
          | true => exact ⟨_, _, rfl, rfl, by omega, by omega⟩
          | false => exact ⟨_, _, rfl, rfl, by omega, by omega⟩
theorem BitsParts0 (a e f : Int) (m : Bool) (ha : (Lit.int .u32 a).wf = true) (he : (Lit.int .i64 e).wf = true) : ∃ k, lathelaw01_BitsParts.f k a m e f = some true := by
  obtain ⟨h0, h1⟩ := wf32 ha
  have he' : -9223372036854775808 ≤ e ∧ e ≤ 9223372036854775807 := by
    simp [Lit.wf, IntKind.min, IntKind.max, IntKind.signed, IntKind.bits] at he
    omega
  obtain ⟨x, y, e1, e2, x0, x1⟩ := makes 19 m e f he'.1 he'.2
  refine ⟨20, ?_⟩
  unfold lathelaw01_BitsParts.f
  rw [wr a (by omega) (by omega), parts a h0 h1, parts_ref a h0 h1, e1, e2]
  simp only [Option.bind_some]
  rw [if_pos (by simp), if_pos trivial, if_pos trivial, wr x (by omega) (by omega), if_pos rfl, if_pos trivial, surely]
  rfl

theorem BitsParts (x0 : (Int × Bool × Int × Int)) (b0 : (Lit.int .u32 x0.1).wf = true ∧ True ∧ (Lit.int .i64 x0.2.2.1).wf = true ∧ (Lit.int .i64 x0.2.2.2).wf = true) : ∃ k, lathelaw01_BitsParts.f k (x0.1) (x0.2.1) (x0.2.2.1) (x0.2.2.2) = some true :=
  BitsParts0 _ _ _ _ b0.1 b0.2.2.1
end Go.Proofs.Ytjmhlmfiodhjhaa.Pure
