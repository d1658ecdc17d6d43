/- The statement BitsClasses over the printed Lean functions: it answers true for every pattern. Conditions: the numbers are of their kinds. -/
import Derived.Test.YtjmhlmfiodhjhaaPureA
namespace Go.Proofs.Ytjmhlmfiodhjhaa.Pure
set_option linter.unusedVariables false
open Go.RowKit Go.Proofs.Ytjmhlmfiodhjhaa.Q Go.Proofs.YtjmhlmfiodhjhaaW.PrintWords Go.Proofs.YtjmhlmfiodhjhaaW.PrintLast

theorem classes_ref (k : Nat) (a : Int) (h0 : 0 ≤ a) (h1 : a ≤ 4294967295) : latheref01_Class.f (k + 1) a = some (cls a) := by
  unfold latheref01_Class.f
  rw [parts_ref a h0 h1]
  simp only [Option.bind_some]
  have he : 0 ≤ ex a ∧ ex a ≤ 255 := by unfold ex; omega
  have hf : 0 ≤ fr a := by unfold fr; omega
  unfold cls
  generalize ex a = x at *
  generalize fr a = y at *
  by_cases h : x = 255
  · rw [if_pos h, latheref01_Class.j0]
    by_cases g : y > 0
    · rw [if_pos (by simp [g]), if_neg (by omega), if_neg (by omega), if_neg (by omega)]
    · rw [if_neg (by simp [g]), if_pos h, if_neg (by omega), if_neg (by omega), if_pos (by omega)]
  · rw [if_neg h, latheref01_Class.j0, if_neg (by simp), if_neg h]
    by_cases g : x > 0
    · rw [if_pos g, if_neg (by omega), if_pos (by omega)]
    · rw [if_neg g, if_pos (show x = 0 by omega)]
      by_cases g' : y > 0
      · rw [if_pos g', if_neg (by omega)]
      · rw [if_neg g', if_pos (by omega)]
theorem BitsClasses : lathelaw01_BitsClasses.Pure := by
  intro a ha
  obtain ⟨h0, h1⟩ := wf32 ha
  refine ⟨20, ?_⟩
  unfold lathelaw01_BitsClasses.f
  rw [wr a (by omega) (by omega), classes 19 a h0 h1, classes_ref 19 a h0 h1]
  simp only [Option.bind_some]
  rw [if_pos trivial]
  unfold bits_Canon.f latheref01_Canon.f
  rw [classes 19 a h0 h1, isnan_ref a h0, nan_cls a h0 h1]
  simp only [Option.bind_some]
  by_cases c : cls a = 5
  · rw [if_pos c, decide_eq_true c, if_pos rfl]
    simp only [Option.bind_some]
    rw [wr _ (by omega) (by omega), if_pos rfl, surely]; rfl
  · rw [if_neg c, decide_eq_false c, if_neg (by decide)]
    simp only [Option.bind_some]
    rw [wr _ (by omega) (by omega), if_pos rfl, surely]; rfl

end Go.Proofs.Ytjmhlmfiodhjhaa.Pure
