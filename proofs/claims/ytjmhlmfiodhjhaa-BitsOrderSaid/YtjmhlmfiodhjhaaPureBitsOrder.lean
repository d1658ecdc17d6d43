/- The statement BitsOrder over the printed Lean functions: it answers true for every two patterns. Conditions: the numbers are of their kinds. -/
import Derived.Test.YtjmhlmfiodhjhaaPureA
namespace Go.Proofs.Ytjmhlmfiodhjhaa.Pure
set_option linter.unusedVariables false
open Go.RowKit Go.Proofs.Ytjmhlmfiodhjhaa.Q Go.Proofs.YtjmhlmfiodhjhaaW.PrintWords Go.Proofs.YtjmhlmfiodhjhaaW.PrintLast

theorem key_inj (a b : Int) (h0 : 0 ≤ a) (h1 : a ≤ 4294967295) (g0 : 0 ≤ b) (g1 : b ≤ 4294967295) : (key a == key b) = (a == b) := by
  rw [Bool.eq_iff_iff, beq_iff_eq, beq_iff_eq]
  constructor
  · intro h; rw [← back_key a h0 h1, ← back_key b g0 g1, h]
  · intro h; rw [h]
theorem BitsOrder : lathelaw01_BitsOrder.Pure := by
  intro a b ha hb
  obtain ⟨h0, h1⟩ := wf32 ha
  obtain ⟨g0, g1⟩ := wf32 hb
  refine ⟨20, ?_⟩
  unfold lathelaw01_BitsOrder.f
  rw [wr a (by omega) (by omega), wr b (by omega) (by omega), keys 19 a h0 h1, keys 19 b g0 g1, keys_ref a h0 h1, keys_ref b g0 g1]
  simp only [Option.bind_some]
  rw [if_pos trivial, if_pos trivial, if_neg (by simp), if_neg (by simp), surely]
  have := key_inj a b h0 h1 g0 g1
  by_cases c1 : nan a = true
  · simp [c1]
  · by_cases c2 : nan b = true
    · simp [c1, c2]
    · simp [c1, c2, this]

end Go.Proofs.Ytjmhlmfiodhjhaa.Pure
