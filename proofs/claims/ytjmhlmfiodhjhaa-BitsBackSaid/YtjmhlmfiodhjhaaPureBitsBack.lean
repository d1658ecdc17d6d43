/- The statement BitsBack over the printed Lean functions: it answers true for every pattern and every text. Conditions: the numbers are of their kinds. -/
import Derived.Test.YtjmhlmfiodhjhaaPureB
namespace Go.Proofs.Ytjmhlmfiodhjhaa.Pure
set_option linter.unusedVariables false
open Go.RowKit Go.Proofs.Ytjmhlmfiodhjhaa.Q Go.Proofs.YtjmhlmfiodhjhaaW.PrintWords Go.Proofs.YtjmhlmfiodhjhaaW.PrintLast

theorem make_parts (k : Nat) (a : Int) (h0 : 0 ≤ a) (h1 : a ≤ 4294967295) : bits_Make.f (k + 1) (mi a) (ex a) (fr a) = some (a, 0) := by
  have he : 0 ≤ ex a ∧ ex a ≤ 255 := by unfold ex; omega
  have hf : 0 ≤ fr a ∧ fr a < 8388608 := by unfold fr; omega
  unfold bits_Make.f
  rw [if_neg (by omega), if_neg (by omega), if_neg (by omega), bits_Make.j0, if_neg (by simp; omega)]
  have e1 : (ex a % 4294967296 * 8388608) % 4294967296 = ex a * 8388608 := by omega
  have e2 : fr a % 4294967296 = fr a := by omega
  have e5 : bits .or .u32 (ex a * 8388608) (fr a) = ex a * 8388608 + fr a := or_join 23 _ _ (by omega) (by omega) (by omega) (by omega) (by omega) (by omega)
  rw [e1, e2, e5]
  unfold mi
  by_cases c : a ≥ 2147483648
  · rw [if_pos (by simpa using c), or_sign _ (by omega) (by omega)]
    congr 2; unfold ex fr; omega
  · rw [if_neg (by simpa using c)]
    congr 2; unfold ex fr; omega
theorem BitsBack : lathelaw01_BitsBack.Pure := by
  intro a s ha hs
  obtain ⟨h0, h1⟩ := wf32 ha
  have hr := readv_range s
  have he : 0 ≤ ex a ∧ ex a ≤ 255 := by unfold ex; omega
  have hf : 0 ≤ fr a ∧ fr a < 8388608 := by unfold fr; omega
  refine ⟨40, ?_⟩
  unfold lathelaw01_BitsBack.f
  rw [parts a h0 h1]
  simp only [Option.bind_some]
  rw [make_parts 39 a h0 h1, hexes a h0 h1]
  simp only [Option.bind_some]
  rw [reads 23, read_hex a h0 h1]
  simp only [Option.bind_some]
  rw [if_pos trivial, if_pos trivial, if_pos trivial, if_pos trivial, if_neg (by omega), if_neg (by omega), if_neg (by omega), lathelaw01_BitsBack.j0, if_neg (by simp; omega), reads 22 s]
  simp only [Option.bind_some]
  rw [surely_k 19]
  by_cases c : (readv s).2 = true
  · rw [if_pos c, hexes _ hr.1 hr.2.1, hex_read s c]
    simp
  · have := hr.2.2 (by simpa using c)
    rw [if_neg c, if_pos this]
    rfl

end Go.Proofs.Ytjmhlmfiodhjhaa.Pure
