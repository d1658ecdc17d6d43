/- The statement BitsHex over the printed Lean functions: it answers true for every pattern and every text. Conditions: the numbers are of their kinds. -/
import Derived.Test.YtjmhlmfiodhjhaaPureB
namespace Go.Proofs.Ytjmhlmfiodhjhaa.Pure
set_option linter.unusedVariables false
open Go.RowKit Go.Proofs.Ytjmhlmfiodhjhaa.Q Go.Proofs.YtjmhlmfiodhjhaaW.PrintWords Go.Proofs.YtjmhlmfiodhjhaaW.PrintLast

theorem BitsHex : lathelaw01_BitsHex.Pure := by
  intro a s ha hs
  obtain ⟨h0, h1⟩ := wf32 ha
  have hr := readv_range s
  refine ⟨145, ?_⟩
  unfold lathelaw01_BitsHex.f
  rw [wr a (by omega) (by omega), reads 128 s, reads_ref 0 s, hexes a h0 h1, hexes_ref 136 a h0 h1]
  simp only [Option.bind_some]
  rw [if_pos trivial, wr _ (by omega) (by omega), if_pos rfl, if_pos (by simp), surely_k 125]
  rfl

end Go.Proofs.Ytjmhlmfiodhjhaa.Pure
