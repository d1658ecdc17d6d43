/- The statement MaskMatches over the printed Lean functions: it answers true for every glob and name. Conditions: their lengths are in bounds. -/
import Derived.Test.YtmlgidffgojkhaaPureM3
namespace Go.Proofs.Ytmlgidffgojkhaa.Pure
set_option linter.unusedVariables false
open Go.RowKit Go.Proofs.Ytmlgidffgojkhaa.Q Go.Proofs.YtmlgidffgojkhaaW.PrintWords Go.Proofs.YtmlgidffgojkhaaW.PrintLast

theorem MaskMatches : lathelaw11_MaskMatches.Pure := by
  intro s t hs ht
  obtain ⟨k, r, h1, h2, _⟩ := matches_same s t (by omega) (by omega)
  refine ⟨max k 30, ?_⟩
  unfold lathelaw11_MaskMatches.f
  rw [more (mask_Match.mono s t) h1 (Nat.le_max_left ..), more (latheref11_Match.mono s t) h2 (Nat.le_max_left ..), Option.bind_some, Option.bind_some, if_pos (by simp), surely_k (Nat.le_max_right ..)]
  rfl

end Go.Proofs.Ytmlgidffgojkhaa.Pure
