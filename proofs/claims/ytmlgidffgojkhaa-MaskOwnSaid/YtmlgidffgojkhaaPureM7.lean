/- What the statements on masks' sets share: same of a list and itself; a signature's bounds. Conditions: those that each theorem names. -/
import Derived.Test.YtmlgidffgojkhaaPureM6
import Derived.Test.YtmlgidffgojkhaaPureM3
import Derived.Test.YtmlgidffgojkhaaPureRoom
namespace Go.Proofs.Ytmlgidffgojkhaa.Pure
set_option linter.unusedVariables false
open Go.RowKit Go.Proofs.Ytmlgidffgojkhaa.Q Go.Proofs.YtmlgidffgojkhaaW.PrintWords Go.Proofs.YtmlgidffgojkhaaW.PrintLast

theorem same_from (a : List Int) : ∀ (d i : Nat), a.length - i = d → i ≤ a.length → a.length ≤ 1000000000000000 → ∃ k, lathelaw11_same.l0 k a a (i : Int) = some true := by
  intro d
  induction d with
  | zero =>
    intro i hd hi _
    exact ⟨1, by rw [lathelaw11_same.l0, if_neg (by omega)]⟩
  | succ d ih =>
    intro i hd hi hl
    obtain ⟨k, hk⟩ := ih (i + 1) (by omega) (by omega) hl
    have e2 : wrap64 ((i : Int) + 1) = ((i + 1 : Nat) : Int) := by rw [wr64 _ (by omega) (by omega)]; omega
    exact ⟨k + 1, by rw [lathelaw11_same.l0, if_pos (by omega), if_pos (by omega), if_pos (by omega), if_pos rfl, e2, hk]⟩
theorem same_is (a : List Int) (hl : a.length ≤ 1000000000000000) : ∃ k, lathelaw11_same.f k a a = some true := by
  obtain ⟨k, hk⟩ := same_from a _ 0 rfl (by omega) hl
  refine ⟨k, ?_⟩
  unfold lathelaw11_same.f
  rw [if_pos rfl]
  exact hk
theorem sel_len (x : Nd) : ∀ (ps : List Pm) (i : Nat), (sel x ps i).length ≤ ps.length
  | [], i => by simp [sel]
  | p :: ps, i => by
    have := sel_len x ps (i + 1)
    rw [sel]
    split
    · simp; omega
    · simp; omega
theorem msk_len (x : Nd) (l : List Pm) : (msk x l).1.length ≤ l.length := by
  unfold msk
  split
  · simp
  · split
    · simp
    · exact sel_len x l 0
theorem sig_of {l : List Pm} (h : l.length * Try.prog.bytesOf 45 ≤ 140737488351232 ∧ ∀ x ∈ l, ok45 x) : Sig l := by
  have hb : Try.prog.bytesOf 45 = 32 := by kernel_rfl
  obtain ⟨h1, h2⟩ := h
  rw [hb] at h1
  exact ⟨by omega, fun p hp => (h2 p hp).1⟩
end Go.Proofs.Ytmlgidffgojkhaa.Pure
