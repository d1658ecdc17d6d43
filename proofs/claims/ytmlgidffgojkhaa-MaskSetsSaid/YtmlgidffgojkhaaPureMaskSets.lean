/- The statement MaskSets over the printed Lean functions: it answers true for every tree and signature. Conditions: they read within the reading's bounds. -/
import Derived.Test.YtmlgidffgojkhaaPureM6
import Derived.Test.YtmlgidffgojkhaaPureM3
import Derived.Test.YtmlgidffgojkhaaPureRoom
namespace Go.Proofs.Ytmlgidffgojkhaa.Pure
set_option linter.unusedVariables false
open Go.RowKit Go.Proofs.Ytmlgidffgojkhaa.Q Go.Proofs.YtmlgidffgojkhaaW.PrintWords Go.Proofs.YtmlgidffgojkhaaW.PrintLast

theorem same_from (a : List Int) : ∀ (d i : Nat), a.length - i = d → i ≤ a.length → a.length ≤ 1000000000000000 → ∃ k, lathelaw11_same.l0 k a a (i : Int) = some true := by
  intro d
  induction d with
  | zero =>
    intro i hd hi _
    exact ⟨1, by rw [lathelaw11_same.l0, if_neg (by omega)]⟩
  | succ d ih =>
    intro i hd hi hl
    obtain ⟨k, hk⟩ := ih (i + 1) (by omega) (by omega) hl
    have e2 : wrap64 ((i : Int) + 1) = ((i + 1 : Nat) : Int) := by rw [wr64 _ (by omega) (by omega)]; omega
    exact ⟨k + 1, by rw [lathelaw11_same.l0, if_pos (by omega), if_pos (by omega), if_pos (by omega), if_pos rfl, e2, hk]⟩
theorem same_is (a : List Int) (hl : a.length ≤ 1000000000000000) : ∃ k, lathelaw11_same.f k a a = some true := by
  obtain ⟨k, hk⟩ := same_from a _ 0 rfl (by omega) hl
  refine ⟨k, ?_⟩
  unfold lathelaw11_same.f
  rw [if_pos rfl]
  exact hk
theorem sel_len (x : Nd) : ∀ (ps : List Pm) (i : Nat), (sel x ps i).length ≤ ps.length
  | [], i => by simp [sel]
  | p :: ps, i => by
    have := sel_len x ps (i + 1)
    rw [sel]
    split
    · simp; omega
    · simp; omega
theorem msk_len (x : Nd) (l : List Pm) : (msk x l).1.length ≤ l.length := by
  unfold msk
  split
  · simp
  · split
    · simp
    · exact sel_len x l 0
theorem sig_of {l : List Pm} (h : l.length * Try.prog.bytesOf 45 ≤ 140737488351232 ∧ ∀ x ∈ l, ok45 x) : Sig l := by
  have hb : Try.prog.bytesOf 45 = 32 := by kernel_rfl
  obtain ⟨h1, h2⟩ := h
  rw [hb] at h1
  exact ⟨by omega, fun p hp => (h2 p hp).1⟩
theorem MaskSets (x0 : S29) (l1 : (List S45)) (b0 : ok29 x0) (b1 : (l1.length * Try.prog.bytesOf 45 ≤ 140737488351232 ∧ ∀ x_ ∈ l1, ok45 x_)) : ∃ k, lathelaw11_MaskSets.f k (x0.f0) (x0.f1) (x0.f2) (x0.f3) (x0.f4) (x0.f5) (x0.f6) l1 = some true := by
  have hl := sig_of b1
  obtain ⟨kb, hb⟩ := big_is x0 b0
  by_cases hbig : 9000 < cnt x0
  · refine ⟨max kb 30, ?_⟩
    unfold lathelaw11_MaskSets.f
    rw [more (fun k => lathelaw11_big.mono _ _ _ _ _ _ _ k) hb (Nat.le_max_left kb 30), Option.bind_some, if_pos (by simpa using hbig), surely_k (Nat.le_max_right kb 30)]
    rfl
  · have hd := dep_le_cnt x0
    obtain ⟨k1, h1⟩ := set_is x0 b0 (by omega) l1 hl
    obtain ⟨k2, h2⟩ := ref_set_is x0 b0 (by omega) l1 hl
    obtain ⟨k3, h3⟩ := same_is (msk x0 l1).1 (by have := msk_len x0 l1; have := hl.1; omega)
    refine ⟨max (max kb 30) (max k1 (max k2 k3)), ?_⟩
    unfold lathelaw11_MaskSets.f
    rw [more (fun k => lathelaw11_big.mono _ _ _ _ _ _ _ k) hb (by omega), Option.bind_some, if_neg (by simpa using hbig), more (fun k => mask_Set.mono _ _ _ _ _ _ _ _ k) h1 (by omega), Option.bind_some, more (fun k => latheref11_Set.mono _ _ _ _ _ _ _ _ k) h2 (by omega), Option.bind_some, more (fun k => lathelaw11_same.mono _ _ k) h3 (by omega), Option.bind_some, if_pos rfl, if_pos rfl, if_pos rfl, surely_k (by omega)]
    rfl
end Go.Proofs.Ytmlgidffgojkhaa.Pure
