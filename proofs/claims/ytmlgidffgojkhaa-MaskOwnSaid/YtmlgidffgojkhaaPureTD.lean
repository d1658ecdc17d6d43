/- How deep a tree is: both ways of asking come to dep. Conditions: the tree reads within the reading's bounds and is no deeper than a million. -/
import Derived.Test.YtmlgidffgojkhaaPureT
import Derived.Test.YtmlgidffgojkhaaQx6
import Derived.Test.YtmlgidffgojkhaaQx2
namespace Go.Proofs.Ytmlgidffgojkhaa.Pure
set_option linter.unusedVariables false
open Go.RowKit Go.Proofs.Ytmlgidffgojkhaa.Q Go.Proofs.YtmlgidffgojkhaaW.PrintWords Go.Proofs.YtmlgidffgojkhaaW.PrintMore

theorem ref_depth : ∀ x : Nd, ok29 x → dep x ≤ 1000000 → ∃ k, latheref07_Depth.f k x.f0 x.f1 x.f2 x.f3 x.f4 x.f5 x.f6 = some (dep x : Int) := by
  intro x
  induction x using tree_ind with
  | h x ih =>
    intro hx hd
    obtain ⟨_, _, _, hlen, hmem, _⟩ := ok_inv hx
    have hdd := dep_eq x
    have key : ∀ (ys : List Nd) (i m : Nat), i ≤ x.f5.length → x.f5.drop i = ys → m ≤ 1000000 → (∀ y ∈ ys, dep y ≤ 1000000) → ∃ k, latheref07_Depth.l0 k (m : Int) (i : Int) x.f0 x.f1 x.f2 x.f3 x.f4 x.f5 x.f6 = some ((max m (depL ys) + 1 : Nat) : Int) := by
      intro ys
      induction ys with
      | nil =>
        intro i m hi h hm _
        have := drop_end hi h
        refine ⟨1, ?_⟩
        rw [latheref07_Depth.l0, if_neg (by omega), wr64 _ (by omega) (by omega)]
        simp [depL]
      | cons y ys ih2 =>
        intro i m hi h hm hys
        obtain ⟨hlt, hrd, hnext, hy⟩ := drop_rd h
        have hdy := hys y (List.mem_cons_self ..)
        obtain ⟨k1, h1⟩ := ih y hy (hmem y hy) hdy
        obtain ⟨k2, h2⟩ := ih2 (i + 1) (max m (dep y)) (by omega) hnext (by omega) (fun z hz => hys z (List.mem_cons_of_mem _ hz))
        refine ⟨max k1 k2 + 1, ?_⟩
        rw [latheref07_Depth.l0, if_pos (by omega), if_pos (by omega), hrd, more (fun k => latheref07_Depth.mono _ _ _ _ _ _ _ k) h1 (Nat.le_max_left k1 k2), Option.bind_some]
        have e1 : mx (m : Int) (dep y : Int) = ((max m (dep y) : Nat) : Int) := by unfold mx; split <;> omega
        have e2 : wrap64 ((i : Int) + 1) = ((i + 1 : Nat) : Int) := by rw [wr64 _ (by omega) (by omega)]; omega
        rw [e1, e2, more (fun k => (latheref07_Depth.mono_l k).2 _ _ _ _ _ _ _ _ _) h2 (Nat.le_max_right k1 k2)]
        simp only [depL, Nat.max_assoc]
    obtain ⟨k, hk⟩ := key x.f5 0 0 (by omega) rfl (by omega) (fun y hy => by have := dep_mem hy; omega)
    refine ⟨k + 1, ?_⟩
    rw [latheref07_Depth.f, hdd]
    rw [Nat.zero_max] at hk
    exact hk
theorem walk_depth : ∀ x : Nd, ∀ d s : Nat, d + dep x ≤ 2000000 → ∃ k, tree_walk.g tree_Depth.step k x (d : Int) (s : Int) = some ((max s (d + dep x - 1) : Nat) : Int) := by
  intro x
  induction x using tree_ind with
  | h x ih =>
    intro d s hd
    have hdd := dep_eq x
    have key : ∀ (ys : List Nd) (s : Nat), (∀ y ∈ ys, y ∈ x.f5) → d ≤ s → ∃ k, tree_walk.gl tree_Depth.step k ys (d : Int) (s : Int) = some ((max s (d + depL ys) : Nat) : Int) := by
      intro ys
      induction ys with
      | nil => intro s _ hs; exact ⟨1, by rw [tree_walk.gl]; simp [depL]; omega⟩
      | cons y ys ih2 =>
        intro s hsub hs
        have hy := hsub y (List.mem_cons_self ..)
        have hdy := dep_mem hy
        obtain ⟨k1, h1⟩ := ih y hy (d + 1) s (by omega)
        obtain ⟨k2, h2⟩ := ih2 (max s (d + 1 + dep y - 1)) (fun z hz => hsub z (List.mem_cons_of_mem _ hz)) (by omega)
        refine ⟨max k1 k2 + 1, ?_⟩
        have e2 : wrap64 ((d : Int) + 1) = ((d + 1 : Nat) : Int) := by rw [wr64 _ (by omega) (by omega)]; omega
        rw [tree_walk.gl, e2, more (fun k => (tree_walk.mono_l _ k).1 _ _ _) h1 (Nat.le_max_left k1 k2), Option.bind_some, more (fun k => (tree_walk.mono_l _ k).2 _ _ _) h2 (Nat.le_max_right k1 k2)]
        simp only [depL]
        congr 2
        omega
    obtain ⟨k, hk⟩ := key x.f5 (max s d) (fun _ h => h) (by omega)
    refine ⟨k + 1, ?_⟩
    have e1 : mx (s : Int) (d : Int) = ((max s d : Nat) : Int) := by unfold mx; split <;> omega
    rw [tree_walk.g, tree_Depth.step, e1, Option.bind_some, hk]
    congr 2
    omega
theorem its_depth (x : Nd) (hd : dep x ≤ 1000000) : ∃ k, tree_Depth.f k x.f0 x.f1 x.f2 x.f3 x.f4 x.f5 x.f6 = some (dep x : Int) := by
  have h0 := dep_eq x
  obtain ⟨k, hk⟩ := walk_depth x 1 0 (by omega)
  refine ⟨k, ?_⟩
  unfold tree_Depth.f
  have : max 0 (1 + dep x - 1) = dep x := by omega
  rw [this] at hk
  cases x
  exact_mod_cast hk
end Go.Proofs.Ytmlgidffgojkhaa.Pure
