/- The statement MaskOwn over the printed Lean functions: it answers true for every tree and signature. Conditions: they read within the reading's bounds. -/
import Derived.Test.YtmlgidffgojkhaaPureM7
import Derived.Test.YtmlgidffgojkhaaQx0MaskOwn
namespace Go.Proofs.Ytmlgidffgojkhaa.Pure
set_option linter.unusedVariables false
open Go.RowKit Go.Proofs.Ytmlgidffgojkhaa.Q Go.Proofs.YtmlgidffgojkhaaW.PrintWords Go.Proofs.YtmlgidffgojkhaaW.PrintLast

theorem own_from (x0 : Nd) (l1 : List Pm) (K : Nat) (e : Int) (h1 : mask_Set.f K x0.f0 x0.f1 x0.f2 x0.f3 x0.f4 x0.f5 x0.f6 l1 = some (msk x0 l1)) (h2 : latheref11_Set.f K x0.f0 x0.f1 x0.f2 x0.f3 x0.f4 x0.f5 x0.f6 l1 = some (msk x0 l1))
    (h3 : lathelaw11_same.f K (msk x0 l1).1 (msk x0 l1).1 = some true) (h4 : lathelaw11_sure.f K = some true) (he : e = (msk x0 l1).2.1) :
    ∀ (d i : Nat) (o : List Int), o.length - i = d → i ≤ o.length → o.length ≤ 4398046510976 → ∃ k, lathelaw11_MaskOwn.l0 k l1 o e (i : Int) x0.f0 x0.f1 x0.f2 x0.f3 x0.f4 x0.f5 x0.f6 = some true := by
  intro d
  induction d with
  | zero =>
    intro i o hd hi ho
    refine ⟨K + 1, ?_⟩
    have hlen : ((o ++ [1, 2, 3] : List Int).length : Int) = (o.length : Int) + 3 := by simp
    have e3 : wrap64 (((o ++ [1, 2, 3] : List Int).length : Int) - 1) = ((o.length + 2 : Nat) : Int) := by rw [hlen, wr64 _ (by omega) (by omega)]; omega
    have hrd : rd (o ++ [1, 2, 3]) ((o.length + 2 : Nat) : Int) = 3 := by
      unfold rd
      rw [Int.toNat_natCast, List.getD_eq_getElem?_getD, List.getElem?_append_right (by omega)]
      simp
    rw [lathelaw11_MaskOwn.l0, if_neg (by omega), Option.bind_some, if_pos (by simp only [List.length_cons, List.length_nil]; omega), Option.bind_some, h1, Option.bind_some, h2, Option.bind_some, h3, Option.bind_some, if_pos rfl, if_pos he, if_pos rfl, e3, if_pos (by omega), if_pos (by rw [hlen]; omega), if_pos hrd, h4]
    rfl
  | succ d ih =>
    intro i o hd hi ho
    obtain ⟨k, hk⟩ := ih (i + 1) (o.set i (-7)) (by rw [List.length_set]; omega) (by rw [List.length_set]; omega) (by rw [List.length_set]; omega)
    have e2 : wrap64 ((i : Int) + 1) = ((i + 1 : Nat) : Int) := by rw [wr64 _ (by omega) (by omega)]; omega
    exact ⟨k + 1, by rw [lathelaw11_MaskOwn.l0, if_pos (by omega), if_pos (by omega), e2, Int.toNat_natCast]; exact hk⟩
theorem MaskOwn (x0 : S29) (l1 : (List S45)) (b0 : ok29 x0) (b1 : (l1.length * Try.prog.bytesOf 45 ≤ 140737488351232 ∧ ∀ x_ ∈ l1, ok45 x_)) : ∃ k, lathelaw11_MaskOwn.f k (x0.f0) (x0.f1) (x0.f2) (x0.f3) (x0.f4) (x0.f5) (x0.f6) l1 = some true := by
  have hl := sig_of b1
  obtain ⟨kb, hb⟩ := big_is x0 b0
  by_cases hbig : 9000 < cnt x0
  · refine ⟨max kb 30, ?_⟩
    unfold lathelaw11_MaskOwn.f
    rw [more (fun k => lathelaw11_big.mono _ _ _ _ _ _ _ k) hb (Nat.le_max_left kb 30), Option.bind_some, if_pos (by simpa using hbig), surely_k (Nat.le_max_right kb 30)]
    rfl
  · have hd := dep_le_cnt x0
    have hml := msk_len x0 l1
    have hl1 := hl.1
    obtain ⟨k1, h1⟩ := set_is x0 b0 (by omega) l1 hl
    obtain ⟨k2, h2⟩ := ref_set_is x0 b0 (by omega) l1 hl
    obtain ⟨k3, h3⟩ := same_is (msk x0 l1).1 (by omega)
    have H1 := more (fun k => mask_Set.mono _ _ _ _ _ _ _ _ k) h1 (j := max 30 (max k1 (max k2 k3))) (by omega)
    have H2 := more (fun k => latheref11_Set.mono _ _ _ _ _ _ _ _ k) h2 (j := max 30 (max k1 (max k2 k3))) (by omega)
    have H3 := more (fun k => lathelaw11_same.mono _ _ k) h3 (j := max 30 (max k1 (max k2 k3))) (by omega)
    obtain ⟨k4, h4⟩ := own_from x0 l1 _ _ H1 H2 H3 (surely_k (by omega)) rfl _ 0 (msk x0 l1).1 rfl (by omega) (by omega)
    refine ⟨max kb (max k1 k4), ?_⟩
    unfold lathelaw11_MaskOwn.f
    rw [more (fun k => lathelaw11_big.mono _ _ _ _ _ _ _ k) hb (by omega), Option.bind_some, if_neg (by simpa using hbig), more (fun k => mask_Set.mono _ _ _ _ _ _ _ _ k) h1 (by omega), Option.bind_some]
    exact more (fun k => lathelaw11_MaskOwn.mono_l k _ _ _ _ _ _ _ _ _ _ _) h4 (by omega)
end Go.Proofs.Ytmlgidffgojkhaa.Pure
