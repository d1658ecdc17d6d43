/- The statement MaskParts over the printed Lean functions: it answers true for every two texts and name. Conditions: their lengths are in bounds. -/
import Derived.Test.YtmlgidffgojkhaaPureM3
namespace Go.Proofs.Ytmlgidffgojkhaa.Pure
set_option linter.unusedVariables false
open Go.RowKit Go.Proofs.Ytmlgidffgojkhaa.Q Go.Proofs.YtmlgidffgojkhaaW.PrintWords Go.Proofs.YtmlgidffgojkhaaW.PrintLast

theorem size_app (a b : ByteArray) : (a ++ b).size = a.size + b.size := by rw [← bl_length, bl_append, List.length_append, bl_length, bl_length]
theorem Gl.between {a b n : List Int} (ha : Bare a) (hb : Bare b) : Gl (a ++ 42 :: b) n ↔ ∃ m, n = a ++ m ++ b := by
  rw [Gl.app_iff]
  constructor
  · rintro ⟨n1, n2, rfl, h1, h2⟩
    obtain ⟨m, n', rfl, h3⟩ := h2.star_inv
    rw [(Gl.bare ha).1 h1, (Gl.bare hb).1 h3]
    exact ⟨m, by simp⟩
  · rintro ⟨m, rfl⟩
    exact ⟨a, m ++ b, by simp, (Gl.bare ha).2 rfl, Gl.star_more m (.skip ((Gl.bare hb).2 rfl))⟩
theorem bare_app {a b : List Int} (h : Bare (a ++ b)) : Bare a ∧ Bare b := ⟨fun c hc => h c (List.mem_append_left _ hc), fun c hc => h c (List.mem_append_right _ hc)⟩
theorem parts_end (a b n : ByteArray) (ha : a.size ≤ 140737488351232) (hb : b.size ≤ 140737488351232) (hn : n.size ≤ 140737488351232) (hbare : Bare (bl (a ++ b))) (want : Bool) (hw : want = true ↔ ∃ m, bl n = bl a ++ m ++ bl b) :
    ∃ k, lathelaw11_MaskParts.j1 k a b n want = some true := by
  rw [bl_append] at hbare
  obtain ⟨hba, hbb⟩ := bare_app hbare
  have hstar : bl (⟨#[42]⟩ : ByteArray) = [42] := by rfl
  have hs1 : (⟨#[42]⟩ : ByteArray).size = 1 := rfl
  obtain ⟨k1, r1, h1, g1⟩ := match_is ((a ++ (⟨#[42]⟩ : ByteArray)) ++ b) n (by rw [size_app, size_app, hs1]; omega) (by omega)
  rw [bl_append, bl_append, hstar, List.append_assoc, List.singleton_append, Gl.between hba hbb] at g1
  obtain ⟨k2, r2, h2, g2⟩ := match_is (a ++ b) n (by rw [size_app]; omega) (by omega)
  rw [bl_append, Gl.bare hbare, ← bl_append] at g2
  obtain ⟨k3, r3, h3, g3⟩ := match_is ((a ++ (⟨#[42]⟩ : ByteArray)) ++ b) ((a ++ n) ++ b) (by rw [size_app, size_app, hs1]; omega) (by rw [size_app, size_app]; omega)
  rw [bl_append, bl_append, hstar, List.append_assoc, List.singleton_append, Gl.between hba hbb, bl_append, bl_append] at g3
  obtain ⟨k4, r4, h4, g4⟩ := match_is (⟨#[42]⟩ : ByteArray) n (by rw [hs1]; omega) (by omega)
  rw [hstar] at g4
  have e1 : r1 = want := bool_eq g1 hw
  have e2 : r2 = (n.toList == (a ++ b).toList) := bool_eq g2 (by rw [beq_iff_eq, toList_bl])
  have e3 : r3 = true := g3.2 ⟨bl n, rfl⟩
  have e4 : r4 = true := g4.2 (Gl.star_any _)
  subst e1 e2 e3 e4
  generalize hK : max (max (max k1 k2) (max k3 k4)) 30 = K
  have m1 : k1 ≤ K := by omega
  have m2 : k2 ≤ K := by omega
  have m3 : k3 ≤ K := by omega
  have m4 : k4 ≤ K := by omega
  have m5 : 30 ≤ K := by omega
  refine ⟨K + 1, ?_⟩
  rw [lathelaw11_MaskParts.j1, if_pos (by omega), if_pos (by rw [size_app, hs1]; omega), more (mask_Match.mono _ _) h1 m1, Option.bind_some, if_pos (by simp), if_pos (by omega), more (mask_Match.mono _ _) h2 m2, Option.bind_some, if_pos (by simp), if_pos (by omega), if_pos (by rw [size_app]; omega), more (mask_Match.mono _ _) h3 m3, Option.bind_some, if_pos rfl, more (mask_Match.mono _ _) h4 m4, Option.bind_some, if_pos rfl, surely_k m5]
  rfl
theorem parts_from (a b n : ByteArray) (ha : a.size ≤ 140737488351232) (hb : b.size ≤ 140737488351232) (hn : n.size ≤ 140737488351232) : ∀ (d i : Nat), (a ++ b).size - i = d → i ≤ (a ++ b).size → (∀ c ∈ (bl (a ++ b)).take i, c ≠ 42 ∧ c ≠ 63) → ∃ k, lathelaw11_MaskParts.l0 k a b n (i : Int) = some true := by
  have hab := size_app a b
  intro d
  induction d with
  | zero =>
    intro i hd hi hbare
    rw [List.take_of_length_le (by rw [bl_length]; omega)] at hbare
    have fin := parts_end a b n ha hb hn hbare
    have hwr : wrap64 ((a.size : Int) + (b.size : Int)) = ((a.size + b.size : Nat) : Int) := by rw [wr64 _ (by omega) (by omega)]; omega
    by_cases hsz : a.size + b.size ≤ n.size
    · by_cases hp : (n.extract 0 a.size).toList = a.toList
      · obtain ⟨k, hk⟩ := fin ((n.extract (n.size - b.size) n.size).toList == b.toList) (by
          rw [beq_iff_eq, toList_bl, bl_extract]
          rw [toList_bl, bl_extract, List.drop_zero] at hp
          rw [List.take_of_length_le (by rw [bl_length]; omega)]
          constructor
          · intro h
            refine ⟨((bl n).take (n.size - b.size)).drop a.size, ?_⟩
            have e1 := List.take_append_drop a.size ((bl n).take (n.size - b.size))
            rw [List.take_take, Nat.min_eq_left (by omega), hp] at e1
            rw [e1, ← h, List.take_append_drop]
          · rintro ⟨m, h⟩
            rw [h]
            have hl := congrArg List.length h
            simp only [List.length_append, bl_length] at hl
            rw [List.drop_append_of_le_length (by simp only [List.length_append, bl_length]; omega), List.drop_of_length_le (by simp only [List.length_append, bl_length]; omega), List.nil_append])
        have hwr2 : wrap64 ((n.size : Int) - (b.size : Int)) = ((n.size - b.size : Nat) : Int) := by rw [wr64 _ (by omega) (by omega)]; omega
        refine ⟨k + 1, ?_⟩
        rw [lathelaw11_MaskParts.l0, if_pos (by omega), if_neg (by omega), hwr, if_pos (by omega), if_pos (by omega), if_pos (by omega), Int.toNat_natCast, if_pos hp, hwr2, if_pos (by omega), if_pos (by omega), Int.toNat_natCast]
        exact hk
      · obtain ⟨k, hk⟩ := fin false (by
          constructor
          · intro h; cases h
          · rintro ⟨m, h⟩
            refine absurd ?_ hp
            rw [toList_bl, bl_extract, List.drop_zero, h, List.append_assoc, ← bl_length a, List.take_left])
        refine ⟨k + 1, ?_⟩
        rw [lathelaw11_MaskParts.l0, if_pos (by omega), if_neg (by omega), hwr, if_pos (by omega), if_pos (by omega), if_pos (by omega), Int.toNat_natCast, if_neg hp]
        exact hk
    · obtain ⟨k, hk⟩ := fin false (by
        constructor
        · intro h; cases h
        · rintro ⟨m, h⟩
          have hl := congrArg List.length h
          simp only [List.length_append, bl_length] at hl
          omega)
      refine ⟨k + 1, ?_⟩
      rw [lathelaw11_MaskParts.l0, if_pos (by omega), if_neg (by omega), hwr, if_neg (by omega)]
      exact hk
  | succ d ih =>
    intro i hd hi hbare
    by_cases h42 : bt (a ++ b) (i : Int) = 42
    · refine ⟨31, ?_⟩
      rw [lathelaw11_MaskParts.l0, if_pos (by omega), if_pos (by omega), if_pos (by omega), if_pos h42, surely]
      rfl
    · by_cases h63 : bt (a ++ b) (i : Int) = 63
      · refine ⟨31, ?_⟩
        rw [lathelaw11_MaskParts.l0, if_pos (by omega), if_pos (by omega), if_pos (by omega), if_neg h42, if_pos h63, surely]
        rfl
      · obtain ⟨k, hk⟩ := ih (i + 1) (by omega) (by omega) (by
          rw [take_next _ i (by omega)]
          intro c hc
          rcases List.mem_append.1 hc with hc | hc
          · exact hbare c hc
          · have : c = bt (a ++ b) (i : Int) := by simpa using hc
            rw [this]; exact ⟨h42, h63⟩)
        refine ⟨k + 1, ?_⟩
        rw [lathelaw11_MaskParts.l0, if_pos (by omega), if_pos (by omega), if_pos (by omega), if_neg h42, if_neg h63, wr64 _ (by omega) (by omega)]
        exact_mod_cast hk
theorem MaskParts : lathelaw11_MaskParts.Pure := by
  intro a b n ha hb hn
  obtain ⟨k, hk⟩ := parts_from a b n ha hb hn _ 0 rfl (by omega) (by simp)
  exact ⟨k, hk⟩

end Go.Proofs.Ytmlgidffgojkhaa.Pure
