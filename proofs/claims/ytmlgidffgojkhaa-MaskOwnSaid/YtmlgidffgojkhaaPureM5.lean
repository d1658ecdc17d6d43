/- Package latheref11's fault and In come to flt and inn. Conditions: the tree and the signature read within the reading's bounds. -/
import Derived.Test.YtmlgidffgojkhaaPureM4
namespace Go.Proofs.Ytmlgidffgojkhaa.Pure
set_option linter.unusedVariables false
open Go.RowKit Go.Proofs.Ytmlgidffgojkhaa.Q Go.Proofs.YtmlgidffgojkhaaW.PrintWords Go.Proofs.YtmlgidffgojkhaaW.PrintMore

theorem drop_is {α : Type} {l : List α} {i : Nat} {y : α} {ys : List α} (h : l.drop i = y :: ys) : i < l.length ∧ l[i]? = some y ∧ l.drop (i + 1) = ys ∧ y ∈ l := by
  have hi : i < l.length := by
    rcases Nat.lt_or_ge i l.length with h1 | h1
    · exact h1
    · rw [List.drop_of_length_le h1] at h; cases h
  rw [List.drop_eq_getElem_cons hi] at h
  injection h with h1 h2
  exact ⟨hi, by rw [List.getElem?_eq_getElem hi, h1], h2, h1 ▸ List.getElem_mem hi⟩
theorem drop_nil {α : Type} {l : List α} {i : Nat} (hi : i ≤ l.length) (h : l.drop i = []) : i = l.length := by
  have := congrArg List.length h
  rw [List.length_drop] at this
  simp at this
  omega
theorem rd_pm {l : List Pm} {i : Nat} {p : Pm} (h : l[i]? = some p) : rd_T45 l (i : Int) = p := by
  unfold rd_T45
  rw [Int.toNat_natCast, List.getD_eq_getElem?_getD, h]
  rfl
/-- What is known of a signature. -/
def Sig (l : List Pm) : Prop := l.length ≤ 4398046510976 ∧ ∀ p ∈ l, p.f0.size ≤ 140737488351232
theorem fault_call (x : Nd) (h5 : ¬ x.f0 = 5) (l : List Pm) (k : Nat) : latheref11_fault.f (k + 4) x.f0 x.f1 x.f2 x.f3 x.f4 x.f5 x.f6 l =
    if x.f0 = 1 then (if shp x.f1 x.f5.length = true then latheref11_fault.l1 k l x.f5.length 0 x.f0 x.f1 x.f2 x.f3 x.f4 x.f5 x.f6 else some (110, x.f6)) else some (110, x.f6) := by
  rw [latheref11_fault.f, if_neg h5]
  simp only [latheref11_fault.j1, latheref11_fault.j2, latheref11_fault.j3]
  have hge : decide ((x.f5.length : Int) ≥ 1) = decide ((x.f5.length : Int) > 0) := by simp only [decide_eq_decide]; omega
  rw [hge]
  unfold shp
  by_cases h1 : x.f0 = 1
  · simp only [if_pos h1]
    by_cases e1 : x.f1.toList = ([97, 108, 108] : List UInt8)
    · simp [e1] <;> split <;> simp_all
    by_cases e2 : x.f1.toList = ([110, 111, 110, 101] : List UInt8)
    · simp [e2] <;> split <;> simp_all
    by_cases e3 : x.f1.toList = ([114, 101, 97, 108] : List UInt8)
    · simp [e3] <;> split <;> simp_all
    by_cases e4 : x.f1.toList = ([99, 111, 109, 112, 108, 101, 120] : List UInt8)
    · simp [e4] <;> split <;> simp_all
    by_cases e5 : x.f1.toList = ([110, 111, 116] : List UInt8)
    · simp [e5] <;> split <;> simp_all
    by_cases e6 : x.f1.toList = ([97, 110, 100] : List UInt8)
    · simp [e6] <;> split <;> simp_all
    by_cases e7 : x.f1.toList = ([111, 114] : List UInt8)
    · simp [e7] <;> split <;> simp_all
    simp [e1, e2, e3, e4, e5, e6, e7]
  · simp only [if_neg h1, ite_self]
    repeat' split
    all_goals first | rfl | simp_all
theorem fault_is (l : List Pm) (hl : Sig l) : ∀ x : Nd, ok29 x → ∃ k, latheref11_fault.f k x.f0 x.f1 x.f2 x.f3 x.f4 x.f5 x.f6 l = some ((flt l x).getD (0, 0)) := by
  obtain ⟨hll, hls⟩ := hl
  intro x
  induction x using tree_ind with
  | h x ih =>
    intro hx
    obtain ⟨_, hnm, _, hlen, hmem, _⟩ := ok_inv hx
    rw [flt_eq]
    by_cases h5 : x.f0 = 5
    · rw [if_pos h5]
      have key : ∀ (ps : List Pm) (i : Nat), i ≤ l.length → l.drop i = ps → ∃ k, latheref11_fault.l0 k l (i : Int) x.f0 x.f1 x.f2 x.f3 x.f4 x.f5 x.f6 = some (((if (ps.any fun p => mt x.f1 p.f0) = true then none else some ((111 : Int), x.f6)) : Option (Int × Int)).getD (0, 0)) := by
        intro ps
        induction ps with
        | nil =>
          intro i hi h
          have := drop_nil hi h
          refine ⟨1, ?_⟩
          rw [latheref11_fault.l0, if_neg (by omega)]
          simp
        | cons p ps ih2 =>
          intro i hi h
          obtain ⟨hlt, hrd, hnext, hp⟩ := drop_is h
          obtain ⟨k1, _, h1⟩ := match_mt x.f1 p.f0 (by omega) (by have := hls p hp; omega)
          obtain ⟨k2, h2⟩ := ih2 (i + 1) (by omega) hnext
          refine ⟨max k1 k2 + 1, ?_⟩
          have e2 : wrap64 ((i : Int) + 1) = ((i + 1 : Nat) : Int) := by rw [wr64 _ (by omega) (by omega)]; omega
          rw [latheref11_fault.l0, if_pos (by omega), if_pos (by omega), rd_pm hrd, more (fun k => latheref11_Match.mono _ _ k) h1 (Nat.le_max_left k1 k2), Option.bind_some, e2, more (fun k => (latheref11_fault.mono_l k).2.1 _ _ _ _ _ _ _ _ _) h2 (Nat.le_max_right k1 k2)]
          cases hm : mt x.f1 p.f0 <;> simp [hm]
      obtain ⟨k, hk⟩ := key l 0 (by omega) rfl
      refine ⟨k + 1, ?_⟩
      rw [latheref11_fault.f, if_pos h5]
      exact hk
    · rw [if_neg h5]
      have key : ∀ (ys : List Nd) (i : Nat), i ≤ x.f5.length → x.f5.drop i = ys → ∃ k, latheref11_fault.l1 k l x.f5.length (i : Int) x.f0 x.f1 x.f2 x.f3 x.f4 x.f5 x.f6 = some ((fltL l ys).getD (0, 0)) := by
        intro ys
        induction ys with
        | nil =>
          intro i hi h
          have := drop_end hi h
          refine ⟨1, ?_⟩
          rw [latheref11_fault.l1, if_neg (by omega)]
          simp [fltL]
        | cons y ys ih2 =>
          intro i hi h
          obtain ⟨hlt, hrd, hnext, hy⟩ := drop_rd h
          obtain ⟨k1, h1⟩ := ih y hy (hmem y hy)
          obtain ⟨k2, h2⟩ := ih2 (i + 1) (by omega) hnext
          refine ⟨max k1 k2 + 1, ?_⟩
          have e2 : wrap64 ((i : Int) + 1) = ((i + 1 : Nat) : Int) := by rw [wr64 _ (by omega) (by omega)]; omega
          rw [latheref11_fault.l1, if_pos (by omega), if_pos (by omega), if_pos (by omega), hrd, fltL]
          by_cases hkey : y.f4.toList = ([] : List UInt8)
          · rw [if_pos hkey, if_pos hkey, more (fun k => latheref11_fault.mono _ _ _ _ _ _ _ _ k) h1 (Nat.le_max_left k1 k2), Option.bind_some, e2, more (fun k => (latheref11_fault.mono_l k).2.2.2.2.1 _ _ _ _ _ _ _ _ _ _) h2 (Nat.le_max_right k1 k2)]
            cases hf : flt l y with
            | none => simp
            | some f => simp [flt_code l y f hf]
          · rw [if_neg hkey, if_neg hkey]; simp
      obtain ⟨k, hk⟩ := key x.f5 0 (by omega) rfl
      refine ⟨k + 4, ?_⟩
      rw [fault_call x h5]
      split
      · split
        · exact hk
        · simp
      · simp
theorem shp_not {nm : ByteArray} {n : Int} (h : shp nm n = true) (e : nm.toList = ([110, 111, 116] : List UInt8)) : n = 1 := by
  unfold shp at h
  simp [e] at h
  exact h
theorem in_is (l : List Pm) (hl : Sig l) : ∀ x : Nd, ok29 x → flt l x = none → ∀ p ∈ l, ∃ k, latheref11_In.f k x.f0 x.f1 x.f2 x.f3 x.f4 x.f5 x.f6 p.f0 p.f1 p.f2 = some (inn p x) := by
  obtain ⟨hll, hls⟩ := hl
  intro x
  induction x using tree_ind with
  | h x ih =>
    intro hx hf p hp
    obtain ⟨_, hnm, _, hlen, hmem, _⟩ := ok_inv hx
    rw [inn_eq]
    by_cases h5 : x.f0 = 5
    · obtain ⟨k1, _, h1⟩ := match_mt x.f1 p.f0 (by omega) (by have := hls p hp; omega)
      refine ⟨k1 + 1, ?_⟩
      rw [latheref11_In.f, if_pos h5, h1, if_pos h5]
      rfl
    · rw [flt_eq, if_neg h5] at hf
      split at hf
      case isFalse => cases hf
      split at hf
      case isFalse => cases hf
      rename_i h1 hshp
      have hargs := fltL_none hf
      have kall : ∀ (ys : List Nd) (i : Nat), i ≤ x.f5.length → x.f5.drop i = ys → ∃ k, latheref11_In.l0 k (i : Int) x.f0 x.f1 x.f2 x.f3 x.f4 x.f5 x.f6 p.f0 p.f1 p.f2 = some ((ys.map (inn p)).all id) := by
        intro ys
        induction ys with
        | nil =>
          intro i hi h
          have := drop_end hi h
          exact ⟨1, by rw [latheref11_In.l0, if_neg (by omega)]; rfl⟩
        | cons y ys ih2 =>
          intro i hi h
          obtain ⟨hlt, hrd, hnext, hy⟩ := drop_rd h
          obtain ⟨k1, h1⟩ := ih y hy (hmem y hy) (hargs y hy).1 p hp
          obtain ⟨k2, h2⟩ := ih2 (i + 1) (by omega) hnext
          refine ⟨max k1 k2 + 1, ?_⟩
          have e2 : wrap64 ((i : Int) + 1) = ((i + 1 : Nat) : Int) := by rw [wr64 _ (by omega) (by omega)]; omega
          rw [latheref11_In.l0, if_pos (by omega), if_pos (by omega), hrd, more (fun k => latheref11_In.mono _ _ _ _ _ _ _ _ _ _ k) h1 (Nat.le_max_left k1 k2), Option.bind_some, e2, more (fun k => (latheref11_In.mono_l k).2.1 _ _ _ _ _ _ _ _ _ _ _) h2 (Nat.le_max_right k1 k2)]
          cases hm : inn p y <;> simp [hm]
      have kany : ∀ (ys : List Nd) (i : Nat), i ≤ x.f5.length → x.f5.drop i = ys → ∃ k, latheref11_In.l1 k (i : Int) x.f0 x.f1 x.f2 x.f3 x.f4 x.f5 x.f6 p.f0 p.f1 p.f2 = some ((ys.map (inn p)).any id) := by
        intro ys
        induction ys with
        | nil =>
          intro i hi h
          have := drop_end hi h
          exact ⟨1, by rw [latheref11_In.l1, if_neg (by omega)]; rfl⟩
        | cons y ys ih2 =>
          intro i hi h
          obtain ⟨hlt, hrd, hnext, hy⟩ := drop_rd h
          obtain ⟨k1, h1⟩ := ih y hy (hmem y hy) (hargs y hy).1 p hp
          obtain ⟨k2, h2⟩ := ih2 (i + 1) (by omega) hnext
          refine ⟨max k1 k2 + 1, ?_⟩
          have e2 : wrap64 ((i : Int) + 1) = ((i + 1 : Nat) : Int) := by rw [wr64 _ (by omega) (by omega)]; omega
          rw [latheref11_In.l1, if_pos (by omega), if_pos (by omega), hrd, more (fun k => latheref11_In.mono _ _ _ _ _ _ _ _ _ _ k) h1 (Nat.le_max_left k1 k2), Option.bind_some, e2, more (fun k => (latheref11_In.mono_l k).2.2 _ _ _ _ _ _ _ _ _ _ _) h2 (Nat.le_max_right k1 k2)]
          cases hm : inn p y <;> simp [hm]
      simp only [if_neg h5]
      by_cases e1 : x.f1.toList = ([97, 108, 108] : List UInt8)
      · exact ⟨1, by rw [latheref11_In.f, if_neg h5, if_pos e1, if_pos e1]⟩
      by_cases e2 : x.f1.toList = ([114, 101, 97, 108] : List UInt8)
      · exact ⟨1, by rw [latheref11_In.f, if_neg h5, if_neg e1, if_pos e2, if_neg e1, if_pos e2]⟩
      by_cases e3 : x.f1.toList = ([99, 111, 109, 112, 108, 101, 120] : List UInt8)
      · exact ⟨1, by rw [latheref11_In.f, if_neg h5, if_neg e1, if_neg e2, if_pos e3, if_neg e1, if_neg e2, if_pos e3]⟩
      by_cases e4 : x.f1.toList = ([110, 111, 116] : List UInt8)
      · have hn := shp_not hshp e4
        cases hl5 : x.f5 with
        | nil => rw [hl5] at hn; simp at hn
        | cons y ys =>
          have hy : y ∈ x.f5 := by rw [hl5]; exact List.mem_cons_self ..
          obtain ⟨k1, hk1⟩ := ih y hy (hmem y hy) (hargs y hy).1 p hp
          refine ⟨k1 + 1, ?_⟩
          have hrd : rd_T29 (y :: ys) 0 = y := rfl
          rw [latheref11_In.f, if_neg h5, if_neg e1, if_neg e2, if_neg e3, if_pos e4, if_pos (by simp), hrd, hk1, if_neg e1, if_neg e2, if_neg e3, if_pos e4]
          rfl
      by_cases e5 : x.f1.toList = ([97, 110, 100] : List UInt8)
      · obtain ⟨k, hk⟩ := kall x.f5 0 (by omega) rfl
        exact ⟨k + 1, by rw [latheref11_In.f, if_neg h5, if_neg e1, if_neg e2, if_neg e3, if_neg e4, if_pos e5, if_neg e1, if_neg e2, if_neg e3, if_neg e4, if_pos e5]; exact hk⟩
      by_cases e6 : x.f1.toList = ([111, 114] : List UInt8)
      · obtain ⟨k, hk⟩ := kany x.f5 0 (by omega) rfl
        exact ⟨k + 1, by rw [latheref11_In.f, if_neg h5, if_neg e1, if_neg e2, if_neg e3, if_neg e4, if_neg e5, if_pos e6, if_neg e1, if_neg e2, if_neg e3, if_neg e4, if_neg e5, if_pos e6]; exact hk⟩
      exact ⟨1, by rw [latheref11_In.f, if_neg h5, if_neg e1, if_neg e2, if_neg e3, if_neg e4, if_neg e5, if_neg e6, if_neg e1, if_neg e2, if_neg e3, if_neg e4, if_neg e5, if_neg e6]⟩
end Go.Proofs.Ytmlgidffgojkhaa.Pure
