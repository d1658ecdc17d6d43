/- The statement TreeFinds over the printed Lean functions: it answers true for every tree and path. Conditions: they read within the reading's bounds. -/
import Derived.Test.YtbfomjbencbmlaaOpenT
import Derived.Test.YtbfomjbencbmlaaQx0TreeFinds
import Derived.Test.YtbfomjbencbmlaaQx1
import Derived.Test.YtbfomjbencbmlaaQx14
import Derived.Test.YtbfomjbencbmlaaQx20
import Derived.Test.YtbfomjbencbmlaaQx7
import Derived.Test.YtbfomjbencbmlaaQx8
import Derived.Test.YtbfomjbencbmlaaWLast
import Derived.Test.YtbfomjbencbmlaaWWords
namespace Go.Proofs.Ytbfomjbencbmlaa.Pure
set_option linter.unusedVariables false
set_option linter.unusedSimpArgs false
open Go.RowKit Go.Proofs.Ytbfomjbencbmlaa.Q Go.Proofs.YtbfomjbencbmlaaW.PrintWords
open Go.RowKit Go.Proofs.Ytbfomjbencbmlaa.Q Go.Proofs.YtbfomjbencbmlaaW.PrintWords Go.Proofs.YtbfomjbencbmlaaW.PrintLast
open Go.RowKit Go.Proofs.Ytbfomjbencbmlaa.Q Go.Proofs.YtbfomjbencbmlaaW.PrintWords Go.Proofs.YtbfomjbencbmlaaW.PrintMore
open Go.RowKit Go.Proofs.Ytbfomjbencbmlaa.Q Go.Proofs.YtbfomjbencbmlaaW.PrintWords Go.Proofs.YtbfomjbencbmlaaW.PrintMore Go.Proofs.YtbfomjbencbmlaaW.PrintLast
open Go.RowKit Go.Proofs.YtbfomjbencbmlaaW.PrintWords Go.Proofs.YtbfomjbencbmlaaW.PrintLast

theorem more {α : Type} {f : Nat → Option α} (h : ∀ k, LeO (f k) (f (k + 1))) {k : Nat} {r : α} (hk : f k = some r) : ∀ {j : Nat}, k ≤ j → f j = some r := by
  intro j hj
  obtain ⟨d, rfl⟩ := Nat.le.dest hj
  clear hj
  induction d with
  | zero => exact hk
  | succ d ih => exact h _ _ ih
theorem wr64 (x : Int) (h0 : -9223372036854775808 ≤ x) (h1 : x ≤ 9223372036854775807) : wrap64 x = x := by unfold wrap64; omega
abbrev Nd := S26
mutual
def cnt : Nd → Nat
  | ⟨_, _, _, _, _, l, _⟩ => cntL l + 1
def cntL : List Nd → Nat
  | [] => 0
  | y :: ys => cnt y + cntL ys
end
theorem cnt_eq (x : Nd) : cnt x = cntL x.f5 + 1 := by cases x; rfl
theorem tree_ind {P : Nd → Prop} (h : ∀ x : Nd, (∀ y ∈ x.f5, P y) → P x) (x : Nd) : P x := h x (fun y hy => tree_ind h y)
termination_by SizeOf.sizeOf x
decreasing_by
  have := List.sizeOf_lt_of_mem hy
  cases x
  simp only [S26.mk.sizeOf_spec] at *
  omega
theorem ok_inv {x : Nd} (h : ok26 x) : (Lit.int .i64 x.f0).wf = true ∧ x.f1.size ≤ 140737488351232 ∧ x.f4.size ≤ 140737488351232 ∧ x.f5.length ≤ 1599289640354 ∧ (∀ y ∈ x.f5, ok26 y) ∧ (Lit.int .i64 x.f6).wf = true := by
  cases h with
  | mk _ h0 h1 h2 h3 h4 h5 g5 h6 =>
    have hb : Try.prog.bytesOf 26 = 88 := by kernel_rfl
    rw [hb] at h5
    exact ⟨h0, h1, h4, by omega, g5, h6⟩
theorem drop_rd {l : List Nd} {i : Nat} {y : Nd} {ys : List Nd} (h : l.drop i = y :: ys) : i < l.length ∧ rd_T26 l (i : Int) = y ∧ l.drop (i + 1) = ys ∧ y ∈ l := by
  have hi : i < l.length := by
    rcases Nat.lt_or_ge i l.length with h1 | h1
    · exact h1
    · rw [List.drop_of_length_le h1] at h; cases h
  rw [List.drop_eq_getElem_cons hi] at h
  injection h with h1 h2
  refine ⟨hi, ?_, h2, h1 ▸ List.getElem_mem hi⟩
  unfold rd_T26
  rw [Int.toNat_natCast, List.getD_eq_getElem?_getD, List.getElem?_eq_getElem hi, h1]
  rfl
theorem drop_end {l : List Nd} {i : Nat} (hi : i ≤ l.length) (h : l.drop i = []) : i = l.length := by
  have := congrArg List.length h
  rw [List.length_drop] at this
  simp at this
  omega
theorem nx {i : Nat} (h : i ≤ 4000000000000) : wrap64 ((i : Int) + 1) = ((i + 1 : Nat) : Int) := by rw [wr64 _ (by omega) (by omega)]; omega
/-- A node, as the functions hand it on. -/
def tup (x : Nd) : Int × ByteArray × Int × Int × ByteArray × List Nd × Int := (x.f0, x.f1, x.f2, x.f3, x.f4, x.f5, x.f6)
theorem its_twin : ∀ x : Nd, ok26 x → ∃ k, tree_twin.f k x.f0 x.f1 x.f2 x.f3 x.f4 x.f5 x.f6 = some (tup x) := by
  intro x
  induction x using tree_ind with
  | h x ih =>
    intro hx
    obtain ⟨_, _, _, hlen, hmem, _⟩ := ok_inv hx
    have key : ∀ (ys : List Nd) (i : Nat) (acc : List Nd), i ≤ x.f5.length → x.f5.drop i = ys → acc.length = i → ∃ k, tree_twin.l0 k acc x.f5 (x.f5.length : Int) (i : Int) x.f0 x.f1 x.f2 x.f3 x.f4 x.f5 x.f6 = some (x.f0, x.f1, x.f2, x.f3, x.f4, acc ++ ys, x.f6) := by
      intro ys
      induction ys with
      | nil =>
        intro i acc hi h ha
        have := drop_end hi h
        exact ⟨1, by rw [tree_twin.l0, if_neg (by omega), List.append_nil]⟩
      | cons y ys ih2 =>
        intro i acc hi h ha
        obtain ⟨hlt, hrd, hnext, hy⟩ := drop_rd h
        obtain ⟨k1, h1⟩ := ih y hy (hmem y hy)
        obtain ⟨k2, h2⟩ := ih2 (i + 1) (acc ++ [y]) (by omega) hnext (by simp; omega)
        refine ⟨max k1 k2 + 1, ?_⟩
        rw [tree_twin.l0, if_pos (by omega), if_pos (by omega), if_pos (by omega), hrd, more (fun k => tree_twin.mono _ _ _ _ _ _ _ k) h1 (Nat.le_max_left k1 k2), Option.bind_some, if_pos (by omega), nx (by omega)]
        have := more (fun k => (tree_twin.mono_l k).2 _ _ _ _ _ _ _ _ _ _ _) h2 (Nat.le_max_right k1 k2)
        cases y
        simpa [tup] using this
    obtain ⟨k, hk⟩ := key x.f5 0 [] (by omega) rfl rfl
    exact ⟨k + 1, by rw [tree_twin.f]; exact hk⟩
theorem same_is : ∀ x : Nd, ok26 x → ∃ k, lathelaw07_same.f k x.f0 x.f1 x.f2 x.f3 x.f4 x.f5 x.f6 x.f0 x.f1 x.f2 x.f3 x.f4 x.f5 x.f6 = some true := by
  intro x
  induction x using tree_ind with
  | h x ih =>
    intro hx
    obtain ⟨_, _, _, hlen, hmem, _⟩ := ok_inv hx
    have hb : ((x.f5.length : Int) != (x.f5.length : Int)) = false := by simp
    have key : ∀ (ys : List Nd) (i : Nat), i ≤ x.f5.length → x.f5.drop i = ys → ∃ k, lathelaw07_same.l0 k (i : Int) x.f0 x.f1 x.f2 x.f3 x.f4 x.f5 x.f6 x.f0 x.f1 x.f2 x.f3 x.f4 x.f5 x.f6 = some true := by
      intro ys
      induction ys with
      | nil =>
        intro i hi h
        have := drop_end hi h
        exact ⟨1, by rw [lathelaw07_same.l0, if_neg (by omega)]⟩
      | cons a ys ih2 =>
        intro i hi h
        obtain ⟨hlt, hrd, hnext, ha⟩ := drop_rd h
        obtain ⟨k1, h1⟩ := ih a ha (hmem a ha)
        obtain ⟨k2, h2⟩ := ih2 (i + 1) (by omega) hnext
        refine ⟨max k1 k2 + 1, ?_⟩
        rw [lathelaw07_same.l0, if_pos (by omega), if_pos (by omega), if_pos (by omega), hrd, more (fun k => lathelaw07_same.mono _ _ _ _ _ _ _ _ _ _ _ _ _ _ k) h1 (Nat.le_max_left k1 k2), Option.bind_some, if_pos rfl, nx (by omega), more (fun k => (lathelaw07_same.mono_l k).2.2 _ _ _ _ _ _ _ _ _ _ _ _ _ _ _) h2 (Nat.le_max_right k1 k2)]
    obtain ⟨k, hk⟩ := key x.f5 0 (by omega) rfl
    exact ⟨k + 2, by rw [lathelaw07_same.f, if_pos rfl, if_pos rfl, if_pos rfl, if_pos rfl, if_pos rfl, if_pos rfl, hb, lathelaw07_same.j0, if_neg (by decide)]; exact hk⟩
/-- The node at a path. -/
def fnd : List Int → Nd → Option Nd
  | [], x => some x
  | p :: ps, x => if p < 0 then none else if p ≥ (x.f5.length : Int) then none else fnd ps (rd_T26 x.f5 p)
def fndT (o : Option Nd) : Int × ByteArray × Int × Int × ByteArray × List Nd × Int × Bool := match o with
  | none => (0, (⟨#[]⟩ : ByteArray), 0, 0, (⟨#[]⟩ : ByteArray), [], 0, false)
  | some y => (y.f0, y.f1, y.f2, y.f3, y.f4, y.f5, y.f6, true)
theorem rd_mem {l : List Nd} {p : Int} (h0 : 0 ≤ p) (h1 : p < l.length) : rd_T26 l p ∈ l := by
  have hi : p.toNat < l.length := by omega
  unfold rd_T26
  rw [List.getD_eq_getElem?_getD, List.getElem?_eq_getElem hi]
  exact List.getElem_mem hi
theorem fnd_ok : ∀ (ps : List Int) (x y : Nd), ok26 x → fnd ps x = some y → ok26 y
  | [], x, y, hx, h => by rw [fnd] at h; injection h with h; exact h ▸ hx
  | p :: ps, x, y, hx, h => by
    rw [fnd] at h
    split at h
    · cases h
    · split at h
      · cases h
      · exact fnd_ok ps _ y ((ok_inv hx).2.2.2.2.1 _ (rd_mem (by omega) (by omega))) h
theorem rd_drop {l : List Int} {i : Nat} {p : Int} {ps : List Int} (h : l.drop i = p :: ps) : i < l.length ∧ rd l (i : Int) = p ∧ l.drop (i + 1) = ps := by
  have hi : i < l.length := by
    rcases Nat.lt_or_ge i l.length with h1 | h1
    · exact h1
    · rw [List.drop_of_length_le h1] at h; cases h
  rw [List.drop_eq_getElem_cons hi] at h
  injection h with h1 h2
  refine ⟨hi, ?_, h2⟩
  unfold rd
  rw [Int.toNat_natCast, List.getD_eq_getElem?_getD, List.getElem?_eq_getElem hi, h1]
  rfl
theorem its_find (l : List Int) (hl : l.length ≤ 1000000000000000) : ∀ (ps : List Int) (i : Nat) (x : Nd), ok26 x → i ≤ l.length → l.drop i = ps → ∃ k, tree_Find.l0 k l (l.length : Int) (i : Int) x.f0 x.f1 x.f2 x.f3 x.f4 x.f5 x.f6 = some (fndT (fnd ps x))
  | [], i, x, hx, hi, h => by
    have he : i = l.length := by
      have := congrArg List.length h
      rw [List.length_drop] at this
      simp at this; omega
    obtain ⟨k, hk⟩ := its_twin x hx
    exact ⟨k + 1, by rw [tree_Find.l0, if_neg (by omega), hk]; rfl⟩
  | p :: ps, i, x, hx, hi, h => by
    obtain ⟨hlt, hrd, hnext⟩ := rd_drop h
    rw [fnd]
    by_cases c1 : p < 0
    · exact ⟨1, by rw [tree_Find.l0, if_pos (by omega), if_pos (by omega), if_pos (by omega), hrd, if_pos c1, if_pos c1]; rfl⟩
    · by_cases c2 : p ≥ (x.f5.length : Int)
      · exact ⟨1, by rw [tree_Find.l0, if_pos (by omega), if_pos (by omega), if_pos (by omega), hrd, if_neg c1, if_pos c2, if_neg c1, if_pos c2]; rfl⟩
      · obtain ⟨k, hk⟩ := its_find l hl ps (i + 1) (rd_T26 x.f5 p) ((ok_inv hx).2.2.2.2.1 _ (rd_mem (by omega) (by omega))) (by omega) hnext
        have e2 : wrap64 ((i : Int) + 1) = ((i + 1 : Nat) : Int) := by rw [wr64 _ (by omega) (by omega)]; omega
        exact ⟨k + 1, by rw [tree_Find.l0, if_pos (by omega), if_pos (by omega), if_pos (by omega), hrd, if_neg c1, if_neg c2, if_pos (by omega), if_pos (by omega), e2, if_neg c1, if_neg c2, hk]⟩
theorem ref_find (l : List Int) (hl : l.length ≤ 1000000000000000) : ∀ (ps : List Int) (i : Nat) (x : Nd), ok26 x → i ≤ l.length → l.drop i = ps → ∃ k, latheref07_Find.l0 k l (i : Int) x.f0 x.f1 x.f2 x.f3 x.f4 x.f5 x.f6 = some (fndT (fnd ps x))
  | [], i, x, hx, hi, h => by
    have he : i = l.length := by
      have := congrArg List.length h
      rw [List.length_drop] at this
      simp at this; omega
    exact ⟨1, by rw [latheref07_Find.l0, if_neg (by omega)]; rfl⟩
  | p :: ps, i, x, hx, hi, h => by
    obtain ⟨hlt, hrd, hnext⟩ := rd_drop h
    rw [fnd]
    by_cases c1 : p < 0
    · exact ⟨1, by rw [latheref07_Find.l0, if_pos (by omega), if_pos (by omega), hrd, if_pos c1, if_pos c1]; rfl⟩
    · by_cases c2 : p ≥ (x.f5.length : Int)
      · exact ⟨1, by rw [latheref07_Find.l0, if_pos (by omega), if_pos (by omega), hrd, if_neg c1, if_pos c2, if_neg c1, if_pos c2]; rfl⟩
      · obtain ⟨k, hk⟩ := ref_find l hl ps (i + 1) (rd_T26 x.f5 p) ((ok_inv hx).2.2.2.2.1 _ (rd_mem (by omega) (by omega))) (by omega) hnext
        have e2 : wrap64 ((i : Int) + 1) = ((i + 1 : Nat) : Int) := by rw [wr64 _ (by omega) (by omega)]; omega
        exact ⟨k + 1, by rw [latheref07_Find.l0, if_pos (by omega), if_pos (by omega), hrd, if_neg c1, if_neg c2, if_pos (by omega), if_pos (by omega), e2, if_neg c1, if_neg c2, hk]⟩
theorem room_is : ∀ x : Nd, ok26 x → ∀ left : Int, 0 ≤ left → left ≤ 1000000 → ∃ k, lathelaw07_room.f k x.f0 x.f1 x.f2 x.f3 x.f4 x.f5 x.f6 left = some (max (left - (cnt x : Int)) (-1)) := by
  intro x
  induction x using tree_ind with
  | h x ih =>
    intro hx left h0 hl
    obtain ⟨_, _, _, hlen, hmem, _⟩ := ok_inv hx
    have hcc := cnt_eq x
    have key : ∀ (ys : List Nd) (i : Nat) (left : Int), i ≤ x.f5.length → x.f5.drop i = ys → -1 ≤ left → left ≤ 1000000 → ∃ k, lathelaw07_room.l0 k left (i : Int) x.f0 x.f1 x.f2 x.f3 x.f4 x.f5 x.f6 = some (max (left - (cntL ys : Int)) (-1)) := by
      intro ys
      induction ys with
      | nil =>
        intro i left hi h hm _
        have := drop_end hi h
        refine ⟨1, ?_⟩
        rw [lathelaw07_room.l0, if_neg (by omega)]
        simp [cntL]; omega
      | cons y ys ih2 =>
        intro i left hi h hm hl
        obtain ⟨hlt, hrd, hnext, hy⟩ := drop_rd h
        by_cases h0 : 0 ≤ left
        · obtain ⟨k1, h1⟩ := ih y hy (hmem y hy) left h0 hl
          obtain ⟨k2, h2⟩ := ih2 (i + 1) (max (left - (cnt y : Int)) (-1)) (by omega) hnext (by omega) (by omega)
          refine ⟨max k1 k2 + 1, ?_⟩
          have e2 : wrap64 ((i : Int) + 1) = ((i + 1 : Nat) : Int) := by rw [wr64 _ (by omega) (by omega)]; omega
          rw [lathelaw07_room.l0, if_pos (by omega), if_pos h0, if_pos (by omega), hrd, more (fun k => lathelaw07_room.mono _ _ _ _ _ _ _ _ k) h1 (Nat.le_max_left k1 k2), Option.bind_some, e2, more (fun k => (lathelaw07_room.mono_l k).2 _ _ _ _ _ _ _ _ _) h2 (Nat.le_max_right k1 k2)]
          simp only [cntL]
          congr 1
          omega
        · refine ⟨1, ?_⟩
          rw [lathelaw07_room.l0, if_pos (by omega), if_neg (by omega)]
          congr 1
          omega
    obtain ⟨k, hk⟩ := key x.f5 0 (left - 1) (by omega) rfl (by omega) (by omega)
    refine ⟨k + 1, ?_⟩
    rw [lathelaw07_room.f, wr64 _ (by omega) (by omega), hcc]
    refine Eq.trans hk ?_
    congr 1
    omega
theorem big_is (x : Nd) (hx : ok26 x) : ∃ k, lathelaw07_big.f k x.f0 x.f1 x.f2 x.f3 x.f4 x.f5 x.f6 = some (decide (9000 < cnt x)) := by
  obtain ⟨k, hk⟩ := room_is x hx 9000 (by omega) (by omega)
  refine ⟨k, ?_⟩
  unfold lathelaw07_big.f
  rw [hk, Option.bind_some]
  congr 1
  simp only [decide_eq_decide]
  omega
theorem surely : lathelaw07_sure.f 40 = some true := by decide +kernel
theorem surely_k {k : Nat} (h : 40 ≤ k) : lathelaw07_sure.f k = some true := more lathelaw07_sure.mono surely h
def zeroN : Nd := ⟨0, (⟨#[]⟩ : ByteArray), 0, 0, (⟨#[]⟩ : ByteArray), [], 0⟩
theorem zero_ok : ok26 zeroN := ok26.mk _ (by decide) (by decide) (by decide) (by decide) (by decide) (by show 0 * _ ≤ _; omega) (fun _ h => by cases h) (by decide)
/-- What a search answers: a node that reads within the bounds, and whether it was found. -/
theorem fnd_tup (ps : List Int) (x : Nd) (hx : ok26 x) : ∃ y, ok26 y ∧ fndT (fnd ps x) = (y.f0, y.f1, y.f2, y.f3, y.f4, y.f5, y.f6, (fnd ps x).isSome) := by
  cases h : fnd ps x with
  | none => exact ⟨zeroN, zero_ok, rfl⟩
  | some y => exact ⟨y, fnd_ok ps x y hx h, rfl⟩
theorem TreeFinds (x0 : S26) (l1 : (List Int)) (b0 : ok26 x0) (b1 : (l1.length * Try.prog.bytesOf 3 ≤ 140737488351232 ∧ ∀ x_ ∈ l1, (Lit.int .i64 x_).wf = true)) : ∃ k, lathelaw07_TreeFinds.f k (x0.f0) (x0.f1) (x0.f2) (x0.f3) (x0.f4) (x0.f5) (x0.f6) l1 = some true := by
  obtain ⟨kb, hb⟩ := big_is x0 b0
  by_cases hbig : 9000 < cnt x0
  · refine ⟨max kb 40, ?_⟩
    unfold lathelaw07_TreeFinds.f
    rw [more (fun k => lathelaw07_big.mono _ _ _ _ _ _ _ k) hb (Nat.le_max_left kb 40), Option.bind_some, if_pos (by simpa using hbig), surely_k (Nat.le_max_right kb 40)]
    rfl
  · have hw : Try.prog.bytesOf 3 = 8 := by kernel_rfl
    have hl : l1.length ≤ 1000000000000000 := by have := b1.1; rw [hw] at this; omega
    obtain ⟨k1, h1⟩ := its_find l1 hl l1 0 x0 b0 (Nat.zero_le _) rfl
    obtain ⟨k2, h2⟩ := ref_find l1 hl l1 0 x0 b0 (Nat.zero_le _) rfl
    obtain ⟨k3, h3⟩ := its_find [] (by decide) [] 0 x0 b0 (Nat.zero_le _) rfl
    obtain ⟨y, hy, e⟩ := fnd_tup l1 x0 b0
    obtain ⟨k4, h4⟩ := same_is y hy
    obtain ⟨k5, h5⟩ := same_is x0 b0
    rw [e] at h1 h2
    refine ⟨kb + 40 + k1 + k2 + k3 + k4 + k5, ?_⟩
    have g1 := more (fun k => tree_Find.mono x0.f0 x0.f1 x0.f2 x0.f3 x0.f4 x0.f5 x0.f6 l1 k) h1 (j := kb + 40 + k1 + k2 + k3 + k4 + k5) (by omega)
    have g2 := more (fun k => latheref07_Find.mono x0.f0 x0.f1 x0.f2 x0.f3 x0.f4 x0.f5 x0.f6 l1 k) h2 (j := kb + 40 + k1 + k2 + k3 + k4 + k5) (by omega)
    have g3 := more (fun k => tree_Find.mono x0.f0 x0.f1 x0.f2 x0.f3 x0.f4 x0.f5 x0.f6 [] k) h3 (j := kb + 40 + k1 + k2 + k3 + k4 + k5) (by omega)
    unfold lathelaw07_TreeFinds.f
    rw [more (fun k => lathelaw07_big.mono _ _ _ _ _ _ _ k) hb (by omega), Option.bind_some, if_neg (by simpa using hbig), g1, Option.bind_some, g2, Option.bind_some, g3, Option.bind_some]
    dsimp only [fndT, fnd]
    rw [more (fun k => lathelaw07_same.mono _ _ _ _ _ _ _ _ _ _ _ _ _ _ k) h4 (by omega), Option.bind_some, if_pos rfl, if_pos (by simp)]
    refine Eq.trans (if_pos rfl) ?_
    rw [more (fun k => lathelaw07_same.mono _ _ _ _ _ _ _ _ _ _ _ _ _ _ k) h5 (by omega), Option.bind_some, if_pos rfl, surely_k (by omega)]
    rfl
end Go.Proofs.Ytbfomjbencbmlaa.Pure
