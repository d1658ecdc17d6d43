/- The statement TreeChecks over the printed Lean functions: it answers true for every tree. Conditions: the tree reads within the reading's bounds. -/
import Derived.Test.YtbfomjbencbmlaaOpenT
import Derived.Test.YtbfomjbencbmlaaQx0TreeChecks
import Derived.Test.YtbfomjbencbmlaaQx1
import Derived.Test.YtbfomjbencbmlaaQx10
import Derived.Test.YtbfomjbencbmlaaQx11
import Derived.Test.YtbfomjbencbmlaaQx12
import Derived.Test.YtbfomjbencbmlaaQx13
import Derived.Test.YtbfomjbencbmlaaQx14
import Derived.Test.YtbfomjbencbmlaaQx2
import Derived.Test.YtbfomjbencbmlaaQx3
import Derived.Test.YtbfomjbencbmlaaQx4
import Derived.Test.YtbfomjbencbmlaaQx5
import Derived.Test.YtbfomjbencbmlaaQx8
import Derived.Test.YtbfomjbencbmlaaQx9
import Derived.Test.YtbfomjbencbmlaaWLast
import Derived.Test.YtbfomjbencbmlaaWWords
namespace Go.Proofs.Ytbfomjbencbmlaa.Pure
set_option linter.unusedVariables false
set_option linter.unusedSimpArgs false
open Go.RowKit Go.Proofs.Ytbfomjbencbmlaa.Q Go.Proofs.YtbfomjbencbmlaaW.PrintWords
open Go.RowKit Go.Proofs.Ytbfomjbencbmlaa.Q Go.Proofs.YtbfomjbencbmlaaW.PrintWords Go.Proofs.YtbfomjbencbmlaaW.PrintLast
open Go.RowKit Go.Proofs.Ytbfomjbencbmlaa.Q Go.Proofs.YtbfomjbencbmlaaW.PrintWords Go.Proofs.YtbfomjbencbmlaaW.PrintMore
open Go.RowKit Go.Proofs.Ytbfomjbencbmlaa.Q Go.Proofs.YtbfomjbencbmlaaW.PrintWords Go.Proofs.YtbfomjbencbmlaaW.PrintMore Go.Proofs.YtbfomjbencbmlaaW.PrintLast
open Go.RowKit Go.Proofs.YtbfomjbencbmlaaW.PrintWords Go.Proofs.YtbfomjbencbmlaaW.PrintLast

theorem toList_loop (s : ByteArray) : ∀ (d i : Nat) (r : List UInt8), s.size - i = d → ByteArray.toList.loop s i r = r.reverse ++ s.data.toList.drop i := by
  have hsz : s.data.toList.length = s.size := by rw [Array.length_toList]; rfl
  intro d
  induction d with
  | zero =>
    intro i r h
    unfold ByteArray.toList.loop
    rw [if_neg (by omega), List.drop_of_length_le (by omega), List.append_nil]
  | succ d ih =>
    intro i r h
    unfold ByteArray.toList.loop
    have hi : i < s.size := by omega
    have hi' : i < s.data.toList.length := by omega
    rw [if_pos hi, ih (i + 1) _ (by omega), List.drop_eq_getElem_cons hi', List.reverse_cons, List.append_assoc]
    have : s.get! i = s.data.toList[i] := by
      have h2 : i < s.data.size := hi
      show s.data[i]! = _
      rw [getElem!_pos s.data i h2, Array.getElem_toList]
    rw [this]; rfl
theorem toList_data (s : ByteArray) : s.toList = s.data.toList := by
  unfold ByteArray.toList
  rw [toList_loop s s.size 0 [] (by simp)]
  rfl
theorem more {α : Type} {f : Nat → Option α} (h : ∀ k, LeO (f k) (f (k + 1))) {k : Nat} {r : α} (hk : f k = some r) : ∀ {j : Nat}, k ≤ j → f j = some r := by
  intro j hj
  obtain ⟨d, rfl⟩ := Nat.le.dest hj
  clear hj
  induction d with
  | zero => exact hk
  | succ d ih => exact h _ _ ih
theorem wr64 (x : Int) (h0 : -9223372036854775808 ≤ x) (h1 : x ≤ 9223372036854775807) : wrap64 x = x := by unfold wrap64; omega
/-- A text's bytes, as numbers. -/
def bl (s : ByteArray) : List Int := s.data.toList.map fun b => (b.toNat : Int)
theorem bl_length (s : ByteArray) : (bl s).length = s.size := by unfold bl; rw [List.length_map, Array.length_toList]; rfl
theorem nat_map_inj : ∀ {a b : List UInt8}, (a.map fun c => (c.toNat : Int)) = (b.map fun c => (c.toNat : Int)) → a = b
  | [], [], _ => rfl
  | [], _ :: _, h => by simp at h
  | _ :: _, [], h => by simp at h
  | x :: xs, y :: ys, h => by
    simp only [List.map_cons, List.cons.injEq] at h
    have : x = y := UInt8.toNat_inj.1 (by omega)
    rw [this, nat_map_inj h.2]
theorem toList_lit (a : ByteArray) (l : List UInt8) : a.toList = l ↔ bl a = l.map fun c => (c.toNat : Int) := by
  rw [toList_data]
  constructor
  · intro h; unfold bl; rw [h]
  · intro h; exact nat_map_inj h
abbrev Nd := S26
mutual
def dep : Nd → Nat
  | ⟨_, _, _, _, _, l, _⟩ => depL l + 1
def depL : List Nd → Nat
  | [] => 0
  | y :: ys => max (dep y) (depL ys)
end
mutual
def cnt : Nd → Nat
  | ⟨_, _, _, _, _, l, _⟩ => cntL l + 1
def cntL : List Nd → Nat
  | [] => 0
  | y :: ys => cnt y + cntL ys
end
theorem dep_eq (x : Nd) : dep x = depL x.f5 + 1 := by cases x; rfl
theorem cnt_eq (x : Nd) : cnt x = cntL x.f5 + 1 := by cases x; rfl
theorem tree_ind {P : Nd → Prop} (h : ∀ x : Nd, (∀ y ∈ x.f5, P y) → P x) (x : Nd) : P x := h x (fun y hy => tree_ind h y)
termination_by SizeOf.sizeOf x
decreasing_by
  have := List.sizeOf_lt_of_mem hy
  cases x
  simp only [S26.mk.sizeOf_spec] at *
  omega
theorem ok_inv {x : Nd} (h : ok26 x) : (Lit.int .i64 x.f0).wf = true ∧ x.f1.size ≤ 140737488351232 ∧ x.f4.size ≤ 140737488351232 ∧ x.f5.length ≤ 1599289640354 ∧ (∀ y ∈ x.f5, ok26 y) ∧ (Lit.int .i64 x.f6).wf = true := by
  cases h with
  | mk _ h0 h1 h2 h3 h4 h5 g5 h6 =>
    have hb : Try.prog.bytesOf 26 = 88 := by kernel_rfl
    rw [hb] at h5
    exact ⟨h0, h1, h4, by omega, g5, h6⟩
theorem dep_le_cnt : ∀ x : Nd, dep x ≤ cnt x := by
  have key : ∀ ys : List Nd, (∀ y ∈ ys, dep y ≤ cnt y) → depL ys ≤ cntL ys := by
    intro ys
    induction ys with
    | nil => intro _; exact Nat.le_refl _
    | cons y ys ih =>
      intro h
      have h1 := h y (List.mem_cons_self ..)
      have h2 := ih (fun z hz => h z (List.mem_cons_of_mem _ hz))
      simp only [depL, cntL]
      omega
  intro x
  induction x using tree_ind with
  | h x ih => rw [dep_eq, cnt_eq]; have := key x.f5 ih; omega
theorem dep_mem {y : Nd} : ∀ {ys : List Nd}, y ∈ ys → dep y ≤ depL ys
  | z :: zs, h => by
    simp only [depL]
    rcases List.mem_cons.1 h with rfl | h
    · omega
    · have := dep_mem h; omega
theorem drop_rd {l : List Nd} {i : Nat} {y : Nd} {ys : List Nd} (h : l.drop i = y :: ys) : i < l.length ∧ rd_T26 l (i : Int) = y ∧ l.drop (i + 1) = ys ∧ y ∈ l := by
  have hi : i < l.length := by
    rcases Nat.lt_or_ge i l.length with h1 | h1
    · exact h1
    · rw [List.drop_of_length_le h1] at h; cases h
  rw [List.drop_eq_getElem_cons hi] at h
  injection h with h1 h2
  refine ⟨hi, ?_, h2, h1 ▸ List.getElem_mem hi⟩
  unfold rd_T26
  rw [Int.toNat_natCast, List.getD_eq_getElem?_getD, List.getElem?_eq_getElem hi, h1]
  rfl
theorem drop_end {l : List Nd} {i : Nat} (hi : i ≤ l.length) (h : l.drop i = []) : i = l.length := by
  have := congrArg List.length h
  rw [List.length_drop] at this
  simp at this
  omega
theorem nx {i : Nat} (h : i ≤ 4000000000000) : wrap64 ((i : Int) + 1) = ((i + 1 : Nat) : Int) := by rw [wr64 _ (by omega) (by omega)]; omega
theorem ref_count : ∀ x : Nd, ok26 x → cnt x ≤ 1000000 → ∃ k, latheref07_Count.f k x.f0 x.f1 x.f2 x.f3 x.f4 x.f5 x.f6 = some (cnt x : Int) := by
  intro x
  induction x using tree_ind with
  | h x ih =>
    intro hx hd
    obtain ⟨_, _, _, hlen, hmem, _⟩ := ok_inv hx
    have hdd := cnt_eq x
    have key : ∀ (ys : List Nd) (i m : Nat), i ≤ x.f5.length → x.f5.drop i = ys → m + cntL ys ≤ 1000000 → ∃ k, latheref07_Count.l0 k (m : Int) (i : Int) x.f0 x.f1 x.f2 x.f3 x.f4 x.f5 x.f6 = some ((m + cntL ys : Nat) : Int) := by
      intro ys
      induction ys with
      | nil =>
        intro i m hi h hm
        have := drop_end hi h
        exact ⟨1, by rw [latheref07_Count.l0, if_neg (by omega)]; simp [cntL]⟩
      | cons y ys ih2 =>
        intro i m hi h hm
        obtain ⟨hlt, hrd, hnext, hy⟩ := drop_rd h
        simp only [cntL] at hm
        obtain ⟨k1, h1⟩ := ih y hy (hmem y hy) (by omega)
        obtain ⟨k2, h2⟩ := ih2 (i + 1) (m + cnt y) (by omega) hnext (by omega)
        refine ⟨max k1 k2 + 1, ?_⟩
        have e1 : wrap64 ((m : Int) + (cnt y : Int)) = ((m + cnt y : Nat) : Int) := by rw [wr64 _ (by omega) (by omega)]; omega
        rw [latheref07_Count.l0, if_pos (by omega), if_pos (by omega), hrd, more (fun k => latheref07_Count.mono _ _ _ _ _ _ _ k) h1 (Nat.le_max_left k1 k2), Option.bind_some, e1, nx (by omega), more (fun k => (latheref07_Count.mono_l k).2 _ _ _ _ _ _ _ _ _) h2 (Nat.le_max_right k1 k2)]
        simp only [cntL, Nat.add_assoc]
    obtain ⟨k, hk⟩ := key x.f5 0 1 (by omega) rfl (by omega)
    refine ⟨k + 1, ?_⟩
    rw [latheref07_Count.f, hdd, Nat.add_comm]
    exact hk
theorem walk_count : ∀ x : Nd, ∀ d s : Nat, s + cnt x ≤ 2000000 → d + dep x ≤ 2000000 → ∃ k, tree_walk.g tree_Count.step k x (d : Int) (s : Int) = some ((s + cnt x : Nat) : Int) := by
  intro x
  induction x using tree_ind with
  | h x ih =>
    intro d s hs hd
    have hcc := cnt_eq x
    have hdd := dep_eq x
    have key : ∀ (ys : List Nd) (s : Nat), (∀ y ∈ ys, y ∈ x.f5) → s + cntL ys ≤ 2000000 → ∃ k, tree_walk.gl tree_Count.step k ys (d : Int) (s : Int) = some ((s + cntL ys : Nat) : Int) := by
      intro ys
      induction ys with
      | nil => intro s _ hs; exact ⟨1, by rw [tree_walk.gl]; simp [cntL]⟩
      | cons y ys ih2 =>
        intro s hsub hs
        have hy := hsub y (List.mem_cons_self ..)
        have hdy := dep_mem hy
        simp only [cntL] at hs
        obtain ⟨k1, h1⟩ := ih y hy (d + 1) s (by omega) (by omega)
        obtain ⟨k2, h2⟩ := ih2 (s + cnt y) (fun z hz => hsub z (List.mem_cons_of_mem _ hz)) (by omega)
        refine ⟨max k1 k2 + 1, ?_⟩
        rw [tree_walk.gl, nx (by omega), more (fun k => (tree_walk.mono_l _ k).1 _ _ _) h1 (Nat.le_max_left k1 k2), Option.bind_some, more (fun k => (tree_walk.mono_l _ k).2 _ _ _) h2 (Nat.le_max_right k1 k2)]
        simp only [cntL, Nat.add_assoc]
    obtain ⟨k, hk⟩ := key x.f5 (s + 1) (fun _ h => h) (by omega)
    refine ⟨k + 1, ?_⟩
    rw [tree_walk.g, tree_Count.step, nx (by omega), Option.bind_some, hk]
    congr 2
    omega
theorem its_count (x : Nd) (hd : cnt x ≤ 1000000) : ∃ k, tree_Count.f k x.f0 x.f1 x.f2 x.f3 x.f4 x.f5 x.f6 = some (cnt x : Int) := by
  have h0 := dep_le_cnt x
  obtain ⟨k, hk⟩ := walk_count x 1 0 (by omega) (by omega)
  refine ⟨k, ?_⟩
  unfold tree_Count.f
  rw [Nat.zero_add] at hk
  cases x
  exact_mod_cast hk
/-- A node, as the functions hand it on. -/
def tup (x : Nd) : Int × ByteArray × Int × Int × ByteArray × List Nd × Int := (x.f0, x.f1, x.f2, x.f3, x.f4, x.f5, x.f6)
theorem law_twin : ∀ x : Nd, ok26 x → ∃ k, lathelaw07_Twin.f k x.f0 x.f1 x.f2 x.f3 x.f4 x.f5 x.f6 = some (tup x) := by
  intro x
  induction x using tree_ind with
  | h x ih =>
    intro hx
    obtain ⟨_, _, _, hlen, hmem, _⟩ := ok_inv hx
    have key : ∀ (ys : List Nd) (i : Nat) (acc : List Nd), i ≤ x.f5.length → x.f5.drop i = ys → acc.length = i → ∃ k, lathelaw07_Twin.l0 k acc (i : Int) x.f0 x.f1 x.f2 x.f3 x.f4 x.f5 x.f6 = some (x.f0, x.f1, x.f2, x.f3, x.f4, acc ++ ys, x.f6) := by
      intro ys
      induction ys with
      | nil =>
        intro i acc hi h ha
        have := drop_end hi h
        exact ⟨1, by rw [lathelaw07_Twin.l0, if_neg (by omega), List.append_nil]⟩
      | cons y ys ih2 =>
        intro i acc hi h ha
        obtain ⟨hlt, hrd, hnext, hy⟩ := drop_rd h
        obtain ⟨k1, h1⟩ := ih y hy (hmem y hy)
        obtain ⟨k2, h2⟩ := ih2 (i + 1) (acc ++ [y]) (by omega) hnext (by simp; omega)
        refine ⟨max k1 k2 + 1, ?_⟩
        rw [lathelaw07_Twin.l0, if_pos (by omega), if_pos (by omega), hrd, more (fun k => lathelaw07_Twin.mono _ _ _ _ _ _ _ k) h1 (Nat.le_max_left k1 k2), Option.bind_some, if_pos (by omega), nx (by omega)]
        have := more (fun k => (lathelaw07_Twin.mono_l k).2 _ _ _ _ _ _ _ _ _) h2 (Nat.le_max_right k1 k2)
        cases y
        simpa [tup] using this
    obtain ⟨k, hk⟩ := key x.f5 0 [] (by omega) rfl rfl
    exact ⟨k + 1, by rw [lathelaw07_Twin.f]; exact hk⟩
theorem ref_depth : ∀ x : Nd, ok26 x → dep x ≤ 1000000 → ∃ k, latheref07_Depth.f k x.f0 x.f1 x.f2 x.f3 x.f4 x.f5 x.f6 = some (dep x : Int) := by
  intro x
  induction x using tree_ind with
  | h x ih =>
    intro hx hd
    obtain ⟨_, _, _, hlen, hmem, _⟩ := ok_inv hx
    have hdd := dep_eq x
    have key : ∀ (ys : List Nd) (i m : Nat), i ≤ x.f5.length → x.f5.drop i = ys → m ≤ 1000000 → (∀ y ∈ ys, dep y ≤ 1000000) → ∃ k, latheref07_Depth.l0 k (m : Int) (i : Int) x.f0 x.f1 x.f2 x.f3 x.f4 x.f5 x.f6 = some ((max m (depL ys) + 1 : Nat) : Int) := by
      intro ys
      induction ys with
      | nil =>
        intro i m hi h hm _
        have := drop_end hi h
        refine ⟨1, ?_⟩
        rw [latheref07_Depth.l0, if_neg (by omega), wr64 _ (by omega) (by omega)]
        simp [depL]
      | cons y ys ih2 =>
        intro i m hi h hm hys
        obtain ⟨hlt, hrd, hnext, hy⟩ := drop_rd h
        have hdy := hys y (List.mem_cons_self ..)
        obtain ⟨k1, h1⟩ := ih y hy (hmem y hy) hdy
        obtain ⟨k2, h2⟩ := ih2 (i + 1) (max m (dep y)) (by omega) hnext (by omega) (fun z hz => hys z (List.mem_cons_of_mem _ hz))
        refine ⟨max k1 k2 + 1, ?_⟩
        rw [latheref07_Depth.l0, if_pos (by omega), if_pos (by omega), hrd, more (fun k => latheref07_Depth.mono _ _ _ _ _ _ _ k) h1 (Nat.le_max_left k1 k2), Option.bind_some]
        have e1 : mx (m : Int) (dep y : Int) = ((max m (dep y) : Nat) : Int) := by unfold mx; split <;> omega
        have e2 : wrap64 ((i : Int) + 1) = ((i + 1 : Nat) : Int) := by rw [wr64 _ (by omega) (by omega)]; omega
        rw [e1, e2, more (fun k => (latheref07_Depth.mono_l k).2 _ _ _ _ _ _ _ _ _) h2 (Nat.le_max_right k1 k2)]
        simp only [depL, Nat.max_assoc]
    obtain ⟨k, hk⟩ := key x.f5 0 0 (by omega) rfl (by omega) (fun y hy => by have := dep_mem hy; omega)
    refine ⟨k + 1, ?_⟩
    rw [latheref07_Depth.f, hdd]
    rw [Nat.zero_max] at hk
    exact hk
theorem walk_depth : ∀ x : Nd, ∀ d s : Nat, d + dep x ≤ 2000000 → ∃ k, tree_walk.g tree_Depth.step k x (d : Int) (s : Int) = some ((max s (d + dep x - 1) : Nat) : Int) := by
  intro x
  induction x using tree_ind with
  | h x ih =>
    intro d s hd
    have hdd := dep_eq x
    have key : ∀ (ys : List Nd) (s : Nat), (∀ y ∈ ys, y ∈ x.f5) → d ≤ s → ∃ k, tree_walk.gl tree_Depth.step k ys (d : Int) (s : Int) = some ((max s (d + depL ys) : Nat) : Int) := by
      intro ys
      induction ys with
      | nil => intro s _ hs; exact ⟨1, by rw [tree_walk.gl]; simp [depL]; omega⟩
      | cons y ys ih2 =>
        intro s hsub hs
        have hy := hsub y (List.mem_cons_self ..)
        have hdy := dep_mem hy
        obtain ⟨k1, h1⟩ := ih y hy (d + 1) s (by omega)
        obtain ⟨k2, h2⟩ := ih2 (max s (d + 1 + dep y - 1)) (fun z hz => hsub z (List.mem_cons_of_mem _ hz)) (by omega)
        refine ⟨max k1 k2 + 1, ?_⟩
        have e2 : wrap64 ((d : Int) + 1) = ((d + 1 : Nat) : Int) := by rw [wr64 _ (by omega) (by omega)]; omega
        rw [tree_walk.gl, e2, more (fun k => (tree_walk.mono_l _ k).1 _ _ _) h1 (Nat.le_max_left k1 k2), Option.bind_some, more (fun k => (tree_walk.mono_l _ k).2 _ _ _) h2 (Nat.le_max_right k1 k2)]
        simp only [depL]
        congr 2
        omega
    obtain ⟨k, hk⟩ := key x.f5 (max s d) (fun _ h => h) (by omega)
    refine ⟨k + 1, ?_⟩
    have e1 : mx (s : Int) (d : Int) = ((max s d : Nat) : Int) := by unfold mx; split <;> omega
    rw [tree_walk.g, tree_Depth.step, e1, Option.bind_some, hk]
    congr 2
    omega
theorem its_depth (x : Nd) (hd : dep x ≤ 1000000) : ∃ k, tree_Depth.f k x.f0 x.f1 x.f2 x.f3 x.f4 x.f5 x.f6 = some (dep x : Int) := by
  have h0 := dep_eq x
  obtain ⟨k, hk⟩ := walk_depth x 1 0 (by omega)
  refine ⟨k, ?_⟩
  unfold tree_Depth.f
  have : max 0 (1 + dep x - 1) = dep x := by omega
  rw [this] at hk
  cases x
  exact_mod_cast hk
theorem toList_nil (s : ByteArray) : s.toList = ([] : List UInt8) ↔ s.size = 0 := by
  rw [toList_lit]
  constructor
  · intro h
    have := congrArg List.length h
    rw [bl_length] at this
    simpa using this
  · intro h
    have := bl_length s
    rw [h] at this
    simpa using List.length_eq_zero_iff.1 this
theorem name_from (s : ByteArray) (hs : s.size ≤ 140737488351232) : ∀ (d i : Nat), s.size - i = d → i ≤ s.size → ∃ k r, tree_named.l0 k s (s.size : Int) (i : Int) = some r ∧ latheref07_Name.l0 k s (i : Int) = some r := by
  intro d
  induction d with
  | zero =>
    intro i hd hi
    refine ⟨1, decide ((s.size : Int) > 0), ?_, ?_⟩
    · rw [tree_named.l0, if_neg (by omega)]
      congr 1
      by_cases h : s.size = 0
      · have := (toList_nil s).2 h
        rw [this]
        simp [h]
      · have h2 : ¬ s.toList = ([] : List UInt8) := fun e => h ((toList_nil s).1 e)
        rw [bne_iff_ne.2 h2, decide_eq_true (by omega)]
    · rw [latheref07_Name.l0, if_neg (by omega)]
  | succ d ih =>
    intro i hd hi
    obtain ⟨k, r, h1, h2⟩ := ih (i + 1) (by omega) (by omega)
    have e : wrap64 ((i : Int) + 1) = ((i + 1 : Nat) : Int) := by rw [wr64 _ (by omega) (by omega)]; omega
    by_cases good : (97 ≤ bt s (i : Int) ∧ bt s (i : Int) ≤ 122) ∨ bt s (i : Int) = 95 ∨ (¬ (i : Int) = 0 ∧ 48 ≤ bt s (i : Int) ∧ bt s (i : Int) ≤ 57)
    · refine ⟨k + 1, r, ?_, ?_⟩
      · rw [tree_named.l0, if_pos (by omega), if_pos (by omega), if_pos (by omega), e, h1]
        repeat' split
        all_goals first | rfl | (exfalso; omega)
      · rw [latheref07_Name.l0, if_pos (by omega), if_pos (by omega), e, h2]
        repeat' split
        all_goals first | rfl | (exfalso; omega)
    · refine ⟨k + 1, false, ?_, ?_⟩
      · rw [tree_named.l0, if_pos (by omega), if_pos (by omega), if_pos (by omega)]
        repeat' split
        all_goals first | rfl | (exfalso; omega)
      · rw [latheref07_Name.l0, if_pos (by omega), if_pos (by omega)]
        repeat' split
        all_goals first | rfl | (exfalso; omega)
theorem name_same (s : ByteArray) (hs : s.size ≤ 140737488351232) : ∃ k r, tree_named.f k s = some r ∧ latheref07_Name.f k s = some r := by
  obtain ⟨k, r, h1, h2⟩ := name_from s hs _ 0 rfl (by omega)
  exact ⟨k, r, h1, h2⟩
theorem text_from (s : ByteArray) (hs : s.size ≤ 140737488351232) : ∀ (d i : Nat), s.size - i = d → i ≤ s.size → ∃ k r, tree_quoted.l0 k s (s.size : Int) (i : Int) = some r ∧ latheref07_text.l0 k s (i : Int) = some r := by
  intro d
  induction d with
  | zero =>
    intro i hd hi
    exact ⟨1, true, by rw [tree_quoted.l0, if_neg (by omega)], by rw [latheref07_text.l0, if_neg (by omega)]⟩
  | succ d ih =>
    intro i hd hi
    obtain ⟨k, r, h1, h2⟩ := ih (i + 1) (by omega) (by omega)
    have e : wrap64 ((i : Int) + 1) = ((i + 1 : Nat) : Int) := by rw [wr64 _ (by omega) (by omega)]; omega
    by_cases bad : bt s (i : Int) < 32 ∨ bt s (i : Int) > 126 ∨ bt s (i : Int) = 34
    · refine ⟨k + 1, false, ?_, ?_⟩
      · rw [tree_quoted.l0, if_pos (by omega), if_pos (by omega), if_pos (by omega)]
        repeat' split
        all_goals first | rfl | (exfalso; omega)
      · rw [latheref07_text.l0, if_pos (by omega), if_pos (by omega)]
        repeat' split
        all_goals first | rfl | (exfalso; omega)
    · refine ⟨k + 1, r, ?_, ?_⟩
      · rw [tree_quoted.l0, if_pos (by omega), if_pos (by omega), if_pos (by omega), if_neg (by omega), if_neg (by omega), if_neg (by omega), e, h1]
      · rw [latheref07_text.l0, if_pos (by omega), if_pos (by omega), if_neg (by omega), if_neg (by omega), if_neg (by omega), e, h2]
theorem text_same (s : ByteArray) (hs : s.size ≤ 140737488351232) : ∃ k r, tree_quoted.f k s = some r ∧ latheref07_text.f k s = some r := by
  obtain ⟨k, r, h1, h2⟩ := text_from s hs _ 0 rfl (by omega)
  exact ⟨k, r, h1, h2⟩
theorem and_mask (i : Nat) (hi : i ≤ 32) (x : Int) (h0 : 0 ≤ x) (h1 : x ≤ 4294967295) : bits .and .u32 x (2 ^ i - 1) = x % 2 ^ i :=
  bits_mask .u32 32 (by decide) (fun n a b => by rw [IntKind.wrap_u32]; omega) i hi x h0 (by omega)
theorem class_same (a : Int) (h0 : 0 ≤ a) (h1 : a ≤ 4294967295) : ∃ k t, bits_Class.f k a = some t ∧ latheref05_Finite1.f (wrap64 a) = some (decide (t < 4)) := by
  have e1 : wrap64 (bits .and .u32 (a / 8388608) 255) = (a / 8388608) % 256 := by
    have := and_mask 8 (by omega) (a / 8388608) (by omega) (by omega)
    rw [show ((2 : Int) ^ 8 - 1) = 255 from rfl, show ((2 : Int) ^ 8) = 256 from rfl] at this
    rw [this, wr64 _ (by omega) (by omega)]
  have e2 : wrap64 (bits .and .u32 a 8388607) = a % 8388608 := by
    have := and_mask 23 (by omega) a (by omega) (by omega)
    rw [show ((2 : Int) ^ 23 - 1) = 8388607 from rfl, show ((2 : Int) ^ 23) = 8388608 from rfl] at this
    rw [this, wr64 _ (by omega) (by omega)]
  have e3 : Int.tmod a 2147483648 = a % 2147483648 := Int.tmod_eq_emod_of_nonneg h0
  have fin : ∀ t : Int, ((t < 4) ↔ (a / 8388608) % 256 < 255) → latheref05_Finite1.f (wrap64 a) = some (decide (t < 4)) := by
    intro t ht
    unfold latheref05_Finite1.f
    rw [wr64 a (by omega) (by omega), e3]
    congr 1
    rw [decide_eq_decide, ht]
    omega
  unfold bits_Class.f bits_Parts.f
  simp only [Option.bind_some, e1, e2]
  by_cases c0 : (a / 8388608) % 256 = 0
  · by_cases c1 : a % 8388608 = 0
    · refine ⟨1, 1, ?_, fin 1 (by omega)⟩
      rw [if_pos c0, bits_Class.j0, if_pos (by rw [c1]; rfl)]
    · refine ⟨1, 2, ?_, fin 2 (by omega)⟩
      rw [if_pos c0, bits_Class.j0, if_neg (by simpa using c1), if_pos c0]
  · by_cases c2 : (a / 8388608) % 256 < 255
    · refine ⟨1, 3, ?_, fin 3 (by omega)⟩
      rw [if_neg c0, bits_Class.j0, if_neg (by decide), if_neg c0, if_pos c2]
    · by_cases c1 : a % 8388608 = 0
      · refine ⟨1, 4, ?_, fin 4 (by omega)⟩
        rw [if_neg c0, bits_Class.j0, if_neg (by decide), if_neg c0, if_neg c2, if_pos c1]
      · refine ⟨1, 5, ?_, fin 5 (by omega)⟩
        rw [if_neg c0, bits_Class.j0, if_neg (by decide), if_neg c0, if_neg c2, if_neg c1]
theorem num_wf {x : Nd} (hx : ok26 x) : 0 ≤ x.f2 ∧ x.f2 ≤ 4294967295 := by
  cases hx with
  | mk _ h0 h1 h2 h3 h4 h5 g5 h6 =>
    simp [Lit.wf, IntKind.min, IntKind.max, IntKind.signed, IntKind.bits] at h2
    omega
/-- A let, by itself: package latheref07 asks for the numbers, too. -/
theorem let_same (x : Nd) (hx : ok26 x) : ∃ k r, tree_let.f k x.f0 x.f1 x.f2 x.f3 x.f4 x.f5 x.f6 = some r ∧ latheref07_let.f k x.f0 x.f1 x.f2 x.f3 x.f4 x.f5 x.f6 = some (r && decide (x.f2 = 0) && decide (x.f3 = 0)) := by
  obtain ⟨_, hnm, _, hlen, hmem, _⟩ := ok_inv hx
  obtain ⟨k, n, h1, h2⟩ := name_same x.f1 hnm
  unfold tree_let.f latheref07_let.f
  refine ⟨k, ?_⟩
  rw [h1, h2, Option.bind_some, Option.bind_some]
  by_cases c0 : n = true
  case neg => exact ⟨false, by rw [if_neg c0], by rw [if_neg c0]; rfl⟩
  by_cases c1 : x.f1.toList = ([116, 114, 117, 101] : List UInt8)
  case pos => exact ⟨false, by rw [if_pos c0, if_pos c1], by rw [if_pos c0, if_pos c1]; rfl⟩
  by_cases c2 : x.f1.toList = ([102, 97, 108, 115, 101] : List UInt8)
  case pos => exact ⟨false, by rw [if_pos c0, if_neg c1, if_pos c2], by rw [if_pos c0, if_neg c1, if_pos c2]; rfl⟩
  rw [if_pos c0, if_neg c1, if_neg c2, if_pos c0, if_neg c1, if_neg c2]
  by_cases c3 : (x.f5.length : Int) = 2
  case neg => exact ⟨false, by rw [if_neg c3], by simp [c3]⟩
  have q0 : 0 < x.f5.length := by omega
  have q1 : 1 < x.f5.length := by omega
  by_cases d1 : x.f2 = 0 <;> by_cases d2 : x.f3 = 0 <;> by_cases d3 : (rd_T26 x.f5 0).f4.toList = ([] : List UInt8) <;> by_cases d4 : (rd_T26 x.f5 1).f4.toList = ([] : List UInt8) <;> by_cases d5 : (rd_T26 x.f5 0).f0 = 6 <;> by_cases d6 : (rd_T26 x.f5 1).f0 = 6 <;> simp [c3, q0, q1, d1, d2, d3, d4, d5, d6]
/-- May a node by itself be? -/
def mayv (x : Nd) (n1 n2 q : Bool) (t : Int) (l : Bool) : Bool :=
  if ¬ x.f4.toList = ([] : List UInt8) ∧ n2 = false then false
  else if x.f0 = 1 then n1 && decide (x.f2 = 0) && decide (x.f3 = 0)
  else if x.f0 = 2 then decide (x.f1.toList = ([] : List UInt8)) && decide (t < 4) && decide (x.f3 = 0) && decide (x.f5.length = 0)
  else if x.f0 = 3 then decide (x.f1.toList = ([] : List UInt8)) && decide (x.f2 = 0) && decide (-2147483647 ≤ x.f3) && decide (x.f3 ≤ 2147483647) && decide (x.f5.length = 0)
  else if x.f0 = 4 then n1 && decide (x.f2 = 0) && decide (x.f3 = 0) && decide (x.f5.length = 0)
  else if x.f0 = 6 then l && decide (x.f2 = 0) && decide (x.f3 = 0)
  else if x.f0 = 5 then q && decide (x.f2 = 0) && decide (x.f3 = 0) && decide (x.f5.length = 0)
  else false
set_option maxHeartbeats 8000000 in
theorem may_same (x : Nd) (hx : ok26 x) : ∃ k r, tree_may.f k x.f0 x.f1 x.f2 x.f3 x.f4 x.f5 x.f6 = some r ∧ latheref07_may.f k x.f0 x.f1 x.f2 x.f3 x.f4 x.f5 x.f6 = some r := by
  obtain ⟨_, hnm, hky, hlen, hmem, _⟩ := ok_inv hx
  obtain ⟨k1, n1, a1, b1⟩ := name_same x.f1 hnm
  obtain ⟨k2, n2, a2, b2⟩ := name_same x.f4 hky
  obtain ⟨k3, q, a3, b3⟩ := text_same x.f1 hnm
  obtain ⟨k4, t, a4, b4⟩ := class_same x.f2 (num_wf hx).1 (num_wf hx).2
  obtain ⟨k5, l, a5, b5⟩ := let_same x hx
  generalize hK : max (max k1 k2) (max (max k3 k4) k5) = K
  have A1 := more (fun k => tree_named.mono _ k) a1 (show k1 ≤ K by omega)
  have A2 := more (fun k => tree_named.mono _ k) a2 (show k2 ≤ K + 2 by omega)
  have A3 := more (fun k => tree_quoted.mono _ k) a3 (show k3 ≤ K by omega)
  have A4 := more (fun k => bits_Class.mono _ k) a4 (show k4 ≤ K by omega)
  have A5 := more (fun k => tree_let.mono _ _ _ _ _ _ _ k) a5 (show k5 ≤ K by omega)
  have B1 := more (fun k => latheref07_Name.mono _ k) b1 (show k1 ≤ K + 1 by omega)
  have B2 := more (fun k => latheref07_Name.mono _ k) b2 (show k2 ≤ K + 2 by omega)
  have B3 := more (fun k => latheref07_text.mono _ k) b3 (show k3 ≤ K + 1 by omega)
  have B5 := more (fun k => latheref07_let.mono _ _ _ _ _ _ _ k) b5 (show k5 ≤ K + 1 by omega)
  have kinds : x.f0 = 1 ∨ x.f0 = 2 ∨ x.f0 = 3 ∨ x.f0 = 4 ∨ x.f0 = 5 ∨ x.f0 = 6 ∨ (¬ x.f0 = 1 ∧ ¬ x.f0 = 2 ∧ ¬ x.f0 = 3 ∧ ¬ x.f0 = 4 ∧ ¬ x.f0 = 5 ∧ ¬ x.f0 = 6) := by omega
  refine ⟨K + 2, mayv x n1 n2 q t l, ?_, ?_⟩
  · unfold tree_may.f mayv
    simp only [tree_may.j0, tree_may.j1, A1, A2, A3, A4, A5, Option.bind_some]
    by_cases hk : x.f4.toList = ([] : List UInt8) <;> cases n2 <;> by_cases d1 : x.f2 = 0 <;> by_cases d2 : x.f3 = 0 <;> by_cases d3 : x.f5.length = 0 <;> rcases kinds with e | e | e | e | e | e | ⟨e1, e2, e3, e4, e5, e6⟩ <;> simp_all <;> try omega
    all_goals (by_cases c1 : x.f1.toList = ([] : List UInt8) <;> by_cases c2 : -2147483647 ≤ x.f3 <;> simp [c1, c2])
  · unfold latheref07_may.f mayv
    simp only [latheref07_may.j0, B1, B2, B3, b4, B5, Option.bind_some]
    clear A1 A2 A3 A4 A5 B1 B2 B3 B5 a1 a2 a3 a4 a5 b1 b2 b3 b4 b5 hK hmem hx hlen hnm hky
    have len0 : ((x.f5.length : Int) = 0) ↔ x.f5.length = 0 := by omega
    by_cases hk : x.f4.toList = ([] : List UInt8) <;> cases n2 <;> rcases kinds with e | e | e | e | e | e | ⟨e1, e2, e3, e4, e5, e6⟩
    all_goals first
      | (simp [hk, e]; done)
      | (simp [hk, e1, e2, e3, e4, e5, e6]; done)
      | skip
    all_goals (by_cases d1 : x.f2 = 0 <;> by_cases d2 : x.f3 = 0 <;> by_cases d3 : x.f5.length = 0 <;> by_cases c1 : x.f1.toList = ([] : List UInt8) <;> by_cases c2 : -2147483647 ≤ x.f3 <;> by_cases c3 : x.f3 ≤ 2147483647 <;> by_cases c4 : t < 4 <;> simp [hk, e, d1, d2, d3, c1, c2, c3, c4] <;> (first | (cases n1 <;> rfl) | (cases q <;> rfl) | (cases l <;> rfl)))
theorem first_same : ∀ x : Nd, ok26 x → ∀ low : Bool, ∃ k r, tree_faults.f k x.f0 x.f1 x.f2 x.f3 x.f4 x.f5 x.f6 low = some r ∧ latheref07_first.f k x.f0 x.f1 x.f2 x.f3 x.f4 x.f5 x.f6 low = some r := by
  intro x
  induction x using tree_ind with
  | h x ih =>
    intro hx low
    obtain ⟨_, _, _, hlen, hmem, _⟩ := ok_inv hx
    obtain ⟨km, m, hm1, hm2⟩ := may_same x hx
    have key : ∀ (ys : List Nd) (i : Nat), i ≤ x.f5.length → x.f5.drop i = ys → ∃ k r, tree_faults.l0 k x.f5 (x.f5.length : Int) (i : Int) x.f0 x.f1 x.f2 x.f3 x.f4 x.f5 x.f6 = some r ∧ latheref07_first.l0 k (i : Int) x.f0 x.f1 x.f2 x.f3 x.f4 x.f5 x.f6 = some r := by
      intro ys
      induction ys with
      | nil =>
        intro i hi h
        have := drop_end hi h
        exact ⟨1, 0, by rw [tree_faults.l0, if_neg (by omega)], by rw [latheref07_first.l0, if_neg (by omega)]⟩
      | cons y ys ih2 =>
        intro i hi h
        obtain ⟨hlt, hrd, hnext, hy⟩ := drop_rd h
        obtain ⟨k2, r2, h2, g2⟩ := ih2 (i + 1) (by omega) hnext
        have step : ∀ b : Bool, ∃ k r, (∀ j, k ≤ j → ((tree_faults.f j y.f0 y.f1 y.f2 y.f3 y.f4 y.f5 y.f6 b).bind fun t => (if t = 0 then tree_faults.l0 j x.f5 (x.f5.length : Int) ((i + 1 : Nat) : Int) x.f0 x.f1 x.f2 x.f3 x.f4 x.f5 x.f6 else some t)) = some r ∧
            ((latheref07_first.f j y.f0 y.f1 y.f2 y.f3 y.f4 y.f5 y.f6 b).bind fun t => (if t = 0 then latheref07_first.l0 j ((i + 1 : Nat) : Int) x.f0 x.f1 x.f2 x.f3 x.f4 x.f5 x.f6 else some t)) = some r) := by
          intro b
          obtain ⟨k1, r1, h1, g1⟩ := ih y hy (hmem y hy) b
          by_cases hz : r1 = 0
          · refine ⟨max k1 k2, r2, fun j hj => ⟨?_, ?_⟩⟩
            · rw [more (fun k => tree_faults.mono _ _ _ _ _ _ _ _ k) h1 (by omega), Option.bind_some, if_pos hz, more (fun k => (tree_faults.mono_l k).2.2.1 _ _ _ _ _ _ _ _ _ _) h2 (by omega)]
            · rw [more (fun k => latheref07_first.mono _ _ _ _ _ _ _ _ k) g1 (by omega), Option.bind_some, if_pos hz, more (fun k => (latheref07_first.mono_l k).2.2.2 _ _ _ _ _ _ _ _) g2 (by omega)]
          · refine ⟨k1, r1, fun j hj => ⟨?_, ?_⟩⟩
            · rw [more (fun k => tree_faults.mono _ _ _ _ _ _ _ _ k) h1 (by omega), Option.bind_some, if_neg hz]
            · rw [more (fun k => latheref07_first.mono _ _ _ _ _ _ _ _ k) g1 (by omega), Option.bind_some, if_neg hz]
        by_cases h6 : x.f0 = 6
        · obtain ⟨k, r, hk⟩ := step ((i : Int) == 0)
          obtain ⟨e1, e2⟩ := hk k (Nat.le_refl k)
          exact ⟨k + 1, r, by rw [tree_faults.l0, if_pos (by omega), if_pos (by omega), if_pos (by omega), if_pos h6, hrd, nx (by omega)]; exact e1, by rw [latheref07_first.l0, if_pos (by omega), if_pos (by omega), if_pos h6, hrd, nx (by omega)]; exact e2⟩
        · obtain ⟨k, r, hk⟩ := step true
          obtain ⟨e1, e2⟩ := hk k (Nat.le_refl k)
          exact ⟨k + 1, r, by rw [tree_faults.l0, if_pos (by omega), if_pos (by omega), if_pos (by omega), if_neg h6, hrd, nx (by omega)]; exact e1, by rw [latheref07_first.l0, if_pos (by omega), if_pos (by omega), if_neg h6, hrd, nx (by omega)]; exact e2⟩
    obtain ⟨kl, rl, hl1, hl2⟩ := key x.f5 0 (by omega) rfl
    have l1 : ∀ j, kl ≤ j → tree_faults.l0 j x.f5 (x.f5.length : Int) 0 x.f0 x.f1 x.f2 x.f3 x.f4 x.f5 x.f6 = some rl := fun j hj => more (fun k => (tree_faults.mono_l k).2.2.1 _ _ _ _ _ _ _ _ _ _) hl1 hj
    have l2 : ∀ j, kl ≤ j → latheref07_first.l0 j 0 x.f0 x.f1 x.f2 x.f3 x.f4 x.f5 x.f6 = some rl := fun j hj => more (fun k => (latheref07_first.mono_l k).2.2.2 _ _ _ _ _ _ _ _) hl2 hj
    have m1 : ∀ j, km ≤ j → tree_may.f j x.f0 x.f1 x.f2 x.f3 x.f4 x.f5 x.f6 = some m := fun j hj => more (fun k => tree_may.mono _ _ _ _ _ _ _ k) hm1 hj
    have m2 : ∀ j, km ≤ j → latheref07_may.f j x.f0 x.f1 x.f2 x.f3 x.f4 x.f5 x.f6 = some m := fun j hj => more (fun k => latheref07_may.mono _ _ _ _ _ _ _ k) hm2 hj
    -- behind the test of the lengths
    have rest : ∀ b : Bool, ∃ r, tree_faults.j0 (max km kl + 2) low b x.f0 x.f1 x.f2 x.f3 x.f4 x.f5 x.f6 = some r ∧ latheref07_first.j0 (max km kl + 2) low b x.f0 x.f1 x.f2 x.f3 x.f4 x.f5 x.f6 = some r := by
      intro b
      rw [tree_faults.j0, latheref07_first.j0]
      cases b with
      | true => exact ⟨2, rfl, rfl⟩
      | false =>
        simp only [Bool.false_eq_true, if_false]
        rw [m1 _ (by omega), m2 _ (by omega), Option.bind_some, Option.bind_some, tree_faults.j1, latheref07_first.j1, latheref07_first.j1, latheref07_first.j1, l1 _ (by omega), l2 _ (by omega)]
        cases m <;> cases low <;> by_cases h6 : x.f0 = 6 <;> simp [h6]
    by_cases hsz : (x.f1.size : Int) > 64
    · obtain ⟨r, h1, h2⟩ := rest true
      exact ⟨max km kl + 3, r, by rw [tree_faults.f, if_pos hsz]; exact h1, by rw [latheref07_first.f, if_pos hsz]; exact h2⟩
    · obtain ⟨r, h1, h2⟩ := rest (decide ((x.f4.size : Int) > 64))
      exact ⟨max km kl + 3, r, by rw [tree_faults.f, if_neg hsz]; exact h1, by rw [latheref07_first.f, if_neg hsz]; exact h2⟩
theorem check_same (x : Nd) (hx : ok26 x) (hc : cnt x ≤ 1000000) : ∃ k r, tree_Check.f k x.f0 x.f1 x.f2 x.f3 x.f4 x.f5 x.f6 = some r ∧ latheref07_Check.f k x.f0 x.f1 x.f2 x.f3 x.f4 x.f5 x.f6 = some r := by
  have hd := dep_le_cnt x
  obtain ⟨k1, h1⟩ := its_depth x (by omega)
  obtain ⟨k2, h2⟩ := ref_depth x hx (by omega)
  obtain ⟨k3, h3⟩ := its_count x hc
  obtain ⟨k4, h4⟩ := ref_count x hx hc
  obtain ⟨k5, r, h5, h6⟩ := first_same x hx false
  generalize hK : max (max k1 k2) (max (max k3 k4) k5) = K
  have a1 := more (fun k => tree_Depth.mono _ _ _ _ _ _ _ k) h1 (show k1 ≤ K by omega)
  have a2 := more (fun k => latheref07_Depth.mono _ _ _ _ _ _ _ k) h2 (show k2 ≤ K by omega)
  have a3 := more (fun k => tree_Count.mono _ _ _ _ _ _ _ k) h3 (show k3 ≤ K by omega)
  have a4 := more (fun k => latheref07_Count.mono _ _ _ _ _ _ _ k) h4 (show k4 ≤ K by omega)
  have a5 := more (fun k => tree_faults.mono _ _ _ _ _ _ _ _ k) h5 (show k5 ≤ K by omega)
  have a6 := more (fun k => latheref07_first.mono _ _ _ _ _ _ _ _ k) h6 (show k5 ≤ K by omega)
  refine ⟨K, if (dep x : Int) > 64 then 81 else if (cnt x : Int) > 4096 then 82 else if x.f4.toList = ([] : List UInt8) then r else if (x.f1.size : Int) ≤ 64 then (if (x.f4.size : Int) ≤ 64 then 70 else r) else r, ?_, ?_⟩
  · unfold tree_Check.f
    rw [a1, Option.bind_some, a3, Option.bind_some, a5]
    repeat' split
    all_goals rfl
  · unfold latheref07_Check.f
    rw [a2, Option.bind_some, a4, Option.bind_some, a6]
    repeat' split
    all_goals rfl
theorem same_is : ∀ x : Nd, ok26 x → ∃ k, lathelaw07_same.f k x.f0 x.f1 x.f2 x.f3 x.f4 x.f5 x.f6 x.f0 x.f1 x.f2 x.f3 x.f4 x.f5 x.f6 = some true := by
  intro x
  induction x using tree_ind with
  | h x ih =>
    intro hx
    obtain ⟨_, _, _, hlen, hmem, _⟩ := ok_inv hx
    have hb : ((x.f5.length : Int) != (x.f5.length : Int)) = false := by simp
    have key : ∀ (ys : List Nd) (i : Nat), i ≤ x.f5.length → x.f5.drop i = ys → ∃ k, lathelaw07_same.l0 k (i : Int) x.f0 x.f1 x.f2 x.f3 x.f4 x.f5 x.f6 x.f0 x.f1 x.f2 x.f3 x.f4 x.f5 x.f6 = some true := by
      intro ys
      induction ys with
      | nil =>
        intro i hi h
        have := drop_end hi h
        exact ⟨1, by rw [lathelaw07_same.l0, if_neg (by omega)]⟩
      | cons a ys ih2 =>
        intro i hi h
        obtain ⟨hlt, hrd, hnext, ha⟩ := drop_rd h
        obtain ⟨k1, h1⟩ := ih a ha (hmem a ha)
        obtain ⟨k2, h2⟩ := ih2 (i + 1) (by omega) hnext
        refine ⟨max k1 k2 + 1, ?_⟩
        rw [lathelaw07_same.l0, if_pos (by omega), if_pos (by omega), if_pos (by omega), hrd, more (fun k => lathelaw07_same.mono _ _ _ _ _ _ _ _ _ _ _ _ _ _ k) h1 (Nat.le_max_left k1 k2), Option.bind_some, if_pos rfl, nx (by omega), more (fun k => (lathelaw07_same.mono_l k).2.2 _ _ _ _ _ _ _ _ _ _ _ _ _ _ _) h2 (Nat.le_max_right k1 k2)]
    obtain ⟨k, hk⟩ := key x.f5 0 (by omega) rfl
    exact ⟨k + 2, by rw [lathelaw07_same.f, if_pos rfl, if_pos rfl, if_pos rfl, if_pos rfl, if_pos rfl, if_pos rfl, hb, lathelaw07_same.j0, if_neg (by decide)]; exact hk⟩
theorem room_is : ∀ x : Nd, ok26 x → ∀ left : Int, 0 ≤ left → left ≤ 1000000 → ∃ k, lathelaw07_room.f k x.f0 x.f1 x.f2 x.f3 x.f4 x.f5 x.f6 left = some (max (left - (cnt x : Int)) (-1)) := by
  intro x
  induction x using tree_ind with
  | h x ih =>
    intro hx left h0 hl
    obtain ⟨_, _, _, hlen, hmem, _⟩ := ok_inv hx
    have hcc := cnt_eq x
    have key : ∀ (ys : List Nd) (i : Nat) (left : Int), i ≤ x.f5.length → x.f5.drop i = ys → -1 ≤ left → left ≤ 1000000 → ∃ k, lathelaw07_room.l0 k left (i : Int) x.f0 x.f1 x.f2 x.f3 x.f4 x.f5 x.f6 = some (max (left - (cntL ys : Int)) (-1)) := by
      intro ys
      induction ys with
      | nil =>
        intro i left hi h hm _
        have := drop_end hi h
        refine ⟨1, ?_⟩
        rw [lathelaw07_room.l0, if_neg (by omega)]
        simp [cntL]; omega
      | cons y ys ih2 =>
        intro i left hi h hm hl
        obtain ⟨hlt, hrd, hnext, hy⟩ := drop_rd h
        by_cases h0 : 0 ≤ left
        · obtain ⟨k1, h1⟩ := ih y hy (hmem y hy) left h0 hl
          obtain ⟨k2, h2⟩ := ih2 (i + 1) (max (left - (cnt y : Int)) (-1)) (by omega) hnext (by omega) (by omega)
          refine ⟨max k1 k2 + 1, ?_⟩
          have e2 : wrap64 ((i : Int) + 1) = ((i + 1 : Nat) : Int) := by rw [wr64 _ (by omega) (by omega)]; omega
          rw [lathelaw07_room.l0, if_pos (by omega), if_pos h0, if_pos (by omega), hrd, more (fun k => lathelaw07_room.mono _ _ _ _ _ _ _ _ k) h1 (Nat.le_max_left k1 k2), Option.bind_some, e2, more (fun k => (lathelaw07_room.mono_l k).2 _ _ _ _ _ _ _ _ _) h2 (Nat.le_max_right k1 k2)]
          simp only [cntL]
          congr 1
          omega
        · refine ⟨1, ?_⟩
          rw [lathelaw07_room.l0, if_pos (by omega), if_neg (by omega)]
          congr 1
          omega
    obtain ⟨k, hk⟩ := key x.f5 0 (left - 1) (by omega) rfl (by omega) (by omega)
    refine ⟨k + 1, ?_⟩
    rw [lathelaw07_room.f, wr64 _ (by omega) (by omega), hcc]
    refine Eq.trans hk ?_
    congr 1
    omega
theorem big_is (x : Nd) (hx : ok26 x) : ∃ k, lathelaw07_big.f k x.f0 x.f1 x.f2 x.f3 x.f4 x.f5 x.f6 = some (decide (9000 < cnt x)) := by
  obtain ⟨k, hk⟩ := room_is x hx 9000 (by omega) (by omega)
  refine ⟨k, ?_⟩
  unfold lathelaw07_big.f
  rw [hk, Option.bind_some]
  congr 1
  simp only [decide_eq_decide]
  omega
theorem surely : lathelaw07_sure.f 40 = some true := by decide +kernel
theorem surely_k {k : Nat} (h : 40 ≤ k) : lathelaw07_sure.f k = some true := more lathelaw07_sure.mono surely h
theorem TreeChecks (x0 : S26) (b0 : ok26 x0) : ∃ k, lathelaw07_TreeChecks.f k (x0.f0) (x0.f1) (x0.f2) (x0.f3) (x0.f4) (x0.f5) (x0.f6) = some true := by
  obtain ⟨kb, hb⟩ := big_is x0 b0
  by_cases hbig : 9000 < cnt x0
  · refine ⟨max kb 40, ?_⟩
    unfold lathelaw07_TreeChecks.f
    rw [more (fun k => lathelaw07_big.mono _ _ _ _ _ _ _ k) hb (Nat.le_max_left kb 40), Option.bind_some, if_pos (by simpa using hbig), surely_k (Nat.le_max_right kb 40)]
    rfl
  · obtain ⟨k1, h1⟩ := law_twin x0 b0
    obtain ⟨k2, r, h2, h3⟩ := check_same x0 b0 (by omega)
    obtain ⟨k4, h4⟩ := same_is x0 b0
    refine ⟨max (max kb 40) (max k1 (max k2 k4)), ?_⟩
    unfold lathelaw07_TreeChecks.f
    rw [more (fun k => lathelaw07_big.mono _ _ _ _ _ _ _ k) hb (by omega), Option.bind_some, if_neg (by simpa using hbig), more (fun k => lathelaw07_Twin.mono _ _ _ _ _ _ _ k) h1 (by omega), Option.bind_some]
    dsimp only [tup]
    rw [more (fun k => tree_Check.mono _ _ _ _ _ _ _ k) h2 (by omega), Option.bind_some, more (fun k => latheref07_Check.mono _ _ _ _ _ _ _ k) h3 (by omega), Option.bind_some, if_pos rfl, more (fun k => lathelaw07_same.mono _ _ _ _ _ _ _ _ _ _ _ _ _ _ k) h4 (by omega), Option.bind_some, if_pos rfl, surely_k (by omega)]
    rfl
end Go.Proofs.Ytbfomjbencbmlaa.Pure
