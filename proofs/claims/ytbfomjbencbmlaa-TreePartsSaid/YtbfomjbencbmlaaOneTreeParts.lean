/- The statement TreeParts over the printed Lean functions: it answers true for every tree. Conditions: the tree reads within the reading's bounds. -/
import Derived.Test.YtbfomjbencbmlaaOpenT
import Derived.Test.YtbfomjbencbmlaaQx0TreeParts
import Derived.Test.YtbfomjbencbmlaaQx1
import Derived.Test.YtbfomjbencbmlaaQx14
import Derived.Test.YtbfomjbencbmlaaQx18
import Derived.Test.YtbfomjbencbmlaaQx7
import Derived.Test.YtbfomjbencbmlaaQx8
import Derived.Test.YtbfomjbencbmlaaWLast
import Derived.Test.YtbfomjbencbmlaaWWords
namespace Go.Proofs.Ytbfomjbencbmlaa.Pure
set_option linter.unusedVariables false
set_option linter.unusedSimpArgs false
open Go.RowKit Go.Proofs.Ytbfomjbencbmlaa.Q Go.Proofs.YtbfomjbencbmlaaW.PrintWords
open Go.RowKit Go.Proofs.Ytbfomjbencbmlaa.Q Go.Proofs.YtbfomjbencbmlaaW.PrintWords Go.Proofs.YtbfomjbencbmlaaW.PrintLast
open Go.RowKit Go.Proofs.Ytbfomjbencbmlaa.Q Go.Proofs.YtbfomjbencbmlaaW.PrintWords Go.Proofs.YtbfomjbencbmlaaW.PrintMore
open Go.RowKit Go.Proofs.Ytbfomjbencbmlaa.Q Go.Proofs.YtbfomjbencbmlaaW.PrintWords Go.Proofs.YtbfomjbencbmlaaW.PrintMore Go.Proofs.YtbfomjbencbmlaaW.PrintLast
open Go.RowKit Go.Proofs.YtbfomjbencbmlaaW.PrintWords Go.Proofs.YtbfomjbencbmlaaW.PrintLast

theorem more {α : Type} {f : Nat → Option α} (h : ∀ k, LeO (f k) (f (k + 1))) {k : Nat} {r : α} (hk : f k = some r) : ∀ {j : Nat}, k ≤ j → f j = some r := by
  intro j hj
  obtain ⟨d, rfl⟩ := Nat.le.dest hj
  clear hj
  induction d with
  | zero => exact hk
  | succ d ih => exact h _ _ ih
theorem wr64 (x : Int) (h0 : -9223372036854775808 ≤ x) (h1 : x ≤ 9223372036854775807) : wrap64 x = x := by unfold wrap64; omega
abbrev Nd := S26
mutual
def dep : Nd → Nat
  | ⟨_, _, _, _, _, l, _⟩ => depL l + 1
def depL : List Nd → Nat
  | [] => 0
  | y :: ys => max (dep y) (depL ys)
end
mutual
def cnt : Nd → Nat
  | ⟨_, _, _, _, _, l, _⟩ => cntL l + 1
def cntL : List Nd → Nat
  | [] => 0
  | y :: ys => cnt y + cntL ys
end
theorem dep_eq (x : Nd) : dep x = depL x.f5 + 1 := by cases x; rfl
theorem cnt_eq (x : Nd) : cnt x = cntL x.f5 + 1 := by cases x; rfl
theorem tree_ind {P : Nd → Prop} (h : ∀ x : Nd, (∀ y ∈ x.f5, P y) → P x) (x : Nd) : P x := h x (fun y hy => tree_ind h y)
termination_by SizeOf.sizeOf x
decreasing_by
  have := List.sizeOf_lt_of_mem hy
  cases x
  simp only [S26.mk.sizeOf_spec] at *
  omega
theorem ok_inv {x : Nd} (h : ok26 x) : (Lit.int .i64 x.f0).wf = true ∧ x.f1.size ≤ 140737488351232 ∧ x.f4.size ≤ 140737488351232 ∧ x.f5.length ≤ 1599289640354 ∧ (∀ y ∈ x.f5, ok26 y) ∧ (Lit.int .i64 x.f6).wf = true := by
  cases h with
  | mk _ h0 h1 h2 h3 h4 h5 g5 h6 =>
    have hb : Try.prog.bytesOf 26 = 88 := by kernel_rfl
    rw [hb] at h5
    exact ⟨h0, h1, h4, by omega, g5, h6⟩
theorem dep_le_cnt : ∀ x : Nd, dep x ≤ cnt x := by
  have key : ∀ ys : List Nd, (∀ y ∈ ys, dep y ≤ cnt y) → depL ys ≤ cntL ys := by
    intro ys
    induction ys with
    | nil => intro _; exact Nat.le_refl _
    | cons y ys ih =>
      intro h
      have h1 := h y (List.mem_cons_self ..)
      have h2 := ih (fun z hz => h z (List.mem_cons_of_mem _ hz))
      simp only [depL, cntL]
      omega
  intro x
  induction x using tree_ind with
  | h x ih => rw [dep_eq, cnt_eq]; have := key x.f5 ih; omega
theorem dep_mem {y : Nd} : ∀ {ys : List Nd}, y ∈ ys → dep y ≤ depL ys
  | z :: zs, h => by
    simp only [depL]
    rcases List.mem_cons.1 h with rfl | h
    · omega
    · have := dep_mem h; omega
theorem drop_rd {l : List Nd} {i : Nat} {y : Nd} {ys : List Nd} (h : l.drop i = y :: ys) : i < l.length ∧ rd_T26 l (i : Int) = y ∧ l.drop (i + 1) = ys ∧ y ∈ l := by
  have hi : i < l.length := by
    rcases Nat.lt_or_ge i l.length with h1 | h1
    · exact h1
    · rw [List.drop_of_length_le h1] at h; cases h
  rw [List.drop_eq_getElem_cons hi] at h
  injection h with h1 h2
  refine ⟨hi, ?_, h2, h1 ▸ List.getElem_mem hi⟩
  unfold rd_T26
  rw [Int.toNat_natCast, List.getD_eq_getElem?_getD, List.getElem?_eq_getElem hi, h1]
  rfl
theorem drop_end {l : List Nd} {i : Nat} (hi : i ≤ l.length) (h : l.drop i = []) : i = l.length := by
  have := congrArg List.length h
  rw [List.length_drop] at this
  simp at this
  omega
theorem nx {i : Nat} (h : i ≤ 4000000000000) : wrap64 ((i : Int) + 1) = ((i + 1 : Nat) : Int) := by rw [wr64 _ (by omega) (by omega)]; omega
theorem walk_count : ∀ x : Nd, ∀ d s : Nat, s + cnt x ≤ 2000000 → d + dep x ≤ 2000000 → ∃ k, tree_walk.g tree_Count.step k x (d : Int) (s : Int) = some ((s + cnt x : Nat) : Int) := by
  intro x
  induction x using tree_ind with
  | h x ih =>
    intro d s hs hd
    have hcc := cnt_eq x
    have hdd := dep_eq x
    have key : ∀ (ys : List Nd) (s : Nat), (∀ y ∈ ys, y ∈ x.f5) → s + cntL ys ≤ 2000000 → ∃ k, tree_walk.gl tree_Count.step k ys (d : Int) (s : Int) = some ((s + cntL ys : Nat) : Int) := by
      intro ys
      induction ys with
      | nil => intro s _ hs; exact ⟨1, by rw [tree_walk.gl]; simp [cntL]⟩
      | cons y ys ih2 =>
        intro s hsub hs
        have hy := hsub y (List.mem_cons_self ..)
        have hdy := dep_mem hy
        simp only [cntL] at hs
        obtain ⟨k1, h1⟩ := ih y hy (d + 1) s (by omega) (by omega)
        obtain ⟨k2, h2⟩ := ih2 (s + cnt y) (fun z hz => hsub z (List.mem_cons_of_mem _ hz)) (by omega)
        refine ⟨max k1 k2 + 1, ?_⟩
        rw [tree_walk.gl, nx (by omega), more (fun k => (tree_walk.mono_l _ k).1 _ _ _) h1 (Nat.le_max_left k1 k2), Option.bind_some, more (fun k => (tree_walk.mono_l _ k).2 _ _ _) h2 (Nat.le_max_right k1 k2)]
        simp only [cntL, Nat.add_assoc]
    obtain ⟨k, hk⟩ := key x.f5 (s + 1) (fun _ h => h) (by omega)
    refine ⟨k + 1, ?_⟩
    rw [tree_walk.g, tree_Count.step, nx (by omega), Option.bind_some, hk]
    congr 2
    omega
theorem its_count (x : Nd) (hd : cnt x ≤ 1000000) : ∃ k, tree_Count.f k x.f0 x.f1 x.f2 x.f3 x.f4 x.f5 x.f6 = some (cnt x : Int) := by
  have h0 := dep_le_cnt x
  obtain ⟨k, hk⟩ := walk_count x 1 0 (by omega) (by omega)
  refine ⟨k, ?_⟩
  unfold tree_Count.f
  rw [Nat.zero_add] at hk
  cases x
  exact_mod_cast hk
/-- A node, as the functions hand it on. -/
def tup (x : Nd) : Int × ByteArray × Int × Int × ByteArray × List Nd × Int := (x.f0, x.f1, x.f2, x.f3, x.f4, x.f5, x.f6)
theorem its_twin : ∀ x : Nd, ok26 x → ∃ k, tree_twin.f k x.f0 x.f1 x.f2 x.f3 x.f4 x.f5 x.f6 = some (tup x) := by
  intro x
  induction x using tree_ind with
  | h x ih =>
    intro hx
    obtain ⟨_, _, _, hlen, hmem, _⟩ := ok_inv hx
    have key : ∀ (ys : List Nd) (i : Nat) (acc : List Nd), i ≤ x.f5.length → x.f5.drop i = ys → acc.length = i → ∃ k, tree_twin.l0 k acc x.f5 (x.f5.length : Int) (i : Int) x.f0 x.f1 x.f2 x.f3 x.f4 x.f5 x.f6 = some (x.f0, x.f1, x.f2, x.f3, x.f4, acc ++ ys, x.f6) := by
      intro ys
      induction ys with
      | nil =>
        intro i acc hi h ha
        have := drop_end hi h
        exact ⟨1, by rw [tree_twin.l0, if_neg (by omega), List.append_nil]⟩
      | cons y ys ih2 =>
        intro i acc hi h ha
        obtain ⟨hlt, hrd, hnext, hy⟩ := drop_rd h
        obtain ⟨k1, h1⟩ := ih y hy (hmem y hy)
        obtain ⟨k2, h2⟩ := ih2 (i + 1) (acc ++ [y]) (by omega) hnext (by simp; omega)
        refine ⟨max k1 k2 + 1, ?_⟩
        rw [tree_twin.l0, if_pos (by omega), if_pos (by omega), if_pos (by omega), hrd, more (fun k => tree_twin.mono _ _ _ _ _ _ _ k) h1 (Nat.le_max_left k1 k2), Option.bind_some, if_pos (by omega), nx (by omega)]
        have := more (fun k => (tree_twin.mono_l k).2 _ _ _ _ _ _ _ _ _ _ _) h2 (Nat.le_max_right k1 k2)
        cases y
        simpa [tup] using this
    obtain ⟨k, hk⟩ := key x.f5 0 [] (by omega) rfl rfl
    exact ⟨k + 1, by rw [tree_twin.f]; exact hk⟩
theorem walk_depth : ∀ x : Nd, ∀ d s : Nat, d + dep x ≤ 2000000 → ∃ k, tree_walk.g tree_Depth.step k x (d : Int) (s : Int) = some ((max s (d + dep x - 1) : Nat) : Int) := by
  intro x
  induction x using tree_ind with
  | h x ih =>
    intro d s hd
    have hdd := dep_eq x
    have key : ∀ (ys : List Nd) (s : Nat), (∀ y ∈ ys, y ∈ x.f5) → d ≤ s → ∃ k, tree_walk.gl tree_Depth.step k ys (d : Int) (s : Int) = some ((max s (d + depL ys) : Nat) : Int) := by
      intro ys
      induction ys with
      | nil => intro s _ hs; exact ⟨1, by rw [tree_walk.gl]; simp [depL]; omega⟩
      | cons y ys ih2 =>
        intro s hsub hs
        have hy := hsub y (List.mem_cons_self ..)
        have hdy := dep_mem hy
        obtain ⟨k1, h1⟩ := ih y hy (d + 1) s (by omega)
        obtain ⟨k2, h2⟩ := ih2 (max s (d + 1 + dep y - 1)) (fun z hz => hsub z (List.mem_cons_of_mem _ hz)) (by omega)
        refine ⟨max k1 k2 + 1, ?_⟩
        have e2 : wrap64 ((d : Int) + 1) = ((d + 1 : Nat) : Int) := by rw [wr64 _ (by omega) (by omega)]; omega
        rw [tree_walk.gl, e2, more (fun k => (tree_walk.mono_l _ k).1 _ _ _) h1 (Nat.le_max_left k1 k2), Option.bind_some, more (fun k => (tree_walk.mono_l _ k).2 _ _ _) h2 (Nat.le_max_right k1 k2)]
        simp only [depL]
        congr 2
        omega
    obtain ⟨k, hk⟩ := key x.f5 (max s d) (fun _ h => h) (by omega)
    refine ⟨k + 1, ?_⟩
    have e1 : mx (s : Int) (d : Int) = ((max s d : Nat) : Int) := by unfold mx; split <;> omega
    rw [tree_walk.g, tree_Depth.step, e1, Option.bind_some, hk]
    congr 2
    omega
theorem its_depth (x : Nd) (hd : dep x ≤ 1000000) : ∃ k, tree_Depth.f k x.f0 x.f1 x.f2 x.f3 x.f4 x.f5 x.f6 = some (dep x : Int) := by
  have h0 := dep_eq x
  obtain ⟨k, hk⟩ := walk_depth x 1 0 (by omega)
  refine ⟨k, ?_⟩
  unfold tree_Depth.f
  have : max 0 (1 + dep x - 1) = dep x := by omega
  rw [this] at hk
  cases x
  exact_mod_cast hk
theorem same_is : ∀ x : Nd, ok26 x → ∃ k, lathelaw07_same.f k x.f0 x.f1 x.f2 x.f3 x.f4 x.f5 x.f6 x.f0 x.f1 x.f2 x.f3 x.f4 x.f5 x.f6 = some true := by
  intro x
  induction x using tree_ind with
  | h x ih =>
    intro hx
    obtain ⟨_, _, _, hlen, hmem, _⟩ := ok_inv hx
    have hb : ((x.f5.length : Int) != (x.f5.length : Int)) = false := by simp
    have key : ∀ (ys : List Nd) (i : Nat), i ≤ x.f5.length → x.f5.drop i = ys → ∃ k, lathelaw07_same.l0 k (i : Int) x.f0 x.f1 x.f2 x.f3 x.f4 x.f5 x.f6 x.f0 x.f1 x.f2 x.f3 x.f4 x.f5 x.f6 = some true := by
      intro ys
      induction ys with
      | nil =>
        intro i hi h
        have := drop_end hi h
        exact ⟨1, by rw [lathelaw07_same.l0, if_neg (by omega)]⟩
      | cons a ys ih2 =>
        intro i hi h
        obtain ⟨hlt, hrd, hnext, ha⟩ := drop_rd h
        obtain ⟨k1, h1⟩ := ih a ha (hmem a ha)
        obtain ⟨k2, h2⟩ := ih2 (i + 1) (by omega) hnext
        refine ⟨max k1 k2 + 1, ?_⟩
        rw [lathelaw07_same.l0, if_pos (by omega), if_pos (by omega), if_pos (by omega), hrd, more (fun k => lathelaw07_same.mono _ _ _ _ _ _ _ _ _ _ _ _ _ _ k) h1 (Nat.le_max_left k1 k2), Option.bind_some, if_pos rfl, nx (by omega), more (fun k => (lathelaw07_same.mono_l k).2.2 _ _ _ _ _ _ _ _ _ _ _ _ _ _ _) h2 (Nat.le_max_right k1 k2)]
    obtain ⟨k, hk⟩ := key x.f5 0 (by omega) rfl
    exact ⟨k + 2, by rw [lathelaw07_same.f, if_pos rfl, if_pos rfl, if_pos rfl, if_pos rfl, if_pos rfl, if_pos rfl, hb, lathelaw07_same.j0, if_neg (by decide)]; exact hk⟩
mutual
def nms : Nd → List ByteArray
  | ⟨k, nm, _, _, _, l, _⟩ => (if k = 1 then [nm] else []) ++ nmsL l
def nmsL : List Nd → List ByteArray
  | [] => []
  | y :: ys => nms y ++ nmsL ys
end
theorem nms_eq (x : Nd) : nms x = (if x.f0 = 1 then [x.f1] else []) ++ nmsL x.f5 := by cases x; rw [nms]
theorem nms_len : ∀ x : Nd, (nms x).length ≤ cnt x := by
  intro x
  induction x using tree_ind with
  | h x ih =>
    have key : ∀ ys : List Nd, (∀ y ∈ ys, y ∈ x.f5) → (nmsL ys).length ≤ cntL ys := by
      intro ys
      induction ys with
      | nil => intro _; simp [nmsL]
      | cons y ys ih2 =>
        intro h
        have h1 := ih y (h y (List.mem_cons_self ..))
        have h2 := ih2 (fun z hz => h z (List.mem_cons_of_mem _ hz))
        simp only [nmsL, cntL, List.length_append]
        omega
    have := key x.f5 (fun _ h => h)
    rw [nms_eq, cnt_eq, List.length_append]
    split <;> simp <;> omega
theorem walk_names : ∀ x : Nd, ∀ (d : Nat) (s : List ByteArray), s.length + cnt x ≤ 2000000 → d + dep x ≤ 2000000 → ∃ k, tree_walk.g tree_Names.step k x (d : Int) s = some (s ++ nms x) := by
  intro x
  induction x using tree_ind with
  | h x ih =>
    intro d s hs hd
    have hcc := cnt_eq x
    have hdd := dep_eq x
    have key : ∀ (ys : List Nd) (s : List ByteArray), (∀ y ∈ ys, y ∈ x.f5) → s.length + cntL ys ≤ 2000000 → ∃ k, tree_walk.gl tree_Names.step k ys (d : Int) s = some (s ++ nmsL ys) := by
      intro ys
      induction ys with
      | nil => intro s _ hs; exact ⟨1, by rw [tree_walk.gl]; simp [nmsL]⟩
      | cons y ys ih2 =>
        intro s hsub hs
        have hy := hsub y (List.mem_cons_self ..)
        have hdy := dep_mem hy
        have hnl := nms_len y
        simp only [cntL] at hs
        obtain ⟨k1, h1⟩ := ih y hy (d + 1) s (by omega) (by omega)
        obtain ⟨k2, h2⟩ := ih2 (s ++ nms y) (fun z hz => hsub z (List.mem_cons_of_mem _ hz)) (by rw [List.length_append]; omega)
        refine ⟨max k1 k2 + 1, ?_⟩
        rw [tree_walk.gl, nx (by omega), more (fun k => (tree_walk.mono_l _ k).1 _ _ _) h1 (Nat.le_max_left k1 k2), Option.bind_some, more (fun k => (tree_walk.mono_l _ k).2 _ _ _) h2 (Nat.le_max_right k1 k2)]
        simp only [nmsL, List.append_assoc]
    rw [nms_eq]
    by_cases h1 : x.f0 = 1
    · obtain ⟨k, hk⟩ := key x.f5 (s ++ [x.f1]) (fun _ h => h) (by simp; omega)
      refine ⟨k + 1, ?_⟩
      rw [tree_walk.g, tree_Names.step, if_pos h1, if_pos (by omega), Option.bind_some, hk, if_pos h1, List.append_assoc]
    · obtain ⟨k, hk⟩ := key x.f5 s (fun _ h => h) (by omega)
      refine ⟨k + 1, ?_⟩
      rw [tree_walk.g, tree_Names.step, if_neg h1, Option.bind_some, hk, if_neg h1, List.nil_append]
theorem its_names (x : Nd) (hd : cnt x ≤ 1000000) : ∃ k, tree_Names.f k x.f0 x.f1 x.f2 x.f3 x.f4 x.f5 x.f6 = some (nms x) := by
  have h0 := dep_le_cnt x
  obtain ⟨k, hk⟩ := walk_names x 1 [] (by simp; omega) (by omega)
  refine ⟨k, ?_⟩
  unfold tree_Names.f
  rw [List.nil_append] at hk
  cases x
  exact_mod_cast hk
theorem texts_from (a : List ByteArray) : ∀ (d i : Nat), a.length - i = d → i ≤ a.length → a.length ≤ 1000000000000 → ∃ k, lathelaw07_sameTexts.l0 k a a (i : Int) = some true := by
  intro d
  induction d with
  | zero =>
    intro i hd hi _
    exact ⟨1, by rw [lathelaw07_sameTexts.l0, if_neg (by omega)]⟩
  | succ d ih =>
    intro i hd hi hl
    obtain ⟨k, hk⟩ := ih (i + 1) (by omega) (by omega) hl
    exact ⟨k + 1, by rw [lathelaw07_sameTexts.l0, if_pos (by omega), if_pos (by omega), if_pos (by omega), if_pos rfl, nx (by omega), hk]⟩
theorem texts_is (a : List ByteArray) (hl : a.length ≤ 1000000000000) : ∃ k, lathelaw07_sameTexts.f k a a = some true := by
  obtain ⟨k, hk⟩ := texts_from a _ 0 rfl (by omega) hl
  refine ⟨k, ?_⟩
  unfold lathelaw07_sameTexts.f
  rw [if_pos rfl]
  exact hk
/-- The node at a path. -/
def fnd : List Int → Nd → Option Nd
  | [], x => some x
  | p :: ps, x => if p < 0 then none else if p ≥ (x.f5.length : Int) then none else fnd ps (rd_T26 x.f5 p)
def fndT (o : Option Nd) : Int × ByteArray × Int × Int × ByteArray × List Nd × Int × Bool := match o with
  | none => (0, (⟨#[]⟩ : ByteArray), 0, 0, (⟨#[]⟩ : ByteArray), [], 0, false)
  | some y => (y.f0, y.f1, y.f2, y.f3, y.f4, y.f5, y.f6, true)
theorem rd_mem {l : List Nd} {p : Int} (h0 : 0 ≤ p) (h1 : p < l.length) : rd_T26 l p ∈ l := by
  have hi : p.toNat < l.length := by omega
  unfold rd_T26
  rw [List.getD_eq_getElem?_getD, List.getElem?_eq_getElem hi]
  exact List.getElem_mem hi
theorem rd_drop {l : List Int} {i : Nat} {p : Int} {ps : List Int} (h : l.drop i = p :: ps) : i < l.length ∧ rd l (i : Int) = p ∧ l.drop (i + 1) = ps := by
  have hi : i < l.length := by
    rcases Nat.lt_or_ge i l.length with h1 | h1
    · exact h1
    · rw [List.drop_of_length_le h1] at h; cases h
  rw [List.drop_eq_getElem_cons hi] at h
  injection h with h1 h2
  refine ⟨hi, ?_, h2⟩
  unfold rd
  rw [Int.toNat_natCast, List.getD_eq_getElem?_getD, List.getElem?_eq_getElem hi, h1]
  rfl
theorem its_find (l : List Int) (hl : l.length ≤ 1000000000000000) : ∀ (ps : List Int) (i : Nat) (x : Nd), ok26 x → i ≤ l.length → l.drop i = ps → ∃ k, tree_Find.l0 k l (l.length : Int) (i : Int) x.f0 x.f1 x.f2 x.f3 x.f4 x.f5 x.f6 = some (fndT (fnd ps x))
  | [], i, x, hx, hi, h => by
    have he : i = l.length := by
      have := congrArg List.length h
      rw [List.length_drop] at this
      simp at this; omega
    obtain ⟨k, hk⟩ := its_twin x hx
    exact ⟨k + 1, by rw [tree_Find.l0, if_neg (by omega), hk]; rfl⟩
  | p :: ps, i, x, hx, hi, h => by
    obtain ⟨hlt, hrd, hnext⟩ := rd_drop h
    rw [fnd]
    by_cases c1 : p < 0
    · exact ⟨1, by rw [tree_Find.l0, if_pos (by omega), if_pos (by omega), if_pos (by omega), hrd, if_pos c1, if_pos c1]; rfl⟩
    · by_cases c2 : p ≥ (x.f5.length : Int)
      · exact ⟨1, by rw [tree_Find.l0, if_pos (by omega), if_pos (by omega), if_pos (by omega), hrd, if_neg c1, if_pos c2, if_neg c1, if_pos c2]; rfl⟩
      · obtain ⟨k, hk⟩ := its_find l hl ps (i + 1) (rd_T26 x.f5 p) ((ok_inv hx).2.2.2.2.1 _ (rd_mem (by omega) (by omega))) (by omega) hnext
        have e2 : wrap64 ((i : Int) + 1) = ((i + 1 : Nat) : Int) := by rw [wr64 _ (by omega) (by omega)]; omega
        exact ⟨k + 1, by rw [tree_Find.l0, if_pos (by omega), if_pos (by omega), if_pos (by omega), hrd, if_neg c1, if_neg c2, if_pos (by omega), if_pos (by omega), e2, if_neg c1, if_neg c2, hk]⟩
theorem room_is : ∀ x : Nd, ok26 x → ∀ left : Int, 0 ≤ left → left ≤ 1000000 → ∃ k, lathelaw07_room.f k x.f0 x.f1 x.f2 x.f3 x.f4 x.f5 x.f6 left = some (max (left - (cnt x : Int)) (-1)) := by
  intro x
  induction x using tree_ind with
  | h x ih =>
    intro hx left h0 hl
    obtain ⟨_, _, _, hlen, hmem, _⟩ := ok_inv hx
    have hcc := cnt_eq x
    have key : ∀ (ys : List Nd) (i : Nat) (left : Int), i ≤ x.f5.length → x.f5.drop i = ys → -1 ≤ left → left ≤ 1000000 → ∃ k, lathelaw07_room.l0 k left (i : Int) x.f0 x.f1 x.f2 x.f3 x.f4 x.f5 x.f6 = some (max (left - (cntL ys : Int)) (-1)) := by
      intro ys
      induction ys with
      | nil =>
        intro i left hi h hm _
        have := drop_end hi h
        refine ⟨1, ?_⟩
        rw [lathelaw07_room.l0, if_neg (by omega)]
        simp [cntL]; omega
      | cons y ys ih2 =>
        intro i left hi h hm hl
        obtain ⟨hlt, hrd, hnext, hy⟩ := drop_rd h
        by_cases h0 : 0 ≤ left
        · obtain ⟨k1, h1⟩ := ih y hy (hmem y hy) left h0 hl
          obtain ⟨k2, h2⟩ := ih2 (i + 1) (max (left - (cnt y : Int)) (-1)) (by omega) hnext (by omega) (by omega)
          refine ⟨max k1 k2 + 1, ?_⟩
          have e2 : wrap64 ((i : Int) + 1) = ((i + 1 : Nat) : Int) := by rw [wr64 _ (by omega) (by omega)]; omega
          rw [lathelaw07_room.l0, if_pos (by omega), if_pos h0, if_pos (by omega), hrd, more (fun k => lathelaw07_room.mono _ _ _ _ _ _ _ _ k) h1 (Nat.le_max_left k1 k2), Option.bind_some, e2, more (fun k => (lathelaw07_room.mono_l k).2 _ _ _ _ _ _ _ _ _) h2 (Nat.le_max_right k1 k2)]
          simp only [cntL]
          congr 1
          omega
        · refine ⟨1, ?_⟩
          rw [lathelaw07_room.l0, if_pos (by omega), if_neg (by omega)]
          congr 1
          omega
    obtain ⟨k, hk⟩ := key x.f5 0 (left - 1) (by omega) rfl (by omega) (by omega)
    refine ⟨k + 1, ?_⟩
    rw [lathelaw07_room.f, wr64 _ (by omega) (by omega), hcc]
    refine Eq.trans hk ?_
    congr 1
    omega
theorem big_is (x : Nd) (hx : ok26 x) : ∃ k, lathelaw07_big.f k x.f0 x.f1 x.f2 x.f3 x.f4 x.f5 x.f6 = some (decide (9000 < cnt x)) := by
  obtain ⟨k, hk⟩ := room_is x hx 9000 (by omega) (by omega)
  refine ⟨k, ?_⟩
  unfold lathelaw07_big.f
  rw [hk, Option.bind_some]
  congr 1
  simp only [decide_eq_decide]
  omega
theorem surely : lathelaw07_sure.f 40 = some true := by decide +kernel
theorem surely_k {k : Nat} (h : 40 ≤ k) : lathelaw07_sure.f k = some true := more lathelaw07_sure.mono surely h
theorem six_le (a b c d e f : Nat) : a ≤ a + b + c + d + e + f ∧ b ≤ a + b + c + d + e + f ∧ c ≤ a + b + c + d + e + f ∧ d ≤ a + b + c + d + e + f ∧ e ≤ a + b + c + d + e + f ∧ f ≤ a + b + c + d + e + f := by omega
theorem wr_add {c d : Nat} (hc : c ≤ 1000000) (hd : d ≤ 1000000) : wrap64 ((c : Int) + (d : Int)) = ((c + d : Nat) : Int) := by rw [wr64 _ (by omega) (by omega)]; omega
theorem mx_nat (a b : Nat) : mx (a : Int) (b : Int) = ((max a b : Nat) : Int) := by unfold mx; split <;> omega
theorem parts_from (x : Nd) (hx : ok26 x) (hc : cnt x ≤ 1000000) : ∀ (ys : List Nd) (i c d : Nat) (l : List ByteArray), i ≤ x.f5.length → x.f5.drop i = ys → c + cntL ys = cnt x → max d (depL ys) + 1 = dep x → l ++ nmsL ys = nms x → l.length ≤ c →
    ∃ k, lathelaw07_TreeParts.l0 k (c : Int) (d : Int) l (i : Int) x.f0 x.f1 x.f2 x.f3 x.f4 x.f5 x.f6 = some true := by
  have hdc := dep_le_cnt x
  obtain ⟨_, _, _, hlen, hmem, _⟩ := ok_inv hx
  intro ys
  induction ys with
  | nil =>
    intro i c d l hi h e1 e2 e3 e4
    have hi2 := drop_end hi h
    simp only [cntL, depL, nmsL, List.append_nil] at e1 e2 e3
    obtain ⟨k1, h1⟩ := its_count x (by omega)
    obtain ⟨k2, h2⟩ := its_depth x (by omega)
    obtain ⟨k3, h3⟩ := its_names x (by omega)
    obtain ⟨k4, h4⟩ := texts_is (nms x) (by have := nms_len x; omega)
    refine ⟨40 + k1 + k2 + k3 + k4 + 1, ?_⟩
    have w1 : wrap64 ((d : Int) + 1) = ((dep x : Nat) : Int) := by rw [wr64 _ (by omega) (by omega)]; omega
    rw [lathelaw07_TreeParts.l0, if_neg (by omega), more (fun k => tree_Count.mono _ _ _ _ _ _ _ k) h1 (by omega), Option.bind_some, if_pos (by omega), more (fun k => tree_Depth.mono _ _ _ _ _ _ _ k) h2 (by omega), Option.bind_some, if_pos w1.symm,
      more (fun k => tree_Names.mono _ _ _ _ _ _ _ k) h3 (by omega), Option.bind_some, e3, more (fun k => lathelaw07_sameTexts.mono _ _ k) h4 (by omega), Option.bind_some, if_pos rfl, if_pos (by rw [← e3]; omega), surely_k (by omega)]
    rfl
  | cons y ys ih =>
    intro i c d l hi h e1 e2 e3 e4
    obtain ⟨hlt, hrd, hnext, hy⟩ := drop_rd h
    have hyo := hmem y hy
    have hyd := dep_le_cnt y
    simp only [cntL, depL, nmsL] at e1 e2 e3
    have hn := nms_len y
    obtain ⟨k6, h6⟩ := ih (i + 1) (c + cnt y) (max d (dep y)) (l ++ nms y) hlt hnext (by rw [Nat.add_assoc]; exact e1) (by rw [Nat.max_assoc]; exact e2) (by rw [List.append_assoc]; exact e3) (by rw [List.length_append]; exact Nat.add_le_add e4 hn)
    have hd0 : d ≤ 1000000 := Nat.le_trans (Nat.le_max_left d (max (dep y) (depL ys))) (by clear e1 e3 e4 hyd hn; omega)
    clear e2 ih e3
    have hcy : cnt y ≤ 1000000 := by omega
    have hdy : dep y ≤ 1000000 := Nat.le_trans hyd hcy
    have hc0 : c ≤ 1000000 := by omega
    have hln : l.length + (nms y).length < 8796093022208 := by omega
    clear e1 e4 hdc hn hyd
    obtain ⟨k1, h1⟩ := its_count y hcy
    obtain ⟨k2, h2⟩ := its_depth y hdy
    obtain ⟨k3, h3⟩ := its_names y hcy
    obtain ⟨k4, h4⟩ := same_is y hyo
    obtain ⟨k5, h5⟩ := its_find [(i : Int)] (by simp) [(i : Int)] 0 x hx (Nat.zero_le _) rfl
    have e5 : fnd [(i : Int)] x = some y := by
      rw [fnd, if_neg (by omega), if_neg (by omega), hrd]
      rfl
    rw [e5] at h5
    obtain ⟨f1, f2, f3, f4, f5, f6⟩ := six_le k1 k2 k3 k4 k5 k6
    have g5 := more (fun k => tree_Find.mono x.f0 x.f1 x.f2 x.f3 x.f4 x.f5 x.f6 [(i : Int)] k) h5 f5
    have g1 := more (fun k => tree_Count.mono y.f0 y.f1 y.f2 y.f3 y.f4 y.f5 y.f6 k) h1 f1
    have g2 := more (fun k => tree_Depth.mono y.f0 y.f1 y.f2 y.f3 y.f4 y.f5 y.f6 k) h2 f2
    have g3 := more (fun k => tree_Names.mono y.f0 y.f1 y.f2 y.f3 y.f4 y.f5 y.f6 k) h3 f3
    have g4 := more (fun k => lathelaw07_same.mono y.f0 y.f1 y.f2 y.f3 y.f4 y.f5 y.f6 y.f0 y.f1 y.f2 y.f3 y.f4 y.f5 y.f6 k) h4 f4
    have g6 := more (fun k => (lathelaw07_TreeParts.mono_l k).2 _ _ _ _ _ _ _ _ _ _ _) h6 f6
    have c1 : (i : Int) < (x.f5.length : Int) := Int.ofNat_lt.mpr hlt
    have c2 : (0 : Int) ≤ (i : Int) := Int.natCast_nonneg i
    have w1 := wr_add hc0 hcy
    have w2 := mx_nat d (dep y)
    have w3 : wrap64 ((i : Int) + 1) = ((i + 1 : Nat) : Int) := nx (Nat.le_trans hi (Nat.le_trans hlen (by decide)))
    generalize k1 + k2 + k3 + k4 + k5 + k6 = K at *
    refine ⟨K + 1, ?_⟩
    rw [lathelaw07_TreeParts.l0, if_pos c1, if_pos c2, hrd, g1, Option.bind_some, g2, Option.bind_some, g3, Option.bind_some, if_pos hln, g5, Option.bind_some]
    dsimp only [fndT]
    refine Eq.trans (if_pos rfl) ?_
    rw [g4, Option.bind_some, if_pos rfl, w1, w2, w3]
    exact g6
theorem TreeParts (x0 : S26) (b0 : ok26 x0) : ∃ k, lathelaw07_TreeParts.f k (x0.f0) (x0.f1) (x0.f2) (x0.f3) (x0.f4) (x0.f5) (x0.f6) = some true := by
  obtain ⟨kb, hb⟩ := big_is x0 b0
  by_cases hbig : 9000 < cnt x0
  · refine ⟨max kb 40, ?_⟩
    unfold lathelaw07_TreeParts.f
    rw [more (fun k => lathelaw07_big.mono _ _ _ _ _ _ _ k) hb (Nat.le_max_left kb 40), Option.bind_some, if_pos (by simpa using hbig), surely_k (Nat.le_max_right kb 40)]
    rfl
  · have hcc := cnt_eq x0
    have hdd := dep_eq x0
    have hnn := nms_eq x0
    by_cases hk : x0.f0 = 1
    · rw [if_pos hk] at hnn
      obtain ⟨k1, h1⟩ := parts_from x0 b0 (by omega) x0.f5 0 1 0 [x0.f1] (Nat.zero_le _) rfl (by omega) (by omega) hnn.symm (by simp)
      refine ⟨max kb (k1 + 1), ?_⟩
      unfold lathelaw07_TreeParts.f
      rw [more (fun k => lathelaw07_big.mono _ _ _ _ _ _ _ k) hb (by omega), Option.bind_some, if_neg (by simpa using hbig), if_pos hk, if_pos (by decide)]
      exact more (fun k => (lathelaw07_TreeParts.mono_l k).1 _ _ _ _ _ _ _ _ _ _) (k := k1 + 1) (by rw [lathelaw07_TreeParts.j0]; exact h1) (by omega)
    · rw [if_neg hk] at hnn
      obtain ⟨k1, h1⟩ := parts_from x0 b0 (by omega) x0.f5 0 1 0 [] (Nat.zero_le _) rfl (by omega) (by omega) hnn.symm (by simp)
      refine ⟨max kb (k1 + 1), ?_⟩
      unfold lathelaw07_TreeParts.f
      rw [more (fun k => lathelaw07_big.mono _ _ _ _ _ _ _ k) hb (by omega), Option.bind_some, if_neg (by simpa using hbig), if_neg hk]
      exact more (fun k => (lathelaw07_TreeParts.mono_l k).1 _ _ _ _ _ _ _ _ _ _) (k := k1 + 1) (by rw [lathelaw07_TreeParts.j0]; exact h1) (by omega)
end Go.Proofs.Ytbfomjbencbmlaa.Pure
