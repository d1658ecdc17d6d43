/- The statement TreeOwn over the Lean functions: it answers true for every tree. Conditions: the tree reads within the reading's bounds. -/
import Derived.Test.YtbfomjbencbmlaaOpenT
import Derived.Test.YtbfomjbencbmlaaQx0TreeOwn
import Derived.Test.YtbfomjbencbmlaaQx1
import Derived.Test.YtbfomjbencbmlaaQx14
import Derived.Test.YtbfomjbencbmlaaQx19
import Derived.Test.YtbfomjbencbmlaaQx7
import Derived.Test.YtbfomjbencbmlaaQx8
import Derived.Test.YtbfomjbencbmlaaQx9
import Derived.Test.YtbfomjbencbmlaaWLast
import Derived.Test.YtbfomjbencbmlaaWWords
namespace Go.Proofs.Ytbfomjbencbmlaa.Pure
set_option linter.unusedVariables false
set_option linter.unusedSimpArgs false
open Go.RowKit Go.Proofs.Ytbfomjbencbmlaa.Q Go.Proofs.YtbfomjbencbmlaaW.PrintWords
open Go.RowKit Go.Proofs.Ytbfomjbencbmlaa.Q Go.Proofs.YtbfomjbencbmlaaW.PrintWords Go.Proofs.YtbfomjbencbmlaaW.PrintLast
open Go.RowKit Go.Proofs.Ytbfomjbencbmlaa.Q Go.Proofs.YtbfomjbencbmlaaW.PrintWords Go.Proofs.YtbfomjbencbmlaaW.PrintMore
open Go.RowKit Go.Proofs.Ytbfomjbencbmlaa.Q Go.Proofs.YtbfomjbencbmlaaW.PrintWords Go.Proofs.YtbfomjbencbmlaaW.PrintMore Go.Proofs.YtbfomjbencbmlaaW.PrintLast
open Go.RowKit Go.Proofs.YtbfomjbencbmlaaW.PrintWords Go.Proofs.YtbfomjbencbmlaaW.PrintLast

theorem more {α : Type} {f : Nat → Option α} (h : ∀ k, LeO (f k) (f (k + 1))) {k : Nat} {r : α} (hk : f k = some r) : ∀ {j : Nat}, k ≤ j → f j = some r := by
  intro j hj
  obtain ⟨d, rfl⟩ := Nat.le.dest hj
  clear hj
  induction d with
  | zero => exact hk
  | succ d ih => exact h _ _ ih
theorem wr64 (x : Int) (h0 : -9223372036854775808 ≤ x) (h1 : x ≤ 9223372036854775807) : wrap64 x = x := by unfold wrap64; omega
abbrev Nd := S26
mutual
def dep : Nd → Nat
  | ⟨_, _, _, _, _, l, _⟩ => depL l + 1
def depL : List Nd → Nat
  | [] => 0
  | y :: ys => max (dep y) (depL ys)
end
mutual
def cnt : Nd → Nat
  | ⟨_, _, _, _, _, l, _⟩ => cntL l + 1
def cntL : List Nd → Nat
  | [] => 0
  | y :: ys => cnt y + cntL ys
end
theorem dep_eq (x : Nd) : dep x = depL x.f5 + 1 := by cases x; rfl
theorem cnt_eq (x : Nd) : cnt x = cntL x.f5 + 1 := by cases x; rfl
theorem tree_ind {P : Nd → Prop} (h : ∀ x : Nd, (∀ y ∈ x.f5, P y) → P x) (x : Nd) : P x := h x (fun y hy => tree_ind h y)
termination_by SizeOf.sizeOf x
decreasing_by
  have := List.sizeOf_lt_of_mem hy
  cases x
  simp only [S26.mk.sizeOf_spec] at *
  omega
theorem ok_inv {x : Nd} (h : ok26 x) : (Lit.int .i64 x.f0).wf = true ∧ x.f1.size ≤ 140737488351232 ∧ x.f4.size ≤ 140737488351232 ∧ x.f5.length ≤ 1599289640354 ∧ (∀ y ∈ x.f5, ok26 y) ∧ (Lit.int .i64 x.f6).wf = true := by
  cases h with
  | mk _ h0 h1 h2 h3 h4 h5 g5 h6 =>
    have hb : Try.prog.bytesOf 26 = 88 := by kernel_rfl
    rw [hb] at h5
    exact ⟨h0, h1, h4, by omega, g5, h6⟩
theorem dep_le_cnt : ∀ x : Nd, dep x ≤ cnt x := by
  have key : ∀ ys : List Nd, (∀ y ∈ ys, dep y ≤ cnt y) → depL ys ≤ cntL ys := by
    intro ys
    induction ys with
    | nil => intro _; exact Nat.le_refl _
    | cons y ys ih =>
      intro h
      have h1 := h y (List.mem_cons_self ..)
      have h2 := ih (fun z hz => h z (List.mem_cons_of_mem _ hz))
      simp only [depL, cntL]
      omega
  intro x
  induction x using tree_ind with
  | h x ih => rw [dep_eq, cnt_eq]; have := key x.f5 ih; omega
theorem dep_mem {y : Nd} : ∀ {ys : List Nd}, y ∈ ys → dep y ≤ depL ys
  | z :: zs, h => by
    simp only [depL]
    rcases List.mem_cons.1 h with rfl | h
    · omega
    · have := dep_mem h; omega
theorem cnt_mem {y : Nd} : ∀ {ys : List Nd}, y ∈ ys → cnt y ≤ cntL ys
  | z :: zs, h => by
    simp only [cntL]
    rcases List.mem_cons.1 h with rfl | h
    · omega
    · have := cnt_mem h; omega
theorem drop_rd {l : List Nd} {i : Nat} {y : Nd} {ys : List Nd} (h : l.drop i = y :: ys) : i < l.length ∧ rd_T26 l (i : Int) = y ∧ l.drop (i + 1) = ys ∧ y ∈ l := by
  have hi : i < l.length := by
    rcases Nat.lt_or_ge i l.length with h1 | h1
    · exact h1
    · rw [List.drop_of_length_le h1] at h; cases h
  rw [List.drop_eq_getElem_cons hi] at h
  injection h with h1 h2
  refine ⟨hi, ?_, h2, h1 ▸ List.getElem_mem hi⟩
  unfold rd_T26
  rw [Int.toNat_natCast, List.getD_eq_getElem?_getD, List.getElem?_eq_getElem hi, h1]
  rfl
theorem drop_end {l : List Nd} {i : Nat} (hi : i ≤ l.length) (h : l.drop i = []) : i = l.length := by
  have := congrArg List.length h
  rw [List.length_drop] at this
  simp at this
  omega
theorem nx {i : Nat} (h : i ≤ 4000000000000) : wrap64 ((i : Int) + 1) = ((i + 1 : Nat) : Int) := by rw [wr64 _ (by omega) (by omega)]; omega
/-- A node, as the functions hand it on. -/
def tup (x : Nd) : Int × ByteArray × Int × Int × ByteArray × List Nd × Int := (x.f0, x.f1, x.f2, x.f3, x.f4, x.f5, x.f6)
theorem law_twin : ∀ x : Nd, ok26 x → ∃ k, lathelaw07_Twin.f k x.f0 x.f1 x.f2 x.f3 x.f4 x.f5 x.f6 = some (tup x) := by
  intro x
  induction x using tree_ind with
  | h x ih =>
    intro hx
    obtain ⟨_, _, _, hlen, hmem, _⟩ := ok_inv hx
    have key : ∀ (ys : List Nd) (i : Nat) (acc : List Nd), i ≤ x.f5.length → x.f5.drop i = ys → acc.length = i → ∃ k, lathelaw07_Twin.l0 k acc (i : Int) x.f0 x.f1 x.f2 x.f3 x.f4 x.f5 x.f6 = some (x.f0, x.f1, x.f2, x.f3, x.f4, acc ++ ys, x.f6) := by
      intro ys
      induction ys with
      | nil =>
        intro i acc hi h ha
        have := drop_end hi h
        exact ⟨1, by rw [lathelaw07_Twin.l0, if_neg (by omega), List.append_nil]⟩
      | cons y ys ih2 =>
        intro i acc hi h ha
        obtain ⟨hlt, hrd, hnext, hy⟩ := drop_rd h
        obtain ⟨k1, h1⟩ := ih y hy (hmem y hy)
        obtain ⟨k2, h2⟩ := ih2 (i + 1) (acc ++ [y]) (by omega) hnext (by simp; omega)
        refine ⟨max k1 k2 + 1, ?_⟩
        rw [lathelaw07_Twin.l0, if_pos (by omega), if_pos (by omega), hrd, more (fun k => lathelaw07_Twin.mono _ _ _ _ _ _ _ k) h1 (Nat.le_max_left k1 k2), Option.bind_some, if_pos (by omega), nx (by omega)]
        have := more (fun k => (lathelaw07_Twin.mono_l k).2 _ _ _ _ _ _ _ _ _) h2 (Nat.le_max_right k1 k2)
        cases y
        simpa [tup] using this
    obtain ⟨k, hk⟩ := key x.f5 0 [] (by omega) rfl rfl
    exact ⟨k + 1, by rw [lathelaw07_Twin.f]; exact hk⟩
mutual
def strip : Nd → Nd
  | ⟨a, b, c, d, e, l, _⟩ => ⟨a, b, c, d, e, stripL l, 0⟩
def stripL : List Nd → List Nd
  | [] => []
  | y :: ys => strip y :: stripL ys
end
theorem strip_eq (x : Nd) : strip x = ⟨x.f0, x.f1, x.f2, x.f3, x.f4, stripL x.f5, 0⟩ := by cases x; rw [strip]
theorem its_strip : ∀ x : Nd, ok26 x → ∃ k, tree_Strip.f k x.f0 x.f1 x.f2 x.f3 x.f4 x.f5 x.f6 = some (tup (strip x)) := by
  intro x
  induction x using tree_ind with
  | h x ih =>
    intro hx
    obtain ⟨_, _, _, hlen, hmem, _⟩ := ok_inv hx
    have key : ∀ (ys : List Nd) (i : Nat) (acc : List Nd), i ≤ x.f5.length → x.f5.drop i = ys → acc.length = i → ∃ k, tree_Strip.l0 k acc x.f5 (x.f5.length : Int) (i : Int) x.f0 x.f1 x.f2 x.f3 x.f4 x.f5 0 = some (x.f0, x.f1, x.f2, x.f3, x.f4, acc ++ stripL ys, 0) := by
      intro ys
      induction ys with
      | nil =>
        intro i acc hi h ha
        have := drop_end hi h
        exact ⟨1, by rw [tree_Strip.l0, if_neg (by omega), stripL, List.append_nil]⟩
      | cons y ys ih2 =>
        intro i acc hi h ha
        obtain ⟨hlt, hrd, hnext, hy⟩ := drop_rd h
        obtain ⟨k1, h1⟩ := ih y hy (hmem y hy)
        obtain ⟨k2, h2⟩ := ih2 (i + 1) (acc ++ [strip y]) (by omega) hnext (by simp; omega)
        refine ⟨max k1 k2 + 1, ?_⟩
        rw [tree_Strip.l0, if_pos (by omega), if_pos (by omega), if_pos (by omega), hrd, more (fun k => tree_Strip.mono _ _ _ _ _ _ _ k) h1 (Nat.le_max_left k1 k2), Option.bind_some, if_pos (by omega), nx (by omega), stripL]
        have := more (fun k => (tree_Strip.mono_l k).2 _ _ _ _ _ _ _ _ _ _ _) h2 (Nat.le_max_right k1 k2)
        generalize strip y = z at this
        cases z
        simpa [tup] using this
    obtain ⟨k, hk⟩ := key x.f5 0 [] (by omega) rfl rfl
    exact ⟨k + 1, by rw [tree_Strip.f, strip_eq]; exact hk⟩
theorem ref_strip : ∀ x : Nd, ok26 x → ∃ k, latheref07_Strip.f k x.f0 x.f1 x.f2 x.f3 x.f4 x.f5 x.f6 = some (tup (strip x)) := by
  intro x
  induction x using tree_ind with
  | h x ih =>
    intro hx
    obtain ⟨_, _, _, hlen, hmem, _⟩ := ok_inv hx
    have key : ∀ (ys : List Nd) (i : Nat) (acc : List Nd), i ≤ x.f5.length → x.f5.drop i = ys → acc.length = i → ∃ k, latheref07_Strip.l0 k acc (i : Int) x.f0 x.f1 x.f2 x.f3 x.f4 x.f5 x.f6 = some (x.f0, x.f1, x.f2, x.f3, x.f4, acc ++ stripL ys, 0) := by
      intro ys
      induction ys with
      | nil =>
        intro i acc hi h ha
        have := drop_end hi h
        exact ⟨1, by rw [latheref07_Strip.l0, if_neg (by omega), stripL, List.append_nil]⟩
      | cons y ys ih2 =>
        intro i acc hi h ha
        obtain ⟨hlt, hrd, hnext, hy⟩ := drop_rd h
        obtain ⟨k1, h1⟩ := ih y hy (hmem y hy)
        obtain ⟨k2, h2⟩ := ih2 (i + 1) (acc ++ [strip y]) (by omega) hnext (by simp; omega)
        refine ⟨max k1 k2 + 1, ?_⟩
        rw [latheref07_Strip.l0, if_pos (by omega), if_pos (by omega), hrd, more (fun k => latheref07_Strip.mono _ _ _ _ _ _ _ k) h1 (Nat.le_max_left k1 k2), Option.bind_some, if_pos (by omega), nx (by omega), stripL]
        have := more (fun k => (latheref07_Strip.mono_l k).2 _ _ _ _ _ _ _ _ _) h2 (Nat.le_max_right k1 k2)
        generalize strip y = z at this
        cases z
        simpa [tup] using this
    obtain ⟨k, hk⟩ := key x.f5 0 [] (by omega) rfl rfl
    exact ⟨k + 1, by rw [latheref07_Strip.f, strip_eq]; exact hk⟩
theorem stripL_len : ∀ ys : List Nd, (stripL ys).length = ys.length
  | [] => by rw [stripL]
  | y :: ys => by rw [stripL, List.length_cons, List.length_cons, stripL_len ys]
theorem same_is : ∀ x : Nd, ok26 x → ∃ k, lathelaw07_same.f k x.f0 x.f1 x.f2 x.f3 x.f4 x.f5 x.f6 x.f0 x.f1 x.f2 x.f3 x.f4 x.f5 x.f6 = some true := by
  intro x
  induction x using tree_ind with
  | h x ih =>
    intro hx
    obtain ⟨_, _, _, hlen, hmem, _⟩ := ok_inv hx
    have hb : ((x.f5.length : Int) != (x.f5.length : Int)) = false := by simp
    have key : ∀ (ys : List Nd) (i : Nat), i ≤ x.f5.length → x.f5.drop i = ys → ∃ k, lathelaw07_same.l0 k (i : Int) x.f0 x.f1 x.f2 x.f3 x.f4 x.f5 x.f6 x.f0 x.f1 x.f2 x.f3 x.f4 x.f5 x.f6 = some true := by
      intro ys
      induction ys with
      | nil =>
        intro i hi h
        have := drop_end hi h
        exact ⟨1, by rw [lathelaw07_same.l0, if_neg (by omega)]⟩
      | cons a ys ih2 =>
        intro i hi h
        obtain ⟨hlt, hrd, hnext, ha⟩ := drop_rd h
        obtain ⟨k1, h1⟩ := ih a ha (hmem a ha)
        obtain ⟨k2, h2⟩ := ih2 (i + 1) (by omega) hnext
        refine ⟨max k1 k2 + 1, ?_⟩
        rw [lathelaw07_same.l0, if_pos (by omega), if_pos (by omega), if_pos (by omega), hrd, more (fun k => lathelaw07_same.mono _ _ _ _ _ _ _ _ _ _ _ _ _ _ k) h1 (Nat.le_max_left k1 k2), Option.bind_some, if_pos rfl, nx (by omega), more (fun k => (lathelaw07_same.mono_l k).2.2 _ _ _ _ _ _ _ _ _ _ _ _ _ _ _) h2 (Nat.le_max_right k1 k2)]
    obtain ⟨k, hk⟩ := key x.f5 0 (by omega) rfl
    exact ⟨k + 2, by rw [lathelaw07_same.f, if_pos rfl, if_pos rfl, if_pos rfl, if_pos rfl, if_pos rfl, if_pos rfl, hb, lathelaw07_same.j0, if_neg (by decide)]; exact hk⟩
mutual
def nms : Nd → List ByteArray
  | ⟨k, nm, _, _, _, l, _⟩ => (if k = 1 then [nm] else []) ++ nmsL l
def nmsL : List Nd → List ByteArray
  | [] => []
  | y :: ys => nms y ++ nmsL ys
end
theorem nms_eq (x : Nd) : nms x = (if x.f0 = 1 then [x.f1] else []) ++ nmsL x.f5 := by cases x; rw [nms]
theorem nms_len : ∀ x : Nd, (nms x).length ≤ cnt x := by
  intro x
  induction x using tree_ind with
  | h x ih =>
    have key : ∀ ys : List Nd, (∀ y ∈ ys, y ∈ x.f5) → (nmsL ys).length ≤ cntL ys := by
      intro ys
      induction ys with
      | nil => intro _; simp [nmsL]
      | cons y ys ih2 =>
        intro h
        have h1 := ih y (h y (List.mem_cons_self ..))
        have h2 := ih2 (fun z hz => h z (List.mem_cons_of_mem _ hz))
        simp only [nmsL, cntL, List.length_append]
        omega
    have := key x.f5 (fun _ h => h)
    rw [nms_eq, cnt_eq, List.length_append]
    split <;> simp <;> omega
theorem walk_names : ∀ x : Nd, ∀ (d : Nat) (s : List ByteArray), s.length + cnt x ≤ 2000000 → d + dep x ≤ 2000000 → ∃ k, tree_walk.g tree_Names.step k x (d : Int) s = some (s ++ nms x) := by
  intro x
  induction x using tree_ind with
  | h x ih =>
    intro d s hs hd
    have hcc := cnt_eq x
    have hdd := dep_eq x
    have key : ∀ (ys : List Nd) (s : List ByteArray), (∀ y ∈ ys, y ∈ x.f5) → s.length + cntL ys ≤ 2000000 → ∃ k, tree_walk.gl tree_Names.step k ys (d : Int) s = some (s ++ nmsL ys) := by
      intro ys
      induction ys with
      | nil => intro s _ hs; exact ⟨1, by rw [tree_walk.gl]; simp [nmsL]⟩
      | cons y ys ih2 =>
        intro s hsub hs
        have hy := hsub y (List.mem_cons_self ..)
        have hdy := dep_mem hy
        have hnl := nms_len y
        simp only [cntL] at hs
        obtain ⟨k1, h1⟩ := ih y hy (d + 1) s (by omega) (by omega)
        obtain ⟨k2, h2⟩ := ih2 (s ++ nms y) (fun z hz => hsub z (List.mem_cons_of_mem _ hz)) (by rw [List.length_append]; omega)
        refine ⟨max k1 k2 + 1, ?_⟩
        rw [tree_walk.gl, nx (by omega), more (fun k => (tree_walk.mono_l _ k).1 _ _ _) h1 (Nat.le_max_left k1 k2), Option.bind_some, more (fun k => (tree_walk.mono_l _ k).2 _ _ _) h2 (Nat.le_max_right k1 k2)]
        simp only [nmsL, List.append_assoc]
    rw [nms_eq]
    by_cases h1 : x.f0 = 1
    · obtain ⟨k, hk⟩ := key x.f5 (s ++ [x.f1]) (fun _ h => h) (by simp; omega)
      refine ⟨k + 1, ?_⟩
      rw [tree_walk.g, tree_Names.step, if_pos h1, if_pos (by omega), Option.bind_some, hk, if_pos h1, List.append_assoc]
    · obtain ⟨k, hk⟩ := key x.f5 s (fun _ h => h) (by omega)
      refine ⟨k + 1, ?_⟩
      rw [tree_walk.g, tree_Names.step, if_neg h1, Option.bind_some, hk, if_neg h1, List.nil_append]
theorem its_names (x : Nd) (hd : cnt x ≤ 1000000) : ∃ k, tree_Names.f k x.f0 x.f1 x.f2 x.f3 x.f4 x.f5 x.f6 = some (nms x) := by
  have h0 := dep_le_cnt x
  obtain ⟨k, hk⟩ := walk_names x 1 [] (by simp; omega) (by omega)
  refine ⟨k, ?_⟩
  unfold tree_Names.f
  rw [List.nil_append] at hk
  cases x
  exact_mod_cast hk
theorem ref_names : ∀ x : Nd, ok26 x → cnt x ≤ 1000000 → ∃ k, latheref07_Names.f k x.f0 x.f1 x.f2 x.f3 x.f4 x.f5 x.f6 = some (nms x) := by
  intro x
  induction x using tree_ind with
  | h x ih =>
    intro hx hc
    obtain ⟨_, _, _, hlen, hmem, _⟩ := ok_inv hx
    have hcc := cnt_eq x
    have key : ∀ (ys : List Nd) (i : Nat) (acc : List ByteArray), i ≤ x.f5.length → x.f5.drop i = ys → acc.length + cntL ys ≤ 2000000 → ∃ k, latheref07_Names.l0 k acc (i : Int) x.f0 x.f1 x.f2 x.f3 x.f4 x.f5 x.f6 = some (acc ++ nmsL ys) := by
      intro ys
      induction ys with
      | nil =>
        intro i acc hi h ha
        have := drop_end hi h
        exact ⟨1, by rw [latheref07_Names.l0, if_neg (by omega), nmsL, List.append_nil]⟩
      | cons y ys ih2 =>
        intro i acc hi h ha
        obtain ⟨hlt, hrd, hnext, hy⟩ := drop_rd h
        have hnl := nms_len y
        have hcm := cnt_mem hy
        simp only [cntL] at ha
        obtain ⟨k1, h1⟩ := ih y hy (hmem y hy) (by omega)
        obtain ⟨k2, h2⟩ := ih2 (i + 1) (acc ++ nms y) (by omega) hnext (by rw [List.length_append]; omega)
        refine ⟨max k1 k2 + 1, ?_⟩
        rw [latheref07_Names.l0, if_pos (by omega), if_pos (by omega), hrd, more (fun k => latheref07_Names.mono _ _ _ _ _ _ _ k) h1 (Nat.le_max_left k1 k2), Option.bind_some, if_pos (by omega), nx (by omega), more (fun k => (latheref07_Names.mono_l k).2.2 _ _ _ _ _ _ _ _ _) h2 (Nat.le_max_right k1 k2), nmsL, List.append_assoc]
    rw [nms_eq]
    by_cases h1 : x.f0 = 1
    · obtain ⟨k, hk⟩ := key x.f5 0 [x.f1] (by omega) rfl (by simp; omega)
      exact ⟨k + 2, by rw [latheref07_Names.f, if_pos h1, if_pos (by simp), latheref07_Names.j0, if_pos h1]; exact hk⟩
    · obtain ⟨k, hk⟩ := key x.f5 0 [] (by omega) rfl (by simp; omega)
      exact ⟨k + 2, by rw [latheref07_Names.f, if_neg h1, latheref07_Names.j0, if_neg h1]; exact hk⟩
theorem texts_from (a : List ByteArray) : ∀ (d i : Nat), a.length - i = d → i ≤ a.length → a.length ≤ 1000000000000 → ∃ k, lathelaw07_sameTexts.l0 k a a (i : Int) = some true := by
  intro d
  induction d with
  | zero =>
    intro i hd hi _
    exact ⟨1, by rw [lathelaw07_sameTexts.l0, if_neg (by omega)]⟩
  | succ d ih =>
    intro i hd hi hl
    obtain ⟨k, hk⟩ := ih (i + 1) (by omega) (by omega) hl
    exact ⟨k + 1, by rw [lathelaw07_sameTexts.l0, if_pos (by omega), if_pos (by omega), if_pos (by omega), if_pos rfl, nx (by omega), hk]⟩
theorem texts_is (a : List ByteArray) (hl : a.length ≤ 1000000000000) : ∃ k, lathelaw07_sameTexts.f k a a = some true := by
  obtain ⟨k, hk⟩ := texts_from a _ 0 rfl (by omega) hl
  refine ⟨k, ?_⟩
  unfold lathelaw07_sameTexts.f
  rw [if_pos rfl]
  exact hk
theorem room_is : ∀ x : Nd, ok26 x → ∀ left : Int, 0 ≤ left → left ≤ 1000000 → ∃ k, lathelaw07_room.f k x.f0 x.f1 x.f2 x.f3 x.f4 x.f5 x.f6 left = some (max (left - (cnt x : Int)) (-1)) := by
  intro x
  induction x using tree_ind with
  | h x ih =>
    intro hx left h0 hl
    obtain ⟨_, _, _, hlen, hmem, _⟩ := ok_inv hx
    have hcc := cnt_eq x
    have key : ∀ (ys : List Nd) (i : Nat) (left : Int), i ≤ x.f5.length → x.f5.drop i = ys → -1 ≤ left → left ≤ 1000000 → ∃ k, lathelaw07_room.l0 k left (i : Int) x.f0 x.f1 x.f2 x.f3 x.f4 x.f5 x.f6 = some (max (left - (cntL ys : Int)) (-1)) := by
      intro ys
      induction ys with
      | nil =>
        intro i left hi h hm _
        have := drop_end hi h
        refine ⟨1, ?_⟩
        rw [lathelaw07_room.l0, if_neg (by omega)]
        simp [cntL]; omega
      | cons y ys ih2 =>
        intro i left hi h hm hl
        obtain ⟨hlt, hrd, hnext, hy⟩ := drop_rd h
        by_cases h0 : 0 ≤ left
        · obtain ⟨k1, h1⟩ := ih y hy (hmem y hy) left h0 hl
          obtain ⟨k2, h2⟩ := ih2 (i + 1) (max (left - (cnt y : Int)) (-1)) (by omega) hnext (by omega) (by omega)
          refine ⟨max k1 k2 + 1, ?_⟩
          have e2 : wrap64 ((i : Int) + 1) = ((i + 1 : Nat) : Int) := by rw [wr64 _ (by omega) (by omega)]; omega
          rw [lathelaw07_room.l0, if_pos (by omega), if_pos h0, if_pos (by omega), hrd, more (fun k => lathelaw07_room.mono _ _ _ _ _ _ _ _ k) h1 (Nat.le_max_left k1 k2), Option.bind_some, e2, more (fun k => (lathelaw07_room.mono_l k).2 _ _ _ _ _ _ _ _ _) h2 (Nat.le_max_right k1 k2)]
          simp only [cntL]
          congr 1
          omega
        · refine ⟨1, ?_⟩
          rw [lathelaw07_room.l0, if_pos (by omega), if_neg (by omega)]
          congr 1
          omega
    obtain ⟨k, hk⟩ := key x.f5 0 (left - 1) (by omega) rfl (by omega) (by omega)
    refine ⟨k + 1, ?_⟩
    rw [lathelaw07_room.f, wr64 _ (by omega) (by omega), hcc]
    refine Eq.trans hk ?_
    congr 1
    omega
theorem big_is (x : Nd) (hx : ok26 x) : ∃ k, lathelaw07_big.f k x.f0 x.f1 x.f2 x.f3 x.f4 x.f5 x.f6 = some (decide (9000 < cnt x)) := by
  obtain ⟨k, hk⟩ := room_is x hx 9000 (by omega) (by omega)
  refine ⟨k, ?_⟩
  unfold lathelaw07_big.f
  rw [hk, Option.bind_some]
  congr 1
  simp only [decide_eq_decide]
  omega
theorem surely : lathelaw07_sure.f 40 = some true := by decide +kernel
theorem surely_k {k : Nat} (h : 40 ≤ k) : lathelaw07_sure.f k = some true := more lathelaw07_sure.mono surely h
theorem strip_ok : ∀ x : Nd, ok26 x → ok26 (strip x) := by
  have key : ∀ ys : List Nd, (∀ y ∈ ys, ok26 (strip y)) → ∀ z ∈ stripL ys, ok26 z := by
    intro ys
    induction ys with
    | nil => intro _ z hz; rw [stripL] at hz; cases hz
    | cons y ys ih =>
      intro h z hz
      rw [stripL] at hz
      rcases List.mem_cons.1 hz with rfl | hz
      · exact h y (List.mem_cons_self ..)
      · exact ih (fun w hw => h w (List.mem_cons_of_mem _ hw)) z hz
  intro x
  induction x using tree_ind with
  | h x ih =>
    intro hx
    cases hx with
    | mk _ h0 h1 h2 h3 h4 h5 g5 h6 =>
      rw [strip_eq]
      exact ok26.mk _ h0 h1 h2 h3 h4 (by show (stripL x.f5).length * _ ≤ _; rw [stripL_len]; exact h5) (key x.f5 (fun y hy => ih y hy (g5 y hy))) (by show (Lit.int .i64 0).wf = true; decide)
theorem roomy_ok : ∀ (n : Nat) (x : Nd), ok26 x → roomy n x
  | 0, _, _ => trivial
  | n + 1, x, h => by
    obtain ⟨_, _, _, hl, hy, _⟩ := ok_inv h
    exact ⟨by omega, fun y hm => roomy_ok n y (hy y hm)⟩
theorem TreeOwn (x0 : S26) (b0 : ok26 x0) : ∃ k, lathelaw07_TreeOwn.f k (x0.f0) (x0.f1) (x0.f2) (x0.f3) (x0.f4) (x0.f5) (x0.f6) = some true := by
  obtain ⟨kb, hb⟩ := big_is x0 b0
  by_cases hbig : 9000 < cnt x0
  · refine ⟨max kb 40, ?_⟩
    unfold lathelaw07_TreeOwn.f
    rw [more (fun k => lathelaw07_big.mono _ _ _ _ _ _ _ k) hb (Nat.le_max_left kb 40), Option.bind_some, if_pos (by simpa using hbig), surely_k (Nat.le_max_right kb 40)]
  · obtain ⟨k1, h1⟩ := law_twin x0 b0
    obtain ⟨k5, h5⟩ := its_strip x0 b0
    obtain ⟨k6, h6⟩ := ref_strip x0 b0
    obtain ⟨k7, h7⟩ := same_is (strip x0) (strip_ok x0 b0)
    obtain ⟨kc, hc⟩ := same_is x0 b0
    obtain ⟨k8, h8⟩ := its_names x0 (by omega)
    obtain ⟨k9, h9⟩ := ref_names x0 b0 (by omega)
    obtain ⟨ka, ha⟩ := texts_is (nms x0) (by have := nms_len x0; omega)
    refine ⟨kb + 40 + k1 + kc + k5 + k6 + k7 + k8 + k9 + ka, ?_⟩
    have hmay : lathelaw07_TreeOwn.may ⟨(strip x0).f0, (strip x0).f1, (strip x0).f2, (strip x0).f3, (strip x0).f4, (strip x0).f5, (strip x0).f6⟩ (nms x0) := by
      have e : (⟨(strip x0).f0, (strip x0).f1, (strip x0).f2, (strip x0).f3, (strip x0).f4, (strip x0).f5, (strip x0).f6⟩ : Nd) = strip x0 := by cases strip x0; rfl
      rw [e]
      exact ⟨fun n => roomy_ok n _ (strip_ok x0 b0), by have := nms_len x0; omega⟩
    unfold lathelaw07_TreeOwn.f
    rw [more (fun k => lathelaw07_big.mono _ _ _ _ _ _ _ k) hb (by omega), Option.bind_some, if_neg (by simpa using hbig), more (fun k => lathelaw07_Twin.mono _ _ _ _ _ _ _ k) h1 (by omega), Option.bind_some]
    dsimp only [tup]
    rw [more (fun k => tree_Strip.mono _ _ _ _ _ _ _ k) h5 (by omega), Option.bind_some, more (fun k => tree_Names.mono _ _ _ _ _ _ _ k) h8 (by omega), Option.bind_some]
    dsimp only [tup]
    refine (if_pos hmay).trans ?_
    rw [more (fun k => lathelaw07_same.mono _ _ _ _ _ _ _ _ _ _ _ _ _ _ k) hc (by omega), Option.bind_some, if_pos rfl, more (fun k => latheref07_Strip.mono _ _ _ _ _ _ _ k) h6 (by omega), Option.bind_some]
    dsimp only [tup]
    rw [more (fun k => lathelaw07_same.mono _ _ _ _ _ _ _ _ _ _ _ _ _ _ k) h7 (by omega), Option.bind_some, if_pos rfl, more (fun k => latheref07_Names.mono _ _ _ _ _ _ _ k) h9 (by omega), Option.bind_some,
      more (fun k => lathelaw07_sameTexts.mono _ _ k) ha (by omega), Option.bind_some, if_pos rfl, surely_k (by omega), Option.bind_some, if_pos rfl]
end Go.Proofs.Ytbfomjbencbmlaa.Pure
