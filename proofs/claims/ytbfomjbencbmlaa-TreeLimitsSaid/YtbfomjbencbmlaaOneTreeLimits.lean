/- The pure form of TreeLimits: the law's Lean function answers true. No conditions. -/
import Derived.Test.YtbfomjbencbmlaaOpenT
import Derived.Test.YtbfomjbencbmlaaQx0TreeLimits
import Derived.Test.YtbfomjbencbmlaaQx1
import Derived.Test.YtbfomjbencbmlaaQx3
import Derived.Test.YtbfomjbencbmlaaQx4
import Derived.Test.YtbfomjbencbmlaaQx5
import Derived.Test.YtbfomjbencbmlaaQx8
import Derived.Test.YtbfomjbencbmlaaQx9
import Derived.Test.YtbfomjbencbmlaaWLast
import Derived.Test.YtbfomjbencbmlaaWWords
namespace Go.Proofs.Ytbfomjbencbmlaa.Pure
set_option linter.unusedVariables false
set_option linter.unusedSimpArgs false
open Go.RowKit Go.Proofs.Ytbfomjbencbmlaa.Q Go.Proofs.YtbfomjbencbmlaaW.PrintWords
open Go.RowKit Go.Proofs.Ytbfomjbencbmlaa.Q Go.Proofs.YtbfomjbencbmlaaW.PrintWords Go.Proofs.YtbfomjbencbmlaaW.PrintLast
open Go.RowKit Go.Proofs.Ytbfomjbencbmlaa.Q Go.Proofs.YtbfomjbencbmlaaW.PrintWords Go.Proofs.YtbfomjbencbmlaaW.PrintMore
open Go.RowKit Go.Proofs.Ytbfomjbencbmlaa.Q Go.Proofs.YtbfomjbencbmlaaW.PrintWords Go.Proofs.YtbfomjbencbmlaaW.PrintMore Go.Proofs.YtbfomjbencbmlaaW.PrintLast
open Go.RowKit Go.Proofs.YtbfomjbencbmlaaW.PrintWords Go.Proofs.YtbfomjbencbmlaaW.PrintLast

theorem toList_loop (s : ByteArray) : ∀ (d i : Nat) (r : List UInt8), s.size - i = d → ByteArray.toList.loop s i r = r.reverse ++ s.data.toList.drop i := by
  have hsz : s.data.toList.length = s.size := by rw [Array.length_toList]; rfl
  intro d
  induction d with
  | zero =>
    intro i r h
    unfold ByteArray.toList.loop
    rw [if_neg (by omega), List.drop_of_length_le (by omega), List.append_nil]
  | succ d ih =>
    intro i r h
    unfold ByteArray.toList.loop
    have hi : i < s.size := by omega
    have hi' : i < s.data.toList.length := by omega
    rw [if_pos hi, ih (i + 1) _ (by omega), List.drop_eq_getElem_cons hi', List.reverse_cons, List.append_assoc]
    have : s.get! i = s.data.toList[i] := by
      have h2 : i < s.data.size := hi
      show s.data[i]! = _
      rw [getElem!_pos s.data i h2, Array.getElem_toList]
    rw [this]; rfl
theorem toList_data (s : ByteArray) : s.toList = s.data.toList := by
  unfold ByteArray.toList
  rw [toList_loop s s.size 0 [] (by simp)]
  rfl
theorem more {α : Type} {f : Nat → Option α} (h : ∀ k, LeO (f k) (f (k + 1))) {k : Nat} {r : α} (hk : f k = some r) : ∀ {j : Nat}, k ≤ j → f j = some r := by
  intro j hj
  obtain ⟨d, rfl⟩ := Nat.le.dest hj
  clear hj
  induction d with
  | zero => exact hk
  | succ d ih => exact h _ _ ih
theorem wr64 (x : Int) (h0 : -9223372036854775808 ≤ x) (h1 : x ≤ 9223372036854775807) : wrap64 x = x := by unfold wrap64; omega
/-- A text's bytes, as numbers. -/
def bl (s : ByteArray) : List Int := s.data.toList.map fun b => (b.toNat : Int)
theorem bl_length (s : ByteArray) : (bl s).length = s.size := by unfold bl; rw [List.length_map, Array.length_toList]; rfl
theorem nat_map_inj : ∀ {a b : List UInt8}, (a.map fun c => (c.toNat : Int)) = (b.map fun c => (c.toNat : Int)) → a = b
  | [], [], _ => rfl
  | [], _ :: _, h => by simp at h
  | _ :: _, [], h => by simp at h
  | x :: xs, y :: ys, h => by
    simp only [List.map_cons, List.cons.injEq] at h
    have : x = y := UInt8.toNat_inj.1 (by omega)
    rw [this, nat_map_inj h.2]
theorem toList_lit (a : ByteArray) (l : List UInt8) : a.toList = l ↔ bl a = l.map fun c => (c.toNat : Int) := by
  rw [toList_data]
  constructor
  · intro h; unfold bl; rw [h]
  · intro h; exact nat_map_inj h
abbrev Nd := S26
mutual
def dep : Nd → Nat
  | ⟨_, _, _, _, _, l, _⟩ => depL l + 1
def depL : List Nd → Nat
  | [] => 0
  | y :: ys => max (dep y) (depL ys)
end
mutual
def cnt : Nd → Nat
  | ⟨_, _, _, _, _, l, _⟩ => cntL l + 1
def cntL : List Nd → Nat
  | [] => 0
  | y :: ys => cnt y + cntL ys
end
theorem dep_eq (x : Nd) : dep x = depL x.f5 + 1 := by cases x; rfl
theorem cnt_eq (x : Nd) : cnt x = cntL x.f5 + 1 := by cases x; rfl
theorem tree_ind {P : Nd → Prop} (h : ∀ x : Nd, (∀ y ∈ x.f5, P y) → P x) (x : Nd) : P x := h x (fun y hy => tree_ind h y)
termination_by SizeOf.sizeOf x
decreasing_by
  have := List.sizeOf_lt_of_mem hy
  cases x
  simp only [S26.mk.sizeOf_spec] at *
  omega
theorem ok_inv {x : Nd} (h : ok26 x) : (Lit.int .i64 x.f0).wf = true ∧ x.f1.size ≤ 140737488351232 ∧ x.f4.size ≤ 140737488351232 ∧ x.f5.length ≤ 1599289640354 ∧ (∀ y ∈ x.f5, ok26 y) ∧ (Lit.int .i64 x.f6).wf = true := by
  cases h with
  | mk _ h0 h1 h2 h3 h4 h5 g5 h6 =>
    have hb : Try.prog.bytesOf 26 = 88 := by kernel_rfl
    rw [hb] at h5
    exact ⟨h0, h1, h4, by omega, g5, h6⟩
theorem dep_le_cnt : ∀ x : Nd, dep x ≤ cnt x := by
  have key : ∀ ys : List Nd, (∀ y ∈ ys, dep y ≤ cnt y) → depL ys ≤ cntL ys := by
    intro ys
    induction ys with
    | nil => intro _; exact Nat.le_refl _
    | cons y ys ih =>
      intro h
      have h1 := h y (List.mem_cons_self ..)
      have h2 := ih (fun z hz => h z (List.mem_cons_of_mem _ hz))
      simp only [depL, cntL]
      omega
  intro x
  induction x using tree_ind with
  | h x ih => rw [dep_eq, cnt_eq]; have := key x.f5 ih; omega
theorem dep_mem {y : Nd} : ∀ {ys : List Nd}, y ∈ ys → dep y ≤ depL ys
  | z :: zs, h => by
    simp only [depL]
    rcases List.mem_cons.1 h with rfl | h
    · omega
    · have := dep_mem h; omega
theorem drop_rd {l : List Nd} {i : Nat} {y : Nd} {ys : List Nd} (h : l.drop i = y :: ys) : i < l.length ∧ rd_T26 l (i : Int) = y ∧ l.drop (i + 1) = ys ∧ y ∈ l := by
  have hi : i < l.length := by
    rcases Nat.lt_or_ge i l.length with h1 | h1
    · exact h1
    · rw [List.drop_of_length_le h1] at h; cases h
  rw [List.drop_eq_getElem_cons hi] at h
  injection h with h1 h2
  refine ⟨hi, ?_, h2, h1 ▸ List.getElem_mem hi⟩
  unfold rd_T26
  rw [Int.toNat_natCast, List.getD_eq_getElem?_getD, List.getElem?_eq_getElem hi, h1]
  rfl
theorem drop_end {l : List Nd} {i : Nat} (hi : i ≤ l.length) (h : l.drop i = []) : i = l.length := by
  have := congrArg List.length h
  rw [List.length_drop] at this
  simp at this
  omega
theorem nx {i : Nat} (h : i ≤ 4000000000000) : wrap64 ((i : Int) + 1) = ((i + 1 : Nat) : Int) := by rw [wr64 _ (by omega) (by omega)]; omega
theorem walk_count : ∀ x : Nd, ∀ d s : Nat, s + cnt x ≤ 2000000 → d + dep x ≤ 2000000 → ∃ k, tree_walk.g tree_Count.step k x (d : Int) (s : Int) = some ((s + cnt x : Nat) : Int) := by
  intro x
  induction x using tree_ind with
  | h x ih =>
    intro d s hs hd
    have hcc := cnt_eq x
    have hdd := dep_eq x
    have key : ∀ (ys : List Nd) (s : Nat), (∀ y ∈ ys, y ∈ x.f5) → s + cntL ys ≤ 2000000 → ∃ k, tree_walk.gl tree_Count.step k ys (d : Int) (s : Int) = some ((s + cntL ys : Nat) : Int) := by
      intro ys
      induction ys with
      | nil => intro s _ hs; exact ⟨1, by rw [tree_walk.gl]; simp [cntL]⟩
      | cons y ys ih2 =>
        intro s hsub hs
        have hy := hsub y (List.mem_cons_self ..)
        have hdy := dep_mem hy
        simp only [cntL] at hs
        obtain ⟨k1, h1⟩ := ih y hy (d + 1) s (by omega) (by omega)
        obtain ⟨k2, h2⟩ := ih2 (s + cnt y) (fun z hz => hsub z (List.mem_cons_of_mem _ hz)) (by omega)
        refine ⟨max k1 k2 + 1, ?_⟩
        rw [tree_walk.gl, nx (by omega), more (fun k => (tree_walk.mono_l _ k).1 _ _ _) h1 (Nat.le_max_left k1 k2), Option.bind_some, more (fun k => (tree_walk.mono_l _ k).2 _ _ _) h2 (Nat.le_max_right k1 k2)]
        simp only [cntL, Nat.add_assoc]
    obtain ⟨k, hk⟩ := key x.f5 (s + 1) (fun _ h => h) (by omega)
    refine ⟨k + 1, ?_⟩
    rw [tree_walk.g, tree_Count.step, nx (by omega), Option.bind_some, hk]
    congr 2
    omega
theorem its_count (x : Nd) (hd : cnt x ≤ 1000000) : ∃ k, tree_Count.f k x.f0 x.f1 x.f2 x.f3 x.f4 x.f5 x.f6 = some (cnt x : Int) := by
  have h0 := dep_le_cnt x
  obtain ⟨k, hk⟩ := walk_count x 1 0 (by omega) (by omega)
  refine ⟨k, ?_⟩
  unfold tree_Count.f
  rw [Nat.zero_add] at hk
  cases x
  exact_mod_cast hk
/-- A node, as the functions hand it on. -/
def tup (x : Nd) : Int × ByteArray × Int × Int × ByteArray × List Nd × Int := (x.f0, x.f1, x.f2, x.f3, x.f4, x.f5, x.f6)
theorem law_twin : ∀ x : Nd, ok26 x → ∃ k, lathelaw07_Twin.f k x.f0 x.f1 x.f2 x.f3 x.f4 x.f5 x.f6 = some (tup x) := by
  intro x
  induction x using tree_ind with
  | h x ih =>
    intro hx
    obtain ⟨_, _, _, hlen, hmem, _⟩ := ok_inv hx
    have key : ∀ (ys : List Nd) (i : Nat) (acc : List Nd), i ≤ x.f5.length → x.f5.drop i = ys → acc.length = i → ∃ k, lathelaw07_Twin.l0 k acc (i : Int) x.f0 x.f1 x.f2 x.f3 x.f4 x.f5 x.f6 = some (x.f0, x.f1, x.f2, x.f3, x.f4, acc ++ ys, x.f6) := by
      intro ys
      induction ys with
      | nil =>
        intro i acc hi h ha
        have := drop_end hi h
        exact ⟨1, by rw [lathelaw07_Twin.l0, if_neg (by omega), List.append_nil]⟩
      | cons y ys ih2 =>
        intro i acc hi h ha
        obtain ⟨hlt, hrd, hnext, hy⟩ := drop_rd h
        obtain ⟨k1, h1⟩ := ih y hy (hmem y hy)
        obtain ⟨k2, h2⟩ := ih2 (i + 1) (acc ++ [y]) (by omega) hnext (by simp; omega)
        refine ⟨max k1 k2 + 1, ?_⟩
        rw [lathelaw07_Twin.l0, if_pos (by omega), if_pos (by omega), hrd, more (fun k => lathelaw07_Twin.mono _ _ _ _ _ _ _ k) h1 (Nat.le_max_left k1 k2), Option.bind_some, if_pos (by omega), nx (by omega)]
        have := more (fun k => (lathelaw07_Twin.mono_l k).2 _ _ _ _ _ _ _ _ _) h2 (Nat.le_max_right k1 k2)
        cases y
        simpa [tup] using this
    obtain ⟨k, hk⟩ := key x.f5 0 [] (by omega) rfl rfl
    exact ⟨k + 1, by rw [lathelaw07_Twin.f]; exact hk⟩
theorem walk_depth : ∀ x : Nd, ∀ d s : Nat, d + dep x ≤ 2000000 → ∃ k, tree_walk.g tree_Depth.step k x (d : Int) (s : Int) = some ((max s (d + dep x - 1) : Nat) : Int) := by
  intro x
  induction x using tree_ind with
  | h x ih =>
    intro d s hd
    have hdd := dep_eq x
    have key : ∀ (ys : List Nd) (s : Nat), (∀ y ∈ ys, y ∈ x.f5) → d ≤ s → ∃ k, tree_walk.gl tree_Depth.step k ys (d : Int) (s : Int) = some ((max s (d + depL ys) : Nat) : Int) := by
      intro ys
      induction ys with
      | nil => intro s _ hs; exact ⟨1, by rw [tree_walk.gl]; simp [depL]; omega⟩
      | cons y ys ih2 =>
        intro s hsub hs
        have hy := hsub y (List.mem_cons_self ..)
        have hdy := dep_mem hy
        obtain ⟨k1, h1⟩ := ih y hy (d + 1) s (by omega)
        obtain ⟨k2, h2⟩ := ih2 (max s (d + 1 + dep y - 1)) (fun z hz => hsub z (List.mem_cons_of_mem _ hz)) (by omega)
        refine ⟨max k1 k2 + 1, ?_⟩
        have e2 : wrap64 ((d : Int) + 1) = ((d + 1 : Nat) : Int) := by rw [wr64 _ (by omega) (by omega)]; omega
        rw [tree_walk.gl, e2, more (fun k => (tree_walk.mono_l _ k).1 _ _ _) h1 (Nat.le_max_left k1 k2), Option.bind_some, more (fun k => (tree_walk.mono_l _ k).2 _ _ _) h2 (Nat.le_max_right k1 k2)]
        simp only [depL]
        congr 2
        omega
    obtain ⟨k, hk⟩ := key x.f5 (max s d) (fun _ h => h) (by omega)
    refine ⟨k + 1, ?_⟩
    have e1 : mx (s : Int) (d : Int) = ((max s d : Nat) : Int) := by unfold mx; split <;> omega
    rw [tree_walk.g, tree_Depth.step, e1, Option.bind_some, hk]
    congr 2
    omega
theorem its_depth (x : Nd) (hd : dep x ≤ 1000000) : ∃ k, tree_Depth.f k x.f0 x.f1 x.f2 x.f3 x.f4 x.f5 x.f6 = some (dep x : Int) := by
  have h0 := dep_eq x
  obtain ⟨k, hk⟩ := walk_depth x 1 0 (by omega)
  refine ⟨k, ?_⟩
  unfold tree_Depth.f
  have : max 0 (1 + dep x - 1) = dep x := by omega
  rw [this] at hk
  cases x
  exact_mod_cast hk
theorem toList_nil (s : ByteArray) : s.toList = ([] : List UInt8) ↔ s.size = 0 := by
  rw [toList_lit]
  constructor
  · intro h
    have := congrArg List.length h
    rw [bl_length] at this
    simpa using this
  · intro h
    have := bl_length s
    rw [h] at this
    simpa using List.length_eq_zero_iff.1 this
theorem surely : lathelaw07_sure.f 40 = some true := by decide +kernel
theorem surely_k {k : Nat} (h : 40 ≤ k) : lathelaw07_sure.f k = some true := more lathelaw07_sure.mono surely h
abbrev chk (k : Nat) (x : Nd) : Option Int := tree_Check.f k x.f0 x.f1 x.f2 x.f3 x.f4 x.f5 x.f6
theorem chk_ev {x : Nd} {k : Nat} {r : Int} (h : chk k x = some r) : Ev (fun k => chk k x) r := Ev.of (fun k => tree_Check.mono _ _ _ _ _ _ _ k) h
def zs (n : Nat) : ByteArray := ⟨(List.replicate n (122 : UInt8)).toArray⟩
theorem zs_succ (n : Nat) : zs n ++ (⟨#[122]⟩ : ByteArray) = zs (n + 1) := by
  apply ByteArray.ext
  apply Array.ext'
  rw [ByteArray.data_append, Array.toList_append]
  show List.replicate n (122 : UInt8) ++ [122] = List.replicate (n + 1) 122
  rw [List.replicate_succ']
theorem zs_size (n : Nat) : (zs n).size = n := by show (List.replicate n (122 : UInt8)).toArray.size = n; simp
def nst : Nat → Nd
  | 0 => ⟨1, ⟨#[97]⟩, 0, 0, ⟨#[]⟩, [], 0⟩
  | n + 1 => ⟨1, ⟨#[98]⟩, 0, 0, ⟨#[]⟩, [nst n], 0⟩
theorem nd_eta (x : Nd) : (⟨x.f0, x.f1, x.f2, x.f3, x.f4, x.f5, x.f6⟩ : Nd) = x := by cases x; rfl
theorem nst_succ (n : Nat) : nst (n + 1) = ⟨1, ⟨#[98]⟩, 0, 0, ⟨#[]⟩, [nst n], 0⟩ := by rw [nst]
theorem chk_n : chk 400 (nst 63) = some 0 := by decide +kernel
theorem chk_d : chk 400 (nst 64) = some 81 := by decide +kernel
theorem chk_z : chk 200 ⟨1, zs 64, 0, 0, ⟨#[]⟩, [], 0⟩ = some 0 := by decide +kernel
theorem chk_y : chk 200 ⟨1, zs 65, 0, 0, ⟨#[]⟩, [], 0⟩ = some 2 := by decide +kernel
def lf (j : Int) : Nd := ⟨3, ⟨#[]⟩, 0, j, ⟨#[]⟩, [], 0⟩
def row : Nat → List Nd
  | 0 => []
  | n + 1 => row n ++ [lf ((n + 1 : Nat) : Int)]
theorem row_len : ∀ n, (row n).length = n
  | 0 => rfl
  | n + 1 => by rw [row, List.length_append, row_len n]; rfl
theorem row_mem : ∀ (n : Nat) (y : Nd), y ∈ row n → ∃ j : Nat, y = lf (j : Int) ∧ j ≤ n
  | 0, y, h => by cases h
  | n + 1, y, h => by
    rw [row, List.mem_append] at h
    rcases h with h | h
    · obtain ⟨j, h1, h2⟩ := row_mem n y h
      exact ⟨j, h1, by omega⟩
    · exact ⟨n + 1, by simpa using h, Nat.le_refl _⟩
def leafs (l : List Nd) : Prop := ∀ y ∈ l, ∃ j : Nat, y = lf (j : Int) ∧ j ≤ 4096
theorem leafs_dep : ∀ {l : List Nd}, leafs l → depL l ≤ 1
  | [], _ => Nat.zero_le _
  | y :: l, h => by
    obtain ⟨j, rfl, _⟩ := h y List.mem_cons_self
    have := leafs_dep (l := l) (fun z hz => h z (List.mem_cons_of_mem _ hz))
    have e : dep (lf (j : Int)) = 1 := rfl
    simp only [depL]
    omega
theorem leafs_cnt : ∀ {l : List Nd}, leafs l → cntL l = l.length
  | [], _ => rfl
  | y :: l, h => by
    obtain ⟨j, rfl, _⟩ := h y List.mem_cons_self
    have := leafs_cnt (l := l) (fun z hz => h z (List.mem_cons_of_mem _ hz))
    have e : cnt (lf (j : Int)) = 1 := rfl
    simp only [cntL, List.length_cons]
    omega
theorem leaf_ok (j : Nat) (h : j ≤ 4096) : ok26 (lf (j : Int)) :=
  ok26.mk _ (show (Lit.int .i64 3).wf = true from by decide) (show (⟨#[]⟩ : ByteArray).size ≤ 140737488351232 from by decide) (show (Lit.int .u32 0).wf = true from by decide) (by show (Lit.int .i64 (j : Int)).wf = true; simp [Lit.wf, IntKind.min, IntKind.max, IntKind.signed, IntKind.bits]; omega) (show (⟨#[]⟩ : ByteArray).size ≤ 140737488351232 from by decide) (by show 0 * _ ≤ _; omega) (fun _ h => by cases h) (show (Lit.int .i64 0).wf = true from by decide)
abbrev big (l : List Nd) : Nd := ⟨1, ⟨#[99]⟩, 0, 0, ⟨#[]⟩, l, 0⟩
theorem big_ok {l : List Nd} (h : leafs l) (hl : l.length ≤ 5000) : ok26 (big l) := by
  have hb : l.length * Try.prog.bytesOf 26 ≤ 140737488351232 := by
    rw [show Try.prog.bytesOf 26 = 88 by kernel_rfl]
    omega
  exact ok26.mk (big l) (show (Lit.int .i64 1).wf = true from by decide) (show (⟨#[99]⟩ : ByteArray).size ≤ 140737488351232 from by decide) (show (Lit.int .u32 0).wf = true from by decide) (show (Lit.int .i64 0).wf = true from by decide) (show (⟨#[]⟩ : ByteArray).size ≤ 140737488351232 from by decide) hb (fun y hy => by obtain ⟨j, rfl, hj⟩ := h y hy; exact leaf_ok j hj) (show (Lit.int .i64 0).wf = true from by decide)
theorem leaf_all : ∀ a : Fin 64, ∀ b : Fin 65, tree_faults.f 12 3 ⟨#[]⟩ 0 ((64 * a.val + b.val : Nat) : Int) ⟨#[]⟩ [] 0 true = some 0 := by decide +kernel
theorem leaf_flt (j : Nat) (h : j ≤ 4096) : Ev (fun k => tree_faults.f k 3 ⟨#[]⟩ 0 (j : Int) ⟨#[]⟩ [] 0 true) 0 := by
  obtain ⟨a, b, ha, hb, rfl⟩ : ∃ a b, a < 64 ∧ b < 65 ∧ j = 64 * a + b := by
    by_cases e : j = 4096
    · exact ⟨63, 64, by omega, by omega, by omega⟩
    · exact ⟨j / 64, j % 64, by omega, by omega, by omega⟩
  exact Ev.of (fun k => tree_faults.mono _ _ _ _ _ _ _ _ k) (leaf_all ⟨a, ha⟩ ⟨b, hb⟩)
theorem may_c (l : List Nd) : tree_may.f 12 1 ⟨#[99]⟩ 0 0 ⟨#[]⟩ l 0 = some true := by kernel_rfl
theorem flt_row (l : List Nd) (hl : l.length ≤ 5000) (h : leafs l) : ∀ (d i : Nat), l.length - i = d → i ≤ l.length → Ev (fun k => tree_faults.l0 k l (l.length : Int) (i : Int) 1 ⟨#[99]⟩ 0 0 ⟨#[]⟩ l 0) 0 := by
  intro d
  induction d with
  | zero =>
    intro i e hi
    refine Ev.step (f := fun _ => some 0) (fun k => ?_) (Ev.now 0)
    rw [tree_faults.l0, if_neg (by omega)]
  | succ d ih =>
    intro i e hi
    have hlt : i < l.length := by omega
    have hr : rd_T26 l (i : Int) = l[i] := by simp [rd_T26, List.getElem?_eq_getElem hlt]
    obtain ⟨j, hj, hj2⟩ := h l[i] (List.getElem_mem hlt)
    refine Ev.step (f := fun k => (tree_faults.f k 3 ⟨#[]⟩ 0 (j : Int) ⟨#[]⟩ [] 0 true).bind fun t => if t = 0 then tree_faults.l0 k l (l.length : Int) ((i + 1 : Nat) : Int) 1 ⟨#[99]⟩ 0 0 ⟨#[]⟩ l 0 else some t) (fun k => ?_) (Ev.bind (leaf_flt j hj2) (Ev.congr (fun k => if_pos rfl) (ih (i + 1) (by omega) (by omega))))
    rw [tree_faults.l0, if_pos (by omega), if_pos (by omega), if_pos (by omega), if_neg (by decide), hr, hj, nx (by omega)]
    rfl
theorem flt_big (l : List Nd) (hl : l.length ≤ 5000) (h : leafs l) : Ev (fun k => tree_faults.f k 1 ⟨#[99]⟩ 0 0 ⟨#[]⟩ l 0 false) 0 := by
  have h1 : Ev (fun k => tree_may.f k 1 ⟨#[99]⟩ 0 0 ⟨#[]⟩ l 0) true := Ev.of (fun k => tree_may.mono _ _ _ _ _ _ _ k) (may_c l)
  refine Ev.step (f := fun k => tree_faults.j0 k false false 1 ⟨#[99]⟩ 0 0 ⟨#[]⟩ l 0) (fun k => ?_) (Ev.step (f := fun k => (tree_may.f k 1 ⟨#[99]⟩ 0 0 ⟨#[]⟩ l 0).bind fun t => if t = true then tree_faults.j1 k 1 ⟨#[99]⟩ 0 0 ⟨#[]⟩ l 0 else some 70) (fun k => ?_) (Ev.bind h1 (Ev.congr (fun k => if_pos rfl) (Ev.step (fun k => ?_) (flt_row l hl h _ 0 rfl (by omega))))))
  · rw [tree_faults.f, if_neg (by decide)]; rfl
  · rw [tree_faults.j0, if_neg (by decide)]; rfl
  · rw [tree_faults.j1]; rfl
theorem chk_big (l : List Nd) (hl : l.length ≤ 5000) (h : leafs l) : Ev (fun k => chk k (big l)) (if l.length < 4096 then 0 else 82) := by
  have hd : dep (big l) ≤ 2 := by have := leafs_dep h; rw [dep_eq]; show depL l + 1 ≤ 2; omega
  have hc : cnt (big l) = l.length + 1 := by rw [cnt_eq]; show cntL l + 1 = _; rw [leafs_cnt h]
  obtain ⟨k1, h1⟩ := its_depth (big l) (by omega)
  obtain ⟨k2, h2⟩ := its_count (big l) (by omega)
  have e1 : Ev (fun k => tree_Depth.f k 1 ⟨#[99]⟩ 0 0 ⟨#[]⟩ l 0) (dep (big l) : Int) := Ev.of (fun k => tree_Depth.mono _ _ _ _ _ _ _ k) h1
  have e2 : Ev (fun k => tree_Count.f k 1 ⟨#[99]⟩ 0 0 ⟨#[]⟩ l 0) (cnt (big l) : Int) := Ev.of (fun k => tree_Count.mono _ _ _ _ _ _ _ k) h2
  refine Ev.bind e1 (Ev.congr (fun k => if_neg (by omega)) (Ev.bind e2 ?_))
  by_cases hn : l.length < 4096
  · rw [if_pos hn]
    refine Ev.congr (fun k => (if_neg (by omega)).trans (if_pos ((toList_nil (⟨#[]⟩ : ByteArray)).2 rfl))) (Ev.bind (flt_big l hl h) (Ev.now 0))
  · rw [if_neg hn]
    exact Ev.congr (fun k => if_pos (by omega)) (Ev.now 82)
theorem lim_l2 (M R : List Nd) (hM : Ev (fun k => chk k (big M)) 0) (hR : Ev (fun k => chk k (big R)) 82) : ∀ (d i : Nat), 64 - i = d → i ≤ 64 →
    Ev (fun k => lathelaw07_TreeLimits.l2 k (zs i) (i : Int) (nst 63).f0 (nst 63).f1 (nst 63).f2 (nst 63).f3 (nst 63).f4 (nst 63).f5 (nst 63).f6 (nst 64).f0 (nst 64).f1 (nst 64).f2 (nst 64).f3 (nst 64).f4 (nst 64).f5 (nst 64).f6 1 ⟨#[99]⟩ 0 0 ⟨#[]⟩ M 0 1 ⟨#[99]⟩ 0 0 ⟨#[]⟩ R 0) true := by
  intro d
  induction d with
  | zero =>
    intro i e hi
    obtain rfl : i = 64 := by omega
    obtain ⟨K1, h1⟩ := chk_ev chk_n
    obtain ⟨K2, h2⟩ := chk_ev chk_d
    obtain ⟨K3, h3⟩ := hM
    obtain ⟨K4, h4⟩ := hR
    obtain ⟨K5, h5⟩ := chk_ev chk_z
    obtain ⟨K6, h6⟩ := chk_ev chk_y
    refine ⟨K1 + K2 + K3 + K4 + K5 + K6 + 41, fun k hk => ?_⟩
    obtain ⟨k, rfl⟩ : ∃ m, k = m + 1 := ⟨k - 1, by omega⟩
    have g1 := h1 k (by omega)
    have g2 := h2 k (by omega)
    have g3 := h3 k (by omega)
    have g4 := h4 k (by omega)
    have g5 := h5 k (by omega)
    have g6 := h6 k (by omega)
    have g7 := surely_k (k := k) (by omega)
    have hz := zs_size 64
    generalize nst 63 = a at g1 ⊢
    generalize nst 64 = b at g2 ⊢
    dsimp only [chk] at g1 g2 g3 g4 g5 g6 ⊢
    rw [lathelaw07_TreeLimits.l2, if_neg (by omega), if_pos (by omega), g1, Option.bind_some, if_pos rfl, g2, Option.bind_some, if_pos rfl, g3, Option.bind_some, if_pos rfl, g4, Option.bind_some, if_pos rfl, g5, Option.bind_some, if_pos rfl, zs_succ, g6, Option.bind_some, if_pos rfl, g7, Option.bind_some]
  | succ d ih =>
    intro i e hi
    refine Ev.step (fun k => ?_) (ih (i + 1) (by omega) (by omega))
    have hz := zs_size i
    rw [lathelaw07_TreeLimits.l2, if_pos (by omega), if_pos (by omega), zs_succ, nx (by omega)]
theorem lim_l1 : ∀ (d n : Nat), 4095 - n = d → n ≤ 4095 →
    Ev (fun k => lathelaw07_TreeLimits.l1 k ((n + 1 : Nat) : Int) (nst 63).f0 (nst 63).f1 (nst 63).f2 (nst 63).f3 (nst 63).f4 (nst 63).f5 (nst 63).f6 (nst 64).f0 (nst 64).f1 (nst 64).f2 (nst 64).f3 (nst 64).f4 (nst 64).f5 (nst 64).f6 1 ⟨#[99]⟩ 0 0 ⟨#[]⟩ (row n) 0) true := by
  intro d
  induction d with
  | zero =>
    intro n e hn
    have hn' : n = 4095 := by omega
    have hlen := row_len n
    have hlf : leafs (row n) := fun y hy => by obtain ⟨j, h1, h2⟩ := row_mem _ y hy; exact ⟨j, h1, by omega⟩
    generalize row n = M at hlen hlf ⊢
    have hlf2 : leafs (M ++ [lf ((0 : Nat) : Int)]) := fun y hy => by
      rcases List.mem_append.1 hy with h | h
      · exact hlf y h
      · exact ⟨0, by simpa using h, by omega⟩
    have hM := chk_big M (by omega) hlf
    rw [if_pos (by omega)] at hM
    have hR := chk_big (M ++ [lf ((0 : Nat) : Int)]) (by simp only [List.length_append, List.length_cons, List.length_nil]; omega) hlf2
    rw [if_neg (by simp only [List.length_append, List.length_cons, List.length_nil]; omega)] at hR
    obtain ⟨kt, ht⟩ := law_twin (big M) (big_ok hlf (by omega))
    have et : Ev (fun k => lathelaw07_Twin.f k 1 ⟨#[99]⟩ 0 0 ⟨#[]⟩ M 0) (tup (big M)) := Ev.of (fun k => lathelaw07_Twin.mono _ _ _ _ _ _ _ k) ht
    obtain ⟨K1, h1⟩ := et
    obtain ⟨K2, h2⟩ := lim_l2 M _ hM hR _ 0 rfl (by omega)
    refine ⟨K1 + K2 + 1, fun k hk => ?_⟩
    obtain ⟨k, rfl⟩ : ∃ m, k = m + 1 := ⟨k - 1, by omega⟩
    have g1 := h1 k (by omega)
    have g2 := h2 k (by omega)
    generalize nst 63 = a at g2 ⊢
    generalize nst 64 = b at g2 ⊢
    dsimp only at g1 g2 ⊢
    rw [lathelaw07_TreeLimits.l1, if_neg (by omega), g1, Option.bind_some, if_pos (show (tup (big M)).2.2.2.2.2.1.length < 1599289640401 from by show M.length < 1599289640401; omega)]
    exact g2
  | succ d ih =>
    intro n e hn
    have hlen := row_len n
    refine Ev.step (fun k => ?_) (ih (n + 1) (by omega) (by omega))
    rw [lathelaw07_TreeLimits.l1, if_pos (by omega), if_pos (by omega), nx (by omega)]
    rfl
theorem lim_l0 : ∀ (d n : Nat), 63 - n = d → n ≤ 63 → Ev (fun k => lathelaw07_TreeLimits.l0 k ((n + 1 : Nat) : Int) (nst n).f0 (nst n).f1 (nst n).f2 (nst n).f3 (nst n).f4 (nst n).f5 (nst n).f6) true := by
  intro d
  induction d with
  | zero =>
    intro n e hn
    obtain rfl : n = 63 := by omega
    refine Ev.step (fun k => ?_) (lim_l1 _ 0 rfl (by omega))
    rw [lathelaw07_TreeLimits.l0, if_neg (by omega)]
    rfl
  | succ d ih =>
    intro n e hn
    refine Ev.step (fun k => ?_) (ih (n + 1) (by omega) (by omega))
    rw [lathelaw07_TreeLimits.l0, if_pos (by omega), nx (by omega), nst_succ, nd_eta]
theorem TreeLimits : lathelaw07_TreeLimits.Pure := by
  obtain ⟨K, h⟩ := lim_l0 _ 0 rfl (by omega)
  exact ⟨K, h K (Nat.le_refl _)⟩
end Go.Proofs.Ytbfomjbencbmlaa.Pure
