/- Plain lemmas on trees of nodes: how deep a tree is, how many nodes it has. No conditions. -/
import Derived.Test.YtmlgidffgojkhaaOpenT
import Derived.Test.YtmlgidffgojkhaaPureS
namespace Go.Proofs.Ytmlgidffgojkhaa.Pure
set_option linter.unusedVariables false
open Go.RowKit Go.Proofs.Ytmlgidffgojkhaa.Q Go.Proofs.YtmlgidffgojkhaaW.PrintWords

abbrev Nd := S29
mutual
def dep : Nd → Nat
  | ⟨_, _, _, _, _, l, _⟩ => depL l + 1
def depL : List Nd → Nat
  | [] => 0
  | y :: ys => max (dep y) (depL ys)
end
mutual
def cnt : Nd → Nat
  | ⟨_, _, _, _, _, l, _⟩ => cntL l + 1
def cntL : List Nd → Nat
  | [] => 0
  | y :: ys => cnt y + cntL ys
end
theorem dep_eq (x : Nd) : dep x = depL x.f5 + 1 := by cases x; rfl
theorem cnt_eq (x : Nd) : cnt x = cntL x.f5 + 1 := by cases x; rfl
theorem tree_ind {P : Nd → Prop} (h : ∀ x : Nd, (∀ y ∈ x.f5, P y) → P x) (x : Nd) : P x := h x (fun y hy => tree_ind h y)
termination_by SizeOf.sizeOf x
decreasing_by
  have := List.sizeOf_lt_of_mem hy
  cases x
  simp only [S29.mk.sizeOf_spec] at *
  omega
theorem ok_inv {x : Nd} (h : ok29 x) : (Lit.int .i64 x.f0).wf = true ∧ x.f1.size ≤ 140737488351232 ∧ x.f4.size ≤ 140737488351232 ∧ x.f5.length ≤ 1599289640354 ∧ (∀ y ∈ x.f5, ok29 y) ∧ (Lit.int .i64 x.f6).wf = true := by
  cases h with
  | mk _ h0 h1 h2 h3 h4 h5 g5 h6 =>
    have hb : Try.prog.bytesOf 29 = 88 := by kernel_rfl
    rw [hb] at h5
    exact ⟨h0, h1, h4, by omega, g5, h6⟩
theorem wf64 {x : Int} (h : (Lit.int .i64 x).wf = true) : -9223372036854775808 ≤ x ∧ x ≤ 9223372036854775807 := by
  simp [Lit.wf, IntKind.min, IntKind.max, IntKind.signed, IntKind.bits] at h
  omega
theorem dep_le_cnt : ∀ x : Nd, dep x ≤ cnt x := by
  have key : ∀ ys : List Nd, (∀ y ∈ ys, dep y ≤ cnt y) → depL ys ≤ cntL ys := by
    intro ys
    induction ys with
    | nil => intro _; exact Nat.le_refl _
    | cons y ys ih =>
      intro h
      have h1 := h y (List.mem_cons_self ..)
      have h2 := ih (fun z hz => h z (List.mem_cons_of_mem _ hz))
      simp only [depL, cntL]
      omega
  intro x
  induction x using tree_ind with
  | h x ih => rw [dep_eq, cnt_eq]; have := key x.f5 ih; omega
theorem dep_mem {y : Nd} : ∀ {ys : List Nd}, y ∈ ys → dep y ≤ depL ys
  | z :: zs, h => by
    simp only [depL]
    rcases List.mem_cons.1 h with rfl | h
    · omega
    · have := dep_mem h; omega
theorem cnt_mem {y : Nd} : ∀ {ys : List Nd}, y ∈ ys → cnt y ≤ cntL ys
  | z :: zs, h => by
    simp only [cntL]
    rcases List.mem_cons.1 h with rfl | h
    · omega
    · have := cnt_mem h; omega
theorem drop_rd {l : List Nd} {i : Nat} {y : Nd} {ys : List Nd} (h : l.drop i = y :: ys) : i < l.length ∧ rd_T29 l (i : Int) = y ∧ l.drop (i + 1) = ys ∧ y ∈ l := by
  have hi : i < l.length := by
    rcases Nat.lt_or_ge i l.length with h1 | h1
    · exact h1
    · rw [List.drop_of_length_le h1] at h; cases h
  rw [List.drop_eq_getElem_cons hi] at h
  injection h with h1 h2
  refine ⟨hi, ?_, h2, h1 ▸ List.getElem_mem hi⟩
  unfold rd_T29
  rw [Int.toNat_natCast, List.getD_eq_getElem?_getD, List.getElem?_eq_getElem hi, h1]
  rfl
theorem drop_end {l : List Nd} {i : Nat} (hi : i ≤ l.length) (h : l.drop i = []) : i = l.length := by
  have := congrArg List.length h
  rw [List.length_drop] at this
  simp at this
  omega
end Go.Proofs.Ytmlgidffgojkhaa.Pure
