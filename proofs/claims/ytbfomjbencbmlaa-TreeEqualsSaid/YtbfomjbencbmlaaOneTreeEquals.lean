/- The statement TreeEquals over the printed Lean functions: it answers true for every two trees. Conditions: the trees read within the reading's bounds. -/
import Derived.Test.YtbfomjbencbmlaaOpenT
import Derived.Test.YtbfomjbencbmlaaQx0TreeEquals
import Derived.Test.YtbfomjbencbmlaaQx1
import Derived.Test.YtbfomjbencbmlaaQx16
import Derived.Test.YtbfomjbencbmlaaQx6
import Derived.Test.YtbfomjbencbmlaaQx7
import Derived.Test.YtbfomjbencbmlaaQx8
import Derived.Test.YtbfomjbencbmlaaWLast
import Derived.Test.YtbfomjbencbmlaaWWords
namespace Go.Proofs.Ytbfomjbencbmlaa.Pure
set_option linter.unusedVariables false
set_option linter.unusedSimpArgs false
open Go.RowKit Go.Proofs.Ytbfomjbencbmlaa.Q Go.Proofs.YtbfomjbencbmlaaW.PrintWords
open Go.RowKit Go.Proofs.Ytbfomjbencbmlaa.Q Go.Proofs.YtbfomjbencbmlaaW.PrintWords Go.Proofs.YtbfomjbencbmlaaW.PrintLast
open Go.RowKit Go.Proofs.Ytbfomjbencbmlaa.Q Go.Proofs.YtbfomjbencbmlaaW.PrintWords Go.Proofs.YtbfomjbencbmlaaW.PrintMore
open Go.RowKit Go.Proofs.Ytbfomjbencbmlaa.Q Go.Proofs.YtbfomjbencbmlaaW.PrintWords Go.Proofs.YtbfomjbencbmlaaW.PrintMore Go.Proofs.YtbfomjbencbmlaaW.PrintLast
open Go.RowKit Go.Proofs.YtbfomjbencbmlaaW.PrintWords Go.Proofs.YtbfomjbencbmlaaW.PrintLast

theorem toList_loop (s : ByteArray) : ∀ (d i : Nat) (r : List UInt8), s.size - i = d → ByteArray.toList.loop s i r = r.reverse ++ s.data.toList.drop i := by
  have hsz : s.data.toList.length = s.size := by rw [Array.length_toList]; rfl
  intro d
  induction d with
  | zero =>
    intro i r h
    unfold ByteArray.toList.loop
    rw [if_neg (by omega), List.drop_of_length_le (by omega), List.append_nil]
  | succ d ih =>
    intro i r h
    unfold ByteArray.toList.loop
    have hi : i < s.size := by omega
    have hi' : i < s.data.toList.length := by omega
    rw [if_pos hi, ih (i + 1) _ (by omega), List.drop_eq_getElem_cons hi', List.reverse_cons, List.append_assoc]
    have : s.get! i = s.data.toList[i] := by
      have h2 : i < s.data.size := hi
      show s.data[i]! = _
      rw [getElem!_pos s.data i h2, Array.getElem_toList]
    rw [this]; rfl
theorem toList_data (s : ByteArray) : s.toList = s.data.toList := by
  unfold ByteArray.toList
  rw [toList_loop s s.size 0 [] (by simp)]
  rfl
theorem more {α : Type} {f : Nat → Option α} (h : ∀ k, LeO (f k) (f (k + 1))) {k : Nat} {r : α} (hk : f k = some r) : ∀ {j : Nat}, k ≤ j → f j = some r := by
  intro j hj
  obtain ⟨d, rfl⟩ := Nat.le.dest hj
  clear hj
  induction d with
  | zero => exact hk
  | succ d ih => exact h _ _ ih
theorem wr64 (x : Int) (h0 : -9223372036854775808 ≤ x) (h1 : x ≤ 9223372036854775807) : wrap64 x = x := by unfold wrap64; omega
/-- A text's bytes, as numbers. -/
def bl (s : ByteArray) : List Int := s.data.toList.map fun b => (b.toNat : Int)
theorem nat_map_inj : ∀ {a b : List UInt8}, (a.map fun c => (c.toNat : Int)) = (b.map fun c => (c.toNat : Int)) → a = b
  | [], [], _ => rfl
  | [], _ :: _, h => by simp at h
  | _ :: _, [], h => by simp at h
  | x :: xs, y :: ys, h => by
    simp only [List.map_cons, List.cons.injEq] at h
    have : x = y := UInt8.toNat_inj.1 (by omega)
    rw [this, nat_map_inj h.2]
theorem bl_inj {a b : ByteArray} : bl a = bl b ↔ a = b := by
  constructor
  · intro h
    apply ByteArray.ext
    apply Array.ext'
    exact nat_map_inj h
  · intro h; rw [h]
theorem toList_bl {a b : ByteArray} : a.toList = b.toList ↔ bl a = bl b := by
  rw [toList_data, toList_data]
  constructor
  · intro h; unfold bl; rw [h]
  · intro h; exact nat_map_inj h
abbrev Nd := S26
mutual
def cnt : Nd → Nat
  | ⟨_, _, _, _, _, l, _⟩ => cntL l + 1
def cntL : List Nd → Nat
  | [] => 0
  | y :: ys => cnt y + cntL ys
end
theorem cnt_eq (x : Nd) : cnt x = cntL x.f5 + 1 := by cases x; rfl
theorem tree_ind {P : Nd → Prop} (h : ∀ x : Nd, (∀ y ∈ x.f5, P y) → P x) (x : Nd) : P x := h x (fun y hy => tree_ind h y)
termination_by SizeOf.sizeOf x
decreasing_by
  have := List.sizeOf_lt_of_mem hy
  cases x
  simp only [S26.mk.sizeOf_spec] at *
  omega
theorem ok_inv {x : Nd} (h : ok26 x) : (Lit.int .i64 x.f0).wf = true ∧ x.f1.size ≤ 140737488351232 ∧ x.f4.size ≤ 140737488351232 ∧ x.f5.length ≤ 1599289640354 ∧ (∀ y ∈ x.f5, ok26 y) ∧ (Lit.int .i64 x.f6).wf = true := by
  cases h with
  | mk _ h0 h1 h2 h3 h4 h5 g5 h6 =>
    have hb : Try.prog.bytesOf 26 = 88 := by kernel_rfl
    rw [hb] at h5
    exact ⟨h0, h1, h4, by omega, g5, h6⟩
theorem drop_rd {l : List Nd} {i : Nat} {y : Nd} {ys : List Nd} (h : l.drop i = y :: ys) : i < l.length ∧ rd_T26 l (i : Int) = y ∧ l.drop (i + 1) = ys ∧ y ∈ l := by
  have hi : i < l.length := by
    rcases Nat.lt_or_ge i l.length with h1 | h1
    · exact h1
    · rw [List.drop_of_length_le h1] at h; cases h
  rw [List.drop_eq_getElem_cons hi] at h
  injection h with h1 h2
  refine ⟨hi, ?_, h2, h1 ▸ List.getElem_mem hi⟩
  unfold rd_T26
  rw [Int.toNat_natCast, List.getD_eq_getElem?_getD, List.getElem?_eq_getElem hi, h1]
  rfl
theorem drop_end {l : List Nd} {i : Nat} (hi : i ≤ l.length) (h : l.drop i = []) : i = l.length := by
  have := congrArg List.length h
  rw [List.length_drop] at this
  simp at this
  omega
theorem nx {i : Nat} (h : i ≤ 4000000000000) : wrap64 ((i : Int) + 1) = ((i + 1 : Nat) : Int) := by rw [wr64 _ (by omega) (by omega)]; omega
/-- A node, as the functions hand it on. -/
def tup (x : Nd) : Int × ByteArray × Int × Int × ByteArray × List Nd × Int := (x.f0, x.f1, x.f2, x.f3, x.f4, x.f5, x.f6)
mutual
def strip : Nd → Nd
  | ⟨a, b, c, d, e, l, _⟩ => ⟨a, b, c, d, e, stripL l, 0⟩
def stripL : List Nd → List Nd
  | [] => []
  | y :: ys => strip y :: stripL ys
end
theorem strip_eq (x : Nd) : strip x = ⟨x.f0, x.f1, x.f2, x.f3, x.f4, stripL x.f5, 0⟩ := by cases x; rw [strip]
theorem its_strip : ∀ x : Nd, ok26 x → ∃ k, tree_Strip.f k x.f0 x.f1 x.f2 x.f3 x.f4 x.f5 x.f6 = some (tup (strip x)) := by
  intro x
  induction x using tree_ind with
  | h x ih =>
    intro hx
    obtain ⟨_, _, _, hlen, hmem, _⟩ := ok_inv hx
    have key : ∀ (ys : List Nd) (i : Nat) (acc : List Nd), i ≤ x.f5.length → x.f5.drop i = ys → acc.length = i → ∃ k, tree_Strip.l0 k acc x.f5 (x.f5.length : Int) (i : Int) x.f0 x.f1 x.f2 x.f3 x.f4 x.f5 0 = some (x.f0, x.f1, x.f2, x.f3, x.f4, acc ++ stripL ys, 0) := by
      intro ys
      induction ys with
      | nil =>
        intro i acc hi h ha
        have := drop_end hi h
        exact ⟨1, by rw [tree_Strip.l0, if_neg (by omega), stripL, List.append_nil]⟩
      | cons y ys ih2 =>
        intro i acc hi h ha
        obtain ⟨hlt, hrd, hnext, hy⟩ := drop_rd h
        obtain ⟨k1, h1⟩ := ih y hy (hmem y hy)
        obtain ⟨k2, h2⟩ := ih2 (i + 1) (acc ++ [strip y]) (by omega) hnext (by simp; omega)
        refine ⟨max k1 k2 + 1, ?_⟩
        rw [tree_Strip.l0, if_pos (by omega), if_pos (by omega), if_pos (by omega), hrd, more (fun k => tree_Strip.mono _ _ _ _ _ _ _ k) h1 (Nat.le_max_left k1 k2), Option.bind_some, if_pos (by omega), nx (by omega), stripL]
        have := more (fun k => (tree_Strip.mono_l k).2 _ _ _ _ _ _ _ _ _ _ _) h2 (Nat.le_max_right k1 k2)
        generalize strip y = z at this
        cases z
        simpa [tup] using this
    obtain ⟨k, hk⟩ := key x.f5 0 [] (by omega) rfl rfl
    exact ⟨k + 1, by rw [tree_Strip.f, strip_eq]; exact hk⟩
theorem stripL_len : ∀ ys : List Nd, (stripL ys).length = ys.length
  | [] => by rw [stripL]
  | y :: ys => by rw [stripL, List.length_cons, List.length_cons, stripL_len ys]
theorem strip_strip : ∀ x : Nd, strip (strip x) = strip x := by
  intro x
  induction x using tree_ind with
  | h x ih =>
    have key : ∀ ys : List Nd, (∀ y ∈ ys, y ∈ x.f5) → stripL (stripL ys) = stripL ys := by
      intro ys
      induction ys with
      | nil => intro _; simp [stripL]
      | cons y ys ih2 => intro h; simp only [stripL]; rw [ih y (h y (List.mem_cons_self ..)), ih2 (fun z hz => h z (List.mem_cons_of_mem _ hz))]
    rw [strip_eq x, strip_eq]
    simp only
    rw [key x.f5 (fun _ h => h)]
theorem its_equal : ∀ x y : Nd, ok26 x → ok26 y → ∃ k r, tree_Equal.f k x.f0 x.f1 x.f2 x.f3 x.f4 x.f5 x.f6 y.f0 y.f1 y.f2 y.f3 y.f4 y.f5 y.f6 = some r ∧ (r = true ↔ strip x = strip y) := by
  intro x
  induction x using tree_ind with
  | h x ih =>
    intro y hx hy
    obtain ⟨_, _, _, hlen, hmem, _⟩ := ok_inv hx
    obtain ⟨_, _, _, hleny, hmemy, _⟩ := ok_inv hy
    have no : (¬ strip x = strip y) → ∀ k, ∃ r, tree_Equal.j0 (k + 1) true x.f0 x.f1 x.f2 x.f3 x.f4 x.f5 x.f6 y.f0 y.f1 y.f2 y.f3 y.f4 y.f5 y.f6 = some r ∧ (r = true ↔ strip x = strip y) := by
      intro h k
      refine ⟨false, ?_, ?_⟩
      · rw [tree_Equal.j0, if_pos rfl]
      · constructor
        · intro h1; cases h1
        · intro h1; exact absurd h1 h
    have fin : ∀ b k r, (tree_Equal.f (k + 1) x.f0 x.f1 x.f2 x.f3 x.f4 x.f5 x.f6 y.f0 y.f1 y.f2 y.f3 y.f4 y.f5 y.f6 = tree_Equal.j0 k b x.f0 x.f1 x.f2 x.f3 x.f4 x.f5 x.f6 y.f0 y.f1 y.f2 y.f3 y.f4 y.f5 y.f6) → tree_Equal.j0 k b x.f0 x.f1 x.f2 x.f3 x.f4 x.f5 x.f6 y.f0 y.f1 y.f2 y.f3 y.f4 y.f5 y.f6 = some r → tree_Equal.f (k + 1) x.f0 x.f1 x.f2 x.f3 x.f4 x.f5 x.f6 y.f0 y.f1 y.f2 y.f3 y.f4 y.f5 y.f6 = some r := fun b k r h1 h2 => h1.trans h2
    by_cases c0 : x.f0 = y.f0
    case neg =>
      obtain ⟨r, h1, h2⟩ := no (by rw [strip_eq, strip_eq]; intro h; injection h with h; exact c0 h) 0
      exact ⟨2, r, by rw [tree_Equal.f, if_neg c0]; exact h1, h2⟩
    by_cases c1 : x.f1.toList = y.f1.toList
    case neg =>
      obtain ⟨r, h1, h2⟩ := no (by rw [strip_eq, strip_eq]; intro h; injection h with _ h; exact c1 (by rw [h])) 0
      exact ⟨2, r, by rw [tree_Equal.f, if_pos c0, if_neg c1]; exact h1, h2⟩
    by_cases c2 : x.f2 = y.f2
    case neg =>
      obtain ⟨r, h1, h2⟩ := no (by rw [strip_eq, strip_eq]; intro h; injection h with _ _ h; exact c2 h) 0
      exact ⟨2, r, by rw [tree_Equal.f, if_pos c0, if_pos c1, if_neg c2]; exact h1, h2⟩
    by_cases c3 : x.f3 = y.f3
    case neg =>
      obtain ⟨r, h1, h2⟩ := no (by rw [strip_eq, strip_eq]; intro h; injection h with _ _ _ h; exact c3 h) 0
      exact ⟨2, r, by rw [tree_Equal.f, if_pos c0, if_pos c1, if_pos c2, if_neg c3]; exact h1, h2⟩
    by_cases c4 : x.f4.toList = y.f4.toList
    case neg =>
      obtain ⟨r, h1, h2⟩ := no (by rw [strip_eq, strip_eq]; intro h; injection h with _ _ _ _ h; exact c4 (by rw [h])) 0
      exact ⟨2, r, by rw [tree_Equal.f, if_pos c0, if_pos c1, if_pos c2, if_pos c3, if_neg c4]; exact h1, h2⟩
    have hst : strip x = strip y ↔ stripL x.f5 = stripL y.f5 := by
      rw [strip_eq, strip_eq]
      constructor
      · intro h; injection h
      · intro h
        rw [c0, bl_inj.1 (toList_bl.1 c1), c2, c3, bl_inj.1 (toList_bl.1 c4), h]
    by_cases c5 : x.f5.length = y.f5.length
    case neg =>
      obtain ⟨r, h1, h2⟩ := no (by rw [hst]; intro h; have := congrArg List.length h; rw [stripL_len, stripL_len] at this; exact c5 this) 0
      have hb : ((x.f5.length : Int) != (y.f5.length : Int)) = true := by simp; omega
      exact ⟨2, r, by rw [tree_Equal.f, if_pos c0, if_pos c1, if_pos c2, if_pos c3, if_pos c4, hb]; exact h1, h2⟩
    have hb : ((x.f5.length : Int) != (y.f5.length : Int)) = false := by simp; omega
    have key : ∀ (ys zs : List Nd) (i : Nat), i ≤ x.f5.length → x.f5.drop i = ys → y.f5.drop i = zs → ∃ k r, tree_Equal.l0 k (x.f5.length : Int) (i : Int) x.f0 x.f1 x.f2 x.f3 x.f4 x.f5 x.f6 y.f0 y.f1 y.f2 y.f3 y.f4 y.f5 y.f6 = some r ∧ (r = true ↔ stripL ys = stripL zs) := by
      intro ys
      induction ys with
      | nil =>
        intro zs i hi h hz
        have := drop_end hi h
        rw [List.drop_of_length_le (by omega)] at hz
        subst hz
        exact ⟨1, true, by rw [tree_Equal.l0, if_neg (by omega)], by simp⟩
      | cons a ys ih2 =>
        intro zs i hi h hz
        obtain ⟨hlt, hrd, hnext, ha⟩ := drop_rd h
        cases zs with
        | nil => have := drop_end (by omega) hz; omega
        | cons b zs =>
          obtain ⟨hlt2, hrd2, hnext2, hb2⟩ := drop_rd hz
          obtain ⟨k1, r1, h1, g1⟩ := ih a ha b (hmem a ha) (hmemy b hb2)
          obtain ⟨k2, r2, h2, g2⟩ := ih2 zs (i + 1) (by omega) hnext hnext2
          simp only [stripL, List.cons.injEq]
          cases r1 with
          | false =>
            refine ⟨k1 + 1, false, ?_, ?_⟩
            · rw [tree_Equal.l0, if_pos (by omega), if_pos (by omega), if_pos (by omega), if_pos (by omega), hrd, hrd2, h1, Option.bind_some, if_neg (by decide)]
            · constructor
              · intro h; cases h
              · rintro ⟨h, _⟩; exact absurd (g1.2 h) (by decide)
          | true =>
            refine ⟨max k1 k2 + 1, r2, ?_, ?_⟩
            · rw [tree_Equal.l0, if_pos (by omega), if_pos (by omega), if_pos (by omega), if_pos (by omega), hrd, hrd2, more (fun k => tree_Equal.mono _ _ _ _ _ _ _ _ _ _ _ _ _ _ k) h1 (Nat.le_max_left k1 k2), Option.bind_some, if_pos rfl, nx (by omega), more (fun k => (tree_Equal.mono_l k).2.2 _ _ _ _ _ _ _ _ _ _ _ _ _ _ _ _) h2 (Nat.le_max_right k1 k2)]
            · rw [g2]
              exact ⟨fun h => ⟨g1.1 rfl, h⟩, fun h => h.2⟩
    obtain ⟨k, r, h1, h2⟩ := key x.f5 y.f5 0 (by omega) rfl rfl
    exact ⟨k + 2, r, by rw [tree_Equal.f, if_pos c0, if_pos c1, if_pos c2, if_pos c3, if_pos c4, hb, tree_Equal.j0, if_neg (by decide)]; exact h1, by rw [h2, hst]⟩
theorem ref_equal : ∀ x y : Nd, ok26 x → ok26 y → ∃ k r, latheref07_Equal.f k x.f0 x.f1 x.f2 x.f3 x.f4 x.f5 x.f6 y.f0 y.f1 y.f2 y.f3 y.f4 y.f5 y.f6 = some r ∧ (r = true ↔ strip x = strip y) := by
  intro x
  induction x using tree_ind with
  | h x ih =>
    intro y hx hy
    obtain ⟨_, _, _, hlen, hmem, _⟩ := ok_inv hx
    obtain ⟨_, _, _, hleny, hmemy, _⟩ := ok_inv hy
    have no : (¬ strip x = strip y) → ∀ k, ∃ r, latheref07_Equal.j0 (k + 1) true x.f0 x.f1 x.f2 x.f3 x.f4 x.f5 x.f6 y.f0 y.f1 y.f2 y.f3 y.f4 y.f5 y.f6 = some r ∧ (r = true ↔ strip x = strip y) := by
      intro h k
      refine ⟨false, ?_, ?_⟩
      · rw [latheref07_Equal.j0, if_pos rfl]
      · constructor
        · intro h1; cases h1
        · intro h1; exact absurd h1 h
    have fin : ∀ b k r, (latheref07_Equal.f (k + 1) x.f0 x.f1 x.f2 x.f3 x.f4 x.f5 x.f6 y.f0 y.f1 y.f2 y.f3 y.f4 y.f5 y.f6 = latheref07_Equal.j0 k b x.f0 x.f1 x.f2 x.f3 x.f4 x.f5 x.f6 y.f0 y.f1 y.f2 y.f3 y.f4 y.f5 y.f6) → latheref07_Equal.j0 k b x.f0 x.f1 x.f2 x.f3 x.f4 x.f5 x.f6 y.f0 y.f1 y.f2 y.f3 y.f4 y.f5 y.f6 = some r → latheref07_Equal.f (k + 1) x.f0 x.f1 x.f2 x.f3 x.f4 x.f5 x.f6 y.f0 y.f1 y.f2 y.f3 y.f4 y.f5 y.f6 = some r := fun b k r h1 h2 => h1.trans h2
    by_cases c0 : x.f0 = y.f0
    case neg =>
      obtain ⟨r, h1, h2⟩ := no (by rw [strip_eq, strip_eq]; intro h; injection h with h; exact c0 h) 0
      exact ⟨2, r, by rw [latheref07_Equal.f, if_neg c0]; exact h1, h2⟩
    by_cases c1 : x.f1.toList = y.f1.toList
    case neg =>
      obtain ⟨r, h1, h2⟩ := no (by rw [strip_eq, strip_eq]; intro h; injection h with _ h; exact c1 (by rw [h])) 0
      exact ⟨2, r, by rw [latheref07_Equal.f, if_pos c0, if_neg c1]; exact h1, h2⟩
    by_cases c2 : x.f2 = y.f2
    case neg =>
      obtain ⟨r, h1, h2⟩ := no (by rw [strip_eq, strip_eq]; intro h; injection h with _ _ h; exact c2 h) 0
      exact ⟨2, r, by rw [latheref07_Equal.f, if_pos c0, if_pos c1, if_neg c2]; exact h1, h2⟩
    by_cases c3 : x.f3 = y.f3
    case neg =>
      obtain ⟨r, h1, h2⟩ := no (by rw [strip_eq, strip_eq]; intro h; injection h with _ _ _ h; exact c3 h) 0
      exact ⟨2, r, by rw [latheref07_Equal.f, if_pos c0, if_pos c1, if_pos c2, if_neg c3]; exact h1, h2⟩
    by_cases c4 : x.f4.toList = y.f4.toList
    case neg =>
      obtain ⟨r, h1, h2⟩ := no (by rw [strip_eq, strip_eq]; intro h; injection h with _ _ _ _ h; exact c4 (by rw [h])) 0
      exact ⟨2, r, by rw [latheref07_Equal.f, if_pos c0, if_pos c1, if_pos c2, if_pos c3, if_neg c4]; exact h1, h2⟩
    have hst : strip x = strip y ↔ stripL x.f5 = stripL y.f5 := by
      rw [strip_eq, strip_eq]
      constructor
      · intro h; injection h
      · intro h
        rw [c0, bl_inj.1 (toList_bl.1 c1), c2, c3, bl_inj.1 (toList_bl.1 c4), h]
    by_cases c5 : x.f5.length = y.f5.length
    case neg =>
      obtain ⟨r, h1, h2⟩ := no (by rw [hst]; intro h; have := congrArg List.length h; rw [stripL_len, stripL_len] at this; exact c5 this) 0
      have hb : ((x.f5.length : Int) != (y.f5.length : Int)) = true := by simp; omega
      exact ⟨2, r, by rw [latheref07_Equal.f, if_pos c0, if_pos c1, if_pos c2, if_pos c3, if_pos c4, hb]; exact h1, h2⟩
    have hb : ((x.f5.length : Int) != (y.f5.length : Int)) = false := by simp; omega
    have key : ∀ (ys zs : List Nd) (i : Nat), i ≤ x.f5.length → x.f5.drop i = ys → y.f5.drop i = zs → ∃ k r, latheref07_Equal.l0 k (i : Int) x.f0 x.f1 x.f2 x.f3 x.f4 x.f5 x.f6 y.f0 y.f1 y.f2 y.f3 y.f4 y.f5 y.f6 = some r ∧ (r = true ↔ stripL ys = stripL zs) := by
      intro ys
      induction ys with
      | nil =>
        intro zs i hi h hz
        have := drop_end hi h
        rw [List.drop_of_length_le (by omega)] at hz
        subst hz
        exact ⟨1, true, by rw [latheref07_Equal.l0, if_neg (by omega)], by simp⟩
      | cons a ys ih2 =>
        intro zs i hi h hz
        obtain ⟨hlt, hrd, hnext, ha⟩ := drop_rd h
        cases zs with
        | nil => have := drop_end (by omega) hz; omega
        | cons b zs =>
          obtain ⟨hlt2, hrd2, hnext2, hb2⟩ := drop_rd hz
          obtain ⟨k1, r1, h1, g1⟩ := ih a ha b (hmem a ha) (hmemy b hb2)
          obtain ⟨k2, r2, h2, g2⟩ := ih2 zs (i + 1) (by omega) hnext hnext2
          simp only [stripL, List.cons.injEq]
          cases r1 with
          | false =>
            refine ⟨k1 + 1, false, ?_, ?_⟩
            · rw [latheref07_Equal.l0, if_pos (by omega), if_pos (by omega), if_pos (by omega), hrd, hrd2, h1, Option.bind_some, if_neg (by decide)]
            · constructor
              · intro h; cases h
              · rintro ⟨h, _⟩; exact absurd (g1.2 h) (by decide)
          | true =>
            refine ⟨max k1 k2 + 1, r2, ?_, ?_⟩
            · rw [latheref07_Equal.l0, if_pos (by omega), if_pos (by omega), if_pos (by omega), hrd, hrd2, more (fun k => latheref07_Equal.mono _ _ _ _ _ _ _ _ _ _ _ _ _ _ k) h1 (Nat.le_max_left k1 k2), Option.bind_some, if_pos rfl, nx (by omega), more (fun k => (latheref07_Equal.mono_l k).2.2 _ _ _ _ _ _ _ _ _ _ _ _ _ _ _) h2 (Nat.le_max_right k1 k2)]
            · rw [g2]
              exact ⟨fun h => ⟨g1.1 rfl, h⟩, fun h => h.2⟩
    obtain ⟨k, r, h1, h2⟩ := key x.f5 y.f5 0 (by omega) rfl rfl
    exact ⟨k + 2, r, by rw [latheref07_Equal.f, if_pos c0, if_pos c1, if_pos c2, if_pos c3, if_pos c4, hb, latheref07_Equal.j0, if_neg (by decide)]; exact h1, by rw [h2, hst]⟩
theorem room_is : ∀ x : Nd, ok26 x → ∀ left : Int, 0 ≤ left → left ≤ 1000000 → ∃ k, lathelaw07_room.f k x.f0 x.f1 x.f2 x.f3 x.f4 x.f5 x.f6 left = some (max (left - (cnt x : Int)) (-1)) := by
  intro x
  induction x using tree_ind with
  | h x ih =>
    intro hx left h0 hl
    obtain ⟨_, _, _, hlen, hmem, _⟩ := ok_inv hx
    have hcc := cnt_eq x
    have key : ∀ (ys : List Nd) (i : Nat) (left : Int), i ≤ x.f5.length → x.f5.drop i = ys → -1 ≤ left → left ≤ 1000000 → ∃ k, lathelaw07_room.l0 k left (i : Int) x.f0 x.f1 x.f2 x.f3 x.f4 x.f5 x.f6 = some (max (left - (cntL ys : Int)) (-1)) := by
      intro ys
      induction ys with
      | nil =>
        intro i left hi h hm _
        have := drop_end hi h
        refine ⟨1, ?_⟩
        rw [lathelaw07_room.l0, if_neg (by omega)]
        simp [cntL]; omega
      | cons y ys ih2 =>
        intro i left hi h hm hl
        obtain ⟨hlt, hrd, hnext, hy⟩ := drop_rd h
        by_cases h0 : 0 ≤ left
        · obtain ⟨k1, h1⟩ := ih y hy (hmem y hy) left h0 hl
          obtain ⟨k2, h2⟩ := ih2 (i + 1) (max (left - (cnt y : Int)) (-1)) (by omega) hnext (by omega) (by omega)
          refine ⟨max k1 k2 + 1, ?_⟩
          have e2 : wrap64 ((i : Int) + 1) = ((i + 1 : Nat) : Int) := by rw [wr64 _ (by omega) (by omega)]; omega
          rw [lathelaw07_room.l0, if_pos (by omega), if_pos h0, if_pos (by omega), hrd, more (fun k => lathelaw07_room.mono _ _ _ _ _ _ _ _ k) h1 (Nat.le_max_left k1 k2), Option.bind_some, e2, more (fun k => (lathelaw07_room.mono_l k).2 _ _ _ _ _ _ _ _ _) h2 (Nat.le_max_right k1 k2)]
          simp only [cntL]
          congr 1
          omega
        · refine ⟨1, ?_⟩
          rw [lathelaw07_room.l0, if_pos (by omega), if_neg (by omega)]
          congr 1
          omega
    obtain ⟨k, hk⟩ := key x.f5 0 (left - 1) (by omega) rfl (by omega) (by omega)
    refine ⟨k + 1, ?_⟩
    rw [lathelaw07_room.f, wr64 _ (by omega) (by omega), hcc]
    refine Eq.trans hk ?_
    congr 1
    omega
theorem big_is (x : Nd) (hx : ok26 x) : ∃ k, lathelaw07_big.f k x.f0 x.f1 x.f2 x.f3 x.f4 x.f5 x.f6 = some (decide (9000 < cnt x)) := by
  obtain ⟨k, hk⟩ := room_is x hx 9000 (by omega) (by omega)
  refine ⟨k, ?_⟩
  unfold lathelaw07_big.f
  rw [hk, Option.bind_some]
  congr 1
  simp only [decide_eq_decide]
  omega
theorem surely : lathelaw07_sure.f 40 = some true := by decide +kernel
theorem surely_k {k : Nat} (h : 40 ≤ k) : lathelaw07_sure.f k = some true := more lathelaw07_sure.mono surely h
theorem strip_ok : ∀ x : Nd, ok26 x → ok26 (strip x) := by
  have key : ∀ ys : List Nd, (∀ y ∈ ys, ok26 (strip y)) → ∀ z ∈ stripL ys, ok26 z := by
    intro ys
    induction ys with
    | nil => intro _ z hz; rw [stripL] at hz; cases hz
    | cons y ys ih =>
      intro h z hz
      rw [stripL] at hz
      rcases List.mem_cons.1 hz with rfl | hz
      · exact h y (List.mem_cons_self ..)
      · exact ih (fun w hw => h w (List.mem_cons_of_mem _ hw)) z hz
  intro x
  induction x using tree_ind with
  | h x ih =>
    intro hx
    cases hx with
    | mk _ h0 h1 h2 h3 h4 h5 g5 h6 =>
      rw [strip_eq]
      exact ok26.mk _ h0 h1 h2 h3 h4 (by show (stripL x.f5).length * _ ≤ _; rw [stripL_len]; exact h5) (key x.f5 (fun y hy => ih y hy (g5 y hy))) (by show (Lit.int .i64 0).wf = true; decide)
theorem equals_j (x y : Nd) (hx : ok26 x) (hy : ok26 y) (b : Bool) : ∃ k, lathelaw07_TreeEquals.j0 k b x.f0 x.f1 x.f2 x.f3 x.f4 x.f5 x.f6 y.f0 y.f1 y.f2 y.f3 y.f4 y.f5 y.f6 = some true := by
  cases b with
  | true =>
    refine ⟨41, ?_⟩
    rw [lathelaw07_TreeEquals.j0, if_pos rfl, surely]
    rfl
  | false =>
    obtain ⟨k1, r1, h1, e1⟩ := its_equal x y hx hy
    obtain ⟨k2, r2, h2, e2⟩ := ref_equal x y hx hy
    obtain ⟨k3, r3, h3, e3⟩ := its_equal y x hy hx
    obtain ⟨k4, h4⟩ := its_strip x hx
    obtain ⟨k5, r5, h5, e5⟩ := its_equal x (strip x) hx (strip_ok x hx)
    obtain ⟨k6, r6, h6, e6⟩ := its_equal y y hy hy
    have q1 : (r1 == r2) = true := by rw [beq_iff_eq, Bool.eq_iff_iff, e1, e2]
    have q3 : (r3 == r2) = true := by rw [beq_iff_eq, Bool.eq_iff_iff, e3, e2]; exact eq_comm
    have q5 : r5 = true := e5.2 (strip_strip x).symm
    have q6 : r6 = true := e6.2 rfl
    refine ⟨40 + k1 + k2 + k3 + k4 + k5 + k6 + 1, ?_⟩
    rw [lathelaw07_TreeEquals.j0, if_neg (by decide), more (fun k => tree_Equal.mono _ _ _ _ _ _ _ _ _ _ _ _ _ _ k) h1 (by omega), Option.bind_some, more (fun k => latheref07_Equal.mono _ _ _ _ _ _ _ _ _ _ _ _ _ _ k) h2 (by omega), Option.bind_some, if_pos q1,
      more (fun k => tree_Equal.mono _ _ _ _ _ _ _ _ _ _ _ _ _ _ k) h3 (by omega), Option.bind_some, Option.bind_some, if_pos q3, more (fun k => tree_Strip.mono _ _ _ _ _ _ _ k) h4 (by omega), Option.bind_some]
    dsimp only [tup]
    rw [more (fun k => tree_Equal.mono _ _ _ _ _ _ _ _ _ _ _ _ _ _ k) h5 (by omega), Option.bind_some, if_pos q5, more (fun k => tree_Equal.mono _ _ _ _ _ _ _ _ _ _ _ _ _ _ k) h6 (by omega), Option.bind_some, if_pos q6, surely_k (by omega)]
    rfl
theorem TreeEquals (x0 : S26) (x1 : S26) (b0 : ok26 x0) (b1 : ok26 x1) : ∃ k, lathelaw07_TreeEquals.f k (x0.f0) (x0.f1) (x0.f2) (x0.f3) (x0.f4) (x0.f5) (x0.f6) (x1.f0) (x1.f1) (x1.f2) (x1.f3) (x1.f4) (x1.f5) (x1.f6) = some true := by
  obtain ⟨kb, hb⟩ := big_is x0 b0
  obtain ⟨kc, hc⟩ := big_is x1 b1
  by_cases hbig : 9000 < cnt x0
  · obtain ⟨k1, h1⟩ := equals_j x0 x1 b0 b1 true
    refine ⟨max kb k1, ?_⟩
    unfold lathelaw07_TreeEquals.f
    rw [more (fun k => lathelaw07_big.mono _ _ _ _ _ _ _ k) hb (Nat.le_max_left _ _), Option.bind_some, if_pos (by simpa using hbig)]
    exact more (fun k => lathelaw07_TreeEquals.mono_l k _ _ _ _ _ _ _ _ _ _ _ _ _ _ _) h1 (Nat.le_max_right _ _)
  · obtain ⟨k1, h1⟩ := equals_j x0 x1 b0 b1 (decide (9000 < cnt x1))
    refine ⟨max kb (max kc k1), ?_⟩
    unfold lathelaw07_TreeEquals.f
    rw [more (fun k => lathelaw07_big.mono _ _ _ _ _ _ _ k) hb (Nat.le_max_left _ _), Option.bind_some, if_neg (by simpa using hbig), more (fun k => lathelaw07_big.mono _ _ _ _ _ _ _ k) hc (by omega), Option.bind_some]
    exact more (fun k => lathelaw07_TreeEquals.mono_l k _ _ _ _ _ _ _ _ _ _ _ _ _ _ _) h1 (by omega)
end Go.Proofs.Ytbfomjbencbmlaa.Pure
