/- Lean functions with the answers of the Go functions that the law reaches, proved to be just these answers. Conditions: those that each theorem names. -/
import Derived.Test.YtbfomjbencbmlaaQx0
import Derived.Test.YtbfomjbencbmlaaQx1
import Derived.Test.YtbfomjbencbmlaaQx7
import Derived.Test.YtbfomjbencbmlaaQx8
import Derived.Test.YtbfomjbencbmlaaQx14
namespace Go.Proofs.Ytbfomjbencbmlaa.Q
open Go.RowKit Go.Proofs.YtbfomjbencbmlaaW.PrintWords Go.Proofs.YtbfomjbencbmlaaW.PrintLast Go.Proofs.YtbfomjbencbmlaaW.PrintMore
attribute [local go_sem] max2_int min2_int max_two min_two max_three min_three max_four min_four   -- for this text's walks alone
set_option linter.unusedVariables false
set_option linter.unusedSimpArgs false

/-! ### latheref07_Find: function 28 -/
def latheref07_Find.l0 : Nat → List Int → Int → Int → ByteArray → Int → Int → ByteArray → List (S26) → Int → Option (Int × ByteArray × Int × Int × ByteArray × (List (S26)) × Int × Bool)
 | 0, _, _, _, _, _, _, _, _, _ => none
 | k + 1, x1, x6, x452000, x452001, x452002, x452003, x452004, x452005, x452006 => if x6 < (x1.length : Int) then (if 0 ≤ x6 then (if (rd x1 x6) < 0 then (some (0, (⟨#[]⟩ : ByteArray), 0, 0, (⟨#[]⟩ : ByteArray), ([] : List (S26)), 0, false)) else (if (rd x1 x6) ≥ (x452005.length : Int) then (some (0, (⟨#[]⟩ : ByteArray), 0, 0, (⟨#[]⟩ : ByteArray), ([] : List (S26)), 0, false)) else (if 0 ≤ (rd x1 x6) then (if (rd x1 x6) < (x452005.length : Int) then (latheref07_Find.l0 k x1 (wrap64 (x6 + 1)) ((rd_T26 x452005 (rd x1 x6)).f0) ((rd_T26 x452005 (rd x1 x6)).f1) ((rd_T26 x452005 (rd x1 x6)).f2) ((rd_T26 x452005 (rd x1 x6)).f3) ((rd_T26 x452005 (rd x1 x6)).f4) ((rd_T26 x452005 (rd x1 x6)).f5) ((rd_T26 x452005 (rd x1 x6)).f6)) else (none)) else (none)))) else (none)) else (some (x452000, x452001, x452002, x452003, x452004, x452005, x452006, true))
def latheref07_Find.f (k : Nat) (a0_0 : Int) (a0_1 : ByteArray) (a0_2 : Int) (a0_3 : Int) (a0_4 : ByteArray) (l0_5 : List (S26)) (a0_6 : Int) (l1 : List Int) : Option (Int × ByteArray × Int × Int × ByteArray × (List (S26)) × Int × Bool) := latheref07_Find.l0 k l1 0 a0_0 a0_1 a0_2 a0_3 a0_4 l0_5 a0_6
theorem latheref07_Find.mono_l : ∀ k, (∀ y0 y1 y2 y3 y4 y5 y6 y7 y8, LeO (latheref07_Find.l0 k y0 y1 y2 y3 y4 y5 y6 y7 y8) (latheref07_Find.l0 (k + 1) y0 y1 y2 y3 y4 y5 y6 y7 y8))
 | 0 => fun _ _ _ _ _ _ _ _ _ r h => by simp [latheref07_Find.l0] at h
 | k + 1 => by
  have ih0 := latheref07_Find.mono_l k
  ·intro y0 y1 y2 y3 y4 y5 y6 y7 y8
   unfold latheref07_Find.l0
   repeat' first
   | (with_reducible exact ih0 _ _ _ _ _ _ _ _ _)
   | (with_reducible exact LeO.refl _)
   | (with_reducible exact LeO.none _)
   | (with_reducible refine LeO.ite ?_ ?_)
   | (with_reducible refine LeO.bind ?_ (fun _ => ?_))
   | exact LeO.none _
   | refine LeO.ite ?_ ?_
   | refine LeO.bind ?_ (fun _ => ?_)
theorem latheref07_Find.mono : ∀ a0 a1 a2 a3 a4 a5 a6 a7 k, LeO (latheref07_Find.f k a0 a1 a2 a3 a4 a5 a6 a7) (latheref07_Find.f (k + 1) a0 a1 a2 a3 a4 a5 a6 a7) := by
 intro a0 a1 a2 a3 a4 a5 a6 a7 k
 have ih0 := latheref07_Find.mono_l k
 unfold latheref07_Find.f
 repeat' first
   | (with_reducible exact ih0 _ _ _ _ _ _ _ _ _)
   | (with_reducible exact LeO.refl _)
   | (with_reducible exact LeO.none _)
   | (with_reducible refine LeO.ite ?_ ?_)
   | (with_reducible refine LeO.bind ?_ (fun _ => ?_))
   | exact LeO.none _
   | refine LeO.ite ?_ ?_
   | refine LeO.bind ?_ (fun _ => ?_)
def latheref07_Find.T4 : Bool × List (List Nat × List Nat) := (true, [([], []), ([], []), ([0, 1], [0, 1]), ([2], [2]), ([3], [3]), ([4], [4]), ([5], [5]), ([5], [5]), ([6, 7, 5], [5, 6, 7]), ([8, 5], [5, 8]), ([5], [5]), ([10, 5], [5, 10]), ([11, 5], [5, 11]), ([9, 12, 5], [5, 9, 12]), ([5, 13], [5, 13])])
def latheref07_Find.B4 : List Nat := [0, 0, 3, 7, 15, 31, 63, 63, 255, 511, 63, 1087, 3135, 8191, 16383]
theorem latheref07_Find.tab4 : rtab .any (opsOf Try.f28 4) = latheref07_Find.T4 := by kernel_rfl
theorem latheref07_Find.bits4 : waitsOk latheref07_Find.T4.2 latheref07_Find.B4 = true := by kernel_rfl
def latheref07_Find.T6 : Bool × List (List Nat × List Nat) := (true, [([], []), ([0], [0]), ([], []), ([], []), ([2, 3], [2, 3]), ([4], [4]), ([1, 5], [1, 5]), ([6], [6]), ([7, 0, 1, 2, 3, 4, 5, 6, 7], [7])])
def latheref07_Find.B6 : List Nat := [0, 1, 0, 0, 12, 28, 63, 127, 255]
theorem latheref07_Find.tab6 : rtab .any (opsOf Try.f28 6) = latheref07_Find.T6 := by kernel_rfl
theorem latheref07_Find.bits6 : waitsOk latheref07_Find.T6.2 latheref07_Find.B6 = true := by kernel_rfl
set_option maxHeartbeats 8000000 in
set_option maxRecDepth 100000 in
theorem latheref07_Find.calls (k : Nat) (a0_0 : Int) (a0_1 : ByteArray) (a0_2 : Int) (a0_3 : Int) (a0_4 : ByteArray) (P0_5_ : Nat → Prop) (A0_5 : Option Addr) (c0_5 : Nat) (l0_5 : List (S26)) (a0_6 : Int) (A1 : Option Addr) (c1 : Nat) (l1 : List Int) (r1 : Int) (r2 : ByteArray) (r3 : Int) (r4 : Int) (r5 : ByteArray) (r6 : List (S26)) (r7 : Int) (r8 : Bool) (w : World) (hs0_5 : Kd.V k26 26 w w.heap.size (fun k_ => P0_5_ k_) (.slice A0_5 l0_5.length c0_5) l0_5) (hr1 : Kd.C (Kd.int .i64) w A1 l1.length l1) (hc1 : l1.length ≤ c1) (h : latheref07_Find.f k a0_0 a0_1 a0_2 a0_3 a0_4 l0_5 a0_6 l1 = some (r1, r2, r3, r4, r5, r6, r7, r8)) :
  Calls Try.prog 28 #[.agg #[.int .i64 a0_0, .string a0_1, .int .u32 a0_2, .int .i64 a0_3, .string a0_4, .slice A0_5 l0_5.length c0_5, .int .i64 a0_6], .slice A1 l1.length c1] w fun e w' => ∃ v5_ : Value, e = .returned (.tuple #[.agg #[.int .i64 r1, .string r2, .int .u32 r3, .int .i64 r4, .string r5, v5_, .int .i64 r7], .bool r8]) ∧ Kd.V k26 26 w' w.heap.size (fun k_ => (P0_5_ k_ ∨ w.heap.size ≤ k_)) v5_ r6 ∧ Below w.heap.size w w' := by
 have hu26 := Try.underlying26
 have HO0_5 := Aside0.mk (show Kd.V k26 26 w w.heap.size (fun k_ => (P0_5_ k_ ∨ w.heap.size ≤ k_)) (.slice A0_5 l0_5.length c0_5) l0_5 from Kd.V_mono hs0_5 (fun k_ hk => .inl hk))
 have HR1 := Aside0.mk hr1
 have HC1 := Aside0.mk hc1
 clear hr1 hc1
 have HB := Aside0.mk (Below.refl w.heap.size w)
 have H : (latheref07_Find.l0 k l1 0 a0_0 a0_1 a0_2 a0_3 a0_4 l0_5 a0_6) = some (r1, r2, r3, r4, r5, r6, r7, r8) := h
 clear h
 have H' := Aside0.mk H
 clear H
 go_enter Try.func28, Try.ntmps28
 go_wp2_with (first | ((with_reducible refine gate_dst (N := 2) rfl ?_); (try (refine gate_guard (by rfl) ?_; dsimp only)); refine box_event ?hg (N := 2) ?hd (cs := #[.int .i64 a0_0, .string a0_1, .int .u32 a0_2, .int .i64 a0_3, .string a0_4, .slice A0_5 l0_5.length c0_5, .int .i64 a0_6]) (t := 26) ?hr ?_; (case hd => rfl); (case hg => rfl); (case hr => first | (go_simp; done) | (go_simp; rfl)); intro gb451 hg w3 hbox hb; replace HO0_5 := Aside0.mk (Kd.V_below (Kd.V_elderB (by (with_reducible repeat (first | apply Kd.V_alloc | apply Kd.V_drewN | apply Kd.V_drew)); exact HO0_5.out) gb451 (Nat.le_of_eq hg.symm)) hb); have BK451 := Aside0.mk (hbox); have GW451 := Aside0.mk ((by rw [hg]; exact (below_size (by repeat (first | (with_reducible first | exact HB.out | apply below_alloc | apply pw_below_drewN | apply below_drew1) | exact HB.out))) : w.heap.size ≤ gb451)); have GE451 := Aside0.mk ((by rw [hg]; exact (below_size (by repeat (first | (with_reducible first | exact HB.out | apply below_alloc | apply pw_below_drewN | apply below_drew1) | exact HB.out))) : w.heap.size ≤ gb451)); replace HB := Aside0.mk (below_step (by repeat (first | (with_reducible first | exact HB.out | apply below_alloc | apply pw_below_drewN | apply below_drew1) | exact HB.out)) hb); clear hb hbox hg) | ((with_reducible refine gate_dst (N := 4) rfl ?_); (try (refine gate_guard (by rfl) ?_; dsimp only)); refine box_event ?hg (N := 4) ?hd (cs := #[.int .i64 0, .string (⟨#[]⟩ : ByteArray), .int .u32 0, .int .i64 0, .string (⟨#[]⟩ : ByteArray), .slice none 0 0, .int .i64 0]) (t := 26) ?hr ?_; (case hd => rfl); (case hg => rfl); (case hr => first | (go_simp; done) | (go_simp; rfl)); intro gb452 hg w4 hbox hb; replace HO0_5 := Aside0.mk (Kd.V_below (Kd.V_elderB (by (with_reducible repeat (first | apply Kd.V_alloc | apply Kd.V_drewN | apply Kd.V_drew)); exact HO0_5.out) gb452 (Nat.le_of_eq hg.symm)) hb); have BK452 := Aside0.mk (hbox); have GW452 := Aside0.mk ((by rw [hg]; exact (below_size (by repeat (first | (with_reducible first | exact HB.out | apply below_alloc | apply pw_below_drewN | apply below_drew1 | refine below_set ?_ GE451.out) | exact HB.out))) : w.heap.size ≤ gb452)); have GE452 := Aside0.mk ((by rw [hg]; exact (below_size (by repeat (first | (with_reducible first | exact HB.out | apply below_alloc | apply pw_below_drewN | apply below_drew1 | refine below_set ?_ GE451.out) | exact HB.out))) : w.heap.size ≤ gb452)); replace HB := Aside0.mk (below_step (by repeat (first | (with_reducible first | exact HB.out | apply below_alloc | apply pw_below_drewN | apply below_drew1 | refine below_set ?_ GE451.out) | exact HB.out)) hb); have NB451_452 := Aside0.mk ((by rw [hg]; exact Nat.ne_of_lt (blk_lt (by (with_reducible repeat (first | refine blk_drewN ?_ _ | refine blk_drew ?_ | refine blk_alloc ?_ _)); exact BK451.out)) : gb451 ≠ gb452)); have NB452_451 := Aside0.mk ((by rw [hg]; exact Nat.ne_of_gt (blk_lt (by (with_reducible repeat (first | refine blk_drewN ?_ _ | refine blk_drew ?_ | refine blk_alloc ?_ _)); exact BK451.out)) : gb452 ≠ gb451)); replace BK451 := Aside0.mk (blk_below (by (with_reducible repeat (first | refine blk_drewN ?_ _ | refine blk_drew ?_ | refine blk_alloc ?_ _)); exact BK451.out) hb); clear hb hbox hg))
 go_loopg [6] k (fun kq v6 w' => ∃ (x6_1 : Int) (x452000_1 : Int) (x452001_1 : ByteArray) (x452002_1 : Int) (x452003_1 : Int) (x452004_1 : ByteArray) (x452005_1 : List (S26)) (x452006_1 : Int) (x453000_1 : Int) (x453001_1 : ByteArray) (x453002_1 : Int) (x453003_1 : Int) (x453004_1 : ByteArray) (x453006_1 : Int) (u452005 : Value), v6 = .int .i64 x6_1 ∧ Aside0 (latheref07_Find.l0 kq l1 x6_1 x452000_1 x452001_1 x452002_1 x452003_1 x452004_1 x452005_1 x452006_1 = some (r1, r2, r3, r4, r5, r6, r7, r8)) ∧ Aside0 (kq ≤ k) ∧ Aside0 (Kd.V k26 26 w' w.heap.size (fun k_ => (P0_5_ k_ ∨ w.heap.size ≤ k_) ∧ k_ ≠ gb451 ∧ k_ ≠ gb452) u452005 x452005_1) ∧ Aside0 (w'.heap[gb451]? = some (.cells #[.int .i64 x452000_1, .string x452001_1, .int .u32 x452002_1, .int .i64 x452003_1, .string x452004_1, u452005, .int .i64 x452006_1] 26 (0, 0))) ∧ Aside0 (w'.heap[gb452]? = some (.cells #[.int .i64 x453000_1, .string x453001_1, .int .u32 x453002_1, .int .i64 x453003_1, .string x453004_1, (.slice none 0 0), .int .i64 x453006_1] 26 (0, 0))) ∧ Aside0 (Below w.heap.size w w'))
 case atStart => exact ⟨(0), (a0_0), (a0_1), (a0_2), (a0_3), (a0_4), (l0_5), (a0_6), (0), ((⟨#[]⟩ : ByteArray)), (0), (0), ((⟨#[]⟩ : ByteArray)), (0), (.slice A0_5 l0_5.length c0_5), (by first | rfl | (simp; done) | (simp [*]; done) | (simp; exact (fun l : List UInt8 => (by cases l <;> rfl : l.isEmpty = !(l != []))) _)), H', ⟨Nat.le_refl _⟩, ⟨by (with_reducible repeat (first | apply Kd.V_alloc | apply Kd.V_drewN | apply Kd.V_drew)); exact Kd.V_mono HO0_5.out (fun _ hk => ⟨hk.1.1, ⟨hk.1.2, hk.2⟩⟩)⟩, ⟨by (with_reducible repeat (first | refine blk_drewN ?_ _ | refine blk_drew ?_ | refine blk_alloc ?_ _)); exact BK451.out⟩, ⟨by (with_reducible repeat (first | refine blk_drewN ?_ _ | refine blk_drew ?_ | refine blk_alloc ?_ _)); exact BK452.out⟩, ⟨by repeat (first | (with_reducible first | exact HB.out | apply below_alloc | apply pw_below_drewN | apply below_drew1 | refine below_set ?_ GE451.out | refine below_set ?_ GE452.out) | exact HB.out)⟩⟩
 case round =>
  clear H'
  try clear c1
  try clear c2
  try clear p2
  obtain ⟨x6_1, x452000_1, x452001_1, x452002_1, x452003_1, x452004_1, x452005_1, x452006_1, x453000_1, x453001_1, x453002_1, x453003_1, x453004_1, x453006_1, u452005, rfl, HA, HK1, HO_452005, BK451, BK452, HB⟩ := hrel
  cases gk with
  | zero => exact absurd HA.out (by simp [latheref07_Find.l0])
  | succ k1 =>
   have H := HA.out
   clear HA
   simp only [latheref07_Find.l0] at H
   by_cases c5 : x6_1 < (l1.length : Int)
   ·rw [if_pos c5] at H
    have c5b0 : decide (x6_1 < (l1.length : Int)) = true := decide_eq_true c5
    clear c5
    by_cases c6 : 0 ≤ x6_1
    case neg => rw [if_neg c6] at H; exact absurd H (by simp)
    rw [if_pos c6] at H
    have c6b0 : decide (0 ≤ x6_1) = true := decide_eq_true c6
    clear c6
    by_cases c7 : (rd l1 x6_1) < 0
    ·rw [if_pos c7] at H
     have c7b0 : decide ((rd l1 x6_1) < 0) = true := decide_eq_true c7
     clear c7
     simp only [Option.some.injEq, Prod.mk.injEq] at H
     obtain ⟨rfl, rfl, rfl, rfl, rfl, rfl, rfl, rfl⟩ := H
     try go_wp2
     replace HO_452005 := Aside0.mk (Kd.V_drew HO_452005.out)
     replace BK451 := Aside0.mk (blk_drew BK451.out)
     replace BK452 := Aside0.mk (blk_drew BK452.out)
     replace HB := Aside0.mk (below_drew1 HB.out)
     have p453 : 0 ≤ (x6_1 : Int) := of_decide_eq_true (by first | (with_reducible assumption) | assumption)
     have q453 : x6_1 < (l1.length : Int) := of_decide_eq_true (by first | (with_reducible assumption) | assumption)
     obtain ⟨ad453, e453, hx453_0⟩ := Kd.at_int HR1.out x6_1 p453 q453
     have hw453_0 := hx453_0
     cases e453
     replace hx453_0 := (HB.out.cell (World.block_lt_of_cell? w _ hx453_0)).trans hx453_0
     replace p453 := eq_true p453
     replace q453 := eq_true q453
     refine start_ (n := 15) (S := fun w' => w'.cell? (ad453.add (x6_1).toNat) = some (.int .i64 (rd l1 x6_1))) (ds := []) #[false, false, false, false, false, false, false, false, false, false, false, false, false, false, false] (by kernel_rfl) rfl rfl (((HB.out.cell (World.block_lt_of_cell? w _ hw453_0)).trans hw453_0)) (fun hHeld => ?_); refine with_tabW latheref07_Find.tab4 latheref07_Find.bits4 (fun HT_ HW_ => ?_)
     generalize wr.drew = w8 at HO_452005 BK451 BK452 HB hx453_0 hHeld ⊢
     refine pure_ (i := 0) (N := some 13) (v := ?_) (a' := ?_) (bq true [1, 14]).toArray rfl rfl (any_of HT_.out (by kernel_rfl)) (fun _ _ _ h => h) (Or.inl ⟨by rfl, ?_⟩) ?_ ?_
     rotate_left
     ·intro w'
      go_simp
      with_reducible rfl
     rotate_left
     ·simp only [Act.put, List.setIfInBounds_toArray, List.set_cons_zero, List.set_cons_succ, i64_w, i32_w]
      rfl
     refine pure_ (i := 1) (N := some 14) (v := ?_) (a' := ?_) (bq true [2, 13]).toArray rfl rfl (any_of HT_.out (by kernel_rfl)) (fun _ _ _ h => h) (Or.inl ⟨by rfl, ?_⟩) ?_ ?_
     rotate_left
     ·intro w'
      go_simp
      with_reducible rfl
     rotate_left
     ·simp only [Act.put, List.setIfInBounds_toArray, List.set_cons_zero, List.set_cons_succ, i64_w, i32_w]
      rfl
     refine pure_ (i := 2) (N := some 15) (v := ?_) (a' := ?_) (bq true [3, 12]).toArray rfl rfl (any_of HT_.out (by kernel_rfl)) (fun _ _ _ h => h) (Or.inl ⟨by rfl, ?_⟩) ?_ ?_
     rotate_left
     ·intro w'
      go_simp
      with_reducible rfl
     rotate_left
     ·simp only [Act.put, List.setIfInBounds_toArray, List.set_cons_zero, List.set_cons_succ, i64_w, i32_w]
      rfl
     refine take_ (i := 3) (N := some 16) (v := ?_) (a' := ?_) (bq true [4, 11]).toArray rfl rfl (take_ofW HT_.out HW_.out (by kernel_rfl)) (fun _ _ _ h => h) (Or.inl ⟨by rfl, ?_⟩) hHeld ?_ ?_
     rotate_left
     ·intro w' s0
      go_simp
      with_reducible rfl
     rotate_left
     ·simp only [Act.put, List.setIfInBounds_toArray, List.set_cons_zero, List.set_cons_succ, i64_w, i32_w]
      rfl
     refine pure_ (i := 4) (N := some 17) (v := ?_) (a' := ?_) (bq true [5, 10]).toArray rfl rfl (any_of HT_.out (by kernel_rfl)) (fun _ _ _ h => h) (Or.inl ⟨by rfl, ?_⟩) ?_ ?_
     rotate_left
     ·intro w'
      go_simp
      with_reducible rfl
     rotate_left
     ·simp only [Act.put, List.setIfInBounds_toArray, List.set_cons_zero, List.set_cons_succ, i64_w, i32_w]
      rfl
     refine pure_ (i := 5) (N := some 18) (v := ?_) (a' := ?_) (bq true [6, 9]).toArray rfl rfl (any_of HT_.out (by kernel_rfl)) (fun _ _ _ h => h) (Or.inl ⟨by rfl, ?_⟩) ?_ ?_
     rotate_left
     ·intro w'
      go_simp
      with_reducible rfl
     rotate_left
     ·simp only [Act.put, List.setIfInBounds_toArray, List.set_cons_zero, List.set_cons_succ, i64_w, i32_w]
      rfl
     refine pure_ (i := 6) (N := some 19) (v := undef) (a' := ?_) #[true, true, true, true, true, true, true, false, false, false, false, false, false, false, false] rfl rfl (any_of HT_.out (by kernel_rfl)) (fun _ _ _ h => h) (Or.inr ⟨by rfl, rfl⟩) ?_ ?_
     rotate_left
     ·simp only [Act.put, List.setIfInBounds_toArray, List.set_cons_zero, List.set_cons_succ, i64_w, i32_w]
      rfl
     refine pure_ (i := 7) (N := some 20) (v := undef) (a' := ?_) #[true, true, true, true, true, true, true, true, false, false, false, false, false, false, false] rfl rfl (any_of HT_.out (by kernel_rfl)) (fun _ _ _ h => h) (Or.inr ⟨by rfl, rfl⟩) ?_ ?_
     rotate_left
     ·simp only [Act.put, List.setIfInBounds_toArray, List.set_cons_zero, List.set_cons_succ, i64_w, i32_w]
      rfl
     refine pure_ (i := 8) (N := some 21) (v := undef) (a' := ?_) #[true, true, true, true, true, true, true, true, true, false, false, false, false, false, false] rfl rfl (any_of HT_.out (by kernel_rfl)) (fun _ _ _ h => h) (Or.inr ⟨by rfl, rfl⟩) ?_ ?_
     rotate_left
     ·simp only [Act.put, List.setIfInBounds_toArray, List.set_cons_zero, List.set_cons_succ, i64_w, i32_w]
      rfl
     refine pure_ (i := 9) (N := some 22) (v := undef) (a' := ?_) #[true, true, true, true, true, true, true, true, true, true, false, false, false, false, false] rfl rfl (any_of HT_.out (by kernel_rfl)) (fun _ _ _ h => h) (Or.inr ⟨by rfl, rfl⟩) ?_ ?_
     rotate_left
     ·simp only [Act.put, List.setIfInBounds_toArray, List.set_cons_zero, List.set_cons_succ, i64_w, i32_w]
      rfl
     refine pure_ (i := 10) (N := some 23) (v := undef) (a' := ?_) #[true, true, true, true, true, true, true, true, true, true, true, false, false, false, false] rfl rfl (any_of HT_.out (by kernel_rfl)) (fun _ _ _ h => h) (Or.inr ⟨by rfl, rfl⟩) ?_ ?_
     rotate_left
     ·simp only [Act.put, List.setIfInBounds_toArray, List.set_cons_zero, List.set_cons_succ, i64_w, i32_w]
      rfl
     refine pure_ (i := 11) (N := some 24) (v := undef) (a' := ?_) #[true, true, true, true, true, true, true, true, true, true, true, true, false, false, false] rfl rfl (any_of HT_.out (by kernel_rfl)) (fun _ _ _ h => h) (Or.inr ⟨by rfl, rfl⟩) ?_ ?_
     rotate_left
     ·simp only [Act.put, List.setIfInBounds_toArray, List.set_cons_zero, List.set_cons_succ, i64_w, i32_w]
      rfl
     refine pure_ (i := 12) (N := some 25) (v := undef) (a' := ?_) #[true, true, true, true, true, true, true, true, true, true, true, true, true, false, false] rfl rfl (any_of HT_.out (by kernel_rfl)) (fun _ _ _ h => h) (Or.inr ⟨by rfl, rfl⟩) ?_ ?_
     rotate_left
     ·simp only [Act.put, List.setIfInBounds_toArray, List.set_cons_zero, List.set_cons_succ, i64_w, i32_w]
      rfl
     refine pure_ (i := 13) (N := some 26) (v := undef) (a' := ?_) #[true, true, true, true, true, true, true, true, true, true, true, true, true, true, false] rfl rfl (any_of HT_.out (by kernel_rfl)) (fun _ _ _ h => h) (Or.inr ⟨by rfl, rfl⟩) ?_ ?_
     rotate_left
     ·simp only [Act.put, List.setIfInBounds_toArray, List.set_cons_zero, List.set_cons_succ, i64_w, i32_w]
      rfl
     refine pure_ (i := 14) (N := some 27) (v := ?_) (a' := ?_) (bq true [15]).toArray rfl rfl (any_of HT_.out (by kernel_rfl)) (fun _ _ _ h => h) (Or.inl ⟨by rfl, ?_⟩) ?_ ?_
     rotate_left
     ·intro w'
      go_simp
      with_reducible rfl
     rotate_left
     ·simp only [Act.put, List.setIfInBounds_toArray, List.set_cons_zero, List.set_cons_succ, i64_w, i32_w]
      rfl
     refine done_ (done_of HT_.out (by kernel_rfl)) ?_
     have hnb9 := NB452_451.out
     have hnc9 := NB451_452.out
     obtain ⟨hcz10_0, hcz10_1, hcz10_2, hcz10_3, hcz10_4, hcz10_5, hcz10_6, hfz10_0, hfz10_1, hfz10_2, hfz10_3, hfz10_4, hfz10_5, hfz10_6⟩ := blk7 BK452.out
     try go_wp2
     refine bodyPost_ret (results_ct rfl _ _ gb452 26 #[.int .i64 0, .string (⟨#[]⟩ : ByteArray), .int .u32 0, .int .i64 0, .string (⟨#[]⟩ : ByteArray), .slice none 0 0, .int .i64 0] (0, 0) _ rfl (by (with_reducible repeat (first | refine blk_drewN ?_ _ | refine blk_drew ?_ | refine blk_alloc ?_ _)); refine blk_put (cs := #[.int .i64 0, .string (⟨#[]⟩ : ByteArray), .int .u32 0, .int .i64 0, .string (⟨#[]⟩ : ByteArray), .slice none 0 0, .int .i64 x453006_1]) ?_ 6 _ rfl; refine blk_put (cs := #[.int .i64 0, .string (⟨#[]⟩ : ByteArray), .int .u32 0, .int .i64 0, .string (⟨#[]⟩ : ByteArray), .slice none 0 0, .int .i64 x453006_1]) ?_ 5 _ rfl; refine blk_put (cs := #[.int .i64 0, .string (⟨#[]⟩ : ByteArray), .int .u32 0, .int .i64 0, .string x453004_1, .slice none 0 0, .int .i64 x453006_1]) ?_ 4 _ rfl; refine blk_put (cs := #[.int .i64 0, .string (⟨#[]⟩ : ByteArray), .int .u32 0, .int .i64 x453003_1, .string x453004_1, .slice none 0 0, .int .i64 x453006_1]) ?_ 3 _ rfl; refine blk_put (cs := #[.int .i64 0, .string (⟨#[]⟩ : ByteArray), .int .u32 x453002_1, .int .i64 x453003_1, .string x453004_1, .slice none 0 0, .int .i64 x453006_1]) ?_ 2 _ rfl; refine blk_put (cs := #[.int .i64 0, .string x453001_1, .int .u32 x453002_1, .int .i64 x453003_1, .string x453004_1, .slice none 0 0, .int .i64 x453006_1]) ?_ 1 _ rfl; refine blk_put (cs := #[.int .i64 x453000_1, .string x453001_1, .int .u32 x453002_1, .int .i64 x453003_1, .string x453004_1, .slice none 0 0, .int .i64 x453006_1]) ?_ 0 _ rfl; (with_reducible repeat (first | refine blk_drewN ?_ _ | refine blk_drew ?_ | refine blk_alloc ?_ _)); exact BK452.out) Try.underlying26 rfl (by kernel_rfl)) rfl ?_
     exact ⟨_, by first | rfl | (simp [errW_none, errW_some] <;> rfl) | (simp [*, errW_none, errW_some] <;> rfl), (by first | exact Kd.V_nil _ _ _ _ _ | exact Kd.V_mono (Kd.R_V (by first | exact Kd.R_nil _ _ _ _ _ | exact Kd.N_nil _ _ _ _ _ | exact Kd.V_nil _ _ _ _ _ | exact Kd.Q_nil _ _ _ _ _ | exact Kd.S_nil _ _ _ _ _)) (fun k_ hk => by first | exact ⟨(.inr (hk.1)), hk.2⟩ | exact (.inr (hk)))), by repeat (first | (with_reducible first | exact HB.out | apply below_alloc | apply pw_below_drewN | apply below_drew1 | refine below_set ?_ GE451.out | refine below_set ?_ GE452.out) | exact HB.out)⟩
    ·rw [if_neg c7] at H
     have c7b0 : decide ((rd l1 x6_1) < 0) = false := decide_eq_false c7
     clear c7
     by_cases c11 : (rd l1 x6_1) ≥ (x452005_1.length : Int)
     ·rw [if_pos c11] at H
      have c11b0 : decide ((x452005_1.length : Int) ≤ (rd l1 x6_1)) = true := decide_eq_true c11
      clear c11
      simp only [Option.some.injEq, Prod.mk.injEq] at H
      obtain ⟨rfl, rfl, rfl, rfl, rfl, rfl, rfl, rfl⟩ := H
      try go_wp2
      replace HO_452005 := Aside0.mk (Kd.V_drew HO_452005.out)
      replace BK451 := Aside0.mk (blk_drew BK451.out)
      replace BK452 := Aside0.mk (blk_drew BK452.out)
      replace HB := Aside0.mk (below_drew1 HB.out)
      have p453 : 0 ≤ (x6_1 : Int) := of_decide_eq_true (by first | (with_reducible assumption) | assumption)
      have q453 : x6_1 < (l1.length : Int) := of_decide_eq_true (by first | (with_reducible assumption) | assumption)
      obtain ⟨ad453, e453, hx453_0⟩ := Kd.at_int HR1.out x6_1 p453 q453
      have hw453_0 := hx453_0
      cases e453
      replace hx453_0 := (HB.out.cell (World.block_lt_of_cell? w _ hx453_0)).trans hx453_0
      replace p453 := eq_true p453
      replace q453 := eq_true q453
      have p454 : 0 ≤ (x6_1 : Int) := of_decide_eq_true (by first | (with_reducible assumption) | assumption)
      have q454 : x6_1 < (l1.length : Int) := of_decide_eq_true (by first | (with_reducible assumption) | assumption)
      obtain ⟨ad454, e454, hx454_0⟩ := Kd.at_int HR1.out x6_1 p454 q454
      have hw454_0 := hx454_0
      obtain rfl : ad453 = ad454 := (by injection e454)
      replace hx454_0 := (HB.out.cell (World.block_lt_of_cell? w _ hx454_0)).trans hx454_0
      replace p454 := eq_true p454
      replace q454 := eq_true q454
      obtain ⟨Ao13, co13, eo13⟩ := Kd.V_slice HO_452005.out
      (first | subst eo13 | (injection eo13 with f1_ f2_ f3_; have f4_ := f1_.symm; have f5_ := f3_.symm; clear f1_ f2_ f3_; subst f4_; subst f5_))
      refine start_ (n := 15) (S := fun w' => w'.cell? ⟨gb451, 0, none⟩ = some (.int .i64 x452000_1) ∧ w'.cell? ⟨gb451, 1, none⟩ = some (.string x452001_1) ∧ w'.cell? ⟨gb451, 2, none⟩ = some (.int .u32 x452002_1) ∧ w'.cell? ⟨gb451, 3, none⟩ = some (.int .i64 x452003_1) ∧ w'.cell? ⟨gb451, 4, none⟩ = some (.string x452004_1) ∧ w'.cell? ⟨gb451, 5, none⟩ = some (.slice Ao13 x452005_1.length co13) ∧ w'.cell? ⟨gb451, 6, none⟩ = some (.int .i64 x452006_1) ∧ w'.cell? (ad453.add (x6_1).toNat) = some (.int .i64 (rd l1 x6_1)) ∧ w'.cell? (ad453.add (x6_1).toNat) = some (.int .i64 (rd l1 x6_1))) (ds := []) #[false, false, false, false, false, false, false, false, false, false, false, false, false, false, false] (by kernel_rfl) rfl rfl ⟨(blk_cell BK451.out 0).trans rfl, (blk_cell BK451.out 1).trans rfl, (blk_cell BK451.out 2).trans rfl, (blk_cell BK451.out 3).trans rfl, (blk_cell BK451.out 4).trans rfl, (blk_cell BK451.out 5).trans rfl, (blk_cell BK451.out 6).trans rfl, ((HB.out.cell (World.block_lt_of_cell? w _ hw453_0)).trans hw453_0), ((HB.out.cell (World.block_lt_of_cell? w _ hw454_0)).trans hw454_0)⟩ (fun hHeld => ?_); refine with_tabW latheref07_Find.tab4 latheref07_Find.bits4 (fun HT_ HW_ => ?_)
      generalize wr.drew = w12 at HO_452005 BK451 BK452 HB hx453_0 hx454_0 hHeld ⊢
      refine pure_ (i := 0) (N := some 13) (v := ?_) (a' := ?_) (bq true [1, 14]).toArray rfl rfl (any_of HT_.out (by kernel_rfl)) (fun _ _ _ h => h) (Or.inl ⟨by rfl, ?_⟩) ?_ ?_
      rotate_left
      ·intro w'
       go_simp
       with_reducible rfl
      rotate_left
      ·simp only [Act.put, List.setIfInBounds_toArray, List.set_cons_zero, List.set_cons_succ, i64_w, i32_w]
       rfl
      refine pure_ (i := 1) (N := some 14) (v := ?_) (a' := ?_) (bq true [2, 13]).toArray rfl rfl (any_of HT_.out (by kernel_rfl)) (fun _ _ _ h => h) (Or.inl ⟨by rfl, ?_⟩) ?_ ?_
      rotate_left
      ·intro w'
       go_simp
       with_reducible rfl
      rotate_left
      ·simp only [Act.put, List.setIfInBounds_toArray, List.set_cons_zero, List.set_cons_succ, i64_w, i32_w]
       rfl
      refine pure_ (i := 2) (N := some 15) (v := ?_) (a' := ?_) (bq true [3, 12]).toArray rfl rfl (any_of HT_.out (by kernel_rfl)) (fun _ _ _ h => h) (Or.inl ⟨by rfl, ?_⟩) ?_ ?_
      rotate_left
      ·intro w'
       go_simp
       with_reducible rfl
      rotate_left
      ·simp only [Act.put, List.setIfInBounds_toArray, List.set_cons_zero, List.set_cons_succ, i64_w, i32_w]
       rfl
      refine take_ (i := 3) (N := some 16) (v := ?_) (a' := ?_) (bq true [4, 11]).toArray rfl rfl (take_ofW HT_.out HW_.out (by kernel_rfl)) (fun _ _ _ h => h) (Or.inl ⟨by rfl, ?_⟩) hHeld ?_ ?_
      rotate_left
      ·rintro w' ⟨s0, s1, s2, s3, s4, s5, s6, s7, s8⟩
       go_simp
       with_reducible rfl
      rotate_left
      ·simp only [Act.put, List.setIfInBounds_toArray, List.set_cons_zero, List.set_cons_succ, i64_w, i32_w]
       rfl
      refine pure_ (i := 4) (N := some 17) (v := ?_) (a' := ?_) (bq true [5, 10]).toArray rfl rfl (any_of HT_.out (by kernel_rfl)) (fun _ _ _ h => h) (Or.inl ⟨by rfl, ?_⟩) ?_ ?_
      rotate_left
      ·intro w'
       go_simp
       with_reducible rfl
      rotate_left
      ·simp only [Act.put, List.setIfInBounds_toArray, List.set_cons_zero, List.set_cons_succ, i64_w, i32_w]
       rfl
      refine pure_ (i := 5) (N := some 18) (v := ?_) (a' := ?_) (bq true [6, 9]).toArray rfl rfl (any_of HT_.out (by kernel_rfl)) (fun _ _ _ h => h) (Or.inl ⟨by rfl, ?_⟩) ?_ ?_
      rotate_left
      ·intro w'
       go_simp
       with_reducible rfl
      rotate_left
      ·simp only [Act.put, List.setIfInBounds_toArray, List.set_cons_zero, List.set_cons_succ, i64_w, i32_w]
       rfl
      refine pure_ (i := 6) (N := some 19) (v := ?_) (a' := ?_) (bq true [7, 8]).toArray rfl rfl (any_of HT_.out (by kernel_rfl)) (fun _ _ _ h => h) (Or.inl ⟨by rfl, ?_⟩) ?_ ?_
      rotate_left
      ·intro w'
       go_simp
       with_reducible rfl
      rotate_left
      ·simp only [Act.put, List.setIfInBounds_toArray, List.set_cons_zero, List.set_cons_succ, i64_w, i32_w]
       rfl
      refine pure_ (i := 7) (N := some 20) (v := ?_) (a' := ?_) (bq true [8, 7]).toArray rfl rfl (any_of HT_.out (by kernel_rfl)) (fun _ _ _ h => h) (Or.inl ⟨by rfl, ?_⟩) ?_ ?_
      rotate_left
      ·intro w'
       go_simp
       with_reducible rfl
      rotate_left
      ·simp only [Act.put, List.setIfInBounds_toArray, List.set_cons_zero, List.set_cons_succ, i64_w, i32_w]
       rfl
      refine pure_ (i := 8) (N := some 21) (v := ?_) (a' := ?_) (bq true [9, 6]).toArray rfl rfl (any_of HT_.out (by kernel_rfl)) (fun _ _ _ h => h) (Or.inl ⟨by rfl, ?_⟩) ?_ ?_
      rotate_left
      ·intro w'
       go_simp
       with_reducible rfl
      rotate_left
      ·simp only [Act.put, List.setIfInBounds_toArray, List.set_cons_zero, List.set_cons_succ, i64_w, i32_w]
       rfl
      refine pure_ (i := 10) (N := some 23) (v := ?_) (a' := ?_) (bq true [9, 1, 1, 4]).toArray rfl rfl (any_of HT_.out (by kernel_rfl)) (fun _ _ _ h => h) (Or.inl ⟨by rfl, ?_⟩) ?_ ?_
      rotate_left
      ·intro w'
       go_simp
       with_reducible rfl
      rotate_left
      ·simp only [Act.put, List.setIfInBounds_toArray, List.set_cons_zero, List.set_cons_succ, i64_w, i32_w]
       rfl
      refine take_ (i := 9) (N := some 22) (v := ?_) (a' := ?_) (bq true [11, 4]).toArray rfl rfl (take_ofW HT_.out HW_.out (by kernel_rfl)) (fun _ _ _ h => h) (Or.inl ⟨by rfl, ?_⟩) hHeld ?_ ?_
      rotate_left
      ·rintro w' ⟨s0, s1, s2, s3, s4, s5, s6, s7, s8⟩
       go_simp
       with_reducible rfl
      rotate_left
      ·simp only [Act.put, List.setIfInBounds_toArray, List.set_cons_zero, List.set_cons_succ, i64_w, i32_w]
       rfl
      refine take_ (i := 11) (N := some 24) (v := ?_) (a' := ?_) (bq true [12, 3]).toArray rfl rfl (take_ofW HT_.out HW_.out (by kernel_rfl)) (fun _ _ _ h => h) (Or.inl ⟨by rfl, ?_⟩) hHeld ?_ ?_
      rotate_left
      ·rintro w' ⟨s0, s1, s2, s3, s4, s5, s6, s7, s8⟩
       go_simp
       with_reducible rfl
      rotate_left
      ·simp only [Act.put, List.setIfInBounds_toArray, List.set_cons_zero, List.set_cons_succ, i64_w, i32_w]
       rfl
      refine pure_ (i := 12) (N := some 25) (v := ?_) (a' := ?_) (bq true [13, 2]).toArray rfl rfl (any_of HT_.out (by kernel_rfl)) (fun _ _ _ h => h) (Or.inl ⟨by rfl, ?_⟩) ?_ ?_
      rotate_left
      ·intro w'
       go_simp
       with_reducible rfl
      rotate_left
      ·simp only [Act.put, List.setIfInBounds_toArray, List.set_cons_zero, List.set_cons_succ, i64_w, i32_w]
       rfl
      refine pure_ (i := 13) (N := some 26) (v := ?_) (a' := ?_) (bq true [14, 1]).toArray rfl rfl (any_of HT_.out (by kernel_rfl)) (fun _ _ _ h => h) (Or.inl ⟨by rfl, ?_⟩) ?_ ?_
      rotate_left
      ·intro w'
       go_simp
       with_reducible rfl
      rotate_left
      ·simp only [Act.put, List.setIfInBounds_toArray, List.set_cons_zero, List.set_cons_succ, i64_w, i32_w]
       rfl
      refine pure_ (i := 14) (N := some 27) (v := ?_) (a' := ?_) (bq true [15]).toArray rfl rfl (any_of HT_.out (by kernel_rfl)) (fun _ _ _ h => h) (Or.inl ⟨by rfl, ?_⟩) ?_ ?_
      rotate_left
      ·intro w'
       go_simp
       with_reducible rfl
      rotate_left
      ·simp only [Act.put, List.setIfInBounds_toArray, List.set_cons_zero, List.set_cons_succ, i64_w, i32_w]
       rfl
      refine done_ (done_of HT_.out (by kernel_rfl)) ?_
      have hnb14 := NB452_451.out
      have hnc14 := NB451_452.out
      obtain ⟨hcz15_0, hcz15_1, hcz15_2, hcz15_3, hcz15_4, hcz15_5, hcz15_6, hfz15_0, hfz15_1, hfz15_2, hfz15_3, hfz15_4, hfz15_5, hfz15_6⟩ := blk7 BK452.out
      try go_wp2
      refine bodyPost_ret (results_ct rfl _ _ gb452 26 #[.int .i64 0, .string (⟨#[]⟩ : ByteArray), .int .u32 0, .int .i64 0, .string (⟨#[]⟩ : ByteArray), .slice none 0 0, .int .i64 0] (0, 0) _ rfl (by (with_reducible repeat (first | refine blk_drewN ?_ _ | refine blk_drew ?_ | refine blk_alloc ?_ _)); refine blk_put (cs := #[.int .i64 0, .string (⟨#[]⟩ : ByteArray), .int .u32 0, .int .i64 0, .string (⟨#[]⟩ : ByteArray), .slice none 0 0, .int .i64 x453006_1]) ?_ 6 _ rfl; refine blk_put (cs := #[.int .i64 0, .string (⟨#[]⟩ : ByteArray), .int .u32 0, .int .i64 0, .string (⟨#[]⟩ : ByteArray), .slice none 0 0, .int .i64 x453006_1]) ?_ 5 _ rfl; refine blk_put (cs := #[.int .i64 0, .string (⟨#[]⟩ : ByteArray), .int .u32 0, .int .i64 0, .string x453004_1, .slice none 0 0, .int .i64 x453006_1]) ?_ 4 _ rfl; refine blk_put (cs := #[.int .i64 0, .string (⟨#[]⟩ : ByteArray), .int .u32 0, .int .i64 x453003_1, .string x453004_1, .slice none 0 0, .int .i64 x453006_1]) ?_ 3 _ rfl; refine blk_put (cs := #[.int .i64 0, .string (⟨#[]⟩ : ByteArray), .int .u32 x453002_1, .int .i64 x453003_1, .string x453004_1, .slice none 0 0, .int .i64 x453006_1]) ?_ 2 _ rfl; refine blk_put (cs := #[.int .i64 0, .string x453001_1, .int .u32 x453002_1, .int .i64 x453003_1, .string x453004_1, .slice none 0 0, .int .i64 x453006_1]) ?_ 1 _ rfl; refine blk_put (cs := #[.int .i64 x453000_1, .string x453001_1, .int .u32 x453002_1, .int .i64 x453003_1, .string x453004_1, .slice none 0 0, .int .i64 x453006_1]) ?_ 0 _ rfl; (with_reducible repeat (first | refine blk_drewN ?_ _ | refine blk_drew ?_ | refine blk_alloc ?_ _)); exact BK452.out) Try.underlying26 rfl (by kernel_rfl)) rfl ?_
      exact ⟨_, by first | rfl | (simp [errW_none, errW_some] <;> rfl) | (simp [*, errW_none, errW_some] <;> rfl), (by first | exact Kd.V_nil _ _ _ _ _ | exact Kd.V_mono (Kd.R_V (by first | exact Kd.R_nil _ _ _ _ _ | exact Kd.N_nil _ _ _ _ _ | exact Kd.V_nil _ _ _ _ _ | exact Kd.Q_nil _ _ _ _ _ | exact Kd.S_nil _ _ _ _ _)) (fun k_ hk => by first | exact ⟨(.inr (hk.1)), hk.2⟩ | exact (.inr (hk)))), by repeat (first | (with_reducible first | exact HB.out | apply below_alloc | apply pw_below_drewN | apply below_drew1 | refine below_set ?_ GE451.out | refine below_set ?_ GE452.out) | exact HB.out)⟩
     ·rw [if_neg c11] at H
      have c11b0 : decide ((x452005_1.length : Int) ≤ (rd l1 x6_1)) = false := decide_eq_false c11
      clear c11
      by_cases c16 : 0 ≤ (rd l1 x6_1)
      case neg => rw [if_neg c16] at H; exact absurd H (by simp)
      rw [if_pos c16] at H
      have c16b0 : decide (0 ≤ (rd l1 x6_1)) = true := decide_eq_true c16
      clear c16
      by_cases c17 : (rd l1 x6_1) < (x452005_1.length : Int)
      case neg => rw [if_neg c17] at H; exact absurd H (by simp)
      rw [if_pos c17] at H
      have c17b0 : decide ((rd l1 x6_1) < (x452005_1.length : Int)) = true := decide_eq_true c17
      clear c17
      have H' := Aside0.mk H
      clear H
      try go_wp2
      replace HO_452005 := Aside0.mk (Kd.V_drew HO_452005.out)
      replace BK451 := Aside0.mk (blk_drew BK451.out)
      replace BK452 := Aside0.mk (blk_drew BK452.out)
      replace HB := Aside0.mk (below_drew1 HB.out)
      have p453 : 0 ≤ (x6_1 : Int) := of_decide_eq_true (by first | (with_reducible assumption) | assumption)
      have q453 : x6_1 < (l1.length : Int) := of_decide_eq_true (by first | (with_reducible assumption) | assumption)
      obtain ⟨ad453, e453, hx453_0⟩ := Kd.at_int HR1.out x6_1 p453 q453
      have hw453_0 := hx453_0
      cases e453
      replace hx453_0 := (HB.out.cell (World.block_lt_of_cell? w _ hx453_0)).trans hx453_0
      replace p453 := eq_true p453
      replace q453 := eq_true q453
      have p454 : 0 ≤ (x6_1 : Int) := of_decide_eq_true (by first | (with_reducible assumption) | assumption)
      have q454 : x6_1 < (l1.length : Int) := of_decide_eq_true (by first | (with_reducible assumption) | assumption)
      obtain ⟨ad454, e454, hx454_0⟩ := Kd.at_int HR1.out x6_1 p454 q454
      have hw454_0 := hx454_0
      obtain rfl : ad453 = ad454 := (by injection e454)
      replace hx454_0 := (HB.out.cell (World.block_lt_of_cell? w _ hx454_0)).trans hx454_0
      replace p454 := eq_true p454
      replace q454 := eq_true q454
      obtain ⟨Ao19, co19, eo19⟩ := Kd.V_slice HO_452005.out
      (first | subst eo19 | (injection eo19 with f1_ f2_ f3_; have f4_ := f1_.symm; have f5_ := f3_.symm; clear f1_ f2_ f3_; subst f4_; subst f5_))
      refine start_ (n := 15) (S := fun w' => w'.cell? ⟨gb451, 0, none⟩ = some (.int .i64 x452000_1) ∧ w'.cell? ⟨gb451, 1, none⟩ = some (.string x452001_1) ∧ w'.cell? ⟨gb451, 2, none⟩ = some (.int .u32 x452002_1) ∧ w'.cell? ⟨gb451, 3, none⟩ = some (.int .i64 x452003_1) ∧ w'.cell? ⟨gb451, 4, none⟩ = some (.string x452004_1) ∧ w'.cell? ⟨gb451, 5, none⟩ = some (.slice Ao19 x452005_1.length co19) ∧ w'.cell? ⟨gb451, 6, none⟩ = some (.int .i64 x452006_1) ∧ w'.cell? (ad453.add (x6_1).toNat) = some (.int .i64 (rd l1 x6_1)) ∧ w'.cell? (ad453.add (x6_1).toNat) = some (.int .i64 (rd l1 x6_1))) (ds := []) #[false, false, false, false, false, false, false, false, false, false, false, false, false, false, false] (by kernel_rfl) rfl rfl ⟨(blk_cell BK451.out 0).trans rfl, (blk_cell BK451.out 1).trans rfl, (blk_cell BK451.out 2).trans rfl, (blk_cell BK451.out 3).trans rfl, (blk_cell BK451.out 4).trans rfl, (blk_cell BK451.out 5).trans rfl, (blk_cell BK451.out 6).trans rfl, ((HB.out.cell (World.block_lt_of_cell? w _ hw453_0)).trans hw453_0), ((HB.out.cell (World.block_lt_of_cell? w _ hw454_0)).trans hw454_0)⟩ (fun hHeld => ?_); refine with_tabW latheref07_Find.tab4 latheref07_Find.bits4 (fun HT_ HW_ => ?_)
      generalize wr.drew = w18 at HO_452005 BK451 BK452 HB hx453_0 hx454_0 hHeld ⊢
      refine pure_ (i := 0) (N := some 13) (v := ?_) (a' := ?_) (bq true [1, 14]).toArray rfl rfl (any_of HT_.out (by kernel_rfl)) (fun _ _ _ h => h) (Or.inl ⟨by rfl, ?_⟩) ?_ ?_
      rotate_left
      ·intro w'
       go_simp
       with_reducible rfl
      rotate_left
      ·simp only [Act.put, List.setIfInBounds_toArray, List.set_cons_zero, List.set_cons_succ, i64_w, i32_w]
       rfl
      refine pure_ (i := 1) (N := some 14) (v := ?_) (a' := ?_) (bq true [2, 13]).toArray rfl rfl (any_of HT_.out (by kernel_rfl)) (fun _ _ _ h => h) (Or.inl ⟨by rfl, ?_⟩) ?_ ?_
      rotate_left
      ·intro w'
       go_simp
       with_reducible rfl
      rotate_left
      ·simp only [Act.put, List.setIfInBounds_toArray, List.set_cons_zero, List.set_cons_succ, i64_w, i32_w]
       rfl
      refine pure_ (i := 2) (N := some 15) (v := ?_) (a' := ?_) (bq true [3, 12]).toArray rfl rfl (any_of HT_.out (by kernel_rfl)) (fun _ _ _ h => h) (Or.inl ⟨by rfl, ?_⟩) ?_ ?_
      rotate_left
      ·intro w'
       go_simp
       with_reducible rfl
      rotate_left
      ·simp only [Act.put, List.setIfInBounds_toArray, List.set_cons_zero, List.set_cons_succ, i64_w, i32_w]
       rfl
      refine take_ (i := 3) (N := some 16) (v := ?_) (a' := ?_) (bq true [4, 11]).toArray rfl rfl (take_ofW HT_.out HW_.out (by kernel_rfl)) (fun _ _ _ h => h) (Or.inl ⟨by rfl, ?_⟩) hHeld ?_ ?_
      rotate_left
      ·rintro w' ⟨s0, s1, s2, s3, s4, s5, s6, s7, s8⟩
       go_simp
       with_reducible rfl
      rotate_left
      ·simp only [Act.put, List.setIfInBounds_toArray, List.set_cons_zero, List.set_cons_succ, i64_w, i32_w]
       rfl
      refine pure_ (i := 4) (N := some 17) (v := ?_) (a' := ?_) (bq true [5, 10]).toArray rfl rfl (any_of HT_.out (by kernel_rfl)) (fun _ _ _ h => h) (Or.inl ⟨by rfl, ?_⟩) ?_ ?_
      rotate_left
      ·intro w'
       go_simp
       with_reducible rfl
      rotate_left
      ·simp only [Act.put, List.setIfInBounds_toArray, List.set_cons_zero, List.set_cons_succ, i64_w, i32_w]
       rfl
      refine pure_ (i := 5) (N := some 18) (v := ?_) (a' := ?_) (bq true [6, 9]).toArray rfl rfl (any_of HT_.out (by kernel_rfl)) (fun _ _ _ h => h) (Or.inl ⟨by rfl, ?_⟩) ?_ ?_
      rotate_left
      ·intro w'
       go_simp
       with_reducible rfl
      rotate_left
      ·simp only [Act.put, List.setIfInBounds_toArray, List.set_cons_zero, List.set_cons_succ, i64_w, i32_w]
       rfl
      refine pure_ (i := 6) (N := some 19) (v := ?_) (a' := ?_) (bq true [7, 8]).toArray rfl rfl (any_of HT_.out (by kernel_rfl)) (fun _ _ _ h => h) (Or.inl ⟨by rfl, ?_⟩) ?_ ?_
      rotate_left
      ·intro w'
       go_simp
       with_reducible rfl
      rotate_left
      ·simp only [Act.put, List.setIfInBounds_toArray, List.set_cons_zero, List.set_cons_succ, i64_w, i32_w]
       rfl
      refine pure_ (i := 7) (N := some 20) (v := ?_) (a' := ?_) (bq true [8, 7]).toArray rfl rfl (any_of HT_.out (by kernel_rfl)) (fun _ _ _ h => h) (Or.inl ⟨by rfl, ?_⟩) ?_ ?_
      rotate_left
      ·intro w'
       go_simp
       with_reducible rfl
      rotate_left
      ·simp only [Act.put, List.setIfInBounds_toArray, List.set_cons_zero, List.set_cons_succ, i64_w, i32_w]
       rfl
      refine pure_ (i := 8) (N := some 21) (v := ?_) (a' := ?_) (bq true [9, 6]).toArray rfl rfl (any_of HT_.out (by kernel_rfl)) (fun _ _ _ h => h) (Or.inl ⟨by rfl, ?_⟩) ?_ ?_
      rotate_left
      ·intro w'
       go_simp
       with_reducible rfl
      rotate_left
      ·simp only [Act.put, List.setIfInBounds_toArray, List.set_cons_zero, List.set_cons_succ, i64_w, i32_w]
       rfl
      refine pure_ (i := 10) (N := some 23) (v := ?_) (a' := ?_) (bq true [9, 1, 1, 4]).toArray rfl rfl (any_of HT_.out (by kernel_rfl)) (fun _ _ _ h => h) (Or.inl ⟨by rfl, ?_⟩) ?_ ?_
      rotate_left
      ·intro w'
       go_simp
       with_reducible rfl
      rotate_left
      ·simp only [Act.put, List.setIfInBounds_toArray, List.set_cons_zero, List.set_cons_succ, i64_w, i32_w]
       rfl
      refine take_ (i := 9) (N := some 22) (v := ?_) (a' := ?_) (bq true [11, 4]).toArray rfl rfl (take_ofW HT_.out HW_.out (by kernel_rfl)) (fun _ _ _ h => h) (Or.inl ⟨by rfl, ?_⟩) hHeld ?_ ?_
      rotate_left
      ·rintro w' ⟨s0, s1, s2, s3, s4, s5, s6, s7, s8⟩
       go_simp
       with_reducible rfl
      rotate_left
      ·simp only [Act.put, List.setIfInBounds_toArray, List.set_cons_zero, List.set_cons_succ, i64_w, i32_w]
       rfl
      refine take_ (i := 11) (N := some 24) (v := ?_) (a' := ?_) (bq true [12, 3]).toArray rfl rfl (take_ofW HT_.out HW_.out (by kernel_rfl)) (fun _ _ _ h => h) (Or.inl ⟨by rfl, ?_⟩) hHeld ?_ ?_
      rotate_left
      ·rintro w' ⟨s0, s1, s2, s3, s4, s5, s6, s7, s8⟩
       go_simp
       with_reducible rfl
      rotate_left
      ·simp only [Act.put, List.setIfInBounds_toArray, List.set_cons_zero, List.set_cons_succ, i64_w, i32_w]
       rfl
      refine pure_ (i := 12) (N := some 25) (v := ?_) (a' := ?_) (bq true [13, 2]).toArray rfl rfl (any_of HT_.out (by kernel_rfl)) (fun _ _ _ h => h) (Or.inl ⟨by rfl, ?_⟩) ?_ ?_
      rotate_left
      ·intro w'
       go_simp
       with_reducible rfl
      rotate_left
      ·simp only [Act.put, List.setIfInBounds_toArray, List.set_cons_zero, List.set_cons_succ, i64_w, i32_w]
       rfl
      refine pure_ (i := 13) (N := some 26) (v := ?_) (a' := ?_) (bq true [14, 1]).toArray rfl rfl (any_of HT_.out (by kernel_rfl)) (fun _ _ _ h => h) (Or.inl ⟨by rfl, ?_⟩) ?_ ?_
      rotate_left
      ·intro w'
       go_simp
       with_reducible rfl
      rotate_left
      ·simp only [Act.put, List.setIfInBounds_toArray, List.set_cons_zero, List.set_cons_succ, i64_w, i32_w]
       rfl
      refine pure_ (i := 14) (N := some 27) (v := ?_) (a' := ?_) (bq true [15]).toArray rfl rfl (any_of HT_.out (by kernel_rfl)) (fun _ _ _ h => h) (Or.inl ⟨by rfl, ?_⟩) ?_ ?_
      rotate_left
      ·intro w'
       go_simp
       with_reducible rfl
      rotate_left
      ·simp only [Act.put, List.setIfInBounds_toArray, List.set_cons_zero, List.set_cons_succ, i64_w, i32_w]
       rfl
      refine done_ (done_of HT_.out (by kernel_rfl)) ?_
      try go_wp2
      replace HO_452005 := Aside0.mk (Kd.V_drew HO_452005.out)
      replace BK451 := Aside0.mk (blk_drew BK451.out)
      replace BK452 := Aside0.mk (blk_drew BK452.out)
      replace HB := Aside0.mk (below_drew1 HB.out)
      have p455 : 0 ≤ (x6_1 : Int) := of_decide_eq_true (by first | (with_reducible assumption) | assumption)
      have q455 : x6_1 < (l1.length : Int) := of_decide_eq_true (by first | (with_reducible assumption) | assumption)
      obtain ⟨ad455, e455, hx455_0⟩ := Kd.at_int HR1.out x6_1 p455 q455
      have hw455_0 := hx455_0
      obtain rfl : ad453 = ad455 := (by injection e455)
      replace hx455_0 := (HB.out.cell (World.block_lt_of_cell? w _ hx455_0)).trans hx455_0
      replace p455 := eq_true p455
      replace q455 := eq_true q455
      have p456 : 0 ≤ ((rd l1 x6_1) : Int) := of_decide_eq_true (by first | (with_reducible assumption) | assumption)
      have q456 : (rd l1 x6_1) < (x452005_1.length : Int) := of_decide_eq_true (by first | (with_reducible assumption) | assumption)
      obtain ⟨ad456, A456_5, c456_5, e456, hx456_0, hx456_1, hx456_2, hx456_3, hx456_4, hx456_5, hx456_6, hl456_5, hi456_5⟩ := at_T26 (Kd.V_reads' HO_452005.out).2.2 (rd l1 x6_1) p456 q456
      cases e456
      obtain ⟨ce456, hce456, hMe456, hcc456⟩ := Kd.V_get HO_452005.out z26 (rd l1 x6_1) p456 (by first | exact q456 | exact of_decide_eq_true (by first | (with_reducible assumption) | assumption) | (have e_ := (Kd.V_reads' HO_452005.out).1; omega))
      obtain ⟨ua456_5, uc456_5, rfl, ul456_5, ge456_5⟩ := k26_openF hMe456
      have hv456_5 := hcc456 5 _ rfl
      rw [add_field _ _ 5 (by omega)] at hv456_5
      replace hv456_5 := Option.some.inj (hv456_5.symm.trans hx456_5)
      injection hv456_5 with hva_ hvn_ hvc_
      rw [hva_] at ge456_5
      rw [hvc_] at ul456_5
      have HL456_5 := Aside0.mk (show Kd.V k26 26 _ w.heap.size _ _ ((rd_T26 x452005_1 (rd l1 x6_1)).f5) from Kd.V_mk ul456_5 ge456_5)
      clear hva_ hvn_ hvc_ ge456_5 ul456_5
      clear hcc456 hce456
      have HR456_5 := Aside0.mk hi456_5
      have HC456_5 := Aside0.mk hl456_5
      clear hi456_5 hl456_5
      replace p456 := eq_true p456
      replace q456 := eq_true q456
      refine start_ (n := 9) (S := fun w' => w'.cell? ⟨gb451, 0, none⟩ = some (.int .i64 x452000_1) ∧ w'.cell? ⟨gb451, 1, none⟩ = some (.string x452001_1) ∧ w'.cell? ⟨gb451, 2, none⟩ = some (.int .u32 x452002_1) ∧ w'.cell? ⟨gb451, 3, none⟩ = some (.int .i64 x452003_1) ∧ w'.cell? ⟨gb451, 4, none⟩ = some (.string x452004_1) ∧ w'.cell? ⟨gb451, 5, none⟩ = some (.slice (some ad456) x452005_1.length co19) ∧ w'.cell? ⟨gb451, 6, none⟩ = some (.int .i64 x452006_1) ∧ w'.cell? (ad453.add (x6_1).toNat) = some (.int .i64 (rd l1 x6_1)) ∧ w'.cell? (ad456.add (((rd l1 x6_1)).toNat * 7)) = some (.int .i64 ((rd_T26 x452005_1 (rd l1 x6_1)).f0)) ∧ w'.cell? ⟨(ad456.add (((rd l1 x6_1)).toNat * 7)).block, (ad456.add (((rd l1 x6_1)).toNat * 7)).off + 1, none⟩ = some (.string ((rd_T26 x452005_1 (rd l1 x6_1)).f1)) ∧ w'.cell? ⟨(ad456.add (((rd l1 x6_1)).toNat * 7)).block, (ad456.add (((rd l1 x6_1)).toNat * 7)).off + 2, none⟩ = some (.int .u32 ((rd_T26 x452005_1 (rd l1 x6_1)).f2)) ∧ w'.cell? ⟨(ad456.add (((rd l1 x6_1)).toNat * 7)).block, (ad456.add (((rd l1 x6_1)).toNat * 7)).off + 3, none⟩ = some (.int .i64 ((rd_T26 x452005_1 (rd l1 x6_1)).f3)) ∧ w'.cell? ⟨(ad456.add (((rd l1 x6_1)).toNat * 7)).block, (ad456.add (((rd l1 x6_1)).toNat * 7)).off + 4, none⟩ = some (.string ((rd_T26 x452005_1 (rd l1 x6_1)).f4)) ∧ w'.cell? ⟨(ad456.add (((rd l1 x6_1)).toNat * 7)).block, (ad456.add (((rd l1 x6_1)).toNat * 7)).off + 5, none⟩ = some (.slice A456_5 ((rd_T26 x452005_1 (rd l1 x6_1)).f5).length c456_5) ∧ w'.cell? ⟨(ad456.add (((rd l1 x6_1)).toNat * 7)).block, (ad456.add (((rd l1 x6_1)).toNat * 7)).off + 6, none⟩ = some (.int .i64 ((rd_T26 x452005_1 (rd l1 x6_1)).f6))) (ds := [8]) #[false, false, false, false, false, false, false, false, false] (by kernel_rfl) rfl rfl ⟨(blk_cell BK451.out 0).trans rfl, (blk_cell BK451.out 1).trans rfl, (blk_cell BK451.out 2).trans rfl, (blk_cell BK451.out 3).trans rfl, (blk_cell BK451.out 4).trans rfl, (blk_cell BK451.out 5).trans rfl, (blk_cell BK451.out 6).trans rfl, ((HB.out.cell (World.block_lt_of_cell? w _ hw455_0)).trans hw455_0), hx456_0, hx456_1, hx456_2, hx456_3, hx456_4, hx456_5, hx456_6⟩ (fun hHeld => ?_); refine with_tabW latheref07_Find.tab6 latheref07_Find.bits6 (fun HT_ HW_ => ?_)
      generalize w18.drew = w20 at HO_452005 BK451 BK452 HB HL456_5 HR456_5 hx455_0 hx456_0 hx456_1 hx456_2 hx456_3 hx456_4 hx456_5 hx456_6 hHeld ⊢
      refine pure_ (i := 0) (N := some 29) (v := ?_) (a' := ?_) (bq true [1, 8]).toArray rfl rfl (any_of HT_.out (by kernel_rfl)) (fun _ _ _ h => h) (Or.inl ⟨by rfl, ?_⟩) ?_ ?_
      rotate_left
      ·intro w'
       go_simp
       with_reducible rfl
      rotate_left
      ·simp only [Act.put, List.setIfInBounds_toArray, List.set_cons_zero, List.set_cons_succ, i64_w, i32_w]
       rfl
      refine pure_ (i := 2) (N := some 31) (v := ?_) (a' := ?_) (bq true [1, 1, 1, 6]).toArray rfl rfl (any_of HT_.out (by kernel_rfl)) (fun _ _ _ h => h) (Or.inl ⟨by rfl, ?_⟩) ?_ ?_
      rotate_left
      ·intro w'
       go_simp
       with_reducible rfl
      rotate_left
      ·simp only [Act.put, List.setIfInBounds_toArray, List.set_cons_zero, List.set_cons_succ, i64_w, i32_w]
       rfl
      refine pure_ (i := 3) (N := some 32) (v := ?_) (a' := ?_) (bq true [1, 1, 2, 5]).toArray rfl rfl (any_of HT_.out (by kernel_rfl)) (fun _ _ _ h => h) (Or.inl ⟨by rfl, ?_⟩) ?_ ?_
      rotate_left
      ·intro w'
       go_simp
       with_reducible rfl
      rotate_left
      ·simp only [Act.put, List.setIfInBounds_toArray, List.set_cons_zero, List.set_cons_succ, i64_w, i32_w]
       rfl
      refine pure_ (i := 4) (N := some 33) (v := ?_) (a' := ?_) (bq true [1, 1, 3, 4]).toArray rfl rfl (any_of HT_.out (by kernel_rfl)) (fun _ _ _ h => h) (Or.inl ⟨by rfl, ?_⟩) ?_ ?_
      rotate_left
      ·intro w'
       go_simp
       with_reducible rfl
      rotate_left
      ·simp only [Act.put, List.setIfInBounds_toArray, List.set_cons_zero, List.set_cons_succ, i64_w, i32_w]
       rfl
      refine take_ (i := 1) (N := some 30) (v := ?_) (a' := ?_) (bq true [5, 4]).toArray rfl rfl (take_ofW HT_.out HW_.out (by kernel_rfl)) (fun _ _ _ h => h) (Or.inl ⟨by rfl, ?_⟩) hHeld ?_ ?_
      rotate_left
      ·rintro w' ⟨s0, s1, s2, s3, s4, s5, s6, s7, s8, s9, s10, s11, s12, s13, s14⟩
       go_simp
       with_reducible rfl
      rotate_left
      ·simp only [Act.put, List.setIfInBounds_toArray, List.set_cons_zero, List.set_cons_succ, i64_w, i32_w]
       rfl
      refine take_ (i := 5) (N := some 34) (v := ?_) (a' := ?_) (bq true [6, 3]).toArray rfl rfl (take_ofW HT_.out HW_.out (by kernel_rfl)) (fun _ _ _ h => h) (Or.inl ⟨by rfl, ?_⟩) hHeld ?_ ?_
      rotate_left
      ·rintro w' ⟨s0, s1, s2, s3, s4, s5, s6, s7, s8, s9, s10, s11, s12, s13, s14⟩
       go_simp
       with_reducible rfl
      rotate_left
      ·simp only [Act.put, List.setIfInBounds_toArray, List.set_cons_zero, List.set_cons_succ, i64_w, i32_w]
       rfl
      refine pure_ (i := 6) (N := some 35) (v := ?_) (a' := ?_) (bq true [7, 2]).toArray rfl rfl (any_of HT_.out (by kernel_rfl)) (fun _ _ _ h => h) (Or.inl ⟨by rfl, ?_⟩) ?_ ?_
      rotate_left
      ·intro w'
       go_simp
       with_reducible rfl
      rotate_left
      ·simp only [Act.put, List.setIfInBounds_toArray, List.set_cons_zero, List.set_cons_succ, i64_w, i32_w]
       rfl
      refine take_ (i := 7) (N := some 36) (v := ?_) (a' := ?_) (bq true [8, 1]).toArray rfl rfl (take_ofW HT_.out HW_.out (by kernel_rfl)) (fun _ _ _ h => h) (Or.inl ⟨by rfl, ?_⟩) hHeld ?_ ?_
      rotate_left
      ·rintro w' ⟨s0, s1, s2, s3, s4, s5, s6, s7, s8, s9, s10, s11, s12, s13, s14⟩
       go_simp
       with_reducible rfl
      rotate_left
      ·simp only [Act.put, List.setIfInBounds_toArray, List.set_cons_zero, List.set_cons_succ, i64_w, i32_w]
       rfl
      refine last_ (i := 8) (N := none) (bq true [9]).toArray rfl rfl (one_of HT_.out (by kernel_rfl)) (by decide) (fun K hK => ?_)
      have hs21 : w20.cell? ⟨gb451, 0, none⟩ = some (.int .i64 x452000_1) := (blk_cell BK451.out 0).trans rfl
      have hfs21 := blk_frozen BK451.out 0
      have hns21_1 := NB452_451.out
      have hms21_1 := NB451_452.out
      have hs22 : w20.cell? ⟨gb451, 1, none⟩ = some (.string x452001_1) := (blk_cell BK451.out 1).trans rfl
      have hfs22 := blk_frozen BK451.out 1
      have hns22_1 := NB452_451.out
      have hms22_1 := NB451_452.out
      have hs23 : w20.cell? ⟨gb451, 2, none⟩ = some (.int .u32 x452002_1) := (blk_cell BK451.out 2).trans rfl
      have hfs23 := blk_frozen BK451.out 2
      have hns23_1 := NB452_451.out
      have hms23_1 := NB451_452.out
      have hs24 : w20.cell? ⟨gb451, 3, none⟩ = some (.int .i64 x452003_1) := (blk_cell BK451.out 3).trans rfl
      have hfs24 := blk_frozen BK451.out 3
      have hns24_1 := NB452_451.out
      have hms24_1 := NB451_452.out
      have hs25 : w20.cell? ⟨gb451, 4, none⟩ = some (.string x452004_1) := (blk_cell BK451.out 4).trans rfl
      have hfs25 := blk_frozen BK451.out 4
      have hns25_1 := NB452_451.out
      have hms25_1 := NB451_452.out
      have hs26 : w20.cell? ⟨gb451, 5, none⟩ = some (.slice (some ad456) x452005_1.length co19) := (blk_cell BK451.out 5).trans rfl
      have hfs26 := blk_frozen BK451.out 5
      have hns26_1 := NB452_451.out
      have hms26_1 := NB451_452.out
      have hs27 : w20.cell? ⟨gb451, 6, none⟩ = some (.int .i64 x452006_1) := (blk_cell BK451.out 6).trans rfl
      have hfs27 := blk_frozen BK451.out 6
      have hns27_1 := NB452_451.out
      have hms27_1 := NB451_452.out
      refine skip_ (w1 := ?_) (by rfl) rfl ?_ ?_
      rotate_left
      ·go_simp
       rfl
      refine hK.out _ _ ?_
      clear hK K
      refine done_ (done_of HT_.out (by kernel_rfl)) ?_
      try go_wp2
      go_roundg k1
      case measure => have := HK1.out; omega
      case rel => exact ⟨(wrap64 (x6_1 + 1)), ((rd_T26 x452005_1 (rd l1 x6_1)).f0), ((rd_T26 x452005_1 (rd l1 x6_1)).f1), ((rd_T26 x452005_1 (rd l1 x6_1)).f2), ((rd_T26 x452005_1 (rd l1 x6_1)).f3), ((rd_T26 x452005_1 (rd l1 x6_1)).f4), ((rd_T26 x452005_1 (rd l1 x6_1)).f5), ((rd_T26 x452005_1 (rd l1 x6_1)).f6), (x453000_1), (x453001_1), (x453002_1), (x453003_1), (x453004_1), (x453006_1), (.slice A456_5 ((rd_T26 x452005_1 (rd l1 x6_1)).f5).length c456_5), (by first | rfl | (simp; done) | (simp [*]; done) | (simp; exact (fun l : List UInt8 => (by cases l <;> rfl : l.isEmpty = !(l != []))) _)), H', ⟨by have := HK1.out; omega⟩, ⟨by (with_reducible repeat (first | apply Kd.V_alloc | apply Kd.V_drewN | apply Kd.V_drew)); exact Kd.V_mono (Kd.V_far (p := ⟨gb451, 6, none⟩) (Kd.V_far (p := ⟨gb451, 5, none⟩) (Kd.V_far (p := ⟨gb451, 4, none⟩) (Kd.V_far (p := ⟨gb451, 3, none⟩) (Kd.V_far (p := ⟨gb451, 2, none⟩) (Kd.V_far (p := ⟨gb451, 1, none⟩) (Kd.V_far (p := ⟨gb451, 0, none⟩) (Kd.V_mono HL456_5.out (fun k_ hk => (⟨hk, hk.2.1⟩ : _ ∧ k_ ≠ gb451))) (fun _ hk => hk.2) (.int .i64 ((rd_T26 x452005_1 (rd l1 x6_1)).f0))) (fun _ hk => hk.2) (.string ((rd_T26 x452005_1 (rd l1 x6_1)).f1))) (fun _ hk => hk.2) (.int .u32 ((rd_T26 x452005_1 (rd l1 x6_1)).f2))) (fun _ hk => hk.2) (.int .i64 ((rd_T26 x452005_1 (rd l1 x6_1)).f3))) (fun _ hk => hk.2) (.string ((rd_T26 x452005_1 (rd l1 x6_1)).f4))) (fun _ hk => hk.2) (.slice A456_5 ((rd_T26 x452005_1 (rd l1 x6_1)).f5).length c456_5)) (fun _ hk => hk.2) (.int .i64 ((rd_T26 x452005_1 (rd l1 x6_1)).f6))) (fun _ hk => ⟨hk.1.1, ⟨hk.1.2.1, hk.1.2.2⟩⟩)⟩, ⟨by (with_reducible repeat (first | refine blk_drewN ?_ _ | refine blk_drew ?_ | refine blk_alloc ?_ _)); refine blk_put (cs := #[.int .i64 ((rd_T26 x452005_1 (rd l1 x6_1)).f0), .string ((rd_T26 x452005_1 (rd l1 x6_1)).f1), .int .u32 ((rd_T26 x452005_1 (rd l1 x6_1)).f2), .int .i64 ((rd_T26 x452005_1 (rd l1 x6_1)).f3), .string ((rd_T26 x452005_1 (rd l1 x6_1)).f4), .slice A456_5 ((rd_T26 x452005_1 (rd l1 x6_1)).f5).length c456_5, .int .i64 x452006_1]) ?_ 6 _ rfl; refine blk_put (cs := #[.int .i64 ((rd_T26 x452005_1 (rd l1 x6_1)).f0), .string ((rd_T26 x452005_1 (rd l1 x6_1)).f1), .int .u32 ((rd_T26 x452005_1 (rd l1 x6_1)).f2), .int .i64 ((rd_T26 x452005_1 (rd l1 x6_1)).f3), .string ((rd_T26 x452005_1 (rd l1 x6_1)).f4), .slice (some ad456) x452005_1.length co19, .int .i64 x452006_1]) ?_ 5 _ rfl; refine blk_put (cs := #[.int .i64 ((rd_T26 x452005_1 (rd l1 x6_1)).f0), .string ((rd_T26 x452005_1 (rd l1 x6_1)).f1), .int .u32 ((rd_T26 x452005_1 (rd l1 x6_1)).f2), .int .i64 ((rd_T26 x452005_1 (rd l1 x6_1)).f3), .string x452004_1, .slice (some ad456) x452005_1.length co19, .int .i64 x452006_1]) ?_ 4 _ rfl; refine blk_put (cs := #[.int .i64 ((rd_T26 x452005_1 (rd l1 x6_1)).f0), .string ((rd_T26 x452005_1 (rd l1 x6_1)).f1), .int .u32 ((rd_T26 x452005_1 (rd l1 x6_1)).f2), .int .i64 x452003_1, .string x452004_1, .slice (some ad456) x452005_1.length co19, .int .i64 x452006_1]) ?_ 3 _ rfl; refine blk_put (cs := #[.int .i64 ((rd_T26 x452005_1 (rd l1 x6_1)).f0), .string ((rd_T26 x452005_1 (rd l1 x6_1)).f1), .int .u32 x452002_1, .int .i64 x452003_1, .string x452004_1, .slice (some ad456) x452005_1.length co19, .int .i64 x452006_1]) ?_ 2 _ rfl; refine blk_put (cs := #[.int .i64 ((rd_T26 x452005_1 (rd l1 x6_1)).f0), .string x452001_1, .int .u32 x452002_1, .int .i64 x452003_1, .string x452004_1, .slice (some ad456) x452005_1.length co19, .int .i64 x452006_1]) ?_ 1 _ rfl; refine blk_put (cs := #[.int .i64 x452000_1, .string x452001_1, .int .u32 x452002_1, .int .i64 x452003_1, .string x452004_1, .slice (some ad456) x452005_1.length co19, .int .i64 x452006_1]) ?_ 0 _ rfl; (with_reducible repeat (first | refine blk_drewN ?_ _ | refine blk_drew ?_ | refine blk_alloc ?_ _)); exact BK451.out⟩, ⟨by (repeat (first | (with_reducible first | refine blk_drewN ?_ _ | refine blk_drew ?_ | refine blk_alloc ?_ _) | refine blk_far ?_ NB452_451.out _)); exact BK452.out⟩, ⟨by repeat (first | (with_reducible first | exact HB.out | apply below_alloc | apply pw_below_drewN | apply below_drew1 | refine below_set ?_ GE451.out | refine below_set ?_ GE452.out) | exact HB.out)⟩⟩
   ·rw [if_neg c5] at H
    have c5b0 : decide (x6_1 < (l1.length : Int)) = false := decide_eq_false c5
    clear c5
    simp only [Option.some.injEq, Prod.mk.injEq] at H
    obtain ⟨rfl, rfl, rfl, rfl, rfl, rfl, rfl, rfl⟩ := H
    have hnb28 := NB451_452.out
    have hnc28 := NB452_451.out
    obtain ⟨hcz29_0, hcz29_1, hcz29_2, hcz29_3, hcz29_4, hcz29_5, hcz29_6, hfz29_0, hfz29_1, hfz29_2, hfz29_3, hfz29_4, hfz29_5, hfz29_6⟩ := blk7 BK451.out
    obtain ⟨hcz30_0, hcz30_1, hcz30_2, hcz30_3, hcz30_4, hcz30_5, hcz30_6, hfz30_0, hfz30_1, hfz30_2, hfz30_3, hfz30_4, hfz30_5, hfz30_6⟩ := blk7 BK452.out
    obtain ⟨Ao31, co31, eo31⟩ := Kd.V_slice HO_452005.out
    subst eo31
    go_wp2
    refine bodyPost_ret (results_ct rfl _ _ gb452 26 #[.int .i64 x452000_1, .string x452001_1, .int .u32 x452002_1, .int .i64 x452003_1, .string x452004_1, .slice Ao31 x452005_1.length co31, .int .i64 x452006_1] (0, 0) _ rfl (by (with_reducible repeat (first | refine blk_drewN ?_ _ | refine blk_drew ?_ | refine blk_alloc ?_ _)); refine blk_put (cs := #[.int .i64 x452000_1, .string x452001_1, .int .u32 x452002_1, .int .i64 x452003_1, .string x452004_1, .slice Ao31 x452005_1.length co31, .int .i64 x453006_1]) ?_ 6 _ rfl; refine blk_put (cs := #[.int .i64 x452000_1, .string x452001_1, .int .u32 x452002_1, .int .i64 x452003_1, .string x452004_1, .slice none 0 0, .int .i64 x453006_1]) ?_ 5 _ rfl; refine blk_put (cs := #[.int .i64 x452000_1, .string x452001_1, .int .u32 x452002_1, .int .i64 x452003_1, .string x453004_1, .slice none 0 0, .int .i64 x453006_1]) ?_ 4 _ rfl; refine blk_put (cs := #[.int .i64 x452000_1, .string x452001_1, .int .u32 x452002_1, .int .i64 x453003_1, .string x453004_1, .slice none 0 0, .int .i64 x453006_1]) ?_ 3 _ rfl; refine blk_put (cs := #[.int .i64 x452000_1, .string x452001_1, .int .u32 x453002_1, .int .i64 x453003_1, .string x453004_1, .slice none 0 0, .int .i64 x453006_1]) ?_ 2 _ rfl; refine blk_put (cs := #[.int .i64 x452000_1, .string x453001_1, .int .u32 x453002_1, .int .i64 x453003_1, .string x453004_1, .slice none 0 0, .int .i64 x453006_1]) ?_ 1 _ rfl; refine blk_put (cs := #[.int .i64 x453000_1, .string x453001_1, .int .u32 x453002_1, .int .i64 x453003_1, .string x453004_1, .slice none 0 0, .int .i64 x453006_1]) ?_ 0 _ rfl; (with_reducible repeat (first | refine blk_drewN ?_ _ | refine blk_drew ?_ | refine blk_alloc ?_ _)); exact BK452.out) Try.underlying26 rfl (by kernel_rfl)) rfl ?_
    exact ⟨_, by first | rfl | (simp [errW_none, errW_some] <;> rfl) | (simp [*, errW_none, errW_some] <;> rfl), by (with_reducible repeat (first | apply Kd.V_alloc | apply Kd.V_drewN | apply Kd.V_drew)); exact Kd.V_mono (Kd.V_far (p := ⟨gb452, 6, none⟩) (Kd.V_far (p := ⟨gb452, 5, none⟩) (Kd.V_far (p := ⟨gb452, 4, none⟩) (Kd.V_far (p := ⟨gb452, 3, none⟩) (Kd.V_far (p := ⟨gb452, 2, none⟩) (Kd.V_far (p := ⟨gb452, 1, none⟩) (Kd.V_far (p := ⟨gb452, 0, none⟩) (Kd.V_mono HO_452005.out (fun k_ hk => (⟨hk, hk.2.2⟩ : _ ∧ k_ ≠ gb452))) (fun _ hk => hk.2) (.int .i64 x452000_1)) (fun _ hk => hk.2) (.string x452001_1)) (fun _ hk => hk.2) (.int .u32 x452002_1)) (fun _ hk => hk.2) (.int .i64 x452003_1)) (fun _ hk => hk.2) (.string x452004_1)) (fun _ hk => hk.2) (.slice Ao31 x452005_1.length co31)) (fun _ hk => hk.2) (.int .i64 x452006_1)) (fun _ hk => hk.1.1), by repeat (first | (with_reducible first | exact HB.out | apply below_alloc | apply pw_below_drewN | apply below_drew1 | refine below_set ?_ GE451.out | refine below_set ?_ GE452.out) | exact HB.out)⟩

end Go.Proofs.Ytbfomjbencbmlaa.Q
