/- Lean functions with the answers of the Go functions that the law reaches, proved to be just these answers. Conditions: those that each theorem names. -/
import Derived.Test.YtbfomjbencbmlaaQx0
import Derived.Test.YtbfomjbencbmlaaQx1
namespace Go.Proofs.Ytbfomjbencbmlaa.Q
open Go.RowKit Go.Proofs.YtbfomjbencbmlaaW.PrintWords Go.Proofs.YtbfomjbencbmlaaW.PrintLast Go.Proofs.YtbfomjbencbmlaaW.PrintMore
attribute [local go_sem] max2_int min2_int max_two min_two max_three min_three max_four min_four   -- for this text's walks alone
set_option linter.unusedVariables false
set_option linter.unusedSimpArgs false

/-! ### tree_Strip: function 18 -/
mutual
def tree_Strip.l0 : Nat → List (S26) → List (S26) → Int → Int → Int → ByteArray → Int → Int → ByteArray → List (S26) → Int → Option (Int × ByteArray × Int × Int × ByteArray × (List (S26)) × Int)
 | 0, _, _, _, _, _, _, _, _, _, _, _ => none
 | k + 1, x3, x8, x9, x10, x139000, x139001, x139002, x139003, x139004, x139005, x139006 => if x10 < x9 then (if 0 ≤ x10 then (if x10 < (x8.length : Int) then ((tree_Strip.f k ((rd_T26 x8 x10).f0) ((rd_T26 x8 x10).f1) ((rd_T26 x8 x10).f2) ((rd_T26 x8 x10).f3) ((rd_T26 x8 x10).f4) ((rd_T26 x8 x10).f5) ((rd_T26 x8 x10).f6)).bind fun bt142 => (if x3.length < 1599289640401 then (tree_Strip.l0 k (x3 ++ [(⟨bt142.1, bt142.2.1, bt142.2.2.1, bt142.2.2.2.1, bt142.2.2.2.2.1, bt142.2.2.2.2.2.1, bt142.2.2.2.2.2.2⟩ : S26)]) x8 x9 (wrap64 (x10 + 1)) x139000 x139001 x139002 x139003 x139004 x139005 x139006) else (none))) else (none)) else (none)) else (some (x139000, x139001, x139002, x139003, x139004, x3, x139006))
def tree_Strip.f : Nat → Int → ByteArray → Int → Int → ByteArray → List (S26) → Int → Option (Int × ByteArray × Int × Int × ByteArray × (List (S26)) × Int)
 | 0, _, _, _, _, _, _, _ => none
 | k + 1, a0_0, a0_1, a0_2, a0_3, a0_4, l0_5, a0_6 => tree_Strip.l0 k ([] : List (S26)) l0_5 (l0_5.length : Int) 0 a0_0 a0_1 a0_2 a0_3 a0_4 l0_5 0
end
theorem tree_Strip.mono_l : ∀ k, (∀ y0 y1 y2 y3 y4 y5 y6, LeO (tree_Strip.f k y0 y1 y2 y3 y4 y5 y6) (tree_Strip.f (k + 1) y0 y1 y2 y3 y4 y5 y6)) ∧ (∀ y0 y1 y2 y3 y4 y5 y6 y7 y8 y9 y10, LeO (tree_Strip.l0 k y0 y1 y2 y3 y4 y5 y6 y7 y8 y9 y10) (tree_Strip.l0 (k + 1) y0 y1 y2 y3 y4 y5 y6 y7 y8 y9 y10))
 | 0 => ⟨fun _ _ _ _ _ _ _ r h => by simp [tree_Strip.f] at h, fun _ _ _ _ _ _ _ _ _ _ _ r h => by simp [tree_Strip.l0] at h⟩
 | k + 1 => by
  obtain ⟨ih0, ih1⟩ := tree_Strip.mono_l k
  refine ⟨?_, ?_⟩
  ·intro y0 y1 y2 y3 y4 y5 y6
   unfold tree_Strip.f
   repeat' first
   | (with_reducible exact ih0 _ _ _ _ _ _ _)
   | (with_reducible exact ih1 _ _ _ _ _ _ _ _ _ _ _)
   | (with_reducible exact LeO.refl _)
   | (with_reducible exact LeO.none _)
   | (with_reducible refine LeO.ite ?_ ?_)
   | (with_reducible refine LeO.bind ?_ (fun _ => ?_))
   | exact LeO.none _
   | refine LeO.ite ?_ ?_
   | refine LeO.bind ?_ (fun _ => ?_)
  ·intro y0 y1 y2 y3 y4 y5 y6 y7 y8 y9 y10
   unfold tree_Strip.l0
   repeat' first
   | (with_reducible exact ih0 _ _ _ _ _ _ _)
   | (with_reducible exact ih1 _ _ _ _ _ _ _ _ _ _ _)
   | (with_reducible exact LeO.refl _)
   | (with_reducible exact LeO.none _)
   | (with_reducible refine LeO.ite ?_ ?_)
   | (with_reducible refine LeO.bind ?_ (fun _ => ?_))
   | exact LeO.none _
   | refine LeO.ite ?_ ?_
   | refine LeO.bind ?_ (fun _ => ?_)
theorem tree_Strip.mono : ∀ a0 a1 a2 a3 a4 a5 a6 k, LeO (tree_Strip.f k a0 a1 a2 a3 a4 a5 a6) (tree_Strip.f (k + 1) a0 a1 a2 a3 a4 a5 a6) := by
 intro a0 a1 a2 a3 a4 a5 a6 k
 obtain ⟨ih0, ih1⟩ := tree_Strip.mono_l k
 exact ih0 a0 a1 a2 a3 a4 a5 a6
set_option maxHeartbeats 8000000 in
set_option maxRecDepth 100000 in
theorem tree_Strip.calls (k : Nat) : ∀ (a0_0 : Int) (a0_1 : ByteArray) (a0_2 : Int) (a0_3 : Int) (a0_4 : ByteArray) (A0_5 : Option Addr) (c0_5 : Nat) (l0_5 : List (S26)) (a0_6 : Int) (r1 : Int) (r2 : ByteArray) (r3 : Int) (r4 : Int) (r5 : ByteArray) (r6 : List (S26)) (r7 : Int) (w : World) (hr0_5 : Kd.C k26 w A0_5 l0_5.length l0_5) (hc0_5 : l0_5.length ≤ c0_5) (h : tree_Strip.f k a0_0 a0_1 a0_2 a0_3 a0_4 l0_5 a0_6 = some (r1, r2, r3, r4, r5, r6, r7)),
  Calls Try.prog 18 #[.agg #[.int .i64 a0_0, .string a0_1, .int .u32 a0_2, .int .i64 a0_3, .string a0_4, .slice A0_5 l0_5.length c0_5, .int .i64 a0_6]] w fun e w' => ∃ v5_ : Value, e = .returned (.agg #[.int .i64 r1, .string r2, .int .u32 r3, .int .i64 r4, .string r5, v5_, .int .i64 r7]) ∧ Kd.R k26 26 w' w.heap.size (fun _ => True) v5_ r6 ∧ Below w.heap.size w w' := by
 induction k using Nat.strongRecOn with
 | _ k ih =>
 intro a0_0 a0_1 a0_2 a0_3 a0_4 A0_5 c0_5 l0_5 a0_6 r1 r2 r3 r4 r5 r6 r7 w hr0_5 hc0_5 h
 cases k with
 | zero => exact absurd h (by simp [tree_Strip.f])
 | succ k =>
 simp only [tree_Strip.f] at h
 have hu26 := Try.underlying26
 have HR0_5 := Aside0.mk hr0_5
 have HC0_5 := Aside0.mk hc0_5
 clear hr0_5 hc0_5
 have HB := Aside0.mk (Below.refl w.heap.size w)
 have H : (tree_Strip.l0 k ([] : List (S26)) l0_5 (l0_5.length : Int) 0 a0_0 a0_1 a0_2 a0_3 a0_4 l0_5 0) = some (r1, r2, r3, r4, r5, r6, r7) := h
 clear h
 have H' := Aside0.mk H
 clear H
 go_enter Try.func18, Try.ntmps18
 go_wp2_with (first | ((with_reducible refine gate_dst (N := 1) rfl ?_); refine box_event ?hg (N := 1) ?hd (cs := #[.int .i64 a0_0, .string a0_1, .int .u32 a0_2, .int .i64 a0_3, .string a0_4, .slice A0_5 l0_5.length c0_5, .int .i64 a0_6]) (t := 26) ?hr ?_; (case hd => rfl); (case hg => rfl); (case hr => first | (go_simp; done) | (go_simp; rfl)); intro gb138 hg w2 hbox hb; have BK138 := Aside0.mk (hbox); have GW138 := Aside0.mk ((by rw [hg]; exact (below_size (by repeat (first | (with_reducible first | exact HB.out | apply below_alloc | apply pw_below_drewN | apply below_drew1) | exact HB.out))) : w.heap.size ≤ gb138)); have GE138 := Aside0.mk ((by rw [hg]; exact (below_size (by repeat (first | (with_reducible first | exact HB.out | apply below_alloc | apply pw_below_drewN | apply below_drew1) | exact HB.out))) : w.heap.size ≤ gb138)); replace HB := Aside0.mk (below_step (by repeat (first | (with_reducible first | exact HB.out | apply below_alloc | apply pw_below_drewN | apply below_drew1) | exact HB.out)) hb); clear hb hbox hg) | ((with_reducible refine gate_dst (N := 2) rfl ?_); refine box_event ?hg (N := 2) ?hd (cs := #[.int .i64 0, .string (⟨#[]⟩ : ByteArray), .int .u32 0, .int .i64 0, .string (⟨#[]⟩ : ByteArray), .slice none 0 0, .int .i64 0]) (t := 26) ?hr ?_; (case hd => rfl); (case hg => rfl); (case hr => first | (go_simp; done) | (go_simp; rfl)); intro gb139 hg w3 hbox hb; have BK139 := Aside0.mk (hbox); have GW139 := Aside0.mk ((by rw [hg]; exact (below_size (by repeat (first | (with_reducible first | exact HB.out | apply below_alloc | apply pw_below_drewN | apply below_drew1 | refine below_set ?_ GE138.out) | exact HB.out))) : w.heap.size ≤ gb139)); have GE139 := Aside0.mk ((by rw [hg]; exact (below_size (by repeat (first | (with_reducible first | exact HB.out | apply below_alloc | apply pw_below_drewN | apply below_drew1 | refine below_set ?_ GE138.out) | exact HB.out))) : w.heap.size ≤ gb139)); replace HB := Aside0.mk (below_step (by repeat (first | (with_reducible first | exact HB.out | apply below_alloc | apply pw_below_drewN | apply below_drew1 | refine below_set ?_ GE138.out) | exact HB.out)) hb); have NB138_139 := Aside0.mk ((by rw [hg]; exact Nat.ne_of_lt (blk_lt (by (with_reducible repeat (first | refine blk_drewN ?_ _ | refine blk_drew ?_ | refine blk_alloc ?_ _)); exact BK138.out)) : gb138 ≠ gb139)); have NB139_138 := Aside0.mk ((by rw [hg]; exact Nat.ne_of_gt (blk_lt (by (with_reducible repeat (first | refine blk_drewN ?_ _ | refine blk_drew ?_ | refine blk_alloc ?_ _)); exact BK138.out)) : gb139 ≠ gb138)); replace BK138 := Aside0.mk (blk_below (by (with_reducible repeat (first | refine blk_drewN ?_ _ | refine blk_drew ?_ | refine blk_alloc ?_ _)); exact BK138.out) hb); clear hb hbox hg; have hnb4 := NB138_139.out; have hnc4 := NB139_138.out; obtain ⟨hcz5_0, hcz5_1, hcz5_2, hcz5_3, hcz5_4, hcz5_5, hcz5_6, hfz5_0, hfz5_1, hfz5_2, hfz5_3, hfz5_4, hfz5_5, hfz5_6⟩ := blk7 BK138.out))
 go_loopg [3, 10] k (fun kq v3 v10 w' => ∃ (x3_1 : List (S26)) (x10_1 : Int), v10 = .int .i64 x10_1 ∧ Aside0 (tree_Strip.l0 kq x3_1 l0_5 (l0_5.length : Int) x10_1 a0_0 a0_1 a0_2 a0_3 a0_4 l0_5 0 = some (r1, r2, r3, r4, r5, r6, r7)) ∧ Aside0 (kq ≤ k) ∧ Aside0 (Kd.R k26 26 w' w.heap.size (fun k_ => k_ ≠ gb138 ∧ k_ ≠ gb139) v3 x3_1) ∧ Aside0 (w'.heap[gb138]? = some (.cells #[.int .i64 a0_0, .string a0_1, .int .u32 a0_2, .int .i64 a0_3, .string a0_4, (.slice A0_5 l0_5.length c0_5), .int .i64 0] 26 (0, 0))) ∧ Aside0 (w'.heap[gb139]? = some (.cells #[.int .i64 0, .string (⟨#[]⟩ : ByteArray), .int .u32 0, .int .i64 0, .string (⟨#[]⟩ : ByteArray), (.slice none 0 0), .int .i64 0] 26 (0, 0))) ∧ Aside0 (Below w.heap.size w w'))
 case atStart => exact ⟨(([] : List (S26))), (0), (by first | rfl | (simp; done) | (simp [*]; done) | (simp; exact (fun l : List UInt8 => (by cases l <;> rfl : l.isEmpty = !(l != []))) _)), H', ⟨Nat.le_refl _⟩, ⟨by first | exact Kd.R_nil _ _ _ _ _ | exact Kd.N_nil _ _ _ _ _ | exact Kd.V_nil _ _ _ _ _ | exact Kd.Q_nil _ _ _ _ _ | exact Kd.S_nil _ _ _ _ _⟩, ⟨by (with_reducible repeat (first | refine blk_drewN ?_ _ | refine blk_drew ?_ | refine blk_alloc ?_ _)); refine blk_put (cs := #[.int .i64 a0_0, .string a0_1, .int .u32 a0_2, .int .i64 a0_3, .string a0_4, .slice A0_5 l0_5.length c0_5, .int .i64 a0_6]) ?_ 6 _ rfl; (with_reducible repeat (first | refine blk_drewN ?_ _ | refine blk_drew ?_ | refine blk_alloc ?_ _)); exact BK138.out⟩, ⟨by (with_reducible repeat (first | refine blk_drewN ?_ _ | refine blk_drew ?_ | refine blk_alloc ?_ _)); refine blk_far ?_ NB139_138.out _; (with_reducible repeat (first | refine blk_drewN ?_ _ | refine blk_drew ?_ | refine blk_alloc ?_ _)); exact BK139.out⟩, ⟨by repeat (first | (with_reducible first | exact HB.out | apply below_alloc | apply pw_below_drewN | apply below_drew1 | refine below_set ?_ GE138.out | refine below_set ?_ GE139.out) | exact HB.out)⟩⟩
 case round =>
  clear H'
  try clear c1
  try clear p2
  try clear c4
  try clear hcz5_0 hcz5_1 hcz5_2 hcz5_3 hcz5_4 hcz5_5 hcz5_6
  try clear hfz5_0 hfz5_1 hfz5_2 hfz5_3 hfz5_4 hfz5_5 hfz5_6
  obtain ⟨x3_1, x10_1, rfl, HA, HK1, HO_3, BK138, BK139, HB⟩ := hrel
  cases gk with
  | zero => exact absurd HA.out (by simp [tree_Strip.l0])
  | succ k1 =>
   have H := HA.out
   clear HA
   simp only [tree_Strip.l0] at H
   by_cases c6 : x10_1 < (l0_5.length : Int)
   ·rw [if_pos c6] at H
    have c6b0 : decide (x10_1 < (l0_5.length : Int)) = true := decide_eq_true c6
    clear c6
    by_cases c7 : 0 ≤ x10_1
    case neg => rw [if_neg c7] at H; exact absurd H (by simp)
    rw [if_pos c7] at H
    have c7b0 : decide (0 ≤ x10_1) = true := decide_eq_true c7
    clear c7
    by_cases c8 : x10_1 < (l0_5.length : Int)
    case neg => rw [if_neg c8] at H; exact absurd H (by simp)
    rw [if_pos c8] at H
    have c8b0 : decide (x10_1 < (l0_5.length : Int)) = true := decide_eq_true c8
    clear c8
    replace H := Option.bind_eq_some_iff.mp H
    obtain ⟨⟨t142, t143, t144, t145, t146, t147, t150⟩, A90, H⟩ := H
    replace H : (if x3_1.length < 1599289640401 then (tree_Strip.l0 k1 (x3_1 ++ [(⟨t142, t143, t144, t145, t146, t147, t150⟩ : S26)]) l0_5 (l0_5.length : Int) (wrap64 (x10_1 + 1)) a0_0 a0_1 a0_2 a0_3 a0_4 l0_5 0) else (none)) = some (r1, r2, r3, r4, r5, r6, r7) := H
    have A9 := Aside0.mk A90
    clear A90
    by_cases c10 : x3_1.length < 1599289640401
    case neg => rw [if_neg c10] at H; exact absurd H (by simp)
    rw [if_pos c10] at H
    have LMc10 := Aside0.mk c10
    clear c10
    obtain ⟨y151, hy151⟩ : ∃ y_ : List (S26), y_ = (x3_1 ++ [(⟨t142, t143, t144, t145, t146, t147, t150⟩ : S26)]) := ⟨_, rfl⟩
    replace H : (tree_Strip.l0 k1 y151 l0_5 (l0_5.length : Int) (wrap64 (x10_1 + 1)) a0_0 a0_1 a0_2 a0_3 a0_4 l0_5 0) = some (r1, r2, r3, r4, r5, r6, r7) := by first | (rw [hy151]; with_reducible exact H) | (have H2_ := (Option.bind_some _ _).symm.trans H; rw [hy151]; with_reducible exact H2_) | (have H2_ := (Option.bind_some _ _).symm.trans H; with_reducible exact H2_) | with_reducible exact H | (rw [hy151]; exact H) | exact H
    have Ny151 := Aside0.mk hy151
    clear hy151
    have H' := Aside0.mk H
    clear H
    have p140 : 0 ≤ (x10_1 : Int) := of_decide_eq_true (by first | (with_reducible assumption) | assumption)
    have q140 : x10_1 < (l0_5.length : Int) := of_decide_eq_true (by first | (with_reducible assumption) | assumption)
    obtain ⟨ad140, A140_5, c140_5, e140, hx140_0, hx140_1, hx140_2, hx140_3, hx140_4, hx140_5, hx140_6, hl140_5, hi140_5⟩ := at_T26 HR0_5.out x10_1 p140 q140
    cases e140
    replace hx140_0 := (HB.out.cell (World.block_lt_of_cell? w _ hx140_0)).trans hx140_0
    replace hx140_1 := (HB.out.cell (World.block_lt_of_cell? w _ hx140_1)).trans hx140_1
    replace hx140_2 := (HB.out.cell (World.block_lt_of_cell? w _ hx140_2)).trans hx140_2
    replace hx140_3 := (HB.out.cell (World.block_lt_of_cell? w _ hx140_3)).trans hx140_3
    replace hx140_4 := (HB.out.cell (World.block_lt_of_cell? w _ hx140_4)).trans hx140_4
    replace hx140_5 := (HB.out.cell (World.block_lt_of_cell? w _ hx140_5)).trans hx140_5
    replace hx140_6 := (HB.out.cell (World.block_lt_of_cell? w _ hx140_6)).trans hx140_6
    have HR140_5 := Aside0.mk hi140_5
    have HC140_5 := Aside0.mk hl140_5
    clear hi140_5 hl140_5
    replace p140 := eq_true p140
    replace q140 := eq_true q140
    go_wp2_with (first | ((with_reducible refine gate_dst (N := 5) rfl ?_); refine box_event ?hg (N := 5) ?hd (cs := #[.int .i64 0, .string (⟨#[]⟩ : ByteArray), .int .u32 0, .int .i64 0, .string (⟨#[]⟩ : ByteArray), .slice none 0 0, .int .i64 0]) (t := 26) ?hr ?_; (case hd => rfl); (case hg => rfl); (case hr => first | (go_simp; done) | (go_simp; rfl)); intro gb141 hg w11 hbox hb; replace HO_3 := Aside0.mk (Kd.R_below (Kd.R_elderB (by (with_reducible repeat (first | apply Kd.R_alloc | apply Kd.R_drewN | apply Kd.R_drew)); exact HO_3.out) gb141 (Nat.le_of_eq hg.symm)) hb); have BK141 := Aside0.mk (hbox); have GW141 := Aside0.mk ((by rw [hg]; exact (below_size (by repeat (first | (with_reducible first | exact HB.out | apply below_alloc | apply pw_below_drewN | apply below_drew1 | refine below_set ?_ GE138.out | refine below_set ?_ GE139.out) | exact HB.out))) : w.heap.size ≤ gb141)); have GE141 := Aside0.mk ((by rw [hg]; exact (below_size (by repeat (first | (with_reducible first | exact HB.out | apply below_alloc | apply pw_below_drewN | apply below_drew1 | refine below_set ?_ GE138.out | refine below_set ?_ GE139.out) | exact HB.out))) : w.heap.size ≤ gb141)); replace HB := Aside0.mk (below_step (by repeat (first | (with_reducible first | exact HB.out | apply below_alloc | apply pw_below_drewN | apply below_drew1 | refine below_set ?_ GE138.out | refine below_set ?_ GE139.out) | exact HB.out)) hb); have NB138_141 := Aside0.mk ((by rw [hg]; exact Nat.ne_of_lt (blk_lt (by (with_reducible repeat (first | refine blk_drewN ?_ _ | refine blk_drew ?_ | refine blk_alloc ?_ _)); exact BK138.out)) : gb138 ≠ gb141)); have NB141_138 := Aside0.mk ((by rw [hg]; exact Nat.ne_of_gt (blk_lt (by (with_reducible repeat (first | refine blk_drewN ?_ _ | refine blk_drew ?_ | refine blk_alloc ?_ _)); exact BK138.out)) : gb141 ≠ gb138)); replace BK138 := Aside0.mk (blk_below (by (with_reducible repeat (first | refine blk_drewN ?_ _ | refine blk_drew ?_ | refine blk_alloc ?_ _)); exact BK138.out) hb); have NB139_141 := Aside0.mk ((by rw [hg]; exact Nat.ne_of_lt (blk_lt (g := gb139) (o := .cells #[.int .i64 0, .string (⟨#[]⟩ : ByteArray), .int .u32 0, .int .i64 0, .string (⟨#[]⟩ : ByteArray), .slice none 0 0, .int .i64 0] 26 (0, 0)) (by (with_reducible repeat (first | refine blk_drewN ?_ _ | refine blk_drew ?_ | refine blk_alloc ?_ _)); exact BK139.out)) : gb139 ≠ gb141)); have NB141_139 := Aside0.mk ((by rw [hg]; exact Nat.ne_of_gt (blk_lt (g := gb139) (o := .cells #[.int .i64 0, .string (⟨#[]⟩ : ByteArray), .int .u32 0, .int .i64 0, .string (⟨#[]⟩ : ByteArray), .slice none 0 0, .int .i64 0] 26 (0, 0)) (by (with_reducible repeat (first | refine blk_drewN ?_ _ | refine blk_drew ?_ | refine blk_alloc ?_ _)); exact BK139.out)) : gb141 ≠ gb139)); replace BK139 := Aside0.mk (blk_below (g := gb139) (o := .cells #[.int .i64 0, .string (⟨#[]⟩ : ByteArray), .int .u32 0, .int .i64 0, .string (⟨#[]⟩ : ByteArray), .slice none 0 0, .int .i64 0] 26 (0, 0)) (by (with_reducible repeat (first | refine blk_drewN ?_ _ | refine blk_drew ?_ | refine blk_alloc ?_ _)); exact BK139.out) hb); clear hb hbox hg; have hnb12 := NB141_138.out; have hnc12 := NB138_141.out; have hnb13 := NB141_139.out; have hnc13 := NB139_141.out; obtain ⟨hcz14_0, hcz14_1, hcz14_2, hcz14_3, hcz14_4, hcz14_5, hcz14_6, hfz14_0, hfz14_1, hfz14_2, hfz14_3, hfz14_4, hfz14_5, hfz14_6⟩ := blk7 BK141.out) | ((with_reducible refine gate_callee (f := 18) rfl ?_); refine goesL_ (some 16) rfl rfl Try.func18 (by kernel_rfl) rfl #[.agg #[.int .i64 ((rd_T26 l0_5 x10_1).f0), .string ((rd_T26 l0_5 x10_1).f1), .int .u32 ((rd_T26 l0_5 x10_1).f2), .int .i64 ((rd_T26 l0_5 x10_1).f3), .string ((rd_T26 l0_5 x10_1).f4), .slice A140_5 ((rd_T26 l0_5 x10_1).f5).length c140_5, .int .i64 ((rd_T26 l0_5 x10_1).f6)]] rfl (by (try simp only [List.map_toArray, List.map_cons, List.map_nil]); first | done | rfl | (simp only [List.length_drop, List.length_take]; rfl)) ?_; (with_reducible refine (ih k1 (by have := HK1.out; omega) ((rd_T26 l0_5 x10_1).f0) ((rd_T26 l0_5 x10_1).f1) ((rd_T26 l0_5 x10_1).f2) ((rd_T26 l0_5 x10_1).f3) ((rd_T26 l0_5 x10_1).f4) _ _ ((rd_T26 l0_5 x10_1).f5) ((rd_T26 l0_5 x10_1).f6) t142 t143 t144 t145 t146 t147 t150 _ ?side1 ?side2 A9.out).mono ?_); (case side1 => exact Kd.C_below HR140_5.out (by repeat (first | (with_reducible first | exact HB.out | apply below_alloc | apply pw_below_drewN | apply below_drew1 | refine below_set ?_ GE138.out | refine below_set ?_ GE139.out | refine below_set ?_ GE141.out) | exact HB.out))); (case side2 => exact HC140_5.out); rintro e w15 ⟨v148, rfl, ho0, hb⟩; refine ⟨_, rfl, ?_⟩; have HO149 := Aside0.mk (Kd.R_lower (Kd.R_newB (Kd.R_newB (Kd.R_newB (Kd.R_new' ho0 (Kd.R_lt (by (with_reducible repeat (first | apply Kd.R_alloc | apply Kd.R_drewN | apply Kd.R_drew)); exact (Kd.R_mono (Kd.R_far (p := ⟨gb141, 6, none⟩) (Kd.R_far (p := ⟨gb141, 5, none⟩) (Kd.R_far (p := ⟨gb141, 4, none⟩) (Kd.R_far (p := ⟨gb141, 3, none⟩) (Kd.R_far (p := ⟨gb141, 2, none⟩) (Kd.R_far (p := ⟨gb141, 1, none⟩) (Kd.R_far (p := ⟨gb141, 0, none⟩) (Kd.R_mono HO_3.out (fun k_ hk => (⟨hk, hk.2⟩ : _ ∧ k_ ≠ gb141))) (fun _ hk => hk.2) (.int .i64 ((rd_T26 l0_5 x10_1).f0))) (fun _ hk => hk.2) (.string ((rd_T26 l0_5 x10_1).f1))) (fun _ hk => hk.2) (.int .u32 ((rd_T26 l0_5 x10_1).f2))) (fun _ hk => hk.2) (.int .i64 ((rd_T26 l0_5 x10_1).f3))) (fun _ hk => hk.2) (.string ((rd_T26 l0_5 x10_1).f4))) (fun _ hk => hk.2) (.slice A140_5 ((rd_T26 l0_5 x10_1).f5).length c140_5)) (fun _ hk => hk.2) (.int .i64 ((rd_T26 l0_5 x10_1).f6))) (fun _ h_ => h_.1))))) (g := gb138) (o := .cells #[.int .i64 a0_0, .string a0_1, .int .u32 a0_2, .int .i64 a0_3, .string a0_4, .slice (some ad140) l0_5.length c0_5, .int .i64 0] 26 (0, 0)) (by (repeat (first | (with_reducible first | refine blk_drewN ?_ _ | refine blk_drew ?_ | refine blk_alloc ?_ _) | refine blk_far ?_ NB138_141.out _)); exact BK138.out)) (g := gb139) (o := .cells #[.int .i64 0, .string (⟨#[]⟩ : ByteArray), .int .u32 0, .int .i64 0, .string (⟨#[]⟩ : ByteArray), .slice none 0 0, .int .i64 0] 26 (0, 0)) (by (repeat (first | (with_reducible first | refine blk_drewN ?_ _ | refine blk_drew ?_ | refine blk_alloc ?_ _) | refine blk_far ?_ NB139_141.out _)); exact BK139.out)) (g := gb141) (o := .cells #[.int .i64 ((rd_T26 l0_5 x10_1).f0), .string ((rd_T26 l0_5 x10_1).f1), .int .u32 ((rd_T26 l0_5 x10_1).f2), .int .i64 ((rd_T26 l0_5 x10_1).f3), .string ((rd_T26 l0_5 x10_1).f4), .slice A140_5 ((rd_T26 l0_5 x10_1).f5).length c140_5, .int .i64 ((rd_T26 l0_5 x10_1).f6)] 26 (0, 0)) (by (with_reducible repeat (first | refine blk_drewN ?_ _ | refine blk_drew ?_ | refine blk_alloc ?_ _)); refine blk_put (cs := #[.int .i64 ((rd_T26 l0_5 x10_1).f0), .string ((rd_T26 l0_5 x10_1).f1), .int .u32 ((rd_T26 l0_5 x10_1).f2), .int .i64 ((rd_T26 l0_5 x10_1).f3), .string ((rd_T26 l0_5 x10_1).f4), .slice A140_5 ((rd_T26 l0_5 x10_1).f5).length c140_5, .int .i64 0]) ?_ 6 _ rfl; refine blk_put (cs := #[.int .i64 ((rd_T26 l0_5 x10_1).f0), .string ((rd_T26 l0_5 x10_1).f1), .int .u32 ((rd_T26 l0_5 x10_1).f2), .int .i64 ((rd_T26 l0_5 x10_1).f3), .string ((rd_T26 l0_5 x10_1).f4), .slice none 0 0, .int .i64 0]) ?_ 5 _ rfl; refine blk_put (cs := #[.int .i64 ((rd_T26 l0_5 x10_1).f0), .string ((rd_T26 l0_5 x10_1).f1), .int .u32 ((rd_T26 l0_5 x10_1).f2), .int .i64 ((rd_T26 l0_5 x10_1).f3), .string (⟨#[]⟩ : ByteArray), .slice none 0 0, .int .i64 0]) ?_ 4 _ rfl; refine blk_put (cs := #[.int .i64 ((rd_T26 l0_5 x10_1).f0), .string ((rd_T26 l0_5 x10_1).f1), .int .u32 ((rd_T26 l0_5 x10_1).f2), .int .i64 0, .string (⟨#[]⟩ : ByteArray), .slice none 0 0, .int .i64 0]) ?_ 3 _ rfl; refine blk_put (cs := #[.int .i64 ((rd_T26 l0_5 x10_1).f0), .string ((rd_T26 l0_5 x10_1).f1), .int .u32 0, .int .i64 0, .string (⟨#[]⟩ : ByteArray), .slice none 0 0, .int .i64 0]) ?_ 2 _ rfl; refine blk_put (cs := #[.int .i64 ((rd_T26 l0_5 x10_1).f0), .string (⟨#[]⟩ : ByteArray), .int .u32 0, .int .i64 0, .string (⟨#[]⟩ : ByteArray), .slice none 0 0, .int .i64 0]) ?_ 1 _ rfl; refine blk_put (cs := #[.int .i64 0, .string (⟨#[]⟩ : ByteArray), .int .u32 0, .int .i64 0, .string (⟨#[]⟩ : ByteArray), .slice none 0 0, .int .i64 0]) ?_ 0 _ rfl; (with_reducible repeat (first | refine blk_drewN ?_ _ | refine blk_drew ?_ | refine blk_alloc ?_ _)); exact BK141.out)) (below_size (by repeat (first | (with_reducible first | exact HB.out | apply below_alloc | apply pw_below_drewN | apply below_drew1 | refine below_set ?_ GE138.out | refine below_set ?_ GE139.out | refine below_set ?_ GE141.out) | exact HB.out)))); replace HO_3 := Aside0.mk (Kd.R_elder' (by (with_reducible repeat (first | apply Kd.R_alloc | apply Kd.R_drewN | apply Kd.R_drew)); exact (Kd.R_mono (Kd.R_far (p := ⟨gb141, 6, none⟩) (Kd.R_far (p := ⟨gb141, 5, none⟩) (Kd.R_far (p := ⟨gb141, 4, none⟩) (Kd.R_far (p := ⟨gb141, 3, none⟩) (Kd.R_far (p := ⟨gb141, 2, none⟩) (Kd.R_far (p := ⟨gb141, 1, none⟩) (Kd.R_far (p := ⟨gb141, 0, none⟩) (Kd.R_mono HO_3.out (fun k_ hk => (⟨hk, hk.2⟩ : _ ∧ k_ ≠ gb141))) (fun _ hk => hk.2) (.int .i64 ((rd_T26 l0_5 x10_1).f0))) (fun _ hk => hk.2) (.string ((rd_T26 l0_5 x10_1).f1))) (fun _ hk => hk.2) (.int .u32 ((rd_T26 l0_5 x10_1).f2))) (fun _ hk => hk.2) (.int .i64 ((rd_T26 l0_5 x10_1).f3))) (fun _ hk => hk.2) (.string ((rd_T26 l0_5 x10_1).f4))) (fun _ hk => hk.2) (.slice A140_5 ((rd_T26 l0_5 x10_1).f5).length c140_5)) (fun _ hk => hk.2) (.int .i64 ((rd_T26 l0_5 x10_1).f6))) (fun _ h_ => h_.1))) (Kd.R_base ho0) hb); replace BK138 := Aside0.mk (blk_below (g := gb138) (o := .cells #[.int .i64 a0_0, .string a0_1, .int .u32 a0_2, .int .i64 a0_3, .string a0_4, .slice (some ad140) l0_5.length c0_5, .int .i64 0] 26 (0, 0)) (by (repeat (first | (with_reducible first | refine blk_drewN ?_ _ | refine blk_drew ?_ | refine blk_alloc ?_ _) | refine blk_far ?_ NB138_141.out _)); exact BK138.out) hb); replace BK139 := Aside0.mk (blk_below (g := gb139) (o := .cells #[.int .i64 0, .string (⟨#[]⟩ : ByteArray), .int .u32 0, .int .i64 0, .string (⟨#[]⟩ : ByteArray), .slice none 0 0, .int .i64 0] 26 (0, 0)) (by (repeat (first | (with_reducible first | refine blk_drewN ?_ _ | refine blk_drew ?_ | refine blk_alloc ?_ _) | refine blk_far ?_ NB139_141.out _)); exact BK139.out) hb); replace BK141 := Aside0.mk (blk_below (g := gb141) (o := .cells #[.int .i64 ((rd_T26 l0_5 x10_1).f0), .string ((rd_T26 l0_5 x10_1).f1), .int .u32 ((rd_T26 l0_5 x10_1).f2), .int .i64 ((rd_T26 l0_5 x10_1).f3), .string ((rd_T26 l0_5 x10_1).f4), .slice A140_5 ((rd_T26 l0_5 x10_1).f5).length c140_5, .int .i64 ((rd_T26 l0_5 x10_1).f6)] 26 (0, 0)) (by (with_reducible repeat (first | refine blk_drewN ?_ _ | refine blk_drew ?_ | refine blk_alloc ?_ _)); refine blk_put (cs := #[.int .i64 ((rd_T26 l0_5 x10_1).f0), .string ((rd_T26 l0_5 x10_1).f1), .int .u32 ((rd_T26 l0_5 x10_1).f2), .int .i64 ((rd_T26 l0_5 x10_1).f3), .string ((rd_T26 l0_5 x10_1).f4), .slice A140_5 ((rd_T26 l0_5 x10_1).f5).length c140_5, .int .i64 0]) ?_ 6 _ rfl; refine blk_put (cs := #[.int .i64 ((rd_T26 l0_5 x10_1).f0), .string ((rd_T26 l0_5 x10_1).f1), .int .u32 ((rd_T26 l0_5 x10_1).f2), .int .i64 ((rd_T26 l0_5 x10_1).f3), .string ((rd_T26 l0_5 x10_1).f4), .slice none 0 0, .int .i64 0]) ?_ 5 _ rfl; refine blk_put (cs := #[.int .i64 ((rd_T26 l0_5 x10_1).f0), .string ((rd_T26 l0_5 x10_1).f1), .int .u32 ((rd_T26 l0_5 x10_1).f2), .int .i64 ((rd_T26 l0_5 x10_1).f3), .string (⟨#[]⟩ : ByteArray), .slice none 0 0, .int .i64 0]) ?_ 4 _ rfl; refine blk_put (cs := #[.int .i64 ((rd_T26 l0_5 x10_1).f0), .string ((rd_T26 l0_5 x10_1).f1), .int .u32 ((rd_T26 l0_5 x10_1).f2), .int .i64 0, .string (⟨#[]⟩ : ByteArray), .slice none 0 0, .int .i64 0]) ?_ 3 _ rfl; refine blk_put (cs := #[.int .i64 ((rd_T26 l0_5 x10_1).f0), .string ((rd_T26 l0_5 x10_1).f1), .int .u32 0, .int .i64 0, .string (⟨#[]⟩ : ByteArray), .slice none 0 0, .int .i64 0]) ?_ 2 _ rfl; refine blk_put (cs := #[.int .i64 ((rd_T26 l0_5 x10_1).f0), .string (⟨#[]⟩ : ByteArray), .int .u32 0, .int .i64 0, .string (⟨#[]⟩ : ByteArray), .slice none 0 0, .int .i64 0]) ?_ 1 _ rfl; refine blk_put (cs := #[.int .i64 0, .string (⟨#[]⟩ : ByteArray), .int .u32 0, .int .i64 0, .string (⟨#[]⟩ : ByteArray), .slice none 0 0, .int .i64 0]) ?_ 0 _ rfl; (with_reducible repeat (first | refine blk_drewN ?_ _ | refine blk_drew ?_ | refine blk_alloc ?_ _)); exact BK141.out) hb); replace HB := Aside0.mk (below_step (by repeat (first | (with_reducible first | exact HB.out | apply below_alloc | apply pw_below_drewN | apply below_drew1 | refine below_set ?_ GE138.out | refine below_set ?_ GE139.out | refine below_set ?_ GE141.out) | exact HB.out)) hb); (try clear hb); (try clear hb2); (try clear hk); (try clear hi); (try clear ho0); obtain ⟨Ao17, co17, eo17⟩ := Kd.R_slice HO149.out; subst eo17) | ((with_reducible refine gate_builtin (b := .append) (xs := #[.tmp 14, .tmp 17]) rfl ?_); at_builtin; refine Kd.R_append k26 (w0 := w) w.heap.size rfl (.tmp 14) (.tmp 17) 24 26 (.agg #[(.int .i64 0), (.string ⟨#[]⟩), (.int .u32 0), (.int .i64 0), (.string ⟨#[]⟩), (.slice none 0 0), (.int .i64 0)]) 88 rfl Try.underlying24 info26 rfl (by decide) (by omega) u3 x3_1 (⟨t142, t143, t144, t145, t146, t147, t150⟩ : S26) [.int .i64 t142, .string t143, .int .u32 t144, .int .i64 t145, .string t146, .slice Ao17 t147.length co17, .int .i64 t150] (fun k_ => k_ ≠ gb138 ∧ k_ ≠ gb139 ∧ k_ ≠ gb141) (fun k_ => ((fun k_ => k_ ≠ gb138 ∧ k_ ≠ gb139 ∧ k_ ≠ gb141)) k_ ∧ some k_ ≠ (u3 : Value).ownBlock) rfl rfl ?aP (fun _ hk => hk) ?aF ?aO ?aB ?aS ?aL ?_; (case aP => exact k26_mkM _ _ _ (⟨t142, t143, t144, t145, t146, t147, t150⟩ : S26) (Kd.R_mono (HO149.out) (fun k_ hk => ⟨⟨hk.1.1.2, ⟨hk.1.2, hk.2⟩⟩, hk.1.1.1.2⟩))); (case aB => exact (by repeat (first | (with_reducible first | exact HB.out | apply below_alloc | apply pw_below_drewN | apply below_drew1 | refine below_set ?_ GE138.out | refine below_set ?_ GE139.out | refine below_set ?_ GE141.out) | exact HB.out))); (case aF => exact (fun k_ hk => ⟨Kd.freshB (by (with_reducible repeat (first | refine blk_drewN ?_ _ | refine blk_drew ?_ | refine blk_alloc ?_ _)); exact BK138.out) k_ hk, Kd.freshB (g := gb139) (o := .cells #[.int .i64 0, .string (⟨#[]⟩ : ByteArray), .int .u32 0, .int .i64 0, .string (⟨#[]⟩ : ByteArray), .slice none 0 0, .int .i64 0] 26 (0, 0)) (by (with_reducible repeat (first | refine blk_drewN ?_ _ | refine blk_drew ?_ | refine blk_alloc ?_ _)); exact BK139.out) k_ hk, Kd.freshB (by (with_reducible repeat (first | refine blk_drewN ?_ _ | refine blk_drew ?_ | refine blk_alloc ?_ _)); exact BK141.out) k_ hk⟩)); (case aO => exact (by (with_reducible repeat (first | apply Kd.R_alloc | apply Kd.R_drewN | apply Kd.R_drew)); exact Kd.R_mono HO_3.out (fun _ hk => ⟨hk.1.1.1, ⟨hk.1.1.2, hk.1.2⟩⟩))); (case aS => exact (below_size (by repeat (first | (with_reducible first | exact HB.out | apply below_alloc | apply pw_below_drewN | apply below_drew1 | refine below_set ?_ GE138.out | refine below_set ?_ GE139.out | refine below_set ?_ GE141.out) | exact HB.out)))); (case aL => have := LMc10.out; omega); intro v152 w16 ho hb hg hat; rw [← Ny151.out] at ho; replace BK138 := Aside0.mk (blk_grown (by (with_reducible repeat (first | refine blk_drewN ?_ _ | refine blk_drew ?_ | refine blk_alloc ?_ _)); exact BK138.out) hg (Kd.R_away HO_3.out (fun _ hk => hk.1.1.1))); replace BK139 := Aside0.mk (blk_grown (g := gb139) (o := .cells #[.int .i64 0, .string (⟨#[]⟩ : ByteArray), .int .u32 0, .int .i64 0, .string (⟨#[]⟩ : ByteArray), .slice none 0 0, .int .i64 0] 26 (0, 0)) (by (with_reducible repeat (first | refine blk_drewN ?_ _ | refine blk_drew ?_ | refine blk_alloc ?_ _)); exact BK139.out) hg (Kd.R_away HO_3.out (fun _ hk => hk.1.1.2))); replace BK141 := Aside0.mk (blk_grown (by (with_reducible repeat (first | refine blk_drewN ?_ _ | refine blk_drew ?_ | refine blk_alloc ?_ _)); exact BK141.out) hg (Kd.R_away HO_3.out (fun _ hk => hk.1.2))); replace HB := Aside0.mk (hb); have HO153 := Aside0.mk (ho); clear HO_3 HO149; clear ho hb hg hat))
    go_roundg k1
    case measure => have := HK1.out; omega
    case rel => exact ⟨(y151), (wrap64 (x10_1 + 1)), (by first | rfl | (simp; done) | (simp [*]; done) | (simp; exact (fun l : List UInt8 => (by cases l <;> rfl : l.isEmpty = !(l != []))) _)), H', ⟨by have := HK1.out; omega⟩, ⟨by (with_reducible repeat (first | apply Kd.R_alloc | apply Kd.R_drewN | apply Kd.R_drew)); exact Kd.R_mono HO153.out (fun _ hk => ⟨hk.1, hk.2.1⟩)⟩, ⟨by (with_reducible repeat (first | refine blk_drewN ?_ _ | refine blk_drew ?_ | refine blk_alloc ?_ _)); exact BK138.out⟩, ⟨by (with_reducible repeat (first | refine blk_drewN ?_ _ | refine blk_drew ?_ | refine blk_alloc ?_ _)); exact BK139.out⟩, ⟨by repeat (first | (with_reducible first | exact HB.out | apply below_alloc | apply pw_below_drewN | apply below_drew1 | refine below_set ?_ GE138.out | refine below_set ?_ GE139.out | refine below_set ?_ GE141.out) | exact HB.out)⟩⟩
   ·rw [if_neg c6] at H
    have c6b0 : decide (x10_1 < (l0_5.length : Int)) = false := decide_eq_false c6
    clear c6
    simp only [Option.some.injEq, Prod.mk.injEq] at H
    obtain ⟨rfl, rfl, rfl, rfl, rfl, rfl, rfl⟩ := H
    obtain ⟨Ao18, co18, eo18⟩ := Kd.R_slice HO_3.out
    subst eo18
    have hnb19 := NB138_139.out
    have hnc19 := NB139_138.out
    obtain ⟨hcz20_0, hcz20_1, hcz20_2, hcz20_3, hcz20_4, hcz20_5, hcz20_6, hfz20_0, hfz20_1, hfz20_2, hfz20_3, hfz20_4, hfz20_5, hfz20_6⟩ := blk7 BK138.out
    obtain ⟨hcz21_0, hcz21_1, hcz21_2, hcz21_3, hcz21_4, hcz21_5, hcz21_6, hfz21_0, hfz21_1, hfz21_2, hfz21_3, hfz21_4, hfz21_5, hfz21_6⟩ := blk7 BK139.out
    go_wp2
    refine bodyPost_ret (results_cell_row rfl _ _ gb139 26 #[.int .i64 a0_0, .string a0_1, .int .u32 a0_2, .int .i64 a0_3, .string a0_4, .slice Ao18 x3_1.length co18, .int .i64 0] (0, 0) _ rfl (by (with_reducible repeat (first | refine blk_drewN ?_ _ | refine blk_drew ?_ | refine blk_alloc ?_ _)); refine blk_put (cs := #[.int .i64 a0_0, .string a0_1, .int .u32 a0_2, .int .i64 a0_3, .string a0_4, .slice Ao18 x3_1.length co18, .int .i64 0]) ?_ 6 _ rfl; refine blk_put (cs := #[.int .i64 a0_0, .string a0_1, .int .u32 a0_2, .int .i64 a0_3, .string a0_4, .slice none 0 0, .int .i64 0]) ?_ 5 _ rfl; refine blk_put (cs := #[.int .i64 a0_0, .string a0_1, .int .u32 a0_2, .int .i64 a0_3, .string (⟨#[]⟩ : ByteArray), .slice none 0 0, .int .i64 0]) ?_ 4 _ rfl; refine blk_put (cs := #[.int .i64 a0_0, .string a0_1, .int .u32 a0_2, .int .i64 0, .string (⟨#[]⟩ : ByteArray), .slice none 0 0, .int .i64 0]) ?_ 3 _ rfl; refine blk_put (cs := #[.int .i64 a0_0, .string a0_1, .int .u32 0, .int .i64 0, .string (⟨#[]⟩ : ByteArray), .slice none 0 0, .int .i64 0]) ?_ 2 _ rfl; refine blk_put (cs := #[.int .i64 a0_0, .string (⟨#[]⟩ : ByteArray), .int .u32 0, .int .i64 0, .string (⟨#[]⟩ : ByteArray), .slice none 0 0, .int .i64 0]) ?_ 1 _ rfl; refine blk_put (cs := #[.int .i64 0, .string (⟨#[]⟩ : ByteArray), .int .u32 0, .int .i64 0, .string (⟨#[]⟩ : ByteArray), .slice none 0 0, .int .i64 0]) ?_ 0 _ rfl; (with_reducible repeat (first | refine blk_drewN ?_ _ | refine blk_drew ?_ | refine blk_alloc ?_ _)); refine blk_far ?_ NB139_138.out _; (with_reducible repeat (first | refine blk_drewN ?_ _ | refine blk_drew ?_ | refine blk_alloc ?_ _)); exact BK139.out) Try.underlying26 rfl (by kernel_rfl)) rfl ?_
    exact ⟨_, by first | rfl | (simp [errW_none, errW_some] <;> rfl) | (simp [*, errW_none, errW_some] <;> rfl), by (with_reducible repeat (first | apply Kd.R_alloc | apply Kd.R_drewN | apply Kd.R_drew)); exact Kd.R_mono (Kd.R_far (p := ⟨gb139, 6, none⟩) (Kd.R_far (p := ⟨gb139, 5, none⟩) (Kd.R_far (p := ⟨gb139, 4, none⟩) (Kd.R_far (p := ⟨gb139, 3, none⟩) (Kd.R_far (p := ⟨gb139, 2, none⟩) (Kd.R_far (p := ⟨gb139, 1, none⟩) (Kd.R_far (p := ⟨gb139, 0, none⟩) (Kd.R_far (p := ⟨gb138, 5, none⟩) (Kd.R_mono (Kd.R_mono HO_3.out (fun k_ hk => (⟨hk, hk.1⟩ : _ ∧ k_ ≠ gb138))) (fun k_ hk => (⟨hk, hk.1.2⟩ : _ ∧ k_ ≠ gb139))) (fun _ hk => hk.1.2) (.slice Ao18 x3_1.length co18)) (fun _ hk => hk.2) (.int .i64 a0_0)) (fun _ hk => hk.2) (.string a0_1)) (fun _ hk => hk.2) (.int .u32 a0_2)) (fun _ hk => hk.2) (.int .i64 a0_3)) (fun _ hk => hk.2) (.string a0_4)) (fun _ hk => hk.2) (.slice Ao18 x3_1.length co18)) (fun _ hk => hk.2) (.int .i64 0)) (fun _ hk => trivial), by repeat (first | (with_reducible first | exact HB.out | apply below_alloc | apply pw_below_drewN | apply below_drew1 | refine below_set ?_ GE138.out | refine below_set ?_ GE139.out) | exact HB.out)⟩

/-! ### tree_Names: function 25 -/
def tree_Names.step (x : S26) (_d : Int) (s : List ByteArray) : Option (List ByteArray) := if x.f0 = 1 then (if (s.length + 1) * 16 ≤ 140737488355328 then some (s ++ [x.f1]) else none) else some s
def tree_Names.f (k : Nat) (a0_0 : Int) (a0_1 : ByteArray) (a0_2 : Int) (a0_3 : Int) (a0_4 : ByteArray) (l0_5 : List (S26)) (a0_6 : Int) : Option (List ByteArray) := tree_walk.g tree_Names.step k ⟨a0_0, a0_1, a0_2, a0_3, a0_4, l0_5, a0_6⟩ 1 []
theorem tree_Names.mono : ∀ a0 a1 a2 a3 a4 a5 a6 k, LeO (tree_Names.f k a0 a1 a2 a3 a4 a5 a6) (tree_Names.f (k + 1) a0 a1 a2 a3 a4 a5 a6) :=
 fun _ _ _ _ _ _ _ k => (tree_walk.mono_l _ k).1 _ _ _
theorem tree_Names.infoS : (Try.prog.info? 9).map (fun i => (i.zero, i.size, i.bytes)) = some (some (.string ⟨#[]⟩), 1, 16) := by kernel_rfl
/-- The captured cell, with the list's own row. -/
def tree_Names.I (g base : Nat) (w : World) (O : Nat → Prop) (s : List ByteArray) : Prop := ∃ v, w.heap[g]? = some (.cells #[v] 35 (0, 0)) ∧ base ≤ g ∧ w.ownsRow base 9 1 v s.length (encs Value.string s) ∧ O = (fun b => b = g ∨ v.ownBlock = some b)
theorem tree_Names.I_ne {g base : Nat} {w : World} {v : Value} {s : List ByteArray} (h : w.heap[g]? = some (.cells #[v] 35 (0, 0))) (ho : w.ownsRow base 9 1 v s.length (encs Value.string s)) : ∀ k, v.ownBlock = some k → k ≠ g := by
 intro k hk e
 obtain ⟨cells, hc⟩ := own_typed ho k hk
 rw [e, h] at hc
 injection hc with hc
 injection hc with _ ht _
 exact absurd ht (by decide)
set_option maxHeartbeats 8000000 in
set_option maxRecDepth 100000 in
theorem tree_Names.inner (g : Nat) (w0 : World) (x : S26) (cs : List Value) (d : Int) (s r : List ByteArray) (w : World) (O : Nat → Prop) (hK : k26.K w0 x cs) (hB : Below w0.heap.size w0 w) (hI : tree_Names.I g w0.heap.size w O s) (h : tree_Names.step x d s = some r) :
  Calls Try.prog 37 #[.agg cs.toArray, .int .i64 d, .pointer (some ⟨g, 0, none⟩)] w fun e w' => e = .returned (.bool true) ∧ ∃ O', tree_Names.I g w0.heap.size w' O' r ∧ Fr w w' O O' := by
 obtain ⟨A5, c5, rfl, l5, g5⟩ := k26_open hK
 obtain ⟨v, hg, hgb, hown, hO⟩ := hI
 have HR0 := Aside0.mk (Kd.R_of_own (h1 := fun _ => rfl) (ok := fun k => k ≠ g) hown (tree_Names.I_ne hg hown))
 obtain ⟨Av, cv, hv⟩ := Kd.R_slice HR0.out
 subst hv
 have HNE := Aside0.mk (tree_Names.I_ne hg hown)
 have HH := Aside0.mk hg
 have HO := Aside0.mk hO
 have HGB := Aside0.mk hgb
 have HOWN := Aside0.mk hown
 have HB0 := Aside0.mk hB
 have HGL := Aside0.mk (blk_lt hg)
 have hu26 := Try.underlying26
 unfold tree_Names.step at h
 have H := Aside0.mk h
 clear hK g5 hO hown hB hgb h
 by_cases c1 : x.f0 = 1
 ·have H' := H.out
  rw [if_pos c1] at H'
  by_cases c2 : (s.length + 1) * 16 ≤ 140737488355328
  case neg => rw [if_neg c2] at H'; cases H'
  rw [if_pos c2] at H'
  obtain rfl := Option.some.inj H'
  have HCAP := Aside0.mk c2
  have q1 : (x.f0 == 1) = true := by rw [c1]; rfl
  clear H H' c1 c2
  go_enter Try.func37, Try.ntmps37
  go_wp2_with (first
   | ((with_reducible refine gate_dst (N := 3) rfl ?_); refine box_event ?hg (N := 3) ?hd (cs := #[.int .i64 x.f0, .string x.f1, .int .u32 x.f2, .int .i64 x.f3, .string x.f4, .slice A5 x.f5.length c5, .int .i64 x.f6]) (t := 26) ?hr ?_; (case hd => rfl); (case hg => rfl); (case hr => first | (go_simp; done) | (go_simp; rfl)); intro gb hgb w2 hbox hb; have hc2 := blk_below HH.out hb; have z0 : w2.cell? ⟨gb, 0, none⟩ = some (.int .i64 x.f0) := (blk_cell hbox 0).trans rfl; have z1 : w2.cell? ⟨gb, 1, none⟩ = some (.string x.f1) := (blk_cell hbox 1).trans rfl; have y1 : w2.cell? ⟨g, 0, none⟩ = some (.slice Av s.length cv) := (blk_cell hc2 0).trans rfl; have BW := Aside0.mk hb; have HC := Aside0.mk hc2; clear hbox hb hc2 hg hgb; have HB2 := Aside0.mk (below_then HB0.out HB0.out.size BW.out); have HR2 := Aside0.mk (Kd.R_below HR0.out BW.out))
   | ((with_reducible refine gate_builtin (b := .append) (xs := #[.tmp 9, .tmp 12]) rfl ?_); at_builtin; refine Kd.R_append Kd.string (w0 := w0) w0.heap.size rfl (.tmp 9) (.tmp 12) 35 9 (.string ⟨#[]⟩) 16 rfl Try.underlying35 tree_Names.infoS rfl (by decide) (by omega) (.slice Av s.length cv) s x.f1 [.string x.f1] (fun k => k ≠ g) (fun _ => False) rfl rfl rfl (fun _ hk => hk.elim) (fun k hk => by have h1 := blk_lt HC.out; omega) HR2.out HB2.out HB2.out.size HCAP.out ?_; intro v1 w4 hR1 hB1 hg1 hat1; obtain ⟨A1_, c1_, hv1_⟩ := Kd.R_slice hR1; subst hv1_; have hc4 := blk_grown HC.out hg1 (fun e => HNE.out g e.symm rfl); have y2 := blk_frozen hc4 0; have y3 : w4.cell? ⟨g, 0, none⟩ = some (.slice Av s.length cv) := (blk_cell hc4 0).trans rfl; have HC4 := Aside0.mk hc4; have HR4 := Aside0.mk hR1; have HG4 := Aside0.mk hg1; have HT4 := Aside0.mk hat1; clear hR1 hB1 hg1 hat1 hc4)
   | fail)
  go_ret
  refine ⟨rfl, fun b => b = g ∨ (Value.slice A1_ (s ++ [x.f1]).length c1_).ownBlock = some b, ⟨.slice A1_ (s ++ [x.f1]).length c1_, blk_put HC4.out 0 _ (by rw [List.length_append]; rfl), HGB.out, Kd.own_of_R (Kd.R_far HR4.out (fun _ hk => hk) _), rfl⟩, ?_⟩
  refine Fr.trans (Fr.below BW.out O) ⟨HG4.out.os, HG4.out.tape, HG4.out.output, by simpa [World.setCell] using HG4.out.size, fun b hb hn => ?_, fun b hb => ?_⟩
  ·rw [HO.out] at hn
   exact (Below.heap_setCell _ _ _ _ (fun e => hn (.inl e))).trans (HG4.out.block b hb (fun e => hn (.inr e.symm)))
  ·rw [HO.out]
   rcases hb with e | e
   ·exact .inl (.inl e)
   ·rcases HT4.out with h1 | ⟨b', h1, h2⟩
    ·exact .inl (.inr (h1 ▸ e))
    ·rw [h1] at e
     injection e with e
     subst e
     exact .inr h2
 ·have H' := H.out
  rw [if_neg c1] at H'
  obtain rfl := Option.some.inj H'
  have q1 : (x.f0 == 1) = false := by simpa using c1
  clear H H' c1
  go_enter Try.func37, Try.ntmps37
  go_wp2_with (first
   | ((with_reducible refine gate_dst (N := 3) rfl ?_); refine box_event ?hg (N := 3) ?hd (cs := #[.int .i64 x.f0, .string x.f1, .int .u32 x.f2, .int .i64 x.f3, .string x.f4, .slice A5 x.f5.length c5, .int .i64 x.f6]) (t := 26) ?hr ?_; (case hd => rfl); (case hg => rfl); (case hr => first | (go_simp; done) | (go_simp; rfl)); intro gb hgb w2 hbox hb; have hc2 := blk_below HH.out hb; have z0 : w2.cell? ⟨gb, 0, none⟩ = some (.int .i64 x.f0) := (blk_cell hbox 0).trans rfl; have BW := Aside0.mk hb; have HC := Aside0.mk hc2; clear hbox hb hc2 hg hgb)
   | fail)
  go_ret
  exact ⟨rfl, O, ⟨.slice Av s.length cv, HC.out, HGB.out, Kd.own_of_R (Kd.R_below HR0.out BW.out), HO.out⟩, Fr.below BW.out O⟩
set_option maxHeartbeats 8000000 in
set_option maxRecDepth 100000 in
theorem tree_Names.calls (k : Nat) (a0_0 : Int) (a0_1 : ByteArray) (a0_2 : Int) (a0_3 : Int) (a0_4 : ByteArray) (A0_5 : Option Addr) (c0_5 : Nat) (l0_5 : List (S26)) (a0_6 : Int) (r : List ByteArray) (w : World) (hr0_5 : Kd.C k26 w A0_5 l0_5.length l0_5) (hc0_5 : l0_5.length ≤ c0_5) (h : tree_Names.f k a0_0 a0_1 a0_2 a0_3 a0_4 l0_5 a0_6 = some r) :
  Calls Try.prog 25 #[.agg #[.int .i64 a0_0, .string a0_1, .int .u32 a0_2, .int .i64 a0_3, .string a0_4, .slice A0_5 l0_5.length c0_5, .int .i64 a0_6]] w fun e w' => ∃ v0_ : Value, e = .returned (v0_) ∧ Kd.R Kd.string 9 w' w.heap.size (fun _ => True) v0_ r ∧ Below w.heap.size w w' := by
 have hK := Aside0.mk (k26_mk w ⟨a0_0, a0_1, a0_2, a0_3, a0_4, l0_5, a0_6⟩ hc0_5 hr0_5)
 have H := Aside0.mk h
 have hu26 := Try.underlying26
 clear h hr0_5
 go_enter Try.func25, Try.ntmps25
 go_wp2_with fail
 refine (tree_walk.calls tree_Names.step (tree_Names.I (w.heap.size + 1) w.heap.size) w 37 Try.f37 #[.pointer (some ⟨w.heap.size + 1, 0, none⟩)] Try.func37 (by kernel_rfl) rfl
  (fun w1 w2 O s hb hI => by
   obtain ⟨v, h1, h2, h3, h4⟩ := hI
   exact ⟨v, (hb _ (by rw [h4]; exact .inl rfl)).trans h1, h2, own_move h3 (fun k hk => hb k (by rw [h4]; exact .inr hk)), h4⟩)
  (fun w1 O s hI b hb => by
   obtain ⟨v, h1, h2, h3, h4⟩ := hI
   rw [h4] at hb
   rcases hb with e | hk
   ·subst e; exact ⟨h2, blk_lt h1⟩
   ·exact ⟨own_base h3 b hk, own_lt h3 b hk⟩)
  (fun x cs d s r w1 O hK hB hI h => calls_of_args rfl (tree_Names.inner _ w x cs d s r w1 O hK hB hI h))
  k _ _ 1 [] r _ (fun b => b = w.heap.size + 1 ∨ (Value.slice none 0 0).ownBlock = some b) hK.out (below_alloc (below_alloc (Below.refl _ _) _) _) ⟨.slice none 0 0, by first | exact blk_new _ _ | (simpa using blk_new (w.alloc _) _), by omega, Kd.own_of_R (h1 := fun _ => rfl) (Kd.R_nil Kd.string 9 _ _ (fun _ => True)), rfl⟩ H.out).mono ?_
 rintro e w3 ⟨rfl, O', ⟨v, hg, _, hown, hO⟩, hF⟩
 have z0 : w3.cell? ⟨w.heap.size + 1, 0, none⟩ = some v := (blk_cell hg 0).trans rfl
 have FB := Aside0.mk (Fr.out (below_alloc (below_alloc (Below.refl w.heap.size w) _) _) hF (fun b hb => by
  rcases hb with e | hk
  ·subst e; show w.heap.size ≤ _; omega
  ·simp [Value.ownBlock] at hk))
 have OW := Aside0.mk hown
 clear hg hO hF hown
 go_wp2
 go_ret
 exact ⟨v, rfl, Kd.R_of_own OW.out (fun _ _ => trivial), FB.out⟩

/-! ### tree_twin: function 38 -/
mutual
def tree_twin.l0 : Nat → List (S26) → List (S26) → Int → Int → Int → ByteArray → Int → Int → ByteArray → List (S26) → Int → Option (Int × ByteArray × Int × Int × ByteArray × (List (S26)) × Int)
 | 0, _, _, _, _, _, _, _, _, _, _, _ => none
 | k + 1, x3, x7, x8, x9, x155000, x155001, x155002, x155003, x155004, x155005, x155006 => if x9 < x8 then (if 0 ≤ x9 then (if x9 < (x7.length : Int) then ((tree_twin.f k ((rd_T26 x7 x9).f0) ((rd_T26 x7 x9).f1) ((rd_T26 x7 x9).f2) ((rd_T26 x7 x9).f3) ((rd_T26 x7 x9).f4) ((rd_T26 x7 x9).f5) ((rd_T26 x7 x9).f6)).bind fun bt158 => (if x3.length < 1599289640401 then (tree_twin.l0 k (x3 ++ [(⟨bt158.1, bt158.2.1, bt158.2.2.1, bt158.2.2.2.1, bt158.2.2.2.2.1, bt158.2.2.2.2.2.1, bt158.2.2.2.2.2.2⟩ : S26)]) x7 x8 (wrap64 (x9 + 1)) x155000 x155001 x155002 x155003 x155004 x155005 x155006) else (none))) else (none)) else (none)) else (some (x155000, x155001, x155002, x155003, x155004, x3, x155006))
def tree_twin.f : Nat → Int → ByteArray → Int → Int → ByteArray → List (S26) → Int → Option (Int × ByteArray × Int × Int × ByteArray × (List (S26)) × Int)
 | 0, _, _, _, _, _, _, _ => none
 | k + 1, a0_0, a0_1, a0_2, a0_3, a0_4, l0_5, a0_6 => tree_twin.l0 k ([] : List (S26)) l0_5 (l0_5.length : Int) 0 a0_0 a0_1 a0_2 a0_3 a0_4 l0_5 a0_6
end
theorem tree_twin.mono_l : ∀ k, (∀ y0 y1 y2 y3 y4 y5 y6, LeO (tree_twin.f k y0 y1 y2 y3 y4 y5 y6) (tree_twin.f (k + 1) y0 y1 y2 y3 y4 y5 y6)) ∧ (∀ y0 y1 y2 y3 y4 y5 y6 y7 y8 y9 y10, LeO (tree_twin.l0 k y0 y1 y2 y3 y4 y5 y6 y7 y8 y9 y10) (tree_twin.l0 (k + 1) y0 y1 y2 y3 y4 y5 y6 y7 y8 y9 y10))
 | 0 => ⟨fun _ _ _ _ _ _ _ r h => by simp [tree_twin.f] at h, fun _ _ _ _ _ _ _ _ _ _ _ r h => by simp [tree_twin.l0] at h⟩
 | k + 1 => by
  obtain ⟨ih0, ih1⟩ := tree_twin.mono_l k
  refine ⟨?_, ?_⟩
  ·intro y0 y1 y2 y3 y4 y5 y6
   unfold tree_twin.f
   repeat' first
   | (with_reducible exact ih0 _ _ _ _ _ _ _)
   | (with_reducible exact ih1 _ _ _ _ _ _ _ _ _ _ _)
   | (with_reducible exact LeO.refl _)
   | (with_reducible exact LeO.none _)
   | (with_reducible refine LeO.ite ?_ ?_)
   | (with_reducible refine LeO.bind ?_ (fun _ => ?_))
   | exact LeO.none _
   | refine LeO.ite ?_ ?_
   | refine LeO.bind ?_ (fun _ => ?_)
  ·intro y0 y1 y2 y3 y4 y5 y6 y7 y8 y9 y10
   unfold tree_twin.l0
   repeat' first
   | (with_reducible exact ih0 _ _ _ _ _ _ _)
   | (with_reducible exact ih1 _ _ _ _ _ _ _ _ _ _ _)
   | (with_reducible exact LeO.refl _)
   | (with_reducible exact LeO.none _)
   | (with_reducible refine LeO.ite ?_ ?_)
   | (with_reducible refine LeO.bind ?_ (fun _ => ?_))
   | exact LeO.none _
   | refine LeO.ite ?_ ?_
   | refine LeO.bind ?_ (fun _ => ?_)
theorem tree_twin.mono : ∀ a0 a1 a2 a3 a4 a5 a6 k, LeO (tree_twin.f k a0 a1 a2 a3 a4 a5 a6) (tree_twin.f (k + 1) a0 a1 a2 a3 a4 a5 a6) := by
 intro a0 a1 a2 a3 a4 a5 a6 k
 obtain ⟨ih0, ih1⟩ := tree_twin.mono_l k
 exact ih0 a0 a1 a2 a3 a4 a5 a6
set_option maxHeartbeats 8000000 in
set_option maxRecDepth 100000 in
theorem tree_twin.calls (k : Nat) : ∀ (a0_0 : Int) (a0_1 : ByteArray) (a0_2 : Int) (a0_3 : Int) (a0_4 : ByteArray) (A0_5 : Option Addr) (c0_5 : Nat) (l0_5 : List (S26)) (a0_6 : Int) (r1 : Int) (r2 : ByteArray) (r3 : Int) (r4 : Int) (r5 : ByteArray) (r6 : List (S26)) (r7 : Int) (w : World) (hr0_5 : Kd.C k26 w A0_5 l0_5.length l0_5) (hc0_5 : l0_5.length ≤ c0_5) (h : tree_twin.f k a0_0 a0_1 a0_2 a0_3 a0_4 l0_5 a0_6 = some (r1, r2, r3, r4, r5, r6, r7)),
  Calls Try.prog 38 #[.agg #[.int .i64 a0_0, .string a0_1, .int .u32 a0_2, .int .i64 a0_3, .string a0_4, .slice A0_5 l0_5.length c0_5, .int .i64 a0_6]] w fun e w' => ∃ v5_ : Value, e = .returned (.agg #[.int .i64 r1, .string r2, .int .u32 r3, .int .i64 r4, .string r5, v5_, .int .i64 r7]) ∧ Kd.R k26 26 w' w.heap.size (fun _ => True) v5_ r6 ∧ Below w.heap.size w w' := by
 induction k using Nat.strongRecOn with
 | _ k ih =>
 intro a0_0 a0_1 a0_2 a0_3 a0_4 A0_5 c0_5 l0_5 a0_6 r1 r2 r3 r4 r5 r6 r7 w hr0_5 hc0_5 h
 cases k with
 | zero => exact absurd h (by simp [tree_twin.f])
 | succ k =>
 simp only [tree_twin.f] at h
 have hu26 := Try.underlying26
 have HR0_5 := Aside0.mk hr0_5
 have HC0_5 := Aside0.mk hc0_5
 clear hr0_5 hc0_5
 have HB := Aside0.mk (Below.refl w.heap.size w)
 have H : (tree_twin.l0 k ([] : List (S26)) l0_5 (l0_5.length : Int) 0 a0_0 a0_1 a0_2 a0_3 a0_4 l0_5 a0_6) = some (r1, r2, r3, r4, r5, r6, r7) := h
 clear h
 have H' := Aside0.mk H
 clear H
 go_enter Try.func38, Try.ntmps38
 go_wp2_with (first | ((with_reducible refine gate_dst (N := 1) rfl ?_); refine box_event ?hg (N := 1) ?hd (cs := #[.int .i64 a0_0, .string a0_1, .int .u32 a0_2, .int .i64 a0_3, .string a0_4, .slice A0_5 l0_5.length c0_5, .int .i64 a0_6]) (t := 26) ?hr ?_; (case hd => rfl); (case hg => rfl); (case hr => first | (go_simp; done) | (go_simp; rfl)); intro gb154 hg w2 hbox hb; have BK154 := Aside0.mk (hbox); have GW154 := Aside0.mk ((by rw [hg]; exact (below_size (by repeat (first | (with_reducible first | exact HB.out | apply below_alloc | apply pw_below_drewN | apply below_drew1) | exact HB.out))) : w.heap.size ≤ gb154)); have GE154 := Aside0.mk ((by rw [hg]; exact (below_size (by repeat (first | (with_reducible first | exact HB.out | apply below_alloc | apply pw_below_drewN | apply below_drew1) | exact HB.out))) : w.heap.size ≤ gb154)); replace HB := Aside0.mk (below_step (by repeat (first | (with_reducible first | exact HB.out | apply below_alloc | apply pw_below_drewN | apply below_drew1) | exact HB.out)) hb); clear hb hbox hg) | ((with_reducible refine gate_dst (N := 2) rfl ?_); refine box_event ?hg (N := 2) ?hd (cs := #[.int .i64 0, .string (⟨#[]⟩ : ByteArray), .int .u32 0, .int .i64 0, .string (⟨#[]⟩ : ByteArray), .slice none 0 0, .int .i64 0]) (t := 26) ?hr ?_; (case hd => rfl); (case hg => rfl); (case hr => first | (go_simp; done) | (go_simp; rfl)); intro gb155 hg w3 hbox hb; have BK155 := Aside0.mk (hbox); have GW155 := Aside0.mk ((by rw [hg]; exact (below_size (by repeat (first | (with_reducible first | exact HB.out | apply below_alloc | apply pw_below_drewN | apply below_drew1 | refine below_set ?_ GE154.out) | exact HB.out))) : w.heap.size ≤ gb155)); have GE155 := Aside0.mk ((by rw [hg]; exact (below_size (by repeat (first | (with_reducible first | exact HB.out | apply below_alloc | apply pw_below_drewN | apply below_drew1 | refine below_set ?_ GE154.out) | exact HB.out))) : w.heap.size ≤ gb155)); replace HB := Aside0.mk (below_step (by repeat (first | (with_reducible first | exact HB.out | apply below_alloc | apply pw_below_drewN | apply below_drew1 | refine below_set ?_ GE154.out) | exact HB.out)) hb); have NB154_155 := Aside0.mk ((by rw [hg]; exact Nat.ne_of_lt (blk_lt (by (with_reducible repeat (first | refine blk_drewN ?_ _ | refine blk_drew ?_ | refine blk_alloc ?_ _)); exact BK154.out)) : gb154 ≠ gb155)); have NB155_154 := Aside0.mk ((by rw [hg]; exact Nat.ne_of_gt (blk_lt (by (with_reducible repeat (first | refine blk_drewN ?_ _ | refine blk_drew ?_ | refine blk_alloc ?_ _)); exact BK154.out)) : gb155 ≠ gb154)); replace BK154 := Aside0.mk (blk_below (by (with_reducible repeat (first | refine blk_drewN ?_ _ | refine blk_drew ?_ | refine blk_alloc ?_ _)); exact BK154.out) hb); clear hb hbox hg; have hnb4 := NB154_155.out; have hnc4 := NB155_154.out; obtain ⟨hcz5_0, hcz5_1, hcz5_2, hcz5_3, hcz5_4, hcz5_5, hcz5_6, hfz5_0, hfz5_1, hfz5_2, hfz5_3, hfz5_4, hfz5_5, hfz5_6⟩ := blk7 BK154.out))
 go_loopg [3, 9] k (fun kq v3 v9 w' => ∃ (x3_1 : List (S26)) (x9_1 : Int), v9 = .int .i64 x9_1 ∧ Aside0 (tree_twin.l0 kq x3_1 l0_5 (l0_5.length : Int) x9_1 a0_0 a0_1 a0_2 a0_3 a0_4 l0_5 a0_6 = some (r1, r2, r3, r4, r5, r6, r7)) ∧ Aside0 (kq ≤ k) ∧ Aside0 (Kd.R k26 26 w' w.heap.size (fun k_ => k_ ≠ gb154 ∧ k_ ≠ gb155) v3 x3_1) ∧ Aside0 (w'.heap[gb154]? = some (.cells #[.int .i64 a0_0, .string a0_1, .int .u32 a0_2, .int .i64 a0_3, .string a0_4, (.slice A0_5 l0_5.length c0_5), .int .i64 a0_6] 26 (0, 0))) ∧ Aside0 (w'.heap[gb155]? = some (.cells #[.int .i64 0, .string (⟨#[]⟩ : ByteArray), .int .u32 0, .int .i64 0, .string (⟨#[]⟩ : ByteArray), (.slice none 0 0), .int .i64 0] 26 (0, 0))) ∧ Aside0 (Below w.heap.size w w'))
 case atStart => exact ⟨(([] : List (S26))), (0), (by first | rfl | (simp; done) | (simp [*]; done) | (simp; exact (fun l : List UInt8 => (by cases l <;> rfl : l.isEmpty = !(l != []))) _)), H', ⟨Nat.le_refl _⟩, ⟨by first | exact Kd.R_nil _ _ _ _ _ | exact Kd.N_nil _ _ _ _ _ | exact Kd.V_nil _ _ _ _ _ | exact Kd.Q_nil _ _ _ _ _ | exact Kd.S_nil _ _ _ _ _⟩, ⟨by (with_reducible repeat (first | refine blk_drewN ?_ _ | refine blk_drew ?_ | refine blk_alloc ?_ _)); exact BK154.out⟩, ⟨by (with_reducible repeat (first | refine blk_drewN ?_ _ | refine blk_drew ?_ | refine blk_alloc ?_ _)); exact BK155.out⟩, ⟨by repeat (first | (with_reducible first | exact HB.out | apply below_alloc | apply pw_below_drewN | apply below_drew1 | refine below_set ?_ GE154.out | refine below_set ?_ GE155.out) | exact HB.out)⟩⟩
 case round =>
  clear H'
  try clear p2
  try clear c3
  try clear c4
  try clear hcz5_0 hcz5_1 hcz5_2 hcz5_3 hcz5_4 hcz5_5 hcz5_6
  try clear hfz5_0 hfz5_1 hfz5_2 hfz5_3 hfz5_4 hfz5_5 hfz5_6
  obtain ⟨x3_1, x9_1, rfl, HA, HK1, HO_3, BK154, BK155, HB⟩ := hrel
  cases gk with
  | zero => exact absurd HA.out (by simp [tree_twin.l0])
  | succ k1 =>
   have H := HA.out
   clear HA
   simp only [tree_twin.l0] at H
   by_cases c6 : x9_1 < (l0_5.length : Int)
   ·rw [if_pos c6] at H
    have c6b0 : decide (x9_1 < (l0_5.length : Int)) = true := decide_eq_true c6
    clear c6
    by_cases c7 : 0 ≤ x9_1
    case neg => rw [if_neg c7] at H; exact absurd H (by simp)
    rw [if_pos c7] at H
    have c7b0 : decide (0 ≤ x9_1) = true := decide_eq_true c7
    clear c7
    by_cases c8 : x9_1 < (l0_5.length : Int)
    case neg => rw [if_neg c8] at H; exact absurd H (by simp)
    rw [if_pos c8] at H
    have c8b0 : decide (x9_1 < (l0_5.length : Int)) = true := decide_eq_true c8
    clear c8
    replace H := Option.bind_eq_some_iff.mp H
    obtain ⟨⟨t158, t159, t160, t161, t162, t163, t166⟩, A90, H⟩ := H
    replace H : (if x3_1.length < 1599289640401 then (tree_twin.l0 k1 (x3_1 ++ [(⟨t158, t159, t160, t161, t162, t163, t166⟩ : S26)]) l0_5 (l0_5.length : Int) (wrap64 (x9_1 + 1)) a0_0 a0_1 a0_2 a0_3 a0_4 l0_5 a0_6) else (none)) = some (r1, r2, r3, r4, r5, r6, r7) := H
    have A9 := Aside0.mk A90
    clear A90
    by_cases c10 : x3_1.length < 1599289640401
    case neg => rw [if_neg c10] at H; exact absurd H (by simp)
    rw [if_pos c10] at H
    have LMc10 := Aside0.mk c10
    clear c10
    obtain ⟨y167, hy167⟩ : ∃ y_ : List (S26), y_ = (x3_1 ++ [(⟨t158, t159, t160, t161, t162, t163, t166⟩ : S26)]) := ⟨_, rfl⟩
    replace H : (tree_twin.l0 k1 y167 l0_5 (l0_5.length : Int) (wrap64 (x9_1 + 1)) a0_0 a0_1 a0_2 a0_3 a0_4 l0_5 a0_6) = some (r1, r2, r3, r4, r5, r6, r7) := by first | (rw [hy167]; with_reducible exact H) | (have H2_ := (Option.bind_some _ _).symm.trans H; rw [hy167]; with_reducible exact H2_) | (have H2_ := (Option.bind_some _ _).symm.trans H; with_reducible exact H2_) | with_reducible exact H | (rw [hy167]; exact H) | exact H
    have Ny167 := Aside0.mk hy167
    clear hy167
    have H' := Aside0.mk H
    clear H
    have p156 : 0 ≤ (x9_1 : Int) := of_decide_eq_true (by first | (with_reducible assumption) | assumption)
    have q156 : x9_1 < (l0_5.length : Int) := of_decide_eq_true (by first | (with_reducible assumption) | assumption)
    obtain ⟨ad156, A156_5, c156_5, e156, hx156_0, hx156_1, hx156_2, hx156_3, hx156_4, hx156_5, hx156_6, hl156_5, hi156_5⟩ := at_T26 HR0_5.out x9_1 p156 q156
    cases e156
    replace hx156_0 := (HB.out.cell (World.block_lt_of_cell? w _ hx156_0)).trans hx156_0
    replace hx156_1 := (HB.out.cell (World.block_lt_of_cell? w _ hx156_1)).trans hx156_1
    replace hx156_2 := (HB.out.cell (World.block_lt_of_cell? w _ hx156_2)).trans hx156_2
    replace hx156_3 := (HB.out.cell (World.block_lt_of_cell? w _ hx156_3)).trans hx156_3
    replace hx156_4 := (HB.out.cell (World.block_lt_of_cell? w _ hx156_4)).trans hx156_4
    replace hx156_5 := (HB.out.cell (World.block_lt_of_cell? w _ hx156_5)).trans hx156_5
    replace hx156_6 := (HB.out.cell (World.block_lt_of_cell? w _ hx156_6)).trans hx156_6
    have HR156_5 := Aside0.mk hi156_5
    have HC156_5 := Aside0.mk hl156_5
    clear hi156_5 hl156_5
    replace p156 := eq_true p156
    replace q156 := eq_true q156
    go_wp2_with (first | ((with_reducible refine gate_dst (N := 5) rfl ?_); refine box_event ?hg (N := 5) ?hd (cs := #[.int .i64 0, .string (⟨#[]⟩ : ByteArray), .int .u32 0, .int .i64 0, .string (⟨#[]⟩ : ByteArray), .slice none 0 0, .int .i64 0]) (t := 26) ?hr ?_; (case hd => rfl); (case hg => rfl); (case hr => first | (go_simp; done) | (go_simp; rfl)); intro gb157 hg w11 hbox hb; replace HO_3 := Aside0.mk (Kd.R_below (Kd.R_elderB (by (with_reducible repeat (first | apply Kd.R_alloc | apply Kd.R_drewN | apply Kd.R_drew)); exact HO_3.out) gb157 (Nat.le_of_eq hg.symm)) hb); have BK157 := Aside0.mk (hbox); have GW157 := Aside0.mk ((by rw [hg]; exact (below_size (by repeat (first | (with_reducible first | exact HB.out | apply below_alloc | apply pw_below_drewN | apply below_drew1 | refine below_set ?_ GE154.out | refine below_set ?_ GE155.out) | exact HB.out))) : w.heap.size ≤ gb157)); have GE157 := Aside0.mk ((by rw [hg]; exact (below_size (by repeat (first | (with_reducible first | exact HB.out | apply below_alloc | apply pw_below_drewN | apply below_drew1 | refine below_set ?_ GE154.out | refine below_set ?_ GE155.out) | exact HB.out))) : w.heap.size ≤ gb157)); replace HB := Aside0.mk (below_step (by repeat (first | (with_reducible first | exact HB.out | apply below_alloc | apply pw_below_drewN | apply below_drew1 | refine below_set ?_ GE154.out | refine below_set ?_ GE155.out) | exact HB.out)) hb); have NB154_157 := Aside0.mk ((by rw [hg]; exact Nat.ne_of_lt (blk_lt (by (with_reducible repeat (first | refine blk_drewN ?_ _ | refine blk_drew ?_ | refine blk_alloc ?_ _)); exact BK154.out)) : gb154 ≠ gb157)); have NB157_154 := Aside0.mk ((by rw [hg]; exact Nat.ne_of_gt (blk_lt (by (with_reducible repeat (first | refine blk_drewN ?_ _ | refine blk_drew ?_ | refine blk_alloc ?_ _)); exact BK154.out)) : gb157 ≠ gb154)); replace BK154 := Aside0.mk (blk_below (by (with_reducible repeat (first | refine blk_drewN ?_ _ | refine blk_drew ?_ | refine blk_alloc ?_ _)); exact BK154.out) hb); have NB155_157 := Aside0.mk ((by rw [hg]; exact Nat.ne_of_lt (blk_lt (g := gb155) (o := .cells #[.int .i64 0, .string (⟨#[]⟩ : ByteArray), .int .u32 0, .int .i64 0, .string (⟨#[]⟩ : ByteArray), .slice none 0 0, .int .i64 0] 26 (0, 0)) (by (with_reducible repeat (first | refine blk_drewN ?_ _ | refine blk_drew ?_ | refine blk_alloc ?_ _)); exact BK155.out)) : gb155 ≠ gb157)); have NB157_155 := Aside0.mk ((by rw [hg]; exact Nat.ne_of_gt (blk_lt (g := gb155) (o := .cells #[.int .i64 0, .string (⟨#[]⟩ : ByteArray), .int .u32 0, .int .i64 0, .string (⟨#[]⟩ : ByteArray), .slice none 0 0, .int .i64 0] 26 (0, 0)) (by (with_reducible repeat (first | refine blk_drewN ?_ _ | refine blk_drew ?_ | refine blk_alloc ?_ _)); exact BK155.out)) : gb157 ≠ gb155)); replace BK155 := Aside0.mk (blk_below (g := gb155) (o := .cells #[.int .i64 0, .string (⟨#[]⟩ : ByteArray), .int .u32 0, .int .i64 0, .string (⟨#[]⟩ : ByteArray), .slice none 0 0, .int .i64 0] 26 (0, 0)) (by (with_reducible repeat (first | refine blk_drewN ?_ _ | refine blk_drew ?_ | refine blk_alloc ?_ _)); exact BK155.out) hb); clear hb hbox hg; have hnb12 := NB157_154.out; have hnc12 := NB154_157.out; have hnb13 := NB157_155.out; have hnc13 := NB155_157.out; obtain ⟨hcz14_0, hcz14_1, hcz14_2, hcz14_3, hcz14_4, hcz14_5, hcz14_6, hfz14_0, hfz14_1, hfz14_2, hfz14_3, hfz14_4, hfz14_5, hfz14_6⟩ := blk7 BK157.out) | ((with_reducible refine gate_callee (f := 38) rfl ?_); refine goesL_ (some 15) rfl rfl Try.func38 (by kernel_rfl) rfl #[.agg #[.int .i64 ((rd_T26 l0_5 x9_1).f0), .string ((rd_T26 l0_5 x9_1).f1), .int .u32 ((rd_T26 l0_5 x9_1).f2), .int .i64 ((rd_T26 l0_5 x9_1).f3), .string ((rd_T26 l0_5 x9_1).f4), .slice A156_5 ((rd_T26 l0_5 x9_1).f5).length c156_5, .int .i64 ((rd_T26 l0_5 x9_1).f6)]] rfl (by (try simp only [List.map_toArray, List.map_cons, List.map_nil]); first | done | rfl | (simp only [List.length_drop, List.length_take]; rfl)) ?_; (with_reducible refine (ih k1 (by have := HK1.out; omega) ((rd_T26 l0_5 x9_1).f0) ((rd_T26 l0_5 x9_1).f1) ((rd_T26 l0_5 x9_1).f2) ((rd_T26 l0_5 x9_1).f3) ((rd_T26 l0_5 x9_1).f4) _ _ ((rd_T26 l0_5 x9_1).f5) ((rd_T26 l0_5 x9_1).f6) t158 t159 t160 t161 t162 t163 t166 _ ?side1 ?side2 A9.out).mono ?_); (case side1 => exact Kd.C_below HR156_5.out (by repeat (first | (with_reducible first | exact HB.out | apply below_alloc | apply pw_below_drewN | apply below_drew1 | refine below_set ?_ GE154.out | refine below_set ?_ GE155.out | refine below_set ?_ GE157.out) | exact HB.out))); (case side2 => exact HC156_5.out); rintro e w15 ⟨v164, rfl, ho0, hb⟩; refine ⟨_, rfl, ?_⟩; have HO165 := Aside0.mk (Kd.R_lower (Kd.R_newB (Kd.R_newB (Kd.R_newB (Kd.R_new' ho0 (Kd.R_lt (by (with_reducible repeat (first | apply Kd.R_alloc | apply Kd.R_drewN | apply Kd.R_drew)); exact (Kd.R_mono (Kd.R_far (p := ⟨gb157, 6, none⟩) (Kd.R_far (p := ⟨gb157, 5, none⟩) (Kd.R_far (p := ⟨gb157, 4, none⟩) (Kd.R_far (p := ⟨gb157, 3, none⟩) (Kd.R_far (p := ⟨gb157, 2, none⟩) (Kd.R_far (p := ⟨gb157, 1, none⟩) (Kd.R_far (p := ⟨gb157, 0, none⟩) (Kd.R_mono HO_3.out (fun k_ hk => (⟨hk, hk.2⟩ : _ ∧ k_ ≠ gb157))) (fun _ hk => hk.2) (.int .i64 ((rd_T26 l0_5 x9_1).f0))) (fun _ hk => hk.2) (.string ((rd_T26 l0_5 x9_1).f1))) (fun _ hk => hk.2) (.int .u32 ((rd_T26 l0_5 x9_1).f2))) (fun _ hk => hk.2) (.int .i64 ((rd_T26 l0_5 x9_1).f3))) (fun _ hk => hk.2) (.string ((rd_T26 l0_5 x9_1).f4))) (fun _ hk => hk.2) (.slice A156_5 ((rd_T26 l0_5 x9_1).f5).length c156_5)) (fun _ hk => hk.2) (.int .i64 ((rd_T26 l0_5 x9_1).f6))) (fun _ h_ => h_.1))))) (g := gb154) (o := .cells #[.int .i64 a0_0, .string a0_1, .int .u32 a0_2, .int .i64 a0_3, .string a0_4, .slice (some ad156) l0_5.length c0_5, .int .i64 a0_6] 26 (0, 0)) (by (repeat (first | (with_reducible first | refine blk_drewN ?_ _ | refine blk_drew ?_ | refine blk_alloc ?_ _) | refine blk_far ?_ NB154_157.out _)); exact BK154.out)) (g := gb155) (o := .cells #[.int .i64 0, .string (⟨#[]⟩ : ByteArray), .int .u32 0, .int .i64 0, .string (⟨#[]⟩ : ByteArray), .slice none 0 0, .int .i64 0] 26 (0, 0)) (by (repeat (first | (with_reducible first | refine blk_drewN ?_ _ | refine blk_drew ?_ | refine blk_alloc ?_ _) | refine blk_far ?_ NB155_157.out _)); exact BK155.out)) (g := gb157) (o := .cells #[.int .i64 ((rd_T26 l0_5 x9_1).f0), .string ((rd_T26 l0_5 x9_1).f1), .int .u32 ((rd_T26 l0_5 x9_1).f2), .int .i64 ((rd_T26 l0_5 x9_1).f3), .string ((rd_T26 l0_5 x9_1).f4), .slice A156_5 ((rd_T26 l0_5 x9_1).f5).length c156_5, .int .i64 ((rd_T26 l0_5 x9_1).f6)] 26 (0, 0)) (by (with_reducible repeat (first | refine blk_drewN ?_ _ | refine blk_drew ?_ | refine blk_alloc ?_ _)); refine blk_put (cs := #[.int .i64 ((rd_T26 l0_5 x9_1).f0), .string ((rd_T26 l0_5 x9_1).f1), .int .u32 ((rd_T26 l0_5 x9_1).f2), .int .i64 ((rd_T26 l0_5 x9_1).f3), .string ((rd_T26 l0_5 x9_1).f4), .slice A156_5 ((rd_T26 l0_5 x9_1).f5).length c156_5, .int .i64 0]) ?_ 6 _ rfl; refine blk_put (cs := #[.int .i64 ((rd_T26 l0_5 x9_1).f0), .string ((rd_T26 l0_5 x9_1).f1), .int .u32 ((rd_T26 l0_5 x9_1).f2), .int .i64 ((rd_T26 l0_5 x9_1).f3), .string ((rd_T26 l0_5 x9_1).f4), .slice none 0 0, .int .i64 0]) ?_ 5 _ rfl; refine blk_put (cs := #[.int .i64 ((rd_T26 l0_5 x9_1).f0), .string ((rd_T26 l0_5 x9_1).f1), .int .u32 ((rd_T26 l0_5 x9_1).f2), .int .i64 ((rd_T26 l0_5 x9_1).f3), .string (⟨#[]⟩ : ByteArray), .slice none 0 0, .int .i64 0]) ?_ 4 _ rfl; refine blk_put (cs := #[.int .i64 ((rd_T26 l0_5 x9_1).f0), .string ((rd_T26 l0_5 x9_1).f1), .int .u32 ((rd_T26 l0_5 x9_1).f2), .int .i64 0, .string (⟨#[]⟩ : ByteArray), .slice none 0 0, .int .i64 0]) ?_ 3 _ rfl; refine blk_put (cs := #[.int .i64 ((rd_T26 l0_5 x9_1).f0), .string ((rd_T26 l0_5 x9_1).f1), .int .u32 0, .int .i64 0, .string (⟨#[]⟩ : ByteArray), .slice none 0 0, .int .i64 0]) ?_ 2 _ rfl; refine blk_put (cs := #[.int .i64 ((rd_T26 l0_5 x9_1).f0), .string (⟨#[]⟩ : ByteArray), .int .u32 0, .int .i64 0, .string (⟨#[]⟩ : ByteArray), .slice none 0 0, .int .i64 0]) ?_ 1 _ rfl; refine blk_put (cs := #[.int .i64 0, .string (⟨#[]⟩ : ByteArray), .int .u32 0, .int .i64 0, .string (⟨#[]⟩ : ByteArray), .slice none 0 0, .int .i64 0]) ?_ 0 _ rfl; (with_reducible repeat (first | refine blk_drewN ?_ _ | refine blk_drew ?_ | refine blk_alloc ?_ _)); exact BK157.out)) (below_size (by repeat (first | (with_reducible first | exact HB.out | apply below_alloc | apply pw_below_drewN | apply below_drew1 | refine below_set ?_ GE154.out | refine below_set ?_ GE155.out | refine below_set ?_ GE157.out) | exact HB.out)))); replace HO_3 := Aside0.mk (Kd.R_elder' (by (with_reducible repeat (first | apply Kd.R_alloc | apply Kd.R_drewN | apply Kd.R_drew)); exact (Kd.R_mono (Kd.R_far (p := ⟨gb157, 6, none⟩) (Kd.R_far (p := ⟨gb157, 5, none⟩) (Kd.R_far (p := ⟨gb157, 4, none⟩) (Kd.R_far (p := ⟨gb157, 3, none⟩) (Kd.R_far (p := ⟨gb157, 2, none⟩) (Kd.R_far (p := ⟨gb157, 1, none⟩) (Kd.R_far (p := ⟨gb157, 0, none⟩) (Kd.R_mono HO_3.out (fun k_ hk => (⟨hk, hk.2⟩ : _ ∧ k_ ≠ gb157))) (fun _ hk => hk.2) (.int .i64 ((rd_T26 l0_5 x9_1).f0))) (fun _ hk => hk.2) (.string ((rd_T26 l0_5 x9_1).f1))) (fun _ hk => hk.2) (.int .u32 ((rd_T26 l0_5 x9_1).f2))) (fun _ hk => hk.2) (.int .i64 ((rd_T26 l0_5 x9_1).f3))) (fun _ hk => hk.2) (.string ((rd_T26 l0_5 x9_1).f4))) (fun _ hk => hk.2) (.slice A156_5 ((rd_T26 l0_5 x9_1).f5).length c156_5)) (fun _ hk => hk.2) (.int .i64 ((rd_T26 l0_5 x9_1).f6))) (fun _ h_ => h_.1))) (Kd.R_base ho0) hb); replace BK154 := Aside0.mk (blk_below (g := gb154) (o := .cells #[.int .i64 a0_0, .string a0_1, .int .u32 a0_2, .int .i64 a0_3, .string a0_4, .slice (some ad156) l0_5.length c0_5, .int .i64 a0_6] 26 (0, 0)) (by (repeat (first | (with_reducible first | refine blk_drewN ?_ _ | refine blk_drew ?_ | refine blk_alloc ?_ _) | refine blk_far ?_ NB154_157.out _)); exact BK154.out) hb); replace BK155 := Aside0.mk (blk_below (g := gb155) (o := .cells #[.int .i64 0, .string (⟨#[]⟩ : ByteArray), .int .u32 0, .int .i64 0, .string (⟨#[]⟩ : ByteArray), .slice none 0 0, .int .i64 0] 26 (0, 0)) (by (repeat (first | (with_reducible first | refine blk_drewN ?_ _ | refine blk_drew ?_ | refine blk_alloc ?_ _) | refine blk_far ?_ NB155_157.out _)); exact BK155.out) hb); replace BK157 := Aside0.mk (blk_below (g := gb157) (o := .cells #[.int .i64 ((rd_T26 l0_5 x9_1).f0), .string ((rd_T26 l0_5 x9_1).f1), .int .u32 ((rd_T26 l0_5 x9_1).f2), .int .i64 ((rd_T26 l0_5 x9_1).f3), .string ((rd_T26 l0_5 x9_1).f4), .slice A156_5 ((rd_T26 l0_5 x9_1).f5).length c156_5, .int .i64 ((rd_T26 l0_5 x9_1).f6)] 26 (0, 0)) (by (with_reducible repeat (first | refine blk_drewN ?_ _ | refine blk_drew ?_ | refine blk_alloc ?_ _)); refine blk_put (cs := #[.int .i64 ((rd_T26 l0_5 x9_1).f0), .string ((rd_T26 l0_5 x9_1).f1), .int .u32 ((rd_T26 l0_5 x9_1).f2), .int .i64 ((rd_T26 l0_5 x9_1).f3), .string ((rd_T26 l0_5 x9_1).f4), .slice A156_5 ((rd_T26 l0_5 x9_1).f5).length c156_5, .int .i64 0]) ?_ 6 _ rfl; refine blk_put (cs := #[.int .i64 ((rd_T26 l0_5 x9_1).f0), .string ((rd_T26 l0_5 x9_1).f1), .int .u32 ((rd_T26 l0_5 x9_1).f2), .int .i64 ((rd_T26 l0_5 x9_1).f3), .string ((rd_T26 l0_5 x9_1).f4), .slice none 0 0, .int .i64 0]) ?_ 5 _ rfl; refine blk_put (cs := #[.int .i64 ((rd_T26 l0_5 x9_1).f0), .string ((rd_T26 l0_5 x9_1).f1), .int .u32 ((rd_T26 l0_5 x9_1).f2), .int .i64 ((rd_T26 l0_5 x9_1).f3), .string (⟨#[]⟩ : ByteArray), .slice none 0 0, .int .i64 0]) ?_ 4 _ rfl; refine blk_put (cs := #[.int .i64 ((rd_T26 l0_5 x9_1).f0), .string ((rd_T26 l0_5 x9_1).f1), .int .u32 ((rd_T26 l0_5 x9_1).f2), .int .i64 0, .string (⟨#[]⟩ : ByteArray), .slice none 0 0, .int .i64 0]) ?_ 3 _ rfl; refine blk_put (cs := #[.int .i64 ((rd_T26 l0_5 x9_1).f0), .string ((rd_T26 l0_5 x9_1).f1), .int .u32 0, .int .i64 0, .string (⟨#[]⟩ : ByteArray), .slice none 0 0, .int .i64 0]) ?_ 2 _ rfl; refine blk_put (cs := #[.int .i64 ((rd_T26 l0_5 x9_1).f0), .string (⟨#[]⟩ : ByteArray), .int .u32 0, .int .i64 0, .string (⟨#[]⟩ : ByteArray), .slice none 0 0, .int .i64 0]) ?_ 1 _ rfl; refine blk_put (cs := #[.int .i64 0, .string (⟨#[]⟩ : ByteArray), .int .u32 0, .int .i64 0, .string (⟨#[]⟩ : ByteArray), .slice none 0 0, .int .i64 0]) ?_ 0 _ rfl; (with_reducible repeat (first | refine blk_drewN ?_ _ | refine blk_drew ?_ | refine blk_alloc ?_ _)); exact BK157.out) hb); replace HB := Aside0.mk (below_step (by repeat (first | (with_reducible first | exact HB.out | apply below_alloc | apply pw_below_drewN | apply below_drew1 | refine below_set ?_ GE154.out | refine below_set ?_ GE155.out | refine below_set ?_ GE157.out) | exact HB.out)) hb); (try clear hb); (try clear hb2); (try clear hk); (try clear hi); (try clear ho0); obtain ⟨Ao17, co17, eo17⟩ := Kd.R_slice HO165.out; subst eo17) | ((with_reducible refine gate_builtin (b := .append) (xs := #[.tmp 13, .tmp 16]) rfl ?_); at_builtin; refine Kd.R_append k26 (w0 := w) w.heap.size rfl (.tmp 13) (.tmp 16) 24 26 (.agg #[(.int .i64 0), (.string ⟨#[]⟩), (.int .u32 0), (.int .i64 0), (.string ⟨#[]⟩), (.slice none 0 0), (.int .i64 0)]) 88 rfl Try.underlying24 info26 rfl (by decide) (by omega) u3 x3_1 (⟨t158, t159, t160, t161, t162, t163, t166⟩ : S26) [.int .i64 t158, .string t159, .int .u32 t160, .int .i64 t161, .string t162, .slice Ao17 t163.length co17, .int .i64 t166] (fun k_ => k_ ≠ gb154 ∧ k_ ≠ gb155 ∧ k_ ≠ gb157) (fun k_ => ((fun k_ => k_ ≠ gb154 ∧ k_ ≠ gb155 ∧ k_ ≠ gb157)) k_ ∧ some k_ ≠ (u3 : Value).ownBlock) rfl rfl ?aP (fun _ hk => hk) ?aF ?aO ?aB ?aS ?aL ?_; (case aP => exact k26_mkM _ _ _ (⟨t158, t159, t160, t161, t162, t163, t166⟩ : S26) (Kd.R_mono (HO165.out) (fun k_ hk => ⟨⟨hk.1.1.2, ⟨hk.1.2, hk.2⟩⟩, hk.1.1.1.2⟩))); (case aB => exact (by repeat (first | (with_reducible first | exact HB.out | apply below_alloc | apply pw_below_drewN | apply below_drew1 | refine below_set ?_ GE154.out | refine below_set ?_ GE155.out | refine below_set ?_ GE157.out) | exact HB.out))); (case aF => exact (fun k_ hk => ⟨Kd.freshB (by (with_reducible repeat (first | refine blk_drewN ?_ _ | refine blk_drew ?_ | refine blk_alloc ?_ _)); exact BK154.out) k_ hk, Kd.freshB (g := gb155) (o := .cells #[.int .i64 0, .string (⟨#[]⟩ : ByteArray), .int .u32 0, .int .i64 0, .string (⟨#[]⟩ : ByteArray), .slice none 0 0, .int .i64 0] 26 (0, 0)) (by (with_reducible repeat (first | refine blk_drewN ?_ _ | refine blk_drew ?_ | refine blk_alloc ?_ _)); exact BK155.out) k_ hk, Kd.freshB (by (with_reducible repeat (first | refine blk_drewN ?_ _ | refine blk_drew ?_ | refine blk_alloc ?_ _)); exact BK157.out) k_ hk⟩)); (case aO => exact (by (with_reducible repeat (first | apply Kd.R_alloc | apply Kd.R_drewN | apply Kd.R_drew)); exact Kd.R_mono HO_3.out (fun _ hk => ⟨hk.1.1.1, ⟨hk.1.1.2, hk.1.2⟩⟩))); (case aS => exact (below_size (by repeat (first | (with_reducible first | exact HB.out | apply below_alloc | apply pw_below_drewN | apply below_drew1 | refine below_set ?_ GE154.out | refine below_set ?_ GE155.out | refine below_set ?_ GE157.out) | exact HB.out)))); (case aL => have := LMc10.out; omega); intro v168 w16 ho hb hg hat; rw [← Ny167.out] at ho; replace BK154 := Aside0.mk (blk_grown (by (with_reducible repeat (first | refine blk_drewN ?_ _ | refine blk_drew ?_ | refine blk_alloc ?_ _)); exact BK154.out) hg (Kd.R_away HO_3.out (fun _ hk => hk.1.1.1))); replace BK155 := Aside0.mk (blk_grown (g := gb155) (o := .cells #[.int .i64 0, .string (⟨#[]⟩ : ByteArray), .int .u32 0, .int .i64 0, .string (⟨#[]⟩ : ByteArray), .slice none 0 0, .int .i64 0] 26 (0, 0)) (by (with_reducible repeat (first | refine blk_drewN ?_ _ | refine blk_drew ?_ | refine blk_alloc ?_ _)); exact BK155.out) hg (Kd.R_away HO_3.out (fun _ hk => hk.1.1.2))); replace BK157 := Aside0.mk (blk_grown (by (with_reducible repeat (first | refine blk_drewN ?_ _ | refine blk_drew ?_ | refine blk_alloc ?_ _)); exact BK157.out) hg (Kd.R_away HO_3.out (fun _ hk => hk.1.2))); replace HB := Aside0.mk (hb); have HO169 := Aside0.mk (ho); clear HO_3 HO165; clear ho hb hg hat))
    go_roundg k1
    case measure => have := HK1.out; omega
    case rel => exact ⟨(y167), (wrap64 (x9_1 + 1)), (by first | rfl | (simp; done) | (simp [*]; done) | (simp; exact (fun l : List UInt8 => (by cases l <;> rfl : l.isEmpty = !(l != []))) _)), H', ⟨by have := HK1.out; omega⟩, ⟨by (with_reducible repeat (first | apply Kd.R_alloc | apply Kd.R_drewN | apply Kd.R_drew)); exact Kd.R_mono HO169.out (fun _ hk => ⟨hk.1, hk.2.1⟩)⟩, ⟨by (with_reducible repeat (first | refine blk_drewN ?_ _ | refine blk_drew ?_ | refine blk_alloc ?_ _)); exact BK154.out⟩, ⟨by (with_reducible repeat (first | refine blk_drewN ?_ _ | refine blk_drew ?_ | refine blk_alloc ?_ _)); exact BK155.out⟩, ⟨by repeat (first | (with_reducible first | exact HB.out | apply below_alloc | apply pw_below_drewN | apply below_drew1 | refine below_set ?_ GE154.out | refine below_set ?_ GE155.out | refine below_set ?_ GE157.out) | exact HB.out)⟩⟩
   ·rw [if_neg c6] at H
    have c6b0 : decide (x9_1 < (l0_5.length : Int)) = false := decide_eq_false c6
    clear c6
    simp only [Option.some.injEq, Prod.mk.injEq] at H
    obtain ⟨rfl, rfl, rfl, rfl, rfl, rfl, rfl⟩ := H
    obtain ⟨Ao18, co18, eo18⟩ := Kd.R_slice HO_3.out
    subst eo18
    have hnb19 := NB154_155.out
    have hnc19 := NB155_154.out
    obtain ⟨hcz20_0, hcz20_1, hcz20_2, hcz20_3, hcz20_4, hcz20_5, hcz20_6, hfz20_0, hfz20_1, hfz20_2, hfz20_3, hfz20_4, hfz20_5, hfz20_6⟩ := blk7 BK154.out
    obtain ⟨hcz21_0, hcz21_1, hcz21_2, hcz21_3, hcz21_4, hcz21_5, hcz21_6, hfz21_0, hfz21_1, hfz21_2, hfz21_3, hfz21_4, hfz21_5, hfz21_6⟩ := blk7 BK155.out
    go_wp2
    refine bodyPost_ret (results_cell_row rfl _ _ gb155 26 #[.int .i64 a0_0, .string a0_1, .int .u32 a0_2, .int .i64 a0_3, .string a0_4, .slice Ao18 x3_1.length co18, .int .i64 a0_6] (0, 0) _ rfl (by (with_reducible repeat (first | refine blk_drewN ?_ _ | refine blk_drew ?_ | refine blk_alloc ?_ _)); refine blk_put (cs := #[.int .i64 a0_0, .string a0_1, .int .u32 a0_2, .int .i64 a0_3, .string a0_4, .slice Ao18 x3_1.length co18, .int .i64 0]) ?_ 6 _ rfl; refine blk_put (cs := #[.int .i64 a0_0, .string a0_1, .int .u32 a0_2, .int .i64 a0_3, .string a0_4, .slice none 0 0, .int .i64 0]) ?_ 5 _ rfl; refine blk_put (cs := #[.int .i64 a0_0, .string a0_1, .int .u32 a0_2, .int .i64 a0_3, .string (⟨#[]⟩ : ByteArray), .slice none 0 0, .int .i64 0]) ?_ 4 _ rfl; refine blk_put (cs := #[.int .i64 a0_0, .string a0_1, .int .u32 a0_2, .int .i64 0, .string (⟨#[]⟩ : ByteArray), .slice none 0 0, .int .i64 0]) ?_ 3 _ rfl; refine blk_put (cs := #[.int .i64 a0_0, .string a0_1, .int .u32 0, .int .i64 0, .string (⟨#[]⟩ : ByteArray), .slice none 0 0, .int .i64 0]) ?_ 2 _ rfl; refine blk_put (cs := #[.int .i64 a0_0, .string (⟨#[]⟩ : ByteArray), .int .u32 0, .int .i64 0, .string (⟨#[]⟩ : ByteArray), .slice none 0 0, .int .i64 0]) ?_ 1 _ rfl; refine blk_put (cs := #[.int .i64 0, .string (⟨#[]⟩ : ByteArray), .int .u32 0, .int .i64 0, .string (⟨#[]⟩ : ByteArray), .slice none 0 0, .int .i64 0]) ?_ 0 _ rfl; (with_reducible repeat (first | refine blk_drewN ?_ _ | refine blk_drew ?_ | refine blk_alloc ?_ _)); refine blk_far ?_ NB155_154.out _; (with_reducible repeat (first | refine blk_drewN ?_ _ | refine blk_drew ?_ | refine blk_alloc ?_ _)); exact BK155.out) Try.underlying26 rfl (by kernel_rfl)) rfl ?_
    exact ⟨_, by first | rfl | (simp [errW_none, errW_some] <;> rfl) | (simp [*, errW_none, errW_some] <;> rfl), by (with_reducible repeat (first | apply Kd.R_alloc | apply Kd.R_drewN | apply Kd.R_drew)); exact Kd.R_mono (Kd.R_far (p := ⟨gb155, 6, none⟩) (Kd.R_far (p := ⟨gb155, 5, none⟩) (Kd.R_far (p := ⟨gb155, 4, none⟩) (Kd.R_far (p := ⟨gb155, 3, none⟩) (Kd.R_far (p := ⟨gb155, 2, none⟩) (Kd.R_far (p := ⟨gb155, 1, none⟩) (Kd.R_far (p := ⟨gb155, 0, none⟩) (Kd.R_far (p := ⟨gb154, 5, none⟩) (Kd.R_mono (Kd.R_mono HO_3.out (fun k_ hk => (⟨hk, hk.1⟩ : _ ∧ k_ ≠ gb154))) (fun k_ hk => (⟨hk, hk.1.2⟩ : _ ∧ k_ ≠ gb155))) (fun _ hk => hk.1.2) (.slice Ao18 x3_1.length co18)) (fun _ hk => hk.2) (.int .i64 a0_0)) (fun _ hk => hk.2) (.string a0_1)) (fun _ hk => hk.2) (.int .u32 a0_2)) (fun _ hk => hk.2) (.int .i64 a0_3)) (fun _ hk => hk.2) (.string a0_4)) (fun _ hk => hk.2) (.slice Ao18 x3_1.length co18)) (fun _ hk => hk.2) (.int .i64 a0_6)) (fun _ hk => trivial), by repeat (first | (with_reducible first | exact HB.out | apply below_alloc | apply pw_below_drewN | apply below_drew1 | refine below_set ?_ GE154.out | refine below_set ?_ GE155.out) | exact HB.out)⟩

/-! ### tree_Find: function 27 -/
def tree_Find.l0 : Nat → List Int → Int → Int → Int → ByteArray → Int → Int → ByteArray → List (S26) → Int → Option (Int × ByteArray × Int × Int × ByteArray × (List (S26)) × Int × Bool)
 | 0, _, _, _, _, _, _, _, _, _, _ => none
 | k + 1, x8, x9, x10, x171000, x171001, x171002, x171003, x171004, x171005, x171006 => if x10 < x9 then (if 0 ≤ x10 then (if x10 < (x8.length : Int) then (if (rd x8 x10) < 0 then (some (0, (⟨#[]⟩ : ByteArray), 0, 0, (⟨#[]⟩ : ByteArray), ([] : List (S26)), 0, false)) else (if (rd x8 x10) ≥ (x171005.length : Int) then (some (0, (⟨#[]⟩ : ByteArray), 0, 0, (⟨#[]⟩ : ByteArray), ([] : List (S26)), 0, false)) else (if 0 ≤ (rd x8 x10) then (if (rd x8 x10) < (x171005.length : Int) then (tree_Find.l0 k x8 x9 (wrap64 (x10 + 1)) ((rd_T26 x171005 (rd x8 x10)).f0) ((rd_T26 x171005 (rd x8 x10)).f1) ((rd_T26 x171005 (rd x8 x10)).f2) ((rd_T26 x171005 (rd x8 x10)).f3) ((rd_T26 x171005 (rd x8 x10)).f4) ((rd_T26 x171005 (rd x8 x10)).f5) ((rd_T26 x171005 (rd x8 x10)).f6)) else (none)) else (none)))) else (none)) else (none)) else ((tree_twin.f k x171000 x171001 x171002 x171003 x171004 x171005 x171006).bind fun bt174 => (some (bt174.1, bt174.2.1, bt174.2.2.1, bt174.2.2.2.1, bt174.2.2.2.2.1, bt174.2.2.2.2.2.1, bt174.2.2.2.2.2.2, true)))
def tree_Find.f (k : Nat) (a0_0 : Int) (a0_1 : ByteArray) (a0_2 : Int) (a0_3 : Int) (a0_4 : ByteArray) (l0_5 : List (S26)) (a0_6 : Int) (l1 : List Int) : Option (Int × ByteArray × Int × Int × ByteArray × (List (S26)) × Int × Bool) := tree_Find.l0 k l1 (l1.length : Int) 0 a0_0 a0_1 a0_2 a0_3 a0_4 l0_5 a0_6
theorem tree_Find.mono_l : ∀ k, (∀ y0 y1 y2 y3 y4 y5 y6 y7 y8 y9, LeO (tree_Find.l0 k y0 y1 y2 y3 y4 y5 y6 y7 y8 y9) (tree_Find.l0 (k + 1) y0 y1 y2 y3 y4 y5 y6 y7 y8 y9))
 | 0 => fun _ _ _ _ _ _ _ _ _ _ r h => by simp [tree_Find.l0] at h
 | k + 1 => by
  have ih0 := tree_Find.mono_l k
  ·intro y0 y1 y2 y3 y4 y5 y6 y7 y8 y9
   unfold tree_Find.l0
   repeat' first
   | (with_reducible exact ih0 _ _ _ _ _ _ _ _ _ _)
   | (with_reducible exact tree_twin.mono _ _ _ _ _ _ _ _)
   | (with_reducible exact LeO.refl _)
   | (with_reducible exact LeO.none _)
   | (with_reducible refine LeO.ite ?_ ?_)
   | (with_reducible refine LeO.bind ?_ (fun _ => ?_))
   | exact LeO.none _
   | refine LeO.ite ?_ ?_
   | refine LeO.bind ?_ (fun _ => ?_)
theorem tree_Find.mono : ∀ a0 a1 a2 a3 a4 a5 a6 a7 k, LeO (tree_Find.f k a0 a1 a2 a3 a4 a5 a6 a7) (tree_Find.f (k + 1) a0 a1 a2 a3 a4 a5 a6 a7) := by
 intro a0 a1 a2 a3 a4 a5 a6 a7 k
 have ih0 := tree_Find.mono_l k
 unfold tree_Find.f
 repeat' first
   | (with_reducible exact ih0 _ _ _ _ _ _ _ _ _ _)
   | (with_reducible exact tree_twin.mono _ _ _ _ _ _ _ _)
   | (with_reducible exact LeO.refl _)
   | (with_reducible exact LeO.none _)
   | (with_reducible refine LeO.ite ?_ ?_)
   | (with_reducible refine LeO.bind ?_ (fun _ => ?_))
   | exact LeO.none _
   | refine LeO.ite ?_ ?_
   | refine LeO.bind ?_ (fun _ => ?_)
set_option maxHeartbeats 8000000 in
set_option maxRecDepth 100000 in
theorem tree_Find.calls (k : Nat) (a0_0 : Int) (a0_1 : ByteArray) (a0_2 : Int) (a0_3 : Int) (a0_4 : ByteArray) (P0_5_ : Nat → Prop) (A0_5 : Option Addr) (c0_5 : Nat) (l0_5 : List (S26)) (a0_6 : Int) (A1 : Option Addr) (c1 : Nat) (l1 : List Int) (r1 : Int) (r2 : ByteArray) (r3 : Int) (r4 : Int) (r5 : ByteArray) (r6 : List (S26)) (r7 : Int) (r8 : Bool) (w : World) (hs0_5 : Kd.V k26 26 w w.heap.size (fun k_ => P0_5_ k_) (.slice A0_5 l0_5.length c0_5) l0_5) (hr1 : Kd.C (Kd.int .i64) w A1 l1.length l1) (hc1 : l1.length ≤ c1) (h : tree_Find.f k a0_0 a0_1 a0_2 a0_3 a0_4 l0_5 a0_6 l1 = some (r1, r2, r3, r4, r5, r6, r7, r8)) :
  Calls Try.prog 27 #[.agg #[.int .i64 a0_0, .string a0_1, .int .u32 a0_2, .int .i64 a0_3, .string a0_4, .slice A0_5 l0_5.length c0_5, .int .i64 a0_6], .slice A1 l1.length c1] w fun e w' => ∃ v5_ : Value, e = .returned (.tuple #[.agg #[.int .i64 r1, .string r2, .int .u32 r3, .int .i64 r4, .string r5, v5_, .int .i64 r7], .bool r8]) ∧ Kd.R k26 26 w' w.heap.size (fun k_ => (w.heap.size ≤ k_)) v5_ r6 ∧ Below w.heap.size w w' := by
 have hu26 := Try.underlying26
 have HO0_5 := Aside0.mk (show Kd.V k26 26 w w.heap.size (fun k_ => (P0_5_ k_ ∨ w.heap.size ≤ k_)) (.slice A0_5 l0_5.length c0_5) l0_5 from Kd.V_mono hs0_5 (fun k_ hk => .inl hk))
 have HR1 := Aside0.mk hr1
 have HC1 := Aside0.mk hc1
 clear hr1 hc1
 have HB := Aside0.mk (Below.refl w.heap.size w)
 have H : (tree_Find.l0 k l1 (l1.length : Int) 0 a0_0 a0_1 a0_2 a0_3 a0_4 l0_5 a0_6) = some (r1, r2, r3, r4, r5, r6, r7, r8) := h
 clear h
 have H' := Aside0.mk H
 clear H
 go_enter Try.func27, Try.ntmps27
 go_wp2_with (first | ((with_reducible refine gate_dst (N := 2) rfl ?_); (try (refine gate_guard (by rfl) ?_; dsimp only)); refine box_event ?hg (N := 2) ?hd (cs := #[.int .i64 a0_0, .string a0_1, .int .u32 a0_2, .int .i64 a0_3, .string a0_4, .slice A0_5 l0_5.length c0_5, .int .i64 a0_6]) (t := 26) ?hr ?_; (case hd => rfl); (case hg => rfl); (case hr => first | (go_simp; done) | (go_simp; rfl)); intro gb170 hg w3 hbox hb; replace HO0_5 := Aside0.mk (Kd.V_below (Kd.V_elderB (by (with_reducible repeat (first | apply Kd.V_alloc | apply Kd.V_drewN | apply Kd.V_drew)); exact HO0_5.out) gb170 (Nat.le_of_eq hg.symm)) hb); have BK170 := Aside0.mk (hbox); have GW170 := Aside0.mk ((by rw [hg]; exact (below_size (by repeat (first | (with_reducible first | exact HB.out | apply below_alloc | apply pw_below_drewN | apply below_drew1) | exact HB.out))) : w.heap.size ≤ gb170)); have GE170 := Aside0.mk ((by rw [hg]; exact (below_size (by repeat (first | (with_reducible first | exact HB.out | apply below_alloc | apply pw_below_drewN | apply below_drew1) | exact HB.out))) : w.heap.size ≤ gb170)); replace HB := Aside0.mk (below_step (by repeat (first | (with_reducible first | exact HB.out | apply below_alloc | apply pw_below_drewN | apply below_drew1) | exact HB.out)) hb); clear hb hbox hg) | ((with_reducible refine gate_dst (N := 4) rfl ?_); (try (refine gate_guard (by rfl) ?_; dsimp only)); refine box_event ?hg (N := 4) ?hd (cs := #[.int .i64 0, .string (⟨#[]⟩ : ByteArray), .int .u32 0, .int .i64 0, .string (⟨#[]⟩ : ByteArray), .slice none 0 0, .int .i64 0]) (t := 26) ?hr ?_; (case hd => rfl); (case hg => rfl); (case hr => first | (go_simp; done) | (go_simp; rfl)); intro gb171 hg w4 hbox hb; replace HO0_5 := Aside0.mk (Kd.V_below (Kd.V_elderB (by (with_reducible repeat (first | apply Kd.V_alloc | apply Kd.V_drewN | apply Kd.V_drew)); exact HO0_5.out) gb171 (Nat.le_of_eq hg.symm)) hb); have BK171 := Aside0.mk (hbox); have GW171 := Aside0.mk ((by rw [hg]; exact (below_size (by repeat (first | (with_reducible first | exact HB.out | apply below_alloc | apply pw_below_drewN | apply below_drew1 | refine below_set ?_ GE170.out) | exact HB.out))) : w.heap.size ≤ gb171)); have GE171 := Aside0.mk ((by rw [hg]; exact (below_size (by repeat (first | (with_reducible first | exact HB.out | apply below_alloc | apply pw_below_drewN | apply below_drew1 | refine below_set ?_ GE170.out) | exact HB.out))) : w.heap.size ≤ gb171)); replace HB := Aside0.mk (below_step (by repeat (first | (with_reducible first | exact HB.out | apply below_alloc | apply pw_below_drewN | apply below_drew1 | refine below_set ?_ GE170.out) | exact HB.out)) hb); have NB170_171 := Aside0.mk ((by rw [hg]; exact Nat.ne_of_lt (blk_lt (by (with_reducible repeat (first | refine blk_drewN ?_ _ | refine blk_drew ?_ | refine blk_alloc ?_ _)); exact BK170.out)) : gb170 ≠ gb171)); have NB171_170 := Aside0.mk ((by rw [hg]; exact Nat.ne_of_gt (blk_lt (by (with_reducible repeat (first | refine blk_drewN ?_ _ | refine blk_drew ?_ | refine blk_alloc ?_ _)); exact BK170.out)) : gb171 ≠ gb170)); replace BK170 := Aside0.mk (blk_below (by (with_reducible repeat (first | refine blk_drewN ?_ _ | refine blk_drew ?_ | refine blk_alloc ?_ _)); exact BK170.out) hb); clear hb hbox hg))
 go_loopg [10] k (fun kq v10 w' => ∃ (x10_1 : Int) (x171000_1 : Int) (x171001_1 : ByteArray) (x171002_1 : Int) (x171003_1 : Int) (x171004_1 : ByteArray) (x171005_1 : List (S26)) (x171006_1 : Int) (x172000_1 : Int) (x172001_1 : ByteArray) (x172002_1 : Int) (x172003_1 : Int) (x172004_1 : ByteArray) (x172006_1 : Int) (u171005 : Value), v10 = .int .i64 x10_1 ∧ Aside0 (tree_Find.l0 kq l1 (l1.length : Int) x10_1 x171000_1 x171001_1 x171002_1 x171003_1 x171004_1 x171005_1 x171006_1 = some (r1, r2, r3, r4, r5, r6, r7, r8)) ∧ Aside0 (kq ≤ k) ∧ Aside0 (Kd.V k26 26 w' w.heap.size (fun k_ => (P0_5_ k_ ∨ w.heap.size ≤ k_) ∧ k_ ≠ gb170 ∧ k_ ≠ gb171) u171005 x171005_1) ∧ Aside0 (w'.heap[gb170]? = some (.cells #[.int .i64 x171000_1, .string x171001_1, .int .u32 x171002_1, .int .i64 x171003_1, .string x171004_1, u171005, .int .i64 x171006_1] 26 (0, 0))) ∧ Aside0 (w'.heap[gb171]? = some (.cells #[.int .i64 x172000_1, .string x172001_1, .int .u32 x172002_1, .int .i64 x172003_1, .string x172004_1, (.slice none 0 0), .int .i64 x172006_1] 26 (0, 0))) ∧ Aside0 (Below w.heap.size w w'))
 case atStart => exact ⟨(0), (a0_0), (a0_1), (a0_2), (a0_3), (a0_4), (l0_5), (a0_6), (0), ((⟨#[]⟩ : ByteArray)), (0), (0), ((⟨#[]⟩ : ByteArray)), (0), (.slice A0_5 l0_5.length c0_5), (by first | rfl | (simp; done) | (simp [*]; done) | (simp; exact (fun l : List UInt8 => (by cases l <;> rfl : l.isEmpty = !(l != []))) _)), H', ⟨Nat.le_refl _⟩, ⟨by (with_reducible repeat (first | apply Kd.V_alloc | apply Kd.V_drewN | apply Kd.V_drew)); exact Kd.V_mono HO0_5.out (fun _ hk => ⟨hk.1.1, ⟨hk.1.2, hk.2⟩⟩)⟩, ⟨by (with_reducible repeat (first | refine blk_drewN ?_ _ | refine blk_drew ?_ | refine blk_alloc ?_ _)); exact BK170.out⟩, ⟨by (with_reducible repeat (first | refine blk_drewN ?_ _ | refine blk_drew ?_ | refine blk_alloc ?_ _)); exact BK171.out⟩, ⟨by repeat (first | (with_reducible first | exact HB.out | apply below_alloc | apply pw_below_drewN | apply below_drew1 | refine below_set ?_ GE170.out | refine below_set ?_ GE171.out) | exact HB.out)⟩⟩
 case round =>
  clear H'
  try clear c1
  try clear c2
  try clear p2
  obtain ⟨x10_1, x171000_1, x171001_1, x171002_1, x171003_1, x171004_1, x171005_1, x171006_1, x172000_1, x172001_1, x172002_1, x172003_1, x172004_1, x172006_1, u171005, rfl, HA, HK1, HO_171005, BK170, BK171, HB⟩ := hrel
  cases gk with
  | zero => exact absurd HA.out (by simp [tree_Find.l0])
  | succ k1 =>
   have H := HA.out
   clear HA
   simp only [tree_Find.l0] at H
   by_cases c5 : x10_1 < (l1.length : Int)
   ·rw [if_pos c5] at H
    have c5b0 : decide (x10_1 < (l1.length : Int)) = true := decide_eq_true c5
    clear c5
    by_cases c6 : 0 ≤ x10_1
    case neg => rw [if_neg c6] at H; exact absurd H (by simp)
    rw [if_pos c6] at H
    have c6b0 : decide (0 ≤ x10_1) = true := decide_eq_true c6
    clear c6
    by_cases c7 : x10_1 < (l1.length : Int)
    case neg => rw [if_neg c7] at H; exact absurd H (by simp)
    rw [if_pos c7] at H
    have c7b0 : decide (x10_1 < (l1.length : Int)) = true := decide_eq_true c7
    clear c7
    by_cases c8 : (rd l1 x10_1) < 0
    ·rw [if_pos c8] at H
     have c8b0 : decide ((rd l1 x10_1) < 0) = true := decide_eq_true c8
     clear c8
     simp only [Option.some.injEq, Prod.mk.injEq] at H
     obtain ⟨rfl, rfl, rfl, rfl, rfl, rfl, rfl, rfl⟩ := H
     have p172 : 0 ≤ (x10_1 : Int) := of_decide_eq_true (by first | (with_reducible assumption) | assumption)
     have q172 : x10_1 < (l1.length : Int) := of_decide_eq_true (by first | (with_reducible assumption) | assumption)
     obtain ⟨ad172, e172, hx172_0⟩ := Kd.at_int HR1.out x10_1 p172 q172
     cases e172
     replace hx172_0 := (HB.out.cell (World.block_lt_of_cell? w _ hx172_0)).trans hx172_0
     replace p172 := eq_true p172
     replace q172 := eq_true q172
     have hnb9 := NB171_170.out
     have hnc9 := NB170_171.out
     obtain ⟨hcz10_0, hcz10_1, hcz10_2, hcz10_3, hcz10_4, hcz10_5, hcz10_6, hfz10_0, hfz10_1, hfz10_2, hfz10_3, hfz10_4, hfz10_5, hfz10_6⟩ := blk7 BK171.out
     go_wp2
     refine bodyPost_ret (results_ct rfl _ _ gb171 26 #[.int .i64 0, .string (⟨#[]⟩ : ByteArray), .int .u32 0, .int .i64 0, .string (⟨#[]⟩ : ByteArray), .slice none 0 0, .int .i64 0] (0, 0) _ rfl (by (with_reducible repeat (first | refine blk_drewN ?_ _ | refine blk_drew ?_ | refine blk_alloc ?_ _)); refine blk_put (cs := #[.int .i64 0, .string (⟨#[]⟩ : ByteArray), .int .u32 0, .int .i64 0, .string (⟨#[]⟩ : ByteArray), .slice none 0 0, .int .i64 x172006_1]) ?_ 6 _ rfl; refine blk_put (cs := #[.int .i64 0, .string (⟨#[]⟩ : ByteArray), .int .u32 0, .int .i64 0, .string (⟨#[]⟩ : ByteArray), .slice none 0 0, .int .i64 x172006_1]) ?_ 5 _ rfl; refine blk_put (cs := #[.int .i64 0, .string (⟨#[]⟩ : ByteArray), .int .u32 0, .int .i64 0, .string x172004_1, .slice none 0 0, .int .i64 x172006_1]) ?_ 4 _ rfl; refine blk_put (cs := #[.int .i64 0, .string (⟨#[]⟩ : ByteArray), .int .u32 0, .int .i64 x172003_1, .string x172004_1, .slice none 0 0, .int .i64 x172006_1]) ?_ 3 _ rfl; refine blk_put (cs := #[.int .i64 0, .string (⟨#[]⟩ : ByteArray), .int .u32 x172002_1, .int .i64 x172003_1, .string x172004_1, .slice none 0 0, .int .i64 x172006_1]) ?_ 2 _ rfl; refine blk_put (cs := #[.int .i64 0, .string x172001_1, .int .u32 x172002_1, .int .i64 x172003_1, .string x172004_1, .slice none 0 0, .int .i64 x172006_1]) ?_ 1 _ rfl; refine blk_put (cs := #[.int .i64 x172000_1, .string x172001_1, .int .u32 x172002_1, .int .i64 x172003_1, .string x172004_1, .slice none 0 0, .int .i64 x172006_1]) ?_ 0 _ rfl; (with_reducible repeat (first | refine blk_drewN ?_ _ | refine blk_drew ?_ | refine blk_alloc ?_ _)); exact BK171.out) Try.underlying26 rfl (by kernel_rfl)) rfl ?_
     exact ⟨_, by first | rfl | (simp [errW_none, errW_some] <;> rfl) | (simp [*, errW_none, errW_some] <;> rfl), by first | exact Kd.R_nil _ _ _ _ _ | exact Kd.N_nil _ _ _ _ _ | exact Kd.V_nil _ _ _ _ _ | exact Kd.Q_nil _ _ _ _ _ | exact Kd.S_nil _ _ _ _ _, by repeat (first | (with_reducible first | exact HB.out | apply below_alloc | apply pw_below_drewN | apply below_drew1 | refine below_set ?_ GE170.out | refine below_set ?_ GE171.out) | exact HB.out)⟩
    ·rw [if_neg c8] at H
     have c8b0 : decide ((rd l1 x10_1) < 0) = false := decide_eq_false c8
     clear c8
     by_cases c11 : (rd l1 x10_1) ≥ (x171005_1.length : Int)
     ·rw [if_pos c11] at H
      have c11b0 : decide ((x171005_1.length : Int) ≤ (rd l1 x10_1)) = true := decide_eq_true c11
      clear c11
      simp only [Option.some.injEq, Prod.mk.injEq] at H
      obtain ⟨rfl, rfl, rfl, rfl, rfl, rfl, rfl, rfl⟩ := H
      have p172 : 0 ≤ (x10_1 : Int) := of_decide_eq_true (by first | (with_reducible assumption) | assumption)
      have q172 : x10_1 < (l1.length : Int) := of_decide_eq_true (by first | (with_reducible assumption) | assumption)
      obtain ⟨ad172, e172, hx172_0⟩ := Kd.at_int HR1.out x10_1 p172 q172
      cases e172
      replace hx172_0 := (HB.out.cell (World.block_lt_of_cell? w _ hx172_0)).trans hx172_0
      replace p172 := eq_true p172
      replace q172 := eq_true q172
      have hnb12 := NB170_171.out
      have hnc12 := NB171_170.out
      obtain ⟨hcz13_0, hcz13_1, hcz13_2, hcz13_3, hcz13_4, hcz13_5, hcz13_6, hfz13_0, hfz13_1, hfz13_2, hfz13_3, hfz13_4, hfz13_5, hfz13_6⟩ := blk7 BK170.out
      obtain ⟨Ao14, co14, eo14⟩ := Kd.V_slice HO_171005.out
      subst eo14
      obtain ⟨hcz15_0, hcz15_1, hcz15_2, hcz15_3, hcz15_4, hcz15_5, hcz15_6, hfz15_0, hfz15_1, hfz15_2, hfz15_3, hfz15_4, hfz15_5, hfz15_6⟩ := blk7 BK171.out
      go_wp2
      refine bodyPost_ret (results_ct rfl _ _ gb171 26 #[.int .i64 0, .string (⟨#[]⟩ : ByteArray), .int .u32 0, .int .i64 0, .string (⟨#[]⟩ : ByteArray), .slice none 0 0, .int .i64 0] (0, 0) _ rfl (by (with_reducible repeat (first | refine blk_drewN ?_ _ | refine blk_drew ?_ | refine blk_alloc ?_ _)); refine blk_put (cs := #[.int .i64 0, .string (⟨#[]⟩ : ByteArray), .int .u32 0, .int .i64 0, .string (⟨#[]⟩ : ByteArray), .slice none 0 0, .int .i64 x172006_1]) ?_ 6 _ rfl; refine blk_put (cs := #[.int .i64 0, .string (⟨#[]⟩ : ByteArray), .int .u32 0, .int .i64 0, .string (⟨#[]⟩ : ByteArray), .slice none 0 0, .int .i64 x172006_1]) ?_ 5 _ rfl; refine blk_put (cs := #[.int .i64 0, .string (⟨#[]⟩ : ByteArray), .int .u32 0, .int .i64 0, .string x172004_1, .slice none 0 0, .int .i64 x172006_1]) ?_ 4 _ rfl; refine blk_put (cs := #[.int .i64 0, .string (⟨#[]⟩ : ByteArray), .int .u32 0, .int .i64 x172003_1, .string x172004_1, .slice none 0 0, .int .i64 x172006_1]) ?_ 3 _ rfl; refine blk_put (cs := #[.int .i64 0, .string (⟨#[]⟩ : ByteArray), .int .u32 x172002_1, .int .i64 x172003_1, .string x172004_1, .slice none 0 0, .int .i64 x172006_1]) ?_ 2 _ rfl; refine blk_put (cs := #[.int .i64 0, .string x172001_1, .int .u32 x172002_1, .int .i64 x172003_1, .string x172004_1, .slice none 0 0, .int .i64 x172006_1]) ?_ 1 _ rfl; refine blk_put (cs := #[.int .i64 x172000_1, .string x172001_1, .int .u32 x172002_1, .int .i64 x172003_1, .string x172004_1, .slice none 0 0, .int .i64 x172006_1]) ?_ 0 _ rfl; (with_reducible repeat (first | refine blk_drewN ?_ _ | refine blk_drew ?_ | refine blk_alloc ?_ _)); exact BK171.out) Try.underlying26 rfl (by kernel_rfl)) rfl ?_
      exact ⟨_, by first | rfl | (simp [errW_none, errW_some] <;> rfl) | (simp [*, errW_none, errW_some] <;> rfl), by first | exact Kd.R_nil _ _ _ _ _ | exact Kd.N_nil _ _ _ _ _ | exact Kd.V_nil _ _ _ _ _ | exact Kd.Q_nil _ _ _ _ _ | exact Kd.S_nil _ _ _ _ _, by repeat (first | (with_reducible first | exact HB.out | apply below_alloc | apply pw_below_drewN | apply below_drew1 | refine below_set ?_ GE170.out | refine below_set ?_ GE171.out) | exact HB.out)⟩
     ·rw [if_neg c11] at H
      have c11b0 : decide ((x171005_1.length : Int) ≤ (rd l1 x10_1)) = false := decide_eq_false c11
      clear c11
      by_cases c16 : 0 ≤ (rd l1 x10_1)
      case neg => rw [if_neg c16] at H; exact absurd H (by simp)
      rw [if_pos c16] at H
      have c16b0 : decide (0 ≤ (rd l1 x10_1)) = true := decide_eq_true c16
      clear c16
      by_cases c17 : (rd l1 x10_1) < (x171005_1.length : Int)
      case neg => rw [if_neg c17] at H; exact absurd H (by simp)
      rw [if_pos c17] at H
      have c17b0 : decide ((rd l1 x10_1) < (x171005_1.length : Int)) = true := decide_eq_true c17
      clear c17
      have H' := Aside0.mk H
      clear H
      have p172 : 0 ≤ (x10_1 : Int) := of_decide_eq_true (by first | (with_reducible assumption) | assumption)
      have q172 : x10_1 < (l1.length : Int) := of_decide_eq_true (by first | (with_reducible assumption) | assumption)
      obtain ⟨ad172, e172, hx172_0⟩ := Kd.at_int HR1.out x10_1 p172 q172
      cases e172
      replace hx172_0 := (HB.out.cell (World.block_lt_of_cell? w _ hx172_0)).trans hx172_0
      replace p172 := eq_true p172
      replace q172 := eq_true q172
      have hnb18 := NB170_171.out
      have hnc18 := NB171_170.out
      obtain ⟨hcz19_0, hcz19_1, hcz19_2, hcz19_3, hcz19_4, hcz19_5, hcz19_6, hfz19_0, hfz19_1, hfz19_2, hfz19_3, hfz19_4, hfz19_5, hfz19_6⟩ := blk7 BK170.out
      obtain ⟨Ao20, co20, eo20⟩ := Kd.V_slice HO_171005.out
      subst eo20
      have p173 : 0 ≤ ((rd l1 x10_1) : Int) := of_decide_eq_true (by first | (with_reducible assumption) | assumption)
      have q173 : (rd l1 x10_1) < (x171005_1.length : Int) := of_decide_eq_true (by first | (with_reducible assumption) | assumption)
      obtain ⟨ad173, A173_5, c173_5, e173, hx173_0, hx173_1, hx173_2, hx173_3, hx173_4, hx173_5, hx173_6, hl173_5, hi173_5⟩ := at_T26 (Kd.V_reads' HO_171005.out).2.2 (rd l1 x10_1) p173 q173
      cases e173
      obtain ⟨ce173, hce173, hMe173, hcc173⟩ := Kd.V_get HO_171005.out z26 (rd l1 x10_1) p173 (by first | exact q173 | exact of_decide_eq_true (by first | (with_reducible assumption) | assumption) | (have e_ := (Kd.V_reads' HO_171005.out).1; omega))
      obtain ⟨ua173_5, uc173_5, rfl, ul173_5, ge173_5⟩ := k26_openF hMe173
      have hv173_5 := hcc173 5 _ rfl
      rw [add_field _ _ 5 (by omega)] at hv173_5
      replace hv173_5 := Option.some.inj (hv173_5.symm.trans hx173_5)
      injection hv173_5 with hva_ hvn_ hvc_
      rw [hva_] at ge173_5
      rw [hvc_] at ul173_5
      have HL173_5 := Aside0.mk (show Kd.V k26 26 _ w.heap.size _ _ ((rd_T26 x171005_1 (rd l1 x10_1)).f5) from Kd.V_mk ul173_5 ge173_5)
      clear hva_ hvn_ hvc_ ge173_5 ul173_5
      clear hcc173 hce173
      have HR173_5 := Aside0.mk hi173_5
      have HC173_5 := Aside0.mk hl173_5
      clear hi173_5 hl173_5
      replace p173 := eq_true p173
      replace q173 := eq_true q173
      go_wp2
      go_roundg k1
      case measure => have := HK1.out; omega
      case rel => exact ⟨(wrap64 (x10_1 + 1)), ((rd_T26 x171005_1 (rd l1 x10_1)).f0), ((rd_T26 x171005_1 (rd l1 x10_1)).f1), ((rd_T26 x171005_1 (rd l1 x10_1)).f2), ((rd_T26 x171005_1 (rd l1 x10_1)).f3), ((rd_T26 x171005_1 (rd l1 x10_1)).f4), ((rd_T26 x171005_1 (rd l1 x10_1)).f5), ((rd_T26 x171005_1 (rd l1 x10_1)).f6), (x172000_1), (x172001_1), (x172002_1), (x172003_1), (x172004_1), (x172006_1), (.slice A173_5 ((rd_T26 x171005_1 (rd l1 x10_1)).f5).length c173_5), (by first | rfl | (simp; done) | (simp [*]; done) | (simp; exact (fun l : List UInt8 => (by cases l <;> rfl : l.isEmpty = !(l != []))) _)), H', ⟨by have := HK1.out; omega⟩, ⟨by (with_reducible repeat (first | apply Kd.V_alloc | apply Kd.V_drewN | apply Kd.V_drew)); exact Kd.V_mono (Kd.V_far (p := ⟨gb170, 6, none⟩) (Kd.V_far (p := ⟨gb170, 5, none⟩) (Kd.V_far (p := ⟨gb170, 4, none⟩) (Kd.V_far (p := ⟨gb170, 3, none⟩) (Kd.V_far (p := ⟨gb170, 2, none⟩) (Kd.V_far (p := ⟨gb170, 1, none⟩) (Kd.V_far (p := ⟨gb170, 0, none⟩) (Kd.V_mono HL173_5.out (fun k_ hk => (⟨hk, hk.2.1⟩ : _ ∧ k_ ≠ gb170))) (fun _ hk => hk.2) (.int .i64 ((rd_T26 x171005_1 (rd l1 x10_1)).f0))) (fun _ hk => hk.2) (.string ((rd_T26 x171005_1 (rd l1 x10_1)).f1))) (fun _ hk => hk.2) (.int .u32 ((rd_T26 x171005_1 (rd l1 x10_1)).f2))) (fun _ hk => hk.2) (.int .i64 ((rd_T26 x171005_1 (rd l1 x10_1)).f3))) (fun _ hk => hk.2) (.string ((rd_T26 x171005_1 (rd l1 x10_1)).f4))) (fun _ hk => hk.2) (.slice A173_5 ((rd_T26 x171005_1 (rd l1 x10_1)).f5).length c173_5)) (fun _ hk => hk.2) (.int .i64 ((rd_T26 x171005_1 (rd l1 x10_1)).f6))) (fun _ hk => ⟨hk.1.1, ⟨hk.1.2.1, hk.1.2.2⟩⟩)⟩, ⟨by (with_reducible repeat (first | refine blk_drewN ?_ _ | refine blk_drew ?_ | refine blk_alloc ?_ _)); refine blk_put (cs := #[.int .i64 ((rd_T26 x171005_1 (rd l1 x10_1)).f0), .string ((rd_T26 x171005_1 (rd l1 x10_1)).f1), .int .u32 ((rd_T26 x171005_1 (rd l1 x10_1)).f2), .int .i64 ((rd_T26 x171005_1 (rd l1 x10_1)).f3), .string ((rd_T26 x171005_1 (rd l1 x10_1)).f4), .slice A173_5 ((rd_T26 x171005_1 (rd l1 x10_1)).f5).length c173_5, .int .i64 x171006_1]) ?_ 6 _ rfl; refine blk_put (cs := #[.int .i64 ((rd_T26 x171005_1 (rd l1 x10_1)).f0), .string ((rd_T26 x171005_1 (rd l1 x10_1)).f1), .int .u32 ((rd_T26 x171005_1 (rd l1 x10_1)).f2), .int .i64 ((rd_T26 x171005_1 (rd l1 x10_1)).f3), .string ((rd_T26 x171005_1 (rd l1 x10_1)).f4), .slice (some ad173) x171005_1.length co20, .int .i64 x171006_1]) ?_ 5 _ rfl; refine blk_put (cs := #[.int .i64 ((rd_T26 x171005_1 (rd l1 x10_1)).f0), .string ((rd_T26 x171005_1 (rd l1 x10_1)).f1), .int .u32 ((rd_T26 x171005_1 (rd l1 x10_1)).f2), .int .i64 ((rd_T26 x171005_1 (rd l1 x10_1)).f3), .string x171004_1, .slice (some ad173) x171005_1.length co20, .int .i64 x171006_1]) ?_ 4 _ rfl; refine blk_put (cs := #[.int .i64 ((rd_T26 x171005_1 (rd l1 x10_1)).f0), .string ((rd_T26 x171005_1 (rd l1 x10_1)).f1), .int .u32 ((rd_T26 x171005_1 (rd l1 x10_1)).f2), .int .i64 x171003_1, .string x171004_1, .slice (some ad173) x171005_1.length co20, .int .i64 x171006_1]) ?_ 3 _ rfl; refine blk_put (cs := #[.int .i64 ((rd_T26 x171005_1 (rd l1 x10_1)).f0), .string ((rd_T26 x171005_1 (rd l1 x10_1)).f1), .int .u32 x171002_1, .int .i64 x171003_1, .string x171004_1, .slice (some ad173) x171005_1.length co20, .int .i64 x171006_1]) ?_ 2 _ rfl; refine blk_put (cs := #[.int .i64 ((rd_T26 x171005_1 (rd l1 x10_1)).f0), .string x171001_1, .int .u32 x171002_1, .int .i64 x171003_1, .string x171004_1, .slice (some ad173) x171005_1.length co20, .int .i64 x171006_1]) ?_ 1 _ rfl; refine blk_put (cs := #[.int .i64 x171000_1, .string x171001_1, .int .u32 x171002_1, .int .i64 x171003_1, .string x171004_1, .slice (some ad173) x171005_1.length co20, .int .i64 x171006_1]) ?_ 0 _ rfl; (with_reducible repeat (first | refine blk_drewN ?_ _ | refine blk_drew ?_ | refine blk_alloc ?_ _)); exact BK170.out⟩, ⟨by (repeat (first | (with_reducible first | refine blk_drewN ?_ _ | refine blk_drew ?_ | refine blk_alloc ?_ _) | refine blk_far ?_ NB171_170.out _)); exact BK171.out⟩, ⟨by repeat (first | (with_reducible first | exact HB.out | apply below_alloc | apply pw_below_drewN | apply below_drew1 | refine below_set ?_ GE170.out | refine below_set ?_ GE171.out) | exact HB.out)⟩⟩
   ·rw [if_neg c5] at H
    have c5b0 : decide (x10_1 < (l1.length : Int)) = false := decide_eq_false c5
    clear c5
    replace H := Option.bind_eq_some_iff.mp H
    obtain ⟨⟨t174, t175, t176, t177, t178, t179, t182⟩, A210, H⟩ := H
    replace H : (some (t174, t175, t176, t177, t178, t179, t182, true)) = some (r1, r2, r3, r4, r5, r6, r7, r8) := H
    have A21 := Aside0.mk A210
    clear A210
    simp only [Option.some.injEq, Prod.mk.injEq] at H
    obtain ⟨rfl, rfl, rfl, rfl, rfl, rfl, rfl, rfl⟩ := H
    have hnb22 := NB170_171.out
    have hnc22 := NB171_170.out
    obtain ⟨hcz23_0, hcz23_1, hcz23_2, hcz23_3, hcz23_4, hcz23_5, hcz23_6, hfz23_0, hfz23_1, hfz23_2, hfz23_3, hfz23_4, hfz23_5, hfz23_6⟩ := blk7 BK170.out
    obtain ⟨Ao24, co24, eo24⟩ := Kd.V_slice HO_171005.out
    subst eo24
    go_wp2_with (first | ((with_reducible refine gate_callee (f := 38) rfl ?_); refine goesL_ (some 31) rfl rfl Try.func38 (by kernel_rfl) rfl #[.agg #[.int .i64 x171000_1, .string x171001_1, .int .u32 x171002_1, .int .i64 x171003_1, .string x171004_1, .slice Ao24 x171005_1.length co24, .int .i64 x171006_1]] rfl (by (try simp only [List.map_toArray, List.map_cons, List.map_nil]); first | done | rfl | (simp only [List.length_drop, List.length_take]; rfl)) ?_; (with_reducible refine (tree_twin.calls k1 x171000_1 x171001_1 x171002_1 x171003_1 x171004_1 _ _ x171005_1 x171006_1 t174 t175 t176 t177 t178 t179 t182 _ ?side1 ?side2 A21.out).mono ?_); (case side1 => repeat (first | exact (Kd.V_reads' HO_171005.out).2.2 | (with_reducible refine Kd.C_alloc ?_ _) | (with_reducible refine Kd.C_drewN ?_ _) | (with_reducible refine Kd.C_drew ?_))); (case side2 => exact (Kd.V_reads' HO_171005.out).2.1); rintro e w25 ⟨v180, rfl, ho0, hb⟩; refine ⟨_, rfl, ?_⟩; replace HO_171005 := Aside0.mk (Kd.V_elder' (by (with_reducible repeat (first | apply Kd.V_alloc | apply Kd.V_drewN | apply Kd.V_drew)); exact HO_171005.out) (Kd.R_base ho0) hb); have HO181 := Aside0.mk (Kd.R_lower (Kd.R_newB (Kd.R_newB (Kd.R_newM (M := fun k_ => (w.heap.size ≤ k_)) ho0 (below_size (by repeat (first | (with_reducible first | exact HB.out | apply below_alloc | apply pw_below_drewN | apply below_drew1 | refine below_set ?_ GE170.out | refine below_set ?_ GE171.out) | exact HB.out))) (fun k_ h_ => h_)) (by (with_reducible repeat (first | refine blk_drewN ?_ _ | refine blk_drew ?_ | refine blk_alloc ?_ _)); exact BK170.out)) (by (with_reducible repeat (first | refine blk_drewN ?_ _ | refine blk_drew ?_ | refine blk_alloc ?_ _)); exact BK171.out)) (below_size (by repeat (first | (with_reducible first | exact HB.out | apply below_alloc | apply pw_below_drewN | apply below_drew1 | refine below_set ?_ GE170.out | refine below_set ?_ GE171.out) | exact HB.out)))); replace BK170 := Aside0.mk (blk_below (by (with_reducible repeat (first | refine blk_drewN ?_ _ | refine blk_drew ?_ | refine blk_alloc ?_ _)); exact BK170.out) hb); replace BK171 := Aside0.mk (blk_below (by (with_reducible repeat (first | refine blk_drewN ?_ _ | refine blk_drew ?_ | refine blk_alloc ?_ _)); exact BK171.out) hb); replace HB := Aside0.mk (below_step (by repeat (first | (with_reducible first | exact HB.out | apply below_alloc | apply pw_below_drewN | apply below_drew1 | refine below_set ?_ GE170.out | refine below_set ?_ GE171.out) | exact HB.out)) hb); (try clear hb); (try clear hb2); (try clear hk); (try clear hi); (try clear ho0); obtain ⟨hcz26_0, hcz26_1, hcz26_2, hcz26_3, hcz26_4, hcz26_5, hcz26_6, hfz26_0, hfz26_1, hfz26_2, hfz26_3, hfz26_4, hfz26_5, hfz26_6⟩ := blk7 BK171.out; obtain ⟨Ao27, co27, eo27⟩ := Kd.R_slice HO181.out; subst eo27))
    refine bodyPost_ret (results_ct rfl _ _ gb171 26 #[.int .i64 t174, .string t175, .int .u32 t176, .int .i64 t177, .string t178, .slice Ao27 t179.length co27, .int .i64 t182] (0, 0) _ rfl (by (with_reducible repeat (first | refine blk_drewN ?_ _ | refine blk_drew ?_ | refine blk_alloc ?_ _)); refine blk_put (cs := #[.int .i64 t174, .string t175, .int .u32 t176, .int .i64 t177, .string t178, .slice Ao27 t179.length co27, .int .i64 x172006_1]) ?_ 6 _ rfl; refine blk_put (cs := #[.int .i64 t174, .string t175, .int .u32 t176, .int .i64 t177, .string t178, .slice none 0 0, .int .i64 x172006_1]) ?_ 5 _ rfl; refine blk_put (cs := #[.int .i64 t174, .string t175, .int .u32 t176, .int .i64 t177, .string x172004_1, .slice none 0 0, .int .i64 x172006_1]) ?_ 4 _ rfl; refine blk_put (cs := #[.int .i64 t174, .string t175, .int .u32 t176, .int .i64 x172003_1, .string x172004_1, .slice none 0 0, .int .i64 x172006_1]) ?_ 3 _ rfl; refine blk_put (cs := #[.int .i64 t174, .string t175, .int .u32 x172002_1, .int .i64 x172003_1, .string x172004_1, .slice none 0 0, .int .i64 x172006_1]) ?_ 2 _ rfl; refine blk_put (cs := #[.int .i64 t174, .string x172001_1, .int .u32 x172002_1, .int .i64 x172003_1, .string x172004_1, .slice none 0 0, .int .i64 x172006_1]) ?_ 1 _ rfl; refine blk_put (cs := #[.int .i64 x172000_1, .string x172001_1, .int .u32 x172002_1, .int .i64 x172003_1, .string x172004_1, .slice none 0 0, .int .i64 x172006_1]) ?_ 0 _ rfl; (with_reducible repeat (first | refine blk_drewN ?_ _ | refine blk_drew ?_ | refine blk_alloc ?_ _)); exact BK171.out) Try.underlying26 rfl (by kernel_rfl)) rfl ?_
    exact ⟨_, by first | rfl | (simp [errW_none, errW_some] <;> rfl) | (simp [*, errW_none, errW_some] <;> rfl), by (with_reducible repeat (first | apply Kd.R_alloc | apply Kd.R_drewN | apply Kd.R_drew)); exact Kd.R_mono (Kd.R_far (p := ⟨gb171, 6, none⟩) (Kd.R_far (p := ⟨gb171, 5, none⟩) (Kd.R_far (p := ⟨gb171, 4, none⟩) (Kd.R_far (p := ⟨gb171, 3, none⟩) (Kd.R_far (p := ⟨gb171, 2, none⟩) (Kd.R_far (p := ⟨gb171, 1, none⟩) (Kd.R_far (p := ⟨gb171, 0, none⟩) (Kd.R_mono HO181.out (fun k_ hk => (⟨hk, hk.2⟩ : _ ∧ k_ ≠ gb171))) (fun _ hk => hk.2) (.int .i64 t174)) (fun _ hk => hk.2) (.string t175)) (fun _ hk => hk.2) (.int .u32 t176)) (fun _ hk => hk.2) (.int .i64 t177)) (fun _ hk => hk.2) (.string t178)) (fun _ hk => hk.2) (.slice Ao27 t179.length co27)) (fun _ hk => hk.2) (.int .i64 t182)) (fun _ hk => hk.1.1.1.1), by repeat (first | (with_reducible first | exact HB.out | apply below_alloc | apply pw_below_drewN | apply below_drew1 | refine below_set ?_ GE170.out | refine below_set ?_ GE171.out) | exact HB.out)⟩

/-! ### lathelaw07_half: function 31 -/
def lathelaw07_half.f  : Option (Int × ByteArray × Int × Int × ByteArray × (List (S26)) × Int) := some (1, (⟨#[99, 104, 97, 105, 110]⟩ : ByteArray), 0, 0, (⟨#[]⟩ : ByteArray), (([(⟨1, (⟨#[115, 99, 97, 108, 101]⟩ : ByteArray), 0, 0, (⟨#[]⟩ : ByteArray), (([(⟨2, (⟨#[]⟩ : ByteArray), 1056964608, 0, (⟨#[]⟩ : ByteArray), ([] : List (S26)), 12⟩ : S26)] : List (S26))), 6⟩ : S26), (⟨1, (⟨#[105, 100, 101, 110, 116, 105, 116, 121]⟩ : ByteArray), 0, 0, (⟨#[]⟩ : ByteArray), ([] : List (S26)), 18⟩ : S26)] : List (S26))), 0)
set_option maxHeartbeats 8000000 in
set_option maxRecDepth 100000 in
theorem lathelaw07_half.calls  (r1 : Int) (r2 : ByteArray) (r3 : Int) (r4 : Int) (r5 : ByteArray) (r6 : List (S26)) (r7 : Int) (w : World) (h : lathelaw07_half.f  = some (r1, r2, r3, r4, r5, r6, r7)) :
  Calls Try.prog 31 #[] w fun e w' => ∃ v5_ : Value, e = .returned (.agg #[.int .i64 r1, .string r2, .int .u32 r3, .int .i64 r4, .string r5, v5_, .int .i64 r7]) ∧ Kd.N k26 26 w' w.heap.size (fun k_ => (w.heap.size ≤ k_)) v5_ r6 ∧ Below w.heap.size w w' := by
 have hu26 := Try.underlying26
 have HB := Aside0.mk (Below.refl w.heap.size w)
 have H : (some (1, (⟨#[99, 104, 97, 105, 110]⟩ : ByteArray), 0, 0, (⟨#[]⟩ : ByteArray), (([(⟨1, (⟨#[115, 99, 97, 108, 101]⟩ : ByteArray), 0, 0, (⟨#[]⟩ : ByteArray), (([(⟨2, (⟨#[]⟩ : ByteArray), 1056964608, 0, (⟨#[]⟩ : ByteArray), ([] : List (S26)), 12⟩ : S26)] : List (S26))), 6⟩ : S26), (⟨1, (⟨#[105, 100, 101, 110, 116, 105, 116, 121]⟩ : ByteArray), 0, 0, (⟨#[]⟩ : ByteArray), ([] : List (S26)), 18⟩ : S26)] : List (S26))), 0)) = some (r1, r2, r3, r4, r5, r6, r7) := h
 clear h
 obtain ⟨y184, hy184⟩ : ∃ y_ : List (S26), y_ = (([(⟨2, (⟨#[]⟩ : ByteArray), 1056964608, 0, (⟨#[]⟩ : ByteArray), ([] : List (S26)), 12⟩ : S26)] : List (S26))) := ⟨_, rfl⟩
 replace H : (some (1, (⟨#[99, 104, 97, 105, 110]⟩ : ByteArray), 0, 0, (⟨#[]⟩ : ByteArray), (([(⟨1, (⟨#[115, 99, 97, 108, 101]⟩ : ByteArray), 0, 0, (⟨#[]⟩ : ByteArray), y184, 6⟩ : S26), (⟨1, (⟨#[105, 100, 101, 110, 116, 105, 116, 121]⟩ : ByteArray), 0, 0, (⟨#[]⟩ : ByteArray), ([] : List (S26)), 18⟩ : S26)] : List (S26))), 0)) = some (r1, r2, r3, r4, r5, r6, r7) := by first | (rw [hy184]; with_reducible exact H) | (have H2_ := (Option.bind_some _ _).symm.trans H; rw [hy184]; with_reducible exact H2_) | (have H2_ := (Option.bind_some _ _).symm.trans H; with_reducible exact H2_) | with_reducible exact H | (rw [hy184]; exact H) | exact H
 have Ny184 := Aside0.mk hy184
 clear hy184
 obtain ⟨y187, hy187⟩ : ∃ y_ : List (S26), y_ = (([(⟨1, (⟨#[115, 99, 97, 108, 101]⟩ : ByteArray), 0, 0, (⟨#[]⟩ : ByteArray), y184, 6⟩ : S26), (⟨1, (⟨#[105, 100, 101, 110, 116, 105, 116, 121]⟩ : ByteArray), 0, 0, (⟨#[]⟩ : ByteArray), ([] : List (S26)), 18⟩ : S26)] : List (S26))) := ⟨_, rfl⟩
 replace H : (some (1, (⟨#[99, 104, 97, 105, 110]⟩ : ByteArray), 0, 0, (⟨#[]⟩ : ByteArray), y187, 0)) = some (r1, r2, r3, r4, r5, r6, r7) := by first | (rw [hy187]; with_reducible exact H) | (have H2_ := (Option.bind_some _ _).symm.trans H; rw [hy187]; with_reducible exact H2_) | (have H2_ := (Option.bind_some _ _).symm.trans H; with_reducible exact H2_) | with_reducible exact H | (rw [hy187]; exact H) | exact H
 have Ny187 := Aside0.mk hy187
 clear hy187
 simp only [Option.some.injEq, Prod.mk.injEq] at H
 obtain ⟨rfl, rfl, rfl, rfl, rfl, rfl, rfl⟩ := H
 go_enter Try.func31, Try.ntmps31
 go_wp2_with (first | ((with_reducible refine gate_dst (N := 0) rfl ?_); refine box_event ?hg (N := 0) ?hd (cs := #[.int .i64 0, .string (⟨#[]⟩ : ByteArray), .int .u32 0, .int .i64 0, .string (⟨#[]⟩ : ByteArray), .slice none 0 0, .int .i64 0]) (t := 26) ?hr ?_; (case hd => rfl); (case hg => rfl); (case hr => first | (go_simp; done) | (go_simp; rfl)); intro gb183 hg w1 hbox hb; have BK183 := Aside0.mk (hbox); have GW183 := Aside0.mk ((by rw [hg]; exact (below_size (by repeat (first | (with_reducible first | exact HB.out | apply below_alloc | apply pw_below_drewN | apply below_drew1) | exact HB.out))) : w.heap.size ≤ gb183)); have GE183 := Aside0.mk ((by rw [hg]; exact (below_size (by repeat (first | (with_reducible first | exact HB.out | apply below_alloc | apply pw_below_drewN | apply below_drew1) | exact HB.out))) : w.heap.size ≤ gb183)); replace HB := Aside0.mk (below_step (by repeat (first | (with_reducible first | exact HB.out | apply below_alloc | apply pw_below_drewN | apply below_drew1) | exact HB.out)) hb); clear hb hbox hg) | ((with_reducible refine gate_dst (N := 2) rfl ?_); refine Kd.N_lit k26 _ 26 ?hg (N' := 2) ?hd (xs := ([(⟨2, (⟨#[]⟩ : ByteArray), 1056964608, 0, (⟨#[]⟩ : ByteArray), ([] : List (S26)), 12⟩ : S26)] : List (S26))) (inner := [.int .i64 2, .string (⟨#[]⟩ : ByteArray), .int .u32 1056964608, .int .i64 0, .string (⟨#[]⟩ : ByteArray), .slice none 0 0, .int .i64 12]) (ok := (fun k_ => (w.heap.size ≤ k_) ∧ k_ ≠ gb183)) (okp := (fun k_ => (w.heap.size ≤ k_) ∧ k_ ≠ gb183)) ?hr ?hp (fun _ hk => hk) ((show ∀ k_, w1.heap.size ≤ k_ → (fun k_ => (w.heap.size ≤ k_) ∧ k_ ≠ gb183) k_ from fun k_ hk => ⟨(Nat.le_trans (below_size (by repeat (first | (with_reducible first | exact HB.out | apply below_alloc | apply pw_below_drewN | apply below_drew1 | refine below_set ?_ GE183.out) | exact HB.out))) hk), Kd.freshB (g := gb183) (o := .cells #[.int .i64 0, .string (⟨#[]⟩ : ByteArray), .int .u32 0, .int .i64 0, .string (⟨#[]⟩ : ByteArray), .slice none 0 0, .int .i64 0] 26 (0, 0)) (by (with_reducible repeat (first | refine blk_drewN ?_ _ | refine blk_drew ?_ | refine blk_alloc ?_ _)); exact BK183.out) k_ hk⟩) _ (Nat.le_refl _)) (Below.refl _ _) (Nat.le_refl _) (by simp) ?_; (case hd => rfl); (case hg => rfl); (case hr => first | (go_simp; done) | (go_simp; rfl)); (case hp => exact (Reps.c7 (show Kd.FK k26 _ _ (⟨2, (⟨#[]⟩ : ByteArray), 1056964608, 0, (⟨#[]⟩ : ByteArray), ([] : List (S26)), 12⟩ : S26) [.int .i64 2, .string (⟨#[]⟩ : ByteArray), .int .u32 1056964608, .int .i64 0, .string (⟨#[]⟩ : ByteArray), .slice none 0 0, .int .i64 12] from (k26_mkF _ _ (⟨2, (⟨#[]⟩ : ByteArray), 1056964608, 0, (⟨#[]⟩ : ByteArray), ([] : List (S26)), 12⟩ : S26) (Nat.le_refl _) (Kd.F_nil _ _ _))) (Reps.none _ _))); intro v185 w2 ho3 hb hg_ hnew_; clear hg_ hnew_; (first | rw [← Ny184.out] at ho3 | (simp only [Int.reduceToNat] at ho3; rw [← Ny184.out] at ho3)); have HO186 := Aside0.mk (Kd.N_lower ho3 (below_size (by repeat (first | (with_reducible first | exact HB.out | apply below_alloc | apply pw_below_drewN | apply below_drew1 | refine below_set ?_ GE183.out) | exact HB.out)))); replace BK183 := Aside0.mk (blk_below (g := gb183) (o := .cells #[.int .i64 0, .string (⟨#[]⟩ : ByteArray), .int .u32 0, .int .i64 0, .string (⟨#[]⟩ : ByteArray), .slice none 0 0, .int .i64 0] 26 (0, 0)) (by (with_reducible repeat (first | refine blk_drewN ?_ _ | refine blk_drew ?_ | refine blk_alloc ?_ _)); exact BK183.out) hb); replace HB := Aside0.mk (below_step (by repeat (first | (with_reducible first | exact HB.out | apply below_alloc | apply pw_below_drewN | apply below_drew1 | refine below_set ?_ GE183.out) | exact HB.out)) hb); clear hb ho3; obtain ⟨Ao4, co4, eo4⟩ := Kd.N_slice HO186.out; subst eo4) | ((with_reducible refine gate_dst (N := 5) rfl ?_); refine Kd.N_lit k26 _ 26 ?hg (N' := 5) ?hd (xs := ([(⟨1, (⟨#[115, 99, 97, 108, 101]⟩ : ByteArray), 0, 0, (⟨#[]⟩ : ByteArray), y184, 6⟩ : S26), (⟨1, (⟨#[105, 100, 101, 110, 116, 105, 116, 121]⟩ : ByteArray), 0, 0, (⟨#[]⟩ : ByteArray), ([] : List (S26)), 18⟩ : S26)] : List (S26))) (inner := [.int .i64 1, .string (⟨#[115, 99, 97, 108, 101]⟩ : ByteArray), .int .u32 0, .int .i64 0, .string (⟨#[]⟩ : ByteArray), .slice Ao4 y184.length co4, .int .i64 6, .int .i64 1, .string (⟨#[105, 100, 101, 110, 116, 105, 116, 121]⟩ : ByteArray), .int .u32 0, .int .i64 0, .string (⟨#[]⟩ : ByteArray), .slice none 0 0, .int .i64 18]) (ok := (fun k_ => (w.heap.size ≤ k_) ∧ k_ ≠ gb183)) (okp := (fun k_ => (w.heap.size ≤ k_) ∧ k_ ≠ gb183)) ?hr ?hp (fun _ hk => hk) ((show ∀ k_, w2.heap.size ≤ k_ → (fun k_ => (w.heap.size ≤ k_) ∧ k_ ≠ gb183) k_ from fun k_ hk => ⟨(Nat.le_trans (below_size (by repeat (first | (with_reducible first | exact HB.out | apply below_alloc | apply pw_below_drewN | apply below_drew1 | refine below_set ?_ GE183.out) | exact HB.out))) hk), Kd.freshB (g := gb183) (o := .cells #[.int .i64 0, .string (⟨#[]⟩ : ByteArray), .int .u32 0, .int .i64 0, .string (⟨#[]⟩ : ByteArray), .slice none 0 0, .int .i64 0] 26 (0, 0)) (by (with_reducible repeat (first | refine blk_drewN ?_ _ | refine blk_drew ?_ | refine blk_alloc ?_ _)); exact BK183.out) k_ hk⟩) _ (Nat.le_refl _)) (Below.refl _ _) (Nat.le_refl _) (by simp) ?_; (case hd => rfl); (case hg => rfl); (case hr => first | (go_simp; done) | (go_simp; rfl)); (case hp => exact (Reps.c7 (show Kd.FK k26 _ _ (⟨1, (⟨#[115, 99, 97, 108, 101]⟩ : ByteArray), 0, 0, (⟨#[]⟩ : ByteArray), y184, 6⟩ : S26) [.int .i64 1, .string (⟨#[115, 99, 97, 108, 101]⟩ : ByteArray), .int .u32 0, .int .i64 0, .string (⟨#[]⟩ : ByteArray), .slice Ao4 y184.length co4, .int .i64 6] from (k26_mkF _ _ (⟨1, (⟨#[115, 99, 97, 108, 101]⟩ : ByteArray), 0, 0, (⟨#[]⟩ : ByteArray), y184, 6⟩ : S26) (Kd.N_reads' (Kd.N_mono (ok' := (fun k_ => (w.heap.size ≤ k_) ∧ k_ ≠ gb183)) (HO186.out) (fun k_ hk => ⟨hk.1, hk.2⟩))).2.1 (Kd.N_F (Kd.N_mono (ok' := (fun k_ => (w.heap.size ≤ k_) ∧ k_ ≠ gb183)) (HO186.out) (fun k_ hk => ⟨hk.1, hk.2⟩))))) (Reps.c7 (show Kd.FK k26 _ _ (⟨1, (⟨#[105, 100, 101, 110, 116, 105, 116, 121]⟩ : ByteArray), 0, 0, (⟨#[]⟩ : ByteArray), ([] : List (S26)), 18⟩ : S26) [.int .i64 1, .string (⟨#[105, 100, 101, 110, 116, 105, 116, 121]⟩ : ByteArray), .int .u32 0, .int .i64 0, .string (⟨#[]⟩ : ByteArray), .slice none 0 0, .int .i64 18] from (k26_mkF _ _ (⟨1, (⟨#[105, 100, 101, 110, 116, 105, 116, 121]⟩ : ByteArray), 0, 0, (⟨#[]⟩ : ByteArray), ([] : List (S26)), 18⟩ : S26) (Nat.le_refl _) (Kd.F_nil _ _ _))) (Reps.none _ _)))); intro v188 w5 ho6 hb hg_ hnew_; clear hg_ hnew_; (first | rw [← Ny187.out] at ho6 | (simp only [Int.reduceToNat] at ho6; rw [← Ny187.out] at ho6)); have HO189 := Aside0.mk (Kd.N_lower ho6 (below_size (by repeat (first | (with_reducible first | exact HB.out | apply below_alloc | apply pw_below_drewN | apply below_drew1 | refine below_set ?_ GE183.out) | exact HB.out)))); replace BK183 := Aside0.mk (blk_below (g := gb183) (o := .cells #[.int .i64 0, .string (⟨#[]⟩ : ByteArray), .int .u32 0, .int .i64 0, .string (⟨#[]⟩ : ByteArray), .slice none 0 0, .int .i64 0] 26 (0, 0)) (by (with_reducible repeat (first | refine blk_drewN ?_ _ | refine blk_drew ?_ | refine blk_alloc ?_ _)); exact BK183.out) hb); replace HB := Aside0.mk (below_step (by repeat (first | (with_reducible first | exact HB.out | apply below_alloc | apply pw_below_drewN | apply below_drew1 | refine below_set ?_ GE183.out) | exact HB.out)) hb); clear HO186; clear hb ho6; obtain ⟨Ao7, co7, eo7⟩ := Kd.N_slice HO189.out; subst eo7; obtain ⟨hcz8_0, hcz8_1, hcz8_2, hcz8_3, hcz8_4, hcz8_5, hcz8_6, hfz8_0, hfz8_1, hfz8_2, hfz8_3, hfz8_4, hfz8_5, hfz8_6⟩ := blk7 BK183.out))
 refine bodyPost_ret (results_cell_row rfl _ _ gb183 26 #[.int .i64 1, .string (⟨#[99, 104, 97, 105, 110]⟩ : ByteArray), .int .u32 0, .int .i64 0, .string (⟨#[]⟩ : ByteArray), .slice Ao7 y187.length co7, .int .i64 0] (0, 0) _ rfl (by (with_reducible repeat (first | refine blk_drewN ?_ _ | refine blk_drew ?_ | refine blk_alloc ?_ _)); refine blk_put (cs := #[.int .i64 1, .string (⟨#[99, 104, 97, 105, 110]⟩ : ByteArray), .int .u32 0, .int .i64 0, .string (⟨#[]⟩ : ByteArray), .slice Ao7 y187.length co7, .int .i64 0]) ?_ 6 _ rfl; refine blk_put (cs := #[.int .i64 1, .string (⟨#[99, 104, 97, 105, 110]⟩ : ByteArray), .int .u32 0, .int .i64 0, .string (⟨#[]⟩ : ByteArray), .slice none 0 0, .int .i64 0]) ?_ 5 _ rfl; refine blk_put (cs := #[.int .i64 1, .string (⟨#[99, 104, 97, 105, 110]⟩ : ByteArray), .int .u32 0, .int .i64 0, .string (⟨#[]⟩ : ByteArray), .slice none 0 0, .int .i64 0]) ?_ 4 _ rfl; refine blk_put (cs := #[.int .i64 1, .string (⟨#[99, 104, 97, 105, 110]⟩ : ByteArray), .int .u32 0, .int .i64 0, .string (⟨#[]⟩ : ByteArray), .slice none 0 0, .int .i64 0]) ?_ 3 _ rfl; refine blk_put (cs := #[.int .i64 1, .string (⟨#[99, 104, 97, 105, 110]⟩ : ByteArray), .int .u32 0, .int .i64 0, .string (⟨#[]⟩ : ByteArray), .slice none 0 0, .int .i64 0]) ?_ 2 _ rfl; refine blk_put (cs := #[.int .i64 1, .string (⟨#[]⟩ : ByteArray), .int .u32 0, .int .i64 0, .string (⟨#[]⟩ : ByteArray), .slice none 0 0, .int .i64 0]) ?_ 1 _ rfl; refine blk_put (cs := #[.int .i64 0, .string (⟨#[]⟩ : ByteArray), .int .u32 0, .int .i64 0, .string (⟨#[]⟩ : ByteArray), .slice none 0 0, .int .i64 0]) ?_ 0 _ rfl; (with_reducible repeat (first | refine blk_drewN ?_ _ | refine blk_drew ?_ | refine blk_alloc ?_ _)); exact BK183.out) Try.underlying26 rfl (by kernel_rfl)) rfl ?_
 exact ⟨_, by first | rfl | (simp [errW_none, errW_some] <;> rfl) | (simp [*, errW_none, errW_some] <;> rfl), by (with_reducible repeat (first | apply Kd.N_alloc | apply Kd.N_drewN | apply Kd.N_drew)); exact Kd.N_mono (Kd.N_far (p := ⟨gb183, 6, none⟩) (Kd.N_far (p := ⟨gb183, 5, none⟩) (Kd.N_far (p := ⟨gb183, 4, none⟩) (Kd.N_far (p := ⟨gb183, 3, none⟩) (Kd.N_far (p := ⟨gb183, 2, none⟩) (Kd.N_far (p := ⟨gb183, 1, none⟩) (Kd.N_far (p := ⟨gb183, 0, none⟩) (Kd.N_mono HO189.out (fun k_ hk => (⟨hk, hk.2⟩ : _ ∧ k_ ≠ gb183))) (fun _ hk => hk.2) (.int .i64 1)) (fun _ hk => hk.2) (.string (⟨#[99, 104, 97, 105, 110]⟩ : ByteArray))) (fun _ hk => hk.2) (.int .u32 0)) (fun _ hk => hk.2) (.int .i64 0)) (fun _ hk => hk.2) (.string (⟨#[]⟩ : ByteArray))) (fun _ hk => hk.2) (.slice Ao7 y187.length co7)) (fun _ hk => hk.2) (.int .i64 0)) (fun _ hk => hk.1.1), by repeat (first | (with_reducible first | exact HB.out | apply below_alloc | apply pw_below_drewN | apply below_drew1 | refine below_set ?_ GE183.out) | exact HB.out)⟩

end Go.Proofs.Ytbfomjbencbmlaa.Q
