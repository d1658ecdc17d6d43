/- Lean functions with the answers of the Go functions that the law reaches, proved to be just these answers. Conditions: those that each theorem names. -/
import Derived.Test.YtbfomjbencbmlaaQx0
namespace Go.Proofs.Ytbfomjbencbmlaa.Q
open Go.RowKit Go.Proofs.YtbfomjbencbmlaaW.PrintWords Go.Proofs.YtbfomjbencbmlaaW.PrintLast Go.Proofs.YtbfomjbencbmlaaW.PrintMore
attribute [local go_sem] max2_int min2_int max_two min_two max_three min_three max_four min_four   -- for this text's walks alone
set_option linter.unusedVariables false
set_option linter.unusedSimpArgs false

/-! ### lathelaw07_room: function 30 -/
mutual
def lathelaw07_room.l0 : Nat → Int → Int → Int → ByteArray → Int → Int → ByteArray → List (S26) → Int → Option (Int)
 | 0, _, _, _, _, _, _, _, _, _ => none
 | k + 1, x1, x5, x102000, x102001, x102002, x102003, x102004, x102005, x102006 => if x5 < (x102005.length : Int) then (if x1 ≥ 0 then (if 0 ≤ x5 then ((lathelaw07_room.f k ((rd_T26 x102005 x5).f0) ((rd_T26 x102005 x5).f1) ((rd_T26 x102005 x5).f2) ((rd_T26 x102005 x5).f3) ((rd_T26 x102005 x5).f4) ((rd_T26 x102005 x5).f5) ((rd_T26 x102005 x5).f6) x1).bind fun t103 => (lathelaw07_room.l0 k t103 (wrap64 (x5 + 1)) x102000 x102001 x102002 x102003 x102004 x102005 x102006)) else (none)) else (some x1)) else (some x1)
def lathelaw07_room.f : Nat → Int → ByteArray → Int → Int → ByteArray → List (S26) → Int → Int → Option (Int)
 | 0, _, _, _, _, _, _, _, _ => none
 | k + 1, a0_0, a0_1, a0_2, a0_3, a0_4, l0_5, a0_6, a1 => lathelaw07_room.l0 k (wrap64 (a1 - 1)) 0 a0_0 a0_1 a0_2 a0_3 a0_4 l0_5 a0_6
end
theorem lathelaw07_room.mono_l : ∀ k, (∀ y0 y1 y2 y3 y4 y5 y6 y7, LeO (lathelaw07_room.f k y0 y1 y2 y3 y4 y5 y6 y7) (lathelaw07_room.f (k + 1) y0 y1 y2 y3 y4 y5 y6 y7)) ∧ (∀ y0 y1 y2 y3 y4 y5 y6 y7 y8, LeO (lathelaw07_room.l0 k y0 y1 y2 y3 y4 y5 y6 y7 y8) (lathelaw07_room.l0 (k + 1) y0 y1 y2 y3 y4 y5 y6 y7 y8))
 | 0 => ⟨fun _ _ _ _ _ _ _ _ r h => by simp [lathelaw07_room.f] at h, fun _ _ _ _ _ _ _ _ _ r h => by simp [lathelaw07_room.l0] at h⟩
 | k + 1 => by
  obtain ⟨ih0, ih1⟩ := lathelaw07_room.mono_l k
  refine ⟨?_, ?_⟩
  ·intro y0 y1 y2 y3 y4 y5 y6 y7
   unfold lathelaw07_room.f
   repeat' first
   | (with_reducible exact ih0 _ _ _ _ _ _ _ _)
   | (with_reducible exact ih1 _ _ _ _ _ _ _ _ _)
   | (with_reducible exact LeO.refl _)
   | (with_reducible exact LeO.none _)
   | (with_reducible refine LeO.ite ?_ ?_)
   | (with_reducible refine LeO.bind ?_ (fun _ => ?_))
   | exact LeO.none _
   | refine LeO.ite ?_ ?_
   | refine LeO.bind ?_ (fun _ => ?_)
  ·intro y0 y1 y2 y3 y4 y5 y6 y7 y8
   unfold lathelaw07_room.l0
   repeat' first
   | (with_reducible exact ih0 _ _ _ _ _ _ _ _)
   | (with_reducible exact ih1 _ _ _ _ _ _ _ _ _)
   | (with_reducible exact LeO.refl _)
   | (with_reducible exact LeO.none _)
   | (with_reducible refine LeO.ite ?_ ?_)
   | (with_reducible refine LeO.bind ?_ (fun _ => ?_))
   | exact LeO.none _
   | refine LeO.ite ?_ ?_
   | refine LeO.bind ?_ (fun _ => ?_)
theorem lathelaw07_room.mono : ∀ a0 a1 a2 a3 a4 a5 a6 a7 k, LeO (lathelaw07_room.f k a0 a1 a2 a3 a4 a5 a6 a7) (lathelaw07_room.f (k + 1) a0 a1 a2 a3 a4 a5 a6 a7) := by
 intro a0 a1 a2 a3 a4 a5 a6 a7 k
 obtain ⟨ih0, ih1⟩ := lathelaw07_room.mono_l k
 exact ih0 a0 a1 a2 a3 a4 a5 a6 a7
set_option maxHeartbeats 8000000 in
set_option maxRecDepth 100000 in
theorem lathelaw07_room.calls (k : Nat) : ∀ (a0_0 : Int) (a0_1 : ByteArray) (a0_2 : Int) (a0_3 : Int) (a0_4 : ByteArray) (A0_5 : Option Addr) (c0_5 : Nat) (l0_5 : List (S26)) (a0_6 : Int) (a1 : Int) (r : Int) (w : World) (hr0_5 : Kd.C k26 w A0_5 l0_5.length l0_5) (hc0_5 : l0_5.length ≤ c0_5) (h : lathelaw07_room.f k a0_0 a0_1 a0_2 a0_3 a0_4 l0_5 a0_6 a1 = some r),
  Calls Try.prog 30 #[.agg #[.int .i64 a0_0, .string a0_1, .int .u32 a0_2, .int .i64 a0_3, .string a0_4, .slice A0_5 l0_5.length c0_5, .int .i64 a0_6], .int .i64 a1] w fun e w' => e = .returned (.int .i64 r) ∧ Below w.heap.size w w' := by
 induction k using Nat.strongRecOn with
 | _ k ih =>
 intro a0_0 a0_1 a0_2 a0_3 a0_4 A0_5 c0_5 l0_5 a0_6 a1 r w hr0_5 hc0_5 h
 cases k with
 | zero => exact absurd h (by simp [lathelaw07_room.f])
 | succ k =>
 simp only [lathelaw07_room.f] at h
 have hu26 := Try.underlying26
 have HR0_5 := Aside0.mk hr0_5
 have HC0_5 := Aside0.mk hc0_5
 clear hr0_5 hc0_5
 have HB := Aside0.mk (Below.refl w.heap.size w)
 have H : (lathelaw07_room.l0 k (wrap64 (a1 - 1)) 0 a0_0 a0_1 a0_2 a0_3 a0_4 l0_5 a0_6) = some r := h
 clear h
 have H' := Aside0.mk H
 clear H
 go_enter Try.func30, Try.ntmps30
 go_wp2_with (first | ((with_reducible refine gate_dst (N := 2) rfl ?_); refine box_event ?hg (N := 2) ?hd (cs := #[.int .i64 a0_0, .string a0_1, .int .u32 a0_2, .int .i64 a0_3, .string a0_4, .slice A0_5 l0_5.length c0_5, .int .i64 a0_6]) (t := 26) ?hr ?_; (case hd => rfl); (case hg => rfl); (case hr => first | (go_simp; done) | (go_simp; rfl)); intro gb101 hg w3 hbox hb; have BK101 := Aside0.mk (hbox); have GW101 := Aside0.mk ((by rw [hg]; exact (below_size (by repeat (first | (with_reducible first | exact HB.out | apply below_alloc | apply pw_below_drewN | apply below_drew1) | exact HB.out))) : w.heap.size ≤ gb101)); have GE101 := Aside0.mk ((by rw [hg]; exact (below_size (by repeat (first | (with_reducible first | exact HB.out | apply below_alloc | apply pw_below_drewN | apply below_drew1) | exact HB.out))) : w.heap.size ≤ gb101)); replace HB := Aside0.mk (below_step (by repeat (first | (with_reducible first | exact HB.out | apply below_alloc | apply pw_below_drewN | apply below_drew1) | exact HB.out)) hb); clear hb hbox hg))
 go_loopg [1, 5] k (fun kq v1 v5 w' => ∃ (x1_1 : Int) (x5_1 : Int), v1 = .int .i64 x1_1 ∧ v5 = .int .i64 x5_1 ∧ Aside0 (lathelaw07_room.l0 kq x1_1 x5_1 a0_0 a0_1 a0_2 a0_3 a0_4 l0_5 a0_6 = some r) ∧ Aside0 (kq ≤ k) ∧ Aside0 (w'.heap[gb101]? = some (.cells #[.int .i64 a0_0, .string a0_1, .int .u32 a0_2, .int .i64 a0_3, .string a0_4, (.slice A0_5 l0_5.length c0_5), .int .i64 a0_6] 26 (0, 0))) ∧ Aside0 (Below w.heap.size w w'))
 case atStart => exact ⟨(wrap64 (a1 - 1)), (0), (by first | rfl | (simp; done) | (simp [*]; done) | (simp; exact (fun l : List UInt8 => (by cases l <;> rfl : l.isEmpty = !(l != []))) _)), (by first | rfl | (simp; done) | (simp [*]; done) | (simp; exact (fun l : List UInt8 => (by cases l <;> rfl : l.isEmpty = !(l != []))) _)), H', ⟨Nat.le_refl _⟩, ⟨by (with_reducible repeat (first | refine blk_drewN ?_ _ | refine blk_drew ?_ | refine blk_alloc ?_ _)); exact BK101.out⟩, ⟨by repeat (first | (with_reducible first | exact HB.out | apply below_alloc | apply pw_below_drewN | apply below_drew1 | refine below_set ?_ GE101.out) | exact HB.out)⟩⟩
 case round =>
  clear H'
  try clear p2
  try clear c3
  obtain ⟨x1_1, x5_1, rfl, rfl, HA, HK1, BK101, HB⟩ := hrel
  cases gk with
  | zero => exact absurd HA.out (by simp [lathelaw07_room.l0])
  | succ k1 =>
   have H := HA.out
   clear HA
   simp only [lathelaw07_room.l0] at H
   by_cases c4 : x5_1 < (l0_5.length : Int)
   ·rw [if_pos c4] at H
    have c4b0 : decide (x5_1 < (l0_5.length : Int)) = true := decide_eq_true c4
    clear c4
    by_cases c5 : x1_1 ≥ 0
    ·rw [if_pos c5] at H
     have c5b0 : decide (0 ≤ x1_1) = true := decide_eq_true c5
     clear c5
     by_cases c6 : 0 ≤ x5_1
     case neg => rw [if_neg c6] at H; exact absurd H (by simp)
     rw [if_pos c6] at H
     have c6b0 : decide (0 ≤ x5_1) = true := decide_eq_true c6
     clear c6
     replace H := Option.bind_eq_some_iff.mp H
     obtain ⟨t103, A70, H⟩ := H
     replace H : (lathelaw07_room.l0 k1 t103 (wrap64 (x5_1 + 1)) a0_0 a0_1 a0_2 a0_3 a0_4 l0_5 a0_6) = some r := H
     have A7 := Aside0.mk A70
     clear A70
     have H' := Aside0.mk H
     clear H
     obtain ⟨hcz8_0, hcz8_1, hcz8_2, hcz8_3, hcz8_4, hcz8_5, hcz8_6, hfz8_0, hfz8_1, hfz8_2, hfz8_3, hfz8_4, hfz8_5, hfz8_6⟩ := blk7 BK101.out
     have p102 : 0 ≤ (x5_1 : Int) := of_decide_eq_true (by first | (with_reducible assumption) | assumption)
     have q102 : x5_1 < (l0_5.length : Int) := of_decide_eq_true (by first | (with_reducible assumption) | assumption)
     obtain ⟨ad102, A102_5, c102_5, e102, hx102_0, hx102_1, hx102_2, hx102_3, hx102_4, hx102_5, hx102_6, hl102_5, hi102_5⟩ := at_T26 HR0_5.out x5_1 p102 q102
     cases e102
     replace hx102_0 := (HB.out.cell (World.block_lt_of_cell? w _ hx102_0)).trans hx102_0
     replace hx102_1 := (HB.out.cell (World.block_lt_of_cell? w _ hx102_1)).trans hx102_1
     replace hx102_2 := (HB.out.cell (World.block_lt_of_cell? w _ hx102_2)).trans hx102_2
     replace hx102_3 := (HB.out.cell (World.block_lt_of_cell? w _ hx102_3)).trans hx102_3
     replace hx102_4 := (HB.out.cell (World.block_lt_of_cell? w _ hx102_4)).trans hx102_4
     replace hx102_5 := (HB.out.cell (World.block_lt_of_cell? w _ hx102_5)).trans hx102_5
     replace hx102_6 := (HB.out.cell (World.block_lt_of_cell? w _ hx102_6)).trans hx102_6
     have HR102_5 := Aside0.mk hi102_5
     have HC102_5 := Aside0.mk hl102_5
     clear hi102_5 hl102_5
     replace p102 := eq_true p102
     replace q102 := eq_true q102
     go_wp2_with (first | ((with_reducible refine gate_callee (f := 30) rfl ?_); refine goesL_ (some 25) rfl rfl Try.func30 (by kernel_rfl) rfl #[.agg #[.int .i64 ((rd_T26 l0_5 x5_1).f0), .string ((rd_T26 l0_5 x5_1).f1), .int .u32 ((rd_T26 l0_5 x5_1).f2), .int .i64 ((rd_T26 l0_5 x5_1).f3), .string ((rd_T26 l0_5 x5_1).f4), .slice A102_5 ((rd_T26 l0_5 x5_1).f5).length c102_5, .int .i64 ((rd_T26 l0_5 x5_1).f6)], .int .i64 x1_1] rfl (by (try simp only [List.map_toArray, List.map_cons, List.map_nil]); first | done | rfl | (simp only [List.length_drop, List.length_take]; rfl)) ?_; (with_reducible refine (ih k1 (by have := HK1.out; omega) ((rd_T26 l0_5 x5_1).f0) ((rd_T26 l0_5 x5_1).f1) ((rd_T26 l0_5 x5_1).f2) ((rd_T26 l0_5 x5_1).f3) ((rd_T26 l0_5 x5_1).f4) _ _ ((rd_T26 l0_5 x5_1).f5) ((rd_T26 l0_5 x5_1).f6) x1_1 t103 _ ?side1 ?side2 A7.out).mono ?_); (case side1 => repeat (first | exact (Kd.C_below HR102_5.out HB.out) | (with_reducible refine Kd.C_alloc ?_ _) | (with_reducible refine Kd.C_drewN ?_ _) | (with_reducible refine Kd.C_drew ?_))); (case side2 => exact HC102_5.out); rintro e w9 ⟨rfl, hb⟩; refine ⟨_, rfl, ?_⟩; replace BK101 := Aside0.mk (blk_below (by (with_reducible repeat (first | refine blk_drewN ?_ _ | refine blk_drew ?_ | refine blk_alloc ?_ _)); exact BK101.out) hb); replace HB := Aside0.mk (below_step (by repeat (first | (with_reducible first | exact HB.out | apply below_alloc | apply pw_below_drewN | apply below_drew1 | refine below_set ?_ GE101.out) | exact HB.out)) hb); (try clear hb); (try clear hb2); (try clear hk); (try clear hi)))
     go_roundg k1
     case measure => have := HK1.out; omega
     case rel => exact ⟨(t103), (wrap64 (x5_1 + 1)), (by first | rfl | (simp; done) | (simp [*]; done) | (simp; exact (fun l : List UInt8 => (by cases l <;> rfl : l.isEmpty = !(l != []))) _)), (by first | rfl | (simp; done) | (simp [*]; done) | (simp; exact (fun l : List UInt8 => (by cases l <;> rfl : l.isEmpty = !(l != []))) _)), H', ⟨by have := HK1.out; omega⟩, ⟨by (with_reducible repeat (first | refine blk_drewN ?_ _ | refine blk_drew ?_ | refine blk_alloc ?_ _)); exact BK101.out⟩, ⟨by repeat (first | (with_reducible first | exact HB.out | apply below_alloc | apply pw_below_drewN | apply below_drew1 | refine below_set ?_ GE101.out) | exact HB.out)⟩⟩
    ·rw [if_neg c5] at H
     have c5b0 : decide (0 ≤ x1_1) = false := decide_eq_false c5
     clear c5
     obtain rfl := Option.some.inj H
     obtain ⟨hcz10_0, hcz10_1, hcz10_2, hcz10_3, hcz10_4, hcz10_5, hcz10_6, hfz10_0, hfz10_1, hfz10_2, hfz10_3, hfz10_4, hfz10_5, hfz10_6⟩ := blk7 BK101.out
     go_wp2
     go_ret
     exact ⟨by first | rfl | (simp [errW_none, errW_some] <;> rfl) | (simp [*, errW_none, errW_some] <;> rfl), by repeat (first | (with_reducible first | exact HB.out | apply below_alloc | apply pw_below_drewN | apply below_drew1 | refine below_set ?_ GE101.out) | exact HB.out)⟩
   ·rw [if_neg c4] at H
    have c4b0 : decide (x5_1 < (l0_5.length : Int)) = false := decide_eq_false c4
    clear c4
    obtain rfl := Option.some.inj H
    obtain ⟨hcz11_0, hcz11_1, hcz11_2, hcz11_3, hcz11_4, hcz11_5, hcz11_6, hfz11_0, hfz11_1, hfz11_2, hfz11_3, hfz11_4, hfz11_5, hfz11_6⟩ := blk7 BK101.out
    go_wp2
    go_ret
    exact ⟨by first | rfl | (simp [errW_none, errW_some] <;> rfl) | (simp [*, errW_none, errW_some] <;> rfl), by repeat (first | (with_reducible first | exact HB.out | apply below_alloc | apply pw_below_drewN | apply below_drew1 | refine below_set ?_ GE101.out) | exact HB.out)⟩

/-! ### lathelaw07_big: function 10 -/
def lathelaw07_big.f (k : Nat) (a0_0 : Int) (a0_1 : ByteArray) (a0_2 : Int) (a0_3 : Int) (a0_4 : ByteArray) (l0_5 : List (S26)) (a0_6 : Int) : Option (Bool) := (lathelaw07_room.f k a0_0 a0_1 a0_2 a0_3 a0_4 l0_5 a0_6 9000).bind fun t105 => (some (decide (t105 < 0)))
theorem lathelaw07_big.mono : ∀ a0 a1 a2 a3 a4 a5 a6 k, LeO (lathelaw07_big.f k a0 a1 a2 a3 a4 a5 a6) (lathelaw07_big.f (k + 1) a0 a1 a2 a3 a4 a5 a6) := by
 intro a0 a1 a2 a3 a4 a5 a6 k
 unfold lathelaw07_big.f
 repeat' first
   | (with_reducible exact lathelaw07_room.mono _ _ _ _ _ _ _ _ _)
   | (with_reducible exact LeO.refl _)
   | (with_reducible exact LeO.none _)
   | (with_reducible refine LeO.ite ?_ ?_)
   | (with_reducible refine LeO.bind ?_ (fun _ => ?_))
   | exact LeO.none _
   | refine LeO.ite ?_ ?_
   | refine LeO.bind ?_ (fun _ => ?_)
set_option maxHeartbeats 8000000 in
set_option maxRecDepth 100000 in
theorem lathelaw07_big.calls (k : Nat) (a0_0 : Int) (a0_1 : ByteArray) (a0_2 : Int) (a0_3 : Int) (a0_4 : ByteArray) (A0_5 : Option Addr) (c0_5 : Nat) (l0_5 : List (S26)) (a0_6 : Int) (r : Bool) (w : World) (hr0_5 : Kd.C k26 w A0_5 l0_5.length l0_5) (hc0_5 : l0_5.length ≤ c0_5) (h : lathelaw07_big.f k a0_0 a0_1 a0_2 a0_3 a0_4 l0_5 a0_6 = some r) :
  Calls Try.prog 10 #[.agg #[.int .i64 a0_0, .string a0_1, .int .u32 a0_2, .int .i64 a0_3, .string a0_4, .slice A0_5 l0_5.length c0_5, .int .i64 a0_6]] w fun e w' => e = .returned (.bool r) ∧ Below w.heap.size w w' := by
 have hu26 := Try.underlying26
 have HR0_5 := Aside0.mk hr0_5
 have HC0_5 := Aside0.mk hc0_5
 clear hr0_5 hc0_5
 have HB := Aside0.mk (Below.refl w.heap.size w)
 have H : ((lathelaw07_room.f k a0_0 a0_1 a0_2 a0_3 a0_4 l0_5 a0_6 9000).bind fun t105 => (some (decide (t105 < 0)))) = some r := h
 clear h
 replace H := Option.bind_eq_some_iff.mp H
 obtain ⟨t105, A20, H⟩ := H
 replace H : (some (decide (t105 < 0))) = some r := H
 have A2 := Aside0.mk A20
 clear A20
 obtain rfl := Option.some.inj H
 go_enter Try.func10, Try.ntmps10
 go_wp2_with (first | ((with_reducible refine gate_dst (N := 1) rfl ?_); refine box_event ?hg (N := 1) ?hd (cs := #[.int .i64 a0_0, .string a0_1, .int .u32 a0_2, .int .i64 a0_3, .string a0_4, .slice A0_5 l0_5.length c0_5, .int .i64 a0_6]) (t := 26) ?hr ?_; (case hd => rfl); (case hg => rfl); (case hr => first | (go_simp; done) | (go_simp; rfl)); intro gb104 hg w3 hbox hb; have BK104 := Aside0.mk (hbox); have GW104 := Aside0.mk ((by rw [hg]; exact (below_size (by repeat (first | (with_reducible first | exact HB.out | apply below_alloc | apply pw_below_drewN | apply below_drew1) | exact HB.out))) : w.heap.size ≤ gb104)); have GE104 := Aside0.mk ((by rw [hg]; exact (below_size (by repeat (first | (with_reducible first | exact HB.out | apply below_alloc | apply pw_below_drewN | apply below_drew1) | exact HB.out))) : w.heap.size ≤ gb104)); replace HB := Aside0.mk (below_step (by repeat (first | (with_reducible first | exact HB.out | apply below_alloc | apply pw_below_drewN | apply below_drew1) | exact HB.out)) hb); clear hb hbox hg; obtain ⟨hcz4_0, hcz4_1, hcz4_2, hcz4_3, hcz4_4, hcz4_5, hcz4_6, hfz4_0, hfz4_1, hfz4_2, hfz4_3, hfz4_4, hfz4_5, hfz4_6⟩ := blk7 BK104.out) | ((with_reducible refine gate_callee (f := 30) rfl ?_); refine goesL_ (some 4) rfl rfl Try.func30 (by kernel_rfl) rfl #[.agg #[.int .i64 a0_0, .string a0_1, .int .u32 a0_2, .int .i64 a0_3, .string a0_4, .slice A0_5 l0_5.length c0_5, .int .i64 a0_6], .int .i64 9000] rfl (by (try simp only [List.map_toArray, List.map_cons, List.map_nil]); first | done | rfl | (simp only [List.length_drop, List.length_take]; rfl)) ?_; (with_reducible refine (lathelaw07_room.calls k a0_0 a0_1 a0_2 a0_3 a0_4 _ _ l0_5 a0_6 9000 t105 _ ?side1 ?side2 A2.out).mono ?_); (case side1 => repeat (first | exact (Kd.C_below HR0_5.out HB.out) | (with_reducible refine Kd.C_alloc ?_ _) | (with_reducible refine Kd.C_drewN ?_ _) | (with_reducible refine Kd.C_drew ?_))); (case side2 => exact HC0_5.out); rintro e w5 ⟨rfl, hb⟩; refine ⟨_, rfl, ?_⟩; replace BK104 := Aside0.mk (blk_below (by (with_reducible repeat (first | refine blk_drewN ?_ _ | refine blk_drew ?_ | refine blk_alloc ?_ _)); exact BK104.out) hb); replace HB := Aside0.mk (below_step (by repeat (first | (with_reducible first | exact HB.out | apply below_alloc | apply pw_below_drewN | apply below_drew1 | refine below_set ?_ GE104.out) | exact HB.out)) hb); (try clear hb); (try clear hb2); (try clear hk); (try clear hi)))
 go_ret
 exact ⟨by first | rfl | (simp [errW_none, errW_some] <;> rfl) | (simp [*, errW_none, errW_some] <;> rfl), by repeat (first | (with_reducible first | exact HB.out | apply below_alloc | apply pw_below_drewN | apply below_drew1 | refine below_set ?_ GE104.out) | exact HB.out)⟩

/-! ### tree_walk: function 34 -/
/-- The world's frame around a call that owns the blocks O (and then O'): nothing that existed and is not owned has turned. -/
structure Fr (w w' : World) (O O' : Nat → Prop) : Prop where
 os : w'.os = w.os
 tape : w'.tape = w.tape
 output : w'.output = w.output
 size : w.heap.size ≤ w'.heap.size
 block : ∀ b, b < w.heap.size → ¬ O b → w'.heap[b]? = w.heap[b]?
 own : ∀ b, O' b → O b ∨ w.heap.size ≤ b
theorem Fr.refl (w : World) (O : Nat → Prop) : Fr w w O O := ⟨rfl, rfl, rfl, Nat.le_refl _, fun _ _ _ => rfl, fun _ h => .inl h⟩
theorem Fr.trans {w w1 w2 : World} {O O1 O2 : Nat → Prop} (h : Fr w w1 O O1) (k : Fr w1 w2 O1 O2) : Fr w w2 O O2 :=
 ⟨k.os.trans h.os, k.tape.trans h.tape, k.output.trans h.output, Nat.le_trans h.size k.size, fun b hb hn => (k.block b (Nat.lt_of_lt_of_le hb h.size) (fun ho => by
  rcases h.own b ho with h1 | h1
  ·exact hn h1
  ·omega)).trans (h.block b hb hn), fun b hb => by
  rcases k.own b hb with h1 | h1
  ·exact h.own b h1
  ·exact .inr (Nat.le_trans h.size h1)⟩
theorem Fr.below {w w' : World} (h : Below w.heap.size w w') (O : Nat → Prop) : Fr w w' O O := ⟨h.os, h.tape, h.output, h.size, fun b hb _ => h.block b hb, fun _ h => .inl h⟩
theorem Fr.then_below {w w1 w2 : World} {O O1 : Nat → Prop} (h : Fr w w1 O O1) (k : Below w1.heap.size w1 w2) : Fr w w2 O O1 := h.trans (Fr.below k O1)
theorem Fr.out {w0 w w' : World} {O O' : Nat → Prop} (hb : Below w0.heap.size w0 w) (h : Fr w w' O O') (ho : ∀ b, O b → w0.heap.size ≤ b) : Below w0.heap.size w0 w' :=
 ⟨h.os.trans hb.os, h.tape.trans hb.tape, h.output.trans hb.output, Nat.le_trans hb.size h.size, fun b hlt => (h.block b (Nat.lt_of_lt_of_le hlt hb.size) (fun hO => by have := ho b hO; omega)).trans (hb.block b hlt)⟩
theorem Fr.set_new {w w1 : World} {O O1 : Nat → Prop} (h : Fr w w1 O O1) {g i : Nat} (hg : w.heap.size ≤ g) (u : Value) : Fr w (w1.setCell ⟨g, i, none⟩ u) O O1 :=
 ⟨h.os, h.tape, h.output, by simpa [World.setCell] using h.size, fun b hb hn => (Below.heap_setCell _ _ _ _ (fun e => by have e' : b = g := e; omega)).trans (h.block b hb hn), h.own⟩
theorem Fr.fresh {w w' : World} {O O' : Nat → Prop} (h : Fr w w' O O') {g : Nat} (hn : ¬ O g) (hg : g < w.heap.size) : ¬ O' g := fun ho => by
 rcases h.own g ho with h1 | h1
 ·exact hn h1
 ·omega
/-- A call of a function value, in a plain region. -/
theorem goesV_ {P : Program} {ops : Array Oper} {Q : Exit → Act → World → Prop} {rest : List Oper} {oi : Oper} {a : Act} {w : World} (N : Option Tmp) (hd : oi.dst = N) (hg : oi.guard = none) {f : FuncId} {fn : Func} {x : Operand} {xs_ : Array Operand} {ts : Array TypeId} {caps : Array Value} (hf : P.funcs[f]? = some fn) (hname : (fn.name == "runtime.NumGoroutine") = false) (hb : fn.body.isSome = true) (args : Array Value)
  (hop : oi.op = .call { callee := .value x, args := xs_, argTypes := ts }) (hx : a.eval x = .func (.func f) #[] caps) (hargs : xs_.map a.eval = args)
  (h : Calls P f (args ++ caps) w fun e w' => ∃ v, e = .returned v ∧ wpList P ops Q rest (a.put N v) w') : wpList P ops Q (oi :: rest) a w := by
 refine wpList_plain hg fun K hK => ?_
 have he := enters_ hf hname hb (args ++ caps) w
 have hrun : (execOp a.eval oi).run P w = .ok (.enter f (args ++ caps)) w := by
  unfold execOp
  simp [hop, resolve, Deferred.ofValue, invoke, hx, hargs, he]
 unfold Oper.wp
 rw [hrun, Oper.upon_enter]
 refine h.mono fun e w'' hh => ?_
 obtain ⟨v, rfl, hk⟩ := hh
 subst hd
 exact hK _ _ hk
theorem gate_value {P : Program} {ops : Array Oper} {Q : Exit → Act → World → Prop} {rest : List Oper} {o : Oper} {a : Act} {W : World} {x : Tmp} {xs_ : Array Operand} {ts : Array TypeId} (_ho : o.op = .call { callee := .value (.tmp x), args := xs_, argTypes := ts }) (h : wpList P ops Q (o :: rest) a W) : wpList P ops Q (o :: rest) a W := h
mutual
def tree_walk.g {σ : Type} (step : S26 → Int → σ → Option σ) : Nat → S26 → Int → σ → Option σ
 | 0, _, _, _ => none
 | k + 1, x, d, s => (step x d s).bind fun s1 => tree_walk.gl step k x.f5 d s1
def tree_walk.gl {σ : Type} (step : S26 → Int → σ → Option σ) : Nat → List S26 → Int → σ → Option σ
 | 0, _, _, _ => none
 | _ + 1, [], _, s => some s
 | k + 1, y :: ys, d, s => (tree_walk.g step k y (wrap64 (d + 1)) s).bind fun s1 => tree_walk.gl step k ys d s1
end
theorem tree_walk.mono_l {σ : Type} (step : S26 → Int → σ → Option σ) : ∀ k, (∀ x d s, LeO (tree_walk.g step k x d s) (tree_walk.g step (k + 1) x d s)) ∧ (∀ l d s, LeO (tree_walk.gl step k l d s) (tree_walk.gl step (k + 1) l d s))
 | 0 => ⟨fun _ _ _ r h => by simp [tree_walk.g] at h, fun _ _ _ r h => by simp [tree_walk.gl] at h⟩
 | k + 1 => by
  obtain ⟨ih0, ih1⟩ := tree_walk.mono_l step k
  refine ⟨fun x d s => ?_, fun l d s => ?_⟩
  ·unfold tree_walk.g
   exact LeO.bind (LeO.refl _) (fun _ => ih1 _ _ _)
  ·cases l with
   | nil => simp only [tree_walk.gl]; exact LeO.refl _
   | cons y ys => simp only [tree_walk.gl]; exact LeO.bind (ih0 _ _ _) (fun _ => ih1 _ _ _)
set_option maxHeartbeats 8000000 in
set_option maxRecDepth 100000 in
theorem tree_walk.calls {σ : Type} (step : S26 → Int → σ → Option σ) (I : World → (Nat → Prop) → σ → Prop) (w0 : World) (F : FuncId) (fn : Func) (caps : Array Value) (hF : Try.prog.funcs[F]? = some fn) (hname : (fn.name == "runtime.NumGoroutine") = false) (hbody : fn.body.isSome = true)
  (hstab : ∀ w w' O s, (∀ b, O b → w'.heap[b]? = w.heap[b]?) → I w O s → I w' O s) (hlt : ∀ w O s, I w O s → ∀ b, O b → w0.heap.size ≤ b ∧ b < w.heap.size)
  (hc : ∀ (x : S26) (cs : List Value) (d : Int) (s r : σ) (w : World) (O : Nat → Prop), k26.K w0 x cs → Below w0.heap.size w0 w → I w O s → step x d s = some r → Calls Try.prog F (#[.agg cs.toArray, .int .i64 d] ++ caps) w fun e w' => e = .returned (.bool true) ∧ ∃ O', I w' O' r ∧ Fr w w' O O')
  (k : Nat) : ∀ (x : S26) (cs : List Value) (d : Int) (s r : σ) (w : World) (O : Nat → Prop), k26.K w0 x cs → Below w0.heap.size w0 w → I w O s → tree_walk.g step k x d s = some r →
  Calls Try.prog 34 #[.agg cs.toArray, .int .i64 d, .func (.func F) #[] caps] w fun e w' => e = .returned (.bool true) ∧ ∃ O', I w' O' r ∧ Fr w w' O O' := by
 induction k using Nat.strongRecOn with
 | _ k ih =>
 intro x cs d s r w O hK hB hI h
 cases k with
 | zero => exact absurd h (by simp [tree_walk.g])
 | succ k =>
 simp only [tree_walk.g] at h
 obtain ⟨s1, hs1, h⟩ := Option.bind_eq_some_iff.mp h
 obtain ⟨A5, c5, rfl, l5, g5⟩ := k26_open hK
 have hu26 := Try.underlying26
 have KK := Aside0.mk hK
 have HI := Aside0.mk hI
 have HB := Aside0.mk hB
 have HS := Aside0.mk hs1
 have HR := Aside0.mk g5
 have H' := Aside0.mk h
 have HX := Aside0.mk hstab
 have HT := Aside0.mk hlt
 have HCC := Aside0.mk hc
 have HFF := Aside0.mk hF
 have HNN := Aside0.mk hname
 have HBB := Aside0.mk hbody
 clear hK hI hB hs1 g5 h hstab hlt hc hF hname hbody
 go_enter Try.func34, Try.ntmps34
 go_wp2_with (first
  | ((with_reducible refine gate_dst (N := 3) rfl ?_); refine box_event ?hg (N := 3) ?hd (cs := #[.int .i64 x.f0, .string x.f1, .int .u32 x.f2, .int .i64 x.f3, .string x.f4, .slice A5 x.f5.length c5, .int .i64 x.f6]) (t := 26) ?hr ?_; (case hd => rfl); (case hg => rfl); (case hr => first | (go_simp; done) | (go_simp; rfl)); intro gb hg w2 hbox hb; have z0 : w2.cell? ⟨gb, 0, none⟩ = some (.int .i64 x.f0) := (blk_cell hbox 0).trans rfl; have z1 : w2.cell? ⟨gb, 1, none⟩ = some (.string x.f1) := (blk_cell hbox 1).trans rfl; have z2 : w2.cell? ⟨gb, 2, none⟩ = some (.int .u32 x.f2) := (blk_cell hbox 2).trans rfl; have z3 : w2.cell? ⟨gb, 3, none⟩ = some (.int .i64 x.f3) := (blk_cell hbox 3).trans rfl; have z4 : w2.cell? ⟨gb, 4, none⟩ = some (.string x.f4) := (blk_cell hbox 4).trans rfl; have z5 : w2.cell? ⟨gb, 5, none⟩ = some (.slice A5 x.f5.length c5) := (blk_cell hbox 5).trans rfl; have z6 : w2.cell? ⟨gb, 6, none⟩ = some (.int .i64 x.f6) := (blk_cell hbox 6).trans rfl; have BK := Aside0.mk hbox; have BW := Aside0.mk hb; have GE := Aside0.mk hg; clear hbox hb hg)
  | ((with_reducible refine gate_value (x := 9) rfl ?_); refine goesV_ (some 12) rfl rfl HFF.out HNN.out HBB.out #[.agg #[.int .i64 x.f0, .string x.f1, .int .u32 x.f2, .int .i64 x.f3, .string x.f4, .slice A5 x.f5.length c5, .int .i64 x.f6], .int .i64 d] rfl rfl (by (try simp only [List.map_toArray, List.map_cons, List.map_nil]); first | done | rfl) ?_; refine (HCC.out x _ d s s1 _ O KK.out (below_then HB.out HB.out.size BW.out) (HX.out w _ O s (fun b hb => BW.out.block b (HT.out w O s HI.out b hb).2) HI.out) HS.out).mono ?_; rintro e w3 ⟨rfl, O1, hI1, hF1⟩; refine ⟨_, rfl, ?_⟩; have GN : Aside0 (¬ O gb) := ⟨fun ho => by have h1 := (HT.out w O s HI.out gb ho).2; have h2 := GE.out; omega⟩; have FR1 := Aside0.mk (Fr.trans (Fr.below BW.out O) hF1); have GN1 : Aside0 (¬ O1 gb) := ⟨hF1.fresh GN.out (blk_lt BK.out)⟩; have BK3 := Aside0.mk ((hF1.block gb (blk_lt BK.out) GN.out).trans BK.out); have z5 : w3.cell? ⟨gb, 5, none⟩ = some (.slice A5 x.f5.length c5) := (blk_cell BK3.out 5).trans rfl; have HI1 := Aside0.mk hI1; clear hI1 hF1)
  | fail)
 have hlen := HR.out.2.1
 clear z0 z1 z2 z3 z4 z5 z6
 go_loopg [17] k (fun kq v17 w' => ∃ (i : Nat) (si : σ) (Oi : Nat → Prop), v17 = .int .i64 (i : Int) ∧ i ≤ x.f5.length ∧ Aside0 (tree_walk.gl step kq (x.f5.drop i) d si = some r) ∧ Aside0 (kq ≤ k) ∧ Aside0 (I w' Oi si) ∧ Aside0 (Fr w w' O Oi))
 case atStart => exact ⟨0, s1, O1, rfl, Nat.zero_le _, ⟨by rw [List.drop_zero]; exact H'.out⟩, ⟨Nat.le_refl _⟩, HI1, FR1⟩
 case round =>
  clear H' HI1 FR1 HS
  obtain ⟨i, si, Oi, rfl, hi, HA, HK1, HIi, HFi⟩ := hrel
  cases gk with
  | zero => exact absurd HA.out (by simp [tree_walk.gl])
  | succ k1 =>
   by_cases hlt : i < x.f5.length
   ·have hd : x.f5.drop i = rd_T26 x.f5 (i : Int) :: x.f5.drop (i + 1) := by
     rw [List.drop_eq_getElem_cons hlt]
     simp [rd_T26, List.getElem?_eq_getElem hlt]
    have H := HA.out
    rw [hd] at H
    simp only [tree_walk.gl] at H
    obtain ⟨s2, A20, H⟩ := Option.bind_eq_some_iff.mp H
    have A2 := Aside0.mk A20
    have H' := Aside0.mk H
    clear A20 H HA hd
    have HBi := Aside0.mk (HFi.out.out HB.out (fun b hb => (HT.out w O s HI.out b hb).1))
    obtain ⟨ad, B5, e5, e0, hx0, hx1, hx2, hx3, hx4, hx5, hx6, hl5, hg5⟩ := at_T26 HR.out (i : Int) (by omega) (by omega)
    cases e0
    have KE := Aside0.mk (k26_mk w0 (rd_T26 x.f5 (i : Int)) hl5 hg5)
    clear hl5 hg5
    replace hx0 := (HBi.out.cell (World.block_lt_of_cell? w0 _ hx0)).trans hx0
    replace hx1 := (HBi.out.cell (World.block_lt_of_cell? w0 _ hx1)).trans hx1
    replace hx2 := (HBi.out.cell (World.block_lt_of_cell? w0 _ hx2)).trans hx2
    replace hx3 := (HBi.out.cell (World.block_lt_of_cell? w0 _ hx3)).trans hx3
    replace hx4 := (HBi.out.cell (World.block_lt_of_cell? w0 _ hx4)).trans hx4
    replace hx5 := (HBi.out.cell (World.block_lt_of_cell? w0 _ hx5)).trans hx5
    replace hx6 := (HBi.out.cell (World.block_lt_of_cell? w0 _ hx6)).trans hx6
    rw [Int.toNat_natCast] at hx0 hx1 hx2 hx3 hx4 hx5 hx6
    go_wp2_with fail
    refine (ih k1 (by have := HK1.out; omega) (rd_T26 x.f5 (i : Int)) _ (wrap64 (d + 1)) si s2 _ Oi KE.out (below_then HBi.out HBi.out.size ?b1) (HX.out wr _ Oi si ?b2 HIi.out) A2.out).mono ?_
    case b1 => exact below_alloc (Below.refl _ _) _
    case b2 => exact fun b hb => (below_alloc (Below.refl wr.heap.size wr) _).block b (HT.out wr Oi si HIi.out b hb).2
    rintro e w4 ⟨rfl, O2, hI2, hF2⟩
    have FR2 := Aside0.mk (HFi.out.trans (Fr.trans (Fr.below ?b3 Oi) hF2))
    case b3 => exact below_alloc (Below.refl _ _) _
    have HI2 := Aside0.mk hI2
    clear hI2 hF2
    go_wp2
    go_roundg k1
    case measure => have := HK1.out; omega
    case rel => exact ⟨i + 1, s2, O2, by go_num, by omega, H', ⟨by have := HK1.out; omega⟩, HI2, FR2⟩
   ·have hd : x.f5.drop i = [] := List.drop_of_length_le (by omega)
    have H := HA.out
    rw [hd] at H
    simp only [tree_walk.gl] at H
    obtain rfl := Option.some.inj H
    clear HA hd H
    go_wp2
    go_ret
    exact ⟨rfl, Oi, HIi.out, HFi.out⟩

/-! ### tree_Count: function 19 -/
def tree_Count.step (_x : S26) (d : Int) (s : Int) : Option Int := some (wrap64 (s + 1))
def tree_Count.f (k : Nat) (a0_0 : Int) (a0_1 : ByteArray) (a0_2 : Int) (a0_3 : Int) (a0_4 : ByteArray) (l0_5 : List (S26)) (a0_6 : Int) : Option Int := tree_walk.g tree_Count.step k ⟨a0_0, a0_1, a0_2, a0_3, a0_4, l0_5, a0_6⟩ 1 0
theorem tree_Count.mono : ∀ a0 a1 a2 a3 a4 a5 a6 k, LeO (tree_Count.f k a0 a1 a2 a3 a4 a5 a6) (tree_Count.f (k + 1) a0 a1 a2 a3 a4 a5 a6) :=
 fun _ _ _ _ _ _ _ k => (tree_walk.mono_l _ k).1 _ _ _
/-- The captured cell. -/
def tree_Count.I (g : Nat) (w : World) (O : Nat → Prop) (s : Int) : Prop := w.heap[g]? = some (.cells #[.int .i64 s] 3 (0, 0)) ∧ O = (fun b => b = g)
set_option maxHeartbeats 8000000 in
set_option maxRecDepth 100000 in
theorem tree_Count.inner (g : Nat) (w0 : World) (x : S26) (cs : List Value) (d s r : Int) (w : World) (O : Nat → Prop) (hK : k26.K w0 x cs) (hI : tree_Count.I g w O s) (h : tree_Count.step x d s = some r) :
  Calls Try.prog 35 #[.agg cs.toArray, .int .i64 d, .pointer (some ⟨g, 0, none⟩)] w fun e w' => e = .returned (.bool true) ∧ ∃ O', tree_Count.I g w' O' r ∧ Fr w w' O O' := by
 obtain ⟨A5, c5, rfl, l5, g5⟩ := k26_open hK
 obtain ⟨hg, hO⟩ := hI
 have hr : wrap64 (s + 1) = r := by simpa [tree_Count.step] using h
 have HH := Aside0.mk hg
 have HO := Aside0.mk hO
 have HR := Aside0.mk hr
 have hgl := blk_lt hg
 clear hK h g5 hr hO
 have hu26 := Try.underlying26
 go_enter Try.func35, Try.ntmps35
 go_wp2_with (first
  | ((with_reducible refine gate_dst (N := 3) rfl ?_); refine box_event ?hg (N := 3) ?hd (cs := #[.int .i64 x.f0, .string x.f1, .int .u32 x.f2, .int .i64 x.f3, .string x.f4, .slice A5 x.f5.length c5, .int .i64 x.f6]) (t := 26) ?hr ?_; (case hd => rfl); (case hg => rfl); (case hr => first | (go_simp; done) | (go_simp; rfl)); intro gb hgb w2 hbox hb; have hc2 := blk_below HH.out hb; have z0 : w2.cell? ⟨g, 0, none⟩ = some (.int .i64 s) := (blk_cell hc2 0).trans rfl; have y0 := blk_frozen hc2 0; have BW := Aside0.mk hb; have HC := Aside0.mk hc2; clear hbox hb hc2 hg)
  | fail)
 go_ret
 rw [HR.out]
 refine ⟨rfl, O, ⟨blk_put HC.out 0 _ rfl, HO.out⟩, (Fr.below BW.out O).trans ⟨rfl, rfl, rfl, by simp [World.setCell], fun b hb hn => ?_, fun b hb => .inl hb⟩⟩
 refine Below.heap_setCell _ _ _ _ (fun e => hn ?_)
 rw [HO.out]; exact e
set_option maxHeartbeats 8000000 in
set_option maxRecDepth 100000 in
theorem tree_Count.calls (k : Nat) (a0_0 : Int) (a0_1 : ByteArray) (a0_2 : Int) (a0_3 : Int) (a0_4 : ByteArray) (A0_5 : Option Addr) (c0_5 : Nat) (l0_5 : List (S26)) (a0_6 : Int) (r : Int) (w : World) (hr0_5 : Kd.C k26 w A0_5 l0_5.length l0_5) (hc0_5 : l0_5.length ≤ c0_5) (h : tree_Count.f k a0_0 a0_1 a0_2 a0_3 a0_4 l0_5 a0_6 = some r) :
  Calls Try.prog 19 #[.agg #[.int .i64 a0_0, .string a0_1, .int .u32 a0_2, .int .i64 a0_3, .string a0_4, .slice A0_5 l0_5.length c0_5, .int .i64 a0_6]] w fun e w' => e = .returned (.int .i64 r) ∧ Below w.heap.size w w' := by
 have hK := Aside0.mk (k26_mk w ⟨a0_0, a0_1, a0_2, a0_3, a0_4, l0_5, a0_6⟩ hc0_5 hr0_5)
 have H := Aside0.mk h
 have hu26 := Try.underlying26
 clear h hr0_5
 go_enter Try.func19, Try.ntmps19
 go_wp2_with fail
 refine (tree_walk.calls tree_Count.step (tree_Count.I (w.heap.size + 1)) w 35 Try.f35 #[.pointer (some ⟨w.heap.size + 1, 0, none⟩)] Try.func35 (by kernel_rfl) rfl
  (fun w1 w2 O s hb hI => ⟨(hb _ (by rw [hI.2])).trans hI.1, hI.2⟩)
  (fun w1 O s hI b hb => by
   have e : b = w.heap.size + 1 := by have hb' := hb; rw [hI.2] at hb'; exact hb'
   subst e
   exact ⟨by omega, blk_lt hI.1⟩)
  (fun x cs d s r w1 O hK hB hI h => calls_of_args rfl (tree_Count.inner _ w x cs d s r w1 O hK hI h))
  k _ _ 1 0 r _ (fun b => b = w.heap.size + 1) hK.out (below_alloc (below_alloc (Below.refl _ _) _) _) ⟨by first | exact blk_new _ _ | (simpa using blk_new (w.alloc _) _), rfl⟩ H.out).mono ?_
 rintro e w3 ⟨rfl, O', ⟨hg, hO⟩, hF⟩
 have z0 : w3.cell? ⟨w.heap.size + 1, 0, none⟩ = some (.int .i64 r) := (blk_cell hg 0).trans rfl
 have FB := Aside0.mk (Fr.out (below_alloc (below_alloc (Below.refl w.heap.size w) _) _) hF (fun b hb => by show w.heap.size ≤ b; have hb' : b = w.heap.size + 1 := hb; omega))
 clear hg hO hF
 go_wp2
 go_ret
 exact ⟨rfl, FB.out⟩

/-! ### tree_Depth: function 21 -/
def tree_Depth.step (_x : S26) (d : Int) (s : Int) : Option Int := some (mx s d)
def tree_Depth.f (k : Nat) (a0_0 : Int) (a0_1 : ByteArray) (a0_2 : Int) (a0_3 : Int) (a0_4 : ByteArray) (l0_5 : List (S26)) (a0_6 : Int) : Option Int := tree_walk.g tree_Depth.step k ⟨a0_0, a0_1, a0_2, a0_3, a0_4, l0_5, a0_6⟩ 1 0
theorem tree_Depth.mono : ∀ a0 a1 a2 a3 a4 a5 a6 k, LeO (tree_Depth.f k a0 a1 a2 a3 a4 a5 a6) (tree_Depth.f (k + 1) a0 a1 a2 a3 a4 a5 a6) :=
 fun _ _ _ _ _ _ _ k => (tree_walk.mono_l _ k).1 _ _ _
/-- The captured cell. -/
def tree_Depth.I (g : Nat) (w : World) (O : Nat → Prop) (s : Int) : Prop := w.heap[g]? = some (.cells #[.int .i64 s] 3 (0, 0)) ∧ O = (fun b => b = g)
set_option maxHeartbeats 8000000 in
set_option maxRecDepth 100000 in
theorem tree_Depth.inner (g : Nat) (w0 : World) (x : S26) (cs : List Value) (d s r : Int) (w : World) (O : Nat → Prop) (hK : k26.K w0 x cs) (hI : tree_Depth.I g w O s) (h : tree_Depth.step x d s = some r) :
  Calls Try.prog 36 #[.agg cs.toArray, .int .i64 d, .pointer (some ⟨g, 0, none⟩)] w fun e w' => e = .returned (.bool true) ∧ ∃ O', tree_Depth.I g w' O' r ∧ Fr w w' O O' := by
 obtain ⟨A5, c5, rfl, l5, g5⟩ := k26_open hK
 obtain ⟨hg, hO⟩ := hI
 have hr : mx s d = r := by simpa [tree_Depth.step] using h
 by_cases hlt : s < d
 ·skip
  have HH := Aside0.mk hg
  have HO := Aside0.mk hO
  have HR : Aside0 (d = r) := ⟨by rw [← hr]; unfold mx; rw [if_pos hlt]⟩
  have hgl := blk_lt hg
  clear hK h g5 hr hO
  have hu26 := Try.underlying26
  go_enter Try.func36, Try.ntmps36
  go_wp2_with (first
   | ((with_reducible refine gate_dst (N := 3) rfl ?_); refine box_event ?hg (N := 3) ?hd (cs := #[.int .i64 x.f0, .string x.f1, .int .u32 x.f2, .int .i64 x.f3, .string x.f4, .slice A5 x.f5.length c5, .int .i64 x.f6]) (t := 26) ?hr ?_; (case hd => rfl); (case hg => rfl); (case hr => first | (go_simp; done) | (go_simp; rfl)); intro gb hgb w2 hbox hb; have hc2 := blk_below HH.out hb; have z0 : w2.cell? ⟨g, 0, none⟩ = some (.int .i64 s) := (blk_cell hc2 0).trans rfl; have y0 := blk_frozen hc2 0; have BW := Aside0.mk hb; have HC := Aside0.mk hc2; clear hbox hb hc2 hg)
   | fail)
  go_ret
  rw [HR.out]
  refine ⟨rfl, O, ⟨blk_put HC.out 0 _ rfl, HO.out⟩, (Fr.below BW.out O).trans ⟨rfl, rfl, rfl, by simp [World.setCell], fun b hb hn => ?_, fun b hb => .inl hb⟩⟩
  refine Below.heap_setCell _ _ _ _ (fun e => hn ?_)
  rw [HO.out]; exact e
 ·skip
  have HH := Aside0.mk hg
  have HO := Aside0.mk hO
  have HR : Aside0 (s = r) := ⟨by rw [← hr]; unfold mx; rw [if_neg hlt]⟩
  have hgl := blk_lt hg
  clear hK h g5 hr hO
  have hu26 := Try.underlying26
  go_enter Try.func36, Try.ntmps36
  go_wp2_with (first
   | ((with_reducible refine gate_dst (N := 3) rfl ?_); refine box_event ?hg (N := 3) ?hd (cs := #[.int .i64 x.f0, .string x.f1, .int .u32 x.f2, .int .i64 x.f3, .string x.f4, .slice A5 x.f5.length c5, .int .i64 x.f6]) (t := 26) ?hr ?_; (case hd => rfl); (case hg => rfl); (case hr => first | (go_simp; done) | (go_simp; rfl)); intro gb hgb w2 hbox hb; have hc2 := blk_below HH.out hb; have z0 : w2.cell? ⟨g, 0, none⟩ = some (.int .i64 s) := (blk_cell hc2 0).trans rfl; have y0 := blk_frozen hc2 0; have BW := Aside0.mk hb; have HC := Aside0.mk hc2; clear hbox hb hc2 hg)
   | fail)
  go_ret
  rw [HR.out]
  refine ⟨rfl, O, ⟨blk_put HC.out 0 _ rfl, HO.out⟩, (Fr.below BW.out O).trans ⟨rfl, rfl, rfl, by simp [World.setCell], fun b hb hn => ?_, fun b hb => .inl hb⟩⟩
  refine Below.heap_setCell _ _ _ _ (fun e => hn ?_)
  rw [HO.out]; exact e
set_option maxHeartbeats 8000000 in
set_option maxRecDepth 100000 in
theorem tree_Depth.calls (k : Nat) (a0_0 : Int) (a0_1 : ByteArray) (a0_2 : Int) (a0_3 : Int) (a0_4 : ByteArray) (A0_5 : Option Addr) (c0_5 : Nat) (l0_5 : List (S26)) (a0_6 : Int) (r : Int) (w : World) (hr0_5 : Kd.C k26 w A0_5 l0_5.length l0_5) (hc0_5 : l0_5.length ≤ c0_5) (h : tree_Depth.f k a0_0 a0_1 a0_2 a0_3 a0_4 l0_5 a0_6 = some r) :
  Calls Try.prog 21 #[.agg #[.int .i64 a0_0, .string a0_1, .int .u32 a0_2, .int .i64 a0_3, .string a0_4, .slice A0_5 l0_5.length c0_5, .int .i64 a0_6]] w fun e w' => e = .returned (.int .i64 r) ∧ Below w.heap.size w w' := by
 have hK := Aside0.mk (k26_mk w ⟨a0_0, a0_1, a0_2, a0_3, a0_4, l0_5, a0_6⟩ hc0_5 hr0_5)
 have H := Aside0.mk h
 have hu26 := Try.underlying26
 clear h hr0_5
 go_enter Try.func21, Try.ntmps21
 go_wp2_with fail
 refine (tree_walk.calls tree_Depth.step (tree_Depth.I (w.heap.size + 1)) w 36 Try.f36 #[.pointer (some ⟨w.heap.size + 1, 0, none⟩)] Try.func36 (by kernel_rfl) rfl
  (fun w1 w2 O s hb hI => ⟨(hb _ (by rw [hI.2])).trans hI.1, hI.2⟩)
  (fun w1 O s hI b hb => by
   have e : b = w.heap.size + 1 := by have hb' := hb; rw [hI.2] at hb'; exact hb'
   subst e
   exact ⟨by omega, blk_lt hI.1⟩)
  (fun x cs d s r w1 O hK hB hI h => calls_of_args rfl (tree_Depth.inner _ w x cs d s r w1 O hK hI h))
  k _ _ 1 0 r _ (fun b => b = w.heap.size + 1) hK.out (below_alloc (below_alloc (Below.refl _ _) _) _) ⟨by first | exact blk_new _ _ | (simpa using blk_new (w.alloc _) _), rfl⟩ H.out).mono ?_
 rintro e w3 ⟨rfl, O', ⟨hg, hO⟩, hF⟩
 have z0 : w3.cell? ⟨w.heap.size + 1, 0, none⟩ = some (.int .i64 r) := (blk_cell hg 0).trans rfl
 have FB := Aside0.mk (Fr.out (below_alloc (below_alloc (Below.refl w.heap.size w) _) _) hF (fun b hb => by show w.heap.size ≤ b; have hb' : b = w.heap.size + 1 := hb; omega))
 clear hg hO hF
 go_wp2
 go_ret
 exact ⟨rfl, FB.out⟩

/-! ### tree_named: function 41 -/
def tree_named.l0 : Nat → ByteArray → Int → Int → Option (Bool)
 | 0, _, _, _ => none
 | k + 1, x0, x6, x7 => if x7 < x6 then (if 0 ≤ x7 then (if x7 < (x0.size : Int) then (if (bt x0 x7) = 95 then (tree_named.l0 k x0 x6 (wrap64 (x7 + 1))) else (if (bt x0 x7) < 97 then (if x7 = 0 then (some false) else (if (bt x0 x7) < 48 then (some false) else (if (bt x0 x7) > 57 then (some false) else (tree_named.l0 k x0 x6 (wrap64 (x7 + 1)))))) else (if (bt x0 x7) > 122 then (if x7 = 0 then (some false) else (if (bt x0 x7) < 48 then (some false) else (if (bt x0 x7) > 57 then (some false) else (tree_named.l0 k x0 x6 (wrap64 (x7 + 1)))))) else (tree_named.l0 k x0 x6 (wrap64 (x7 + 1)))))) else (none)) else (none)) else (some (x0.toList != ([] : List UInt8)))
def tree_named.f (k : Nat) (a0 : ByteArray) : Option (Bool) := tree_named.l0 k a0 (a0.size : Int) 0
theorem tree_named.mono_l : ∀ k, (∀ y0 y1 y2, LeO (tree_named.l0 k y0 y1 y2) (tree_named.l0 (k + 1) y0 y1 y2))
 | 0 => fun _ _ _ r h => by simp [tree_named.l0] at h
 | k + 1 => by
  have ih0 := tree_named.mono_l k
  ·intro y0 y1 y2
   unfold tree_named.l0
   repeat' first
   | (with_reducible exact ih0 _ _ _)
   | (with_reducible exact LeO.refl _)
   | (with_reducible exact LeO.none _)
   | (with_reducible refine LeO.ite ?_ ?_)
   | (with_reducible refine LeO.bind ?_ (fun _ => ?_))
   | exact LeO.none _
   | refine LeO.ite ?_ ?_
   | refine LeO.bind ?_ (fun _ => ?_)
theorem tree_named.mono : ∀ a0 k, LeO (tree_named.f k a0) (tree_named.f (k + 1) a0) := by
 intro a0 k
 have ih0 := tree_named.mono_l k
 unfold tree_named.f
 repeat' first
   | (with_reducible exact ih0 _ _ _)
   | (with_reducible exact LeO.refl _)
   | (with_reducible exact LeO.none _)
   | (with_reducible refine LeO.ite ?_ ?_)
   | (with_reducible refine LeO.bind ?_ (fun _ => ?_))
   | exact LeO.none _
   | refine LeO.ite ?_ ?_
   | refine LeO.bind ?_ (fun _ => ?_)
set_option maxHeartbeats 8000000 in
set_option maxRecDepth 100000 in
theorem tree_named.calls (k : Nat) (a0 : ByteArray) (r : Bool) (w : World) (h : tree_named.f k a0 = some r) :
  Calls Try.prog 41 #[.string a0] w fun e w' => e = .returned (.bool r) ∧ Drawn0 w w' := by
 have H : (tree_named.l0 k a0 (a0.size : Int) 0) = some r := h
 clear h
 have H' := Aside0.mk H
 clear H
 go_enter Try.func41, Try.ntmps41
 go_wp2
 go_loopg [7] k (fun kq v7 w' => ∃ (x7_1 : Int), v7 = .int .i64 x7_1 ∧ Aside0 (tree_named.l0 kq a0 (a0.size : Int) x7_1 = some r) ∧ Aside0 (kq ≤ k) ∧ Drawn0 w w')
 case atStart => exact ⟨(0), (by first | rfl | (simp; done) | (simp [*]; done) | (simp; exact (fun l : List UInt8 => (by cases l <;> rfl : l.isEmpty = !(l != []))) _)), H', ⟨Nat.le_refl _⟩, by repeat (first | exact Drawn0.refl _ | apply Drawn0.step)⟩
 case round =>
  clear H'
  obtain ⟨x7_1, rfl, HA, HK1, ⟨m1, rfl⟩⟩ := hrel
  cases gk with
  | zero => exact absurd HA.out (by simp [tree_named.l0])
  | succ k1 =>
   have H := HA.out
   clear HA
   simp only [tree_named.l0] at H
   by_cases c2 : x7_1 < (a0.size : Int)
   ·rw [if_pos c2] at H
    have c2b0 : decide (x7_1 < (a0.size : Int)) = true := decide_eq_true c2
    clear c2
    by_cases c3 : 0 ≤ x7_1
    case neg => rw [if_neg c3] at H; exact absurd H (by simp)
    rw [if_pos c3] at H
    have c3b0 : decide (0 ≤ x7_1) = true := decide_eq_true c3
    clear c3
    by_cases c4 : x7_1 < (a0.size : Int)
    case neg => rw [if_neg c4] at H; exact absurd H (by simp)
    rw [if_pos c4] at H
    have c4b0 : decide (x7_1 < (a0.size : Int)) = true := decide_eq_true c4
    clear c4
    by_cases c6 : (bt a0 x7_1) = 95
    ·rw [if_pos c6] at H
     have c6b0 : ((bt a0 x7_1) == 95) = true := beq_iff_eq.mpr c6
     have c6b1 : ((bt a0 x7_1) != 95) = false := bne_eq_false_iff_eq.mpr c6
     clear c6
     have H' := Aside0.mk H
     clear H
     have p5 : 0 ≤ (x7_1 : Int) := of_decide_eq_true (by first | (with_reducible assumption) | assumption)
     have q5 : x7_1 < (a0.size : Int) := of_decide_eq_true (by first | (with_reducible assumption) | assumption)
     have hx5 := bt_at a0 x7_1
     replace p5 := eq_true p5
     replace q5 := eq_true q5
     go_wp2
     go_roundg k1
     case measure => have := HK1.out; omega
     case rel => exact ⟨(wrap64 (x7_1 + 1)), (by first | rfl | (simp; done) | (simp [*]; done) | (simp; exact (fun l : List UInt8 => (by cases l <;> rfl : l.isEmpty = !(l != []))) _)), H', ⟨by have := HK1.out; omega⟩, by repeat (first | exact Drawn0.refl _ | apply Drawn0.step)⟩
    ·rw [if_neg c6] at H
     have c6b0 : ((bt a0 x7_1) == 95) = false := beq_eq_false_iff_ne.mpr c6
     have c6b1 : ((bt a0 x7_1) != 95) = true := bne_iff_ne.mpr c6
     by_cases c7 : (bt a0 x7_1) < 97
     ·rw [if_pos c7] at H
      have c7b0 : decide ((bt a0 x7_1) < 97) = true := decide_eq_true c7
      clear c7
      by_cases c8 : x7_1 = 0
      ·rw [if_pos c8] at H
       have c8b0 : (x7_1 == 0) = true := beq_iff_eq.mpr c8
       have c8b1 : (x7_1 != 0) = false := bne_eq_false_iff_eq.mpr c8
       clear c8
       obtain rfl := Option.some.inj H
       have p5 : 0 ≤ (x7_1 : Int) := of_decide_eq_true (by first | (with_reducible assumption) | assumption)
       have q5 : x7_1 < (a0.size : Int) := of_decide_eq_true (by first | (with_reducible assumption) | assumption)
       have hx5 := bt_at a0 x7_1
       replace p5 := eq_true p5
       replace q5 := eq_true q5
       go_wp2
       go_ret
       exact ⟨by first | rfl | (simp; done) | (simp [*]; done) | (simp; exact (fun l : List UInt8 => (by cases l <;> rfl : l.isEmpty = !(l != []))) _), by repeat (first | exact Drawn0.refl _ | apply Drawn0.step)⟩
      ·rw [if_neg c8] at H
       have c8b0 : (x7_1 == 0) = false := beq_eq_false_iff_ne.mpr c8
       have c8b1 : (x7_1 != 0) = true := bne_iff_ne.mpr c8
       by_cases c9 : (bt a0 x7_1) < 48
       ·rw [if_pos c9] at H
        have c9b0 : decide ((bt a0 x7_1) < 48) = true := decide_eq_true c9
        clear c9
        obtain rfl := Option.some.inj H
        have p5 : 0 ≤ (x7_1 : Int) := of_decide_eq_true (by first | (with_reducible assumption) | assumption)
        have q5 : x7_1 < (a0.size : Int) := of_decide_eq_true (by first | (with_reducible assumption) | assumption)
        have hx5 := bt_at a0 x7_1
        replace p5 := eq_true p5
        replace q5 := eq_true q5
        go_wp2
        go_ret
        exact ⟨by first | rfl | (simp; done) | (simp [*]; done) | (simp; exact (fun l : List UInt8 => (by cases l <;> rfl : l.isEmpty = !(l != []))) _), by repeat (first | exact Drawn0.refl _ | apply Drawn0.step)⟩
       ·rw [if_neg c9] at H
        have c9b0 : decide ((bt a0 x7_1) < 48) = false := decide_eq_false c9
        clear c9
        by_cases c10 : (bt a0 x7_1) > 57
        ·rw [if_pos c10] at H
         have c10b0 : decide (57 < (bt a0 x7_1)) = true := decide_eq_true c10
         clear c10
         obtain rfl := Option.some.inj H
         have p5 : 0 ≤ (x7_1 : Int) := of_decide_eq_true (by first | (with_reducible assumption) | assumption)
         have q5 : x7_1 < (a0.size : Int) := of_decide_eq_true (by first | (with_reducible assumption) | assumption)
         have hx5 := bt_at a0 x7_1
         replace p5 := eq_true p5
         replace q5 := eq_true q5
         go_wp2
         go_ret
         exact ⟨by first | rfl | (simp; done) | (simp [*]; done) | (simp; exact (fun l : List UInt8 => (by cases l <;> rfl : l.isEmpty = !(l != []))) _), by repeat (first | exact Drawn0.refl _ | apply Drawn0.step)⟩
        ·rw [if_neg c10] at H
         have c10b0 : decide (57 < (bt a0 x7_1)) = false := decide_eq_false c10
         clear c10
         have H' := Aside0.mk H
         clear H
         have p5 : 0 ≤ (x7_1 : Int) := of_decide_eq_true (by first | (with_reducible assumption) | assumption)
         have q5 : x7_1 < (a0.size : Int) := of_decide_eq_true (by first | (with_reducible assumption) | assumption)
         have hx5 := bt_at a0 x7_1
         replace p5 := eq_true p5
         replace q5 := eq_true q5
         go_wp2
         go_roundg k1
         case measure => have := HK1.out; omega
         case rel => exact ⟨(wrap64 (x7_1 + 1)), (by first | rfl | (simp; done) | (simp [*]; done) | (simp; exact (fun l : List UInt8 => (by cases l <;> rfl : l.isEmpty = !(l != []))) _)), H', ⟨by have := HK1.out; omega⟩, by repeat (first | exact Drawn0.refl _ | apply Drawn0.step)⟩
     ·rw [if_neg c7] at H
      have c7b0 : decide ((bt a0 x7_1) < 97) = false := decide_eq_false c7
      clear c7
      by_cases c11 : (bt a0 x7_1) > 122
      ·rw [if_pos c11] at H
       have c11b0 : decide (122 < (bt a0 x7_1)) = true := decide_eq_true c11
       clear c11
       by_cases c12 : x7_1 = 0
       ·rw [if_pos c12] at H
        have c12b0 : (x7_1 == 0) = true := beq_iff_eq.mpr c12
        have c12b1 : (x7_1 != 0) = false := bne_eq_false_iff_eq.mpr c12
        clear c12
        obtain rfl := Option.some.inj H
        have p5 : 0 ≤ (x7_1 : Int) := of_decide_eq_true (by first | (with_reducible assumption) | assumption)
        have q5 : x7_1 < (a0.size : Int) := of_decide_eq_true (by first | (with_reducible assumption) | assumption)
        have hx5 := bt_at a0 x7_1
        replace p5 := eq_true p5
        replace q5 := eq_true q5
        go_wp2
        go_ret
        exact ⟨by first | rfl | (simp; done) | (simp [*]; done) | (simp; exact (fun l : List UInt8 => (by cases l <;> rfl : l.isEmpty = !(l != []))) _), by repeat (first | exact Drawn0.refl _ | apply Drawn0.step)⟩
       ·rw [if_neg c12] at H
        have c12b0 : (x7_1 == 0) = false := beq_eq_false_iff_ne.mpr c12
        have c12b1 : (x7_1 != 0) = true := bne_iff_ne.mpr c12
        by_cases c13 : (bt a0 x7_1) < 48
        ·rw [if_pos c13] at H
         have c13b0 : decide ((bt a0 x7_1) < 48) = true := decide_eq_true c13
         clear c13
         obtain rfl := Option.some.inj H
         have p5 : 0 ≤ (x7_1 : Int) := of_decide_eq_true (by first | (with_reducible assumption) | assumption)
         have q5 : x7_1 < (a0.size : Int) := of_decide_eq_true (by first | (with_reducible assumption) | assumption)
         have hx5 := bt_at a0 x7_1
         replace p5 := eq_true p5
         replace q5 := eq_true q5
         go_wp2
         go_ret
         exact ⟨by first | rfl | (simp; done) | (simp [*]; done) | (simp; exact (fun l : List UInt8 => (by cases l <;> rfl : l.isEmpty = !(l != []))) _), by repeat (first | exact Drawn0.refl _ | apply Drawn0.step)⟩
        ·rw [if_neg c13] at H
         have c13b0 : decide ((bt a0 x7_1) < 48) = false := decide_eq_false c13
         clear c13
         by_cases c14 : (bt a0 x7_1) > 57
         ·rw [if_pos c14] at H
          have c14b0 : decide (57 < (bt a0 x7_1)) = true := decide_eq_true c14
          clear c14
          obtain rfl := Option.some.inj H
          have p5 : 0 ≤ (x7_1 : Int) := of_decide_eq_true (by first | (with_reducible assumption) | assumption)
          have q5 : x7_1 < (a0.size : Int) := of_decide_eq_true (by first | (with_reducible assumption) | assumption)
          have hx5 := bt_at a0 x7_1
          replace p5 := eq_true p5
          replace q5 := eq_true q5
          go_wp2
          go_ret
          exact ⟨by first | rfl | (simp; done) | (simp [*]; done) | (simp; exact (fun l : List UInt8 => (by cases l <;> rfl : l.isEmpty = !(l != []))) _), by repeat (first | exact Drawn0.refl _ | apply Drawn0.step)⟩
         ·rw [if_neg c14] at H
          have c14b0 : decide (57 < (bt a0 x7_1)) = false := decide_eq_false c14
          clear c14
          have H' := Aside0.mk H
          clear H
          have p5 : 0 ≤ (x7_1 : Int) := of_decide_eq_true (by first | (with_reducible assumption) | assumption)
          have q5 : x7_1 < (a0.size : Int) := of_decide_eq_true (by first | (with_reducible assumption) | assumption)
          have hx5 := bt_at a0 x7_1
          replace p5 := eq_true p5
          replace q5 := eq_true q5
          go_wp2
          go_roundg k1
          case measure => have := HK1.out; omega
          case rel => exact ⟨(wrap64 (x7_1 + 1)), (by first | rfl | (simp; done) | (simp [*]; done) | (simp; exact (fun l : List UInt8 => (by cases l <;> rfl : l.isEmpty = !(l != []))) _)), H', ⟨by have := HK1.out; omega⟩, by repeat (first | exact Drawn0.refl _ | apply Drawn0.step)⟩
      ·rw [if_neg c11] at H
       have c11b0 : decide (122 < (bt a0 x7_1)) = false := decide_eq_false c11
       clear c11
       have H' := Aside0.mk H
       clear H
       have p5 : 0 ≤ (x7_1 : Int) := of_decide_eq_true (by first | (with_reducible assumption) | assumption)
       have q5 : x7_1 < (a0.size : Int) := of_decide_eq_true (by first | (with_reducible assumption) | assumption)
       have hx5 := bt_at a0 x7_1
       replace p5 := eq_true p5
       replace q5 := eq_true q5
       go_wp2
       go_roundg k1
       case measure => have := HK1.out; omega
       case rel => exact ⟨(wrap64 (x7_1 + 1)), (by first | rfl | (simp; done) | (simp [*]; done) | (simp; exact (fun l : List UInt8 => (by cases l <;> rfl : l.isEmpty = !(l != []))) _)), H', ⟨by have := HK1.out; omega⟩, by repeat (first | exact Drawn0.refl _ | apply Drawn0.step)⟩
   ·rw [if_neg c2] at H
    have c2b0 : decide (x7_1 < (a0.size : Int)) = false := decide_eq_false c2
    clear c2
    obtain rfl := Option.some.inj H
    go_wp2
    go_ret
    exact ⟨by first | rfl | (simp; done) | (simp [*]; done) | (simp; exact (fun l : List UInt8 => (by cases l <;> rfl : l.isEmpty = !(l != []))) _), by repeat (first | exact Drawn0.refl _ | apply Drawn0.step)⟩

/-! ### bits_Parts: function 49 -/
def bits_Parts.f (a0 : Int) : Option (Bool × Int × Int) := some (((Go.bits .and .u32 a0 2147483648) != 0), wrap64 (Go.bits .and .u32 (a0 / 8388608) 255), wrap64 (Go.bits .and .u32 a0 8388607))
set_option maxHeartbeats 8000000 in
set_option maxRecDepth 100000 in
theorem bits_Parts.calls (a0 : Int) (r1 : Bool) (r2 : Int) (r3 : Int) (w : World) (h : bits_Parts.f a0 = some (r1, r2, r3)) :
  Calls Try.prog 49 #[.int .u32 a0] w fun e w' => e = .returned (.tuple #[.bool r1, .int .i64 r2, .int .i64 r3]) ∧ Drawn0 w w' := by
 have H : (some (((Go.bits .and .u32 a0 2147483648) != 0), wrap64 (Go.bits .and .u32 (a0 / 8388608) 255), wrap64 (Go.bits .and .u32 a0 8388607))) = some (r1, r2, r3) := h
 clear h
 simp only [Option.some.injEq, Prod.mk.injEq] at H
 obtain ⟨rfl, rfl, rfl⟩ := H
 go_enter Try.func49, Try.ntmps49
 go_wp2
 go_ret3
 exact ⟨by first | rfl | (simp; done) | (simp [*]; done) | (simp; exact (fun l : List UInt8 => (by cases l <;> rfl : l.isEmpty = !(l != []))) _), by repeat (first | exact Drawn0.refl _ | apply Drawn0.step)⟩

/-! ### bits_Class: function 42 -/
def bits_Class.j0 : Nat → Int → Int → Bool → Option (Int)
 | 0, _, _, _ => none
 | k + 1, x4, x5, x12 => if x12 = true then (some 1) else (if x4 = 0 then (some 2) else (if x4 < 255 then (some 3) else (if x5 = 0 then (some 4) else (some 5))))
def bits_Class.f (k : Nat) (a0 : Int) : Option (Int) := (bits_Parts.f a0).bind fun bt106 => (if bt106.2.1 = 0 then (bits_Class.j0 k bt106.2.1 bt106.2.2 (bt106.2.2 == 0)) else (bits_Class.j0 k bt106.2.1 bt106.2.2 false))
theorem bits_Class.mono_l : ∀ k, (∀ y0 y1 y2, LeO (bits_Class.j0 k y0 y1 y2) (bits_Class.j0 (k + 1) y0 y1 y2))
 | 0 => fun _ _ _ r h => by simp [bits_Class.j0] at h
 | k + 1 => by
  have ih0 := bits_Class.mono_l k
  ·intro y0 y1 y2
   unfold bits_Class.j0
   repeat' first
   | (with_reducible exact ih0 _ _ _)
   | (with_reducible exact LeO.refl _)
   | (with_reducible exact LeO.none _)
   | (with_reducible refine LeO.ite ?_ ?_)
   | (with_reducible refine LeO.bind ?_ (fun _ => ?_))
   | exact LeO.none _
   | refine LeO.ite ?_ ?_
   | refine LeO.bind ?_ (fun _ => ?_)
theorem bits_Class.mono : ∀ a0 k, LeO (bits_Class.f k a0) (bits_Class.f (k + 1) a0) := by
 intro a0 k
 have ih0 := bits_Class.mono_l k
 unfold bits_Class.f
 repeat' first
   | (with_reducible exact ih0 _ _ _)
   | (with_reducible exact LeO.refl _)
   | (with_reducible exact LeO.none _)
   | (with_reducible refine LeO.ite ?_ ?_)
   | (with_reducible refine LeO.bind ?_ (fun _ => ?_))
   | exact LeO.none _
   | refine LeO.ite ?_ ?_
   | refine LeO.bind ?_ (fun _ => ?_)
set_option maxHeartbeats 8000000 in
set_option maxRecDepth 100000 in
theorem bits_Class.calls (k : Nat) (a0 : Int) (r : Int) (w : World) (h : bits_Class.f k a0 = some r) :
  Calls Try.prog 42 #[.int .u32 a0] w fun e w' => e = .returned (.int .i64 r) ∧ Drawn0 w w' := by
 have H : ((bits_Parts.f a0).bind fun bt106 => (if bt106.2.1 = 0 then (bits_Class.j0 k bt106.2.1 bt106.2.2 (bt106.2.2 == 0)) else (bits_Class.j0 k bt106.2.1 bt106.2.2 false))) = some r := h
 clear h
 replace H := Option.bind_eq_some_iff.mp H
 obtain ⟨⟨t106, t107, t108⟩, A20, H⟩ := H
 replace H : (if t107 = 0 then (bits_Class.j0 k t107 t108 (t108 == 0)) else (bits_Class.j0 k t107 t108 false)) = some r := H
 have A2 := Aside0.mk A20
 clear A20
 have HC3 := Aside0.mk H
 clear H
 go_enter Try.func42, Try.ntmps42
 go_upto_region 2 with (first | ((with_reducible refine gate_callee (f := 49) rfl ?_); refine goesL_ (some 8) rfl rfl Try.func49 (by kernel_rfl) rfl #[.int .u32 a0] rfl (by (try simp only [List.map_toArray, List.map_cons, List.map_nil]); first | done | rfl | (simp only [List.length_drop, List.length_take]; rfl)) ?_; (with_reducible refine (bits_Parts.calls a0 t106 t107 t108 _ A2.out).mono ?_); rintro e w' ⟨rfl, ⟨nd, rfl⟩⟩; refine ⟨_, rfl, ?_⟩))
 (try simp only [Act.put, List.setIfInBounds_toArray, List.set_cons_zero, List.set_cons_succ])
 go_cut [12] (fun v12 wc => ∃ (kq : Nat) (x12_2 : Bool), v12 = .bool x12_2 ∧ Aside0 (bits_Class.j0 kq t107 t108 x12_2 = some r) ∧ Aside0 (kq ≤ k) ∧ Drawn0 w wc)
 case first =>
  have H := HC3.out
  clear HC3
  by_cases c4 : t107 = 0
  ·rw [if_pos c4] at H
   have c4b0 : (t107 == 0) = true := beq_iff_eq.mpr c4
   have c4b1 : (t107 != 0) = false := bne_eq_false_iff_eq.mpr c4
   clear c4
   (first | rw [c4b0] | (simp only [i64_w, i32_w]; rw [c4b0]) | skip)
   have H' := Aside0.mk H
   clear H
   go_wp2
   go_meet
   case rel => exact ⟨_, ((t108 == 0)), (by first | rfl | (simp; done) | (simp [*]; done) | (simp; exact (fun l : List UInt8 => (by cases l <;> rfl : l.isEmpty = !(l != []))) _)), H', ⟨by first | omega | exact Nat.le_refl _⟩, by repeat (first | exact Drawn0.refl _ | apply Drawn0.step)⟩
  ·rw [if_neg c4] at H
   have c4b0 : (t107 == 0) = false := beq_eq_false_iff_ne.mpr c4
   have c4b1 : (t107 != 0) = true := bne_iff_ne.mpr c4
   (first | rw [c4b0] | (simp only [i64_w, i32_w]; rw [c4b0]) | skip)
   have H' := Aside0.mk H
   clear H
   go_wp2
   go_meet
   case rel => exact ⟨_, (false), (by first | rfl | (simp; done) | (simp [*]; done) | (simp; exact (fun l : List UInt8 => (by cases l <;> rfl : l.isEmpty = !(l != []))) _)), H', ⟨by first | omega | exact Nat.le_refl _⟩, by repeat (first | exact Drawn0.refl _ | apply Drawn0.step)⟩
 case rest =>
  clear HC3
  try clear p2
  try clear c4
  try clear c4b0
  try clear c4b1
  obtain ⟨kq, x12_2, rfl, HA, HJ2, ⟨mc2, rfl⟩⟩ := hcut
  cases kq with
  | zero => exact absurd HA.out (by simp [bits_Class.j0])
  | succ kj2 =>
   have H := HA.out
   clear HA
   simp only [bits_Class.j0] at H
   by_cases c5 : x12_2 = true
   ·subst c5
    have H1 : (some 1) = some r := by rw [if_pos rfl] at H; exact H
    clear H
    have H := H1
    clear H1
    obtain rfl := Option.some.inj H
    go_wp2
    go_ret
    exact ⟨by first | rfl | (simp; done) | (simp [*]; done) | (simp; exact (fun l : List UInt8 => (by cases l <;> rfl : l.isEmpty = !(l != []))) _), by repeat (first | exact Drawn0.refl _ | apply Drawn0.step)⟩
   ·replace c5 := Bool.eq_false_iff.mpr c5
    subst c5
    have H1 : (if t107 = 0 then (some 2) else (if t107 < 255 then (some 3) else (if t108 = 0 then (some 4) else (some 5)))) = some r := by rw [if_neg (show ¬ (false = true) by decide)] at H; exact H
    clear H
    have H := H1
    clear H1
    by_cases c6 : t107 = 0
    ·rw [if_pos c6] at H
     have c6b0 : (t107 == 0) = true := beq_iff_eq.mpr c6
     have c6b1 : (t107 != 0) = false := bne_eq_false_iff_eq.mpr c6
     clear c6
     obtain rfl := Option.some.inj H
     go_wp2
     go_ret
     exact ⟨by first | rfl | (simp; done) | (simp [*]; done) | (simp; exact (fun l : List UInt8 => (by cases l <;> rfl : l.isEmpty = !(l != []))) _), by repeat (first | exact Drawn0.refl _ | apply Drawn0.step)⟩
    ·rw [if_neg c6] at H
     have c6b0 : (t107 == 0) = false := beq_eq_false_iff_ne.mpr c6
     have c6b1 : (t107 != 0) = true := bne_iff_ne.mpr c6
     by_cases c7 : t107 < 255
     ·rw [if_pos c7] at H
      have c7b0 : decide (t107 < 255) = true := decide_eq_true c7
      clear c7
      obtain rfl := Option.some.inj H
      go_wp2
      go_ret
      exact ⟨by first | rfl | (simp; done) | (simp [*]; done) | (simp; exact (fun l : List UInt8 => (by cases l <;> rfl : l.isEmpty = !(l != []))) _), by repeat (first | exact Drawn0.refl _ | apply Drawn0.step)⟩
     ·rw [if_neg c7] at H
      have c7b0 : decide (t107 < 255) = false := decide_eq_false c7
      clear c7
      by_cases c8 : t108 = 0
      ·rw [if_pos c8] at H
       have c8b0 : (t108 == 0) = true := beq_iff_eq.mpr c8
       have c8b1 : (t108 != 0) = false := bne_eq_false_iff_eq.mpr c8
       clear c8
       obtain rfl := Option.some.inj H
       go_wp2
       go_ret
       exact ⟨by first | rfl | (simp; done) | (simp [*]; done) | (simp; exact (fun l : List UInt8 => (by cases l <;> rfl : l.isEmpty = !(l != []))) _), by repeat (first | exact Drawn0.refl _ | apply Drawn0.step)⟩
      ·rw [if_neg c8] at H
       have c8b0 : (t108 == 0) = false := beq_eq_false_iff_ne.mpr c8
       have c8b1 : (t108 != 0) = true := bne_iff_ne.mpr c8
       obtain rfl := Option.some.inj H
       go_wp2
       go_ret
       exact ⟨by first | rfl | (simp; done) | (simp [*]; done) | (simp; exact (fun l : List UInt8 => (by cases l <;> rfl : l.isEmpty = !(l != []))) _), by repeat (first | exact Drawn0.refl _ | apply Drawn0.step)⟩

end Go.Proofs.Ytbfomjbencbmlaa.Q
