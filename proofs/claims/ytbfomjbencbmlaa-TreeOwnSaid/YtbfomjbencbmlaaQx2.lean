/- Lean functions with the answers of the Go functions that the law reaches, proved to be just these answers. Conditions: those that each theorem names. -/
import Derived.Test.YtbfomjbencbmlaaQx0
import Derived.Test.YtbfomjbencbmlaaQx1
namespace Go.Proofs.Ytbfomjbencbmlaa.Q
open Go.RowKit Go.Proofs.YtbfomjbencbmlaaW.PrintWords Go.Proofs.YtbfomjbencbmlaaW.PrintLast Go.Proofs.YtbfomjbencbmlaaW.PrintMore
attribute [local go_sem] max2_int min2_int max_two min_two max_three min_three max_four min_four   -- for this text's walks alone
set_option linter.unusedVariables false
set_option linter.unusedSimpArgs false

/-! ### tree_quoted: function 43 -/
def tree_quoted.l0 : Nat → ByteArray → Int → Int → Option (Bool)
 | 0, _, _, _ => none
 | k + 1, x0, x5, x6 => if x6 < x5 then (if 0 ≤ x6 then (if x6 < (x0.size : Int) then (if (bt x0 x6) < 32 then (some false) else (if (bt x0 x6) > 126 then (some false) else (if (bt x0 x6) = 34 then (some false) else (tree_quoted.l0 k x0 x5 (wrap64 (x6 + 1)))))) else (none)) else (none)) else (some true)
def tree_quoted.f (k : Nat) (a0 : ByteArray) : Option (Bool) := tree_quoted.l0 k a0 (a0.size : Int) 0
theorem tree_quoted.mono_l : ∀ k, (∀ y0 y1 y2, LeO (tree_quoted.l0 k y0 y1 y2) (tree_quoted.l0 (k + 1) y0 y1 y2))
 | 0 => fun _ _ _ r h => by simp [tree_quoted.l0] at h
 | k + 1 => by
  have ih0 := tree_quoted.mono_l k
  ·intro y0 y1 y2
   unfold tree_quoted.l0
   repeat' first
   | (with_reducible exact ih0 _ _ _)
   | (with_reducible exact LeO.refl _)
   | (with_reducible exact LeO.none _)
   | (with_reducible refine LeO.ite ?_ ?_)
   | (with_reducible refine LeO.bind ?_ (fun _ => ?_))
   | exact LeO.none _
   | refine LeO.ite ?_ ?_
   | refine LeO.bind ?_ (fun _ => ?_)
theorem tree_quoted.mono : ∀ a0 k, LeO (tree_quoted.f k a0) (tree_quoted.f (k + 1) a0) := by
 intro a0 k
 have ih0 := tree_quoted.mono_l k
 unfold tree_quoted.f
 repeat' first
   | (with_reducible exact ih0 _ _ _)
   | (with_reducible exact LeO.refl _)
   | (with_reducible exact LeO.none _)
   | (with_reducible refine LeO.ite ?_ ?_)
   | (with_reducible refine LeO.bind ?_ (fun _ => ?_))
   | exact LeO.none _
   | refine LeO.ite ?_ ?_
   | refine LeO.bind ?_ (fun _ => ?_)
set_option maxHeartbeats 8000000 in
set_option maxRecDepth 100000 in
theorem tree_quoted.calls (k : Nat) (a0 : ByteArray) (r : Bool) (w : World) (h : tree_quoted.f k a0 = some r) :
  Calls Try.prog 43 #[.string a0] w fun e w' => e = .returned (.bool r) ∧ Drawn0 w w' := by
 have H : (tree_quoted.l0 k a0 (a0.size : Int) 0) = some r := h
 clear h
 have H' := Aside0.mk H
 clear H
 go_enter Try.func43, Try.ntmps43
 go_wp2
 go_loopg [6] k (fun kq v6 w' => ∃ (x6_1 : Int), v6 = .int .i64 x6_1 ∧ Aside0 (tree_quoted.l0 kq a0 (a0.size : Int) x6_1 = some r) ∧ Aside0 (kq ≤ k) ∧ Drawn0 w w')
 case atStart => exact ⟨(0), (by first | rfl | (simp; done) | (simp [*]; done) | (simp; exact (fun l : List UInt8 => (by cases l <;> rfl : l.isEmpty = !(l != []))) _)), H', ⟨Nat.le_refl _⟩, by repeat (first | exact Drawn0.refl _ | apply Drawn0.step)⟩
 case round =>
  clear H'
  obtain ⟨x6_1, rfl, HA, HK1, ⟨m1, rfl⟩⟩ := hrel
  cases gk with
  | zero => exact absurd HA.out (by simp [tree_quoted.l0])
  | succ k1 =>
   have H := HA.out
   clear HA
   simp only [tree_quoted.l0] at H
   by_cases c2 : x6_1 < (a0.size : Int)
   ·rw [if_pos c2] at H
    have c2b0 : decide (x6_1 < (a0.size : Int)) = true := decide_eq_true c2
    clear c2
    by_cases c3 : 0 ≤ x6_1
    case neg => rw [if_neg c3] at H; exact absurd H (by simp)
    rw [if_pos c3] at H
    have c3b0 : decide (0 ≤ x6_1) = true := decide_eq_true c3
    clear c3
    by_cases c4 : x6_1 < (a0.size : Int)
    case neg => rw [if_neg c4] at H; exact absurd H (by simp)
    rw [if_pos c4] at H
    have c4b0 : decide (x6_1 < (a0.size : Int)) = true := decide_eq_true c4
    clear c4
    by_cases c6 : (bt a0 x6_1) < 32
    ·rw [if_pos c6] at H
     have c6b0 : decide ((bt a0 x6_1) < 32) = true := decide_eq_true c6
     clear c6
     obtain rfl := Option.some.inj H
     have p5 : 0 ≤ (x6_1 : Int) := of_decide_eq_true (by first | (with_reducible assumption) | assumption)
     have q5 : x6_1 < (a0.size : Int) := of_decide_eq_true (by first | (with_reducible assumption) | assumption)
     have hx5 := bt_at a0 x6_1
     replace p5 := eq_true p5
     replace q5 := eq_true q5
     go_wp2
     go_ret
     exact ⟨by first | rfl | (simp; done) | (simp [*]; done) | (simp; exact (fun l : List UInt8 => (by cases l <;> rfl : l.isEmpty = !(l != []))) _), by repeat (first | exact Drawn0.refl _ | apply Drawn0.step)⟩
    ·rw [if_neg c6] at H
     have c6b0 : decide ((bt a0 x6_1) < 32) = false := decide_eq_false c6
     clear c6
     by_cases c8 : (bt a0 x6_1) > 126
     ·rw [if_pos c8] at H
      have c8b0 : decide (126 < (bt a0 x6_1)) = true := decide_eq_true c8
      clear c8
      obtain rfl := Option.some.inj H
      have p5 : 0 ≤ (x6_1 : Int) := of_decide_eq_true (by first | (with_reducible assumption) | assumption)
      have q5 : x6_1 < (a0.size : Int) := of_decide_eq_true (by first | (with_reducible assumption) | assumption)
      have hx5 := bt_at a0 x6_1
      replace p5 := eq_true p5
      replace q5 := eq_true q5
      have p7 : 0 ≤ (x6_1 : Int) := of_decide_eq_true (by first | (with_reducible assumption) | assumption)
      have q7 : x6_1 < (a0.size : Int) := of_decide_eq_true (by first | (with_reducible assumption) | assumption)
      have hx7 := bt_at a0 x6_1
      replace p7 := eq_true p7
      replace q7 := eq_true q7
      go_wp2
      go_ret
      exact ⟨by first | rfl | (simp; done) | (simp [*]; done) | (simp; exact (fun l : List UInt8 => (by cases l <;> rfl : l.isEmpty = !(l != []))) _), by repeat (first | exact Drawn0.refl _ | apply Drawn0.step)⟩
     ·rw [if_neg c8] at H
      have c8b0 : decide (126 < (bt a0 x6_1)) = false := decide_eq_false c8
      clear c8
      by_cases c10 : (bt a0 x6_1) = 34
      ·rw [if_pos c10] at H
       have c10b0 : ((bt a0 x6_1) == 34) = true := beq_iff_eq.mpr c10
       have c10b1 : ((bt a0 x6_1) != 34) = false := bne_eq_false_iff_eq.mpr c10
       clear c10
       obtain rfl := Option.some.inj H
       have p5 : 0 ≤ (x6_1 : Int) := of_decide_eq_true (by first | (with_reducible assumption) | assumption)
       have q5 : x6_1 < (a0.size : Int) := of_decide_eq_true (by first | (with_reducible assumption) | assumption)
       have hx5 := bt_at a0 x6_1
       replace p5 := eq_true p5
       replace q5 := eq_true q5
       have p7 : 0 ≤ (x6_1 : Int) := of_decide_eq_true (by first | (with_reducible assumption) | assumption)
       have q7 : x6_1 < (a0.size : Int) := of_decide_eq_true (by first | (with_reducible assumption) | assumption)
       have hx7 := bt_at a0 x6_1
       replace p7 := eq_true p7
       replace q7 := eq_true q7
       have p9 : 0 ≤ (x6_1 : Int) := of_decide_eq_true (by first | (with_reducible assumption) | assumption)
       have q9 : x6_1 < (a0.size : Int) := of_decide_eq_true (by first | (with_reducible assumption) | assumption)
       have hx9 := bt_at a0 x6_1
       replace p9 := eq_true p9
       replace q9 := eq_true q9
       go_wp2
       go_ret
       exact ⟨by first | rfl | (simp; done) | (simp [*]; done) | (simp; exact (fun l : List UInt8 => (by cases l <;> rfl : l.isEmpty = !(l != []))) _), by repeat (first | exact Drawn0.refl _ | apply Drawn0.step)⟩
      ·rw [if_neg c10] at H
       have c10b0 : ((bt a0 x6_1) == 34) = false := beq_eq_false_iff_ne.mpr c10
       have c10b1 : ((bt a0 x6_1) != 34) = true := bne_iff_ne.mpr c10
       have H' := Aside0.mk H
       clear H
       have p5 : 0 ≤ (x6_1 : Int) := of_decide_eq_true (by first | (with_reducible assumption) | assumption)
       have q5 : x6_1 < (a0.size : Int) := of_decide_eq_true (by first | (with_reducible assumption) | assumption)
       have hx5 := bt_at a0 x6_1
       replace p5 := eq_true p5
       replace q5 := eq_true q5
       have p7 : 0 ≤ (x6_1 : Int) := of_decide_eq_true (by first | (with_reducible assumption) | assumption)
       have q7 : x6_1 < (a0.size : Int) := of_decide_eq_true (by first | (with_reducible assumption) | assumption)
       have hx7 := bt_at a0 x6_1
       replace p7 := eq_true p7
       replace q7 := eq_true q7
       have p9 : 0 ≤ (x6_1 : Int) := of_decide_eq_true (by first | (with_reducible assumption) | assumption)
       have q9 : x6_1 < (a0.size : Int) := of_decide_eq_true (by first | (with_reducible assumption) | assumption)
       have hx9 := bt_at a0 x6_1
       replace p9 := eq_true p9
       replace q9 := eq_true q9
       go_wp2
       go_roundg k1
       case measure => have := HK1.out; omega
       case rel => exact ⟨(wrap64 (x6_1 + 1)), (by first | rfl | (simp; done) | (simp [*]; done) | (simp; exact (fun l : List UInt8 => (by cases l <;> rfl : l.isEmpty = !(l != []))) _)), H', ⟨by have := HK1.out; omega⟩, by repeat (first | exact Drawn0.refl _ | apply Drawn0.step)⟩
   ·rw [if_neg c2] at H
    have c2b0 : decide (x6_1 < (a0.size : Int)) = false := decide_eq_false c2
    clear c2
    obtain rfl := Option.some.inj H
    go_wp2
    go_ret
    exact ⟨by first | rfl | (simp; done) | (simp [*]; done) | (simp; exact (fun l : List UInt8 => (by cases l <;> rfl : l.isEmpty = !(l != []))) _), by repeat (first | exact Drawn0.refl _ | apply Drawn0.step)⟩

/-! ### tree_let: function 44 -/
def tree_let.f (k : Nat) (a0_0 : Int) (a0_1 : ByteArray) (a0_2 : Int) (a0_3 : Int) (a0_4 : ByteArray) (l0_5 : List (S26)) (a0_6 : Int) : Option (Bool) := (tree_named.f k a0_1).bind fun t110 => (if t110 = true then (if a0_1.toList = ([116, 114, 117, 101] : List UInt8) then (some false) else (if a0_1.toList = ([102, 97, 108, 115, 101] : List UInt8) then (some false) else (if (l0_5.length : Int) = 2 then (if 0 < (l0_5.length : Int) then (if 1 < (l0_5.length : Int) then (if ((rd_T26 l0_5 0).f4).toList = ([] : List UInt8) then (if ((rd_T26 l0_5 1).f4).toList = ([] : List UInt8) then (if ((rd_T26 l0_5 0).f0) = 6 then (some false) else (if ((rd_T26 l0_5 1).f0) = 6 then (some true) else (some (((rd_T26 l0_5 1).f0) == 1)))) else (some false)) else (some false)) else (none)) else (none)) else (some false)))) else (some false))
theorem tree_let.mono : ∀ a0 a1 a2 a3 a4 a5 a6 k, LeO (tree_let.f k a0 a1 a2 a3 a4 a5 a6) (tree_let.f (k + 1) a0 a1 a2 a3 a4 a5 a6) := by
 intro a0 a1 a2 a3 a4 a5 a6 k
 unfold tree_let.f
 repeat' first
   | (with_reducible exact tree_named.mono _ _)
   | (with_reducible exact LeO.refl _)
   | (with_reducible exact LeO.none _)
   | (with_reducible refine LeO.ite ?_ ?_)
   | (with_reducible refine LeO.bind ?_ (fun _ => ?_))
   | exact LeO.none _
   | refine LeO.ite ?_ ?_
   | refine LeO.bind ?_ (fun _ => ?_)
def tree_let.T3 : Bool × List (List Nat × List Nat) := (true, [([], []), ([0], [0]), ([1], [1]), ([2], [2]), ([], []), ([4], [4]), ([5], [5]), ([6], [6]), ([], []), ([], []), ([8, 3, 0, 1, 2, 3, 8, 9], [3, 8]), ([9, 7, 10, 0, 1, 2, 3, 4, 5, 6, 7, 8, 9, 10], [7, 9])])
def tree_let.B3 : List Nat := [0, 1, 3, 7, 0, 16, 48, 112, 0, 0, 783, 2047]
theorem tree_let.tab3 : rtab .any (opsOf Try.f44 3) = tree_let.T3 := by kernel_rfl
theorem tree_let.bits3 : waitsOk tree_let.T3.2 tree_let.B3 = true := by kernel_rfl
set_option maxHeartbeats 8000000 in
set_option maxRecDepth 100000 in
theorem tree_let.calls (k : Nat) (a0_0 : Int) (a0_1 : ByteArray) (a0_2 : Int) (a0_3 : Int) (a0_4 : ByteArray) (A0_5 : Option Addr) (c0_5 : Nat) (l0_5 : List (S26)) (a0_6 : Int) (r : Bool) (w : World) (hr0_5 : Kd.C k26 w A0_5 l0_5.length l0_5) (hc0_5 : l0_5.length ≤ c0_5) (h : tree_let.f k a0_0 a0_1 a0_2 a0_3 a0_4 l0_5 a0_6 = some r) :
  Calls Try.prog 44 #[.agg #[.int .i64 a0_0, .string a0_1, .int .u32 a0_2, .int .i64 a0_3, .string a0_4, .slice A0_5 l0_5.length c0_5, .int .i64 a0_6]] w fun e w' => e = .returned (.bool r) ∧ Below w.heap.size w w' := by
 have hu26 := Try.underlying26
 have HR0_5 := Aside0.mk hr0_5
 have HC0_5 := Aside0.mk hc0_5
 clear hr0_5 hc0_5
 have HB := Aside0.mk (Below.refl w.heap.size w)
 have H : ((tree_named.f k a0_1).bind fun t110 => (if t110 = true then (if a0_1.toList = ([116, 114, 117, 101] : List UInt8) then (some false) else (if a0_1.toList = ([102, 97, 108, 115, 101] : List UInt8) then (some false) else (if (l0_5.length : Int) = 2 then (if 0 < (l0_5.length : Int) then (if 1 < (l0_5.length : Int) then (if ((rd_T26 l0_5 0).f4).toList = ([] : List UInt8) then (if ((rd_T26 l0_5 1).f4).toList = ([] : List UInt8) then (if ((rd_T26 l0_5 0).f0) = 6 then (some false) else (if ((rd_T26 l0_5 1).f0) = 6 then (some true) else (some (((rd_T26 l0_5 1).f0) == 1)))) else (some false)) else (some false)) else (none)) else (none)) else (some false)))) else (some false))) = some r := h
 clear h
 replace H := Option.bind_eq_some_iff.mp H
 obtain ⟨t110, A20, H⟩ := H
 replace H : (if t110 = true then (if a0_1.toList = ([116, 114, 117, 101] : List UInt8) then (some false) else (if a0_1.toList = ([102, 97, 108, 115, 101] : List UInt8) then (some false) else (if (l0_5.length : Int) = 2 then (if 0 < (l0_5.length : Int) then (if 1 < (l0_5.length : Int) then (if ((rd_T26 l0_5 0).f4).toList = ([] : List UInt8) then (if ((rd_T26 l0_5 1).f4).toList = ([] : List UInt8) then (if ((rd_T26 l0_5 0).f0) = 6 then (some false) else (if ((rd_T26 l0_5 1).f0) = 6 then (some true) else (some (((rd_T26 l0_5 1).f0) == 1)))) else (some false)) else (some false)) else (none)) else (none)) else (some false)))) else (some false)) = some r := H
 have A2 := Aside0.mk A20
 clear A20
 by_cases c3 : t110 = true
 ·subst c3
  have H1 : (if a0_1.toList = ([116, 114, 117, 101] : List UInt8) then (some false) else (if a0_1.toList = ([102, 97, 108, 115, 101] : List UInt8) then (some false) else (if (l0_5.length : Int) = 2 then (if 0 < (l0_5.length : Int) then (if 1 < (l0_5.length : Int) then (if ((rd_T26 l0_5 0).f4).toList = ([] : List UInt8) then (if ((rd_T26 l0_5 1).f4).toList = ([] : List UInt8) then (if ((rd_T26 l0_5 0).f0) = 6 then (some false) else (if ((rd_T26 l0_5 1).f0) = 6 then (some true) else (some (((rd_T26 l0_5 1).f0) == 1)))) else (some false)) else (some false)) else (none)) else (none)) else (some false)))) = some r := by rw [if_pos rfl] at H; exact H
  clear H
  have H := H1
  clear H1
  by_cases c4 : a0_1.toList = ([116, 114, 117, 101] : List UInt8)
  ·rw [if_pos c4] at H
   have c4b0 : (a0_1.toList == ([116, 114, 117, 101] : List UInt8)) = true := beq_iff_eq.mpr c4
   have c4b1 : (a0_1.toList != ([116, 114, 117, 101] : List UInt8)) = false := bne_eq_false_iff_eq.mpr c4
   clear c4
   obtain rfl := Option.some.inj H
   go_enter Try.func44, Try.ntmps44
   go_wp2_with (first | ((with_reducible refine gate_dst (N := 1) rfl ?_); (try (refine gate_guard (by rfl) ?_; dsimp only)); refine box_event ?hg (N := 1) ?hd (cs := #[.int .i64 a0_0, .string a0_1, .int .u32 a0_2, .int .i64 a0_3, .string a0_4, .slice A0_5 l0_5.length c0_5, .int .i64 a0_6]) (t := 26) ?hr ?_; (case hd => rfl); (case hg => rfl); (case hr => first | (go_simp; done) | (go_simp; rfl)); intro gb109 hg w5 hbox hb; have BK109 := Aside0.mk (hbox); have GW109 := Aside0.mk ((by rw [hg]; exact (below_size (by repeat (first | (with_reducible first | exact HB.out | apply below_alloc | apply pw_below_drewN | apply below_drew1) | exact HB.out))) : w.heap.size ≤ gb109)); have GE109 := Aside0.mk ((by rw [hg]; exact (below_size (by repeat (first | (with_reducible first | exact HB.out | apply below_alloc | apply pw_below_drewN | apply below_drew1) | exact HB.out))) : w.heap.size ≤ gb109)); replace HB := Aside0.mk (below_step (by repeat (first | (with_reducible first | exact HB.out | apply below_alloc | apply pw_below_drewN | apply below_drew1) | exact HB.out)) hb); clear hb hbox hg; obtain ⟨hcz6_0, hcz6_1, hcz6_2, hcz6_3, hcz6_4, hcz6_5, hcz6_6, hfz6_0, hfz6_1, hfz6_2, hfz6_3, hfz6_4, hfz6_5, hfz6_6⟩ := blk7 BK109.out) | ((with_reducible refine gate_callee (f := 41) rfl ?_); refine goesL_ (some 7) rfl rfl Try.func41 (by kernel_rfl) rfl #[.string a0_1] rfl (by (try simp only [List.map_toArray, List.map_cons, List.map_nil]); first | done | rfl | (simp only [List.length_drop, List.length_take]; rfl)) ?_; (with_reducible refine (tree_named.calls k a0_1 true _ A2.out).mono ?_); rintro e w' ⟨rfl, ⟨nd, rfl⟩⟩; refine ⟨_, rfl, ?_⟩))
   go_ret
   exact ⟨by first | rfl | (simp [errW_none, errW_some] <;> rfl) | (simp [*, errW_none, errW_some] <;> rfl), by repeat (first | (with_reducible first | exact HB.out | apply below_alloc | apply pw_below_drewN | apply below_drew1 | refine below_set ?_ GE109.out) | exact HB.out)⟩
  ·rw [if_neg c4] at H
   have c4b0 : (a0_1.toList == ([116, 114, 117, 101] : List UInt8)) = false := beq_eq_false_iff_ne.mpr c4
   have c4b1 : (a0_1.toList != ([116, 114, 117, 101] : List UInt8)) = true := bne_iff_ne.mpr c4
   by_cases c7 : a0_1.toList = ([102, 97, 108, 115, 101] : List UInt8)
   ·rw [if_pos c7] at H
    have c7b0 : (a0_1.toList == ([102, 97, 108, 115, 101] : List UInt8)) = true := beq_iff_eq.mpr c7
    have c7b1 : (a0_1.toList != ([102, 97, 108, 115, 101] : List UInt8)) = false := bne_eq_false_iff_eq.mpr c7
    clear c7
    obtain rfl := Option.some.inj H
    go_enter Try.func44, Try.ntmps44
    go_wp2_with (first | ((with_reducible refine gate_dst (N := 1) rfl ?_); (try (refine gate_guard (by rfl) ?_; dsimp only)); refine box_event ?hg (N := 1) ?hd (cs := #[.int .i64 a0_0, .string a0_1, .int .u32 a0_2, .int .i64 a0_3, .string a0_4, .slice A0_5 l0_5.length c0_5, .int .i64 a0_6]) (t := 26) ?hr ?_; (case hd => rfl); (case hg => rfl); (case hr => first | (go_simp; done) | (go_simp; rfl)); intro gb109 hg w8 hbox hb; have BK109 := Aside0.mk (hbox); have GW109 := Aside0.mk ((by rw [hg]; exact (below_size (by repeat (first | (with_reducible first | exact HB.out | apply below_alloc | apply pw_below_drewN | apply below_drew1) | exact HB.out))) : w.heap.size ≤ gb109)); have GE109 := Aside0.mk ((by rw [hg]; exact (below_size (by repeat (first | (with_reducible first | exact HB.out | apply below_alloc | apply pw_below_drewN | apply below_drew1) | exact HB.out))) : w.heap.size ≤ gb109)); replace HB := Aside0.mk (below_step (by repeat (first | (with_reducible first | exact HB.out | apply below_alloc | apply pw_below_drewN | apply below_drew1) | exact HB.out)) hb); clear hb hbox hg; obtain ⟨hcz9_0, hcz9_1, hcz9_2, hcz9_3, hcz9_4, hcz9_5, hcz9_6, hfz9_0, hfz9_1, hfz9_2, hfz9_3, hfz9_4, hfz9_5, hfz9_6⟩ := blk7 BK109.out) | ((with_reducible refine gate_callee (f := 41) rfl ?_); refine goesL_ (some 7) rfl rfl Try.func41 (by kernel_rfl) rfl #[.string a0_1] rfl (by (try simp only [List.map_toArray, List.map_cons, List.map_nil]); first | done | rfl | (simp only [List.length_drop, List.length_take]; rfl)) ?_; (with_reducible refine (tree_named.calls k a0_1 true _ A2.out).mono ?_); rintro e w' ⟨rfl, ⟨nd, rfl⟩⟩; refine ⟨_, rfl, ?_⟩))
    go_ret
    exact ⟨by first | rfl | (simp [errW_none, errW_some] <;> rfl) | (simp [*, errW_none, errW_some] <;> rfl), by repeat (first | (with_reducible first | exact HB.out | apply below_alloc | apply pw_below_drewN | apply below_drew1 | refine below_set ?_ GE109.out) | exact HB.out)⟩
   ·rw [if_neg c7] at H
    have c7b0 : (a0_1.toList == ([102, 97, 108, 115, 101] : List UInt8)) = false := beq_eq_false_iff_ne.mpr c7
    have c7b1 : (a0_1.toList != ([102, 97, 108, 115, 101] : List UInt8)) = true := bne_iff_ne.mpr c7
    by_cases c10 : (l0_5.length : Int) = 2
    ·rw [if_pos c10] at H
     have c10b0 : ((l0_5.length : Int) == 2) = true := beq_iff_eq.mpr c10
     have c10b1 : ((l0_5.length : Int) != 2) = false := bne_eq_false_iff_eq.mpr c10
     clear c10
     by_cases c11 : 0 < (l0_5.length : Int)
     case neg => rw [if_neg c11] at H; exact absurd H (by simp)
     rw [if_pos c11] at H
     have c11b0 : decide (0 < (l0_5.length : Int)) = true := decide_eq_true c11
     have c11b1 : decide (0 < l0_5.length) = true := decide_eq_true (by omega)
     clear c11
     by_cases c12 : 1 < (l0_5.length : Int)
     case neg => rw [if_neg c12] at H; exact absurd H (by simp)
     rw [if_pos c12] at H
     have c12b0 : decide (1 < (l0_5.length : Int)) = true := decide_eq_true c12
     have c12b1 : decide (1 < l0_5.length) = true := decide_eq_true (by omega)
     clear c12
     have HZ_ := Aside0.mk H
     clear H
     go_enter Try.func44, Try.ntmps44
     try go_wp2_with (first | ((with_reducible refine gate_dst (N := 1) rfl ?_); (try (refine gate_guard (by rfl) ?_; dsimp only)); refine box_event ?hg (N := 1) ?hd (cs := #[.int .i64 a0_0, .string a0_1, .int .u32 a0_2, .int .i64 a0_3, .string a0_4, .slice A0_5 l0_5.length c0_5, .int .i64 a0_6]) (t := 26) ?hr ?_; (case hd => rfl); (case hg => rfl); (case hr => first | (go_simp; done) | (go_simp; rfl)); intro gb109 hg w16 hbox hb; have BK109 := Aside0.mk (hbox); have GW109 := Aside0.mk ((by rw [hg]; exact (below_size (by repeat (first | (with_reducible first | exact HB.out | apply below_alloc | apply pw_below_drewN | apply below_drew1) | exact HB.out))) : w.heap.size ≤ gb109)); have GE109 := Aside0.mk ((by rw [hg]; exact (below_size (by repeat (first | (with_reducible first | exact HB.out | apply below_alloc | apply pw_below_drewN | apply below_drew1) | exact HB.out))) : w.heap.size ≤ gb109)); replace HB := Aside0.mk (below_step (by repeat (first | (with_reducible first | exact HB.out | apply below_alloc | apply pw_below_drewN | apply below_drew1) | exact HB.out)) hb); clear hb hbox hg; obtain ⟨hcz17_0, hcz17_1, hcz17_2, hcz17_3, hcz17_4, hcz17_5, hcz17_6, hfz17_0, hfz17_1, hfz17_2, hfz17_3, hfz17_4, hfz17_5, hfz17_6⟩ := blk7 BK109.out) | ((with_reducible refine gate_callee (f := 41) rfl ?_); refine goesL_ (some 7) rfl rfl Try.func41 (by kernel_rfl) rfl #[.string a0_1] rfl (by (try simp only [List.map_toArray, List.map_cons, List.map_nil]); first | done | rfl | (simp only [List.length_drop, List.length_take]; rfl)) ?_; (with_reducible refine (tree_named.calls k a0_1 true _ A2.out).mono ?_); rintro e w' ⟨rfl, ⟨nd, rfl⟩⟩; refine ⟨_, rfl, ?_⟩; (try (rw [drewN_self w16]; generalize hq_ : World.drewN w16 _ = w16; have n0_ : Aside0 (w16.heap[gb109]? = some (.cells #[.int .i64 a0_0, .string a0_1, .int .u32 a0_2, .int .i64 a0_3, .string a0_4, .slice A0_5 l0_5.length c0_5, .int .i64 a0_6] 26 (0, 0))) := ⟨by rw [← hq_]; exact (by (with_reducible repeat (first | refine blk_drewN ?_ _ | refine blk_drew ?_ | refine blk_alloc ?_ _)); exact BK109.out)⟩; have n1_ : Aside0 (Below w.heap.size w w16) := ⟨by rw [← hq_]; exact (by repeat (first | (with_reducible first | exact HB.out | apply below_alloc | apply pw_below_drewN | apply below_drew1 | refine below_set ?_ GE109.out) | exact HB.out))⟩; clear BK109 HB hq_; have BK109 := n0_; have HB := n1_; clear n0_ n1_; obtain ⟨hcy109_0, hcy109_1, hcy109_2, hcy109_3, hcy109_4, hcy109_5, hcy109_6, hfy109_0, hfy109_1, hfy109_2, hfy109_3, hfy109_4, hfy109_5, hfy109_6⟩ := blk7 BK109.out))))
     replace BK109 := Aside0.mk (blk_drew BK109.out)
     replace HB := Aside0.mk (below_drew1 HB.out)
     have p111 : 0 ≤ (0 : Int) := (by omega)
     have q111 : 0 < (l0_5.length : Int) := of_decide_eq_true (by first | (with_reducible assumption) | assumption)
     obtain ⟨ad111, A111_5, c111_5, e111, hx111_0, hx111_1, hx111_2, hx111_3, hx111_4, hx111_5, hx111_6, hl111_5, hi111_5⟩ := at_T26 HR0_5.out 0 p111 q111
     have hw111_6 := hx111_6
     (try rw [show ((0 : Int)).toNat = 0 from rfl] at hw111_6)
     (try rw [show 0 * 7 = 0 from rfl] at hw111_6)
     (try rw [Addr.add_zero'] at hw111_6)
     have hw111_5 := hx111_5
     (try rw [show ((0 : Int)).toNat = 0 from rfl] at hw111_5)
     (try rw [show 0 * 7 = 0 from rfl] at hw111_5)
     (try rw [Addr.add_zero'] at hw111_5)
     have hw111_4 := hx111_4
     (try rw [show ((0 : Int)).toNat = 0 from rfl] at hw111_4)
     (try rw [show 0 * 7 = 0 from rfl] at hw111_4)
     (try rw [Addr.add_zero'] at hw111_4)
     have hw111_3 := hx111_3
     (try rw [show ((0 : Int)).toNat = 0 from rfl] at hw111_3)
     (try rw [show 0 * 7 = 0 from rfl] at hw111_3)
     (try rw [Addr.add_zero'] at hw111_3)
     have hw111_2 := hx111_2
     (try rw [show ((0 : Int)).toNat = 0 from rfl] at hw111_2)
     (try rw [show 0 * 7 = 0 from rfl] at hw111_2)
     (try rw [Addr.add_zero'] at hw111_2)
     have hw111_1 := hx111_1
     (try rw [show ((0 : Int)).toNat = 0 from rfl] at hw111_1)
     (try rw [show 0 * 7 = 0 from rfl] at hw111_1)
     (try rw [Addr.add_zero'] at hw111_1)
     have hw111_0 := hx111_0
     (try rw [show ((0 : Int)).toNat = 0 from rfl] at hw111_0)
     (try rw [show 0 * 7 = 0 from rfl] at hw111_0)
     (try rw [Addr.add_zero'] at hw111_0)
     cases e111
     have qi111 : (0 < l0_5.length) = True := eq_true (by omega)
     (try rw [show ((0 : Int)).toNat = 0 from rfl] at hx111_0)
     (try rw [show 0 * 7 = 0 from rfl] at hx111_0)
     (try rw [Addr.add_zero'] at hx111_0)
     (try rw [show ((0 : Int)).toNat = 0 from rfl] at hx111_1)
     (try rw [show 0 * 7 = 0 from rfl] at hx111_1)
     (try rw [Addr.add_zero'] at hx111_1)
     (try rw [show ((0 : Int)).toNat = 0 from rfl] at hx111_2)
     (try rw [show 0 * 7 = 0 from rfl] at hx111_2)
     (try rw [Addr.add_zero'] at hx111_2)
     (try rw [show ((0 : Int)).toNat = 0 from rfl] at hx111_3)
     (try rw [show 0 * 7 = 0 from rfl] at hx111_3)
     (try rw [Addr.add_zero'] at hx111_3)
     (try rw [show ((0 : Int)).toNat = 0 from rfl] at hx111_4)
     (try rw [show 0 * 7 = 0 from rfl] at hx111_4)
     (try rw [Addr.add_zero'] at hx111_4)
     (try rw [show ((0 : Int)).toNat = 0 from rfl] at hx111_5)
     (try rw [show 0 * 7 = 0 from rfl] at hx111_5)
     (try rw [Addr.add_zero'] at hx111_5)
     (try rw [show ((0 : Int)).toNat = 0 from rfl] at hx111_6)
     (try rw [show 0 * 7 = 0 from rfl] at hx111_6)
     (try rw [Addr.add_zero'] at hx111_6)
     replace hx111_0 := (HB.out.cell (World.block_lt_of_cell? w _ hx111_0)).trans hx111_0
     replace hx111_1 := (HB.out.cell (World.block_lt_of_cell? w _ hx111_1)).trans hx111_1
     replace hx111_2 := (HB.out.cell (World.block_lt_of_cell? w _ hx111_2)).trans hx111_2
     replace hx111_3 := (HB.out.cell (World.block_lt_of_cell? w _ hx111_3)).trans hx111_3
     replace hx111_4 := (HB.out.cell (World.block_lt_of_cell? w _ hx111_4)).trans hx111_4
     replace hx111_5 := (HB.out.cell (World.block_lt_of_cell? w _ hx111_5)).trans hx111_5
     replace hx111_6 := (HB.out.cell (World.block_lt_of_cell? w _ hx111_6)).trans hx111_6
     have HR111_5 := Aside0.mk hi111_5
     have HC111_5 := Aside0.mk hl111_5
     clear hi111_5 hl111_5
     replace p111 := eq_true p111
     replace q111 := eq_true q111
     have p112 : 0 ≤ (1 : Int) := (by omega)
     have q112 : 1 < (l0_5.length : Int) := of_decide_eq_true (by first | (with_reducible assumption) | assumption)
     obtain ⟨ad112, A112_5, c112_5, e112, hx112_0, hx112_1, hx112_2, hx112_3, hx112_4, hx112_5, hx112_6, hl112_5, hi112_5⟩ := at_T26 HR0_5.out 1 p112 q112
     have hw112_6 := hx112_6
     (try rw [show ((1 : Int)).toNat = 1 from rfl] at hw112_6)
     (try rw [show 1 * 7 = 7 from rfl] at hw112_6)
     (try simp only [Nat.reduceMul, Nat.reduceEqDiff, Go.Addr.add, ↓reduceIte] at hw112_6)
     have hw112_5 := hx112_5
     (try rw [show ((1 : Int)).toNat = 1 from rfl] at hw112_5)
     (try rw [show 1 * 7 = 7 from rfl] at hw112_5)
     (try simp only [Nat.reduceMul, Nat.reduceEqDiff, Go.Addr.add, ↓reduceIte] at hw112_5)
     have hw112_4 := hx112_4
     (try rw [show ((1 : Int)).toNat = 1 from rfl] at hw112_4)
     (try rw [show 1 * 7 = 7 from rfl] at hw112_4)
     (try simp only [Nat.reduceMul, Nat.reduceEqDiff, Go.Addr.add, ↓reduceIte] at hw112_4)
     have hw112_3 := hx112_3
     (try rw [show ((1 : Int)).toNat = 1 from rfl] at hw112_3)
     (try rw [show 1 * 7 = 7 from rfl] at hw112_3)
     (try simp only [Nat.reduceMul, Nat.reduceEqDiff, Go.Addr.add, ↓reduceIte] at hw112_3)
     have hw112_2 := hx112_2
     (try rw [show ((1 : Int)).toNat = 1 from rfl] at hw112_2)
     (try rw [show 1 * 7 = 7 from rfl] at hw112_2)
     (try simp only [Nat.reduceMul, Nat.reduceEqDiff, Go.Addr.add, ↓reduceIte] at hw112_2)
     have hw112_1 := hx112_1
     (try rw [show ((1 : Int)).toNat = 1 from rfl] at hw112_1)
     (try rw [show 1 * 7 = 7 from rfl] at hw112_1)
     (try simp only [Nat.reduceMul, Nat.reduceEqDiff, Go.Addr.add, ↓reduceIte] at hw112_1)
     have hw112_0 := hx112_0
     (try rw [show ((1 : Int)).toNat = 1 from rfl] at hw112_0)
     (try rw [show 1 * 7 = 7 from rfl] at hw112_0)
     (try simp only [Nat.reduceMul, Nat.reduceEqDiff, Go.Addr.add, ↓reduceIte] at hw112_0)
     obtain rfl : ad111 = ad112 := (by injection e112)
     (try simp only [show (1 : Int).toNat = 1 from rfl, Nat.reduceMul, Nat.reduceEqDiff, Go.Addr.add, ↓reduceIte] at hx112_0)
     (try simp only [show (1 : Int).toNat = 1 from rfl, Nat.reduceMul, Nat.reduceEqDiff, Go.Addr.add, ↓reduceIte] at hx112_1)
     (try simp only [show (1 : Int).toNat = 1 from rfl, Nat.reduceMul, Nat.reduceEqDiff, Go.Addr.add, ↓reduceIte] at hx112_2)
     (try simp only [show (1 : Int).toNat = 1 from rfl, Nat.reduceMul, Nat.reduceEqDiff, Go.Addr.add, ↓reduceIte] at hx112_3)
     (try simp only [show (1 : Int).toNat = 1 from rfl, Nat.reduceMul, Nat.reduceEqDiff, Go.Addr.add, ↓reduceIte] at hx112_4)
     (try simp only [show (1 : Int).toNat = 1 from rfl, Nat.reduceMul, Nat.reduceEqDiff, Go.Addr.add, ↓reduceIte] at hx112_5)
     (try simp only [show (1 : Int).toNat = 1 from rfl, Nat.reduceMul, Nat.reduceEqDiff, Go.Addr.add, ↓reduceIte] at hx112_6)
     have qi112 : (1 < l0_5.length) = True := eq_true (by omega)
     (try rw [show ((1 : Int)).toNat = 1 from rfl] at hx112_0)
     (try rw [show 1 * 7 = 7 from rfl] at hx112_0)
     (try rw [show ((1 : Int)).toNat = 1 from rfl] at hx112_1)
     (try rw [show 1 * 7 = 7 from rfl] at hx112_1)
     (try rw [show ((1 : Int)).toNat = 1 from rfl] at hx112_2)
     (try rw [show 1 * 7 = 7 from rfl] at hx112_2)
     (try rw [show ((1 : Int)).toNat = 1 from rfl] at hx112_3)
     (try rw [show 1 * 7 = 7 from rfl] at hx112_3)
     (try rw [show ((1 : Int)).toNat = 1 from rfl] at hx112_4)
     (try rw [show 1 * 7 = 7 from rfl] at hx112_4)
     (try rw [show ((1 : Int)).toNat = 1 from rfl] at hx112_5)
     (try rw [show 1 * 7 = 7 from rfl] at hx112_5)
     (try rw [show ((1 : Int)).toNat = 1 from rfl] at hx112_6)
     (try rw [show 1 * 7 = 7 from rfl] at hx112_6)
     replace hx112_0 := (HB.out.cell (World.block_lt_of_cell? w _ hx112_0)).trans hx112_0
     replace hx112_1 := (HB.out.cell (World.block_lt_of_cell? w _ hx112_1)).trans hx112_1
     replace hx112_2 := (HB.out.cell (World.block_lt_of_cell? w _ hx112_2)).trans hx112_2
     replace hx112_3 := (HB.out.cell (World.block_lt_of_cell? w _ hx112_3)).trans hx112_3
     replace hx112_4 := (HB.out.cell (World.block_lt_of_cell? w _ hx112_4)).trans hx112_4
     replace hx112_5 := (HB.out.cell (World.block_lt_of_cell? w _ hx112_5)).trans hx112_5
     replace hx112_6 := (HB.out.cell (World.block_lt_of_cell? w _ hx112_6)).trans hx112_6
     have HR112_5 := Aside0.mk hi112_5
     have HC112_5 := Aside0.mk hl112_5
     clear hi112_5 hl112_5
     replace p112 := eq_true p112
     replace q112 := eq_true q112
     refine start_ (n := 12) (S := fun w' => w'.cell? ⟨gb109, 0, none⟩ = some (.int .i64 a0_0) ∧ w'.cell? ⟨gb109, 1, none⟩ = some (.string a0_1) ∧ w'.cell? ⟨gb109, 2, none⟩ = some (.int .u32 a0_2) ∧ w'.cell? ⟨gb109, 3, none⟩ = some (.int .i64 a0_3) ∧ w'.cell? ⟨gb109, 4, none⟩ = some (.string a0_4) ∧ w'.cell? ⟨gb109, 5, none⟩ = some (.slice (some ad111) l0_5.length c0_5) ∧ w'.cell? ⟨gb109, 6, none⟩ = some (.int .i64 a0_6) ∧ w'.cell? ad111 = some (.int .i64 ((rd_T26 l0_5 0).f0)) ∧ w'.cell? ⟨ad111.block, ad111.off + 1, none⟩ = some (.string ((rd_T26 l0_5 0).f1)) ∧ w'.cell? ⟨ad111.block, ad111.off + 2, none⟩ = some (.int .u32 ((rd_T26 l0_5 0).f2)) ∧ w'.cell? ⟨ad111.block, ad111.off + 3, none⟩ = some (.int .i64 ((rd_T26 l0_5 0).f3)) ∧ w'.cell? ⟨ad111.block, ad111.off + 4, none⟩ = some (.string ((rd_T26 l0_5 0).f4)) ∧ w'.cell? ⟨ad111.block, ad111.off + 5, none⟩ = some (.slice A111_5 ((rd_T26 l0_5 0).f5).length c111_5) ∧ w'.cell? ⟨ad111.block, ad111.off + 6, none⟩ = some (.int .i64 ((rd_T26 l0_5 0).f6)) ∧ w'.cell? ⟨ad111.block, ad111.off + 7, none⟩ = some (.int .i64 ((rd_T26 l0_5 1).f0)) ∧ w'.cell? ⟨ad111.block, ad111.off + 7 + 1, none⟩ = some (.string ((rd_T26 l0_5 1).f1)) ∧ w'.cell? ⟨ad111.block, ad111.off + 7 + 2, none⟩ = some (.int .u32 ((rd_T26 l0_5 1).f2)) ∧ w'.cell? ⟨ad111.block, ad111.off + 7 + 3, none⟩ = some (.int .i64 ((rd_T26 l0_5 1).f3)) ∧ w'.cell? ⟨ad111.block, ad111.off + 7 + 4, none⟩ = some (.string ((rd_T26 l0_5 1).f4)) ∧ w'.cell? ⟨ad111.block, ad111.off + 7 + 5, none⟩ = some (.slice A112_5 ((rd_T26 l0_5 1).f5).length c112_5) ∧ w'.cell? ⟨ad111.block, ad111.off + 7 + 6, none⟩ = some (.int .i64 ((rd_T26 l0_5 1).f6))) (ds := []) #[false, false, false, false, false, false, false, false, false, false, false, false] (by kernel_rfl) rfl rfl ⟨(blk_cell BK109.out 0).trans rfl, (blk_cell BK109.out 1).trans rfl, (blk_cell BK109.out 2).trans rfl, (blk_cell BK109.out 3).trans rfl, (blk_cell BK109.out 4).trans rfl, (blk_cell BK109.out 5).trans rfl, (blk_cell BK109.out 6).trans rfl, ((HB.out.cell (World.block_lt_of_cell? w _ hw111_0)).trans hw111_0), ((HB.out.cell (World.block_lt_of_cell? w _ hw111_1)).trans hw111_1), ((HB.out.cell (World.block_lt_of_cell? w _ hw111_2)).trans hw111_2), ((HB.out.cell (World.block_lt_of_cell? w _ hw111_3)).trans hw111_3), ((HB.out.cell (World.block_lt_of_cell? w _ hw111_4)).trans hw111_4), ((HB.out.cell (World.block_lt_of_cell? w _ hw111_5)).trans hw111_5), ((HB.out.cell (World.block_lt_of_cell? w _ hw111_6)).trans hw111_6), ((HB.out.cell (World.block_lt_of_cell? w _ hw112_0)).trans hw112_0), ((HB.out.cell (World.block_lt_of_cell? w _ hw112_1)).trans hw112_1), ((HB.out.cell (World.block_lt_of_cell? w _ hw112_2)).trans hw112_2), ((HB.out.cell (World.block_lt_of_cell? w _ hw112_3)).trans hw112_3), ((HB.out.cell (World.block_lt_of_cell? w _ hw112_4)).trans hw112_4), ((HB.out.cell (World.block_lt_of_cell? w _ hw112_5)).trans hw112_5), ((HB.out.cell (World.block_lt_of_cell? w _ hw112_6)).trans hw112_6)⟩ (fun hHeld => ?_); refine with_tabW tree_let.tab3 tree_let.bits3 (fun HT_ HW_ => ?_)
     generalize w16.drew = w18 at BK109 HB HR111_5 HR112_5 hx111_0 hx111_1 hx111_2 hx111_3 hx111_4 hx111_5 hx111_6 hx112_0 hx112_1 hx112_2 hx112_3 hx112_4 hx112_5 hx112_6 hHeld ⊢
     refine pure_ (i := 0) (N := some 25) (v := ?_) (a' := ?_) (bq true [1, 11]).toArray rfl rfl (any_of HT_.out (by kernel_rfl)) (fun _ _ _ h => h) (Or.inl ⟨by rfl, ?_⟩) ?_ ?_
     rotate_left
     ·intro w'
      go_simp
      with_reducible rfl
     rotate_left
     ·simp only [Act.put, List.setIfInBounds_toArray, List.set_cons_zero, List.set_cons_succ, i64_w, i32_w]
      rfl
     refine pure_ (i := 4) (N := some 29) (v := ?_) (a' := ?_) (bq true [1, 3, 1, 7]).toArray rfl rfl (any_of HT_.out (by kernel_rfl)) (fun _ _ _ h => h) (Or.inl ⟨by rfl, ?_⟩) ?_ ?_
     rotate_left
     ·intro w'
      go_simp
      with_reducible rfl
     rotate_left
     ·simp only [Act.put, List.setIfInBounds_toArray, List.set_cons_zero, List.set_cons_succ, i64_w, i32_w]
      rfl
     refine take_ (i := 1) (N := some 26) (v := ?_) (a' := ?_) (bq true [2, 2, 1, 7]).toArray rfl rfl (take_ofW HT_.out HW_.out (by kernel_rfl)) (fun _ _ _ h => h) (Or.inl ⟨by rfl, ?_⟩) hHeld ?_ ?_
     rotate_left
     ·rintro w' ⟨s0, s1, s2, s3, s4, s5, s6, s7, s8, s9, s10, s11, s12, s13, s14, s15, s16, s17, s18, s19, s20⟩
      go_simp
      with_reducible rfl
     rotate_left
     ·simp only [Act.put, List.setIfInBounds_toArray, List.set_cons_zero, List.set_cons_succ, i64_w, i32_w]
      rfl
     refine pure_ (i := 2) (N := some 27) (v := ?_) (a' := ?_) (bq true [3, 1, 1, 7]).toArray rfl rfl (any_of HT_.out (by kernel_rfl)) (fun _ _ _ h => h) (Or.inl ⟨by rfl, ?_⟩) ?_ ?_
     rotate_left
     ·intro w'
      go_simp
      with_reducible rfl
     rotate_left
     ·simp only [Act.put, List.setIfInBounds_toArray, List.set_cons_zero, List.set_cons_succ, i64_w, i32_w]
      rfl
     refine take_ (i := 3) (N := some 28) (v := ?_) (a' := ?_) (bq true [5, 7]).toArray rfl rfl (take_ofW HT_.out HW_.out (by kernel_rfl)) (fun _ _ _ h => h) (Or.inl ⟨by rfl, ?_⟩) hHeld ?_ ?_
     rotate_left
     ·rintro w' ⟨s0, s1, s2, s3, s4, s5, s6, s7, s8, s9, s10, s11, s12, s13, s14, s15, s16, s17, s18, s19, s20⟩
      go_simp
      with_reducible rfl
     rotate_left
     ·simp only [Act.put, List.setIfInBounds_toArray, List.set_cons_zero, List.set_cons_succ, i64_w, i32_w]
      rfl
     refine take_ (i := 5) (N := some 30) (v := ?_) (a' := ?_) (bq true [6, 6]).toArray rfl rfl (take_ofW HT_.out HW_.out (by kernel_rfl)) (fun _ _ _ h => h) (Or.inl ⟨by rfl, ?_⟩) hHeld ?_ ?_
     rotate_left
     ·rintro w' ⟨s0, s1, s2, s3, s4, s5, s6, s7, s8, s9, s10, s11, s12, s13, s14, s15, s16, s17, s18, s19, s20⟩
      go_simp
      with_reducible rfl
     rotate_left
     ·simp only [Act.put, List.setIfInBounds_toArray, List.set_cons_zero, List.set_cons_succ, i64_w, i32_w]
      rfl
     refine pure_ (i := 6) (N := some 31) (v := ?_) (a' := ?_) (bq true [7, 5]).toArray rfl rfl (any_of HT_.out (by kernel_rfl)) (fun _ _ _ h => h) (Or.inl ⟨by rfl, ?_⟩) ?_ ?_
     rotate_left
     ·intro w'
      go_simp
      with_reducible rfl
     rotate_left
     ·simp only [Act.put, List.setIfInBounds_toArray, List.set_cons_zero, List.set_cons_succ, i64_w, i32_w]
      rfl
     refine take_ (i := 7) (N := some 32) (v := ?_) (a' := ?_) (bq true [8, 4]).toArray rfl rfl (take_ofW HT_.out HW_.out (by kernel_rfl)) (fun _ _ _ h => h) (Or.inl ⟨by rfl, ?_⟩) hHeld ?_ ?_
     rotate_left
     ·rintro w' ⟨s0, s1, s2, s3, s4, s5, s6, s7, s8, s9, s10, s11, s12, s13, s14, s15, s16, s17, s18, s19, s20⟩
      go_simp
      with_reducible rfl
     rotate_left
     ·simp only [Act.put, List.setIfInBounds_toArray, List.set_cons_zero, List.set_cons_succ, i64_w, i32_w]
      rfl
     refine join_ (σ := Nat × Nat) 2 #[true, true, true, true, true, true, true, true, true, true, false, false] (fun s_ => [(3, .pointer (some ⟨s_.1, 0, none⟩)), (4, .pointer (some ⟨s_.2, 0, none⟩))]) (fun s_ w' => (w'.cell? ⟨gb109, 0, none⟩ = some (.int .i64 a0_0) ∧ w'.cell? ⟨gb109, 1, none⟩ = some (.string a0_1) ∧ w'.cell? ⟨gb109, 2, none⟩ = some (.int .u32 a0_2) ∧ w'.cell? ⟨gb109, 3, none⟩ = some (.int .i64 a0_3) ∧ w'.cell? ⟨gb109, 4, none⟩ = some (.string a0_4) ∧ w'.cell? ⟨gb109, 5, none⟩ = some (.slice (some ad111) l0_5.length c0_5) ∧ w'.cell? ⟨gb109, 6, none⟩ = some (.int .i64 a0_6) ∧ w'.cell? ad111 = some (.int .i64 ((rd_T26 l0_5 0).f0)) ∧ w'.cell? ⟨ad111.block, ad111.off + 1, none⟩ = some (.string ((rd_T26 l0_5 0).f1)) ∧ w'.cell? ⟨ad111.block, ad111.off + 2, none⟩ = some (.int .u32 ((rd_T26 l0_5 0).f2)) ∧ w'.cell? ⟨ad111.block, ad111.off + 3, none⟩ = some (.int .i64 ((rd_T26 l0_5 0).f3)) ∧ w'.cell? ⟨ad111.block, ad111.off + 4, none⟩ = some (.string ((rd_T26 l0_5 0).f4)) ∧ w'.cell? ⟨ad111.block, ad111.off + 5, none⟩ = some (.slice A111_5 ((rd_T26 l0_5 0).f5).length c111_5) ∧ w'.cell? ⟨ad111.block, ad111.off + 6, none⟩ = some (.int .i64 ((rd_T26 l0_5 0).f6)) ∧ w'.cell? ⟨ad111.block, ad111.off + 7, none⟩ = some (.int .i64 ((rd_T26 l0_5 1).f0)) ∧ w'.cell? ⟨ad111.block, ad111.off + 7 + 1, none⟩ = some (.string ((rd_T26 l0_5 1).f1)) ∧ w'.cell? ⟨ad111.block, ad111.off + 7 + 2, none⟩ = some (.int .u32 ((rd_T26 l0_5 1).f2)) ∧ w'.cell? ⟨ad111.block, ad111.off + 7 + 3, none⟩ = some (.int .i64 ((rd_T26 l0_5 1).f3)) ∧ w'.cell? ⟨ad111.block, ad111.off + 7 + 4, none⟩ = some (.string ((rd_T26 l0_5 1).f4)) ∧ w'.cell? ⟨ad111.block, ad111.off + 7 + 5, none⟩ = some (.slice A112_5 ((rd_T26 l0_5 1).f5).length c112_5) ∧ w'.cell? ⟨ad111.block, ad111.off + 7 + 6, none⟩ = some (.int .i64 ((rd_T26 l0_5 1).f6))) ∧ (w'.heap[gb109]? = some (.cells #[.int .i64 a0_0, .string a0_1, .int .u32 a0_2, .int .i64 a0_3, .string a0_4, .slice (some ad111) l0_5.length c0_5, .int .i64 a0_6] 26 (0, 0))) ∧ (w'.heap[s_.1]? = some (.cells #[.int .i64 0, .string (⟨#[]⟩ : ByteArray), .int .u32 0, .int .i64 0, .string (⟨#[]⟩ : ByteArray), .slice none 0 0, .int .i64 0] 26 (0, 0))) ∧ (w'.heap[s_.2]? = some (.cells #[.int .i64 0, .string (⟨#[]⟩ : ByteArray), .int .u32 0, .int .i64 0, .string (⟨#[]⟩ : ByteArray), .slice none 0 0, .int .i64 0] 26 (0, 0))) ∧ (w.heap.size ≤ s_.1) ∧ (w.heap.size ≤ s_.1) ∧ (gb109 ≠ s_.1) ∧ (s_.1 ≠ gb109) ∧ (s_.2 ≠ s_.1) ∧ (s_.1 ≠ s_.2) ∧ (w.heap.size ≤ s_.2) ∧ (w.heap.size ≤ s_.2) ∧ (gb109 ≠ s_.2) ∧ (s_.2 ≠ gb109) ∧ (Below w.heap.size w w')) ?_ ?_
     rotate_left
     ·intro hCont
      refine two_ (i := 8) (j := 9) (Ni := some 3) (Nj := some 4) #[true, true, true, true, true, true, true, true, true, false, false, false] #[true, true, true, true, true, true, true, true, false, true, false, false] rfl rfl rfl rfl (two_of HT_.out (by kernel_rfl)) (by decide) (by decide) (fun K hK => ?_) (fun K hK => ?_)
      ·skip
       refine box_step ?hg (N := 3) ?hd (cs := #[.int .i64 0, .string (⟨#[]⟩ : ByteArray), .int .u32 0, .int .i64 0, .string (⟨#[]⟩ : ByteArray), .slice none 0 0, .int .i64 0]) (t := 26) ?hr ?_; (case hd => rfl); (case hg => rfl); (case hr => first | (go_simp; done) | (go_simp; rfl))
       intro gb113 hg w19 hbox hb
       have BK113 := Aside0.mk (hbox)
       have GW113 := Aside0.mk ((by rw [hg]; exact (below_size (by repeat (first | (with_reducible first | exact HB.out | apply below_alloc | apply pw_below_drewN | apply below_drew1 | refine below_set ?_ GE109.out) | exact HB.out))) : w.heap.size ≤ gb113))
       have GE113 := Aside0.mk ((by rw [hg]; exact (below_size (by repeat (first | (with_reducible first | exact HB.out | apply below_alloc | apply pw_below_drewN | apply below_drew1 | refine below_set ?_ GE109.out) | exact HB.out))) : w.heap.size ≤ gb113))
       replace HB := Aside0.mk (below_step (by repeat (first | (with_reducible first | exact HB.out | apply below_alloc | apply pw_below_drewN | apply below_drew1 | refine below_set ?_ GE109.out) | exact HB.out)) hb)
       have NB109_113 := Aside0.mk ((by rw [hg]; exact Nat.ne_of_lt (blk_lt (by (with_reducible repeat (first | refine blk_drewN ?_ _ | refine blk_drew ?_ | refine blk_alloc ?_ _)); exact BK109.out)) : gb109 ≠ gb113))
       have NB113_109 := Aside0.mk ((by rw [hg]; exact Nat.ne_of_gt (blk_lt (by (with_reducible repeat (first | refine blk_drewN ?_ _ | refine blk_drew ?_ | refine blk_alloc ?_ _)); exact BK109.out)) : gb113 ≠ gb109))
       replace BK109 := Aside0.mk (blk_below (by (with_reducible repeat (first | refine blk_drewN ?_ _ | refine blk_drew ?_ | refine blk_alloc ?_ _)); exact BK109.out) hb)
       clear hb hbox hg
       refine hK.out _ _ ⟨(blk_cell BK109.out 0).trans rfl, (blk_cell BK109.out 1).trans rfl, (blk_cell BK109.out 2).trans rfl, (blk_cell BK109.out 3).trans rfl, (blk_cell BK109.out 4).trans rfl, (blk_cell BK109.out 5).trans rfl, (blk_cell BK109.out 6).trans rfl, ((HB.out.cell (World.block_lt_of_cell? w _ hw111_0)).trans hw111_0), ((HB.out.cell (World.block_lt_of_cell? w _ hw111_1)).trans hw111_1), ((HB.out.cell (World.block_lt_of_cell? w _ hw111_2)).trans hw111_2), ((HB.out.cell (World.block_lt_of_cell? w _ hw111_3)).trans hw111_3), ((HB.out.cell (World.block_lt_of_cell? w _ hw111_4)).trans hw111_4), ((HB.out.cell (World.block_lt_of_cell? w _ hw111_5)).trans hw111_5), ((HB.out.cell (World.block_lt_of_cell? w _ hw111_6)).trans hw111_6), ((HB.out.cell (World.block_lt_of_cell? w _ hw112_0)).trans hw112_0), ((HB.out.cell (World.block_lt_of_cell? w _ hw112_1)).trans hw112_1), ((HB.out.cell (World.block_lt_of_cell? w _ hw112_2)).trans hw112_2), ((HB.out.cell (World.block_lt_of_cell? w _ hw112_3)).trans hw112_3), ((HB.out.cell (World.block_lt_of_cell? w _ hw112_4)).trans hw112_4), ((HB.out.cell (World.block_lt_of_cell? w _ hw112_5)).trans hw112_5), ((HB.out.cell (World.block_lt_of_cell? w _ hw112_6)).trans hw112_6)⟩ (fun hHeld => ?_)
       clear hK K
       refine norm_ (a' := ?_) ?_ ?_
       rotate_left
       ·show Act.put _ (some 3) _ = _
        simp only [Act.put, List.setIfInBounds_toArray, List.set_cons_zero, List.set_cons_succ, i64_w, i32_w]
        rfl
       refine one_ (i := 9) (N := some 4) (bq true [10, 2]).toArray rfl rfl (one_of HT_.out (by kernel_rfl)) (by decide) (fun K hK => ?_)
       refine box_step ?hg (N := 4) ?hd (cs := #[.int .i64 0, .string (⟨#[]⟩ : ByteArray), .int .u32 0, .int .i64 0, .string (⟨#[]⟩ : ByteArray), .slice none 0 0, .int .i64 0]) (t := 26) ?hr ?_; (case hd => rfl); (case hg => rfl); (case hr => first | (go_simp; done) | (go_simp; rfl))
       intro gb114 hg w20 hbox hb
       have BK114 := Aside0.mk (hbox)
       have GW114 := Aside0.mk ((by rw [hg]; exact (below_size (by repeat (first | (with_reducible first | exact HB.out | apply below_alloc | apply pw_below_drewN | apply below_drew1 | refine below_set ?_ GE109.out | refine below_set ?_ GE113.out) | exact HB.out))) : w.heap.size ≤ gb114))
       have GE114 := Aside0.mk ((by rw [hg]; exact (below_size (by repeat (first | (with_reducible first | exact HB.out | apply below_alloc | apply pw_below_drewN | apply below_drew1 | refine below_set ?_ GE109.out | refine below_set ?_ GE113.out) | exact HB.out))) : w.heap.size ≤ gb114))
       replace HB := Aside0.mk (below_step (by repeat (first | (with_reducible first | exact HB.out | apply below_alloc | apply pw_below_drewN | apply below_drew1 | refine below_set ?_ GE109.out | refine below_set ?_ GE113.out) | exact HB.out)) hb)
       have NB109_114 := Aside0.mk ((by rw [hg]; exact Nat.ne_of_lt (blk_lt (by (with_reducible repeat (first | refine blk_drewN ?_ _ | refine blk_drew ?_ | refine blk_alloc ?_ _)); exact BK109.out)) : gb109 ≠ gb114))
       have NB114_109 := Aside0.mk ((by rw [hg]; exact Nat.ne_of_gt (blk_lt (by (with_reducible repeat (first | refine blk_drewN ?_ _ | refine blk_drew ?_ | refine blk_alloc ?_ _)); exact BK109.out)) : gb114 ≠ gb109))
       replace BK109 := Aside0.mk (blk_below (by (with_reducible repeat (first | refine blk_drewN ?_ _ | refine blk_drew ?_ | refine blk_alloc ?_ _)); exact BK109.out) hb)
       have NB113_114 := Aside0.mk ((by rw [hg]; exact Nat.ne_of_lt (blk_lt (g := gb113) (o := .cells #[.int .i64 0, .string (⟨#[]⟩ : ByteArray), .int .u32 0, .int .i64 0, .string (⟨#[]⟩ : ByteArray), .slice none 0 0, .int .i64 0] 26 (0, 0)) (by (with_reducible repeat (first | refine blk_drewN ?_ _ | refine blk_drew ?_ | refine blk_alloc ?_ _)); exact BK113.out)) : gb113 ≠ gb114))
       have NB114_113 := Aside0.mk ((by rw [hg]; exact Nat.ne_of_gt (blk_lt (g := gb113) (o := .cells #[.int .i64 0, .string (⟨#[]⟩ : ByteArray), .int .u32 0, .int .i64 0, .string (⟨#[]⟩ : ByteArray), .slice none 0 0, .int .i64 0] 26 (0, 0)) (by (with_reducible repeat (first | refine blk_drewN ?_ _ | refine blk_drew ?_ | refine blk_alloc ?_ _)); exact BK113.out)) : gb114 ≠ gb113))
       replace BK113 := Aside0.mk (blk_below (g := gb113) (o := .cells #[.int .i64 0, .string (⟨#[]⟩ : ByteArray), .int .u32 0, .int .i64 0, .string (⟨#[]⟩ : ByteArray), .slice none 0 0, .int .i64 0] 26 (0, 0)) (by (with_reducible repeat (first | refine blk_drewN ?_ _ | refine blk_drew ?_ | refine blk_alloc ?_ _)); exact BK113.out) hb)
       clear hb hbox hg
       refine hK.out _ _ ⟨(blk_cell BK109.out 0).trans rfl, (blk_cell BK109.out 1).trans rfl, (blk_cell BK109.out 2).trans rfl, (blk_cell BK109.out 3).trans rfl, (blk_cell BK109.out 4).trans rfl, (blk_cell BK109.out 5).trans rfl, (blk_cell BK109.out 6).trans rfl, ((HB.out.cell (World.block_lt_of_cell? w _ hw111_0)).trans hw111_0), ((HB.out.cell (World.block_lt_of_cell? w _ hw111_1)).trans hw111_1), ((HB.out.cell (World.block_lt_of_cell? w _ hw111_2)).trans hw111_2), ((HB.out.cell (World.block_lt_of_cell? w _ hw111_3)).trans hw111_3), ((HB.out.cell (World.block_lt_of_cell? w _ hw111_4)).trans hw111_4), ((HB.out.cell (World.block_lt_of_cell? w _ hw111_5)).trans hw111_5), ((HB.out.cell (World.block_lt_of_cell? w _ hw111_6)).trans hw111_6), ((HB.out.cell (World.block_lt_of_cell? w _ hw112_0)).trans hw112_0), ((HB.out.cell (World.block_lt_of_cell? w _ hw112_1)).trans hw112_1), ((HB.out.cell (World.block_lt_of_cell? w _ hw112_2)).trans hw112_2), ((HB.out.cell (World.block_lt_of_cell? w _ hw112_3)).trans hw112_3), ((HB.out.cell (World.block_lt_of_cell? w _ hw112_4)).trans hw112_4), ((HB.out.cell (World.block_lt_of_cell? w _ hw112_5)).trans hw112_5), ((HB.out.cell (World.block_lt_of_cell? w _ hw112_6)).trans hw112_6)⟩ (fun hHeld => ?_)
       clear hK K
       refine norm_ (a' := ?_) ?_ ?_
       rotate_left
       ·show Act.put _ (some 4) _ = _
        simp only [Act.put, List.setIfInBounds_toArray, List.set_cons_zero, List.set_cons_succ, i64_w, i32_w]
        rfl
       exact norm_ (by simp only [putAll, Act.put, List.setIfInBounds_toArray, List.set_cons_zero, List.set_cons_succ]) (hCont (gb113, gb114) _ ⟨hHeld, (by (with_reducible repeat (first | refine blk_drewN ?_ _ | refine blk_drew ?_ | refine blk_alloc ?_ _)); exact BK109.out), (by (with_reducible repeat (first | refine blk_drewN ?_ _ | refine blk_drew ?_ | refine blk_alloc ?_ _)); exact BK113.out), (by (with_reducible repeat (first | refine blk_drewN ?_ _ | refine blk_drew ?_ | refine blk_alloc ?_ _)); exact BK114.out), GW113.out, GE113.out, NB109_113.out, NB113_109.out, NB114_113.out, NB113_114.out, GW114.out, GE114.out, NB109_114.out, NB114_109.out, (by repeat (first | (with_reducible first | exact HB.out | apply below_alloc | apply pw_below_drewN | apply below_drew1 | refine below_set ?_ GE109.out | refine below_set ?_ GE113.out | refine below_set ?_ GE114.out) | exact HB.out))⟩)
      ·skip
       refine box_step ?hg (N := 4) ?hd (cs := #[.int .i64 0, .string (⟨#[]⟩ : ByteArray), .int .u32 0, .int .i64 0, .string (⟨#[]⟩ : ByteArray), .slice none 0 0, .int .i64 0]) (t := 26) ?hr ?_; (case hd => rfl); (case hg => rfl); (case hr => first | (go_simp; done) | (go_simp; rfl))
       intro gb114 hg w19 hbox hb
       have BK114 := Aside0.mk (hbox)
       have GW114 := Aside0.mk ((by rw [hg]; exact (below_size (by repeat (first | (with_reducible first | exact HB.out | apply below_alloc | apply pw_below_drewN | apply below_drew1 | refine below_set ?_ GE109.out) | exact HB.out))) : w.heap.size ≤ gb114))
       have GE114 := Aside0.mk ((by rw [hg]; exact (below_size (by repeat (first | (with_reducible first | exact HB.out | apply below_alloc | apply pw_below_drewN | apply below_drew1 | refine below_set ?_ GE109.out) | exact HB.out))) : w.heap.size ≤ gb114))
       replace HB := Aside0.mk (below_step (by repeat (first | (with_reducible first | exact HB.out | apply below_alloc | apply pw_below_drewN | apply below_drew1 | refine below_set ?_ GE109.out) | exact HB.out)) hb)
       have NB109_114 := Aside0.mk ((by rw [hg]; exact Nat.ne_of_lt (blk_lt (by (with_reducible repeat (first | refine blk_drewN ?_ _ | refine blk_drew ?_ | refine blk_alloc ?_ _)); exact BK109.out)) : gb109 ≠ gb114))
       have NB114_109 := Aside0.mk ((by rw [hg]; exact Nat.ne_of_gt (blk_lt (by (with_reducible repeat (first | refine blk_drewN ?_ _ | refine blk_drew ?_ | refine blk_alloc ?_ _)); exact BK109.out)) : gb114 ≠ gb109))
       replace BK109 := Aside0.mk (blk_below (by (with_reducible repeat (first | refine blk_drewN ?_ _ | refine blk_drew ?_ | refine blk_alloc ?_ _)); exact BK109.out) hb)
       clear hb hbox hg
       refine hK.out _ _ ⟨(blk_cell BK109.out 0).trans rfl, (blk_cell BK109.out 1).trans rfl, (blk_cell BK109.out 2).trans rfl, (blk_cell BK109.out 3).trans rfl, (blk_cell BK109.out 4).trans rfl, (blk_cell BK109.out 5).trans rfl, (blk_cell BK109.out 6).trans rfl, ((HB.out.cell (World.block_lt_of_cell? w _ hw111_0)).trans hw111_0), ((HB.out.cell (World.block_lt_of_cell? w _ hw111_1)).trans hw111_1), ((HB.out.cell (World.block_lt_of_cell? w _ hw111_2)).trans hw111_2), ((HB.out.cell (World.block_lt_of_cell? w _ hw111_3)).trans hw111_3), ((HB.out.cell (World.block_lt_of_cell? w _ hw111_4)).trans hw111_4), ((HB.out.cell (World.block_lt_of_cell? w _ hw111_5)).trans hw111_5), ((HB.out.cell (World.block_lt_of_cell? w _ hw111_6)).trans hw111_6), ((HB.out.cell (World.block_lt_of_cell? w _ hw112_0)).trans hw112_0), ((HB.out.cell (World.block_lt_of_cell? w _ hw112_1)).trans hw112_1), ((HB.out.cell (World.block_lt_of_cell? w _ hw112_2)).trans hw112_2), ((HB.out.cell (World.block_lt_of_cell? w _ hw112_3)).trans hw112_3), ((HB.out.cell (World.block_lt_of_cell? w _ hw112_4)).trans hw112_4), ((HB.out.cell (World.block_lt_of_cell? w _ hw112_5)).trans hw112_5), ((HB.out.cell (World.block_lt_of_cell? w _ hw112_6)).trans hw112_6)⟩ (fun hHeld => ?_)
       clear hK K
       refine norm_ (a' := ?_) ?_ ?_
       rotate_left
       ·show Act.put _ (some 4) _ = _
        simp only [Act.put, List.setIfInBounds_toArray, List.set_cons_zero, List.set_cons_succ, i64_w, i32_w]
        rfl
       refine one_ (i := 8) (N := some 3) (bq true [10, 2]).toArray rfl rfl (one_of HT_.out (by kernel_rfl)) (by decide) (fun K hK => ?_)
       refine box_step ?hg (N := 3) ?hd (cs := #[.int .i64 0, .string (⟨#[]⟩ : ByteArray), .int .u32 0, .int .i64 0, .string (⟨#[]⟩ : ByteArray), .slice none 0 0, .int .i64 0]) (t := 26) ?hr ?_; (case hd => rfl); (case hg => rfl); (case hr => first | (go_simp; done) | (go_simp; rfl))
       intro gb113 hg w20 hbox hb
       have BK113 := Aside0.mk (hbox)
       have GW113 := Aside0.mk ((by rw [hg]; exact (below_size (by repeat (first | (with_reducible first | exact HB.out | apply below_alloc | apply pw_below_drewN | apply below_drew1 | refine below_set ?_ GE109.out | refine below_set ?_ GE114.out) | exact HB.out))) : w.heap.size ≤ gb113))
       have GE113 := Aside0.mk ((by rw [hg]; exact (below_size (by repeat (first | (with_reducible first | exact HB.out | apply below_alloc | apply pw_below_drewN | apply below_drew1 | refine below_set ?_ GE109.out | refine below_set ?_ GE114.out) | exact HB.out))) : w.heap.size ≤ gb113))
       replace HB := Aside0.mk (below_step (by repeat (first | (with_reducible first | exact HB.out | apply below_alloc | apply pw_below_drewN | apply below_drew1 | refine below_set ?_ GE109.out | refine below_set ?_ GE114.out) | exact HB.out)) hb)
       have NB109_113 := Aside0.mk ((by rw [hg]; exact Nat.ne_of_lt (blk_lt (by (with_reducible repeat (first | refine blk_drewN ?_ _ | refine blk_drew ?_ | refine blk_alloc ?_ _)); exact BK109.out)) : gb109 ≠ gb113))
       have NB113_109 := Aside0.mk ((by rw [hg]; exact Nat.ne_of_gt (blk_lt (by (with_reducible repeat (first | refine blk_drewN ?_ _ | refine blk_drew ?_ | refine blk_alloc ?_ _)); exact BK109.out)) : gb113 ≠ gb109))
       replace BK109 := Aside0.mk (blk_below (by (with_reducible repeat (first | refine blk_drewN ?_ _ | refine blk_drew ?_ | refine blk_alloc ?_ _)); exact BK109.out) hb)
       have NB114_113 := Aside0.mk ((by rw [hg]; exact Nat.ne_of_lt (blk_lt (g := gb114) (o := .cells #[.int .i64 0, .string (⟨#[]⟩ : ByteArray), .int .u32 0, .int .i64 0, .string (⟨#[]⟩ : ByteArray), .slice none 0 0, .int .i64 0] 26 (0, 0)) (by (with_reducible repeat (first | refine blk_drewN ?_ _ | refine blk_drew ?_ | refine blk_alloc ?_ _)); exact BK114.out)) : gb114 ≠ gb113))
       have NB113_114 := Aside0.mk ((by rw [hg]; exact Nat.ne_of_gt (blk_lt (g := gb114) (o := .cells #[.int .i64 0, .string (⟨#[]⟩ : ByteArray), .int .u32 0, .int .i64 0, .string (⟨#[]⟩ : ByteArray), .slice none 0 0, .int .i64 0] 26 (0, 0)) (by (with_reducible repeat (first | refine blk_drewN ?_ _ | refine blk_drew ?_ | refine blk_alloc ?_ _)); exact BK114.out)) : gb113 ≠ gb114))
       replace BK114 := Aside0.mk (blk_below (g := gb114) (o := .cells #[.int .i64 0, .string (⟨#[]⟩ : ByteArray), .int .u32 0, .int .i64 0, .string (⟨#[]⟩ : ByteArray), .slice none 0 0, .int .i64 0] 26 (0, 0)) (by (with_reducible repeat (first | refine blk_drewN ?_ _ | refine blk_drew ?_ | refine blk_alloc ?_ _)); exact BK114.out) hb)
       clear hb hbox hg
       refine hK.out _ _ ⟨(blk_cell BK109.out 0).trans rfl, (blk_cell BK109.out 1).trans rfl, (blk_cell BK109.out 2).trans rfl, (blk_cell BK109.out 3).trans rfl, (blk_cell BK109.out 4).trans rfl, (blk_cell BK109.out 5).trans rfl, (blk_cell BK109.out 6).trans rfl, ((HB.out.cell (World.block_lt_of_cell? w _ hw111_0)).trans hw111_0), ((HB.out.cell (World.block_lt_of_cell? w _ hw111_1)).trans hw111_1), ((HB.out.cell (World.block_lt_of_cell? w _ hw111_2)).trans hw111_2), ((HB.out.cell (World.block_lt_of_cell? w _ hw111_3)).trans hw111_3), ((HB.out.cell (World.block_lt_of_cell? w _ hw111_4)).trans hw111_4), ((HB.out.cell (World.block_lt_of_cell? w _ hw111_5)).trans hw111_5), ((HB.out.cell (World.block_lt_of_cell? w _ hw111_6)).trans hw111_6), ((HB.out.cell (World.block_lt_of_cell? w _ hw112_0)).trans hw112_0), ((HB.out.cell (World.block_lt_of_cell? w _ hw112_1)).trans hw112_1), ((HB.out.cell (World.block_lt_of_cell? w _ hw112_2)).trans hw112_2), ((HB.out.cell (World.block_lt_of_cell? w _ hw112_3)).trans hw112_3), ((HB.out.cell (World.block_lt_of_cell? w _ hw112_4)).trans hw112_4), ((HB.out.cell (World.block_lt_of_cell? w _ hw112_5)).trans hw112_5), ((HB.out.cell (World.block_lt_of_cell? w _ hw112_6)).trans hw112_6)⟩ (fun hHeld => ?_)
       clear hK K
       refine norm_ (a' := ?_) ?_ ?_
       rotate_left
       ·show Act.put _ (some 3) _ = _
        simp only [Act.put, List.setIfInBounds_toArray, List.set_cons_zero, List.set_cons_succ, i64_w, i32_w]
        rfl
       exact norm_ (by simp only [putAll, Act.put, List.setIfInBounds_toArray, List.set_cons_zero, List.set_cons_succ]) (hCont (gb113, gb114) _ ⟨hHeld, (by (with_reducible repeat (first | refine blk_drewN ?_ _ | refine blk_drew ?_ | refine blk_alloc ?_ _)); exact BK109.out), (by (with_reducible repeat (first | refine blk_drewN ?_ _ | refine blk_drew ?_ | refine blk_alloc ?_ _)); exact BK113.out), (by (with_reducible repeat (first | refine blk_drewN ?_ _ | refine blk_drew ?_ | refine blk_alloc ?_ _)); exact BK114.out), GW113.out, GE113.out, NB109_113.out, NB113_109.out, NB114_113.out, NB113_114.out, GW114.out, GE114.out, NB109_114.out, NB114_109.out, (by repeat (first | (with_reducible first | exact HB.out | apply below_alloc | apply pw_below_drewN | apply below_drew1 | refine below_set ?_ GE109.out | refine below_set ?_ GE114.out | refine below_set ?_ GE113.out) | exact HB.out))⟩)
     rintro ⟨gb113, gb114⟩ w21 ⟨hS_, h0_, h1_, h2_, h3_, h4_, h5_, h6_, h7_, h8_, h9_, h10_, h11_, h12_, h13_⟩
     have n0_ : Aside0 (w21.heap[gb109]? = some (.cells #[.int .i64 a0_0, .string a0_1, .int .u32 a0_2, .int .i64 a0_3, .string a0_4, .slice (some ad111) l0_5.length c0_5, .int .i64 a0_6] 26 (0, 0))) := ⟨h0_⟩
     have n1_ : Aside0 (w21.heap[gb113]? = some (.cells #[.int .i64 0, .string (⟨#[]⟩ : ByteArray), .int .u32 0, .int .i64 0, .string (⟨#[]⟩ : ByteArray), .slice none 0 0, .int .i64 0] 26 (0, 0))) := ⟨h1_⟩
     have n2_ : Aside0 (w21.heap[gb114]? = some (.cells #[.int .i64 0, .string (⟨#[]⟩ : ByteArray), .int .u32 0, .int .i64 0, .string (⟨#[]⟩ : ByteArray), .slice none 0 0, .int .i64 0] 26 (0, 0))) := ⟨h2_⟩
     have n3_ : Aside0 (w.heap.size ≤ gb113) := ⟨h3_⟩
     have n4_ : Aside0 (w.heap.size ≤ gb113) := ⟨h4_⟩
     have n5_ : Aside0 (gb109 ≠ gb113) := ⟨h5_⟩
     have n6_ : Aside0 (gb113 ≠ gb109) := ⟨h6_⟩
     have n7_ : Aside0 (gb114 ≠ gb113) := ⟨h7_⟩
     have n8_ : Aside0 (gb113 ≠ gb114) := ⟨h8_⟩
     have n9_ : Aside0 (w.heap.size ≤ gb114) := ⟨h9_⟩
     have n10_ : Aside0 (w.heap.size ≤ gb114) := ⟨h10_⟩
     have n11_ : Aside0 (gb109 ≠ gb114) := ⟨h11_⟩
     have n12_ : Aside0 (gb114 ≠ gb109) := ⟨h12_⟩
     have n13_ : Aside0 (Below w.heap.size w w21) := ⟨h13_⟩
     clear BK109
     clear HB
     clear h0_ h1_ h2_ h3_ h4_ h5_ h6_ h7_ h8_ h9_ h10_ h11_ h12_ h13_
     have BK109 := n0_
     have BK113 := n1_
     have BK114 := n2_
     have GW113 := n3_
     have GE113 := n4_
     have NB109_113 := n5_
     have NB113_109 := n6_
     have NB114_113 := n7_
     have NB113_114 := n8_
     have GW114 := n9_
     have GE114 := n10_
     have NB109_114 := n11_
     have NB114_109 := n12_
     have HB := n13_
     clear n0_ n1_ n2_ n3_ n4_ n5_ n6_ n7_ n8_ n9_ n10_ n11_ n12_ n13_
     have hHeld : w21.cell? ⟨gb109, 0, none⟩ = some (.int .i64 a0_0) ∧ w21.cell? ⟨gb109, 1, none⟩ = some (.string a0_1) ∧ w21.cell? ⟨gb109, 2, none⟩ = some (.int .u32 a0_2) ∧ w21.cell? ⟨gb109, 3, none⟩ = some (.int .i64 a0_3) ∧ w21.cell? ⟨gb109, 4, none⟩ = some (.string a0_4) ∧ w21.cell? ⟨gb109, 5, none⟩ = some (.slice (some ad111) l0_5.length c0_5) ∧ w21.cell? ⟨gb109, 6, none⟩ = some (.int .i64 a0_6) ∧ w21.cell? ad111 = some (.int .i64 ((rd_T26 l0_5 0).f0)) ∧ w21.cell? ⟨ad111.block, ad111.off + 1, none⟩ = some (.string ((rd_T26 l0_5 0).f1)) ∧ w21.cell? ⟨ad111.block, ad111.off + 2, none⟩ = some (.int .u32 ((rd_T26 l0_5 0).f2)) ∧ w21.cell? ⟨ad111.block, ad111.off + 3, none⟩ = some (.int .i64 ((rd_T26 l0_5 0).f3)) ∧ w21.cell? ⟨ad111.block, ad111.off + 4, none⟩ = some (.string ((rd_T26 l0_5 0).f4)) ∧ w21.cell? ⟨ad111.block, ad111.off + 5, none⟩ = some (.slice A111_5 ((rd_T26 l0_5 0).f5).length c111_5) ∧ w21.cell? ⟨ad111.block, ad111.off + 6, none⟩ = some (.int .i64 ((rd_T26 l0_5 0).f6)) ∧ w21.cell? ⟨ad111.block, ad111.off + 7, none⟩ = some (.int .i64 ((rd_T26 l0_5 1).f0)) ∧ w21.cell? ⟨ad111.block, ad111.off + 7 + 1, none⟩ = some (.string ((rd_T26 l0_5 1).f1)) ∧ w21.cell? ⟨ad111.block, ad111.off + 7 + 2, none⟩ = some (.int .u32 ((rd_T26 l0_5 1).f2)) ∧ w21.cell? ⟨ad111.block, ad111.off + 7 + 3, none⟩ = some (.int .i64 ((rd_T26 l0_5 1).f3)) ∧ w21.cell? ⟨ad111.block, ad111.off + 7 + 4, none⟩ = some (.string ((rd_T26 l0_5 1).f4)) ∧ w21.cell? ⟨ad111.block, ad111.off + 7 + 5, none⟩ = some (.slice A112_5 ((rd_T26 l0_5 1).f5).length c112_5) ∧ w21.cell? ⟨ad111.block, ad111.off + 7 + 6, none⟩ = some (.int .i64 ((rd_T26 l0_5 1).f6)) := hS_
     refine norm_ (a' := ?_) ?_ ?_
     rotate_left
     ·simp only [putAll, Act.put, List.setIfInBounds_toArray, List.set_cons_zero, List.set_cons_succ]
      rfl
     refine one_ (i := 10) (N := none) (bq true [11, 1]).toArray rfl rfl (one_of HT_.out (by kernel_rfl)) (by decide) (fun K hK => ?_)
     have hs22 : w21.cell? ⟨gb113, 0, none⟩ = some (.int .i64 0) := (blk_cell BK113.out 0).trans rfl
     have hfs22 := blk_frozen BK113.out 0
     have hns22_0 := NB109_113.out
     have hns22_2 := NB114_113.out
     have hms22_0 := NB113_109.out
     have hms22_2 := NB113_114.out
     have hs23 : w21.cell? ⟨gb113, 1, none⟩ = some (.string (⟨#[]⟩ : ByteArray)) := (blk_cell BK113.out 1).trans rfl
     have hfs23 := blk_frozen BK113.out 1
     have hns23_0 := NB109_113.out
     have hns23_2 := NB114_113.out
     have hms23_0 := NB113_109.out
     have hms23_2 := NB113_114.out
     have hs24 : w21.cell? ⟨gb113, 2, none⟩ = some (.int .u32 0) := (blk_cell BK113.out 2).trans rfl
     have hfs24 := blk_frozen BK113.out 2
     have hns24_0 := NB109_113.out
     have hns24_2 := NB114_113.out
     have hms24_0 := NB113_109.out
     have hms24_2 := NB113_114.out
     have hs25 : w21.cell? ⟨gb113, 3, none⟩ = some (.int .i64 0) := (blk_cell BK113.out 3).trans rfl
     have hfs25 := blk_frozen BK113.out 3
     have hns25_0 := NB109_113.out
     have hns25_2 := NB114_113.out
     have hms25_0 := NB113_109.out
     have hms25_2 := NB113_114.out
     have hs26 : w21.cell? ⟨gb113, 4, none⟩ = some (.string (⟨#[]⟩ : ByteArray)) := (blk_cell BK113.out 4).trans rfl
     have hfs26 := blk_frozen BK113.out 4
     have hns26_0 := NB109_113.out
     have hns26_2 := NB114_113.out
     have hms26_0 := NB113_109.out
     have hms26_2 := NB113_114.out
     have hs27 : w21.cell? ⟨gb113, 5, none⟩ = some (.slice none 0 0) := (blk_cell BK113.out 5).trans rfl
     have hfs27 := blk_frozen BK113.out 5
     have hns27_0 := NB109_113.out
     have hns27_2 := NB114_113.out
     have hms27_0 := NB113_109.out
     have hms27_2 := NB113_114.out
     have hs28 : w21.cell? ⟨gb113, 6, none⟩ = some (.int .i64 0) := (blk_cell BK113.out 6).trans rfl
     have hfs28 := blk_frozen BK113.out 6
     have hns28_0 := NB109_113.out
     have hns28_2 := NB114_113.out
     have hms28_0 := NB113_109.out
     have hms28_2 := NB113_114.out
     refine skip_ (w1 := ?_) (by rfl) rfl ?_ ?_
     rotate_left
     ·go_simp
      rfl
     have f7_ : ∀ {W : World} {a : Addr}, a.block ≠ gb113 → ∀ u0 u1 u2 u3 u4 u5 u6 : Value, (((((((W.setCell ⟨gb113, 0, none⟩ u0).setCell ⟨gb113, 1, none⟩ u1).setCell ⟨gb113, 2, none⟩ u2).setCell ⟨gb113, 3, none⟩ u3).setCell ⟨gb113, 4, none⟩ u4).setCell ⟨gb113, 5, none⟩ u5).setCell ⟨gb113, 6, none⟩ u6).cell? a = W.cell? a := by
      intro W a h u0 u1 u2 u3 u4 u5 u6
      rw [cell_far (p := ⟨gb113, _, none⟩) h, cell_far (p := ⟨gb113, _, none⟩) h, cell_far (p := ⟨gb113, _, none⟩) h, cell_far (p := ⟨gb113, _, none⟩) h, cell_far (p := ⟨gb113, _, none⟩) h, cell_far (p := ⟨gb113, _, none⟩) h, cell_far (p := ⟨gb113, _, none⟩) h]
     have na_ : ad111.block ≠ gb113 := Nat.ne_of_lt (Nat.lt_of_lt_of_le (World.block_lt_of_cell? w _ hw111_0) GW113.out)
     refine hK.out _ _ ⟨(f7_ (a := ⟨gb109, 0, none⟩) NB109_113.out _ _ _ _ _ _ _).trans hHeld.1, (f7_ (a := ⟨gb109, 1, none⟩) NB109_113.out _ _ _ _ _ _ _).trans hHeld.2.1, (f7_ (a := ⟨gb109, 2, none⟩) NB109_113.out _ _ _ _ _ _ _).trans hHeld.2.2.1, (f7_ (a := ⟨gb109, 3, none⟩) NB109_113.out _ _ _ _ _ _ _).trans hHeld.2.2.2.1, (f7_ (a := ⟨gb109, 4, none⟩) NB109_113.out _ _ _ _ _ _ _).trans hHeld.2.2.2.2.1, (f7_ (a := ⟨gb109, 5, none⟩) NB109_113.out _ _ _ _ _ _ _).trans hHeld.2.2.2.2.2.1, (f7_ (a := ⟨gb109, 6, none⟩) NB109_113.out _ _ _ _ _ _ _).trans hHeld.2.2.2.2.2.2.1, (f7_ (a := ad111) na_ _ _ _ _ _ _ _).trans hHeld.2.2.2.2.2.2.2.1, (f7_ (a := ⟨ad111.block, ad111.off + 1, none⟩) na_ _ _ _ _ _ _ _).trans hHeld.2.2.2.2.2.2.2.2.1, (f7_ (a := ⟨ad111.block, ad111.off + 2, none⟩) na_ _ _ _ _ _ _ _).trans hHeld.2.2.2.2.2.2.2.2.2.1, (f7_ (a := ⟨ad111.block, ad111.off + 3, none⟩) na_ _ _ _ _ _ _ _).trans hHeld.2.2.2.2.2.2.2.2.2.2.1, (f7_ (a := ⟨ad111.block, ad111.off + 4, none⟩) na_ _ _ _ _ _ _ _).trans hHeld.2.2.2.2.2.2.2.2.2.2.2.1, (f7_ (a := ⟨ad111.block, ad111.off + 5, none⟩) na_ _ _ _ _ _ _ _).trans hHeld.2.2.2.2.2.2.2.2.2.2.2.2.1, (f7_ (a := ⟨ad111.block, ad111.off + 6, none⟩) na_ _ _ _ _ _ _ _).trans hHeld.2.2.2.2.2.2.2.2.2.2.2.2.2.1, (f7_ (a := ⟨ad111.block, ad111.off + 7, none⟩) na_ _ _ _ _ _ _ _).trans hHeld.2.2.2.2.2.2.2.2.2.2.2.2.2.2.1, (f7_ (a := ⟨ad111.block, ad111.off + 7 + 1, none⟩) na_ _ _ _ _ _ _ _).trans hHeld.2.2.2.2.2.2.2.2.2.2.2.2.2.2.2.1, (f7_ (a := ⟨ad111.block, ad111.off + 7 + 2, none⟩) na_ _ _ _ _ _ _ _).trans hHeld.2.2.2.2.2.2.2.2.2.2.2.2.2.2.2.2.1, (f7_ (a := ⟨ad111.block, ad111.off + 7 + 3, none⟩) na_ _ _ _ _ _ _ _).trans hHeld.2.2.2.2.2.2.2.2.2.2.2.2.2.2.2.2.2.1, (f7_ (a := ⟨ad111.block, ad111.off + 7 + 4, none⟩) na_ _ _ _ _ _ _ _).trans hHeld.2.2.2.2.2.2.2.2.2.2.2.2.2.2.2.2.2.2.1, (f7_ (a := ⟨ad111.block, ad111.off + 7 + 5, none⟩) na_ _ _ _ _ _ _ _).trans hHeld.2.2.2.2.2.2.2.2.2.2.2.2.2.2.2.2.2.2.2.1, (f7_ (a := ⟨ad111.block, ad111.off + 7 + 6, none⟩) na_ _ _ _ _ _ _ _).trans hHeld.2.2.2.2.2.2.2.2.2.2.2.2.2.2.2.2.2.2.2.2⟩ (fun hHeld => ?_)
     clear hK K
     refine one_ (i := 11) (N := none) (bq true [12]).toArray rfl rfl (one_of HT_.out (by kernel_rfl)) (by decide) (fun K hK => ?_)
     have m0_ : Aside0 ((((((((w21.setCell ⟨gb113, 0, none⟩ (.int .i64 ((rd_T26 l0_5 0).f0))).setCell ⟨gb113, 1, none⟩ (.string ((rd_T26 l0_5 0).f1))).setCell ⟨gb113, 2, none⟩ (.int .u32 ((rd_T26 l0_5 0).f2))).setCell ⟨gb113, 3, none⟩ (.int .i64 ((rd_T26 l0_5 0).f3))).setCell ⟨gb113, 4, none⟩ (.string ((rd_T26 l0_5 0).f4))).setCell ⟨gb113, 5, none⟩ (.slice A111_5 ((rd_T26 l0_5 0).f5).length c111_5)).setCell ⟨gb113, 6, none⟩ (.int .i64 ((rd_T26 l0_5 0).f6))).heap[gb113]? = some (.cells #[.int .i64 ((rd_T26 l0_5 0).f0), .string ((rd_T26 l0_5 0).f1), .int .u32 ((rd_T26 l0_5 0).f2), .int .i64 ((rd_T26 l0_5 0).f3), .string ((rd_T26 l0_5 0).f4), .slice A111_5 ((rd_T26 l0_5 0).f5).length c111_5, .int .i64 ((rd_T26 l0_5 0).f6)] 26 (0, 0))) := ⟨(blk_put (blk_put (blk_put (blk_put (blk_put (blk_put (blk_put BK113.out 0 _ rfl) 1 _ rfl) 2 _ rfl) 3 _ rfl) 4 _ rfl) 5 _ rfl) 6 _ rfl)⟩
     have m1_ : Aside0 ((((((((w21.setCell ⟨gb113, 0, none⟩ (.int .i64 ((rd_T26 l0_5 0).f0))).setCell ⟨gb113, 1, none⟩ (.string ((rd_T26 l0_5 0).f1))).setCell ⟨gb113, 2, none⟩ (.int .u32 ((rd_T26 l0_5 0).f2))).setCell ⟨gb113, 3, none⟩ (.int .i64 ((rd_T26 l0_5 0).f3))).setCell ⟨gb113, 4, none⟩ (.string ((rd_T26 l0_5 0).f4))).setCell ⟨gb113, 5, none⟩ (.slice A111_5 ((rd_T26 l0_5 0).f5).length c111_5)).setCell ⟨gb113, 6, none⟩ (.int .i64 ((rd_T26 l0_5 0).f6))).heap[gb114]? = some (.cells #[.int .i64 0, .string (⟨#[]⟩ : ByteArray), .int .u32 0, .int .i64 0, .string (⟨#[]⟩ : ByteArray), .slice none 0 0, .int .i64 0] 26 (0, 0))) := ⟨(blk_far (blk_far (blk_far (blk_far (blk_far (blk_far (blk_far BK114.out NB114_113.out _) NB114_113.out _) NB114_113.out _) NB114_113.out _) NB114_113.out _) NB114_113.out _) NB114_113.out _)⟩
     have m2_ : Aside0 ((((((((w21.setCell ⟨gb113, 0, none⟩ (.int .i64 ((rd_T26 l0_5 0).f0))).setCell ⟨gb113, 1, none⟩ (.string ((rd_T26 l0_5 0).f1))).setCell ⟨gb113, 2, none⟩ (.int .u32 ((rd_T26 l0_5 0).f2))).setCell ⟨gb113, 3, none⟩ (.int .i64 ((rd_T26 l0_5 0).f3))).setCell ⟨gb113, 4, none⟩ (.string ((rd_T26 l0_5 0).f4))).setCell ⟨gb113, 5, none⟩ (.slice A111_5 ((rd_T26 l0_5 0).f5).length c111_5)).setCell ⟨gb113, 6, none⟩ (.int .i64 ((rd_T26 l0_5 0).f6))).heap[gb109]? = some (.cells #[.int .i64 a0_0, .string a0_1, .int .u32 a0_2, .int .i64 a0_3, .string a0_4, .slice (some ad111) l0_5.length c0_5, .int .i64 a0_6] 26 (0, 0))) := ⟨(blk_far (blk_far (blk_far (blk_far (blk_far (blk_far (blk_far BK109.out NB109_113.out _) NB109_113.out _) NB109_113.out _) NB109_113.out _) NB109_113.out _) NB109_113.out _) NB109_113.out _)⟩
     have mb_ : Aside0 (Below w.heap.size w (((((((w21.setCell ⟨gb113, 0, none⟩ (.int .i64 ((rd_T26 l0_5 0).f0))).setCell ⟨gb113, 1, none⟩ (.string ((rd_T26 l0_5 0).f1))).setCell ⟨gb113, 2, none⟩ (.int .u32 ((rd_T26 l0_5 0).f2))).setCell ⟨gb113, 3, none⟩ (.int .i64 ((rd_T26 l0_5 0).f3))).setCell ⟨gb113, 4, none⟩ (.string ((rd_T26 l0_5 0).f4))).setCell ⟨gb113, 5, none⟩ (.slice A111_5 ((rd_T26 l0_5 0).f5).length c111_5)).setCell ⟨gb113, 6, none⟩ (.int .i64 ((rd_T26 l0_5 0).f6)))) := ⟨(below_set (below_set (below_set (below_set (below_set (below_set (below_set HB.out GW113.out) GW113.out) GW113.out) GW113.out) GW113.out) GW113.out) GW113.out)⟩
     generalize (((((((w21.setCell ⟨gb113, 0, none⟩ (.int .i64 ((rd_T26 l0_5 0).f0))).setCell ⟨gb113, 1, none⟩ (.string ((rd_T26 l0_5 0).f1))).setCell ⟨gb113, 2, none⟩ (.int .u32 ((rd_T26 l0_5 0).f2))).setCell ⟨gb113, 3, none⟩ (.int .i64 ((rd_T26 l0_5 0).f3))).setCell ⟨gb113, 4, none⟩ (.string ((rd_T26 l0_5 0).f4))).setCell ⟨gb113, 5, none⟩ (.slice A111_5 ((rd_T26 l0_5 0).f5).length c111_5)).setCell ⟨gb113, 6, none⟩ (.int .i64 ((rd_T26 l0_5 0).f6))) = w21a at hHeld m0_ m1_ m2_ mb_ ⊢
     clear BK113 BK114 BK109 HB
     have BK113 := m0_
     have BK114 := m1_
     have BK109 := m2_
     have HB := mb_
     clear m0_ m1_ m2_ mb_
     clear hs22 hfs22 hs23 hfs23 hs24 hfs24 hs25 hfs25 hs26 hfs26 hs27 hfs27 hs28 hfs28 f7_ na_
     have hs29 : w21a.cell? ⟨gb114, 0, none⟩ = some (.int .i64 0) := (blk_cell BK114.out 0).trans rfl
     have hfs29 := blk_frozen BK114.out 0
     have hns29_0 := NB109_114.out
     have hns29_1 := NB113_114.out
     have hms29_0 := NB114_109.out
     have hms29_1 := NB114_113.out
     have hs30 : w21a.cell? ⟨gb114, 1, none⟩ = some (.string (⟨#[]⟩ : ByteArray)) := (blk_cell BK114.out 1).trans rfl
     have hfs30 := blk_frozen BK114.out 1
     have hns30_0 := NB109_114.out
     have hns30_1 := NB113_114.out
     have hms30_0 := NB114_109.out
     have hms30_1 := NB114_113.out
     have hs31 : w21a.cell? ⟨gb114, 2, none⟩ = some (.int .u32 0) := (blk_cell BK114.out 2).trans rfl
     have hfs31 := blk_frozen BK114.out 2
     have hns31_0 := NB109_114.out
     have hns31_1 := NB113_114.out
     have hms31_0 := NB114_109.out
     have hms31_1 := NB114_113.out
     have hs32 : w21a.cell? ⟨gb114, 3, none⟩ = some (.int .i64 0) := (blk_cell BK114.out 3).trans rfl
     have hfs32 := blk_frozen BK114.out 3
     have hns32_0 := NB109_114.out
     have hns32_1 := NB113_114.out
     have hms32_0 := NB114_109.out
     have hms32_1 := NB114_113.out
     have hs33 : w21a.cell? ⟨gb114, 4, none⟩ = some (.string (⟨#[]⟩ : ByteArray)) := (blk_cell BK114.out 4).trans rfl
     have hfs33 := blk_frozen BK114.out 4
     have hns33_0 := NB109_114.out
     have hns33_1 := NB113_114.out
     have hms33_0 := NB114_109.out
     have hms33_1 := NB114_113.out
     have hs34 : w21a.cell? ⟨gb114, 5, none⟩ = some (.slice none 0 0) := (blk_cell BK114.out 5).trans rfl
     have hfs34 := blk_frozen BK114.out 5
     have hns34_0 := NB109_114.out
     have hns34_1 := NB113_114.out
     have hms34_0 := NB114_109.out
     have hms34_1 := NB114_113.out
     have hs35 : w21a.cell? ⟨gb114, 6, none⟩ = some (.int .i64 0) := (blk_cell BK114.out 6).trans rfl
     have hfs35 := blk_frozen BK114.out 6
     have hns35_0 := NB109_114.out
     have hns35_1 := NB113_114.out
     have hms35_0 := NB114_109.out
     have hms35_1 := NB114_113.out
     refine skip_ (w1 := ?_) (by rfl) rfl ?_ ?_
     rotate_left
     ·go_simp
      rfl
     have f7_ : ∀ {W : World} {a : Addr}, a.block ≠ gb114 → ∀ u0 u1 u2 u3 u4 u5 u6 : Value, (((((((W.setCell ⟨gb114, 0, none⟩ u0).setCell ⟨gb114, 1, none⟩ u1).setCell ⟨gb114, 2, none⟩ u2).setCell ⟨gb114, 3, none⟩ u3).setCell ⟨gb114, 4, none⟩ u4).setCell ⟨gb114, 5, none⟩ u5).setCell ⟨gb114, 6, none⟩ u6).cell? a = W.cell? a := by
      intro W a h u0 u1 u2 u3 u4 u5 u6
      rw [cell_far (p := ⟨gb114, _, none⟩) h, cell_far (p := ⟨gb114, _, none⟩) h, cell_far (p := ⟨gb114, _, none⟩) h, cell_far (p := ⟨gb114, _, none⟩) h, cell_far (p := ⟨gb114, _, none⟩) h, cell_far (p := ⟨gb114, _, none⟩) h, cell_far (p := ⟨gb114, _, none⟩) h]
     have na_ : ad111.block ≠ gb114 := Nat.ne_of_lt (Nat.lt_of_lt_of_le (World.block_lt_of_cell? w _ hw111_0) GW114.out)
     refine hK.out _ _ ⟨(f7_ (a := ⟨gb109, 0, none⟩) NB109_114.out _ _ _ _ _ _ _).trans hHeld.1, (f7_ (a := ⟨gb109, 1, none⟩) NB109_114.out _ _ _ _ _ _ _).trans hHeld.2.1, (f7_ (a := ⟨gb109, 2, none⟩) NB109_114.out _ _ _ _ _ _ _).trans hHeld.2.2.1, (f7_ (a := ⟨gb109, 3, none⟩) NB109_114.out _ _ _ _ _ _ _).trans hHeld.2.2.2.1, (f7_ (a := ⟨gb109, 4, none⟩) NB109_114.out _ _ _ _ _ _ _).trans hHeld.2.2.2.2.1, (f7_ (a := ⟨gb109, 5, none⟩) NB109_114.out _ _ _ _ _ _ _).trans hHeld.2.2.2.2.2.1, (f7_ (a := ⟨gb109, 6, none⟩) NB109_114.out _ _ _ _ _ _ _).trans hHeld.2.2.2.2.2.2.1, (f7_ (a := ad111) na_ _ _ _ _ _ _ _).trans hHeld.2.2.2.2.2.2.2.1, (f7_ (a := ⟨ad111.block, ad111.off + 1, none⟩) na_ _ _ _ _ _ _ _).trans hHeld.2.2.2.2.2.2.2.2.1, (f7_ (a := ⟨ad111.block, ad111.off + 2, none⟩) na_ _ _ _ _ _ _ _).trans hHeld.2.2.2.2.2.2.2.2.2.1, (f7_ (a := ⟨ad111.block, ad111.off + 3, none⟩) na_ _ _ _ _ _ _ _).trans hHeld.2.2.2.2.2.2.2.2.2.2.1, (f7_ (a := ⟨ad111.block, ad111.off + 4, none⟩) na_ _ _ _ _ _ _ _).trans hHeld.2.2.2.2.2.2.2.2.2.2.2.1, (f7_ (a := ⟨ad111.block, ad111.off + 5, none⟩) na_ _ _ _ _ _ _ _).trans hHeld.2.2.2.2.2.2.2.2.2.2.2.2.1, (f7_ (a := ⟨ad111.block, ad111.off + 6, none⟩) na_ _ _ _ _ _ _ _).trans hHeld.2.2.2.2.2.2.2.2.2.2.2.2.2.1, (f7_ (a := ⟨ad111.block, ad111.off + 7, none⟩) na_ _ _ _ _ _ _ _).trans hHeld.2.2.2.2.2.2.2.2.2.2.2.2.2.2.1, (f7_ (a := ⟨ad111.block, ad111.off + 7 + 1, none⟩) na_ _ _ _ _ _ _ _).trans hHeld.2.2.2.2.2.2.2.2.2.2.2.2.2.2.2.1, (f7_ (a := ⟨ad111.block, ad111.off + 7 + 2, none⟩) na_ _ _ _ _ _ _ _).trans hHeld.2.2.2.2.2.2.2.2.2.2.2.2.2.2.2.2.1, (f7_ (a := ⟨ad111.block, ad111.off + 7 + 3, none⟩) na_ _ _ _ _ _ _ _).trans hHeld.2.2.2.2.2.2.2.2.2.2.2.2.2.2.2.2.2.1, (f7_ (a := ⟨ad111.block, ad111.off + 7 + 4, none⟩) na_ _ _ _ _ _ _ _).trans hHeld.2.2.2.2.2.2.2.2.2.2.2.2.2.2.2.2.2.2.1, (f7_ (a := ⟨ad111.block, ad111.off + 7 + 5, none⟩) na_ _ _ _ _ _ _ _).trans hHeld.2.2.2.2.2.2.2.2.2.2.2.2.2.2.2.2.2.2.2.1, (f7_ (a := ⟨ad111.block, ad111.off + 7 + 6, none⟩) na_ _ _ _ _ _ _ _).trans hHeld.2.2.2.2.2.2.2.2.2.2.2.2.2.2.2.2.2.2.2.2⟩ (fun hHeld => ?_)
     clear hK K
     have m0_ : Aside0 ((((((((w21a.setCell ⟨gb114, 0, none⟩ (.int .i64 ((rd_T26 l0_5 1).f0))).setCell ⟨gb114, 1, none⟩ (.string ((rd_T26 l0_5 1).f1))).setCell ⟨gb114, 2, none⟩ (.int .u32 ((rd_T26 l0_5 1).f2))).setCell ⟨gb114, 3, none⟩ (.int .i64 ((rd_T26 l0_5 1).f3))).setCell ⟨gb114, 4, none⟩ (.string ((rd_T26 l0_5 1).f4))).setCell ⟨gb114, 5, none⟩ (.slice A112_5 ((rd_T26 l0_5 1).f5).length c112_5)).setCell ⟨gb114, 6, none⟩ (.int .i64 ((rd_T26 l0_5 1).f6))).heap[gb114]? = some (.cells #[.int .i64 ((rd_T26 l0_5 1).f0), .string ((rd_T26 l0_5 1).f1), .int .u32 ((rd_T26 l0_5 1).f2), .int .i64 ((rd_T26 l0_5 1).f3), .string ((rd_T26 l0_5 1).f4), .slice A112_5 ((rd_T26 l0_5 1).f5).length c112_5, .int .i64 ((rd_T26 l0_5 1).f6)] 26 (0, 0))) := ⟨(blk_put (blk_put (blk_put (blk_put (blk_put (blk_put (blk_put BK114.out 0 _ rfl) 1 _ rfl) 2 _ rfl) 3 _ rfl) 4 _ rfl) 5 _ rfl) 6 _ rfl)⟩
     have m1_ : Aside0 ((((((((w21a.setCell ⟨gb114, 0, none⟩ (.int .i64 ((rd_T26 l0_5 1).f0))).setCell ⟨gb114, 1, none⟩ (.string ((rd_T26 l0_5 1).f1))).setCell ⟨gb114, 2, none⟩ (.int .u32 ((rd_T26 l0_5 1).f2))).setCell ⟨gb114, 3, none⟩ (.int .i64 ((rd_T26 l0_5 1).f3))).setCell ⟨gb114, 4, none⟩ (.string ((rd_T26 l0_5 1).f4))).setCell ⟨gb114, 5, none⟩ (.slice A112_5 ((rd_T26 l0_5 1).f5).length c112_5)).setCell ⟨gb114, 6, none⟩ (.int .i64 ((rd_T26 l0_5 1).f6))).heap[gb113]? = some (.cells #[.int .i64 ((rd_T26 l0_5 0).f0), .string ((rd_T26 l0_5 0).f1), .int .u32 ((rd_T26 l0_5 0).f2), .int .i64 ((rd_T26 l0_5 0).f3), .string ((rd_T26 l0_5 0).f4), .slice A111_5 ((rd_T26 l0_5 0).f5).length c111_5, .int .i64 ((rd_T26 l0_5 0).f6)] 26 (0, 0))) := ⟨(blk_far (blk_far (blk_far (blk_far (blk_far (blk_far (blk_far BK113.out NB113_114.out _) NB113_114.out _) NB113_114.out _) NB113_114.out _) NB113_114.out _) NB113_114.out _) NB113_114.out _)⟩
     have m2_ : Aside0 ((((((((w21a.setCell ⟨gb114, 0, none⟩ (.int .i64 ((rd_T26 l0_5 1).f0))).setCell ⟨gb114, 1, none⟩ (.string ((rd_T26 l0_5 1).f1))).setCell ⟨gb114, 2, none⟩ (.int .u32 ((rd_T26 l0_5 1).f2))).setCell ⟨gb114, 3, none⟩ (.int .i64 ((rd_T26 l0_5 1).f3))).setCell ⟨gb114, 4, none⟩ (.string ((rd_T26 l0_5 1).f4))).setCell ⟨gb114, 5, none⟩ (.slice A112_5 ((rd_T26 l0_5 1).f5).length c112_5)).setCell ⟨gb114, 6, none⟩ (.int .i64 ((rd_T26 l0_5 1).f6))).heap[gb109]? = some (.cells #[.int .i64 a0_0, .string a0_1, .int .u32 a0_2, .int .i64 a0_3, .string a0_4, .slice (some ad111) l0_5.length c0_5, .int .i64 a0_6] 26 (0, 0))) := ⟨(blk_far (blk_far (blk_far (blk_far (blk_far (blk_far (blk_far BK109.out NB109_114.out _) NB109_114.out _) NB109_114.out _) NB109_114.out _) NB109_114.out _) NB109_114.out _) NB109_114.out _)⟩
     have mb_ : Aside0 (Below w.heap.size w (((((((w21a.setCell ⟨gb114, 0, none⟩ (.int .i64 ((rd_T26 l0_5 1).f0))).setCell ⟨gb114, 1, none⟩ (.string ((rd_T26 l0_5 1).f1))).setCell ⟨gb114, 2, none⟩ (.int .u32 ((rd_T26 l0_5 1).f2))).setCell ⟨gb114, 3, none⟩ (.int .i64 ((rd_T26 l0_5 1).f3))).setCell ⟨gb114, 4, none⟩ (.string ((rd_T26 l0_5 1).f4))).setCell ⟨gb114, 5, none⟩ (.slice A112_5 ((rd_T26 l0_5 1).f5).length c112_5)).setCell ⟨gb114, 6, none⟩ (.int .i64 ((rd_T26 l0_5 1).f6)))) := ⟨(below_set (below_set (below_set (below_set (below_set (below_set (below_set HB.out GW114.out) GW114.out) GW114.out) GW114.out) GW114.out) GW114.out) GW114.out)⟩
     generalize (((((((w21a.setCell ⟨gb114, 0, none⟩ (.int .i64 ((rd_T26 l0_5 1).f0))).setCell ⟨gb114, 1, none⟩ (.string ((rd_T26 l0_5 1).f1))).setCell ⟨gb114, 2, none⟩ (.int .u32 ((rd_T26 l0_5 1).f2))).setCell ⟨gb114, 3, none⟩ (.int .i64 ((rd_T26 l0_5 1).f3))).setCell ⟨gb114, 4, none⟩ (.string ((rd_T26 l0_5 1).f4))).setCell ⟨gb114, 5, none⟩ (.slice A112_5 ((rd_T26 l0_5 1).f5).length c112_5)).setCell ⟨gb114, 6, none⟩ (.int .i64 ((rd_T26 l0_5 1).f6))) = w21b at hHeld m0_ m1_ m2_ mb_ ⊢
     clear BK114 BK113 BK109 HB
     have BK114 := m0_
     have BK113 := m1_
     have BK109 := m2_
     have HB := mb_
     clear m0_ m1_ m2_ mb_
     refine done_ (done_of HT_.out (by kernel_rfl)) ?_
     have hcv113_0 : w21b.cell? ⟨gb113, 0, none⟩ = some (.int .i64 ((rd_T26 l0_5 0).f0)) := (blk_cell BK113.out 0).trans rfl
     have hcv113_1 : w21b.cell? ⟨gb113, 1, none⟩ = some (.string ((rd_T26 l0_5 0).f1)) := (blk_cell BK113.out 1).trans rfl
     have hcv113_2 : w21b.cell? ⟨gb113, 2, none⟩ = some (.int .u32 ((rd_T26 l0_5 0).f2)) := (blk_cell BK113.out 2).trans rfl
     have hcv113_3 : w21b.cell? ⟨gb113, 3, none⟩ = some (.int .i64 ((rd_T26 l0_5 0).f3)) := (blk_cell BK113.out 3).trans rfl
     have hcv113_4 : w21b.cell? ⟨gb113, 4, none⟩ = some (.string ((rd_T26 l0_5 0).f4)) := (blk_cell BK113.out 4).trans rfl
     have hcv113_5 : w21b.cell? ⟨gb113, 5, none⟩ = some (.slice A111_5 ((rd_T26 l0_5 0).f5).length c111_5) := (blk_cell BK113.out 5).trans rfl
     have hcv113_6 : w21b.cell? ⟨gb113, 6, none⟩ = some (.int .i64 ((rd_T26 l0_5 0).f6)) := (blk_cell BK113.out 6).trans rfl
     have hcv114_0 : w21b.cell? ⟨gb114, 0, none⟩ = some (.int .i64 ((rd_T26 l0_5 1).f0)) := (blk_cell BK114.out 0).trans rfl
     have hcv114_1 : w21b.cell? ⟨gb114, 1, none⟩ = some (.string ((rd_T26 l0_5 1).f1)) := (blk_cell BK114.out 1).trans rfl
     have hcv114_2 : w21b.cell? ⟨gb114, 2, none⟩ = some (.int .u32 ((rd_T26 l0_5 1).f2)) := (blk_cell BK114.out 2).trans rfl
     have hcv114_3 : w21b.cell? ⟨gb114, 3, none⟩ = some (.int .i64 ((rd_T26 l0_5 1).f3)) := (blk_cell BK114.out 3).trans rfl
     have hcv114_4 : w21b.cell? ⟨gb114, 4, none⟩ = some (.string ((rd_T26 l0_5 1).f4)) := (blk_cell BK114.out 4).trans rfl
     have hcv114_5 : w21b.cell? ⟨gb114, 5, none⟩ = some (.slice A112_5 ((rd_T26 l0_5 1).f5).length c112_5) := (blk_cell BK114.out 5).trans rfl
     have hcv114_6 : w21b.cell? ⟨gb114, 6, none⟩ = some (.int .i64 ((rd_T26 l0_5 1).f6)) := (blk_cell BK114.out 6).trans rfl
     have H := HZ_.out
     clear HZ_
     by_cases c13 : ((rd_T26 l0_5 0).f4).toList = ([] : List UInt8)
     ·rw [if_pos c13] at H
      have c13b0 : (((rd_T26 l0_5 0).f4).toList == ([] : List UInt8)) = true := beq_iff_eq.mpr c13
      have c13b1 : (((rd_T26 l0_5 0).f4).toList != ([] : List UInt8)) = false := bne_eq_false_iff_eq.mpr c13
      clear c13
      by_cases c14 : ((rd_T26 l0_5 1).f4).toList = ([] : List UInt8)
      ·rw [if_pos c14] at H
       have c14b0 : (((rd_T26 l0_5 1).f4).toList == ([] : List UInt8)) = true := beq_iff_eq.mpr c14
       have c14b1 : (((rd_T26 l0_5 1).f4).toList != ([] : List UInt8)) = false := bne_eq_false_iff_eq.mpr c14
       clear c14
       by_cases c15 : ((rd_T26 l0_5 0).f0) = 6
       ·rw [if_pos c15] at H
        have c15b0 : (((rd_T26 l0_5 0).f0) == 6) = true := beq_iff_eq.mpr c15
        have c15b1 : (((rd_T26 l0_5 0).f0) != 6) = false := bne_eq_false_iff_eq.mpr c15
        clear c15
        obtain rfl := Option.some.inj H
        try go_wp2
        go_ret
        exact ⟨by first | rfl | (simp [errW_none, errW_some] <;> rfl) | (simp [*, errW_none, errW_some] <;> rfl), by repeat (first | (with_reducible first | exact HB.out | apply below_alloc | apply pw_below_drewN | apply below_drew1 | refine below_set ?_ GE109.out | refine below_set ?_ GE113.out | refine below_set ?_ GE114.out) | exact HB.out)⟩
       ·rw [if_neg c15] at H
        have c15b0 : (((rd_T26 l0_5 0).f0) == 6) = false := beq_eq_false_iff_ne.mpr c15
        have c15b1 : (((rd_T26 l0_5 0).f0) != 6) = true := bne_iff_ne.mpr c15
        by_cases c41 : ((rd_T26 l0_5 1).f0) = 6
        ·rw [if_pos c41] at H
         have c41b0 : (((rd_T26 l0_5 1).f0) == 6) = true := beq_iff_eq.mpr c41
         have c41b1 : (((rd_T26 l0_5 1).f0) != 6) = false := bne_eq_false_iff_eq.mpr c41
         clear c41
         obtain rfl := Option.some.inj H
         try go_wp2
         go_ret
         exact ⟨by first | rfl | (simp [errW_none, errW_some] <;> rfl) | (simp [*, errW_none, errW_some] <;> rfl), by repeat (first | (with_reducible first | exact HB.out | apply below_alloc | apply pw_below_drewN | apply below_drew1 | refine below_set ?_ GE109.out | refine below_set ?_ GE113.out | refine below_set ?_ GE114.out) | exact HB.out)⟩
        ·rw [if_neg c41] at H
         have c41b0 : (((rd_T26 l0_5 1).f0) == 6) = false := beq_eq_false_iff_ne.mpr c41
         have c41b1 : (((rd_T26 l0_5 1).f0) != 6) = true := bne_iff_ne.mpr c41
         obtain rfl := Option.some.inj H
         try go_wp2
         go_ret
         exact ⟨by first | rfl | (simp [errW_none, errW_some] <;> rfl) | (simp [*, errW_none, errW_some] <;> rfl), by repeat (first | (with_reducible first | exact HB.out | apply below_alloc | apply pw_below_drewN | apply below_drew1 | refine below_set ?_ GE109.out | refine below_set ?_ GE113.out | refine below_set ?_ GE114.out) | exact HB.out)⟩
      ·rw [if_neg c14] at H
       have c14b0 : (((rd_T26 l0_5 1).f4).toList == ([] : List UInt8)) = false := beq_eq_false_iff_ne.mpr c14
       have c14b1 : (((rd_T26 l0_5 1).f4).toList != ([] : List UInt8)) = true := bne_iff_ne.mpr c14
       obtain rfl := Option.some.inj H
       try go_wp2
       go_ret
       exact ⟨by first | rfl | (simp [errW_none, errW_some] <;> rfl) | (simp [*, errW_none, errW_some] <;> rfl), by repeat (first | (with_reducible first | exact HB.out | apply below_alloc | apply pw_below_drewN | apply below_drew1 | refine below_set ?_ GE109.out | refine below_set ?_ GE113.out | refine below_set ?_ GE114.out) | exact HB.out)⟩
     ·rw [if_neg c13] at H
      have c13b0 : (((rd_T26 l0_5 0).f4).toList == ([] : List UInt8)) = false := beq_eq_false_iff_ne.mpr c13
      have c13b1 : (((rd_T26 l0_5 0).f4).toList != ([] : List UInt8)) = true := bne_iff_ne.mpr c13
      obtain rfl := Option.some.inj H
      try go_wp2
      go_ret
      exact ⟨by first | rfl | (simp [errW_none, errW_some] <;> rfl) | (simp [*, errW_none, errW_some] <;> rfl), by repeat (first | (with_reducible first | exact HB.out | apply below_alloc | apply pw_below_drewN | apply below_drew1 | refine below_set ?_ GE109.out | refine below_set ?_ GE113.out | refine below_set ?_ GE114.out) | exact HB.out)⟩
    ·rw [if_neg c10] at H
     have c10b0 : ((l0_5.length : Int) == 2) = false := beq_eq_false_iff_ne.mpr c10
     have c10b1 : ((l0_5.length : Int) != 2) = true := bne_iff_ne.mpr c10
     obtain rfl := Option.some.inj H
     go_enter Try.func44, Try.ntmps44
     go_wp2_with (first | ((with_reducible refine gate_dst (N := 1) rfl ?_); (try (refine gate_guard (by rfl) ?_; dsimp only)); refine box_event ?hg (N := 1) ?hd (cs := #[.int .i64 a0_0, .string a0_1, .int .u32 a0_2, .int .i64 a0_3, .string a0_4, .slice A0_5 l0_5.length c0_5, .int .i64 a0_6]) (t := 26) ?hr ?_; (case hd => rfl); (case hg => rfl); (case hr => first | (go_simp; done) | (go_simp; rfl)); intro gb109 hg w140 hbox hb; have BK109 := Aside0.mk (hbox); have GW109 := Aside0.mk ((by rw [hg]; exact (below_size (by repeat (first | (with_reducible first | exact HB.out | apply below_alloc | apply pw_below_drewN | apply below_drew1) | exact HB.out))) : w.heap.size ≤ gb109)); have GE109 := Aside0.mk ((by rw [hg]; exact (below_size (by repeat (first | (with_reducible first | exact HB.out | apply below_alloc | apply pw_below_drewN | apply below_drew1) | exact HB.out))) : w.heap.size ≤ gb109)); replace HB := Aside0.mk (below_step (by repeat (first | (with_reducible first | exact HB.out | apply below_alloc | apply pw_below_drewN | apply below_drew1) | exact HB.out)) hb); clear hb hbox hg; obtain ⟨hcz141_0, hcz141_1, hcz141_2, hcz141_3, hcz141_4, hcz141_5, hcz141_6, hfz141_0, hfz141_1, hfz141_2, hfz141_3, hfz141_4, hfz141_5, hfz141_6⟩ := blk7 BK109.out) | ((with_reducible refine gate_callee (f := 41) rfl ?_); refine goesL_ (some 7) rfl rfl Try.func41 (by kernel_rfl) rfl #[.string a0_1] rfl (by (try simp only [List.map_toArray, List.map_cons, List.map_nil]); first | done | rfl | (simp only [List.length_drop, List.length_take]; rfl)) ?_; (with_reducible refine (tree_named.calls k a0_1 true _ A2.out).mono ?_); rintro e w' ⟨rfl, ⟨nd, rfl⟩⟩; refine ⟨_, rfl, ?_⟩))
     go_ret
     exact ⟨by first | rfl | (simp [errW_none, errW_some] <;> rfl) | (simp [*, errW_none, errW_some] <;> rfl), by repeat (first | (with_reducible first | exact HB.out | apply below_alloc | apply pw_below_drewN | apply below_drew1 | refine below_set ?_ GE109.out) | exact HB.out)⟩
 ·replace c3 := Bool.eq_false_iff.mpr c3
  subst c3
  have H1 : (some false) = some r := by rw [if_neg (show ¬ (false = true) by decide)] at H; exact H
  clear H
  have H := H1
  clear H1
  obtain rfl := Option.some.inj H
  go_enter Try.func44, Try.ntmps44
  go_wp2_with (first | ((with_reducible refine gate_dst (N := 1) rfl ?_); (try (refine gate_guard (by rfl) ?_; dsimp only)); refine box_event ?hg (N := 1) ?hd (cs := #[.int .i64 a0_0, .string a0_1, .int .u32 a0_2, .int .i64 a0_3, .string a0_4, .slice A0_5 l0_5.length c0_5, .int .i64 a0_6]) (t := 26) ?hr ?_; (case hd => rfl); (case hg => rfl); (case hr => first | (go_simp; done) | (go_simp; rfl)); intro gb109 hg w142 hbox hb; have BK109 := Aside0.mk (hbox); have GW109 := Aside0.mk ((by rw [hg]; exact (below_size (by repeat (first | (with_reducible first | exact HB.out | apply below_alloc | apply pw_below_drewN | apply below_drew1) | exact HB.out))) : w.heap.size ≤ gb109)); have GE109 := Aside0.mk ((by rw [hg]; exact (below_size (by repeat (first | (with_reducible first | exact HB.out | apply below_alloc | apply pw_below_drewN | apply below_drew1) | exact HB.out))) : w.heap.size ≤ gb109)); replace HB := Aside0.mk (below_step (by repeat (first | (with_reducible first | exact HB.out | apply below_alloc | apply pw_below_drewN | apply below_drew1) | exact HB.out)) hb); clear hb hbox hg; obtain ⟨hcz143_0, hcz143_1, hcz143_2, hcz143_3, hcz143_4, hcz143_5, hcz143_6, hfz143_0, hfz143_1, hfz143_2, hfz143_3, hfz143_4, hfz143_5, hfz143_6⟩ := blk7 BK109.out) | ((with_reducible refine gate_callee (f := 41) rfl ?_); refine goesL_ (some 7) rfl rfl Try.func41 (by kernel_rfl) rfl #[.string a0_1] rfl (by (try simp only [List.map_toArray, List.map_cons, List.map_nil]); first | done | rfl | (simp only [List.length_drop, List.length_take]; rfl)) ?_; (with_reducible refine (tree_named.calls k a0_1 false _ A2.out).mono ?_); rintro e w' ⟨rfl, ⟨nd, rfl⟩⟩; refine ⟨_, rfl, ?_⟩))
  go_ret
  exact ⟨by first | rfl | (simp [errW_none, errW_some] <;> rfl) | (simp [*, errW_none, errW_some] <;> rfl), by repeat (first | (with_reducible first | exact HB.out | apply below_alloc | apply pw_below_drewN | apply below_drew1 | refine below_set ?_ GE109.out) | exact HB.out)⟩

end Go.Proofs.Ytbfomjbencbmlaa.Q
