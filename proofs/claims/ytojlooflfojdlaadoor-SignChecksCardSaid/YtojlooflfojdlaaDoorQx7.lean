/- Lean functions with the answers of the Go functions that the law reaches, proved to be just these answers. Conditions: those that each theorem names. -/
import Derived.Test.YtojlooflfojdlaaDoorQx0
import Derived.Test.YtojlooflfojdlaaDoorQx1
import Derived.Test.YtojlooflfojdlaaDoorQx2
import Derived.Test.YtojlooflfojdlaaDoorQx5
import Derived.Test.YtojlooflfojdlaaDoorQx6
namespace Go.Proofs.YtojlooflfojdlaaDoor.Q
open Go.RowKit Go.Proofs.YtojlooflfojdlaaDoorW.PrintWords Go.Proofs.YtojlooflfojdlaaDoorW.PrintLast Go.Proofs.YtojlooflfojdlaaDoorW.PrintMore
attribute [local go_sem] max2_int min2_int max_two min_two max_three min_three max_four min_four   -- for this text's walks alone
set_option linter.unusedVariables false
set_option linter.unusedSimpArgs false

attribute [local go_sem high] eqA39
/-! ### latheref10_Parse: function 10 -/
mutual
def latheref10_Parse.l0 : Nat → ByteArray → List (S39) → Int → Int → Int → Option ((List (S39)) × Int × Int)
 | 0, _, _, _, _, _ => none
 | k + 1, x0, x5, x6, x7, x8 => if x8 ≤ (x0.size : Int) then (if x8 < (x0.size : Int) then (if 0 ≤ x8 then (if (bt x0 x8) = 10 then (if x8 = (x0.size : Int) then (latheref10_Parse.j1 k x0 x5 x6 x7 x8 (x6 == (x0.size : Int))) else (latheref10_Parse.j1 k x0 x5 x6 x7 x8 false)) else (latheref10_Parse.j1 k x0 x5 x6 x7 x8 true)) else (none)) else (if x8 = (x0.size : Int) then (latheref10_Parse.j1 k x0 x5 x6 x7 x8 (x6 == (x0.size : Int))) else (latheref10_Parse.j1 k x0 x5 x6 x7 x8 false))) else ((latheref10_Check.f k x5).bind fun t140 => (if t140 = 0 then (some (x5, 0, 0)) else (some (([] : List (S39)), t140, 0))))
def latheref10_Parse.j1 : Nat → ByteArray → List (S39) → Int → Int → Int → Bool → Option ((List (S39)) × Int × Int)
 | 0, _, _, _, _, _, _ => none
 | k + 1, x0, x5, x6, x7, x8, x43 => if x43 = true then (latheref10_Parse.l0 k x0 x5 x6 x7 (wrap64 (x8 + 1))) else (if 0 ≤ x6 then (if x6 ≤ x8 then (if x8 ≤ (x0.size : Int) then (if (x0.extract (x6 : Int).toNat (x8 : Int).toNat).toList = ([] : List UInt8) then (latheref10_Parse.j2 k x0 x5 (wrap64 (x8 + 1)) (wrap64 (x7 + 1)) x8 (x0.extract (x6 : Int).toNat (x8 : Int).toNat) true) else (if 0 < ((x0.extract (x6 : Int).toNat (x8 : Int).toNat).size : Int) then (latheref10_Parse.j2 k x0 x5 (wrap64 (x8 + 1)) (wrap64 (x7 + 1)) x8 (x0.extract (x6 : Int).toNat (x8 : Int).toNat) ((bt (x0.extract (x6 : Int).toNat (x8 : Int).toNat) 0) == 35)) else (none))) else (none)) else (none)) else (none))
def latheref10_Parse.j2 : Nat → ByteArray → List (S39) → Int → Int → Int → ByteArray → Bool → Option ((List (S39)) × Int × Int)
 | 0, _, _, _, _, _, _, _ => none
 | k + 1, x0, x5, x6, x7, x8, x9, x58 => if x58 = true then (latheref10_Parse.l0 k x0 x5 x6 x7 (wrap64 (x8 + 1))) else ((latheref10_Line.f k x9).bind fun bt141 => (if bt141.2.2.2 = true then (if x5.length < 4398046511104 then (latheref10_Parse.l0 k x0 (x5 ++ [(⟨bt141.1, bt141.2.1, bt141.2.2.1⟩ : S39)]) x6 x7 (wrap64 (x8 + 1))) else (none)) else (some (([] : List (S39)), 250, x7))))
end
def latheref10_Parse.f (k : Nat) (a0 : ByteArray) : Option ((List (S39)) × Int × Int) := if (a0.size : Int) > 65536 then (some (([] : List (S39)), 2, 0)) else (latheref10_Parse.l0 k a0 ([] : List (S39)) 0 0 0)
theorem latheref10_Parse.mono_l : ∀ k, (∀ y0 y1 y2 y3 y4, LeO (latheref10_Parse.l0 k y0 y1 y2 y3 y4) (latheref10_Parse.l0 (k + 1) y0 y1 y2 y3 y4)) ∧ (∀ y0 y1 y2 y3 y4 y5, LeO (latheref10_Parse.j1 k y0 y1 y2 y3 y4 y5) (latheref10_Parse.j1 (k + 1) y0 y1 y2 y3 y4 y5)) ∧ (∀ y0 y1 y2 y3 y4 y5 y6, LeO (latheref10_Parse.j2 k y0 y1 y2 y3 y4 y5 y6) (latheref10_Parse.j2 (k + 1) y0 y1 y2 y3 y4 y5 y6))
 | 0 => ⟨fun _ _ _ _ _ r h => by simp [latheref10_Parse.l0] at h, fun _ _ _ _ _ _ r h => by simp [latheref10_Parse.j1] at h, fun _ _ _ _ _ _ _ r h => by simp [latheref10_Parse.j2] at h⟩
 | k + 1 => by
  obtain ⟨ih0, ih1, ih2⟩ := latheref10_Parse.mono_l k
  refine ⟨?_, ?_, ?_⟩
  ·intro y0 y1 y2 y3 y4
   unfold latheref10_Parse.l0
   repeat' first
   | (with_reducible exact ih0 _ _ _ _ _)
   | (with_reducible exact ih1 _ _ _ _ _ _)
   | (with_reducible exact ih2 _ _ _ _ _ _ _)
   | (with_reducible exact latheref10_Check.mono _ _)
   | (with_reducible exact latheref10_Line.mono _ _)
   | (with_reducible exact LeO.refl _)
   | (with_reducible exact LeO.none _)
   | (with_reducible refine LeO.ite ?_ ?_)
   | (with_reducible refine LeO.bind ?_ (fun _ => ?_))
   | exact LeO.none _
   | refine LeO.ite ?_ ?_
   | refine LeO.bind ?_ (fun _ => ?_)
  ·intro y0 y1 y2 y3 y4 y5
   unfold latheref10_Parse.j1
   repeat' first
   | (with_reducible exact ih0 _ _ _ _ _)
   | (with_reducible exact ih1 _ _ _ _ _ _)
   | (with_reducible exact ih2 _ _ _ _ _ _ _)
   | (with_reducible exact latheref10_Check.mono _ _)
   | (with_reducible exact latheref10_Line.mono _ _)
   | (with_reducible exact LeO.refl _)
   | (with_reducible exact LeO.none _)
   | (with_reducible refine LeO.ite ?_ ?_)
   | (with_reducible refine LeO.bind ?_ (fun _ => ?_))
   | exact LeO.none _
   | refine LeO.ite ?_ ?_
   | refine LeO.bind ?_ (fun _ => ?_)
  ·intro y0 y1 y2 y3 y4 y5 y6
   unfold latheref10_Parse.j2
   repeat' first
   | (with_reducible exact ih0 _ _ _ _ _)
   | (with_reducible exact ih1 _ _ _ _ _ _)
   | (with_reducible exact ih2 _ _ _ _ _ _ _)
   | (with_reducible exact latheref10_Check.mono _ _)
   | (with_reducible exact latheref10_Line.mono _ _)
   | (with_reducible exact LeO.refl _)
   | (with_reducible exact LeO.none _)
   | (with_reducible refine LeO.ite ?_ ?_)
   | (with_reducible refine LeO.bind ?_ (fun _ => ?_))
   | exact LeO.none _
   | refine LeO.ite ?_ ?_
   | refine LeO.bind ?_ (fun _ => ?_)
theorem latheref10_Parse.mono : ∀ a0 k, LeO (latheref10_Parse.f k a0) (latheref10_Parse.f (k + 1) a0) := by
 intro a0 k
 obtain ⟨ih0, ih1, ih2⟩ := latheref10_Parse.mono_l k
 unfold latheref10_Parse.f
 repeat' first
   | (with_reducible exact ih0 _ _ _ _ _)
   | (with_reducible exact ih1 _ _ _ _ _ _)
   | (with_reducible exact ih2 _ _ _ _ _ _ _)
   | (with_reducible exact latheref10_Check.mono _ _)
   | (with_reducible exact latheref10_Line.mono _ _)
   | (with_reducible exact LeO.refl _)
   | (with_reducible exact LeO.none _)
   | (with_reducible refine LeO.ite ?_ ?_)
   | (with_reducible refine LeO.bind ?_ (fun _ => ?_))
   | exact LeO.none _
   | refine LeO.ite ?_ ?_
   | refine LeO.bind ?_ (fun _ => ?_)
set_option maxHeartbeats 8000000 in
set_option maxRecDepth 100000 in
theorem latheref10_Parse.calls (k : Nat) (a0 : ByteArray) (r1 : List (S39)) (r2 : Int) (r3 : Int) (w : World) (h : latheref10_Parse.f k a0 = some (r1, r2, r3)) :
  Calls Tryd.prog 10 #[.string a0] w fun e w' => ∃ v0_ : Value, e = .returned (.tuple #[v0_, .int .i64 r2, .int .i64 r3]) ∧ Kd.R k39 39 w' w.heap.size (fun _ => True) v0_ r1 ∧ Below w.heap.size w w' := by
 have hu39 := Tryd.underlying39
 have HB := Aside0.mk (Below.refl w.heap.size w)
 have H : (if (a0.size : Int) > 65536 then (some (([] : List (S39)), 2, 0)) else (latheref10_Parse.l0 k a0 ([] : List (S39)) 0 0 0)) = some (r1, r2, r3) := h
 clear h
 by_cases c2 : (a0.size : Int) > 65536
 ·rw [if_pos c2] at H
  have c2b0 : decide (65536 < (a0.size : Int)) = true := decide_eq_true c2
  have c2b1 : decide (65536 < a0.size) = true := decide_eq_true (by omega)
  clear c2
  simp only [Option.some.injEq, Prod.mk.injEq] at H
  obtain ⟨rfl, rfl, rfl⟩ := H
  go_enter Tryd.func10, Tryd.ntmps10
  go_wp2
  go_ret3
  exact ⟨_, by first | rfl | (simp [errW_none, errW_some] <;> rfl) | (simp [*, errW_none, errW_some] <;> rfl), by first | exact Kd.R_nil _ _ _ _ _ | exact Kd.N_nil _ _ _ _ _ | exact Kd.V_nil _ _ _ _ _ | exact Kd.Q_nil _ _ _ _ _ | exact Kd.S_nil _ _ _ _ _, by repeat (first | (with_reducible first | exact HB.out | apply below_alloc | apply pw_below_drewN | apply below_drew1) | exact HB.out)⟩
 ·rw [if_neg c2] at H
  have c2b0 : decide (65536 < (a0.size : Int)) = false := decide_eq_false c2
  have c2b1 : decide (65536 < a0.size) = false := decide_eq_false (by omega)
  clear c2
  have H' := Aside0.mk H
  clear H
  go_enter Tryd.func10, Tryd.ntmps10
  go_wp2
  go_loopg [5, 6, 7, 8] k (fun kq v5 v6 v7 v8 w' => ∃ (x5_1 : List (S39)) (x6_1 : Int) (x7_1 : Int) (x8_1 : Int), v6 = .int .i64 x6_1 ∧ v7 = .int .i64 x7_1 ∧ v8 = .int .i64 x8_1 ∧ Aside0 (latheref10_Parse.l0 kq a0 x5_1 x6_1 x7_1 x8_1 = some (r1, r2, r3)) ∧ Aside0 (kq ≤ k) ∧ Aside0 (Kd.R k39 39 w' w.heap.size (fun _ => True) v5 x5_1) ∧ Aside0 (Below w.heap.size w w'))
  case atStart => exact ⟨(([] : List (S39))), (0), (0), (0), (by first | rfl | (simp; done) | (simp [*]; done) | (simp; exact (fun l : List UInt8 => (by cases l <;> rfl : l.isEmpty = !(l != []))) _)), (by first | rfl | (simp; done) | (simp [*]; done) | (simp; exact (fun l : List UInt8 => (by cases l <;> rfl : l.isEmpty = !(l != []))) _)), (by first | rfl | (simp; done) | (simp [*]; done) | (simp; exact (fun l : List UInt8 => (by cases l <;> rfl : l.isEmpty = !(l != []))) _)), H', ⟨Nat.le_refl _⟩, ⟨by first | exact Kd.R_nil _ _ _ _ _ | exact Kd.N_nil _ _ _ _ _ | exact Kd.V_nil _ _ _ _ _ | exact Kd.Q_nil _ _ _ _ _ | exact Kd.S_nil _ _ _ _ _⟩, ⟨by repeat (first | (with_reducible first | exact HB.out | apply below_alloc | apply pw_below_drewN | apply below_drew1) | exact HB.out)⟩⟩
  case round =>
   clear H'
   try clear c1
   try clear c2
   try clear c2b0
   try clear c2b1
   try clear p2
   obtain ⟨x5_1, x6_1, x7_1, x8_1, rfl, rfl, rfl, HA, HK1, HO_5, HB⟩ := hrel
   cases gk with
   | zero => exact absurd HA.out (by simp [latheref10_Parse.l0])
   | succ k1 =>
    have H := HA.out
    clear HA
    simp only [latheref10_Parse.l0] at H
    by_cases c3 : x8_1 ≤ (a0.size : Int)
    ·rw [if_pos c3] at H
     have c3b0 : decide (x8_1 ≤ (a0.size : Int)) = true := decide_eq_true c3
     clear c3
     have HC4 := Aside0.mk H
     clear H
     go_upto_region 9 with (fail)
     go_cut [43] (fun v43 wc => ∃ (kq : Nat) (x43_3 : Bool), v43 = .bool x43_3 ∧ Aside0 (latheref10_Parse.j1 kq a0 x5_1 x6_1 x7_1 x8_1 x43_3 = some (r1, r2, r3)) ∧ Aside0 (kq ≤ k1) ∧ Aside0 (Kd.R k39 39 wc w.heap.size (fun _ => True) u5 x5_1) ∧ Aside0 (Below w.heap.size w wc))
     case first =>
      have H := HC4.out
      clear HC4
      by_cases c5 : x8_1 < (a0.size : Int)
      ·rw [if_pos c5] at H
       have c5b0 : decide (x8_1 < (a0.size : Int)) = true := decide_eq_true c5
       clear c5
       (first | rw [c5b0] | (simp only [i64_w, i32_w]; rw [c5b0]) | skip)
       by_cases c6 : 0 ≤ x8_1
       case neg => rw [if_neg c6] at H; exact absurd H (by simp)
       rw [if_pos c6] at H
       have c6b0 : decide (0 ≤ x8_1) = true := decide_eq_true c6
       clear c6
       by_cases c8 : (bt a0 x8_1) = 10
       ·rw [if_pos c8] at H
        have c8b0 : ((bt a0 x8_1) == 10) = true := beq_iff_eq.mpr c8
        have c8b1 : ((bt a0 x8_1) != 10) = false := bne_eq_false_iff_eq.mpr c8
        clear c8
        by_cases c9 : x8_1 = (a0.size : Int)
        ·rw [if_pos c9] at H
         have c9b0 : (x8_1 == (a0.size : Int)) = true := beq_iff_eq.mpr c9
         have c9b1 : (x8_1 != (a0.size : Int)) = false := bne_eq_false_iff_eq.mpr c9
         clear c9
         have H' := Aside0.mk H
         clear H
         have p7 : 0 ≤ (x8_1 : Int) := of_decide_eq_true (by first | (with_reducible assumption) | assumption)
         have q7 : x8_1 < (a0.size : Int) := of_decide_eq_true (by first | (with_reducible assumption) | assumption)
         have hx7 := bt_at a0 x8_1
         replace p7 := eq_true p7
         replace q7 := eq_true q7
         go_wp2
         go_meet
         case rel => exact ⟨_, ((x6_1 == (a0.size : Int))), (by first | rfl | (simp; done) | (simp [*]; done) | (simp; exact (fun l : List UInt8 => (by cases l <;> rfl : l.isEmpty = !(l != []))) _)), H', ⟨by have := HK1.out; first | omega | exact Nat.le_refl _⟩, ⟨by (with_reducible repeat (first | apply Kd.R_alloc | apply Kd.R_drewN | apply Kd.R_drew)); exact HO_5.out⟩, ⟨by repeat (first | (with_reducible first | exact HB.out | apply below_alloc | apply pw_below_drewN | apply below_drew1) | exact HB.out)⟩⟩
        ·rw [if_neg c9] at H
         have c9b0 : (x8_1 == (a0.size : Int)) = false := beq_eq_false_iff_ne.mpr c9
         have c9b1 : (x8_1 != (a0.size : Int)) = true := bne_iff_ne.mpr c9
         have H' := Aside0.mk H
         clear H
         have p7 : 0 ≤ (x8_1 : Int) := of_decide_eq_true (by first | (with_reducible assumption) | assumption)
         have q7 : x8_1 < (a0.size : Int) := of_decide_eq_true (by first | (with_reducible assumption) | assumption)
         have hx7 := bt_at a0 x8_1
         replace p7 := eq_true p7
         replace q7 := eq_true q7
         go_wp2
         go_meet
         case rel => exact ⟨_, (false), (by first | rfl | (simp; done) | (simp [*]; done) | (simp; exact (fun l : List UInt8 => (by cases l <;> rfl : l.isEmpty = !(l != []))) _)), H', ⟨by have := HK1.out; first | omega | exact Nat.le_refl _⟩, ⟨by (with_reducible repeat (first | apply Kd.R_alloc | apply Kd.R_drewN | apply Kd.R_drew)); exact HO_5.out⟩, ⟨by repeat (first | (with_reducible first | exact HB.out | apply below_alloc | apply pw_below_drewN | apply below_drew1) | exact HB.out)⟩⟩
       ·rw [if_neg c8] at H
        have c8b0 : ((bt a0 x8_1) == 10) = false := beq_eq_false_iff_ne.mpr c8
        have c8b1 : ((bt a0 x8_1) != 10) = true := bne_iff_ne.mpr c8
        have H' := Aside0.mk H
        clear H
        have p7 : 0 ≤ (x8_1 : Int) := of_decide_eq_true (by first | (with_reducible assumption) | assumption)
        have q7 : x8_1 < (a0.size : Int) := of_decide_eq_true (by first | (with_reducible assumption) | assumption)
        have hx7 := bt_at a0 x8_1
        replace p7 := eq_true p7
        replace q7 := eq_true q7
        go_wp2
        go_meet
        case rel => exact ⟨_, (true), (by first | rfl | (simp; done) | (simp [*]; done) | (simp; exact (fun l : List UInt8 => (by cases l <;> rfl : l.isEmpty = !(l != []))) _)), H', ⟨by have := HK1.out; first | omega | exact Nat.le_refl _⟩, ⟨by (with_reducible repeat (first | apply Kd.R_alloc | apply Kd.R_drewN | apply Kd.R_drew)); exact HO_5.out⟩, ⟨by repeat (first | (with_reducible first | exact HB.out | apply below_alloc | apply pw_below_drewN | apply below_drew1) | exact HB.out)⟩⟩
      ·rw [if_neg c5] at H
       have c5b0 : decide (x8_1 < (a0.size : Int)) = false := decide_eq_false c5
       clear c5
       (first | rw [c5b0] | (simp only [i64_w, i32_w]; rw [c5b0]) | skip)
       by_cases c10 : x8_1 = (a0.size : Int)
       ·rw [if_pos c10] at H
        have c10b0 : (x8_1 == (a0.size : Int)) = true := beq_iff_eq.mpr c10
        have c10b1 : (x8_1 != (a0.size : Int)) = false := bne_eq_false_iff_eq.mpr c10
        clear c10
        have H' := Aside0.mk H
        clear H
        go_wp2
        go_meet
        case rel => exact ⟨_, ((x6_1 == (a0.size : Int))), (by first | rfl | (simp; done) | (simp [*]; done) | (simp; exact (fun l : List UInt8 => (by cases l <;> rfl : l.isEmpty = !(l != []))) _)), H', ⟨by have := HK1.out; first | omega | exact Nat.le_refl _⟩, ⟨by (with_reducible repeat (first | apply Kd.R_alloc | apply Kd.R_drewN | apply Kd.R_drew)); exact HO_5.out⟩, ⟨by repeat (first | (with_reducible first | exact HB.out | apply below_alloc | apply pw_below_drewN | apply below_drew1) | exact HB.out)⟩⟩
       ·rw [if_neg c10] at H
        have c10b0 : (x8_1 == (a0.size : Int)) = false := beq_eq_false_iff_ne.mpr c10
        have c10b1 : (x8_1 != (a0.size : Int)) = true := bne_iff_ne.mpr c10
        have H' := Aside0.mk H
        clear H
        go_wp2
        go_meet
        case rel => exact ⟨_, (false), (by first | rfl | (simp; done) | (simp [*]; done) | (simp; exact (fun l : List UInt8 => (by cases l <;> rfl : l.isEmpty = !(l != []))) _)), H', ⟨by have := HK1.out; first | omega | exact Nat.le_refl _⟩, ⟨by (with_reducible repeat (first | apply Kd.R_alloc | apply Kd.R_drewN | apply Kd.R_drew)); exact HO_5.out⟩, ⟨by repeat (first | (with_reducible first | exact HB.out | apply below_alloc | apply pw_below_drewN | apply below_drew1) | exact HB.out)⟩⟩
     case rest =>
      clear HC4
      try clear c1
      try clear c2
      try clear c2b0
      try clear c2b1
      try clear p2
      try clear c3
      try clear c3b0
      try clear c5
      try clear c5b0
      try clear c6
      try clear c6b0
      try clear p7
      try clear q7
      try clear hx7
      try clear c8
      try clear c8b0
      try clear c8b1
      try clear c9
      try clear c9b0
      try clear c9b1
      try clear c10
      try clear c10b0
      try clear c10b1
      try clear p2
      try clear p7
      try clear q7
      obtain ⟨kq, x43_3, rfl, HA, HJ3, HO_5, HB⟩ := hcut
      cases kq with
      | zero => exact absurd HA.out (by simp [latheref10_Parse.j1])
      | succ kj3 =>
       have H := HA.out
       clear HA
       simp only [latheref10_Parse.j1] at H
       by_cases c11 : x43_3 = true
       ·subst c11
        have H1 : (latheref10_Parse.l0 kj3 a0 x5_1 x6_1 x7_1 (wrap64 (x8_1 + 1))) = some (r1, r2, r3) := by rw [if_pos rfl] at H; exact H
        clear H
        have H := H1
        clear H1
        have H' := Aside0.mk H
        clear H
        go_wp2
        go_roundg kj3
        case measure => have := HK1.out; have := HJ3.out; omega
        case rel => exact ⟨(x5_1), (x6_1), (x7_1), (wrap64 (x8_1 + 1)), (by first | rfl | (simp; done) | (simp [*]; done) | (simp; exact (fun l : List UInt8 => (by cases l <;> rfl : l.isEmpty = !(l != []))) _)), (by first | rfl | (simp; done) | (simp [*]; done) | (simp; exact (fun l : List UInt8 => (by cases l <;> rfl : l.isEmpty = !(l != []))) _)), (by first | rfl | (simp; done) | (simp [*]; done) | (simp; exact (fun l : List UInt8 => (by cases l <;> rfl : l.isEmpty = !(l != []))) _)), H', ⟨by have := HK1.out; have := HJ3.out; omega⟩, ⟨by (with_reducible repeat (first | apply Kd.R_alloc | apply Kd.R_drewN | apply Kd.R_drew)); exact HO_5.out⟩, ⟨by repeat (first | (with_reducible first | exact HB.out | apply below_alloc | apply pw_below_drewN | apply below_drew1) | exact HB.out)⟩⟩
       ·replace c11 := Bool.eq_false_iff.mpr c11
        subst c11
        have H1 : (if 0 ≤ x6_1 then (if x6_1 ≤ x8_1 then (if x8_1 ≤ (a0.size : Int) then (if (a0.extract (x6_1 : Int).toNat (x8_1 : Int).toNat).toList = ([] : List UInt8) then (latheref10_Parse.j2 kj3 a0 x5_1 (wrap64 (x8_1 + 1)) (wrap64 (x7_1 + 1)) x8_1 (a0.extract (x6_1 : Int).toNat (x8_1 : Int).toNat) true) else (if 0 < ((a0.extract (x6_1 : Int).toNat (x8_1 : Int).toNat).size : Int) then (latheref10_Parse.j2 kj3 a0 x5_1 (wrap64 (x8_1 + 1)) (wrap64 (x7_1 + 1)) x8_1 (a0.extract (x6_1 : Int).toNat (x8_1 : Int).toNat) ((bt (a0.extract (x6_1 : Int).toNat (x8_1 : Int).toNat) 0) == 35)) else (none))) else (none)) else (none)) else (none)) = some (r1, r2, r3) := by rw [if_neg (show ¬ (false = true) by decide)] at H; exact H
        clear H
        have H := H1
        clear H1
        by_cases c12 : 0 ≤ x6_1
        case neg => rw [if_neg c12] at H; exact absurd H (by simp)
        rw [if_pos c12] at H
        have c12b0 := eq_true c12
        have c12b1 : decide (0 ≤ x6_1) = true := decide_eq_true c12
        clear c12
        by_cases c13 : x6_1 ≤ x8_1
        case neg => rw [if_neg c13] at H; exact absurd H (by simp)
        rw [if_pos c13] at H
        have c13b0 := eq_true c13
        have c13b1 : decide (x6_1 ≤ x8_1) = true := decide_eq_true c13
        clear c13
        by_cases c14 : x8_1 ≤ (a0.size : Int)
        case neg => rw [if_neg c14] at H; exact absurd H (by simp)
        rw [if_pos c14] at H
        have c14b0 := eq_true c14
        have c14b1 : decide (x8_1 ≤ (a0.size : Int)) = true := decide_eq_true c14
        clear c14
        have HC15 := Aside0.mk H
        clear H
        go_upto_region 13 with (fail)
        go_cut [58] (fun v58 wc => ∃ (kq : Nat) (x58_14 : Bool), v58 = .bool x58_14 ∧ Aside0 (latheref10_Parse.j2 kq a0 x5_1 (wrap64 (x8_1 + 1)) (wrap64 (x7_1 + 1)) x8_1 (a0.extract (x6_1 : Int).toNat (x8_1 : Int).toNat) x58_14 = some (r1, r2, r3)) ∧ Aside0 (kq ≤ kj3) ∧ Aside0 (Kd.R k39 39 wc w.heap.size (fun _ => True) u5 x5_1) ∧ Aside0 (Below w.heap.size w wc))
        case first =>
         have H := HC15.out
         clear HC15
         by_cases c16 : (a0.extract (x6_1 : Int).toNat (x8_1 : Int).toNat).toList = ([] : List UInt8)
         ·rw [if_pos c16] at H
          have c16b0 : ((a0.extract (x6_1 : Int).toNat (x8_1 : Int).toNat).toList == ([] : List UInt8)) = true := beq_iff_eq.mpr c16
          have c16b1 : ((a0.extract (x6_1 : Int).toNat (x8_1 : Int).toNat).toList != ([] : List UInt8)) = false := bne_eq_false_iff_eq.mpr c16
          clear c16
          (first | rw [c16b0] | (simp only [i64_w, i32_w]; rw [c16b0]) | skip)
          have H' := Aside0.mk H
          clear H
          go_wp2
          go_meet
          case rel => exact ⟨_, (true), (by first | rfl | (simp; done) | (simp [*]; done) | (simp; exact (fun l : List UInt8 => (by cases l <;> rfl : l.isEmpty = !(l != []))) _)), H', ⟨by have := HK1.out; have := HJ3.out; first | omega | exact Nat.le_refl _⟩, ⟨by (with_reducible repeat (first | apply Kd.R_alloc | apply Kd.R_drewN | apply Kd.R_drew)); exact HO_5.out⟩, ⟨by repeat (first | (with_reducible first | exact HB.out | apply below_alloc | apply pw_below_drewN | apply below_drew1) | exact HB.out)⟩⟩
         ·rw [if_neg c16] at H
          have c16b0 : ((a0.extract (x6_1 : Int).toNat (x8_1 : Int).toNat).toList == ([] : List UInt8)) = false := beq_eq_false_iff_ne.mpr c16
          have c16b1 : ((a0.extract (x6_1 : Int).toNat (x8_1 : Int).toNat).toList != ([] : List UInt8)) = true := bne_iff_ne.mpr c16
          (first | rw [c16b0] | (simp only [i64_w, i32_w]; rw [c16b0]) | skip)
          by_cases c17 : 0 < ((a0.extract (x6_1 : Int).toNat (x8_1 : Int).toNat).size : Int)
          case neg => rw [if_neg c17] at H; exact absurd H (by simp)
          rw [if_pos c17] at H
          have c17b0 : decide (0 < ((a0.extract (x6_1 : Int).toNat (x8_1 : Int).toNat).size : Int)) = true := decide_eq_true c17
          (try (have c17b0x_ := c17b0; simp only [Int.toNat_natCast] at c17b0x_))
          have c17b1 : decide (0 < (a0.extract (x6_1 : Int).toNat (x8_1 : Int).toNat).size) = true := decide_eq_true (by omega)
          (try (have c17b1x_ := c17b1; simp only [Int.toNat_natCast] at c17b1x_))
          clear c17
          have H' := Aside0.mk H
          clear H
          have p18 : 0 ≤ (0 : Int) := (by omega)
          have q18 : 0 < (a0.extract (x6_1 : Int).toNat (x8_1 : Int).toNat).size := (by have : (0 : Int) < ((a0.extract (x6_1 : Int).toNat (x8_1 : Int).toNat).size : Int) := of_decide_eq_true (by first | (with_reducible assumption) | assumption); omega)
          have q18z_ : (0 < (x8_1 : Int).toNat - (x6_1 : Int).toNat) = True := eq_true (by have h_ := q18; rw [ByteArray.size_extract] at h_; omega)
          have hx18 : ∀ h : 0 < (a0.extract (x6_1 : Int).toNat (x8_1 : Int).toNat).size, (((a0.extract (x6_1 : Int).toNat (x8_1 : Int).toNat)[0]'h).toNat : Int) = bt (a0.extract (x6_1 : Int).toNat (x8_1 : Int).toNat) 0 := bt_at (a0.extract (x6_1 : Int).toNat (x8_1 : Int).toNat) 0
          clear p18
          have qi18 : (0 < ((a0.extract (x6_1 : Int).toNat (x8_1 : Int).toNat).size : Int)) = True := eq_true (of_decide_eq_true (by first | (with_reducible assumption) | assumption))
          replace q18 := eq_true q18
          go_wp2
          go_meet
          case rel => exact ⟨_, (((bt (a0.extract (x6_1 : Int).toNat (x8_1 : Int).toNat) 0) == 35)), (by first | rfl | (simp; done) | (simp [*]; done) | (simp; exact (fun l : List UInt8 => (by cases l <;> rfl : l.isEmpty = !(l != []))) _)), H', ⟨by have := HK1.out; have := HJ3.out; first | omega | exact Nat.le_refl _⟩, ⟨by (with_reducible repeat (first | apply Kd.R_alloc | apply Kd.R_drewN | apply Kd.R_drew)); exact HO_5.out⟩, ⟨by repeat (first | (with_reducible first | exact HB.out | apply below_alloc | apply pw_below_drewN | apply below_drew1) | exact HB.out)⟩⟩
        case rest =>
         clear HC15
         try clear c1
         try clear p1
         try clear q1
         try clear hx1
         try clear qi1
         try clear c2
         try clear c2b0
         try clear c2b1
         try clear p2
         try clear c3
         try clear c3b0
         try clear c5
         try clear c5b0
         try clear c6
         try clear c6b0
         try clear p6
         try clear p7
         try clear q7
         try clear hx7
         try clear c8
         try clear c8b0
         try clear c8b1
         try clear c9
         try clear c9b0
         try clear c9b1
         try clear c10
         try clear c10b0
         try clear c10b1
         try clear c11
         try clear c12
         try clear c12b0
         try clear c12b1
         try clear c13
         try clear c13b0
         try clear c13b1
         try clear c14
         try clear c14b0
         try clear c14b1
         try clear c16
         try clear c16b0
         try clear c16b1
         try clear c17
         try clear c17b0
         try clear c17b1
         try clear p18
         try clear q18
         try clear hx18
         try clear qi18
         try clear p18
         try clear p2
         try clear p7
         try clear q18
         try clear q7
         obtain ⟨kq, x58_14, rfl, HA, HJ14, HO_5, HB⟩ := hcut
         cases kq with
         | zero => exact absurd HA.out (by simp [latheref10_Parse.j2])
         | succ kj14 =>
          have H := HA.out
          clear HA
          simp only [latheref10_Parse.j2] at H
          by_cases c19 : x58_14 = true
          ·subst c19
           have H1 : (latheref10_Parse.l0 kj14 a0 x5_1 (wrap64 (x8_1 + 1)) (wrap64 (x7_1 + 1)) (wrap64 (x8_1 + 1))) = some (r1, r2, r3) := by rw [if_pos rfl] at H; exact H
           clear H
           have H := H1
           clear H1
           have H' := Aside0.mk H
           clear H
           go_wp2
           go_roundg kj14
           case measure => have := HK1.out; have := HJ3.out; have := HJ14.out; omega
           case rel => exact ⟨(x5_1), ((wrap64 (x8_1 + 1))), ((wrap64 (x7_1 + 1))), (wrap64 (x8_1 + 1)), (by first | rfl | (simp; done) | (simp [*]; done) | (simp; exact (fun l : List UInt8 => (by cases l <;> rfl : l.isEmpty = !(l != []))) _)), (by first | rfl | (simp; done) | (simp [*]; done) | (simp; exact (fun l : List UInt8 => (by cases l <;> rfl : l.isEmpty = !(l != []))) _)), (by first | rfl | (simp; done) | (simp [*]; done) | (simp; exact (fun l : List UInt8 => (by cases l <;> rfl : l.isEmpty = !(l != []))) _)), H', ⟨by have := HK1.out; have := HJ3.out; have := HJ14.out; omega⟩, ⟨by (with_reducible repeat (first | apply Kd.R_alloc | apply Kd.R_drewN | apply Kd.R_drew)); exact HO_5.out⟩, ⟨by repeat (first | (with_reducible first | exact HB.out | apply below_alloc | apply pw_below_drewN | apply below_drew1) | exact HB.out)⟩⟩
          ·replace c19 := Bool.eq_false_iff.mpr c19
           subst c19
           have H1 : ((latheref10_Line.f kj14 (a0.extract (x6_1 : Int).toNat (x8_1 : Int).toNat)).bind fun bt141 => (if bt141.2.2.2 = true then (if x5_1.length < 4398046511104 then (latheref10_Parse.l0 kj14 a0 (x5_1 ++ [(⟨bt141.1, bt141.2.1, bt141.2.2.1⟩ : S39)]) (wrap64 (x8_1 + 1)) (wrap64 (x7_1 + 1)) (wrap64 (x8_1 + 1))) else (none)) else (some (([] : List (S39)), 250, (wrap64 (x7_1 + 1)))))) = some (r1, r2, r3) := by rw [if_neg (show ¬ (false = true) by decide)] at H; exact H
           clear H
           have H := H1
           clear H1
           replace H := Option.bind_eq_some_iff.mp H
           obtain ⟨⟨t141, t142, t143, t144⟩, A200, H⟩ := H
           replace H : (if t144 = true then (if x5_1.length < 4398046511104 then (latheref10_Parse.l0 kj14 a0 (x5_1 ++ [(⟨t141, t142, t143⟩ : S39)]) (wrap64 (x8_1 + 1)) (wrap64 (x7_1 + 1)) (wrap64 (x8_1 + 1))) else (none)) else (some (([] : List (S39)), 250, (wrap64 (x7_1 + 1))))) = some (r1, r2, r3) := H
           have A20 := Aside0.mk A200
           clear A200
           by_cases c21 : t144 = true
           ·subst c21
            have H1 : (if x5_1.length < 4398046511104 then (latheref10_Parse.l0 kj14 a0 (x5_1 ++ [(⟨t141, t142, t143⟩ : S39)]) (wrap64 (x8_1 + 1)) (wrap64 (x7_1 + 1)) (wrap64 (x8_1 + 1))) else (none)) = some (r1, r2, r3) := by rw [if_pos rfl] at H; exact H
            clear H
            have H := H1
            clear H1
            by_cases c22 : x5_1.length < 4398046511104
            case neg => rw [if_neg c22] at H; exact absurd H (by simp)
            rw [if_pos c22] at H
            have LMc22 := Aside0.mk c22
            clear c22
            obtain ⟨y146, hy146⟩ : ∃ y_ : List (S39), y_ = (x5_1 ++ [(⟨t141, t142, t143⟩ : S39)]) := ⟨_, rfl⟩
            replace H : (latheref10_Parse.l0 kj14 a0 y146 (wrap64 (x8_1 + 1)) (wrap64 (x7_1 + 1)) (wrap64 (x8_1 + 1))) = some (r1, r2, r3) := by first | (rw [hy146]; with_reducible exact H) | (have H2_ := (Option.bind_some _ _).symm.trans H; rw [hy146]; with_reducible exact H2_) | (have H2_ := (Option.bind_some _ _).symm.trans H; with_reducible exact H2_) | with_reducible exact H | (rw [hy146]; exact H) | exact H
            have Ny146 := Aside0.mk hy146
            clear hy146
            have H' := Aside0.mk H
            clear H
            go_wp2_with (first | ((with_reducible refine gate_callee (f := 27) rfl ?_); refine goesL_ (some 61) rfl rfl Tryd.func27 (by kernel_rfl) rfl #[.string (a0.extract (x6_1 : Int).toNat (x8_1 : Int).toNat)] rfl (by (try simp only [List.map_toArray, List.map_cons, List.map_nil]); first | done | rfl | (simp only [List.length_drop, List.length_take]; rfl)) ?_; (with_reducible refine (latheref10_Line.calls kj14 (a0.extract (x6_1 : Int).toNat (x8_1 : Int).toNat) t141 t142 t143 true _ A20.out).mono ?_); rintro e w23 ⟨rfl, hb⟩; refine ⟨_, rfl, ?_⟩; replace HO_5 := Aside0.mk (Kd.R_below (by (with_reducible repeat (first | apply Kd.R_alloc | apply Kd.R_drewN | apply Kd.R_drew)); exact HO_5.out) hb); replace HB := Aside0.mk (below_step (by repeat (first | (with_reducible first | exact HB.out | apply below_alloc | apply pw_below_drewN | apply below_drew1) | exact HB.out)) hb); (try clear hb); (try clear hb2); (try clear hk); (try clear hi)) | ((with_reducible refine gate_dst (N := 10) rfl ?_); (try (refine gate_guard (by rfl) ?_; dsimp only)); refine box_event ?hg (N := 10) ?hd (cs := #[.string (⟨#[]⟩ : ByteArray), .int .i64 0, .int .i64 0]) (t := 39) ?hr ?_; (case hd => rfl); (case hg => rfl); (case hr => first | (go_simp; done) | (go_simp; rfl)); intro gb145 hg w24 hbox hb; replace HO_5 := Aside0.mk (Kd.R_below (Kd.R_elderB (by (with_reducible repeat (first | apply Kd.R_alloc | apply Kd.R_drewN | apply Kd.R_drew)); exact HO_5.out) gb145 (Nat.le_of_eq hg.symm)) hb); have BK145 := Aside0.mk (hbox); have GW145 := Aside0.mk ((by rw [hg]; exact (below_size (by repeat (first | (with_reducible first | exact HB.out | apply below_alloc | apply pw_below_drewN | apply below_drew1) | exact HB.out))) : w.heap.size ≤ gb145)); have GE145 := Aside0.mk ((by rw [hg]; exact (below_size (by repeat (first | (with_reducible first | exact HB.out | apply below_alloc | apply pw_below_drewN | apply below_drew1) | exact HB.out))) : w.heap.size ≤ gb145)); replace HB := Aside0.mk (below_step (by repeat (first | (with_reducible first | exact HB.out | apply below_alloc | apply pw_below_drewN | apply below_drew1) | exact HB.out)) hb); clear hb hbox hg; obtain ⟨hcz25_0, hcz25_1, hcz25_2, hfz25_0, hfz25_1, hfz25_2⟩ := blk3 BK145.out) | ((with_reducible refine gate_builtin (b := .append) (xs := #[.tmp 67, .tmp 69]) rfl ?_); (try (refine gate_guard (by rfl) ?_; dsimp only)); at_builtin; refine Kd.R_append k39 (w0 := w) w.heap.size rfl (.tmp 67) (.tmp 69) 22 39 (.agg #[(.string ⟨#[]⟩), (.int .i64 0), (.int .i64 0)]) 32 rfl Tryd.underlying22 info39 rfl (by decide) (by omega) u5 x5_1 (⟨t141, t142, t143⟩ : S39) [.string t141, .int .i64 t142, .int .i64 t143] (fun k_ => k_ ≠ gb145) (fun _ => False) rfl (by first | (go_simp; done) | (go_simp; rfl)) ?aP (fun _ hk => hk.elim) ?aF ?aO ?aB ?aS ?aL ?_; (case aP => exact k39_mkM _ _ _ (⟨t141, t142, t143⟩ : S39)); (case aB => exact (by repeat (first | (with_reducible first | exact HB.out | apply below_alloc | apply pw_below_drewN | apply below_drew1 | refine below_set ?_ GE145.out) | exact HB.out))); (case aF => exact (fun k_ hk => Kd.freshB (g := gb145) (o := .cells #[.string t141, .int .i64 t142, .int .i64 t143] 39 (0, 0)) (by (with_reducible repeat (first | refine blk_drewN ?_ _ | refine blk_drew ?_ | refine blk_alloc ?_ _)); refine blk_put (cs := #[.string t141, .int .i64 t142, .int .i64 0]) ?_ 2 _ rfl; refine blk_put (cs := #[.string t141, .int .i64 0, .int .i64 0]) ?_ 1 _ rfl; refine blk_put (cs := #[.string (⟨#[]⟩ : ByteArray), .int .i64 0, .int .i64 0]) ?_ 0 _ rfl; (with_reducible repeat (first | refine blk_drewN ?_ _ | refine blk_drew ?_ | refine blk_alloc ?_ _)); exact BK145.out) k_ hk)); (case aO => exact (by (with_reducible repeat (first | apply Kd.R_alloc | apply Kd.R_drewN | apply Kd.R_drew)); exact Kd.R_mono (Kd.R_far (p := ⟨gb145, 2, none⟩) (Kd.R_far (p := ⟨gb145, 1, none⟩) (Kd.R_far (p := ⟨gb145, 0, none⟩) (Kd.R_mono HO_5.out (fun k_ hk => (⟨hk, hk.2⟩ : _ ∧ k_ ≠ gb145))) (fun _ hk => hk.2) (.string t141)) (fun _ hk => hk.2) (.int .i64 t142)) (fun _ hk => hk.2) (.int .i64 t143)) (fun _ hk => hk.1.2))); (case aS => exact (below_size (by repeat (first | (with_reducible first | exact HB.out | apply below_alloc | apply pw_below_drewN | apply below_drew1 | refine below_set ?_ GE145.out) | exact HB.out)))); (case aL => have := LMc22.out; omega); intro v147 w26 ho hb hg hat; rw [← Ny146.out] at ho; replace BK145 := Aside0.mk (blk_grown (g := gb145) (o := .cells #[.string t141, .int .i64 t142, .int .i64 t143] 39 (0, 0)) (by (with_reducible repeat (first | refine blk_drewN ?_ _ | refine blk_drew ?_ | refine blk_alloc ?_ _)); refine blk_put (cs := #[.string t141, .int .i64 t142, .int .i64 0]) ?_ 2 _ rfl; refine blk_put (cs := #[.string t141, .int .i64 0, .int .i64 0]) ?_ 1 _ rfl; refine blk_put (cs := #[.string (⟨#[]⟩ : ByteArray), .int .i64 0, .int .i64 0]) ?_ 0 _ rfl; (with_reducible repeat (first | refine blk_drewN ?_ _ | refine blk_drew ?_ | refine blk_alloc ?_ _)); exact BK145.out) hg (Kd.R_away HO_5.out (fun _ hk => hk.2))); replace HB := Aside0.mk (hb); have HO148 := Aside0.mk (ho); clear HO_5; clear ho hb hg hat))
            go_roundg kj14
            case measure => have := HK1.out; have := HJ3.out; have := HJ14.out; omega
            case rel => exact ⟨(y146), ((wrap64 (x8_1 + 1))), ((wrap64 (x7_1 + 1))), (wrap64 (x8_1 + 1)), (by first | rfl | (simp; done) | (simp [*]; done) | (simp; exact (fun l : List UInt8 => (by cases l <;> rfl : l.isEmpty = !(l != []))) _)), (by first | rfl | (simp; done) | (simp [*]; done) | (simp; exact (fun l : List UInt8 => (by cases l <;> rfl : l.isEmpty = !(l != []))) _)), (by first | rfl | (simp; done) | (simp [*]; done) | (simp; exact (fun l : List UInt8 => (by cases l <;> rfl : l.isEmpty = !(l != []))) _)), H', ⟨by have := HK1.out; have := HJ3.out; have := HJ14.out; omega⟩, ⟨by (with_reducible repeat (first | apply Kd.R_alloc | apply Kd.R_drewN | apply Kd.R_drew)); exact Kd.R_mono HO148.out (fun _ hk => trivial)⟩, ⟨by repeat (first | (with_reducible first | exact HB.out | apply below_alloc | apply pw_below_drewN | apply below_drew1 | refine below_set ?_ GE145.out) | exact HB.out)⟩⟩
           ·replace c21 := Bool.eq_false_iff.mpr c21
            subst c21
            have H1 : (some (([] : List (S39)), 250, (wrap64 (x7_1 + 1)))) = some (r1, r2, r3) := by rw [if_neg (show ¬ (false = true) by decide)] at H; exact H
            clear H
            have H := H1
            clear H1
            simp only [Option.some.injEq, Prod.mk.injEq] at H
            obtain ⟨rfl, rfl, rfl⟩ := H
            go_wp2_with (first | ((with_reducible refine gate_callee (f := 27) rfl ?_); refine goesL_ (some 61) rfl rfl Tryd.func27 (by kernel_rfl) rfl #[.string (a0.extract (x6_1 : Int).toNat (x8_1 : Int).toNat)] rfl (by (try simp only [List.map_toArray, List.map_cons, List.map_nil]); first | done | rfl | (simp only [List.length_drop, List.length_take]; rfl)) ?_; (with_reducible refine (latheref10_Line.calls kj14 (a0.extract (x6_1 : Int).toNat (x8_1 : Int).toNat) t141 t142 t143 false _ A20.out).mono ?_); rintro e w27 ⟨rfl, hb⟩; refine ⟨_, rfl, ?_⟩; replace HO_5 := Aside0.mk (Kd.R_below (by (with_reducible repeat (first | apply Kd.R_alloc | apply Kd.R_drewN | apply Kd.R_drew)); exact HO_5.out) hb); replace HB := Aside0.mk (below_step (by repeat (first | (with_reducible first | exact HB.out | apply below_alloc | apply pw_below_drewN | apply below_drew1) | exact HB.out)) hb); (try clear hb); (try clear hb2); (try clear hk); (try clear hi)) | ((with_reducible refine gate_dst (N := 10) rfl ?_); (try (refine gate_guard (by rfl) ?_; dsimp only)); refine box_event ?hg (N := 10) ?hd (cs := #[.string (⟨#[]⟩ : ByteArray), .int .i64 0, .int .i64 0]) (t := 39) ?hr ?_; (case hd => rfl); (case hg => rfl); (case hr => first | (go_simp; done) | (go_simp; rfl)); intro gb145 hg w28 hbox hb; replace HO_5 := Aside0.mk (Kd.R_below (Kd.R_elderB (by (with_reducible repeat (first | apply Kd.R_alloc | apply Kd.R_drewN | apply Kd.R_drew)); exact HO_5.out) gb145 (Nat.le_of_eq hg.symm)) hb); have BK145 := Aside0.mk (hbox); have GW145 := Aside0.mk ((by rw [hg]; exact (below_size (by repeat (first | (with_reducible first | exact HB.out | apply below_alloc | apply pw_below_drewN | apply below_drew1) | exact HB.out))) : w.heap.size ≤ gb145)); have GE145 := Aside0.mk ((by rw [hg]; exact (below_size (by repeat (first | (with_reducible first | exact HB.out | apply below_alloc | apply pw_below_drewN | apply below_drew1) | exact HB.out))) : w.heap.size ≤ gb145)); replace HB := Aside0.mk (below_step (by repeat (first | (with_reducible first | exact HB.out | apply below_alloc | apply pw_below_drewN | apply below_drew1) | exact HB.out)) hb); clear hb hbox hg; obtain ⟨hcz29_0, hcz29_1, hcz29_2, hfz29_0, hfz29_1, hfz29_2⟩ := blk3 BK145.out))
            go_ret3
            exact ⟨_, by first | rfl | (simp [errW_none, errW_some] <;> rfl) | (simp [*, errW_none, errW_some] <;> rfl), by first | exact Kd.R_nil _ _ _ _ _ | exact Kd.N_nil _ _ _ _ _ | exact Kd.V_nil _ _ _ _ _ | exact Kd.Q_nil _ _ _ _ _ | exact Kd.S_nil _ _ _ _ _, by repeat (first | (with_reducible first | exact HB.out | apply below_alloc | apply pw_below_drewN | apply below_drew1 | refine below_set ?_ GE145.out) | exact HB.out)⟩
    ·rw [if_neg c3] at H
     have c3b0 : decide (x8_1 ≤ (a0.size : Int)) = false := decide_eq_false c3
     clear c3
     replace H := Option.bind_eq_some_iff.mp H
     obtain ⟨t140, A300, H⟩ := H
     replace H : (if t140 = 0 then (some (x5_1, 0, 0)) else (some (([] : List (S39)), t140, 0))) = some (r1, r2, r3) := H
     have A30 := Aside0.mk A300
     clear A300
     by_cases c31 : t140 = 0
     ·rw [if_pos c31] at H
      have c31b0 : (t140 == 0) = true := beq_iff_eq.mpr c31
      have c31b1 : (t140 != 0) = false := bne_eq_false_iff_eq.mpr c31
      clear c31
      simp only [Option.some.injEq, Prod.mk.injEq] at H
      obtain ⟨rfl, rfl, rfl⟩ := H
      obtain ⟨Ao32, co32, eo32⟩ := Kd.R_slice HO_5.out
      subst eo32
      go_wp2_with (first | ((with_reducible refine gate_callee (f := 18) rfl ?_); refine goesL_ (some 72) rfl rfl Tryd.func18 (by kernel_rfl) rfl #[.slice Ao32 x5_1.length co32] rfl (by (try simp only [List.map_toArray, List.map_cons, List.map_nil]); first | done | rfl | (simp only [List.length_drop, List.length_take]; rfl)) ?_; (with_reducible refine (latheref10_Check.calls k1 _ _ x5_1 t140 _ ?side1 ?side2 A30.out).mono ?_); (case side1 => repeat (first | exact (Kd.R_reads' HO_5.out).2.2 | (with_reducible refine Kd.C_alloc ?_ _) | (with_reducible refine Kd.C_drewN ?_ _) | (with_reducible refine Kd.C_drew ?_))); (case side2 => exact (Kd.R_reads' HO_5.out).2.1); rintro e w33 ⟨rfl, hb⟩; refine ⟨_, rfl, ?_⟩; replace HO_5 := Aside0.mk (Kd.R_below (by (with_reducible repeat (first | apply Kd.R_alloc | apply Kd.R_drewN | apply Kd.R_drew)); exact HO_5.out) hb); replace HB := Aside0.mk (below_step (by repeat (first | (with_reducible first | exact HB.out | apply below_alloc | apply pw_below_drewN | apply below_drew1) | exact HB.out)) hb); (try clear hb); (try clear hb2); (try clear hk); (try clear hi)))
      go_ret3
      exact ⟨_, by first | rfl | (simp [errW_none, errW_some] <;> rfl) | (simp [*, errW_none, errW_some] <;> rfl), by (with_reducible repeat (first | apply Kd.R_alloc | apply Kd.R_drewN | apply Kd.R_drew)); exact HO_5.out, by repeat (first | (with_reducible first | exact HB.out | apply below_alloc | apply pw_below_drewN | apply below_drew1) | exact HB.out)⟩
     ·rw [if_neg c31] at H
      have c31b0 : (t140 == 0) = false := beq_eq_false_iff_ne.mpr c31
      have c31b1 : (t140 != 0) = true := bne_iff_ne.mpr c31
      simp only [Option.some.injEq, Prod.mk.injEq] at H
      obtain ⟨rfl, rfl, rfl⟩ := H
      obtain ⟨Ao34, co34, eo34⟩ := Kd.R_slice HO_5.out
      subst eo34
      go_wp2_with (first | ((with_reducible refine gate_callee (f := 18) rfl ?_); refine goesL_ (some 72) rfl rfl Tryd.func18 (by kernel_rfl) rfl #[.slice Ao34 x5_1.length co34] rfl (by (try simp only [List.map_toArray, List.map_cons, List.map_nil]); first | done | rfl | (simp only [List.length_drop, List.length_take]; rfl)) ?_; (with_reducible refine (latheref10_Check.calls k1 _ _ x5_1 t140 _ ?side1 ?side2 A30.out).mono ?_); (case side1 => repeat (first | exact (Kd.R_reads' HO_5.out).2.2 | (with_reducible refine Kd.C_alloc ?_ _) | (with_reducible refine Kd.C_drewN ?_ _) | (with_reducible refine Kd.C_drew ?_))); (case side2 => exact (Kd.R_reads' HO_5.out).2.1); rintro e w35 ⟨rfl, hb⟩; refine ⟨_, rfl, ?_⟩; replace HO_5 := Aside0.mk (Kd.R_below (by (with_reducible repeat (first | apply Kd.R_alloc | apply Kd.R_drewN | apply Kd.R_drew)); exact HO_5.out) hb); replace HB := Aside0.mk (below_step (by repeat (first | (with_reducible first | exact HB.out | apply below_alloc | apply pw_below_drewN | apply below_drew1) | exact HB.out)) hb); (try clear hb); (try clear hb2); (try clear hk); (try clear hi)))
      go_ret3
      exact ⟨_, by first | rfl | (simp [errW_none, errW_some] <;> rfl) | (simp [*, errW_none, errW_some] <;> rfl), by first | exact Kd.R_nil _ _ _ _ _ | exact Kd.N_nil _ _ _ _ _ | exact Kd.V_nil _ _ _ _ _ | exact Kd.Q_nil _ _ _ _ _ | exact Kd.S_nil _ _ _ _ _, by repeat (first | (with_reducible first | exact HB.out | apply below_alloc | apply pw_below_drewN | apply below_drew1) | exact HB.out)⟩

/-! ### lathelaw10_same: function 11 -/
def lathelaw10_same.l0 : Nat → List (S39) → List (S39) → Int → Option (Bool)
 | 0, _, _, _ => none
 | k + 1, x0, x1, x5 => if x5 < (x0.length : Int) then (if 0 ≤ x5 then (if x5 < (x1.length : Int) then (if (!((((rd_T39 x0 x5).f0).toList) == (((rd_T39 x1 x5).f0).toList)) || (!(((rd_T39 x0 x5).f1) == ((rd_T39 x1 x5).f1)) || (!(((rd_T39 x0 x5).f2) == ((rd_T39 x1 x5).f2))))) = true then (some false) else (lathelaw10_same.l0 k x0 x1 (wrap64 (x5 + 1)))) else (none)) else (none)) else (some true)
def lathelaw10_same.f (k : Nat) (l0 : List (S39)) (l1 : List (S39)) : Option (Bool) := if (l0.length : Int) = (l1.length : Int) then (lathelaw10_same.l0 k l0 l1 0) else (some false)
theorem lathelaw10_same.mono_l : ∀ k, (∀ y0 y1 y2, LeO (lathelaw10_same.l0 k y0 y1 y2) (lathelaw10_same.l0 (k + 1) y0 y1 y2))
 | 0 => fun _ _ _ r h => by simp [lathelaw10_same.l0] at h
 | k + 1 => by
  have ih0 := lathelaw10_same.mono_l k
  ·intro y0 y1 y2
   unfold lathelaw10_same.l0
   repeat' first
   | (with_reducible exact ih0 _ _ _)
   | (with_reducible exact LeO.refl _)
   | (with_reducible exact LeO.none _)
   | (with_reducible refine LeO.ite ?_ ?_)
   | (with_reducible refine LeO.bind ?_ (fun _ => ?_))
   | exact LeO.none _
   | refine LeO.ite ?_ ?_
   | refine LeO.bind ?_ (fun _ => ?_)
theorem lathelaw10_same.mono : ∀ a0 a1 k, LeO (lathelaw10_same.f k a0 a1) (lathelaw10_same.f (k + 1) a0 a1) := by
 intro a0 a1 k
 have ih0 := lathelaw10_same.mono_l k
 unfold lathelaw10_same.f
 repeat' first
   | (with_reducible exact ih0 _ _ _)
   | (with_reducible exact LeO.refl _)
   | (with_reducible exact LeO.none _)
   | (with_reducible refine LeO.ite ?_ ?_)
   | (with_reducible refine LeO.bind ?_ (fun _ => ?_))
   | exact LeO.none _
   | refine LeO.ite ?_ ?_
   | refine LeO.bind ?_ (fun _ => ?_)
set_option maxHeartbeats 8000000 in
set_option maxRecDepth 100000 in
theorem lathelaw10_same.calls (k : Nat) (A0 : Option Addr) (c0 : Nat) (l0 : List (S39)) (A1 : Option Addr) (c1 : Nat) (l1 : List (S39)) (r : Bool) (w : World) (hr0 : Kd.C k39 w A0 l0.length l0) (hc0 : l0.length ≤ c0) (hr1 : Kd.C k39 w A1 l1.length l1) (hc1 : l1.length ≤ c1) (h : lathelaw10_same.f k l0 l1 = some r) :
  Calls Tryd.prog 11 #[.slice A0 l0.length c0, .slice A1 l1.length c1] w fun e w' => e = .returned (.bool r) ∧ Drawn0 w w' := by
 have hu39 := Tryd.underlying39
 have HR0 := Aside0.mk hr0
 have HC0 := Aside0.mk hc0
 clear hr0 hc0
 have HR1 := Aside0.mk hr1
 have HC1 := Aside0.mk hc1
 clear hr1 hc1
 have H : (if (l0.length : Int) = (l1.length : Int) then (lathelaw10_same.l0 k l0 l1 0) else (some false)) = some r := h
 clear h
 by_cases c3 : (l0.length : Int) = (l1.length : Int)
 ·rw [if_pos c3] at H
  have c3b0 : ((l0.length : Int) == (l1.length : Int)) = true := beq_iff_eq.mpr c3
  have c3b1 : ((l0.length : Int) != (l1.length : Int)) = false := bne_eq_false_iff_eq.mpr c3
  have c3b2 : (l0.length == l1.length) = true := by first | simpa using c3 | (simp at c3 ⊢; omega)
  clear c3
  have H' := Aside0.mk H
  clear H
  go_enter Tryd.func11, Tryd.ntmps11
  go_wp2
  repeat (go_quiet (fail); try go_wp2)
  go_loopg [5] k (fun kq v5 w' => ∃ (x5_1 : Int), v5 = .int .i64 x5_1 ∧ Aside0 (lathelaw10_same.l0 kq l0 l1 x5_1 = some r) ∧ Aside0 (kq ≤ k) ∧ Drawn0 w w')
  case atStart => exact ⟨(0), (by first | rfl | (simp; done) | (simp [*]; done) | (simp; exact (fun l : List UInt8 => (by cases l <;> rfl : l.isEmpty = !(l != []))) _)), H', ⟨Nat.le_refl _⟩, by repeat (first | exact Drawn0.refl _ | apply Drawn0.step)⟩
  case round =>
   clear H'
   try clear c1
   try clear p2
   try clear c3
   try clear c3b0
   try clear c3b1
   try clear c3b2
   obtain ⟨x5_1, rfl, HA, HK1, ⟨m1, rfl⟩⟩ := hrel
   cases gk with
   | zero => exact absurd HA.out (by simp [lathelaw10_same.l0])
   | succ k1 =>
    have H := HA.out
    clear HA
    simp only [lathelaw10_same.l0] at H
    by_cases c4 : x5_1 < (l0.length : Int)
    ·rw [if_pos c4] at H
     have c4b0 : decide (x5_1 < (l0.length : Int)) = true := decide_eq_true c4
     clear c4
     by_cases c5 : 0 ≤ x5_1
     case neg => rw [if_neg c5] at H; exact absurd H (by simp)
     rw [if_pos c5] at H
     have c5b0 : decide (0 ≤ x5_1) = true := decide_eq_true c5
     clear c5
     by_cases c6 : x5_1 < (l1.length : Int)
     case neg => rw [if_neg c6] at H; exact absurd H (by simp)
     rw [if_pos c6] at H
     have c6b0 : decide (x5_1 < (l1.length : Int)) = true := decide_eq_true c6
     clear c6
     by_cases c7 : (!((((rd_T39 l0 x5_1).f0).toList) == (((rd_T39 l1 x5_1).f0).toList)) || (!(((rd_T39 l0 x5_1).f1) == ((rd_T39 l1 x5_1).f1)) || (!(((rd_T39 l0 x5_1).f2) == ((rd_T39 l1 x5_1).f2))))) = true
     ·rw [if_pos c7] at H
      have c7b0 : (!((((rd_T39 l0 x5_1).f0).toList) == (((rd_T39 l1 x5_1).f0).toList)) || (!(((rd_T39 l0 x5_1).f1) == ((rd_T39 l1 x5_1).f1)) || (!(((rd_T39 l0 x5_1).f2) == ((rd_T39 l1 x5_1).f2))))) = true := c7
      clear c7
      obtain rfl := Option.some.inj H
      have p149 : 0 ≤ (x5_1 : Int) := of_decide_eq_true (by first | (with_reducible assumption) | assumption)
      have q149 : x5_1 < (l0.length : Int) := of_decide_eq_true (by first | (with_reducible assumption) | assumption)
      obtain ⟨ad149, e149, hx149_0, hx149_1, hx149_2⟩ := at_T39 HR0.out x5_1 p149 q149
      cases e149
      replace p149 := eq_true p149
      replace q149 := eq_true q149
      have p150 : 0 ≤ (x5_1 : Int) := of_decide_eq_true (by first | (with_reducible assumption) | assumption)
      have q150 : x5_1 < (l1.length : Int) := of_decide_eq_true (by first | (with_reducible assumption) | assumption)
      obtain ⟨ad150, e150, hx150_0, hx150_1, hx150_2⟩ := at_T39 HR1.out x5_1 p150 q150
      cases e150
      replace p150 := eq_true p150
      replace q150 := eq_true q150
      go_wp2
      repeat (go_quiet (fail); try go_wp2)
      go_ret
      exact ⟨by first | rfl | (simp; done) | (simp [*]; done) | (simp; exact (fun l : List UInt8 => (by cases l <;> rfl : l.isEmpty = !(l != []))) _), by repeat (first | exact Drawn0.refl _ | apply Drawn0.step)⟩
     ·rw [if_neg c7] at H
      have c7b0 : (!((((rd_T39 l0 x5_1).f0).toList) == (((rd_T39 l1 x5_1).f0).toList)) || (!(((rd_T39 l0 x5_1).f1) == ((rd_T39 l1 x5_1).f1)) || (!(((rd_T39 l0 x5_1).f2) == ((rd_T39 l1 x5_1).f2))))) = false := by simpa using c7
      clear c7
      have H' := Aside0.mk H
      clear H
      have p149 : 0 ≤ (x5_1 : Int) := of_decide_eq_true (by first | (with_reducible assumption) | assumption)
      have q149 : x5_1 < (l0.length : Int) := of_decide_eq_true (by first | (with_reducible assumption) | assumption)
      obtain ⟨ad149, e149, hx149_0, hx149_1, hx149_2⟩ := at_T39 HR0.out x5_1 p149 q149
      cases e149
      replace p149 := eq_true p149
      replace q149 := eq_true q149
      have p150 : 0 ≤ (x5_1 : Int) := of_decide_eq_true (by first | (with_reducible assumption) | assumption)
      have q150 : x5_1 < (l1.length : Int) := of_decide_eq_true (by first | (with_reducible assumption) | assumption)
      obtain ⟨ad150, e150, hx150_0, hx150_1, hx150_2⟩ := at_T39 HR1.out x5_1 p150 q150
      cases e150
      replace p150 := eq_true p150
      replace q150 := eq_true q150
      go_wp2
      repeat (go_quiet (fail); try go_wp2)
      go_roundg k1
      case measure => have := HK1.out; omega
      case rel => exact ⟨(wrap64 (x5_1 + 1)), (by first | rfl | (simp; done) | (simp [*]; done) | (simp; exact (fun l : List UInt8 => (by cases l <;> rfl : l.isEmpty = !(l != []))) _)), H', ⟨by have := HK1.out; omega⟩, by repeat (first | exact Drawn0.refl _ | apply Drawn0.step)⟩
    ·rw [if_neg c4] at H
     have c4b0 : decide (x5_1 < (l0.length : Int)) = false := decide_eq_false c4
     clear c4
     obtain rfl := Option.some.inj H
     go_wp2
     repeat (go_quiet (fail); try go_wp2)
     go_ret
     exact ⟨by first | rfl | (simp; done) | (simp [*]; done) | (simp; exact (fun l : List UInt8 => (by cases l <;> rfl : l.isEmpty = !(l != []))) _), by repeat (first | exact Drawn0.refl _ | apply Drawn0.step)⟩
 ·rw [if_neg c3] at H
  have c3b0 : ((l0.length : Int) == (l1.length : Int)) = false := beq_eq_false_iff_ne.mpr c3
  have c3b1 : ((l0.length : Int) != (l1.length : Int)) = true := bne_iff_ne.mpr c3
  have c3b2 : (l0.length == l1.length) = false := by first | simpa using c3 | (simp at c3 ⊢; omega)
  obtain rfl := Option.some.inj H
  go_enter Tryd.func11, Tryd.ntmps11
  go_wp2
  repeat (go_quiet (fail); try go_wp2)
  go_ret
  exact ⟨by first | rfl | (simp; done) | (simp [*]; done) | (simp; exact (fun l : List UInt8 => (by cases l <;> rfl : l.isEmpty = !(l != []))) _), by repeat (first | exact Drawn0.refl _ | apply Drawn0.step)⟩

-- NOT PRINTED: function 47 (abi_NoEscape)

-- NOT PRINTED: function 38 (strings_Builder_copyCheck)

-- NOT PRINTED: function 28 (strings_Builder_WriteString)

-- NOT PRINTED: function 30 (strings_Builder_String)

/-! ### sign_Print: function 13 -/
def sign_Print.kind (c : Int) : ByteArray := if c = 2 then ⟨#[32, 99, 111, 109, 112, 108, 101, 120, 32]⟩ else ⟨#[32, 114, 101, 97, 108, 32]⟩
def sign_Print.one (p : S39) : List UInt8 := p.f0.data.toList ++ (sign_Print.kind p.f1).data.toList ++ Lib.itoa p.f2 ++ [10]
def sign_Print.f (k : Nat) (l0 : List (S39)) : Option (ByteArray × Int) := (sign_Check.f k l0).bind fun e => if e = 0 then some (⟨(l0.flatMap sign_Print.one).toArray⟩, 0) else some (⟨#[]⟩, e)
theorem sign_Print.mono : ∀ l0 k, LeO (sign_Print.f k l0) (sign_Print.f (k + 1) l0) := fun _ _ => LeO.bind (sign_Check.mono _ _) (fun _ => LeO.refl _)
theorem sign_may.bounds {a : ByteArray} {b c : Int} (h : sign_may.f a b c = some true) : (b = 1 ∨ b = 2) ∧ 1 ≤ c ∧ c ≤ 4096 := by
 unfold sign_may.f at h
 obtain ⟨t, _, h⟩ := Option.bind_eq_some_iff.mp h
 by_cases ht : t = true
 case neg => rw [if_neg ht] at h; exact absurd (Option.some.inj h) (by decide)
 rw [if_pos ht] at h
 by_cases h1 : b = 1
 ·rw [if_pos h1] at h
  by_cases h2 : c ≥ 1
  ·rw [if_pos h2] at h
   exact ⟨.inl h1, h2, of_decide_eq_true (Option.some.inj h)⟩
  ·rw [if_neg h2] at h; exact absurd (Option.some.inj h) (by decide)
 ·rw [if_neg h1] at h
  by_cases h3 : b = 2
  ·rw [if_pos h3] at h
   by_cases h2 : c ≥ 1
   ·rw [if_pos h2] at h
    exact ⟨.inr h3, h2, of_decide_eq_true (Option.some.inj h)⟩
   ·rw [if_neg h2] at h; exact absurd (Option.some.inj h) (by decide)
  ·rw [if_neg h3] at h; exact absurd (Option.some.inj h) (by decide)
theorem sign_Check.all_l : ∀ (k : Nat) (l : List (S39)) (i : Int) (s : List (List UInt8)), 0 ≤ i → sign_Check.l0 k l i s = some 0 → ∀ j : Nat, i ≤ j → j < l.length → sign_may.f (rd_T39 l (j : Int)).f0 (rd_T39 l (j : Int)).f1 (rd_T39 l (j : Int)).f2 = some true
 | 0, _, _, _, _, h => by simp [sign_Check.l0] at h
 | k + 1, l, i, s, hi, h => by
  intro j hj hl
  simp only [sign_Check.l0] at h
  rw [if_pos (by omega)] at h
  obtain ⟨b, hb, h⟩ := Option.bind_eq_some_iff.mp h
  by_cases hbt : b = true
  case neg => rw [if_neg hbt] at h; exact absurd (Option.some.inj h) (by decide)
  rw [if_pos hbt] at h
  subst hbt
  by_cases e : i = j
  ·subst e; exact hb
  ·exact sign_Check.all_l k l (i + 1) _ (by omega) h j (by omega) hl
theorem sign_Check.all {k : Nat} {l : List (S39)} (h : sign_Check.f k l = some 0) : l.length ≤ 64 ∧ ∀ j : Nat, j < l.length → sign_may.f (rd_T39 l (j : Int)).f0 (rd_T39 l (j : Int)).f1 (rd_T39 l (j : Int)).f2 = some true := by
 unfold sign_Check.f at h
 by_cases h1 : (l.length : Int) > 64
 ·rw [if_pos h1] at h; exact absurd (Option.some.inj h) (by decide)
 ·rw [if_neg h1] at h
  exact ⟨by omega, fun j hj => sign_Check.all_l k l 0 [] (by omega) h j (by omega) hj⟩
theorem sign_Print.isb_below {T e : TypeId} {B b : Nat} {bs : List Value} {w w' : World} (h : Lib.IsBuilderF T e B b bs w) (hb : Below w.heap.size w w') : Lib.IsBuilderF T e B b bs w' := by
 have one : ∀ p, Lib.BuilderAtF T e B b p bs w → Lib.BuilderAtF T e B b p bs w' := by
  rintro p ⟨hB, v, hk, hown, hne⟩
  exact ⟨hB, v, blk_below hk hb, hown.kept (row := none) ⟨hb.os, hb.tape, hb.output, hb.size, fun k hk _ => hb.block k hk⟩ (by cases hv : v.ownBlock <;> simp), hne⟩
 exact h.imp (one _) (one _)
theorem sign_Print.isb_drew {T e : TypeId} {B b : Nat} {bs : List Value} {w : World} (h : Lib.IsBuilderF T e B b bs w) : Lib.IsBuilderF T e B b bs w.drew := h
theorem sign_Print.itoa_le (n : Int) (h0 : 0 ≤ n) (h1 : n ≤ 4096) : (Lib.itoa n).length ≤ 21 := Lib.itoa_length_le n (by omega) (by omega)
theorem sign_Print.kind_le (c : Int) : (sign_Print.kind c).size ≤ 9 := by unfold sign_Print.kind; split <;> decide
theorem sign_Print.room {acc : List UInt8} {a b c d : ByteArray} {i : Nat} (h : acc.length ≤ 100 * i ∧ i ≤ 64) (h1 : a.size ≤ 64 ∧ b.size ≤ 9) (h2 : c.size ≤ 21 ∧ d.size = 1) : (Lib.byteCells acc).length + (a ++ b ++ c ++ d).size ≤ 140737488355328 := by
 rw [Lib.byteCells_length]
 simp only [ByteArray.size_append]
 omega
theorem sign_Print.snoc (acc : List UInt8) (a b c d : ByteArray) : Lib.byteCells acc ++ Lib.strCells (a ++ b ++ c ++ d) = Lib.byteCells (acc ++ (a.data.toList ++ b.data.toList ++ c.data.toList ++ d.data.toList)) := by
 simp [Lib.byteCells, Lib.strCells, ByteArray.data_append]
theorem sign_Print.one_le (x : S39) (h : sign_may.f x.f0 x.f1 x.f2 = some true) : (sign_Print.one x).length ≤ 100 := by
 have h1 := sign_may.short h
 obtain ⟨_, h2, h3⟩ := sign_may.bounds h
 have h4 := sign_Print.itoa_le x.f2 (by omega) h3
 have h5 := sign_Print.kind_le x.f1
 have h6 : x.f0.data.toList.length = x.f0.size := by rw [data_length]
 have h7 : (sign_Print.kind x.f1).data.toList.length = (sign_Print.kind x.f1).size := by rw [data_length]
 simp only [sign_Print.one, List.length_append, List.length_singleton]
 omega
theorem sign_Print.take (l : List (S39)) (i : Nat) (h : i < l.length) : (l.take (i + 1)).flatMap sign_Print.one = (l.take i).flatMap sign_Print.one ++ sign_Print.one (rd_T39 l (i : Int)) := by
 rw [List.take_succ_eq_append_getElem h, List.flatMap_append]
 simp [rd_T39, List.getElem?_eq_getElem h]
set_option maxHeartbeats 8000000 in
set_option maxRecDepth 100000 in
theorem sign_Print.calls (k : Nat) (A0 : Option Addr) (c0 : Nat) (l0 : List (S39)) (r1 : ByteArray) (r2 : Int) (w : World) (hr0 : Kd.C k39 w A0 l0.length l0) (hc0 : l0.length ≤ c0) (gl_ : Glob w) (h : sign_Print.f k l0 = some (r1, r2)) :
  Calls Tryd.prog 13 #[.slice A0 l0.length c0] w fun e w' => e = .returned (.tuple #[.string r1, .int .i64 r2]) ∧ Below w.heap.size w w' := by
 have hu39 := Tryd.underlying39
 have HR0 := Aside0.mk hr0
 have HC0 := Aside0.mk hc0
 have GL_ := Aside0.mk gl_
 clear hr0 hc0 gl_
 unfold sign_Print.f at h
 obtain ⟨t, A10, h⟩ := Option.bind_eq_some_iff.mp h
 have A1 := Aside0.mk A10
 clear A10
 by_cases ht : t = 0
 case neg =>
  rw [if_neg ht] at h
  simp only [Option.some.injEq, Prod.mk.injEq] at h
  obtain ⟨rfl, rfl⟩ := h
  have d1 : (t == 0) = false := beq_eq_false_iff_ne.mpr ht
  have d2 : (t != 0) = true := bne_iff_ne.mpr ht
  clear ht
  go_enter Tryd.func13, Tryd.ntmps13
  go_wp2_with (first | ((with_reducible refine gate_callee (f := 15) rfl ?_); refine goesL_ (some 10) rfl rfl Tryd.func15 (by kernel_rfl) rfl #[.slice A0 l0.length c0] rfl (by (try simp only [List.map_toArray, List.map_cons, List.map_nil]); first | done | rfl) ?_; refine (sign_Check.calls k A0 c0 l0 _ _ HR0.out HC0.out A1.out).mono ?_; rintro e w5 ⟨rfl, hb⟩; refine ⟨_, rfl, ?_⟩; have HB := Aside0.mk hb; clear hb))
  go_ret2
  exact ⟨rfl, by repeat (first | (with_reducible first | exact HB.out | apply below_alloc | apply pw_below_drewN | apply below_drew1) | exact HB.out)⟩
 rw [if_pos ht] at h
 subst ht
 simp only [Option.some.injEq, Prod.mk.injEq] at h
 obtain ⟨h1, rfl⟩ := h
 have HE := Aside0.mk h1
 obtain ⟨hlen, hall⟩ := sign_Check.all A1.out
 have HALL := Aside0.mk hall
 have HLEN := Aside0.mk hlen
 clear h1 hall hlen
 go_enter Tryd.func13, Tryd.ntmps13
 go_wp2_with (first | ((with_reducible refine gate_callee (f := 15) rfl ?_); refine goesL_ (some 10) rfl rfl Tryd.func15 (by kernel_rfl) rfl #[.slice A0 l0.length c0] rfl (by (try simp only [List.map_toArray, List.map_cons, List.map_nil]); first | done | rfl) ?_; refine (sign_Check.calls k A0 c0 l0 _ _ HR0.out HC0.out A1.out).mono ?_; rintro e w5 ⟨rfl, hb⟩; refine ⟨_, rfl, ?_⟩; have HB := Aside0.mk hb; clear hb) | ((with_reducible refine gate_dst (N := 5) rfl ?_); refine box_event ?hg (N := 5) ?hd (cs := #[.pointer none, .slice none 0 0]) (t := 56) ?hr ?_; (case hd => rfl); (case hg => rfl); (case hr => first | (go_simp; done) | (go_simp; rfl)); intro gb hg w6 hbox hb; have GE : Aside0 (w.heap.size ≤ gb) := ⟨by rw [hg]; exact HB.out.size⟩; have HI : Aside0 (Lib.IsBuilderF 56 5 w.heap.size gb (Lib.byteCells []) w6) := ⟨.inl ⟨GE.out, _, hbox, World.ownsRowF_nil _ _ _ _, by simp [Value.ownBlock]⟩⟩; have GL2 : Aside0 (gb < w6.heap.size) := ⟨blk_lt hbox⟩; replace HB := Aside0.mk (below_step HB.out hb); clear hb hbox hg))
 go_loopg [16, 7, 8] l0.length (fun kq v16 _ _ w' => ∃ (i : Nat) (acc : List UInt8), v16 = .int .i64 (i : Int) ∧ i ≤ l0.length ∧ Aside0 (kq = l0.length - i) ∧ Aside0 (acc = (l0.take i).flatMap sign_Print.one) ∧ Aside0 (acc.length ≤ 100 * i ∧ i ≤ 64) ∧ Aside0 (Lib.IsBuilderF 56 5 w.heap.size gb (Lib.byteCells acc) w') ∧ Aside0 (gb < w'.heap.size) ∧ Aside0 (Below w.heap.size w w'))
 case atStart => exact ⟨0, [], rfl, Nat.zero_le _, ⟨rfl⟩, ⟨rfl⟩, ⟨by simp, by omega⟩, HI, GL2, HB⟩
 case round =>
  clear HI HB GL2
  obtain ⟨i, acc, rfl, hi, HK1, HA, HAL, HI, GL2, HB⟩ := hrel
  by_cases hlt : i < l0.length
  ·have hm := HALL.out i hlt
   have HS1 : Aside0 ((rd_T39 l0 (i : Int)).f0.size ≤ 64 ∧ (sign_Print.kind (rd_T39 l0 (i : Int)).f1).size ≤ 9) := ⟨sign_may.short hm, sign_Print.kind_le _⟩
   obtain ⟨hb1, hb2, hb3⟩ := sign_may.bounds hm
   have HS2 : Aside0 ((⟨(Lib.itoa (rd_T39 l0 (i : Int)).f2).toArray⟩ : ByteArray).size ≤ 21 ∧ (⟨#[10]⟩ : ByteArray).size = 1) := ⟨by show (Lib.itoa (rd_T39 l0 (i : Int)).f2).toArray.size ≤ 21; rw [List.size_toArray]; exact sign_Print.itoa_le _ (by omega) hb3, rfl⟩
   have N0 : Aside0 (-9223372036854775808 ≤ (rd_T39 l0 (i : Int)).f2) := ⟨by omega⟩
   have N1 : Aside0 ((rd_T39 l0 (i : Int)).f2 ≤ 9223372036854775807) := ⟨by omega⟩
   have HLE := Aside0.mk (sign_Print.one_le _ hm)
   have HT := Aside0.mk (sign_Print.take l0 i hlt)
   clear hm hb1 hb2 hb3
   obtain ⟨ad, e0, hx0, hx1, hx2⟩ := at_T39 HR0.out (i : Int) (by omega) (by omega)
   cases e0
   replace hx0 := (HB.out.cell (World.block_lt_of_cell? w _ hx0)).trans hx0
   replace hx1 := (HB.out.cell (World.block_lt_of_cell? w _ hx1)).trans hx1
   replace hx2 := (HB.out.cell (World.block_lt_of_cell? w _ hx2)).trans hx2
   rw [Int.toNat_natCast] at hx0 hx1 hx2
   obtain ⟨s, hs⟩ : ∃ s : ByteArray, s = ⟨(Lib.itoa (rd_T39 l0 (i : Int)).f2).toArray⟩ := ⟨_, rfl⟩
   rw [← hs] at HS2
   have HSS := Aside0.mk hs
   clear hs
   go_upto_region 8 with (first | ((with_reducible refine gate_dst (N := 7) rfl ?_); refine box_event ?hg (N := 7) ?hd (cs := #[.string (⟨#[]⟩ : ByteArray), .int .i64 0, .int .i64 0]) (t := 39) ?hr ?_; (case hd => rfl); (case hg => rfl); (case hr => first | (go_simp; done) | (go_simp; rfl)); intro gp hg w7 hbox hb; have BP := Aside0.mk hbox; have GX : Aside0 (wr.heap.size ≤ gp) := ⟨by rw [hg]; exact Nat.le_refl _⟩; have HX := Aside0.mk hb; clear hb hbox hg; obtain ⟨hpz0, hpz1, hpz2, hpf0, hpf1, hpf2⟩ := blk3 BP.out))
   refine wp_named_ (fun W => W.heap[gp]? = some (.cells #[.string (rd_T39 l0 (i : Int)).f0, .int .i64 (rd_T39 l0 (i : Int)).f1, .int .i64 (rd_T39 l0 (i : Int)).f2] 39 (0, 0)) ∧ Below wr.heap.size wr W) ⟨by refine blk_put (cs := #[.string (rd_T39 l0 (i : Int)).f0, .int .i64 (rd_T39 l0 (i : Int)).f1, .int .i64 0]) ?_ 2 _ rfl; refine blk_put (cs := #[.string (rd_T39 l0 (i : Int)).f0, .int .i64 0, .int .i64 0]) ?_ 1 _ rfl; refine blk_put (cs := #[.string (⟨#[]⟩ : ByteArray), .int .i64 0, .int .i64 0]) ?_ 0 _ rfl; exact BP.out, below_set (below_set (below_set HX.out GX.out) GX.out) GX.out⟩ ?_
   clear hpz0 hpz1 hpz2 hpf0 hpf1 hpf2 hx0 hx1 hx2 HX
   rintro w8 ⟨hp, hb⟩
   obtain ⟨hpz0, hpz1, hpz2, hpf0, hpf1, hpf2⟩ := blk3 hp
   have NP : Aside0 (gp ≠ gb) := ⟨fun e_ => by have h1 := GX.out; have h2 := GL2.out; omega⟩
   replace BP := Aside0.mk hp
   replace HI := Aside0.mk (sign_Print.isb_below HI.out hb)
   replace HB := Aside0.mk (below_step HB.out hb)
   replace GL2 : Aside0 (gb < w8.heap.size) := ⟨Nat.lt_of_lt_of_le GL2.out hb.size⟩
   clear hp hb
   obtain ⟨kb, hkb⟩ : ∃ kb, kb = sign_Print.kind (rd_T39 l0 (i : Int)).f1 := ⟨_, rfl⟩
   rw [← hkb] at HS1
   have HKB := Aside0.mk hkb
   by_cases hk2 : (rd_T39 l0 (i : Int)).f1 = 2
   ·have f1 : ((rd_T39 l0 (i : Int)).f1 == 2) = true := beq_iff_eq.mpr hk2
    have f2 : decide ((rd_T39 l0 (i : Int)).f1 = 2) = true := decide_eq_true hk2
    obtain rfl : kb = ⟨#[32, 99, 111, 109, 112, 108, 101, 120, 32]⟩ := by rw [hkb, sign_Print.kind, if_pos hk2]
    clear hk2 hkb
    have z1 : (rd_T39 l0 (i : Int)).f0.size + 9 ≤ 9223372036854775807 := by have := HS1.out.1; omega
    have z2 : ((rd_T39 l0 (i : Int)).f0 ++ (⟨#[32, 99, 111, 109, 112, 108, 101, 120, 32]⟩ : ByteArray)).size + s.size ≤ 9223372036854775807 := by have h1 := HS1.out; have h2 := HS2.out.1; rw [ByteArray.size_append]; omega
    have z3 : (((rd_T39 l0 (i : Int)).f0 ++ (⟨#[32, 99, 111, 109, 112, 108, 101, 120, 32]⟩ : ByteArray)) ++ s).size + 1 ≤ 9223372036854775807 := by have h1 := HS1.out; have h2 := HS2.out.1; rw [ByteArray.size_append, ByteArray.size_append]; omega
    have z1b : decide ((rd_T39 l0 (i : Int)).f0.size + 9 ≤ 9223372036854775807) = true := decide_eq_true z1
    have z2b : decide (((rd_T39 l0 (i : Int)).f0 ++ (⟨#[32, 99, 111, 109, 112, 108, 101, 120, 32]⟩ : ByteArray)).size + s.size ≤ 9223372036854775807) = true := decide_eq_true z2
    have z3b : decide ((((rd_T39 l0 (i : Int)).f0 ++ (⟨#[32, 99, 111, 109, 112, 108, 101, 120, 32]⟩ : ByteArray)) ++ s).size + 1 ≤ 9223372036854775807) = true := decide_eq_true z3
    replace z1 : (9223372036854775807 < (rd_T39 l0 (i : Int)).f0.size + 9) = False := eq_false (Nat.not_lt.2 z1)
    replace z2 : (9223372036854775807 < ((rd_T39 l0 (i : Int)).f0 ++ (⟨#[32, 99, 111, 109, 112, 108, 101, 120, 32]⟩ : ByteArray)).size + s.size) = False := eq_false (Nat.not_lt.2 z2)
    replace z3 : (9223372036854775807 < (((rd_T39 l0 (i : Int)).f0 ++ (⟨#[32, 99, 111, 109, 112, 108, 101, 120, 32]⟩ : ByteArray)) ++ s).size + 1) = False := eq_false (Nat.not_lt.2 z3)
    have z2c : (9223372036854775807 < (rd_T39 l0 (i : Int)).f0.size + 9 + s.size) = False := eq_false (by have h1 := HS1.out; have h2 := HS2.out.1; omega)
    have z3c : (9223372036854775807 < (rd_T39 l0 (i : Int)).f0.size + 9 + s.size + 1) = False := eq_false (by have h1 := HS1.out; have h2 := HS2.out.1; omega)
    go_upto_region 11 with (fail)
    go_region_held3 (fun w' => w'.cell? ⟨gp, 0, none⟩ = some (.string (rd_T39 l0 (i : Int)).f0) ∧ w'.cell? ⟨gp, 2, none⟩ = some (.int .i64 (rd_T39 l0 (i : Int)).f2)) (first | exact ⟨by assumption, by assumption⟩ | go_keep) (first | (go_at_call 29; refine (itoa_calls (rd_T39 l0 (i : Int)).f2 N0.out N1.out _ ?_).mono ?_; exact Glob.below GL_.out (below_drew1 HB.out); rintro e w9 ⟨rfl, hb⟩; rw [← HSS.out]; replace BP := Aside0.mk (blk_below (blk_drew BP.out) hb); replace HI := Aside0.mk (sign_Print.isb_below (sign_Print.isb_drew HI.out) hb); replace HB := Aside0.mk (below_step (below_drew1 HB.out) hb); clear hb hpz0 hpz1 hpz2 hpf0 hpf1 hpf2; obtain ⟨hpz0, hpz1, hpz2, hpf0, hpf1, hpf2⟩ := blk3 BP.out) | (go_at_call 28; refine (Tryd.Builder_WriteString_k w.heap.size gb (Lib.byteCells acc) _ _ HI.out ?_ HB.out.size).mono ?_; exact sign_Print.room HAL.out HS1.out HS2.out; rintro e w10 ⟨rfl, hwb, hb, hok⟩; replace BP := Aside0.mk (hok gp _ BP.out (fun e_ => NP.out (Option.some.inj e_)) (fun c fz e_ => by injection e_ with _ e_ _; exact absurd e_ (by decide))); have HI2 := Aside0.mk hwb; replace HB := Aside0.mk (HB.out.trans hb); clear hb hok hwb hpz0 hpz1 hpz2 hpf0 hpf1 hpf2; obtain ⟨hpz0, hpz1, hpz2, hpf0, hpf1, hpf2⟩ := blk3 BP.out))
    have HN : Aside0 (acc ++ sign_Print.one (rd_T39 l0 (i : Int)) = (l0.take (i + 1)).flatMap sign_Print.one) := ⟨by rw [HT.out, ← HA.out]⟩
    have hone : sign_Print.one (rd_T39 l0 (i : Int)) = (rd_T39 l0 (i : Int)).f0.data.toList ++ (⟨#[32, 99, 111, 109, 112, 108, 101, 120, 32]⟩ : ByteArray).data.toList ++ s.data.toList ++ (⟨#[10]⟩ : ByteArray).data.toList := by rw [sign_Print.one, ← HKB.out, HSS.out]
    have HI3 : Aside0 (Lib.IsBuilderF 56 5 w.heap.size gb (Lib.byteCells (acc ++ sign_Print.one (rd_T39 l0 (i : Int)))) w10) := ⟨.inr (by rw [hone, ← sign_Print.snoc]; exact HI2.out)⟩
    have GL3 : Aside0 (gb < w10.heap.size) := ⟨HI2.out.lt⟩
    clear hone HI2 HI z1 z2 z3 z1b z2b z3b z2c z3c hpz0 hpz1 hpz2 hpf0 hpf1 hpf2
    have hl64 := HLEN.out
    go_wp2
    go_roundg (l0.length - (i + 1))
    case measure => have := HK1.out; omega
    case rel => exact ⟨i + 1, acc ++ sign_Print.one (rd_T39 l0 (i : Int)), by go_num, by omega, ⟨rfl⟩, HN, ⟨by have h1 := HAL.out.1; have h2 := HLE.out; have h3 := HLEN.out; rw [List.length_append]; omega, by have := HLEN.out; omega⟩, HI3, GL3, HB⟩
   ·have f1 : ((rd_T39 l0 (i : Int)).f1 == 2) = false := beq_eq_false_iff_ne.mpr hk2
    have f2 : decide ((rd_T39 l0 (i : Int)).f1 = 2) = false := decide_eq_false hk2
    obtain rfl : kb = ⟨#[32, 114, 101, 97, 108, 32]⟩ := by rw [hkb, sign_Print.kind, if_neg hk2]
    clear hk2 hkb
    have z1 : (rd_T39 l0 (i : Int)).f0.size + 6 ≤ 9223372036854775807 := by have := HS1.out.1; omega
    have z2 : ((rd_T39 l0 (i : Int)).f0 ++ (⟨#[32, 114, 101, 97, 108, 32]⟩ : ByteArray)).size + s.size ≤ 9223372036854775807 := by have h1 := HS1.out; have h2 := HS2.out.1; rw [ByteArray.size_append]; omega
    have z3 : (((rd_T39 l0 (i : Int)).f0 ++ (⟨#[32, 114, 101, 97, 108, 32]⟩ : ByteArray)) ++ s).size + 1 ≤ 9223372036854775807 := by have h1 := HS1.out; have h2 := HS2.out.1; rw [ByteArray.size_append, ByteArray.size_append]; omega
    have z1b : decide ((rd_T39 l0 (i : Int)).f0.size + 6 ≤ 9223372036854775807) = true := decide_eq_true z1
    have z2b : decide (((rd_T39 l0 (i : Int)).f0 ++ (⟨#[32, 114, 101, 97, 108, 32]⟩ : ByteArray)).size + s.size ≤ 9223372036854775807) = true := decide_eq_true z2
    have z3b : decide ((((rd_T39 l0 (i : Int)).f0 ++ (⟨#[32, 114, 101, 97, 108, 32]⟩ : ByteArray)) ++ s).size + 1 ≤ 9223372036854775807) = true := decide_eq_true z3
    replace z1 : (9223372036854775807 < (rd_T39 l0 (i : Int)).f0.size + 6) = False := eq_false (Nat.not_lt.2 z1)
    replace z2 : (9223372036854775807 < ((rd_T39 l0 (i : Int)).f0 ++ (⟨#[32, 114, 101, 97, 108, 32]⟩ : ByteArray)).size + s.size) = False := eq_false (Nat.not_lt.2 z2)
    replace z3 : (9223372036854775807 < (((rd_T39 l0 (i : Int)).f0 ++ (⟨#[32, 114, 101, 97, 108, 32]⟩ : ByteArray)) ++ s).size + 1) = False := eq_false (Nat.not_lt.2 z3)
    have z2c : (9223372036854775807 < (rd_T39 l0 (i : Int)).f0.size + 6 + s.size) = False := eq_false (by have h1 := HS1.out; have h2 := HS2.out.1; omega)
    have z3c : (9223372036854775807 < (rd_T39 l0 (i : Int)).f0.size + 6 + s.size + 1) = False := eq_false (by have h1 := HS1.out; have h2 := HS2.out.1; omega)
    go_upto_region 11 with (fail)
    go_region_held3 (fun w' => w'.cell? ⟨gp, 0, none⟩ = some (.string (rd_T39 l0 (i : Int)).f0) ∧ w'.cell? ⟨gp, 2, none⟩ = some (.int .i64 (rd_T39 l0 (i : Int)).f2)) (first | exact ⟨by assumption, by assumption⟩ | go_keep) (first | (go_at_call 29; refine (itoa_calls (rd_T39 l0 (i : Int)).f2 N0.out N1.out _ ?_).mono ?_; exact Glob.below GL_.out (below_drew1 HB.out); rintro e w9 ⟨rfl, hb⟩; rw [← HSS.out]; replace BP := Aside0.mk (blk_below (blk_drew BP.out) hb); replace HI := Aside0.mk (sign_Print.isb_below (sign_Print.isb_drew HI.out) hb); replace HB := Aside0.mk (below_step (below_drew1 HB.out) hb); clear hb hpz0 hpz1 hpz2 hpf0 hpf1 hpf2; obtain ⟨hpz0, hpz1, hpz2, hpf0, hpf1, hpf2⟩ := blk3 BP.out) | (go_at_call 28; refine (Tryd.Builder_WriteString_k w.heap.size gb (Lib.byteCells acc) _ _ HI.out ?_ HB.out.size).mono ?_; exact sign_Print.room HAL.out HS1.out HS2.out; rintro e w10 ⟨rfl, hwb, hb, hok⟩; replace BP := Aside0.mk (hok gp _ BP.out (fun e_ => NP.out (Option.some.inj e_)) (fun c fz e_ => by injection e_ with _ e_ _; exact absurd e_ (by decide))); have HI2 := Aside0.mk hwb; replace HB := Aside0.mk (HB.out.trans hb); clear hb hok hwb hpz0 hpz1 hpz2 hpf0 hpf1 hpf2; obtain ⟨hpz0, hpz1, hpz2, hpf0, hpf1, hpf2⟩ := blk3 BP.out))
    have HN : Aside0 (acc ++ sign_Print.one (rd_T39 l0 (i : Int)) = (l0.take (i + 1)).flatMap sign_Print.one) := ⟨by rw [HT.out, ← HA.out]⟩
    have hone : sign_Print.one (rd_T39 l0 (i : Int)) = (rd_T39 l0 (i : Int)).f0.data.toList ++ (⟨#[32, 114, 101, 97, 108, 32]⟩ : ByteArray).data.toList ++ s.data.toList ++ (⟨#[10]⟩ : ByteArray).data.toList := by rw [sign_Print.one, ← HKB.out, HSS.out]
    have HI3 : Aside0 (Lib.IsBuilderF 56 5 w.heap.size gb (Lib.byteCells (acc ++ sign_Print.one (rd_T39 l0 (i : Int)))) w10) := ⟨.inr (by rw [hone, ← sign_Print.snoc]; exact HI2.out)⟩
    have GL3 : Aside0 (gb < w10.heap.size) := ⟨HI2.out.lt⟩
    clear hone HI2 HI z1 z2 z3 z1b z2b z3b z2c z3c hpz0 hpz1 hpz2 hpf0 hpf1 hpf2
    have hl64 := HLEN.out
    go_wp2
    go_roundg (l0.length - (i + 1))
    case measure => have := HK1.out; omega
    case rel => exact ⟨i + 1, acc ++ sign_Print.one (rd_T39 l0 (i : Int)), by go_num, by omega, ⟨rfl⟩, HN, ⟨by have h1 := HAL.out.1; have h2 := HLE.out; have h3 := HLEN.out; rw [List.length_append]; omega, by have := HLEN.out; omega⟩, HI3, GL3, HB⟩
  ·have hin : i = l0.length := by omega
   have HF : Aside0 (acc.toArray = (l0.flatMap sign_Print.one).toArray) := ⟨by rw [HA.out, hin, List.take_length]⟩
   go_wp2_with (first | (go_at_call 30; refine (Tryd.Builder_String_any_k w.heap.size gb acc _ HI.out HB.out.size).mono ?_; rintro e w9 ⟨rfl, _, hb, _⟩; replace HB := Aside0.mk (HB.out.trans hb); clear hb))
   go_ret2
   exact ⟨by rw [HF.out, HE.out]; rfl, HB.out⟩

end Go.Proofs.YtojlooflfojdlaaDoor.Q
