/- Lean functions with the answers of the Go functions that the law reaches, proved to be just these answers. Conditions: those that each theorem names. -/
import Derived.Test.YtojlooflfojdlaaDoorQx0
import Derived.Test.YtojlooflfojdlaaDoorQx5
namespace Go.Proofs.YtojlooflfojdlaaDoor.Q
open Go.RowKit Go.Proofs.YtojlooflfojdlaaDoorW.PrintWords Go.Proofs.YtojlooflfojdlaaDoorW.PrintLast Go.Proofs.YtojlooflfojdlaaDoorW.PrintMore
attribute [local go_sem] max2_int min2_int max_two min_two max_three min_three max_four min_four   -- for this text's walks alone
set_option linter.unusedVariables false
set_option linter.unusedSimpArgs false

/-! ### latheref10_length: function 37 -/
mutual
def latheref10_length.j0 : Nat → ByteArray → Bool → Option (Int × Bool)
 | 0, _, _ => none
 | k + 1, x0, x17 => if x17 = true then (some (0, false)) else (latheref10_length.l0 k x0 0 0)
def latheref10_length.l0 : Nat → ByteArray → Int → Int → Option (Int × Bool)
 | 0, _, _, _ => none
 | k + 1, x0, x4, x5 => if x5 < (x0.size : Int) then (if 0 ≤ x5 then (if (bt x0 x5) < 48 then (some (0, false)) else (if (bt x0 x5) > 57 then (some (0, false)) else (latheref10_length.l0 k x0 (wrap64 ((wrap64 (x4 * 10)) + (((bt x0 x5) - 48) % 256))) (wrap64 (x5 + 1))))) else (none)) else (some (x4, decide (x4 ≤ 4096)))
end
def latheref10_length.f (k : Nat) (a0 : ByteArray) : Option (Int × Bool) := if a0.toList = ([] : List UInt8) then (latheref10_length.j0 k a0 true) else (if (a0.size : Int) > 4 then (latheref10_length.j0 k a0 true) else (if 0 < (a0.size : Int) then (latheref10_length.j0 k a0 ((bt a0 0) == 48)) else (none)))
theorem latheref10_length.mono_l : ∀ k, (∀ y0 y1, LeO (latheref10_length.j0 k y0 y1) (latheref10_length.j0 (k + 1) y0 y1)) ∧ (∀ y0 y1 y2, LeO (latheref10_length.l0 k y0 y1 y2) (latheref10_length.l0 (k + 1) y0 y1 y2))
 | 0 => ⟨fun _ _ r h => by simp [latheref10_length.j0] at h, fun _ _ _ r h => by simp [latheref10_length.l0] at h⟩
 | k + 1 => by
  obtain ⟨ih0, ih1⟩ := latheref10_length.mono_l k
  refine ⟨?_, ?_⟩
  ·intro y0 y1
   unfold latheref10_length.j0
   repeat' first
   | (with_reducible exact ih0 _ _)
   | (with_reducible exact ih1 _ _ _)
   | (with_reducible exact LeO.refl _)
   | (with_reducible exact LeO.none _)
   | (with_reducible refine LeO.ite ?_ ?_)
   | (with_reducible refine LeO.bind ?_ (fun _ => ?_))
   | exact LeO.none _
   | refine LeO.ite ?_ ?_
   | refine LeO.bind ?_ (fun _ => ?_)
  ·intro y0 y1 y2
   unfold latheref10_length.l0
   repeat' first
   | (with_reducible exact ih0 _ _)
   | (with_reducible exact ih1 _ _ _)
   | (with_reducible exact LeO.refl _)
   | (with_reducible exact LeO.none _)
   | (with_reducible refine LeO.ite ?_ ?_)
   | (with_reducible refine LeO.bind ?_ (fun _ => ?_))
   | exact LeO.none _
   | refine LeO.ite ?_ ?_
   | refine LeO.bind ?_ (fun _ => ?_)
theorem latheref10_length.mono : ∀ a0 k, LeO (latheref10_length.f k a0) (latheref10_length.f (k + 1) a0) := by
 intro a0 k
 obtain ⟨ih0, ih1⟩ := latheref10_length.mono_l k
 unfold latheref10_length.f
 repeat' first
   | (with_reducible exact ih0 _ _)
   | (with_reducible exact ih1 _ _ _)
   | (with_reducible exact LeO.refl _)
   | (with_reducible exact LeO.none _)
   | (with_reducible refine LeO.ite ?_ ?_)
   | (with_reducible refine LeO.bind ?_ (fun _ => ?_))
   | exact LeO.none _
   | refine LeO.ite ?_ ?_
   | refine LeO.bind ?_ (fun _ => ?_)
set_option maxHeartbeats 8000000 in
set_option maxRecDepth 100000 in
theorem latheref10_length.calls (k : Nat) (a0 : ByteArray) (r1 : Int) (r2 : Bool) (w : World) (h : latheref10_length.f k a0 = some (r1, r2)) :
  Calls Tryd.prog 37 #[.string a0] w fun e w' => e = .returned (.tuple #[.int .i64 r1, .bool r2]) ∧ Drawn0 w w' := by
 have H : (if a0.toList = ([] : List UInt8) then (latheref10_length.j0 k a0 true) else (if (a0.size : Int) > 4 then (latheref10_length.j0 k a0 true) else (if 0 < (a0.size : Int) then (latheref10_length.j0 k a0 ((bt a0 0) == 48)) else (none)))) = some (r1, r2) := h
 clear h
 have HC2 := Aside0.mk H
 clear H
 go_enter Tryd.func37, Tryd.ntmps37
 go_upto_region 1 with (fail)
 go_cut [17] (fun v17 wc => ∃ (kq : Nat) (x17_1 : Bool), v17 = .bool x17_1 ∧ Aside0 (latheref10_length.j0 kq a0 x17_1 = some (r1, r2)) ∧ Aside0 (kq ≤ k) ∧ Drawn0 w wc)
 case first =>
  have H := HC2.out
  clear HC2
  by_cases c3 : a0.toList = ([] : List UInt8)
  ·rw [if_pos c3] at H
   have c3b0 : (a0.toList == ([] : List UInt8)) = true := beq_iff_eq.mpr c3
   have c3b1 : (a0.toList != ([] : List UInt8)) = false := bne_eq_false_iff_eq.mpr c3
   clear c3
   (first | rw [c3b0] | (simp only [i64_w, i32_w]; rw [c3b0]) | skip)
   have H' := Aside0.mk H
   clear H
   go_wp2
   go_meet
   case rel => exact ⟨_, (true), (by first | rfl | (simp; done) | (simp [*]; done) | (simp; exact (fun l : List UInt8 => (by cases l <;> rfl : l.isEmpty = !(l != []))) _)), H', ⟨by first | omega | exact Nat.le_refl _⟩, by repeat (first | exact Drawn0.refl _ | apply Drawn0.step)⟩
  ·rw [if_neg c3] at H
   have c3b0 : (a0.toList == ([] : List UInt8)) = false := beq_eq_false_iff_ne.mpr c3
   have c3b1 : (a0.toList != ([] : List UInt8)) = true := bne_iff_ne.mpr c3
   (first | rw [c3b0] | (simp only [i64_w, i32_w]; rw [c3b0]) | skip)
   by_cases c4 : (a0.size : Int) > 4
   ·rw [if_pos c4] at H
    have c4b0 : decide (4 < (a0.size : Int)) = true := decide_eq_true c4
    have c4b1 : decide (4 < a0.size) = true := decide_eq_true (by omega)
    clear c4
    have H' := Aside0.mk H
    clear H
    go_wp2
    go_meet
    case rel => exact ⟨_, (true), (by first | rfl | (simp; done) | (simp [*]; done) | (simp; exact (fun l : List UInt8 => (by cases l <;> rfl : l.isEmpty = !(l != []))) _)), H', ⟨by first | omega | exact Nat.le_refl _⟩, by repeat (first | exact Drawn0.refl _ | apply Drawn0.step)⟩
   ·rw [if_neg c4] at H
    have c4b0 : decide (4 < (a0.size : Int)) = false := decide_eq_false c4
    have c4b1 : decide (4 < a0.size) = false := decide_eq_false (by omega)
    clear c4
    by_cases c5 : 0 < (a0.size : Int)
    case neg => rw [if_neg c5] at H; exact absurd H (by simp)
    rw [if_pos c5] at H
    have c5b0 : decide (0 < (a0.size : Int)) = true := decide_eq_true c5
    have c5b1 : decide (0 < a0.size) = true := decide_eq_true (by omega)
    clear c5
    have H' := Aside0.mk H
    clear H
    have p6 : 0 ≤ (0 : Int) := (by omega)
    have q6 : 0 < a0.size := (by have : (0 : Int) < (a0.size : Int) := of_decide_eq_true (by first | (with_reducible assumption) | assumption); omega)
    have hx6 : ∀ h : 0 < a0.size, ((a0[0]'h).toNat : Int) = bt a0 0 := bt_at a0 0
    clear p6
    have qi6 : (0 < (a0.size : Int)) = True := eq_true (of_decide_eq_true (by first | (with_reducible assumption) | assumption))
    replace q6 := eq_true q6
    go_wp2
    go_meet
    case rel => exact ⟨_, (((bt a0 0) == 48)), (by first | rfl | (simp; done) | (simp [*]; done) | (simp; exact (fun l : List UInt8 => (by cases l <;> rfl : l.isEmpty = !(l != []))) _)), H', ⟨by first | omega | exact Nat.le_refl _⟩, by repeat (first | exact Drawn0.refl _ | apply Drawn0.step)⟩
 case rest =>
  clear HC2
  try clear p2
  try clear c3
  try clear c3b0
  try clear c3b1
  try clear c4
  try clear c4b0
  try clear c4b1
  try clear c5
  try clear c5b0
  try clear c5b1
  try clear p6
  try clear q6
  try clear hx6
  try clear qi6
  try clear p6
  try clear q6
  obtain ⟨kq, x17_1, rfl, HA, HJ1, ⟨mc1, rfl⟩⟩ := hcut
  cases kq with
  | zero => exact absurd HA.out (by simp [latheref10_length.j0])
  | succ kj1 =>
   have H := HA.out
   clear HA
   simp only [latheref10_length.j0] at H
   by_cases c7 : x17_1 = true
   ·subst c7
    have H1 : (some (0, false)) = some (r1, r2) := by rw [if_pos rfl] at H; exact H
    clear H
    have H := H1
    clear H1
    simp only [Option.some.injEq, Prod.mk.injEq] at H
    obtain ⟨rfl, rfl⟩ := H
    go_wp2
    go_ret2
    exact ⟨by first | rfl | (simp; done) | (simp [*]; done) | (simp; exact (fun l : List UInt8 => (by cases l <;> rfl : l.isEmpty = !(l != []))) _), by repeat (first | exact Drawn0.refl _ | apply Drawn0.step)⟩
   ·replace c7 := Bool.eq_false_iff.mpr c7
    subst c7
    have H1 : (latheref10_length.l0 kj1 a0 0 0) = some (r1, r2) := by rw [if_neg (show ¬ (false = true) by decide)] at H; exact H
    clear H
    have H := H1
    clear H1
    have H' := Aside0.mk H
    clear H
    go_wp2
    go_loopg [4, 5] kj1 (fun kq v4 v5 w' => ∃ (x4_2 : Int) (x5_2 : Int), v4 = .int .i64 x4_2 ∧ v5 = .int .i64 x5_2 ∧ Aside0 (latheref10_length.l0 kq a0 x4_2 x5_2 = some (r1, r2)) ∧ Aside0 (kq ≤ kj1) ∧ Drawn0 w w')
    case atStart => exact ⟨(0), (0), (by first | rfl | (simp; done) | (simp [*]; done) | (simp; exact (fun l : List UInt8 => (by cases l <;> rfl : l.isEmpty = !(l != []))) _)), (by first | rfl | (simp; done) | (simp [*]; done) | (simp; exact (fun l : List UInt8 => (by cases l <;> rfl : l.isEmpty = !(l != []))) _)), H', ⟨Nat.le_refl _⟩, by repeat (first | exact Drawn0.refl _ | apply Drawn0.step)⟩
    case round =>
     clear H'
     try clear c1
     try clear p2
     try clear c3
     try clear c3b0
     try clear c3b1
     try clear c4
     try clear c4b0
     try clear c4b1
     try clear c5
     try clear c5b0
     try clear c5b1
     try clear p6
     try clear q6
     try clear hx6
     try clear qi6
     try clear c7
     try clear p2
     try clear p6
     try clear q6
     obtain ⟨x4_2, x5_2, rfl, rfl, HA, HK2, ⟨m2, rfl⟩⟩ := hrel
     cases gk with
     | zero => exact absurd HA.out (by simp [latheref10_length.l0])
     | succ k2 =>
      have H := HA.out
      clear HA
      simp only [latheref10_length.l0] at H
      by_cases c8 : x5_2 < (a0.size : Int)
      ·rw [if_pos c8] at H
       have c8b0 : decide (x5_2 < (a0.size : Int)) = true := decide_eq_true c8
       clear c8
       by_cases c9 : 0 ≤ x5_2
       case neg => rw [if_neg c9] at H; exact absurd H (by simp)
       rw [if_pos c9] at H
       have c9b0 : decide (0 ≤ x5_2) = true := decide_eq_true c9
       clear c9
       by_cases c11 : (bt a0 x5_2) < 48
       ·rw [if_pos c11] at H
        have c11b0 : decide ((bt a0 x5_2) < 48) = true := decide_eq_true c11
        clear c11
        simp only [Option.some.injEq, Prod.mk.injEq] at H
        obtain ⟨rfl, rfl⟩ := H
        have p10 : 0 ≤ (x5_2 : Int) := of_decide_eq_true (by first | (with_reducible assumption) | assumption)
        have q10 : x5_2 < (a0.size : Int) := of_decide_eq_true (by first | (with_reducible assumption) | assumption)
        have hx10 := bt_at a0 x5_2
        replace p10 := eq_true p10
        replace q10 := eq_true q10
        go_wp2
        go_ret2
        exact ⟨by first | rfl | (simp; done) | (simp [*]; done) | (simp; exact (fun l : List UInt8 => (by cases l <;> rfl : l.isEmpty = !(l != []))) _), by repeat (first | exact Drawn0.refl _ | apply Drawn0.step)⟩
       ·rw [if_neg c11] at H
        have c11b0 : decide ((bt a0 x5_2) < 48) = false := decide_eq_false c11
        clear c11
        by_cases c13 : (bt a0 x5_2) > 57
        ·rw [if_pos c13] at H
         have c13b0 : decide (57 < (bt a0 x5_2)) = true := decide_eq_true c13
         clear c13
         simp only [Option.some.injEq, Prod.mk.injEq] at H
         obtain ⟨rfl, rfl⟩ := H
         have p10 : 0 ≤ (x5_2 : Int) := of_decide_eq_true (by first | (with_reducible assumption) | assumption)
         have q10 : x5_2 < (a0.size : Int) := of_decide_eq_true (by first | (with_reducible assumption) | assumption)
         have hx10 := bt_at a0 x5_2
         replace p10 := eq_true p10
         replace q10 := eq_true q10
         have p12 : 0 ≤ (x5_2 : Int) := of_decide_eq_true (by first | (with_reducible assumption) | assumption)
         have q12 : x5_2 < (a0.size : Int) := of_decide_eq_true (by first | (with_reducible assumption) | assumption)
         have hx12 := bt_at a0 x5_2
         replace p12 := eq_true p12
         replace q12 := eq_true q12
         go_wp2
         go_ret2
         exact ⟨by first | rfl | (simp; done) | (simp [*]; done) | (simp; exact (fun l : List UInt8 => (by cases l <;> rfl : l.isEmpty = !(l != []))) _), by repeat (first | exact Drawn0.refl _ | apply Drawn0.step)⟩
        ·rw [if_neg c13] at H
         have c13b0 : decide (57 < (bt a0 x5_2)) = false := decide_eq_false c13
         clear c13
         have H' := Aside0.mk H
         clear H
         have p10 : 0 ≤ (x5_2 : Int) := of_decide_eq_true (by first | (with_reducible assumption) | assumption)
         have q10 : x5_2 < (a0.size : Int) := of_decide_eq_true (by first | (with_reducible assumption) | assumption)
         have hx10 := bt_at a0 x5_2
         replace p10 := eq_true p10
         replace q10 := eq_true q10
         have p12 : 0 ≤ (x5_2 : Int) := of_decide_eq_true (by first | (with_reducible assumption) | assumption)
         have q12 : x5_2 < (a0.size : Int) := of_decide_eq_true (by first | (with_reducible assumption) | assumption)
         have hx12 := bt_at a0 x5_2
         replace p12 := eq_true p12
         replace q12 := eq_true q12
         have p14 : 0 ≤ (x5_2 : Int) := of_decide_eq_true (by first | (with_reducible assumption) | assumption)
         have q14 : x5_2 < (a0.size : Int) := of_decide_eq_true (by first | (with_reducible assumption) | assumption)
         have hx14 := bt_at a0 x5_2
         replace p14 := eq_true p14
         replace q14 := eq_true q14
         go_wp2
         go_roundg k2
         case measure => have := HJ1.out; have := HK2.out; omega
         case rel => exact ⟨(wrap64 ((wrap64 (x4_2 * 10)) + (((bt a0 x5_2) - 48) % 256))), (wrap64 (x5_2 + 1)), (by first | rfl | (simp; done) | (simp [*]; done) | (simp; exact (fun l : List UInt8 => (by cases l <;> rfl : l.isEmpty = !(l != []))) _)), (by first | rfl | (simp; done) | (simp [*]; done) | (simp; exact (fun l : List UInt8 => (by cases l <;> rfl : l.isEmpty = !(l != []))) _)), H', ⟨by have := HJ1.out; have := HK2.out; omega⟩, by repeat (first | exact Drawn0.refl _ | apply Drawn0.step)⟩
      ·rw [if_neg c8] at H
       have c8b0 : decide (x5_2 < (a0.size : Int)) = false := decide_eq_false c8
       clear c8
       simp only [Option.some.injEq, Prod.mk.injEq] at H
       obtain ⟨rfl, rfl⟩ := H
       go_wp2
       go_ret2
       exact ⟨by first | rfl | (simp; done) | (simp [*]; done) | (simp; exact (fun l : List UInt8 => (by cases l <;> rfl : l.isEmpty = !(l != []))) _), by repeat (first | exact Drawn0.refl _ | apply Drawn0.step)⟩

/-! ### latheref10_Line: function 27 -/
def latheref10_Line.z : ByteArray × Int × Int × Bool := (⟨#[]⟩, 0, 0, false)
def latheref10_Line.t (k : Nat) (x z : ByteArray) (kind : Int) : Option (ByteArray × Int × Int × Bool) := (latheref10_length.f k z).bind fun n => if n.2 = true then ((latheref10_May.f k x kind n.1).bind fun b => if b = true then some (x, kind, n.1, true) else some latheref10_Line.z) else some latheref10_Line.z
def latheref10_Line.g (k : Nat) : List ByteArray → Option (ByteArray × Int × Int × Bool)
 | [x, y, z] => if y.toList = ([114, 101, 97, 108] : List UInt8) then latheref10_Line.t k x z 1 else if y.toList = ([99, 111, 109, 112, 108, 101, 120] : List UInt8) then latheref10_Line.t k x z 2 else some latheref10_Line.z
 | _ => some latheref10_Line.z
def latheref10_Line.f (k : Nat) (a0 : ByteArray) : Option (ByteArray × Int × Int × Bool) := (latheref10_words.f k a0).bind (latheref10_Line.g k)
theorem latheref10_Line.mono_t (k : Nat) (x z : ByteArray) (kind : Int) : LeO (latheref10_Line.t k x z kind) (latheref10_Line.t (k + 1) x z kind) := LeO.bind (latheref10_length.mono _ _) (fun _ => LeO.ite (LeO.bind (latheref10_May.mono _ _ _ _) (fun _ => LeO.refl _)) (LeO.refl _))
theorem latheref10_Line.mono_g (k : Nat) (l : List ByteArray) : LeO (latheref10_Line.g k l) (latheref10_Line.g (k + 1) l) := by
 match l with
 | [] => exact LeO.refl _
 | [_] => exact LeO.refl _
 | [_, _] => exact LeO.refl _
 | [x, y, z] => exact LeO.ite (latheref10_Line.mono_t _ _ _ _) (LeO.ite (latheref10_Line.mono_t _ _ _ _) (LeO.refl _))
 | _ :: _ :: _ :: _ :: _ => exact LeO.refl _
theorem latheref10_Line.mono : ∀ a0 k, LeO (latheref10_Line.f k a0) (latheref10_Line.f (k + 1) a0) := fun _ k => LeO.bind (latheref10_words.mono _ _) (fun l => latheref10_Line.mono_g k l)
theorem latheref10_Line.row3 {e : Nat} {w : World} {base : Nat} {ok : Nat → Prop} {v : Value} {x y z : ByteArray} (h : Kd.R Kd.string e w base ok v [x, y, z]) : ∃ g cap C, v = .slice (some ⟨g, 0, none⟩) 3 cap ∧ w.heap[g]? = some (.cells C e (0, 0)) ∧ C[0]? = some (.string x) ∧ C[1]? = some (.string y) ∧ C[2]? = some (.string z) := by
 have ho := Kd.own_of_R h
 rcases ho.2 with ⟨_, he⟩ | ⟨g, cap, C, he, _, hb, _, _, _, ht⟩
 ·simp [encs] at he
 ·refine ⟨g, cap, C, he, hb, ?_, ?_, ?_⟩
  ·have := congrArg (fun l => l[0]?) ht; simpa [encs, List.getElem?_take] using this
  ·have := congrArg (fun l => l[1]?) ht; simpa [encs, List.getElem?_take] using this
  ·have := congrArg (fun l => l[2]?) ht; simpa [encs, List.getElem?_take] using this
set_option maxHeartbeats 4000000 in
set_option maxRecDepth 100000 in
theorem latheref10_Line.not3 (k : Nat) (a0 : ByteArray) (l : List ByteArray) (ht : latheref10_words.f k a0 = some l) (h3 : l.length ≠ 3) (w : World) :
  Calls Tryd.prog 27 #[.string a0] w fun e w' => e = .returned (.tuple #[.agg #[.string ⟨#[]⟩, .int .i64 0, .int .i64 0], .bool false]) ∧ Below w.heap.size w w' := by
 have HT := Aside0.mk ht
 have hu39 := Tryd.underlying39
 have c1 : ((l.length : Int) == 3) = false := beq_eq_false_iff_ne.mpr (by omega)
 have c2 : ((l.length : Int) != 3) = true := bne_iff_ne.mpr (by omega)
 have c3 : (l.length == 3) = false := beq_eq_false_iff_ne.mpr h3
 have c4 : (l.length != 3) = true := bne_iff_ne.mpr h3
 clear ht h3
 go_enter Tryd.func27, Tryd.ntmps27
 go_wp2_with (first | ((with_reducible refine gate_dst (N := 2) rfl ?_); refine box_event ?hg (N := 2) ?hd (cs := #[.string (⟨#[]⟩ : ByteArray), .int .i64 0, .int .i64 0]) (t := 39) ?hr ?_; (case hd => rfl); (case hg => rfl); (case hr => first | (go_simp; done) | (go_simp; rfl)); intro gb hg w6 hbox hb; have BK := Aside0.mk (hbox); have GE : Aside0 (w.heap.size ≤ gb) := ⟨by rw [hg]; exact Nat.le_refl _⟩; have HB := Aside0.mk (below_step (Below.refl _ _) hb); clear hb hbox hg; obtain ⟨hcz0, hcz1, hcz2, hfz0, hfz1, hfz2⟩ := blk3 BK.out) | ((with_reducible refine gate_callee (f := 36) rfl ?_); refine goesL_ (some 9) rfl rfl Tryd.func36 (by kernel_rfl) rfl #[.string a0] rfl (by (try simp only [List.map_toArray, List.map_cons, List.map_nil]); first | done | rfl) ?_; (with_reducible refine (latheref10_words.calls k a0 _ _ HT.out).mono ?_); rintro e w7 ⟨v, rfl, hown, hb⟩; refine ⟨_, rfl, ?_⟩; obtain ⟨Av, cv, hv⟩ := Kd.R_slice hown; subst hv; replace BK := Aside0.mk (blk_below BK.out hb); replace HB := Aside0.mk (below_step HB.out hb); clear hb hcz0 hcz1 hcz2 hfz0 hfz1 hfz2 hown; obtain ⟨hcz0, hcz1, hcz2, hfz0, hfz1, hfz2⟩ := blk3 BK.out))
 refine bodyPost_ret (results_ct rfl _ _ gb 39 #[.string (⟨#[]⟩ : ByteArray), .int .i64 0, .int .i64 0] (0, 0) _ rfl (by (with_reducible repeat (first | refine blk_drewN ?_ _ | refine blk_drew ?_ | refine blk_alloc ?_ _)); refine blk_put (cs := #[.string (⟨#[]⟩ : ByteArray), .int .i64 0, .int .i64 0]) ?_ 2 _ rfl; refine blk_put (cs := #[.string (⟨#[]⟩ : ByteArray), .int .i64 0, .int .i64 0]) ?_ 1 _ rfl; refine blk_put (cs := #[.string (⟨#[]⟩ : ByteArray), .int .i64 0, .int .i64 0]) ?_ 0 _ rfl; (with_reducible repeat (first | refine blk_drewN ?_ _ | refine blk_drew ?_ | refine blk_alloc ?_ _)); exact BK.out) Tryd.underlying39 rfl (by kernel_rfl)) rfl ?_
 exact ⟨rfl, by repeat (first | (with_reducible first | exact HB.out | apply below_alloc | apply pw_below_drewN | apply below_drew1 | refine below_set ?_ GE.out) | exact HB.out)⟩
set_option maxHeartbeats 4000000 in
set_option maxRecDepth 100000 in
theorem latheref10_Line.notk (k : Nat) (a0 x y z : ByteArray) (ht : latheref10_words.f k a0 = some [x, y, z]) (hy1 : y.toList ≠ ([114, 101, 97, 108] : List UInt8)) (hy2 : y.toList ≠ ([99, 111, 109, 112, 108, 101, 120] : List UInt8)) (w : World) :
  Calls Tryd.prog 27 #[.string a0] w fun e w' => e = .returned (.tuple #[.agg #[.string ⟨#[]⟩, .int .i64 0, .int .i64 0], .bool false]) ∧ Below w.heap.size w w' := by
 have HT := Aside0.mk ht
 have hu39 := Tryd.underlying39
 have r1 : (y.toList == ([114, 101, 97, 108] : List UInt8)) = false := beq_eq_false_iff_ne.mpr hy1
 have r2 : (y.toList != ([114, 101, 97, 108] : List UInt8)) = true := bne_iff_ne.mpr hy1
 have q1 : (y.toList == ([99, 111, 109, 112, 108, 101, 120] : List UInt8)) = false := beq_eq_false_iff_ne.mpr hy2
 have q2 : (y.toList != ([99, 111, 109, 112, 108, 101, 120] : List UInt8)) = true := bne_iff_ne.mpr hy2
 clear ht hy1 hy2
 go_enter Tryd.func27, Tryd.ntmps27
 go_wp2_with (first | ((with_reducible refine gate_dst (N := 2) rfl ?_); refine box_event ?hg (N := 2) ?hd (cs := #[.string (⟨#[]⟩ : ByteArray), .int .i64 0, .int .i64 0]) (t := 39) ?hr ?_; (case hd => rfl); (case hg => rfl); (case hr => first | (go_simp; done) | (go_simp; rfl)); intro gb hg w6 hbox hb; have BK := Aside0.mk (hbox); have GE : Aside0 (w.heap.size ≤ gb) := ⟨by rw [hg]; exact Nat.le_refl _⟩; have HB := Aside0.mk (below_step (Below.refl _ _) hb); clear hb hbox hg; obtain ⟨hcz0, hcz1, hcz2, hfz0, hfz1, hfz2⟩ := blk3 BK.out) | ((with_reducible refine gate_callee (f := 36) rfl ?_); refine goesL_ (some 9) rfl rfl Tryd.func36 (by kernel_rfl) rfl #[.string a0] rfl (by (try simp only [List.map_toArray, List.map_cons, List.map_nil]); first | done | rfl) ?_; (with_reducible refine (latheref10_words.calls k a0 _ _ HT.out).mono ?_); rintro e w7 ⟨v, rfl, hown, hb⟩; refine ⟨_, rfl, ?_⟩; obtain ⟨gr, cv, C, rfl, hrow, hC0, hC1, hC2⟩ := latheref10_Line.row3 hown; have HR := Aside0.mk hrow; have C0 := Aside0.mk hC0; have C1 := Aside0.mk hC1; have C2 := Aside0.mk hC2; replace BK := Aside0.mk (blk_below BK.out hb); replace HB := Aside0.mk (below_step HB.out hb); clear hb hcz0 hcz1 hcz2 hfz0 hfz1 hfz2 hown hrow hC0 hC1 hC2; obtain ⟨hcz0, hcz1, hcz2, hfz0, hfz1, hfz2⟩ := blk3 BK.out; have hr0 : w7.cell? ⟨gr, 0, none⟩ = some (.string x) := (blk_cell HR.out 0).trans C0.out; have hr1 : w7.cell? ⟨gr, 1, none⟩ = some (.string y) := (blk_cell HR.out 1).trans C1.out; have hr2 : w7.cell? ⟨gr, 2, none⟩ = some (.string z) := (blk_cell HR.out 2).trans C2.out))
 refine bodyPost_ret (results_ct rfl _ _ gb 39 #[.string (⟨#[]⟩ : ByteArray), .int .i64 0, .int .i64 0] (0, 0) _ rfl (by (with_reducible repeat (first | refine blk_drewN ?_ _ | refine blk_drew ?_ | refine blk_alloc ?_ _)); refine blk_put (cs := #[.string (⟨#[]⟩ : ByteArray), .int .i64 0, .int .i64 0]) ?_ 2 _ rfl; refine blk_put (cs := #[.string (⟨#[]⟩ : ByteArray), .int .i64 0, .int .i64 0]) ?_ 1 _ rfl; refine blk_put (cs := #[.string (⟨#[]⟩ : ByteArray), .int .i64 0, .int .i64 0]) ?_ 0 _ rfl; (with_reducible repeat (first | refine blk_drewN ?_ _ | refine blk_drew ?_ | refine blk_alloc ?_ _)); exact BK.out) Tryd.underlying39 rfl (by kernel_rfl)) rfl ?_
 exact ⟨rfl, by repeat (first | (with_reducible first | exact HB.out | apply below_alloc | apply pw_below_drewN | apply below_drew1 | refine below_set ?_ GE.out) | exact HB.out)⟩
set_option maxHeartbeats 4000000 in
set_option maxRecDepth 100000 in
theorem latheref10_Line.err (k : Nat) (a0 x y z : ByteArray) (kind n : Int) (ht : latheref10_words.f k a0 = some [x, y, z]) (hy : y.toList = ([114, 101, 97, 108] : List UInt8) ∧ kind = 1 ∨ y.toList = ([99, 111, 109, 112, 108, 101, 120] : List UInt8) ∧ kind = 2) (hn : latheref10_length.f k z = some (n, false)) (w : World) :
  Calls Tryd.prog 27 #[.string a0] w fun e w' => e = .returned (.tuple #[.agg #[.string ⟨#[]⟩, .int .i64 0, .int .i64 0], .bool false]) ∧ Below w.heap.size w w' := by
 have HT := Aside0.mk ht
 have hu39 := Tryd.underlying39
 have HN := Aside0.mk hn
 clear ht hn
 rcases hy with ⟨hy, rfl⟩ | ⟨hy, rfl⟩
 ·have r1 : (y.toList == ([114, 101, 97, 108] : List UInt8)) = true := beq_iff_eq.mpr hy
  have r2 : (y.toList != ([114, 101, 97, 108] : List UInt8)) = false := bne_eq_false_iff_eq.mpr hy
  have q1 : (y.toList == ([99, 111, 109, 112, 108, 101, 120] : List UInt8)) = false := by rw [hy]; rfl
  have q2 : (y.toList != ([99, 111, 109, 112, 108, 101, 120] : List UInt8)) = true := by rw [hy]; rfl
  clear hy
  go_enter Tryd.func27, Tryd.ntmps27
  go_upto_region 4 with (first | ((with_reducible refine gate_dst (N := 2) rfl ?_); refine box_event ?hg (N := 2) ?hd (cs := #[.string (⟨#[]⟩ : ByteArray), .int .i64 0, .int .i64 0]) (t := 39) ?hr ?_; (case hd => rfl); (case hg => rfl); (case hr => first | (go_simp; done) | (go_simp; rfl)); intro gb hg w6 hbox hb; have BK := Aside0.mk (hbox); have GE : Aside0 (w.heap.size ≤ gb) := ⟨by rw [hg]; exact Nat.le_refl _⟩; have HB := Aside0.mk (below_step (Below.refl _ _) hb); clear hb hbox hg; obtain ⟨hcz0, hcz1, hcz2, hfz0, hfz1, hfz2⟩ := blk3 BK.out) | ((with_reducible refine gate_callee (f := 36) rfl ?_); refine goesL_ (some 9) rfl rfl Tryd.func36 (by kernel_rfl) rfl #[.string a0] rfl (by (try simp only [List.map_toArray, List.map_cons, List.map_nil]); first | done | rfl) ?_; (with_reducible refine (latheref10_words.calls k a0 _ _ HT.out).mono ?_); rintro e w7 ⟨v, rfl, hown, hb⟩; refine ⟨_, rfl, ?_⟩; obtain ⟨gr, cv, C, rfl, hrow, hC0, hC1, hC2⟩ := latheref10_Line.row3 hown; have HR := Aside0.mk hrow; have C0 := Aside0.mk hC0; have C1 := Aside0.mk hC1; have C2 := Aside0.mk hC2; replace BK := Aside0.mk (blk_below BK.out hb); replace HB := Aside0.mk (below_step HB.out hb); clear hb hcz0 hcz1 hcz2 hfz0 hfz1 hfz2 hown hrow hC0 hC1 hC2; obtain ⟨hcz0, hcz1, hcz2, hfz0, hfz1, hfz2⟩ := blk3 BK.out; have hr0 : w7.cell? ⟨gr, 0, none⟩ = some (.string x) := (blk_cell HR.out 0).trans C0.out; have hr1 : w7.cell? ⟨gr, 1, none⟩ = some (.string y) := (blk_cell HR.out 1).trans C1.out; have hr2 : w7.cell? ⟨gr, 2, none⟩ = some (.string z) := (blk_cell HR.out 2).trans C2.out))
  have HRL : Aside0 (gr < w7.heap.size) := ⟨blk_lt HR.out⟩
  have HKL : Aside0 (gb < w7.heap.size) := ⟨blk_lt BK.out⟩
  go_upto_region 6 with (first | ((with_reducible refine gate_callee (f := 37) rfl ?_); refine goesL_ (some 30) rfl rfl Tryd.func37 (by kernel_rfl) rfl #[.string z] rfl (by (try simp only [List.map_toArray, List.map_cons, List.map_nil]); first | done | rfl) ?_; (with_reducible refine (latheref10_length.calls k z _ _ _ HN.out).mono ?_); rintro e w8 ⟨rfl, ⟨nd, rfl⟩⟩; refine ⟨_, rfl, ?_⟩; skip) | ((with_reducible refine gate_dst (N := 7) rfl ?_); refine box_event ?hg (N := 7) ?hd (cs := #[.string (⟨#[]⟩ : ByteArray), .int .i64 0, .int .i64 0]) (t := 39) ?hr ?_; (case hd => rfl); (case hg => rfl); (case hr => first | (go_simp; done) | (go_simp; rfl)); intro gp hg w10 hbox hb; have BP := Aside0.mk (hbox); have GP : Aside0 (w.heap.size ≤ gp) := ⟨by rw [hg]; exact (below_size (by repeat (first | (with_reducible first | exact HB.out | apply below_alloc | apply pw_below_drewN | apply below_drew1) | exact HB.out)))⟩; replace BK := Aside0.mk (show w10.heap[gb]? = some (.cells #[.string (⟨#[]⟩ : ByteArray), .int .i64 0, .int .i64 0] 39 (0, 0)) from blk_below (by (with_reducible repeat (first | refine blk_drewN ?_ _ | refine blk_drew ?_ | refine blk_alloc ?_ _)); exact BK.out) hb); replace HR := Aside0.mk (show w10.heap[gr]? = some (.cells C 9 (0, 0)) from blk_below (by (with_reducible repeat (first | refine blk_drewN ?_ _ | refine blk_drew ?_ | refine blk_alloc ?_ _)); exact HR.out) hb); replace HB := Aside0.mk (below_step (by repeat (first | (with_reducible first | exact HB.out | apply below_alloc | apply pw_below_drewN | apply below_drew1 | refine below_set ?_ GE.out) | exact HB.out)) hb); have nrp : Aside0 (gr ≠ gp) := ⟨fun e_ => by have h1 := HRL.out; rw [hg] at e_; have h2 := (show w7.heap.size ≤ gp from by rw [hg]; exact Nat.le_refl _); omega⟩; have NE : Aside0 (gb ≠ gp) := ⟨fun e_ => by have h1 := HKL.out; have h2 := (show w7.heap.size ≤ gp from by rw [hg]; exact Nat.le_refl _); omega⟩; clear hb hbox hg; obtain ⟨hpz0, hpz1, hpz2, hpf0, hpf1, hpf2⟩ := blk3 BP.out))
  refine wp_named_ (fun W => W.heap[gp]? = some (.cells #[.string x, .int .i64 1, .int .i64 n] 39 (0, 0)) ∧ W.heap[gb]? = some (.cells #[.string (⟨#[]⟩ : ByteArray), .int .i64 0, .int .i64 0] 39 (0, 0)) ∧ W.heap[gr]? = some (.cells C 9 (0, 0)) ∧ Below w.heap.size w W) ⟨by refine blk_put (cs := #[.string x, .int .i64 1, .int .i64 0]) ?_ 2 _ rfl; refine blk_put (cs := #[.string x, .int .i64 0, .int .i64 0]) ?_ 1 _ rfl; refine blk_put (cs := #[.string (⟨#[]⟩ : ByteArray), .int .i64 0, .int .i64 0]) ?_ 0 _ rfl; exact BP.out, blk_far_ (blk_far_ (blk_far_ BK.out NE.out _ _) NE.out _ _) NE.out _ _, blk_far_ (blk_far_ (blk_far_ HR.out nrp.out _ _) nrp.out _ _) nrp.out _ _, below_set (below_set (below_set HB.out GP.out) GP.out) GP.out⟩ ?_
  clear hcz0 hcz1 hcz2 hfz0 hfz1 hfz2 hpz0 hpz1 hpz2 hpf0 hpf1 hpf2 hr0 hr1 hr2
  rintro w11 ⟨hp, hk, hr, hb⟩
  obtain ⟨hpz0, hpz1, hpz2, hpf0, hpf1, hpf2⟩ := blk3 hp
  obtain ⟨hcz0, hcz1, hcz2, hfz0, hfz1, hfz2⟩ := blk3 hk
  have hr1 : w11.cell? ⟨gr, 1, none⟩ = some (.string y) := (blk_cell hr 1).trans C1.out
  replace BP := Aside0.mk hp
  replace BK := Aside0.mk hk
  replace HB := Aside0.mk hb
  clear hp hk hr hb HR
  go_upto_region 8 with (fail)
  have nbp : gb ≠ gp := NE.out
  have npb : gp ≠ gb := fun e_ => NE.out e_.symm
  go_wp2
  refine bodyPost_ret (results_ct rfl _ _ gb 39 #[.string (⟨#[]⟩ : ByteArray), .int .i64 0, .int .i64 0] (0, 0) _ rfl (by (with_reducible repeat (first | refine blk_drewN ?_ _ | refine blk_drew ?_ | refine blk_alloc ?_ _)); refine blk_put (cs := #[.string (⟨#[]⟩ : ByteArray), .int .i64 0, .int .i64 0]) ?_ 2 _ rfl; refine blk_put (cs := #[.string (⟨#[]⟩ : ByteArray), .int .i64 0, .int .i64 0]) ?_ 1 _ rfl; refine blk_put (cs := #[.string (⟨#[]⟩ : ByteArray), .int .i64 0, .int .i64 0]) ?_ 0 _ rfl; (with_reducible repeat (first | refine blk_drewN ?_ _ | refine blk_drew ?_ | refine blk_alloc ?_ _)); exact BK.out) Tryd.underlying39 rfl (by kernel_rfl)) rfl ?_
  exact ⟨rfl, by repeat (first | (with_reducible first | exact HB.out | apply below_alloc | apply pw_below_drewN | apply below_drew1 | refine below_set ?_ GE.out) | exact HB.out)⟩
 ·have r1 : (y.toList == ([114, 101, 97, 108] : List UInt8)) = false := by rw [hy]; rfl
  have r2 : (y.toList != ([114, 101, 97, 108] : List UInt8)) = true := by rw [hy]; rfl
  have q1 : (y.toList == ([99, 111, 109, 112, 108, 101, 120] : List UInt8)) = true := beq_iff_eq.mpr hy
  have q2 : (y.toList != ([99, 111, 109, 112, 108, 101, 120] : List UInt8)) = false := bne_eq_false_iff_eq.mpr hy
  clear hy
  go_enter Tryd.func27, Tryd.ntmps27
  go_upto_region 4 with (first | ((with_reducible refine gate_dst (N := 2) rfl ?_); refine box_event ?hg (N := 2) ?hd (cs := #[.string (⟨#[]⟩ : ByteArray), .int .i64 0, .int .i64 0]) (t := 39) ?hr ?_; (case hd => rfl); (case hg => rfl); (case hr => first | (go_simp; done) | (go_simp; rfl)); intro gb hg w6 hbox hb; have BK := Aside0.mk (hbox); have GE : Aside0 (w.heap.size ≤ gb) := ⟨by rw [hg]; exact Nat.le_refl _⟩; have HB := Aside0.mk (below_step (Below.refl _ _) hb); clear hb hbox hg; obtain ⟨hcz0, hcz1, hcz2, hfz0, hfz1, hfz2⟩ := blk3 BK.out) | ((with_reducible refine gate_callee (f := 36) rfl ?_); refine goesL_ (some 9) rfl rfl Tryd.func36 (by kernel_rfl) rfl #[.string a0] rfl (by (try simp only [List.map_toArray, List.map_cons, List.map_nil]); first | done | rfl) ?_; (with_reducible refine (latheref10_words.calls k a0 _ _ HT.out).mono ?_); rintro e w7 ⟨v, rfl, hown, hb⟩; refine ⟨_, rfl, ?_⟩; obtain ⟨gr, cv, C, rfl, hrow, hC0, hC1, hC2⟩ := latheref10_Line.row3 hown; have HR := Aside0.mk hrow; have C0 := Aside0.mk hC0; have C1 := Aside0.mk hC1; have C2 := Aside0.mk hC2; replace BK := Aside0.mk (blk_below BK.out hb); replace HB := Aside0.mk (below_step HB.out hb); clear hb hcz0 hcz1 hcz2 hfz0 hfz1 hfz2 hown hrow hC0 hC1 hC2; obtain ⟨hcz0, hcz1, hcz2, hfz0, hfz1, hfz2⟩ := blk3 BK.out; have hr0 : w7.cell? ⟨gr, 0, none⟩ = some (.string x) := (blk_cell HR.out 0).trans C0.out; have hr1 : w7.cell? ⟨gr, 1, none⟩ = some (.string y) := (blk_cell HR.out 1).trans C1.out; have hr2 : w7.cell? ⟨gr, 2, none⟩ = some (.string z) := (blk_cell HR.out 2).trans C2.out))
  have HRL : Aside0 (gr < w7.heap.size) := ⟨blk_lt HR.out⟩
  have HKL : Aside0 (gb < w7.heap.size) := ⟨blk_lt BK.out⟩
  go_upto_region 6 with (first | ((with_reducible refine gate_callee (f := 37) rfl ?_); refine goesL_ (some 30) rfl rfl Tryd.func37 (by kernel_rfl) rfl #[.string z] rfl (by (try simp only [List.map_toArray, List.map_cons, List.map_nil]); first | done | rfl) ?_; (with_reducible refine (latheref10_length.calls k z _ _ _ HN.out).mono ?_); rintro e w8 ⟨rfl, ⟨nd, rfl⟩⟩; refine ⟨_, rfl, ?_⟩; skip) | ((with_reducible refine gate_dst (N := 7) rfl ?_); refine box_event ?hg (N := 7) ?hd (cs := #[.string (⟨#[]⟩ : ByteArray), .int .i64 0, .int .i64 0]) (t := 39) ?hr ?_; (case hd => rfl); (case hg => rfl); (case hr => first | (go_simp; done) | (go_simp; rfl)); intro gp hg w10 hbox hb; have BP := Aside0.mk (hbox); have GP : Aside0 (w.heap.size ≤ gp) := ⟨by rw [hg]; exact (below_size (by repeat (first | (with_reducible first | exact HB.out | apply below_alloc | apply pw_below_drewN | apply below_drew1) | exact HB.out)))⟩; replace BK := Aside0.mk (show w10.heap[gb]? = some (.cells #[.string (⟨#[]⟩ : ByteArray), .int .i64 0, .int .i64 0] 39 (0, 0)) from blk_below (by (with_reducible repeat (first | refine blk_drewN ?_ _ | refine blk_drew ?_ | refine blk_alloc ?_ _)); exact BK.out) hb); replace HR := Aside0.mk (show w10.heap[gr]? = some (.cells C 9 (0, 0)) from blk_below (by (with_reducible repeat (first | refine blk_drewN ?_ _ | refine blk_drew ?_ | refine blk_alloc ?_ _)); exact HR.out) hb); replace HB := Aside0.mk (below_step (by repeat (first | (with_reducible first | exact HB.out | apply below_alloc | apply pw_below_drewN | apply below_drew1 | refine below_set ?_ GE.out) | exact HB.out)) hb); have nrp : Aside0 (gr ≠ gp) := ⟨fun e_ => by have h1 := HRL.out; rw [hg] at e_; have h2 := (show w7.heap.size ≤ gp from by rw [hg]; exact Nat.le_refl _); omega⟩; have NE : Aside0 (gb ≠ gp) := ⟨fun e_ => by have h1 := HKL.out; have h2 := (show w7.heap.size ≤ gp from by rw [hg]; exact Nat.le_refl _); omega⟩; clear hb hbox hg; obtain ⟨hpz0, hpz1, hpz2, hpf0, hpf1, hpf2⟩ := blk3 BP.out))
  refine wp_named_ (fun W => W.heap[gp]? = some (.cells #[.string x, .int .i64 1, .int .i64 n] 39 (0, 0)) ∧ W.heap[gb]? = some (.cells #[.string (⟨#[]⟩ : ByteArray), .int .i64 0, .int .i64 0] 39 (0, 0)) ∧ W.heap[gr]? = some (.cells C 9 (0, 0)) ∧ Below w.heap.size w W) ⟨by refine blk_put (cs := #[.string x, .int .i64 1, .int .i64 0]) ?_ 2 _ rfl; refine blk_put (cs := #[.string x, .int .i64 0, .int .i64 0]) ?_ 1 _ rfl; refine blk_put (cs := #[.string (⟨#[]⟩ : ByteArray), .int .i64 0, .int .i64 0]) ?_ 0 _ rfl; exact BP.out, blk_far_ (blk_far_ (blk_far_ BK.out NE.out _ _) NE.out _ _) NE.out _ _, blk_far_ (blk_far_ (blk_far_ HR.out nrp.out _ _) nrp.out _ _) nrp.out _ _, below_set (below_set (below_set HB.out GP.out) GP.out) GP.out⟩ ?_
  clear hcz0 hcz1 hcz2 hfz0 hfz1 hfz2 hpz0 hpz1 hpz2 hpf0 hpf1 hpf2 hr0 hr1 hr2
  rintro w11 ⟨hp, hk, hr, hb⟩
  obtain ⟨hpz0, hpz1, hpz2, hpf0, hpf1, hpf2⟩ := blk3 hp
  obtain ⟨hcz0, hcz1, hcz2, hfz0, hfz1, hfz2⟩ := blk3 hk
  have hr1 : w11.cell? ⟨gr, 1, none⟩ = some (.string y) := (blk_cell hr 1).trans C1.out
  replace BP := Aside0.mk hp
  replace BK := Aside0.mk hk
  replace HB := Aside0.mk hb
  clear hp hk hr hb HR
  go_upto_region 8 with (fail)
  refine wp_named_ (fun W => W.heap[gp]? = some (.cells #[.string x, .int .i64 2, .int .i64 n] 39 (0, 0)) ∧ W.heap[gb]? = some (.cells #[.string (⟨#[]⟩ : ByteArray), .int .i64 0, .int .i64 0] 39 (0, 0)) ∧ Below w.heap.size w W) ⟨blk_put (cs := #[.string x, .int .i64 1, .int .i64 n]) BP.out 1 _ rfl, blk_far_ BK.out NE.out _ _, below_set HB.out GP.out⟩ ?_
  clear hpz0 hpz1 hpz2 hpf0 hpf1 hpf2 hr1 hcz0 hcz1 hcz2 hfz0 hfz1 hfz2
  rintro w13 ⟨hp, hk, hb⟩
  obtain ⟨hpz0, hpz1, hpz2, hpf0, hpf1, hpf2⟩ := blk3 hp
  obtain ⟨hcz0, hcz1, hcz2, hfz0, hfz1, hfz2⟩ := blk3 hk
  replace BP := Aside0.mk hp
  replace BK := Aside0.mk hk
  replace HB := Aside0.mk hb
  clear hp hk hb
  have nbp : gb ≠ gp := NE.out
  have npb : gp ≠ gb := fun e_ => NE.out e_.symm
  go_wp2
  refine bodyPost_ret (results_ct rfl _ _ gb 39 #[.string (⟨#[]⟩ : ByteArray), .int .i64 0, .int .i64 0] (0, 0) _ rfl (by (with_reducible repeat (first | refine blk_drewN ?_ _ | refine blk_drew ?_ | refine blk_alloc ?_ _)); refine blk_put (cs := #[.string (⟨#[]⟩ : ByteArray), .int .i64 0, .int .i64 0]) ?_ 2 _ rfl; refine blk_put (cs := #[.string (⟨#[]⟩ : ByteArray), .int .i64 0, .int .i64 0]) ?_ 1 _ rfl; refine blk_put (cs := #[.string (⟨#[]⟩ : ByteArray), .int .i64 0, .int .i64 0]) ?_ 0 _ rfl; (with_reducible repeat (first | refine blk_drewN ?_ _ | refine blk_drew ?_ | refine blk_alloc ?_ _)); exact BK.out) Tryd.underlying39 rfl (by kernel_rfl)) rfl ?_
  exact ⟨rfl, by repeat (first | (with_reducible first | exact HB.out | apply below_alloc | apply pw_below_drewN | apply below_drew1 | refine below_set ?_ GE.out) | exact HB.out)⟩
set_option maxHeartbeats 4000000 in
set_option maxRecDepth 100000 in
theorem latheref10_Line.no (k : Nat) (a0 x y z : ByteArray) (kind n : Int) (ht : latheref10_words.f k a0 = some [x, y, z]) (hy : y.toList = ([114, 101, 97, 108] : List UInt8) ∧ kind = 1 ∨ y.toList = ([99, 111, 109, 112, 108, 101, 120] : List UInt8) ∧ kind = 2) (hn : latheref10_length.f k z = some (n, true)) (hm : latheref10_May.f k x kind n = some false) (w : World) :
  Calls Tryd.prog 27 #[.string a0] w fun e w' => e = .returned (.tuple #[.agg #[.string ⟨#[]⟩, .int .i64 0, .int .i64 0], .bool false]) ∧ Below w.heap.size w w' := by
 have HT := Aside0.mk ht
 have hu39 := Tryd.underlying39
 have HN := Aside0.mk hn
 have HM := Aside0.mk hm
 clear ht hn hm
 rcases hy with ⟨hy, rfl⟩ | ⟨hy, rfl⟩
 ·have r1 : (y.toList == ([114, 101, 97, 108] : List UInt8)) = true := beq_iff_eq.mpr hy
  have r2 : (y.toList != ([114, 101, 97, 108] : List UInt8)) = false := bne_eq_false_iff_eq.mpr hy
  have q1 : (y.toList == ([99, 111, 109, 112, 108, 101, 120] : List UInt8)) = false := by rw [hy]; rfl
  have q2 : (y.toList != ([99, 111, 109, 112, 108, 101, 120] : List UInt8)) = true := by rw [hy]; rfl
  clear hy
  go_enter Tryd.func27, Tryd.ntmps27
  go_upto_region 4 with (first | ((with_reducible refine gate_dst (N := 2) rfl ?_); refine box_event ?hg (N := 2) ?hd (cs := #[.string (⟨#[]⟩ : ByteArray), .int .i64 0, .int .i64 0]) (t := 39) ?hr ?_; (case hd => rfl); (case hg => rfl); (case hr => first | (go_simp; done) | (go_simp; rfl)); intro gb hg w6 hbox hb; have BK := Aside0.mk (hbox); have GE : Aside0 (w.heap.size ≤ gb) := ⟨by rw [hg]; exact Nat.le_refl _⟩; have HB := Aside0.mk (below_step (Below.refl _ _) hb); clear hb hbox hg; obtain ⟨hcz0, hcz1, hcz2, hfz0, hfz1, hfz2⟩ := blk3 BK.out) | ((with_reducible refine gate_callee (f := 36) rfl ?_); refine goesL_ (some 9) rfl rfl Tryd.func36 (by kernel_rfl) rfl #[.string a0] rfl (by (try simp only [List.map_toArray, List.map_cons, List.map_nil]); first | done | rfl) ?_; (with_reducible refine (latheref10_words.calls k a0 _ _ HT.out).mono ?_); rintro e w7 ⟨v, rfl, hown, hb⟩; refine ⟨_, rfl, ?_⟩; obtain ⟨gr, cv, C, rfl, hrow, hC0, hC1, hC2⟩ := latheref10_Line.row3 hown; have HR := Aside0.mk hrow; have C0 := Aside0.mk hC0; have C1 := Aside0.mk hC1; have C2 := Aside0.mk hC2; replace BK := Aside0.mk (blk_below BK.out hb); replace HB := Aside0.mk (below_step HB.out hb); clear hb hcz0 hcz1 hcz2 hfz0 hfz1 hfz2 hown hrow hC0 hC1 hC2; obtain ⟨hcz0, hcz1, hcz2, hfz0, hfz1, hfz2⟩ := blk3 BK.out; have hr0 : w7.cell? ⟨gr, 0, none⟩ = some (.string x) := (blk_cell HR.out 0).trans C0.out; have hr1 : w7.cell? ⟨gr, 1, none⟩ = some (.string y) := (blk_cell HR.out 1).trans C1.out; have hr2 : w7.cell? ⟨gr, 2, none⟩ = some (.string z) := (blk_cell HR.out 2).trans C2.out))
  have HRL : Aside0 (gr < w7.heap.size) := ⟨blk_lt HR.out⟩
  have HKL : Aside0 (gb < w7.heap.size) := ⟨blk_lt BK.out⟩
  go_upto_region 6 with (first | ((with_reducible refine gate_callee (f := 37) rfl ?_); refine goesL_ (some 30) rfl rfl Tryd.func37 (by kernel_rfl) rfl #[.string z] rfl (by (try simp only [List.map_toArray, List.map_cons, List.map_nil]); first | done | rfl) ?_; (with_reducible refine (latheref10_length.calls k z _ _ _ HN.out).mono ?_); rintro e w8 ⟨rfl, ⟨nd, rfl⟩⟩; refine ⟨_, rfl, ?_⟩; skip) | ((with_reducible refine gate_dst (N := 7) rfl ?_); refine box_event ?hg (N := 7) ?hd (cs := #[.string (⟨#[]⟩ : ByteArray), .int .i64 0, .int .i64 0]) (t := 39) ?hr ?_; (case hd => rfl); (case hg => rfl); (case hr => first | (go_simp; done) | (go_simp; rfl)); intro gp hg w10 hbox hb; have BP := Aside0.mk (hbox); have GP : Aside0 (w.heap.size ≤ gp) := ⟨by rw [hg]; exact (below_size (by repeat (first | (with_reducible first | exact HB.out | apply below_alloc | apply pw_below_drewN | apply below_drew1) | exact HB.out)))⟩; replace BK := Aside0.mk (show w10.heap[gb]? = some (.cells #[.string (⟨#[]⟩ : ByteArray), .int .i64 0, .int .i64 0] 39 (0, 0)) from blk_below (by (with_reducible repeat (first | refine blk_drewN ?_ _ | refine blk_drew ?_ | refine blk_alloc ?_ _)); exact BK.out) hb); replace HR := Aside0.mk (show w10.heap[gr]? = some (.cells C 9 (0, 0)) from blk_below (by (with_reducible repeat (first | refine blk_drewN ?_ _ | refine blk_drew ?_ | refine blk_alloc ?_ _)); exact HR.out) hb); replace HB := Aside0.mk (below_step (by repeat (first | (with_reducible first | exact HB.out | apply below_alloc | apply pw_below_drewN | apply below_drew1 | refine below_set ?_ GE.out) | exact HB.out)) hb); have nrp : Aside0 (gr ≠ gp) := ⟨fun e_ => by have h1 := HRL.out; rw [hg] at e_; have h2 := (show w7.heap.size ≤ gp from by rw [hg]; exact Nat.le_refl _); omega⟩; have NE : Aside0 (gb ≠ gp) := ⟨fun e_ => by have h1 := HKL.out; have h2 := (show w7.heap.size ≤ gp from by rw [hg]; exact Nat.le_refl _); omega⟩; clear hb hbox hg; obtain ⟨hpz0, hpz1, hpz2, hpf0, hpf1, hpf2⟩ := blk3 BP.out))
  refine wp_named_ (fun W => W.heap[gp]? = some (.cells #[.string x, .int .i64 1, .int .i64 n] 39 (0, 0)) ∧ W.heap[gb]? = some (.cells #[.string (⟨#[]⟩ : ByteArray), .int .i64 0, .int .i64 0] 39 (0, 0)) ∧ W.heap[gr]? = some (.cells C 9 (0, 0)) ∧ Below w.heap.size w W) ⟨by refine blk_put (cs := #[.string x, .int .i64 1, .int .i64 0]) ?_ 2 _ rfl; refine blk_put (cs := #[.string x, .int .i64 0, .int .i64 0]) ?_ 1 _ rfl; refine blk_put (cs := #[.string (⟨#[]⟩ : ByteArray), .int .i64 0, .int .i64 0]) ?_ 0 _ rfl; exact BP.out, blk_far_ (blk_far_ (blk_far_ BK.out NE.out _ _) NE.out _ _) NE.out _ _, blk_far_ (blk_far_ (blk_far_ HR.out nrp.out _ _) nrp.out _ _) nrp.out _ _, below_set (below_set (below_set HB.out GP.out) GP.out) GP.out⟩ ?_
  clear hcz0 hcz1 hcz2 hfz0 hfz1 hfz2 hpz0 hpz1 hpz2 hpf0 hpf1 hpf2 hr0 hr1 hr2
  rintro w11 ⟨hp, hk, hr, hb⟩
  obtain ⟨hpz0, hpz1, hpz2, hpf0, hpf1, hpf2⟩ := blk3 hp
  obtain ⟨hcz0, hcz1, hcz2, hfz0, hfz1, hfz2⟩ := blk3 hk
  have hr1 : w11.cell? ⟨gr, 1, none⟩ = some (.string y) := (blk_cell hr 1).trans C1.out
  replace BP := Aside0.mk hp
  replace BK := Aside0.mk hk
  replace HB := Aside0.mk hb
  clear hp hk hr hb HR
  go_upto_region 8 with (fail)
  have nbp : gb ≠ gp := NE.out
  have npb : gp ≠ gb := fun e_ => NE.out e_.symm
  go_wp2_with (first | (go_at_call 33; refine (latheref10_May.calls k x 1 n _ _ HM.out).mono ?_; rintro e w12 ⟨rfl, hb⟩; replace BP := Aside0.mk (blk_below BP.out hb); replace BK := Aside0.mk (blk_below BK.out hb); replace HB := Aside0.mk (below_step HB.out hb); clear hb hpz0 hpz1 hpz2 hpf0 hpf1 hpf2 hcz0 hcz1 hcz2 hfz0 hfz1 hfz2; obtain ⟨hpz0, hpz1, hpz2, hpf0, hpf1, hpf2⟩ := blk3 BP.out; obtain ⟨hcz0, hcz1, hcz2, hfz0, hfz1, hfz2⟩ := blk3 BK.out))
  refine bodyPost_ret (results_ct rfl _ _ gb 39 #[.string (⟨#[]⟩ : ByteArray), .int .i64 0, .int .i64 0] (0, 0) _ rfl (by (with_reducible repeat (first | refine blk_drewN ?_ _ | refine blk_drew ?_ | refine blk_alloc ?_ _)); refine blk_put (cs := #[.string (⟨#[]⟩ : ByteArray), .int .i64 0, .int .i64 0]) ?_ 2 _ rfl; refine blk_put (cs := #[.string (⟨#[]⟩ : ByteArray), .int .i64 0, .int .i64 0]) ?_ 1 _ rfl; refine blk_put (cs := #[.string (⟨#[]⟩ : ByteArray), .int .i64 0, .int .i64 0]) ?_ 0 _ rfl; (with_reducible repeat (first | refine blk_drewN ?_ _ | refine blk_drew ?_ | refine blk_alloc ?_ _)); exact BK.out) Tryd.underlying39 rfl (by kernel_rfl)) rfl ?_
  exact ⟨rfl, by repeat (first | (with_reducible first | exact HB.out | apply below_alloc | apply pw_below_drewN | apply below_drew1 | refine below_set ?_ GE.out) | exact HB.out)⟩
 ·have r1 : (y.toList == ([114, 101, 97, 108] : List UInt8)) = false := by rw [hy]; rfl
  have r2 : (y.toList != ([114, 101, 97, 108] : List UInt8)) = true := by rw [hy]; rfl
  have q1 : (y.toList == ([99, 111, 109, 112, 108, 101, 120] : List UInt8)) = true := beq_iff_eq.mpr hy
  have q2 : (y.toList != ([99, 111, 109, 112, 108, 101, 120] : List UInt8)) = false := bne_eq_false_iff_eq.mpr hy
  clear hy
  go_enter Tryd.func27, Tryd.ntmps27
  go_upto_region 4 with (first | ((with_reducible refine gate_dst (N := 2) rfl ?_); refine box_event ?hg (N := 2) ?hd (cs := #[.string (⟨#[]⟩ : ByteArray), .int .i64 0, .int .i64 0]) (t := 39) ?hr ?_; (case hd => rfl); (case hg => rfl); (case hr => first | (go_simp; done) | (go_simp; rfl)); intro gb hg w6 hbox hb; have BK := Aside0.mk (hbox); have GE : Aside0 (w.heap.size ≤ gb) := ⟨by rw [hg]; exact Nat.le_refl _⟩; have HB := Aside0.mk (below_step (Below.refl _ _) hb); clear hb hbox hg; obtain ⟨hcz0, hcz1, hcz2, hfz0, hfz1, hfz2⟩ := blk3 BK.out) | ((with_reducible refine gate_callee (f := 36) rfl ?_); refine goesL_ (some 9) rfl rfl Tryd.func36 (by kernel_rfl) rfl #[.string a0] rfl (by (try simp only [List.map_toArray, List.map_cons, List.map_nil]); first | done | rfl) ?_; (with_reducible refine (latheref10_words.calls k a0 _ _ HT.out).mono ?_); rintro e w7 ⟨v, rfl, hown, hb⟩; refine ⟨_, rfl, ?_⟩; obtain ⟨gr, cv, C, rfl, hrow, hC0, hC1, hC2⟩ := latheref10_Line.row3 hown; have HR := Aside0.mk hrow; have C0 := Aside0.mk hC0; have C1 := Aside0.mk hC1; have C2 := Aside0.mk hC2; replace BK := Aside0.mk (blk_below BK.out hb); replace HB := Aside0.mk (below_step HB.out hb); clear hb hcz0 hcz1 hcz2 hfz0 hfz1 hfz2 hown hrow hC0 hC1 hC2; obtain ⟨hcz0, hcz1, hcz2, hfz0, hfz1, hfz2⟩ := blk3 BK.out; have hr0 : w7.cell? ⟨gr, 0, none⟩ = some (.string x) := (blk_cell HR.out 0).trans C0.out; have hr1 : w7.cell? ⟨gr, 1, none⟩ = some (.string y) := (blk_cell HR.out 1).trans C1.out; have hr2 : w7.cell? ⟨gr, 2, none⟩ = some (.string z) := (blk_cell HR.out 2).trans C2.out))
  have HRL : Aside0 (gr < w7.heap.size) := ⟨blk_lt HR.out⟩
  have HKL : Aside0 (gb < w7.heap.size) := ⟨blk_lt BK.out⟩
  go_upto_region 6 with (first | ((with_reducible refine gate_callee (f := 37) rfl ?_); refine goesL_ (some 30) rfl rfl Tryd.func37 (by kernel_rfl) rfl #[.string z] rfl (by (try simp only [List.map_toArray, List.map_cons, List.map_nil]); first | done | rfl) ?_; (with_reducible refine (latheref10_length.calls k z _ _ _ HN.out).mono ?_); rintro e w8 ⟨rfl, ⟨nd, rfl⟩⟩; refine ⟨_, rfl, ?_⟩; skip) | ((with_reducible refine gate_dst (N := 7) rfl ?_); refine box_event ?hg (N := 7) ?hd (cs := #[.string (⟨#[]⟩ : ByteArray), .int .i64 0, .int .i64 0]) (t := 39) ?hr ?_; (case hd => rfl); (case hg => rfl); (case hr => first | (go_simp; done) | (go_simp; rfl)); intro gp hg w10 hbox hb; have BP := Aside0.mk (hbox); have GP : Aside0 (w.heap.size ≤ gp) := ⟨by rw [hg]; exact (below_size (by repeat (first | (with_reducible first | exact HB.out | apply below_alloc | apply pw_below_drewN | apply below_drew1) | exact HB.out)))⟩; replace BK := Aside0.mk (show w10.heap[gb]? = some (.cells #[.string (⟨#[]⟩ : ByteArray), .int .i64 0, .int .i64 0] 39 (0, 0)) from blk_below (by (with_reducible repeat (first | refine blk_drewN ?_ _ | refine blk_drew ?_ | refine blk_alloc ?_ _)); exact BK.out) hb); replace HR := Aside0.mk (show w10.heap[gr]? = some (.cells C 9 (0, 0)) from blk_below (by (with_reducible repeat (first | refine blk_drewN ?_ _ | refine blk_drew ?_ | refine blk_alloc ?_ _)); exact HR.out) hb); replace HB := Aside0.mk (below_step (by repeat (first | (with_reducible first | exact HB.out | apply below_alloc | apply pw_below_drewN | apply below_drew1 | refine below_set ?_ GE.out) | exact HB.out)) hb); have nrp : Aside0 (gr ≠ gp) := ⟨fun e_ => by have h1 := HRL.out; rw [hg] at e_; have h2 := (show w7.heap.size ≤ gp from by rw [hg]; exact Nat.le_refl _); omega⟩; have NE : Aside0 (gb ≠ gp) := ⟨fun e_ => by have h1 := HKL.out; have h2 := (show w7.heap.size ≤ gp from by rw [hg]; exact Nat.le_refl _); omega⟩; clear hb hbox hg; obtain ⟨hpz0, hpz1, hpz2, hpf0, hpf1, hpf2⟩ := blk3 BP.out))
  refine wp_named_ (fun W => W.heap[gp]? = some (.cells #[.string x, .int .i64 1, .int .i64 n] 39 (0, 0)) ∧ W.heap[gb]? = some (.cells #[.string (⟨#[]⟩ : ByteArray), .int .i64 0, .int .i64 0] 39 (0, 0)) ∧ W.heap[gr]? = some (.cells C 9 (0, 0)) ∧ Below w.heap.size w W) ⟨by refine blk_put (cs := #[.string x, .int .i64 1, .int .i64 0]) ?_ 2 _ rfl; refine blk_put (cs := #[.string x, .int .i64 0, .int .i64 0]) ?_ 1 _ rfl; refine blk_put (cs := #[.string (⟨#[]⟩ : ByteArray), .int .i64 0, .int .i64 0]) ?_ 0 _ rfl; exact BP.out, blk_far_ (blk_far_ (blk_far_ BK.out NE.out _ _) NE.out _ _) NE.out _ _, blk_far_ (blk_far_ (blk_far_ HR.out nrp.out _ _) nrp.out _ _) nrp.out _ _, below_set (below_set (below_set HB.out GP.out) GP.out) GP.out⟩ ?_
  clear hcz0 hcz1 hcz2 hfz0 hfz1 hfz2 hpz0 hpz1 hpz2 hpf0 hpf1 hpf2 hr0 hr1 hr2
  rintro w11 ⟨hp, hk, hr, hb⟩
  obtain ⟨hpz0, hpz1, hpz2, hpf0, hpf1, hpf2⟩ := blk3 hp
  obtain ⟨hcz0, hcz1, hcz2, hfz0, hfz1, hfz2⟩ := blk3 hk
  have hr1 : w11.cell? ⟨gr, 1, none⟩ = some (.string y) := (blk_cell hr 1).trans C1.out
  replace BP := Aside0.mk hp
  replace BK := Aside0.mk hk
  replace HB := Aside0.mk hb
  clear hp hk hr hb HR
  go_upto_region 8 with (fail)
  refine wp_named_ (fun W => W.heap[gp]? = some (.cells #[.string x, .int .i64 2, .int .i64 n] 39 (0, 0)) ∧ W.heap[gb]? = some (.cells #[.string (⟨#[]⟩ : ByteArray), .int .i64 0, .int .i64 0] 39 (0, 0)) ∧ Below w.heap.size w W) ⟨blk_put (cs := #[.string x, .int .i64 1, .int .i64 n]) BP.out 1 _ rfl, blk_far_ BK.out NE.out _ _, below_set HB.out GP.out⟩ ?_
  clear hpz0 hpz1 hpz2 hpf0 hpf1 hpf2 hr1 hcz0 hcz1 hcz2 hfz0 hfz1 hfz2
  rintro w13 ⟨hp, hk, hb⟩
  obtain ⟨hpz0, hpz1, hpz2, hpf0, hpf1, hpf2⟩ := blk3 hp
  obtain ⟨hcz0, hcz1, hcz2, hfz0, hfz1, hfz2⟩ := blk3 hk
  replace BP := Aside0.mk hp
  replace BK := Aside0.mk hk
  replace HB := Aside0.mk hb
  clear hp hk hb
  have nbp : gb ≠ gp := NE.out
  have npb : gp ≠ gb := fun e_ => NE.out e_.symm
  go_wp2_with (first | (go_at_call 33; refine (latheref10_May.calls k x 2 n _ _ HM.out).mono ?_; rintro e w12 ⟨rfl, hb⟩; replace BP := Aside0.mk (blk_below BP.out hb); replace BK := Aside0.mk (blk_below BK.out hb); replace HB := Aside0.mk (below_step HB.out hb); clear hb hpz0 hpz1 hpz2 hpf0 hpf1 hpf2 hcz0 hcz1 hcz2 hfz0 hfz1 hfz2; obtain ⟨hpz0, hpz1, hpz2, hpf0, hpf1, hpf2⟩ := blk3 BP.out; obtain ⟨hcz0, hcz1, hcz2, hfz0, hfz1, hfz2⟩ := blk3 BK.out))
  refine bodyPost_ret (results_ct rfl _ _ gb 39 #[.string (⟨#[]⟩ : ByteArray), .int .i64 0, .int .i64 0] (0, 0) _ rfl (by (with_reducible repeat (first | refine blk_drewN ?_ _ | refine blk_drew ?_ | refine blk_alloc ?_ _)); refine blk_put (cs := #[.string (⟨#[]⟩ : ByteArray), .int .i64 0, .int .i64 0]) ?_ 2 _ rfl; refine blk_put (cs := #[.string (⟨#[]⟩ : ByteArray), .int .i64 0, .int .i64 0]) ?_ 1 _ rfl; refine blk_put (cs := #[.string (⟨#[]⟩ : ByteArray), .int .i64 0, .int .i64 0]) ?_ 0 _ rfl; (with_reducible repeat (first | refine blk_drewN ?_ _ | refine blk_drew ?_ | refine blk_alloc ?_ _)); exact BK.out) Tryd.underlying39 rfl (by kernel_rfl)) rfl ?_
  exact ⟨rfl, by repeat (first | (with_reducible first | exact HB.out | apply below_alloc | apply pw_below_drewN | apply below_drew1 | refine below_set ?_ GE.out) | exact HB.out)⟩
set_option maxHeartbeats 4000000 in
set_option maxRecDepth 100000 in
theorem latheref10_Line.yes (k : Nat) (a0 x y z : ByteArray) (kind n : Int) (ht : latheref10_words.f k a0 = some [x, y, z]) (hy : y.toList = ([114, 101, 97, 108] : List UInt8) ∧ kind = 1 ∨ y.toList = ([99, 111, 109, 112, 108, 101, 120] : List UInt8) ∧ kind = 2) (hn : latheref10_length.f k z = some (n, true)) (hm : latheref10_May.f k x kind n = some true) (w : World) :
  Calls Tryd.prog 27 #[.string a0] w fun e w' => e = .returned (.tuple #[.agg #[.string x, .int .i64 kind, .int .i64 n], .bool true]) ∧ Below w.heap.size w w' := by
 have HT := Aside0.mk ht
 have hu39 := Tryd.underlying39
 have HN := Aside0.mk hn
 have HM := Aside0.mk hm
 clear ht hn hm
 rcases hy with ⟨hy, rfl⟩ | ⟨hy, rfl⟩
 ·have r1 : (y.toList == ([114, 101, 97, 108] : List UInt8)) = true := beq_iff_eq.mpr hy
  have r2 : (y.toList != ([114, 101, 97, 108] : List UInt8)) = false := bne_eq_false_iff_eq.mpr hy
  have q1 : (y.toList == ([99, 111, 109, 112, 108, 101, 120] : List UInt8)) = false := by rw [hy]; rfl
  have q2 : (y.toList != ([99, 111, 109, 112, 108, 101, 120] : List UInt8)) = true := by rw [hy]; rfl
  clear hy
  go_enter Tryd.func27, Tryd.ntmps27
  go_upto_region 4 with (first | ((with_reducible refine gate_dst (N := 2) rfl ?_); refine box_event ?hg (N := 2) ?hd (cs := #[.string (⟨#[]⟩ : ByteArray), .int .i64 0, .int .i64 0]) (t := 39) ?hr ?_; (case hd => rfl); (case hg => rfl); (case hr => first | (go_simp; done) | (go_simp; rfl)); intro gb hg w6 hbox hb; have BK := Aside0.mk (hbox); have GE : Aside0 (w.heap.size ≤ gb) := ⟨by rw [hg]; exact Nat.le_refl _⟩; have HB := Aside0.mk (below_step (Below.refl _ _) hb); clear hb hbox hg; obtain ⟨hcz0, hcz1, hcz2, hfz0, hfz1, hfz2⟩ := blk3 BK.out) | ((with_reducible refine gate_callee (f := 36) rfl ?_); refine goesL_ (some 9) rfl rfl Tryd.func36 (by kernel_rfl) rfl #[.string a0] rfl (by (try simp only [List.map_toArray, List.map_cons, List.map_nil]); first | done | rfl) ?_; (with_reducible refine (latheref10_words.calls k a0 _ _ HT.out).mono ?_); rintro e w7 ⟨v, rfl, hown, hb⟩; refine ⟨_, rfl, ?_⟩; obtain ⟨gr, cv, C, rfl, hrow, hC0, hC1, hC2⟩ := latheref10_Line.row3 hown; have HR := Aside0.mk hrow; have C0 := Aside0.mk hC0; have C1 := Aside0.mk hC1; have C2 := Aside0.mk hC2; replace BK := Aside0.mk (blk_below BK.out hb); replace HB := Aside0.mk (below_step HB.out hb); clear hb hcz0 hcz1 hcz2 hfz0 hfz1 hfz2 hown hrow hC0 hC1 hC2; obtain ⟨hcz0, hcz1, hcz2, hfz0, hfz1, hfz2⟩ := blk3 BK.out; have hr0 : w7.cell? ⟨gr, 0, none⟩ = some (.string x) := (blk_cell HR.out 0).trans C0.out; have hr1 : w7.cell? ⟨gr, 1, none⟩ = some (.string y) := (blk_cell HR.out 1).trans C1.out; have hr2 : w7.cell? ⟨gr, 2, none⟩ = some (.string z) := (blk_cell HR.out 2).trans C2.out))
  have HRL : Aside0 (gr < w7.heap.size) := ⟨blk_lt HR.out⟩
  have HKL : Aside0 (gb < w7.heap.size) := ⟨blk_lt BK.out⟩
  go_upto_region 6 with (first | ((with_reducible refine gate_callee (f := 37) rfl ?_); refine goesL_ (some 30) rfl rfl Tryd.func37 (by kernel_rfl) rfl #[.string z] rfl (by (try simp only [List.map_toArray, List.map_cons, List.map_nil]); first | done | rfl) ?_; (with_reducible refine (latheref10_length.calls k z _ _ _ HN.out).mono ?_); rintro e w8 ⟨rfl, ⟨nd, rfl⟩⟩; refine ⟨_, rfl, ?_⟩; skip) | ((with_reducible refine gate_dst (N := 7) rfl ?_); refine box_event ?hg (N := 7) ?hd (cs := #[.string (⟨#[]⟩ : ByteArray), .int .i64 0, .int .i64 0]) (t := 39) ?hr ?_; (case hd => rfl); (case hg => rfl); (case hr => first | (go_simp; done) | (go_simp; rfl)); intro gp hg w10 hbox hb; have BP := Aside0.mk (hbox); have GP : Aside0 (w.heap.size ≤ gp) := ⟨by rw [hg]; exact (below_size (by repeat (first | (with_reducible first | exact HB.out | apply below_alloc | apply pw_below_drewN | apply below_drew1) | exact HB.out)))⟩; replace BK := Aside0.mk (show w10.heap[gb]? = some (.cells #[.string (⟨#[]⟩ : ByteArray), .int .i64 0, .int .i64 0] 39 (0, 0)) from blk_below (by (with_reducible repeat (first | refine blk_drewN ?_ _ | refine blk_drew ?_ | refine blk_alloc ?_ _)); exact BK.out) hb); replace HR := Aside0.mk (show w10.heap[gr]? = some (.cells C 9 (0, 0)) from blk_below (by (with_reducible repeat (first | refine blk_drewN ?_ _ | refine blk_drew ?_ | refine blk_alloc ?_ _)); exact HR.out) hb); replace HB := Aside0.mk (below_step (by repeat (first | (with_reducible first | exact HB.out | apply below_alloc | apply pw_below_drewN | apply below_drew1 | refine below_set ?_ GE.out) | exact HB.out)) hb); have nrp : Aside0 (gr ≠ gp) := ⟨fun e_ => by have h1 := HRL.out; rw [hg] at e_; have h2 := (show w7.heap.size ≤ gp from by rw [hg]; exact Nat.le_refl _); omega⟩; have NE : Aside0 (gb ≠ gp) := ⟨fun e_ => by have h1 := HKL.out; have h2 := (show w7.heap.size ≤ gp from by rw [hg]; exact Nat.le_refl _); omega⟩; clear hb hbox hg; obtain ⟨hpz0, hpz1, hpz2, hpf0, hpf1, hpf2⟩ := blk3 BP.out))
  refine wp_named_ (fun W => W.heap[gp]? = some (.cells #[.string x, .int .i64 1, .int .i64 n] 39 (0, 0)) ∧ W.heap[gb]? = some (.cells #[.string (⟨#[]⟩ : ByteArray), .int .i64 0, .int .i64 0] 39 (0, 0)) ∧ W.heap[gr]? = some (.cells C 9 (0, 0)) ∧ Below w.heap.size w W) ⟨by refine blk_put (cs := #[.string x, .int .i64 1, .int .i64 0]) ?_ 2 _ rfl; refine blk_put (cs := #[.string x, .int .i64 0, .int .i64 0]) ?_ 1 _ rfl; refine blk_put (cs := #[.string (⟨#[]⟩ : ByteArray), .int .i64 0, .int .i64 0]) ?_ 0 _ rfl; exact BP.out, blk_far_ (blk_far_ (blk_far_ BK.out NE.out _ _) NE.out _ _) NE.out _ _, blk_far_ (blk_far_ (blk_far_ HR.out nrp.out _ _) nrp.out _ _) nrp.out _ _, below_set (below_set (below_set HB.out GP.out) GP.out) GP.out⟩ ?_
  clear hcz0 hcz1 hcz2 hfz0 hfz1 hfz2 hpz0 hpz1 hpz2 hpf0 hpf1 hpf2 hr0 hr1 hr2
  rintro w11 ⟨hp, hk, hr, hb⟩
  obtain ⟨hpz0, hpz1, hpz2, hpf0, hpf1, hpf2⟩ := blk3 hp
  obtain ⟨hcz0, hcz1, hcz2, hfz0, hfz1, hfz2⟩ := blk3 hk
  have hr1 : w11.cell? ⟨gr, 1, none⟩ = some (.string y) := (blk_cell hr 1).trans C1.out
  replace BP := Aside0.mk hp
  replace BK := Aside0.mk hk
  replace HB := Aside0.mk hb
  clear hp hk hr hb HR
  go_upto_region 8 with (fail)
  have nbp : gb ≠ gp := NE.out
  have npb : gp ≠ gb := fun e_ => NE.out e_.symm
  go_wp2_with (first | (go_at_call 33; refine (latheref10_May.calls k x 1 n _ _ HM.out).mono ?_; rintro e w12 ⟨rfl, hb⟩; replace BP := Aside0.mk (blk_below BP.out hb); replace BK := Aside0.mk (blk_below BK.out hb); replace HB := Aside0.mk (below_step HB.out hb); clear hb hpz0 hpz1 hpz2 hpf0 hpf1 hpf2 hcz0 hcz1 hcz2 hfz0 hfz1 hfz2; obtain ⟨hpz0, hpz1, hpz2, hpf0, hpf1, hpf2⟩ := blk3 BP.out; obtain ⟨hcz0, hcz1, hcz2, hfz0, hfz1, hfz2⟩ := blk3 BK.out))
  refine bodyPost_ret (results_ct rfl _ _ gb 39 #[.string x, .int .i64 1, .int .i64 n] (0, 0) _ rfl (by (with_reducible repeat (first | refine blk_drewN ?_ _ | refine blk_drew ?_ | refine blk_alloc ?_ _)); refine blk_put (cs := #[.string x, .int .i64 1, .int .i64 0]) ?_ 2 _ rfl; refine blk_put (cs := #[.string x, .int .i64 0, .int .i64 0]) ?_ 1 _ rfl; refine blk_put (cs := #[.string (⟨#[]⟩ : ByteArray), .int .i64 0, .int .i64 0]) ?_ 0 _ rfl; (with_reducible repeat (first | refine blk_drewN ?_ _ | refine blk_drew ?_ | refine blk_alloc ?_ _)); exact BK.out) Tryd.underlying39 rfl (by kernel_rfl)) rfl ?_
  exact ⟨rfl, by repeat (first | (with_reducible first | exact HB.out | apply below_alloc | apply pw_below_drewN | apply below_drew1 | refine below_set ?_ GE.out) | exact HB.out)⟩
 ·have r1 : (y.toList == ([114, 101, 97, 108] : List UInt8)) = false := by rw [hy]; rfl
  have r2 : (y.toList != ([114, 101, 97, 108] : List UInt8)) = true := by rw [hy]; rfl
  have q1 : (y.toList == ([99, 111, 109, 112, 108, 101, 120] : List UInt8)) = true := beq_iff_eq.mpr hy
  have q2 : (y.toList != ([99, 111, 109, 112, 108, 101, 120] : List UInt8)) = false := bne_eq_false_iff_eq.mpr hy
  clear hy
  go_enter Tryd.func27, Tryd.ntmps27
  go_upto_region 4 with (first | ((with_reducible refine gate_dst (N := 2) rfl ?_); refine box_event ?hg (N := 2) ?hd (cs := #[.string (⟨#[]⟩ : ByteArray), .int .i64 0, .int .i64 0]) (t := 39) ?hr ?_; (case hd => rfl); (case hg => rfl); (case hr => first | (go_simp; done) | (go_simp; rfl)); intro gb hg w6 hbox hb; have BK := Aside0.mk (hbox); have GE : Aside0 (w.heap.size ≤ gb) := ⟨by rw [hg]; exact Nat.le_refl _⟩; have HB := Aside0.mk (below_step (Below.refl _ _) hb); clear hb hbox hg; obtain ⟨hcz0, hcz1, hcz2, hfz0, hfz1, hfz2⟩ := blk3 BK.out) | ((with_reducible refine gate_callee (f := 36) rfl ?_); refine goesL_ (some 9) rfl rfl Tryd.func36 (by kernel_rfl) rfl #[.string a0] rfl (by (try simp only [List.map_toArray, List.map_cons, List.map_nil]); first | done | rfl) ?_; (with_reducible refine (latheref10_words.calls k a0 _ _ HT.out).mono ?_); rintro e w7 ⟨v, rfl, hown, hb⟩; refine ⟨_, rfl, ?_⟩; obtain ⟨gr, cv, C, rfl, hrow, hC0, hC1, hC2⟩ := latheref10_Line.row3 hown; have HR := Aside0.mk hrow; have C0 := Aside0.mk hC0; have C1 := Aside0.mk hC1; have C2 := Aside0.mk hC2; replace BK := Aside0.mk (blk_below BK.out hb); replace HB := Aside0.mk (below_step HB.out hb); clear hb hcz0 hcz1 hcz2 hfz0 hfz1 hfz2 hown hrow hC0 hC1 hC2; obtain ⟨hcz0, hcz1, hcz2, hfz0, hfz1, hfz2⟩ := blk3 BK.out; have hr0 : w7.cell? ⟨gr, 0, none⟩ = some (.string x) := (blk_cell HR.out 0).trans C0.out; have hr1 : w7.cell? ⟨gr, 1, none⟩ = some (.string y) := (blk_cell HR.out 1).trans C1.out; have hr2 : w7.cell? ⟨gr, 2, none⟩ = some (.string z) := (blk_cell HR.out 2).trans C2.out))
  have HRL : Aside0 (gr < w7.heap.size) := ⟨blk_lt HR.out⟩
  have HKL : Aside0 (gb < w7.heap.size) := ⟨blk_lt BK.out⟩
  go_upto_region 6 with (first | ((with_reducible refine gate_callee (f := 37) rfl ?_); refine goesL_ (some 30) rfl rfl Tryd.func37 (by kernel_rfl) rfl #[.string z] rfl (by (try simp only [List.map_toArray, List.map_cons, List.map_nil]); first | done | rfl) ?_; (with_reducible refine (latheref10_length.calls k z _ _ _ HN.out).mono ?_); rintro e w8 ⟨rfl, ⟨nd, rfl⟩⟩; refine ⟨_, rfl, ?_⟩; skip) | ((with_reducible refine gate_dst (N := 7) rfl ?_); refine box_event ?hg (N := 7) ?hd (cs := #[.string (⟨#[]⟩ : ByteArray), .int .i64 0, .int .i64 0]) (t := 39) ?hr ?_; (case hd => rfl); (case hg => rfl); (case hr => first | (go_simp; done) | (go_simp; rfl)); intro gp hg w10 hbox hb; have BP := Aside0.mk (hbox); have GP : Aside0 (w.heap.size ≤ gp) := ⟨by rw [hg]; exact (below_size (by repeat (first | (with_reducible first | exact HB.out | apply below_alloc | apply pw_below_drewN | apply below_drew1) | exact HB.out)))⟩; replace BK := Aside0.mk (show w10.heap[gb]? = some (.cells #[.string (⟨#[]⟩ : ByteArray), .int .i64 0, .int .i64 0] 39 (0, 0)) from blk_below (by (with_reducible repeat (first | refine blk_drewN ?_ _ | refine blk_drew ?_ | refine blk_alloc ?_ _)); exact BK.out) hb); replace HR := Aside0.mk (show w10.heap[gr]? = some (.cells C 9 (0, 0)) from blk_below (by (with_reducible repeat (first | refine blk_drewN ?_ _ | refine blk_drew ?_ | refine blk_alloc ?_ _)); exact HR.out) hb); replace HB := Aside0.mk (below_step (by repeat (first | (with_reducible first | exact HB.out | apply below_alloc | apply pw_below_drewN | apply below_drew1 | refine below_set ?_ GE.out) | exact HB.out)) hb); have nrp : Aside0 (gr ≠ gp) := ⟨fun e_ => by have h1 := HRL.out; rw [hg] at e_; have h2 := (show w7.heap.size ≤ gp from by rw [hg]; exact Nat.le_refl _); omega⟩; have NE : Aside0 (gb ≠ gp) := ⟨fun e_ => by have h1 := HKL.out; have h2 := (show w7.heap.size ≤ gp from by rw [hg]; exact Nat.le_refl _); omega⟩; clear hb hbox hg; obtain ⟨hpz0, hpz1, hpz2, hpf0, hpf1, hpf2⟩ := blk3 BP.out))
  refine wp_named_ (fun W => W.heap[gp]? = some (.cells #[.string x, .int .i64 1, .int .i64 n] 39 (0, 0)) ∧ W.heap[gb]? = some (.cells #[.string (⟨#[]⟩ : ByteArray), .int .i64 0, .int .i64 0] 39 (0, 0)) ∧ W.heap[gr]? = some (.cells C 9 (0, 0)) ∧ Below w.heap.size w W) ⟨by refine blk_put (cs := #[.string x, .int .i64 1, .int .i64 0]) ?_ 2 _ rfl; refine blk_put (cs := #[.string x, .int .i64 0, .int .i64 0]) ?_ 1 _ rfl; refine blk_put (cs := #[.string (⟨#[]⟩ : ByteArray), .int .i64 0, .int .i64 0]) ?_ 0 _ rfl; exact BP.out, blk_far_ (blk_far_ (blk_far_ BK.out NE.out _ _) NE.out _ _) NE.out _ _, blk_far_ (blk_far_ (blk_far_ HR.out nrp.out _ _) nrp.out _ _) nrp.out _ _, below_set (below_set (below_set HB.out GP.out) GP.out) GP.out⟩ ?_
  clear hcz0 hcz1 hcz2 hfz0 hfz1 hfz2 hpz0 hpz1 hpz2 hpf0 hpf1 hpf2 hr0 hr1 hr2
  rintro w11 ⟨hp, hk, hr, hb⟩
  obtain ⟨hpz0, hpz1, hpz2, hpf0, hpf1, hpf2⟩ := blk3 hp
  obtain ⟨hcz0, hcz1, hcz2, hfz0, hfz1, hfz2⟩ := blk3 hk
  have hr1 : w11.cell? ⟨gr, 1, none⟩ = some (.string y) := (blk_cell hr 1).trans C1.out
  replace BP := Aside0.mk hp
  replace BK := Aside0.mk hk
  replace HB := Aside0.mk hb
  clear hp hk hr hb HR
  go_upto_region 8 with (fail)
  refine wp_named_ (fun W => W.heap[gp]? = some (.cells #[.string x, .int .i64 2, .int .i64 n] 39 (0, 0)) ∧ W.heap[gb]? = some (.cells #[.string (⟨#[]⟩ : ByteArray), .int .i64 0, .int .i64 0] 39 (0, 0)) ∧ Below w.heap.size w W) ⟨blk_put (cs := #[.string x, .int .i64 1, .int .i64 n]) BP.out 1 _ rfl, blk_far_ BK.out NE.out _ _, below_set HB.out GP.out⟩ ?_
  clear hpz0 hpz1 hpz2 hpf0 hpf1 hpf2 hr1 hcz0 hcz1 hcz2 hfz0 hfz1 hfz2
  rintro w13 ⟨hp, hk, hb⟩
  obtain ⟨hpz0, hpz1, hpz2, hpf0, hpf1, hpf2⟩ := blk3 hp
  obtain ⟨hcz0, hcz1, hcz2, hfz0, hfz1, hfz2⟩ := blk3 hk
  replace BP := Aside0.mk hp
  replace BK := Aside0.mk hk
  replace HB := Aside0.mk hb
  clear hp hk hb
  have nbp : gb ≠ gp := NE.out
  have npb : gp ≠ gb := fun e_ => NE.out e_.symm
  go_wp2_with (first | (go_at_call 33; refine (latheref10_May.calls k x 2 n _ _ HM.out).mono ?_; rintro e w12 ⟨rfl, hb⟩; replace BP := Aside0.mk (blk_below BP.out hb); replace BK := Aside0.mk (blk_below BK.out hb); replace HB := Aside0.mk (below_step HB.out hb); clear hb hpz0 hpz1 hpz2 hpf0 hpf1 hpf2 hcz0 hcz1 hcz2 hfz0 hfz1 hfz2; obtain ⟨hpz0, hpz1, hpz2, hpf0, hpf1, hpf2⟩ := blk3 BP.out; obtain ⟨hcz0, hcz1, hcz2, hfz0, hfz1, hfz2⟩ := blk3 BK.out))
  refine bodyPost_ret (results_ct rfl _ _ gb 39 #[.string x, .int .i64 2, .int .i64 n] (0, 0) _ rfl (by (with_reducible repeat (first | refine blk_drewN ?_ _ | refine blk_drew ?_ | refine blk_alloc ?_ _)); refine blk_put (cs := #[.string x, .int .i64 2, .int .i64 0]) ?_ 2 _ rfl; refine blk_put (cs := #[.string x, .int .i64 0, .int .i64 0]) ?_ 1 _ rfl; refine blk_put (cs := #[.string (⟨#[]⟩ : ByteArray), .int .i64 0, .int .i64 0]) ?_ 0 _ rfl; (with_reducible repeat (first | refine blk_drewN ?_ _ | refine blk_drew ?_ | refine blk_alloc ?_ _)); exact BK.out) Tryd.underlying39 rfl (by kernel_rfl)) rfl ?_
  exact ⟨rfl, by repeat (first | (with_reducible first | exact HB.out | apply below_alloc | apply pw_below_drewN | apply below_drew1 | refine below_set ?_ GE.out) | exact HB.out)⟩
theorem latheref10_Line.calls (k : Nat) (a0 : ByteArray) (r1 : ByteArray) (r2 : Int) (r3 : Int) (r4 : Bool) (w : World) (h : latheref10_Line.f k a0 = some (r1, r2, r3, r4)) :
  Calls Tryd.prog 27 #[.string a0] w fun e w' => e = .returned (.tuple #[.agg #[.string r1, .int .i64 r2, .int .i64 r3], .bool r4]) ∧ Below w.heap.size w w' := by
 unfold latheref10_Line.f at h
 obtain ⟨l, hl, h⟩ := Option.bind_eq_some_iff.mp h
 have zero : some latheref10_Line.z = some (r1, r2, r3, r4) → r1 = ⟨#[]⟩ ∧ r2 = 0 ∧ r3 = 0 ∧ r4 = false := fun h => by
  have h := Option.some.inj h
  simp only [latheref10_Line.z, Prod.mk.injEq] at h
  exact ⟨h.1.symm, h.2.1.symm, h.2.2.1.symm, h.2.2.2.symm⟩
 by_cases h3 : l.length = 3
 case neg =>
  have h' : some latheref10_Line.z = some (r1, r2, r3, r4) := by
   match l, h3, h with
   | [], _, h => exact h
   | [_], _, h => exact h
   | [_, _], _, h => exact h
   | [_, _, _], h3, _ => exact absurd rfl h3
   | _ :: _ :: _ :: _ :: _, _, h => exact h
  obtain ⟨rfl, rfl, rfl, rfl⟩ := zero h'
  exact latheref10_Line.not3 k a0 l hl h3 w
 obtain ⟨x, y, z, rfl⟩ : ∃ x y z, l = [x, y, z] := by
  match l, h3 with
  | [x, y, z], _ => exact ⟨x, y, z, rfl⟩
 have both : ∀ kind, (y.toList = ([114, 101, 97, 108] : List UInt8) ∧ kind = 1 ∨ y.toList = ([99, 111, 109, 112, 108, 101, 120] : List UInt8) ∧ kind = 2) → latheref10_Line.t k x z kind = some (r1, r2, r3, r4) →
   Calls Tryd.prog 27 #[.string a0] w fun e w' => e = .returned (.tuple #[.agg #[.string r1, .int .i64 r2, .int .i64 r3], .bool r4]) ∧ Below w.heap.size w w' := by
  intro kind hy h
  unfold latheref10_Line.t at h
  obtain ⟨⟨n, ok⟩, hn, h⟩ := Option.bind_eq_some_iff.mp h
  cases ok with
  | false =>
   rw [if_neg (show ¬ ((n, false) : Int × Bool).2 = true from fun e => Bool.noConfusion e)] at h
   obtain ⟨rfl, rfl, rfl, rfl⟩ := zero h
   exact latheref10_Line.err k a0 x y z kind n hl hy hn w
  | true =>
   rw [if_pos rfl] at h
   obtain ⟨b, hm, h⟩ := Option.bind_eq_some_iff.mp h
   cases b with
   | false =>
    rw [if_neg (by decide)] at h
    obtain ⟨rfl, rfl, rfl, rfl⟩ := zero h
    exact latheref10_Line.no k a0 x y z kind n hl hy hn hm w
   | true =>
    rw [if_pos rfl] at h
    simp only [Option.some.injEq, Prod.mk.injEq] at h
    obtain ⟨rfl, rfl, rfl, rfl⟩ := h
    exact latheref10_Line.yes k a0 x y z kind n hl hy hn hm w
 simp only [latheref10_Line.g] at h
 by_cases h1 : y.toList = ([114, 101, 97, 108] : List UInt8)
 ·rw [if_pos h1] at h
  exact both 1 (.inl ⟨h1, rfl⟩) h
 ·rw [if_neg h1] at h
  by_cases h2 : y.toList = ([99, 111, 109, 112, 108, 101, 120] : List UInt8)
  ·rw [if_pos h2] at h
   exact both 2 (.inr ⟨h2, rfl⟩) h
  ·rw [if_neg h2] at h
   obtain ⟨rfl, rfl, rfl, rfl⟩ := zero h
   exact latheref10_Line.notk k a0 x y z hl h1 h2 w

end Go.Proofs.YtojlooflfojdlaaDoor.Q
