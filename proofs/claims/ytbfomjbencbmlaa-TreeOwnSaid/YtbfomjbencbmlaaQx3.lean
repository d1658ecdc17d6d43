/- Lean functions with the answers of the Go functions that the law reaches, proved to be just these answers. Conditions: those that each theorem names. -/
import Derived.Test.YtbfomjbencbmlaaQx0
import Derived.Test.YtbfomjbencbmlaaQx1
import Derived.Test.YtbfomjbencbmlaaQx2
namespace Go.Proofs.Ytbfomjbencbmlaa.Q
open Go.RowKit Go.Proofs.YtbfomjbencbmlaaW.PrintWords Go.Proofs.YtbfomjbencbmlaaW.PrintLast Go.Proofs.YtbfomjbencbmlaaW.PrintMore
attribute [local go_sem] max2_int min2_int max_two min_two max_three min_three max_four min_four   -- for this text's walks alone
set_option linter.unusedVariables false
set_option linter.unusedSimpArgs false

/-! ### tree_may: function 39 -/
mutual
def tree_may.j0 : Nat → Bool → Int → ByteArray → Int → Int → ByteArray → List (S26) → Int → Option (Bool)
 | 0, _, _, _, _, _, _, _, _ => none
 | k + 1, x47, x116000, x116001, x116002, x116003, x116004, x116005, x116006 => if x47 = true then (some false) else (if x116000 = 1 then (tree_may.j1 k x116000 (x116000 == 1) x116000 x116001 x116002 x116003 x116004 x116005 x116006) else (tree_may.j1 k x116000 (x116000 == 4) x116000 x116001 x116002 x116003 x116004 x116005 x116006))
def tree_may.j1 : Nat → Int → Bool → Int → ByteArray → Int → Int → ByteArray → List (S26) → Int → Option (Bool)
 | 0, _, _, _, _, _, _, _, _, _ => none
 | k + 1, x49, x50, x116000, x116001, x116002, x116003, x116004, x116005, x116006 => if x50 = true then ((tree_named.f k x116001).bind fun t117 => (some t117)) else (if x49 = 2 then (if x116001.toList = ([] : List UInt8) then ((bits_Class.f k x116002).bind fun t118 => (some (decide (t118 < 4)))) else (some false)) else (if x49 = 3 then (if x116001.toList = ([] : List UInt8) then (if x116003 ≥ (-2147483647) then (some (decide (x116003 ≤ 2147483647))) else (some false)) else (some false)) else (if x49 = 5 then ((tree_quoted.f k x116001).bind fun t119 => (some t119)) else (if x49 = 6 then ((tree_let.f k x116000 x116001 x116002 x116003 x116004 x116005 x116006).bind fun t120 => (some t120)) else (some false)))))
end
def tree_may.f (k : Nat) (a0_0 : Int) (a0_1 : ByteArray) (a0_2 : Int) (a0_3 : Int) (a0_4 : ByteArray) (l0_5 : List (S26)) (a0_6 : Int) : Option (Bool) := if a0_4.toList = ([] : List UInt8) then (if a0_0 = 1 then (if a0_0 = 2 then (if a0_0 = 3 then (tree_may.j0 k false a0_0 a0_1 a0_2 a0_3 a0_4 l0_5 a0_6) else (tree_may.j0 k (a0_3 != 0) a0_0 a0_1 a0_2 a0_3 a0_4 l0_5 a0_6)) else (if a0_2 = 0 then (if a0_0 = 3 then (tree_may.j0 k false a0_0 a0_1 a0_2 a0_3 a0_4 l0_5 a0_6) else (tree_may.j0 k (a0_3 != 0) a0_0 a0_1 a0_2 a0_3 a0_4 l0_5 a0_6)) else (tree_may.j0 k true a0_0 a0_1 a0_2 a0_3 a0_4 l0_5 a0_6))) else (if a0_0 = 6 then (if a0_0 = 2 then (if a0_0 = 3 then (tree_may.j0 k false a0_0 a0_1 a0_2 a0_3 a0_4 l0_5 a0_6) else (tree_may.j0 k (a0_3 != 0) a0_0 a0_1 a0_2 a0_3 a0_4 l0_5 a0_6)) else (if a0_2 = 0 then (if a0_0 = 3 then (tree_may.j0 k false a0_0 a0_1 a0_2 a0_3 a0_4 l0_5 a0_6) else (tree_may.j0 k (a0_3 != 0) a0_0 a0_1 a0_2 a0_3 a0_4 l0_5 a0_6)) else (tree_may.j0 k true a0_0 a0_1 a0_2 a0_3 a0_4 l0_5 a0_6))) else (if (l0_5.length : Int) > 0 then (tree_may.j0 k true a0_0 a0_1 a0_2 a0_3 a0_4 l0_5 a0_6) else (if a0_0 = 2 then (if a0_0 = 3 then (tree_may.j0 k false a0_0 a0_1 a0_2 a0_3 a0_4 l0_5 a0_6) else (tree_may.j0 k (a0_3 != 0) a0_0 a0_1 a0_2 a0_3 a0_4 l0_5 a0_6)) else (if a0_2 = 0 then (if a0_0 = 3 then (tree_may.j0 k false a0_0 a0_1 a0_2 a0_3 a0_4 l0_5 a0_6) else (tree_may.j0 k (a0_3 != 0) a0_0 a0_1 a0_2 a0_3 a0_4 l0_5 a0_6)) else (tree_may.j0 k true a0_0 a0_1 a0_2 a0_3 a0_4 l0_5 a0_6)))))) else ((tree_named.f k a0_4).bind fun t116 => (if t116 = true then (if a0_0 = 1 then (if a0_0 = 2 then (if a0_0 = 3 then (tree_may.j0 k false a0_0 a0_1 a0_2 a0_3 a0_4 l0_5 a0_6) else (tree_may.j0 k (a0_3 != 0) a0_0 a0_1 a0_2 a0_3 a0_4 l0_5 a0_6)) else (if a0_2 = 0 then (if a0_0 = 3 then (tree_may.j0 k false a0_0 a0_1 a0_2 a0_3 a0_4 l0_5 a0_6) else (tree_may.j0 k (a0_3 != 0) a0_0 a0_1 a0_2 a0_3 a0_4 l0_5 a0_6)) else (tree_may.j0 k true a0_0 a0_1 a0_2 a0_3 a0_4 l0_5 a0_6))) else (if a0_0 = 6 then (if a0_0 = 2 then (if a0_0 = 3 then (tree_may.j0 k false a0_0 a0_1 a0_2 a0_3 a0_4 l0_5 a0_6) else (tree_may.j0 k (a0_3 != 0) a0_0 a0_1 a0_2 a0_3 a0_4 l0_5 a0_6)) else (if a0_2 = 0 then (if a0_0 = 3 then (tree_may.j0 k false a0_0 a0_1 a0_2 a0_3 a0_4 l0_5 a0_6) else (tree_may.j0 k (a0_3 != 0) a0_0 a0_1 a0_2 a0_3 a0_4 l0_5 a0_6)) else (tree_may.j0 k true a0_0 a0_1 a0_2 a0_3 a0_4 l0_5 a0_6))) else (if (l0_5.length : Int) > 0 then (tree_may.j0 k true a0_0 a0_1 a0_2 a0_3 a0_4 l0_5 a0_6) else (if a0_0 = 2 then (if a0_0 = 3 then (tree_may.j0 k false a0_0 a0_1 a0_2 a0_3 a0_4 l0_5 a0_6) else (tree_may.j0 k (a0_3 != 0) a0_0 a0_1 a0_2 a0_3 a0_4 l0_5 a0_6)) else (if a0_2 = 0 then (if a0_0 = 3 then (tree_may.j0 k false a0_0 a0_1 a0_2 a0_3 a0_4 l0_5 a0_6) else (tree_may.j0 k (a0_3 != 0) a0_0 a0_1 a0_2 a0_3 a0_4 l0_5 a0_6)) else (tree_may.j0 k true a0_0 a0_1 a0_2 a0_3 a0_4 l0_5 a0_6)))))) else (tree_may.j0 k true a0_0 a0_1 a0_2 a0_3 a0_4 l0_5 a0_6)))
theorem tree_may.mono_l : ∀ k, (∀ y0 y1 y2 y3 y4 y5 y6 y7, LeO (tree_may.j0 k y0 y1 y2 y3 y4 y5 y6 y7) (tree_may.j0 (k + 1) y0 y1 y2 y3 y4 y5 y6 y7)) ∧ (∀ y0 y1 y2 y3 y4 y5 y6 y7 y8, LeO (tree_may.j1 k y0 y1 y2 y3 y4 y5 y6 y7 y8) (tree_may.j1 (k + 1) y0 y1 y2 y3 y4 y5 y6 y7 y8))
 | 0 => ⟨fun _ _ _ _ _ _ _ _ r h => by simp [tree_may.j0] at h, fun _ _ _ _ _ _ _ _ _ r h => by simp [tree_may.j1] at h⟩
 | k + 1 => by
  obtain ⟨ih0, ih1⟩ := tree_may.mono_l k
  refine ⟨?_, ?_⟩
  ·intro y0 y1 y2 y3 y4 y5 y6 y7
   unfold tree_may.j0
   repeat' first
   | (with_reducible exact ih0 _ _ _ _ _ _ _ _)
   | (with_reducible exact ih1 _ _ _ _ _ _ _ _ _)
   | (with_reducible exact bits_Class.mono _ _)
   | (with_reducible exact tree_let.mono _ _ _ _ _ _ _ _)
   | (with_reducible exact tree_named.mono _ _)
   | (with_reducible exact tree_quoted.mono _ _)
   | (with_reducible exact LeO.refl _)
   | (with_reducible exact LeO.none _)
   | (with_reducible refine LeO.ite ?_ ?_)
   | (with_reducible refine LeO.bind ?_ (fun _ => ?_))
   | exact LeO.none _
   | refine LeO.ite ?_ ?_
   | refine LeO.bind ?_ (fun _ => ?_)
  ·intro y0 y1 y2 y3 y4 y5 y6 y7 y8
   unfold tree_may.j1
   repeat' first
   | (with_reducible exact ih0 _ _ _ _ _ _ _ _)
   | (with_reducible exact ih1 _ _ _ _ _ _ _ _ _)
   | (with_reducible exact bits_Class.mono _ _)
   | (with_reducible exact tree_let.mono _ _ _ _ _ _ _ _)
   | (with_reducible exact tree_named.mono _ _)
   | (with_reducible exact tree_quoted.mono _ _)
   | (with_reducible exact LeO.refl _)
   | (with_reducible exact LeO.none _)
   | (with_reducible refine LeO.ite ?_ ?_)
   | (with_reducible refine LeO.bind ?_ (fun _ => ?_))
   | exact LeO.none _
   | refine LeO.ite ?_ ?_
   | refine LeO.bind ?_ (fun _ => ?_)
theorem tree_may.mono : ∀ a0 a1 a2 a3 a4 a5 a6 k, LeO (tree_may.f k a0 a1 a2 a3 a4 a5 a6) (tree_may.f (k + 1) a0 a1 a2 a3 a4 a5 a6) := by
 intro a0 a1 a2 a3 a4 a5 a6 k
 obtain ⟨ih0, ih1⟩ := tree_may.mono_l k
 unfold tree_may.f
 repeat' first
   | (with_reducible exact ih0 _ _ _ _ _ _ _ _)
   | (with_reducible exact ih1 _ _ _ _ _ _ _ _ _)
   | (with_reducible exact bits_Class.mono _ _)
   | (with_reducible exact tree_let.mono _ _ _ _ _ _ _ _)
   | (with_reducible exact tree_named.mono _ _)
   | (with_reducible exact tree_quoted.mono _ _)
   | (with_reducible exact LeO.refl _)
   | (with_reducible exact LeO.none _)
   | (with_reducible refine LeO.ite ?_ ?_)
   | (with_reducible refine LeO.bind ?_ (fun _ => ?_))
   | exact LeO.none _
   | refine LeO.ite ?_ ?_
   | refine LeO.bind ?_ (fun _ => ?_)
set_option maxHeartbeats 8000000 in
set_option maxRecDepth 100000 in
theorem tree_may.calls (k : Nat) (a0_0 : Int) (a0_1 : ByteArray) (a0_2 : Int) (a0_3 : Int) (a0_4 : ByteArray) (A0_5 : Option Addr) (c0_5 : Nat) (l0_5 : List (S26)) (a0_6 : Int) (r : Bool) (w : World) (hr0_5 : Kd.C k26 w A0_5 l0_5.length l0_5) (hc0_5 : l0_5.length ≤ c0_5) (h : tree_may.f k a0_0 a0_1 a0_2 a0_3 a0_4 l0_5 a0_6 = some r) :
  Calls Try.prog 39 #[.agg #[.int .i64 a0_0, .string a0_1, .int .u32 a0_2, .int .i64 a0_3, .string a0_4, .slice A0_5 l0_5.length c0_5, .int .i64 a0_6]] w fun e w' => e = .returned (.bool r) ∧ Below w.heap.size w w' := by
 have hu26 := Try.underlying26
 have HR0_5 := Aside0.mk hr0_5
 have HC0_5 := Aside0.mk hc0_5
 clear hr0_5 hc0_5
 have HB := Aside0.mk (Below.refl w.heap.size w)
 have H : (if a0_4.toList = ([] : List UInt8) then (if a0_0 = 1 then (if a0_0 = 2 then (if a0_0 = 3 then (tree_may.j0 k false a0_0 a0_1 a0_2 a0_3 a0_4 l0_5 a0_6) else (tree_may.j0 k (a0_3 != 0) a0_0 a0_1 a0_2 a0_3 a0_4 l0_5 a0_6)) else (if a0_2 = 0 then (if a0_0 = 3 then (tree_may.j0 k false a0_0 a0_1 a0_2 a0_3 a0_4 l0_5 a0_6) else (tree_may.j0 k (a0_3 != 0) a0_0 a0_1 a0_2 a0_3 a0_4 l0_5 a0_6)) else (tree_may.j0 k true a0_0 a0_1 a0_2 a0_3 a0_4 l0_5 a0_6))) else (if a0_0 = 6 then (if a0_0 = 2 then (if a0_0 = 3 then (tree_may.j0 k false a0_0 a0_1 a0_2 a0_3 a0_4 l0_5 a0_6) else (tree_may.j0 k (a0_3 != 0) a0_0 a0_1 a0_2 a0_3 a0_4 l0_5 a0_6)) else (if a0_2 = 0 then (if a0_0 = 3 then (tree_may.j0 k false a0_0 a0_1 a0_2 a0_3 a0_4 l0_5 a0_6) else (tree_may.j0 k (a0_3 != 0) a0_0 a0_1 a0_2 a0_3 a0_4 l0_5 a0_6)) else (tree_may.j0 k true a0_0 a0_1 a0_2 a0_3 a0_4 l0_5 a0_6))) else (if (l0_5.length : Int) > 0 then (tree_may.j0 k true a0_0 a0_1 a0_2 a0_3 a0_4 l0_5 a0_6) else (if a0_0 = 2 then (if a0_0 = 3 then (tree_may.j0 k false a0_0 a0_1 a0_2 a0_3 a0_4 l0_5 a0_6) else (tree_may.j0 k (a0_3 != 0) a0_0 a0_1 a0_2 a0_3 a0_4 l0_5 a0_6)) else (if a0_2 = 0 then (if a0_0 = 3 then (tree_may.j0 k false a0_0 a0_1 a0_2 a0_3 a0_4 l0_5 a0_6) else (tree_may.j0 k (a0_3 != 0) a0_0 a0_1 a0_2 a0_3 a0_4 l0_5 a0_6)) else (tree_may.j0 k true a0_0 a0_1 a0_2 a0_3 a0_4 l0_5 a0_6)))))) else ((tree_named.f k a0_4).bind fun t116 => (if t116 = true then (if a0_0 = 1 then (if a0_0 = 2 then (if a0_0 = 3 then (tree_may.j0 k false a0_0 a0_1 a0_2 a0_3 a0_4 l0_5 a0_6) else (tree_may.j0 k (a0_3 != 0) a0_0 a0_1 a0_2 a0_3 a0_4 l0_5 a0_6)) else (if a0_2 = 0 then (if a0_0 = 3 then (tree_may.j0 k false a0_0 a0_1 a0_2 a0_3 a0_4 l0_5 a0_6) else (tree_may.j0 k (a0_3 != 0) a0_0 a0_1 a0_2 a0_3 a0_4 l0_5 a0_6)) else (tree_may.j0 k true a0_0 a0_1 a0_2 a0_3 a0_4 l0_5 a0_6))) else (if a0_0 = 6 then (if a0_0 = 2 then (if a0_0 = 3 then (tree_may.j0 k false a0_0 a0_1 a0_2 a0_3 a0_4 l0_5 a0_6) else (tree_may.j0 k (a0_3 != 0) a0_0 a0_1 a0_2 a0_3 a0_4 l0_5 a0_6)) else (if a0_2 = 0 then (if a0_0 = 3 then (tree_may.j0 k false a0_0 a0_1 a0_2 a0_3 a0_4 l0_5 a0_6) else (tree_may.j0 k (a0_3 != 0) a0_0 a0_1 a0_2 a0_3 a0_4 l0_5 a0_6)) else (tree_may.j0 k true a0_0 a0_1 a0_2 a0_3 a0_4 l0_5 a0_6))) else (if (l0_5.length : Int) > 0 then (tree_may.j0 k true a0_0 a0_1 a0_2 a0_3 a0_4 l0_5 a0_6) else (if a0_0 = 2 then (if a0_0 = 3 then (tree_may.j0 k false a0_0 a0_1 a0_2 a0_3 a0_4 l0_5 a0_6) else (tree_may.j0 k (a0_3 != 0) a0_0 a0_1 a0_2 a0_3 a0_4 l0_5 a0_6)) else (if a0_2 = 0 then (if a0_0 = 3 then (tree_may.j0 k false a0_0 a0_1 a0_2 a0_3 a0_4 l0_5 a0_6) else (tree_may.j0 k (a0_3 != 0) a0_0 a0_1 a0_2 a0_3 a0_4 l0_5 a0_6)) else (tree_may.j0 k true a0_0 a0_1 a0_2 a0_3 a0_4 l0_5 a0_6)))))) else (tree_may.j0 k true a0_0 a0_1 a0_2 a0_3 a0_4 l0_5 a0_6)))) = some r := h
 clear h
 have HC2 := Aside0.mk H
 clear H
 go_enter Try.func39, Try.ntmps39
 go_upto_region 1 with (first | ((with_reducible refine gate_dst (N := 1) rfl ?_); (try (refine gate_guard (by rfl) ?_; dsimp only)); refine box_event ?hg (N := 1) ?hd (cs := #[.int .i64 a0_0, .string a0_1, .int .u32 a0_2, .int .i64 a0_3, .string a0_4, .slice A0_5 l0_5.length c0_5, .int .i64 a0_6]) (t := 26) ?hr ?_; (case hd => rfl); (case hg => rfl); (case hr => first | (go_simp; done) | (go_simp; rfl)); intro gb115 hg w3 hbox hb; have BK115 := Aside0.mk (hbox); have GW115 := Aside0.mk ((by rw [hg]; exact (below_size (by repeat (first | (with_reducible first | exact HB.out | apply below_alloc | apply pw_below_drewN | apply below_drew1) | exact HB.out))) : w.heap.size ≤ gb115)); have GE115 := Aside0.mk ((by rw [hg]; exact (below_size (by repeat (first | (with_reducible first | exact HB.out | apply below_alloc | apply pw_below_drewN | apply below_drew1) | exact HB.out))) : w.heap.size ≤ gb115)); replace HB := Aside0.mk (below_step (by repeat (first | (with_reducible first | exact HB.out | apply below_alloc | apply pw_below_drewN | apply below_drew1) | exact HB.out)) hb); clear hb hbox hg))
 (try simp only [Act.put, List.setIfInBounds_toArray, List.set_cons_zero, List.set_cons_succ])
 go_cut [47] (fun v47 wc => ∃ (kq : Nat) (x47_1 : Bool), v47 = .bool x47_1 ∧ Aside0 (tree_may.j0 kq x47_1 a0_0 a0_1 a0_2 a0_3 a0_4 l0_5 a0_6 = some r) ∧ Aside0 (kq ≤ k) ∧ Aside0 (wc.heap[gb115]? = some (.cells #[.int .i64 a0_0, .string a0_1, .int .u32 a0_2, .int .i64 a0_3, .string a0_4, (.slice A0_5 l0_5.length c0_5), .int .i64 a0_6] 26 (0, 0))) ∧ Aside0 (Below w.heap.size w wc))
 case first =>
  have H := HC2.out
  clear HC2
  by_cases c4 : a0_4.toList = ([] : List UInt8)
  ·rw [if_pos c4] at H
   have c4b0 : (a0_4.toList == ([] : List UInt8)) = true := beq_iff_eq.mpr c4
   have c4b1 : (a0_4.toList != ([] : List UInt8)) = false := bne_eq_false_iff_eq.mpr c4
   clear c4
   (first | rw [c4b0] | (simp only [i64_w, i32_w]; rw [c4b0]) | skip)
   by_cases c5 : a0_0 = 1
   ·rw [if_pos c5] at H
    have c5b0 : (a0_0 == 1) = true := beq_iff_eq.mpr c5
    have c5b1 : (a0_0 != 1) = false := bne_eq_false_iff_eq.mpr c5
    clear c5
    by_cases c6 : a0_0 = 2
    ·rw [if_pos c6] at H
     have c6b0 : (a0_0 == 2) = true := beq_iff_eq.mpr c6
     have c6b1 : (a0_0 != 2) = false := bne_eq_false_iff_eq.mpr c6
     clear c6
     by_cases c7 : a0_0 = 3
     ·rw [if_pos c7] at H
      have c7b0 : (a0_0 == 3) = true := beq_iff_eq.mpr c7
      have c7b1 : (a0_0 != 3) = false := bne_eq_false_iff_eq.mpr c7
      clear c7
      have H' := Aside0.mk H
      clear H
      obtain ⟨hcz8_0, hcz8_1, hcz8_2, hcz8_3, hcz8_4, hcz8_5, hcz8_6, hfz8_0, hfz8_1, hfz8_2, hfz8_3, hfz8_4, hfz8_5, hfz8_6⟩ := blk7 BK115.out
      go_wp2
      go_meet
      case rel => exact ⟨_, (false), (by first | rfl | (simp; done) | (simp [*]; done) | (simp; exact (fun l : List UInt8 => (by cases l <;> rfl : l.isEmpty = !(l != []))) _)), H', ⟨by first | omega | exact Nat.le_refl _⟩, ⟨by (with_reducible repeat (first | refine blk_drewN ?_ _ | refine blk_drew ?_ | refine blk_alloc ?_ _)); exact BK115.out⟩, ⟨by repeat (first | (with_reducible first | exact HB.out | apply below_alloc | apply pw_below_drewN | apply below_drew1 | refine below_set ?_ GE115.out) | exact HB.out)⟩⟩
     ·rw [if_neg c7] at H
      have c7b0 : (a0_0 == 3) = false := beq_eq_false_iff_ne.mpr c7
      have c7b1 : (a0_0 != 3) = true := bne_iff_ne.mpr c7
      have H' := Aside0.mk H
      clear H
      obtain ⟨hcz9_0, hcz9_1, hcz9_2, hcz9_3, hcz9_4, hcz9_5, hcz9_6, hfz9_0, hfz9_1, hfz9_2, hfz9_3, hfz9_4, hfz9_5, hfz9_6⟩ := blk7 BK115.out
      go_wp2
      go_meet
      case rel => exact ⟨_, ((a0_3 != 0)), (by first | rfl | (simp; done) | (simp [*]; done) | (simp; exact (fun l : List UInt8 => (by cases l <;> rfl : l.isEmpty = !(l != []))) _)), H', ⟨by first | omega | exact Nat.le_refl _⟩, ⟨by (with_reducible repeat (first | refine blk_drewN ?_ _ | refine blk_drew ?_ | refine blk_alloc ?_ _)); exact BK115.out⟩, ⟨by repeat (first | (with_reducible first | exact HB.out | apply below_alloc | apply pw_below_drewN | apply below_drew1 | refine below_set ?_ GE115.out) | exact HB.out)⟩⟩
    ·rw [if_neg c6] at H
     have c6b0 : (a0_0 == 2) = false := beq_eq_false_iff_ne.mpr c6
     have c6b1 : (a0_0 != 2) = true := bne_iff_ne.mpr c6
     by_cases c10 : a0_2 = 0
     ·rw [if_pos c10] at H
      have c10b0 : (a0_2 == 0) = true := beq_iff_eq.mpr c10
      have c10b1 : (a0_2 != 0) = false := bne_eq_false_iff_eq.mpr c10
      clear c10
      by_cases c11 : a0_0 = 3
      ·rw [if_pos c11] at H
       have c11b0 : (a0_0 == 3) = true := beq_iff_eq.mpr c11
       have c11b1 : (a0_0 != 3) = false := bne_eq_false_iff_eq.mpr c11
       clear c11
       have H' := Aside0.mk H
       clear H
       obtain ⟨hcz12_0, hcz12_1, hcz12_2, hcz12_3, hcz12_4, hcz12_5, hcz12_6, hfz12_0, hfz12_1, hfz12_2, hfz12_3, hfz12_4, hfz12_5, hfz12_6⟩ := blk7 BK115.out
       go_wp2
       go_meet
       case rel => exact ⟨_, (false), (by first | rfl | (simp; done) | (simp [*]; done) | (simp; exact (fun l : List UInt8 => (by cases l <;> rfl : l.isEmpty = !(l != []))) _)), H', ⟨by first | omega | exact Nat.le_refl _⟩, ⟨by (with_reducible repeat (first | refine blk_drewN ?_ _ | refine blk_drew ?_ | refine blk_alloc ?_ _)); exact BK115.out⟩, ⟨by repeat (first | (with_reducible first | exact HB.out | apply below_alloc | apply pw_below_drewN | apply below_drew1 | refine below_set ?_ GE115.out) | exact HB.out)⟩⟩
      ·rw [if_neg c11] at H
       have c11b0 : (a0_0 == 3) = false := beq_eq_false_iff_ne.mpr c11
       have c11b1 : (a0_0 != 3) = true := bne_iff_ne.mpr c11
       have H' := Aside0.mk H
       clear H
       obtain ⟨hcz13_0, hcz13_1, hcz13_2, hcz13_3, hcz13_4, hcz13_5, hcz13_6, hfz13_0, hfz13_1, hfz13_2, hfz13_3, hfz13_4, hfz13_5, hfz13_6⟩ := blk7 BK115.out
       go_wp2
       go_meet
       case rel => exact ⟨_, ((a0_3 != 0)), (by first | rfl | (simp; done) | (simp [*]; done) | (simp; exact (fun l : List UInt8 => (by cases l <;> rfl : l.isEmpty = !(l != []))) _)), H', ⟨by first | omega | exact Nat.le_refl _⟩, ⟨by (with_reducible repeat (first | refine blk_drewN ?_ _ | refine blk_drew ?_ | refine blk_alloc ?_ _)); exact BK115.out⟩, ⟨by repeat (first | (with_reducible first | exact HB.out | apply below_alloc | apply pw_below_drewN | apply below_drew1 | refine below_set ?_ GE115.out) | exact HB.out)⟩⟩
     ·rw [if_neg c10] at H
      have c10b0 : (a0_2 == 0) = false := beq_eq_false_iff_ne.mpr c10
      have c10b1 : (a0_2 != 0) = true := bne_iff_ne.mpr c10
      have H' := Aside0.mk H
      clear H
      obtain ⟨hcz14_0, hcz14_1, hcz14_2, hcz14_3, hcz14_4, hcz14_5, hcz14_6, hfz14_0, hfz14_1, hfz14_2, hfz14_3, hfz14_4, hfz14_5, hfz14_6⟩ := blk7 BK115.out
      go_wp2
      go_meet
      case rel => exact ⟨_, (true), (by first | rfl | (simp; done) | (simp [*]; done) | (simp; exact (fun l : List UInt8 => (by cases l <;> rfl : l.isEmpty = !(l != []))) _)), H', ⟨by first | omega | exact Nat.le_refl _⟩, ⟨by (with_reducible repeat (first | refine blk_drewN ?_ _ | refine blk_drew ?_ | refine blk_alloc ?_ _)); exact BK115.out⟩, ⟨by repeat (first | (with_reducible first | exact HB.out | apply below_alloc | apply pw_below_drewN | apply below_drew1 | refine below_set ?_ GE115.out) | exact HB.out)⟩⟩
   ·rw [if_neg c5] at H
    have c5b0 : (a0_0 == 1) = false := beq_eq_false_iff_ne.mpr c5
    have c5b1 : (a0_0 != 1) = true := bne_iff_ne.mpr c5
    by_cases c15 : a0_0 = 6
    ·rw [if_pos c15] at H
     have c15b0 : (a0_0 == 6) = true := beq_iff_eq.mpr c15
     have c15b1 : (a0_0 != 6) = false := bne_eq_false_iff_eq.mpr c15
     clear c15
     by_cases c16 : a0_0 = 2
     ·rw [if_pos c16] at H
      have c16b0 : (a0_0 == 2) = true := beq_iff_eq.mpr c16
      have c16b1 : (a0_0 != 2) = false := bne_eq_false_iff_eq.mpr c16
      clear c16
      by_cases c17 : a0_0 = 3
      ·rw [if_pos c17] at H
       have c17b0 : (a0_0 == 3) = true := beq_iff_eq.mpr c17
       have c17b1 : (a0_0 != 3) = false := bne_eq_false_iff_eq.mpr c17
       clear c17
       have H' := Aside0.mk H
       clear H
       obtain ⟨hcz18_0, hcz18_1, hcz18_2, hcz18_3, hcz18_4, hcz18_5, hcz18_6, hfz18_0, hfz18_1, hfz18_2, hfz18_3, hfz18_4, hfz18_5, hfz18_6⟩ := blk7 BK115.out
       go_wp2
       go_meet
       case rel => exact ⟨_, (false), (by first | rfl | (simp; done) | (simp [*]; done) | (simp; exact (fun l : List UInt8 => (by cases l <;> rfl : l.isEmpty = !(l != []))) _)), H', ⟨by first | omega | exact Nat.le_refl _⟩, ⟨by (with_reducible repeat (first | refine blk_drewN ?_ _ | refine blk_drew ?_ | refine blk_alloc ?_ _)); exact BK115.out⟩, ⟨by repeat (first | (with_reducible first | exact HB.out | apply below_alloc | apply pw_below_drewN | apply below_drew1 | refine below_set ?_ GE115.out) | exact HB.out)⟩⟩
      ·rw [if_neg c17] at H
       have c17b0 : (a0_0 == 3) = false := beq_eq_false_iff_ne.mpr c17
       have c17b1 : (a0_0 != 3) = true := bne_iff_ne.mpr c17
       have H' := Aside0.mk H
       clear H
       obtain ⟨hcz19_0, hcz19_1, hcz19_2, hcz19_3, hcz19_4, hcz19_5, hcz19_6, hfz19_0, hfz19_1, hfz19_2, hfz19_3, hfz19_4, hfz19_5, hfz19_6⟩ := blk7 BK115.out
       go_wp2
       go_meet
       case rel => exact ⟨_, ((a0_3 != 0)), (by first | rfl | (simp; done) | (simp [*]; done) | (simp; exact (fun l : List UInt8 => (by cases l <;> rfl : l.isEmpty = !(l != []))) _)), H', ⟨by first | omega | exact Nat.le_refl _⟩, ⟨by (with_reducible repeat (first | refine blk_drewN ?_ _ | refine blk_drew ?_ | refine blk_alloc ?_ _)); exact BK115.out⟩, ⟨by repeat (first | (with_reducible first | exact HB.out | apply below_alloc | apply pw_below_drewN | apply below_drew1 | refine below_set ?_ GE115.out) | exact HB.out)⟩⟩
     ·rw [if_neg c16] at H
      have c16b0 : (a0_0 == 2) = false := beq_eq_false_iff_ne.mpr c16
      have c16b1 : (a0_0 != 2) = true := bne_iff_ne.mpr c16
      by_cases c20 : a0_2 = 0
      ·rw [if_pos c20] at H
       have c20b0 : (a0_2 == 0) = true := beq_iff_eq.mpr c20
       have c20b1 : (a0_2 != 0) = false := bne_eq_false_iff_eq.mpr c20
       clear c20
       by_cases c21 : a0_0 = 3
       ·rw [if_pos c21] at H
        have c21b0 : (a0_0 == 3) = true := beq_iff_eq.mpr c21
        have c21b1 : (a0_0 != 3) = false := bne_eq_false_iff_eq.mpr c21
        clear c21
        have H' := Aside0.mk H
        clear H
        obtain ⟨hcz22_0, hcz22_1, hcz22_2, hcz22_3, hcz22_4, hcz22_5, hcz22_6, hfz22_0, hfz22_1, hfz22_2, hfz22_3, hfz22_4, hfz22_5, hfz22_6⟩ := blk7 BK115.out
        go_wp2
        go_meet
        case rel => exact ⟨_, (false), (by first | rfl | (simp; done) | (simp [*]; done) | (simp; exact (fun l : List UInt8 => (by cases l <;> rfl : l.isEmpty = !(l != []))) _)), H', ⟨by first | omega | exact Nat.le_refl _⟩, ⟨by (with_reducible repeat (first | refine blk_drewN ?_ _ | refine blk_drew ?_ | refine blk_alloc ?_ _)); exact BK115.out⟩, ⟨by repeat (first | (with_reducible first | exact HB.out | apply below_alloc | apply pw_below_drewN | apply below_drew1 | refine below_set ?_ GE115.out) | exact HB.out)⟩⟩
       ·rw [if_neg c21] at H
        have c21b0 : (a0_0 == 3) = false := beq_eq_false_iff_ne.mpr c21
        have c21b1 : (a0_0 != 3) = true := bne_iff_ne.mpr c21
        have H' := Aside0.mk H
        clear H
        obtain ⟨hcz23_0, hcz23_1, hcz23_2, hcz23_3, hcz23_4, hcz23_5, hcz23_6, hfz23_0, hfz23_1, hfz23_2, hfz23_3, hfz23_4, hfz23_5, hfz23_6⟩ := blk7 BK115.out
        go_wp2
        go_meet
        case rel => exact ⟨_, ((a0_3 != 0)), (by first | rfl | (simp; done) | (simp [*]; done) | (simp; exact (fun l : List UInt8 => (by cases l <;> rfl : l.isEmpty = !(l != []))) _)), H', ⟨by first | omega | exact Nat.le_refl _⟩, ⟨by (with_reducible repeat (first | refine blk_drewN ?_ _ | refine blk_drew ?_ | refine blk_alloc ?_ _)); exact BK115.out⟩, ⟨by repeat (first | (with_reducible first | exact HB.out | apply below_alloc | apply pw_below_drewN | apply below_drew1 | refine below_set ?_ GE115.out) | exact HB.out)⟩⟩
      ·rw [if_neg c20] at H
       have c20b0 : (a0_2 == 0) = false := beq_eq_false_iff_ne.mpr c20
       have c20b1 : (a0_2 != 0) = true := bne_iff_ne.mpr c20
       have H' := Aside0.mk H
       clear H
       obtain ⟨hcz24_0, hcz24_1, hcz24_2, hcz24_3, hcz24_4, hcz24_5, hcz24_6, hfz24_0, hfz24_1, hfz24_2, hfz24_3, hfz24_4, hfz24_5, hfz24_6⟩ := blk7 BK115.out
       go_wp2
       go_meet
       case rel => exact ⟨_, (true), (by first | rfl | (simp; done) | (simp [*]; done) | (simp; exact (fun l : List UInt8 => (by cases l <;> rfl : l.isEmpty = !(l != []))) _)), H', ⟨by first | omega | exact Nat.le_refl _⟩, ⟨by (with_reducible repeat (first | refine blk_drewN ?_ _ | refine blk_drew ?_ | refine blk_alloc ?_ _)); exact BK115.out⟩, ⟨by repeat (first | (with_reducible first | exact HB.out | apply below_alloc | apply pw_below_drewN | apply below_drew1 | refine below_set ?_ GE115.out) | exact HB.out)⟩⟩
    ·rw [if_neg c15] at H
     have c15b0 : (a0_0 == 6) = false := beq_eq_false_iff_ne.mpr c15
     have c15b1 : (a0_0 != 6) = true := bne_iff_ne.mpr c15
     by_cases c25 : (l0_5.length : Int) > 0
     ·rw [if_pos c25] at H
      have c25b0 : decide (0 < (l0_5.length : Int)) = true := decide_eq_true c25
      have c25b1 : decide (0 < l0_5.length) = true := decide_eq_true (by omega)
      clear c25
      have H' := Aside0.mk H
      clear H
      obtain ⟨hcz26_0, hcz26_1, hcz26_2, hcz26_3, hcz26_4, hcz26_5, hcz26_6, hfz26_0, hfz26_1, hfz26_2, hfz26_3, hfz26_4, hfz26_5, hfz26_6⟩ := blk7 BK115.out
      go_wp2
      go_meet
      case rel => exact ⟨_, (true), (by first | rfl | (simp; done) | (simp [*]; done) | (simp; exact (fun l : List UInt8 => (by cases l <;> rfl : l.isEmpty = !(l != []))) _)), H', ⟨by first | omega | exact Nat.le_refl _⟩, ⟨by (with_reducible repeat (first | refine blk_drewN ?_ _ | refine blk_drew ?_ | refine blk_alloc ?_ _)); exact BK115.out⟩, ⟨by repeat (first | (with_reducible first | exact HB.out | apply below_alloc | apply pw_below_drewN | apply below_drew1 | refine below_set ?_ GE115.out) | exact HB.out)⟩⟩
     ·rw [if_neg c25] at H
      have c25b0 : decide (0 < (l0_5.length : Int)) = false := decide_eq_false c25
      have c25b1 : decide (0 < l0_5.length) = false := decide_eq_false (by omega)
      clear c25
      by_cases c27 : a0_0 = 2
      ·rw [if_pos c27] at H
       have c27b0 : (a0_0 == 2) = true := beq_iff_eq.mpr c27
       have c27b1 : (a0_0 != 2) = false := bne_eq_false_iff_eq.mpr c27
       clear c27
       by_cases c28 : a0_0 = 3
       ·rw [if_pos c28] at H
        have c28b0 : (a0_0 == 3) = true := beq_iff_eq.mpr c28
        have c28b1 : (a0_0 != 3) = false := bne_eq_false_iff_eq.mpr c28
        clear c28
        have H' := Aside0.mk H
        clear H
        obtain ⟨hcz29_0, hcz29_1, hcz29_2, hcz29_3, hcz29_4, hcz29_5, hcz29_6, hfz29_0, hfz29_1, hfz29_2, hfz29_3, hfz29_4, hfz29_5, hfz29_6⟩ := blk7 BK115.out
        go_wp2
        go_meet
        case rel => exact ⟨_, (false), (by first | rfl | (simp; done) | (simp [*]; done) | (simp; exact (fun l : List UInt8 => (by cases l <;> rfl : l.isEmpty = !(l != []))) _)), H', ⟨by first | omega | exact Nat.le_refl _⟩, ⟨by (with_reducible repeat (first | refine blk_drewN ?_ _ | refine blk_drew ?_ | refine blk_alloc ?_ _)); exact BK115.out⟩, ⟨by repeat (first | (with_reducible first | exact HB.out | apply below_alloc | apply pw_below_drewN | apply below_drew1 | refine below_set ?_ GE115.out) | exact HB.out)⟩⟩
       ·rw [if_neg c28] at H
        have c28b0 : (a0_0 == 3) = false := beq_eq_false_iff_ne.mpr c28
        have c28b1 : (a0_0 != 3) = true := bne_iff_ne.mpr c28
        have H' := Aside0.mk H
        clear H
        obtain ⟨hcz30_0, hcz30_1, hcz30_2, hcz30_3, hcz30_4, hcz30_5, hcz30_6, hfz30_0, hfz30_1, hfz30_2, hfz30_3, hfz30_4, hfz30_5, hfz30_6⟩ := blk7 BK115.out
        go_wp2
        go_meet
        case rel => exact ⟨_, ((a0_3 != 0)), (by first | rfl | (simp; done) | (simp [*]; done) | (simp; exact (fun l : List UInt8 => (by cases l <;> rfl : l.isEmpty = !(l != []))) _)), H', ⟨by first | omega | exact Nat.le_refl _⟩, ⟨by (with_reducible repeat (first | refine blk_drewN ?_ _ | refine blk_drew ?_ | refine blk_alloc ?_ _)); exact BK115.out⟩, ⟨by repeat (first | (with_reducible first | exact HB.out | apply below_alloc | apply pw_below_drewN | apply below_drew1 | refine below_set ?_ GE115.out) | exact HB.out)⟩⟩
      ·rw [if_neg c27] at H
       have c27b0 : (a0_0 == 2) = false := beq_eq_false_iff_ne.mpr c27
       have c27b1 : (a0_0 != 2) = true := bne_iff_ne.mpr c27
       by_cases c31 : a0_2 = 0
       ·rw [if_pos c31] at H
        have c31b0 : (a0_2 == 0) = true := beq_iff_eq.mpr c31
        have c31b1 : (a0_2 != 0) = false := bne_eq_false_iff_eq.mpr c31
        clear c31
        by_cases c32 : a0_0 = 3
        ·rw [if_pos c32] at H
         have c32b0 : (a0_0 == 3) = true := beq_iff_eq.mpr c32
         have c32b1 : (a0_0 != 3) = false := bne_eq_false_iff_eq.mpr c32
         clear c32
         have H' := Aside0.mk H
         clear H
         obtain ⟨hcz33_0, hcz33_1, hcz33_2, hcz33_3, hcz33_4, hcz33_5, hcz33_6, hfz33_0, hfz33_1, hfz33_2, hfz33_3, hfz33_4, hfz33_5, hfz33_6⟩ := blk7 BK115.out
         go_wp2
         go_meet
         case rel => exact ⟨_, (false), (by first | rfl | (simp; done) | (simp [*]; done) | (simp; exact (fun l : List UInt8 => (by cases l <;> rfl : l.isEmpty = !(l != []))) _)), H', ⟨by first | omega | exact Nat.le_refl _⟩, ⟨by (with_reducible repeat (first | refine blk_drewN ?_ _ | refine blk_drew ?_ | refine blk_alloc ?_ _)); exact BK115.out⟩, ⟨by repeat (first | (with_reducible first | exact HB.out | apply below_alloc | apply pw_below_drewN | apply below_drew1 | refine below_set ?_ GE115.out) | exact HB.out)⟩⟩
        ·rw [if_neg c32] at H
         have c32b0 : (a0_0 == 3) = false := beq_eq_false_iff_ne.mpr c32
         have c32b1 : (a0_0 != 3) = true := bne_iff_ne.mpr c32
         have H' := Aside0.mk H
         clear H
         obtain ⟨hcz34_0, hcz34_1, hcz34_2, hcz34_3, hcz34_4, hcz34_5, hcz34_6, hfz34_0, hfz34_1, hfz34_2, hfz34_3, hfz34_4, hfz34_5, hfz34_6⟩ := blk7 BK115.out
         go_wp2
         go_meet
         case rel => exact ⟨_, ((a0_3 != 0)), (by first | rfl | (simp; done) | (simp [*]; done) | (simp; exact (fun l : List UInt8 => (by cases l <;> rfl : l.isEmpty = !(l != []))) _)), H', ⟨by first | omega | exact Nat.le_refl _⟩, ⟨by (with_reducible repeat (first | refine blk_drewN ?_ _ | refine blk_drew ?_ | refine blk_alloc ?_ _)); exact BK115.out⟩, ⟨by repeat (first | (with_reducible first | exact HB.out | apply below_alloc | apply pw_below_drewN | apply below_drew1 | refine below_set ?_ GE115.out) | exact HB.out)⟩⟩
       ·rw [if_neg c31] at H
        have c31b0 : (a0_2 == 0) = false := beq_eq_false_iff_ne.mpr c31
        have c31b1 : (a0_2 != 0) = true := bne_iff_ne.mpr c31
        have H' := Aside0.mk H
        clear H
        obtain ⟨hcz35_0, hcz35_1, hcz35_2, hcz35_3, hcz35_4, hcz35_5, hcz35_6, hfz35_0, hfz35_1, hfz35_2, hfz35_3, hfz35_4, hfz35_5, hfz35_6⟩ := blk7 BK115.out
        go_wp2
        go_meet
        case rel => exact ⟨_, (true), (by first | rfl | (simp; done) | (simp [*]; done) | (simp; exact (fun l : List UInt8 => (by cases l <;> rfl : l.isEmpty = !(l != []))) _)), H', ⟨by first | omega | exact Nat.le_refl _⟩, ⟨by (with_reducible repeat (first | refine blk_drewN ?_ _ | refine blk_drew ?_ | refine blk_alloc ?_ _)); exact BK115.out⟩, ⟨by repeat (first | (with_reducible first | exact HB.out | apply below_alloc | apply pw_below_drewN | apply below_drew1 | refine below_set ?_ GE115.out) | exact HB.out)⟩⟩
  ·rw [if_neg c4] at H
   have c4b0 : (a0_4.toList == ([] : List UInt8)) = false := beq_eq_false_iff_ne.mpr c4
   have c4b1 : (a0_4.toList != ([] : List UInt8)) = true := bne_iff_ne.mpr c4
   (first | rw [c4b0] | (simp only [i64_w, i32_w]; rw [c4b0]) | skip)
   replace H := Option.bind_eq_some_iff.mp H
   obtain ⟨t116, A360, H⟩ := H
   replace H : (if t116 = true then (if a0_0 = 1 then (if a0_0 = 2 then (if a0_0 = 3 then (tree_may.j0 k false a0_0 a0_1 a0_2 a0_3 a0_4 l0_5 a0_6) else (tree_may.j0 k (a0_3 != 0) a0_0 a0_1 a0_2 a0_3 a0_4 l0_5 a0_6)) else (if a0_2 = 0 then (if a0_0 = 3 then (tree_may.j0 k false a0_0 a0_1 a0_2 a0_3 a0_4 l0_5 a0_6) else (tree_may.j0 k (a0_3 != 0) a0_0 a0_1 a0_2 a0_3 a0_4 l0_5 a0_6)) else (tree_may.j0 k true a0_0 a0_1 a0_2 a0_3 a0_4 l0_5 a0_6))) else (if a0_0 = 6 then (if a0_0 = 2 then (if a0_0 = 3 then (tree_may.j0 k false a0_0 a0_1 a0_2 a0_3 a0_4 l0_5 a0_6) else (tree_may.j0 k (a0_3 != 0) a0_0 a0_1 a0_2 a0_3 a0_4 l0_5 a0_6)) else (if a0_2 = 0 then (if a0_0 = 3 then (tree_may.j0 k false a0_0 a0_1 a0_2 a0_3 a0_4 l0_5 a0_6) else (tree_may.j0 k (a0_3 != 0) a0_0 a0_1 a0_2 a0_3 a0_4 l0_5 a0_6)) else (tree_may.j0 k true a0_0 a0_1 a0_2 a0_3 a0_4 l0_5 a0_6))) else (if (l0_5.length : Int) > 0 then (tree_may.j0 k true a0_0 a0_1 a0_2 a0_3 a0_4 l0_5 a0_6) else (if a0_0 = 2 then (if a0_0 = 3 then (tree_may.j0 k false a0_0 a0_1 a0_2 a0_3 a0_4 l0_5 a0_6) else (tree_may.j0 k (a0_3 != 0) a0_0 a0_1 a0_2 a0_3 a0_4 l0_5 a0_6)) else (if a0_2 = 0 then (if a0_0 = 3 then (tree_may.j0 k false a0_0 a0_1 a0_2 a0_3 a0_4 l0_5 a0_6) else (tree_may.j0 k (a0_3 != 0) a0_0 a0_1 a0_2 a0_3 a0_4 l0_5 a0_6)) else (tree_may.j0 k true a0_0 a0_1 a0_2 a0_3 a0_4 l0_5 a0_6)))))) else (tree_may.j0 k true a0_0 a0_1 a0_2 a0_3 a0_4 l0_5 a0_6)) = some r := H
   have A36 := Aside0.mk A360
   clear A360
   by_cases c37 : t116 = true
   ·subst c37
    have H1 : (if a0_0 = 1 then (if a0_0 = 2 then (if a0_0 = 3 then (tree_may.j0 k false a0_0 a0_1 a0_2 a0_3 a0_4 l0_5 a0_6) else (tree_may.j0 k (a0_3 != 0) a0_0 a0_1 a0_2 a0_3 a0_4 l0_5 a0_6)) else (if a0_2 = 0 then (if a0_0 = 3 then (tree_may.j0 k false a0_0 a0_1 a0_2 a0_3 a0_4 l0_5 a0_6) else (tree_may.j0 k (a0_3 != 0) a0_0 a0_1 a0_2 a0_3 a0_4 l0_5 a0_6)) else (tree_may.j0 k true a0_0 a0_1 a0_2 a0_3 a0_4 l0_5 a0_6))) else (if a0_0 = 6 then (if a0_0 = 2 then (if a0_0 = 3 then (tree_may.j0 k false a0_0 a0_1 a0_2 a0_3 a0_4 l0_5 a0_6) else (tree_may.j0 k (a0_3 != 0) a0_0 a0_1 a0_2 a0_3 a0_4 l0_5 a0_6)) else (if a0_2 = 0 then (if a0_0 = 3 then (tree_may.j0 k false a0_0 a0_1 a0_2 a0_3 a0_4 l0_5 a0_6) else (tree_may.j0 k (a0_3 != 0) a0_0 a0_1 a0_2 a0_3 a0_4 l0_5 a0_6)) else (tree_may.j0 k true a0_0 a0_1 a0_2 a0_3 a0_4 l0_5 a0_6))) else (if (l0_5.length : Int) > 0 then (tree_may.j0 k true a0_0 a0_1 a0_2 a0_3 a0_4 l0_5 a0_6) else (if a0_0 = 2 then (if a0_0 = 3 then (tree_may.j0 k false a0_0 a0_1 a0_2 a0_3 a0_4 l0_5 a0_6) else (tree_may.j0 k (a0_3 != 0) a0_0 a0_1 a0_2 a0_3 a0_4 l0_5 a0_6)) else (if a0_2 = 0 then (if a0_0 = 3 then (tree_may.j0 k false a0_0 a0_1 a0_2 a0_3 a0_4 l0_5 a0_6) else (tree_may.j0 k (a0_3 != 0) a0_0 a0_1 a0_2 a0_3 a0_4 l0_5 a0_6)) else (tree_may.j0 k true a0_0 a0_1 a0_2 a0_3 a0_4 l0_5 a0_6)))))) = some r := by rw [if_pos rfl] at H; exact H
    clear H
    have H := H1
    clear H1
    by_cases c38 : a0_0 = 1
    ·rw [if_pos c38] at H
     have c38b0 : (a0_0 == 1) = true := beq_iff_eq.mpr c38
     have c38b1 : (a0_0 != 1) = false := bne_eq_false_iff_eq.mpr c38
     clear c38
     by_cases c39 : a0_0 = 2
     ·rw [if_pos c39] at H
      have c39b0 : (a0_0 == 2) = true := beq_iff_eq.mpr c39
      have c39b1 : (a0_0 != 2) = false := bne_eq_false_iff_eq.mpr c39
      clear c39
      by_cases c40 : a0_0 = 3
      ·rw [if_pos c40] at H
       have c40b0 : (a0_0 == 3) = true := beq_iff_eq.mpr c40
       have c40b1 : (a0_0 != 3) = false := bne_eq_false_iff_eq.mpr c40
       clear c40
       have H' := Aside0.mk H
       clear H
       obtain ⟨hcz41_0, hcz41_1, hcz41_2, hcz41_3, hcz41_4, hcz41_5, hcz41_6, hfz41_0, hfz41_1, hfz41_2, hfz41_3, hfz41_4, hfz41_5, hfz41_6⟩ := blk7 BK115.out
       go_wp2_with (first | (go_at_call 41; (with_reducible refine (tree_named.calls k a0_4 true _ A36.out).mono ?_); rintro e w' ⟨rfl, ⟨nd, rfl⟩⟩))
       go_meet
       case rel => exact ⟨_, (false), (by first | rfl | (simp; done) | (simp [*]; done) | (simp; exact (fun l : List UInt8 => (by cases l <;> rfl : l.isEmpty = !(l != []))) _)), H', ⟨by first | omega | exact Nat.le_refl _⟩, ⟨by (with_reducible repeat (first | refine blk_drewN ?_ _ | refine blk_drew ?_ | refine blk_alloc ?_ _)); exact BK115.out⟩, ⟨by repeat (first | (with_reducible first | exact HB.out | apply below_alloc | apply pw_below_drewN | apply below_drew1 | refine below_set ?_ GE115.out) | exact HB.out)⟩⟩
      ·rw [if_neg c40] at H
       have c40b0 : (a0_0 == 3) = false := beq_eq_false_iff_ne.mpr c40
       have c40b1 : (a0_0 != 3) = true := bne_iff_ne.mpr c40
       have H' := Aside0.mk H
       clear H
       obtain ⟨hcz42_0, hcz42_1, hcz42_2, hcz42_3, hcz42_4, hcz42_5, hcz42_6, hfz42_0, hfz42_1, hfz42_2, hfz42_3, hfz42_4, hfz42_5, hfz42_6⟩ := blk7 BK115.out
       go_wp2_with (first | (go_at_call 41; (with_reducible refine (tree_named.calls k a0_4 true _ A36.out).mono ?_); rintro e w' ⟨rfl, ⟨nd, rfl⟩⟩))
       go_meet
       case rel => exact ⟨_, ((a0_3 != 0)), (by first | rfl | (simp; done) | (simp [*]; done) | (simp; exact (fun l : List UInt8 => (by cases l <;> rfl : l.isEmpty = !(l != []))) _)), H', ⟨by first | omega | exact Nat.le_refl _⟩, ⟨by (with_reducible repeat (first | refine blk_drewN ?_ _ | refine blk_drew ?_ | refine blk_alloc ?_ _)); exact BK115.out⟩, ⟨by repeat (first | (with_reducible first | exact HB.out | apply below_alloc | apply pw_below_drewN | apply below_drew1 | refine below_set ?_ GE115.out) | exact HB.out)⟩⟩
     ·rw [if_neg c39] at H
      have c39b0 : (a0_0 == 2) = false := beq_eq_false_iff_ne.mpr c39
      have c39b1 : (a0_0 != 2) = true := bne_iff_ne.mpr c39
      by_cases c43 : a0_2 = 0
      ·rw [if_pos c43] at H
       have c43b0 : (a0_2 == 0) = true := beq_iff_eq.mpr c43
       have c43b1 : (a0_2 != 0) = false := bne_eq_false_iff_eq.mpr c43
       clear c43
       by_cases c44 : a0_0 = 3
       ·rw [if_pos c44] at H
        have c44b0 : (a0_0 == 3) = true := beq_iff_eq.mpr c44
        have c44b1 : (a0_0 != 3) = false := bne_eq_false_iff_eq.mpr c44
        clear c44
        have H' := Aside0.mk H
        clear H
        obtain ⟨hcz45_0, hcz45_1, hcz45_2, hcz45_3, hcz45_4, hcz45_5, hcz45_6, hfz45_0, hfz45_1, hfz45_2, hfz45_3, hfz45_4, hfz45_5, hfz45_6⟩ := blk7 BK115.out
        go_wp2_with (first | (go_at_call 41; (with_reducible refine (tree_named.calls k a0_4 true _ A36.out).mono ?_); rintro e w' ⟨rfl, ⟨nd, rfl⟩⟩))
        go_meet
        case rel => exact ⟨_, (false), (by first | rfl | (simp; done) | (simp [*]; done) | (simp; exact (fun l : List UInt8 => (by cases l <;> rfl : l.isEmpty = !(l != []))) _)), H', ⟨by first | omega | exact Nat.le_refl _⟩, ⟨by (with_reducible repeat (first | refine blk_drewN ?_ _ | refine blk_drew ?_ | refine blk_alloc ?_ _)); exact BK115.out⟩, ⟨by repeat (first | (with_reducible first | exact HB.out | apply below_alloc | apply pw_below_drewN | apply below_drew1 | refine below_set ?_ GE115.out) | exact HB.out)⟩⟩
       ·rw [if_neg c44] at H
        have c44b0 : (a0_0 == 3) = false := beq_eq_false_iff_ne.mpr c44
        have c44b1 : (a0_0 != 3) = true := bne_iff_ne.mpr c44
        have H' := Aside0.mk H
        clear H
        obtain ⟨hcz46_0, hcz46_1, hcz46_2, hcz46_3, hcz46_4, hcz46_5, hcz46_6, hfz46_0, hfz46_1, hfz46_2, hfz46_3, hfz46_4, hfz46_5, hfz46_6⟩ := blk7 BK115.out
        go_wp2_with (first | (go_at_call 41; (with_reducible refine (tree_named.calls k a0_4 true _ A36.out).mono ?_); rintro e w' ⟨rfl, ⟨nd, rfl⟩⟩))
        go_meet
        case rel => exact ⟨_, ((a0_3 != 0)), (by first | rfl | (simp; done) | (simp [*]; done) | (simp; exact (fun l : List UInt8 => (by cases l <;> rfl : l.isEmpty = !(l != []))) _)), H', ⟨by first | omega | exact Nat.le_refl _⟩, ⟨by (with_reducible repeat (first | refine blk_drewN ?_ _ | refine blk_drew ?_ | refine blk_alloc ?_ _)); exact BK115.out⟩, ⟨by repeat (first | (with_reducible first | exact HB.out | apply below_alloc | apply pw_below_drewN | apply below_drew1 | refine below_set ?_ GE115.out) | exact HB.out)⟩⟩
      ·rw [if_neg c43] at H
       have c43b0 : (a0_2 == 0) = false := beq_eq_false_iff_ne.mpr c43
       have c43b1 : (a0_2 != 0) = true := bne_iff_ne.mpr c43
       have H' := Aside0.mk H
       clear H
       obtain ⟨hcz47_0, hcz47_1, hcz47_2, hcz47_3, hcz47_4, hcz47_5, hcz47_6, hfz47_0, hfz47_1, hfz47_2, hfz47_3, hfz47_4, hfz47_5, hfz47_6⟩ := blk7 BK115.out
       go_wp2_with (first | (go_at_call 41; (with_reducible refine (tree_named.calls k a0_4 true _ A36.out).mono ?_); rintro e w' ⟨rfl, ⟨nd, rfl⟩⟩))
       go_meet
       case rel => exact ⟨_, (true), (by first | rfl | (simp; done) | (simp [*]; done) | (simp; exact (fun l : List UInt8 => (by cases l <;> rfl : l.isEmpty = !(l != []))) _)), H', ⟨by first | omega | exact Nat.le_refl _⟩, ⟨by (with_reducible repeat (first | refine blk_drewN ?_ _ | refine blk_drew ?_ | refine blk_alloc ?_ _)); exact BK115.out⟩, ⟨by repeat (first | (with_reducible first | exact HB.out | apply below_alloc | apply pw_below_drewN | apply below_drew1 | refine below_set ?_ GE115.out) | exact HB.out)⟩⟩
    ·rw [if_neg c38] at H
     have c38b0 : (a0_0 == 1) = false := beq_eq_false_iff_ne.mpr c38
     have c38b1 : (a0_0 != 1) = true := bne_iff_ne.mpr c38
     by_cases c48 : a0_0 = 6
     ·rw [if_pos c48] at H
      have c48b0 : (a0_0 == 6) = true := beq_iff_eq.mpr c48
      have c48b1 : (a0_0 != 6) = false := bne_eq_false_iff_eq.mpr c48
      clear c48
      by_cases c49 : a0_0 = 2
      ·rw [if_pos c49] at H
       have c49b0 : (a0_0 == 2) = true := beq_iff_eq.mpr c49
       have c49b1 : (a0_0 != 2) = false := bne_eq_false_iff_eq.mpr c49
       clear c49
       by_cases c50 : a0_0 = 3
       ·rw [if_pos c50] at H
        have c50b0 : (a0_0 == 3) = true := beq_iff_eq.mpr c50
        have c50b1 : (a0_0 != 3) = false := bne_eq_false_iff_eq.mpr c50
        clear c50
        have H' := Aside0.mk H
        clear H
        obtain ⟨hcz51_0, hcz51_1, hcz51_2, hcz51_3, hcz51_4, hcz51_5, hcz51_6, hfz51_0, hfz51_1, hfz51_2, hfz51_3, hfz51_4, hfz51_5, hfz51_6⟩ := blk7 BK115.out
        go_wp2_with (first | (go_at_call 41; (with_reducible refine (tree_named.calls k a0_4 true _ A36.out).mono ?_); rintro e w' ⟨rfl, ⟨nd, rfl⟩⟩))
        go_meet
        case rel => exact ⟨_, (false), (by first | rfl | (simp; done) | (simp [*]; done) | (simp; exact (fun l : List UInt8 => (by cases l <;> rfl : l.isEmpty = !(l != []))) _)), H', ⟨by first | omega | exact Nat.le_refl _⟩, ⟨by (with_reducible repeat (first | refine blk_drewN ?_ _ | refine blk_drew ?_ | refine blk_alloc ?_ _)); exact BK115.out⟩, ⟨by repeat (first | (with_reducible first | exact HB.out | apply below_alloc | apply pw_below_drewN | apply below_drew1 | refine below_set ?_ GE115.out) | exact HB.out)⟩⟩
       ·rw [if_neg c50] at H
        have c50b0 : (a0_0 == 3) = false := beq_eq_false_iff_ne.mpr c50
        have c50b1 : (a0_0 != 3) = true := bne_iff_ne.mpr c50
        have H' := Aside0.mk H
        clear H
        obtain ⟨hcz52_0, hcz52_1, hcz52_2, hcz52_3, hcz52_4, hcz52_5, hcz52_6, hfz52_0, hfz52_1, hfz52_2, hfz52_3, hfz52_4, hfz52_5, hfz52_6⟩ := blk7 BK115.out
        go_wp2_with (first | (go_at_call 41; (with_reducible refine (tree_named.calls k a0_4 true _ A36.out).mono ?_); rintro e w' ⟨rfl, ⟨nd, rfl⟩⟩))
        go_meet
        case rel => exact ⟨_, ((a0_3 != 0)), (by first | rfl | (simp; done) | (simp [*]; done) | (simp; exact (fun l : List UInt8 => (by cases l <;> rfl : l.isEmpty = !(l != []))) _)), H', ⟨by first | omega | exact Nat.le_refl _⟩, ⟨by (with_reducible repeat (first | refine blk_drewN ?_ _ | refine blk_drew ?_ | refine blk_alloc ?_ _)); exact BK115.out⟩, ⟨by repeat (first | (with_reducible first | exact HB.out | apply below_alloc | apply pw_below_drewN | apply below_drew1 | refine below_set ?_ GE115.out) | exact HB.out)⟩⟩
      ·rw [if_neg c49] at H
       have c49b0 : (a0_0 == 2) = false := beq_eq_false_iff_ne.mpr c49
       have c49b1 : (a0_0 != 2) = true := bne_iff_ne.mpr c49
       by_cases c53 : a0_2 = 0
       ·rw [if_pos c53] at H
        have c53b0 : (a0_2 == 0) = true := beq_iff_eq.mpr c53
        have c53b1 : (a0_2 != 0) = false := bne_eq_false_iff_eq.mpr c53
        clear c53
        by_cases c54 : a0_0 = 3
        ·rw [if_pos c54] at H
         have c54b0 : (a0_0 == 3) = true := beq_iff_eq.mpr c54
         have c54b1 : (a0_0 != 3) = false := bne_eq_false_iff_eq.mpr c54
         clear c54
         have H' := Aside0.mk H
         clear H
         obtain ⟨hcz55_0, hcz55_1, hcz55_2, hcz55_3, hcz55_4, hcz55_5, hcz55_6, hfz55_0, hfz55_1, hfz55_2, hfz55_3, hfz55_4, hfz55_5, hfz55_6⟩ := blk7 BK115.out
         go_wp2_with (first | (go_at_call 41; (with_reducible refine (tree_named.calls k a0_4 true _ A36.out).mono ?_); rintro e w' ⟨rfl, ⟨nd, rfl⟩⟩))
         go_meet
         case rel => exact ⟨_, (false), (by first | rfl | (simp; done) | (simp [*]; done) | (simp; exact (fun l : List UInt8 => (by cases l <;> rfl : l.isEmpty = !(l != []))) _)), H', ⟨by first | omega | exact Nat.le_refl _⟩, ⟨by (with_reducible repeat (first | refine blk_drewN ?_ _ | refine blk_drew ?_ | refine blk_alloc ?_ _)); exact BK115.out⟩, ⟨by repeat (first | (with_reducible first | exact HB.out | apply below_alloc | apply pw_below_drewN | apply below_drew1 | refine below_set ?_ GE115.out) | exact HB.out)⟩⟩
        ·rw [if_neg c54] at H
         have c54b0 : (a0_0 == 3) = false := beq_eq_false_iff_ne.mpr c54
         have c54b1 : (a0_0 != 3) = true := bne_iff_ne.mpr c54
         have H' := Aside0.mk H
         clear H
         obtain ⟨hcz56_0, hcz56_1, hcz56_2, hcz56_3, hcz56_4, hcz56_5, hcz56_6, hfz56_0, hfz56_1, hfz56_2, hfz56_3, hfz56_4, hfz56_5, hfz56_6⟩ := blk7 BK115.out
         go_wp2_with (first | (go_at_call 41; (with_reducible refine (tree_named.calls k a0_4 true _ A36.out).mono ?_); rintro e w' ⟨rfl, ⟨nd, rfl⟩⟩))
         go_meet
         case rel => exact ⟨_, ((a0_3 != 0)), (by first | rfl | (simp; done) | (simp [*]; done) | (simp; exact (fun l : List UInt8 => (by cases l <;> rfl : l.isEmpty = !(l != []))) _)), H', ⟨by first | omega | exact Nat.le_refl _⟩, ⟨by (with_reducible repeat (first | refine blk_drewN ?_ _ | refine blk_drew ?_ | refine blk_alloc ?_ _)); exact BK115.out⟩, ⟨by repeat (first | (with_reducible first | exact HB.out | apply below_alloc | apply pw_below_drewN | apply below_drew1 | refine below_set ?_ GE115.out) | exact HB.out)⟩⟩
       ·rw [if_neg c53] at H
        have c53b0 : (a0_2 == 0) = false := beq_eq_false_iff_ne.mpr c53
        have c53b1 : (a0_2 != 0) = true := bne_iff_ne.mpr c53
        have H' := Aside0.mk H
        clear H
        obtain ⟨hcz57_0, hcz57_1, hcz57_2, hcz57_3, hcz57_4, hcz57_5, hcz57_6, hfz57_0, hfz57_1, hfz57_2, hfz57_3, hfz57_4, hfz57_5, hfz57_6⟩ := blk7 BK115.out
        go_wp2_with (first | (go_at_call 41; (with_reducible refine (tree_named.calls k a0_4 true _ A36.out).mono ?_); rintro e w' ⟨rfl, ⟨nd, rfl⟩⟩))
        go_meet
        case rel => exact ⟨_, (true), (by first | rfl | (simp; done) | (simp [*]; done) | (simp; exact (fun l : List UInt8 => (by cases l <;> rfl : l.isEmpty = !(l != []))) _)), H', ⟨by first | omega | exact Nat.le_refl _⟩, ⟨by (with_reducible repeat (first | refine blk_drewN ?_ _ | refine blk_drew ?_ | refine blk_alloc ?_ _)); exact BK115.out⟩, ⟨by repeat (first | (with_reducible first | exact HB.out | apply below_alloc | apply pw_below_drewN | apply below_drew1 | refine below_set ?_ GE115.out) | exact HB.out)⟩⟩
     ·rw [if_neg c48] at H
      have c48b0 : (a0_0 == 6) = false := beq_eq_false_iff_ne.mpr c48
      have c48b1 : (a0_0 != 6) = true := bne_iff_ne.mpr c48
      by_cases c58 : (l0_5.length : Int) > 0
      ·rw [if_pos c58] at H
       have c58b0 : decide (0 < (l0_5.length : Int)) = true := decide_eq_true c58
       have c58b1 : decide (0 < l0_5.length) = true := decide_eq_true (by omega)
       clear c58
       have H' := Aside0.mk H
       clear H
       obtain ⟨hcz59_0, hcz59_1, hcz59_2, hcz59_3, hcz59_4, hcz59_5, hcz59_6, hfz59_0, hfz59_1, hfz59_2, hfz59_3, hfz59_4, hfz59_5, hfz59_6⟩ := blk7 BK115.out
       go_wp2_with (first | (go_at_call 41; (with_reducible refine (tree_named.calls k a0_4 true _ A36.out).mono ?_); rintro e w' ⟨rfl, ⟨nd, rfl⟩⟩))
       go_meet
       case rel => exact ⟨_, (true), (by first | rfl | (simp; done) | (simp [*]; done) | (simp; exact (fun l : List UInt8 => (by cases l <;> rfl : l.isEmpty = !(l != []))) _)), H', ⟨by first | omega | exact Nat.le_refl _⟩, ⟨by (with_reducible repeat (first | refine blk_drewN ?_ _ | refine blk_drew ?_ | refine blk_alloc ?_ _)); exact BK115.out⟩, ⟨by repeat (first | (with_reducible first | exact HB.out | apply below_alloc | apply pw_below_drewN | apply below_drew1 | refine below_set ?_ GE115.out) | exact HB.out)⟩⟩
      ·rw [if_neg c58] at H
       have c58b0 : decide (0 < (l0_5.length : Int)) = false := decide_eq_false c58
       have c58b1 : decide (0 < l0_5.length) = false := decide_eq_false (by omega)
       clear c58
       by_cases c60 : a0_0 = 2
       ·rw [if_pos c60] at H
        have c60b0 : (a0_0 == 2) = true := beq_iff_eq.mpr c60
        have c60b1 : (a0_0 != 2) = false := bne_eq_false_iff_eq.mpr c60
        clear c60
        by_cases c61 : a0_0 = 3
        ·rw [if_pos c61] at H
         have c61b0 : (a0_0 == 3) = true := beq_iff_eq.mpr c61
         have c61b1 : (a0_0 != 3) = false := bne_eq_false_iff_eq.mpr c61
         clear c61
         have H' := Aside0.mk H
         clear H
         obtain ⟨hcz62_0, hcz62_1, hcz62_2, hcz62_3, hcz62_4, hcz62_5, hcz62_6, hfz62_0, hfz62_1, hfz62_2, hfz62_3, hfz62_4, hfz62_5, hfz62_6⟩ := blk7 BK115.out
         go_wp2_with (first | (go_at_call 41; (with_reducible refine (tree_named.calls k a0_4 true _ A36.out).mono ?_); rintro e w' ⟨rfl, ⟨nd, rfl⟩⟩))
         go_meet
         case rel => exact ⟨_, (false), (by first | rfl | (simp; done) | (simp [*]; done) | (simp; exact (fun l : List UInt8 => (by cases l <;> rfl : l.isEmpty = !(l != []))) _)), H', ⟨by first | omega | exact Nat.le_refl _⟩, ⟨by (with_reducible repeat (first | refine blk_drewN ?_ _ | refine blk_drew ?_ | refine blk_alloc ?_ _)); exact BK115.out⟩, ⟨by repeat (first | (with_reducible first | exact HB.out | apply below_alloc | apply pw_below_drewN | apply below_drew1 | refine below_set ?_ GE115.out) | exact HB.out)⟩⟩
        ·rw [if_neg c61] at H
         have c61b0 : (a0_0 == 3) = false := beq_eq_false_iff_ne.mpr c61
         have c61b1 : (a0_0 != 3) = true := bne_iff_ne.mpr c61
         have H' := Aside0.mk H
         clear H
         obtain ⟨hcz63_0, hcz63_1, hcz63_2, hcz63_3, hcz63_4, hcz63_5, hcz63_6, hfz63_0, hfz63_1, hfz63_2, hfz63_3, hfz63_4, hfz63_5, hfz63_6⟩ := blk7 BK115.out
         go_wp2_with (first | (go_at_call 41; (with_reducible refine (tree_named.calls k a0_4 true _ A36.out).mono ?_); rintro e w' ⟨rfl, ⟨nd, rfl⟩⟩))
         go_meet
         case rel => exact ⟨_, ((a0_3 != 0)), (by first | rfl | (simp; done) | (simp [*]; done) | (simp; exact (fun l : List UInt8 => (by cases l <;> rfl : l.isEmpty = !(l != []))) _)), H', ⟨by first | omega | exact Nat.le_refl _⟩, ⟨by (with_reducible repeat (first | refine blk_drewN ?_ _ | refine blk_drew ?_ | refine blk_alloc ?_ _)); exact BK115.out⟩, ⟨by repeat (first | (with_reducible first | exact HB.out | apply below_alloc | apply pw_below_drewN | apply below_drew1 | refine below_set ?_ GE115.out) | exact HB.out)⟩⟩
       ·rw [if_neg c60] at H
        have c60b0 : (a0_0 == 2) = false := beq_eq_false_iff_ne.mpr c60
        have c60b1 : (a0_0 != 2) = true := bne_iff_ne.mpr c60
        by_cases c64 : a0_2 = 0
        ·rw [if_pos c64] at H
         have c64b0 : (a0_2 == 0) = true := beq_iff_eq.mpr c64
         have c64b1 : (a0_2 != 0) = false := bne_eq_false_iff_eq.mpr c64
         clear c64
         by_cases c65 : a0_0 = 3
         ·rw [if_pos c65] at H
          have c65b0 : (a0_0 == 3) = true := beq_iff_eq.mpr c65
          have c65b1 : (a0_0 != 3) = false := bne_eq_false_iff_eq.mpr c65
          clear c65
          have H' := Aside0.mk H
          clear H
          obtain ⟨hcz66_0, hcz66_1, hcz66_2, hcz66_3, hcz66_4, hcz66_5, hcz66_6, hfz66_0, hfz66_1, hfz66_2, hfz66_3, hfz66_4, hfz66_5, hfz66_6⟩ := blk7 BK115.out
          go_wp2_with (first | (go_at_call 41; (with_reducible refine (tree_named.calls k a0_4 true _ A36.out).mono ?_); rintro e w' ⟨rfl, ⟨nd, rfl⟩⟩))
          go_meet
          case rel => exact ⟨_, (false), (by first | rfl | (simp; done) | (simp [*]; done) | (simp; exact (fun l : List UInt8 => (by cases l <;> rfl : l.isEmpty = !(l != []))) _)), H', ⟨by first | omega | exact Nat.le_refl _⟩, ⟨by (with_reducible repeat (first | refine blk_drewN ?_ _ | refine blk_drew ?_ | refine blk_alloc ?_ _)); exact BK115.out⟩, ⟨by repeat (first | (with_reducible first | exact HB.out | apply below_alloc | apply pw_below_drewN | apply below_drew1 | refine below_set ?_ GE115.out) | exact HB.out)⟩⟩
         ·rw [if_neg c65] at H
          have c65b0 : (a0_0 == 3) = false := beq_eq_false_iff_ne.mpr c65
          have c65b1 : (a0_0 != 3) = true := bne_iff_ne.mpr c65
          have H' := Aside0.mk H
          clear H
          obtain ⟨hcz67_0, hcz67_1, hcz67_2, hcz67_3, hcz67_4, hcz67_5, hcz67_6, hfz67_0, hfz67_1, hfz67_2, hfz67_3, hfz67_4, hfz67_5, hfz67_6⟩ := blk7 BK115.out
          go_wp2_with (first | (go_at_call 41; (with_reducible refine (tree_named.calls k a0_4 true _ A36.out).mono ?_); rintro e w' ⟨rfl, ⟨nd, rfl⟩⟩))
          go_meet
          case rel => exact ⟨_, ((a0_3 != 0)), (by first | rfl | (simp; done) | (simp [*]; done) | (simp; exact (fun l : List UInt8 => (by cases l <;> rfl : l.isEmpty = !(l != []))) _)), H', ⟨by first | omega | exact Nat.le_refl _⟩, ⟨by (with_reducible repeat (first | refine blk_drewN ?_ _ | refine blk_drew ?_ | refine blk_alloc ?_ _)); exact BK115.out⟩, ⟨by repeat (first | (with_reducible first | exact HB.out | apply below_alloc | apply pw_below_drewN | apply below_drew1 | refine below_set ?_ GE115.out) | exact HB.out)⟩⟩
        ·rw [if_neg c64] at H
         have c64b0 : (a0_2 == 0) = false := beq_eq_false_iff_ne.mpr c64
         have c64b1 : (a0_2 != 0) = true := bne_iff_ne.mpr c64
         have H' := Aside0.mk H
         clear H
         obtain ⟨hcz68_0, hcz68_1, hcz68_2, hcz68_3, hcz68_4, hcz68_5, hcz68_6, hfz68_0, hfz68_1, hfz68_2, hfz68_3, hfz68_4, hfz68_5, hfz68_6⟩ := blk7 BK115.out
         go_wp2_with (first | (go_at_call 41; (with_reducible refine (tree_named.calls k a0_4 true _ A36.out).mono ?_); rintro e w' ⟨rfl, ⟨nd, rfl⟩⟩))
         go_meet
         case rel => exact ⟨_, (true), (by first | rfl | (simp; done) | (simp [*]; done) | (simp; exact (fun l : List UInt8 => (by cases l <;> rfl : l.isEmpty = !(l != []))) _)), H', ⟨by first | omega | exact Nat.le_refl _⟩, ⟨by (with_reducible repeat (first | refine blk_drewN ?_ _ | refine blk_drew ?_ | refine blk_alloc ?_ _)); exact BK115.out⟩, ⟨by repeat (first | (with_reducible first | exact HB.out | apply below_alloc | apply pw_below_drewN | apply below_drew1 | refine below_set ?_ GE115.out) | exact HB.out)⟩⟩
   ·replace c37 := Bool.eq_false_iff.mpr c37
    subst c37
    have H1 : (tree_may.j0 k true a0_0 a0_1 a0_2 a0_3 a0_4 l0_5 a0_6) = some r := by rw [if_neg (show ¬ (false = true) by decide)] at H; exact H
    clear H
    have H := H1
    clear H1
    have H' := Aside0.mk H
    clear H
    obtain ⟨hcz69_0, hcz69_1, hcz69_2, hcz69_3, hcz69_4, hcz69_5, hcz69_6, hfz69_0, hfz69_1, hfz69_2, hfz69_3, hfz69_4, hfz69_5, hfz69_6⟩ := blk7 BK115.out
    go_wp2_with (first | (go_at_call 41; (with_reducible refine (tree_named.calls k a0_4 false _ A36.out).mono ?_); rintro e w' ⟨rfl, ⟨nd, rfl⟩⟩))
    go_meet
    case rel => exact ⟨_, (true), (by first | rfl | (simp; done) | (simp [*]; done) | (simp; exact (fun l : List UInt8 => (by cases l <;> rfl : l.isEmpty = !(l != []))) _)), H', ⟨by first | omega | exact Nat.le_refl _⟩, ⟨by (with_reducible repeat (first | refine blk_drewN ?_ _ | refine blk_drew ?_ | refine blk_alloc ?_ _)); exact BK115.out⟩, ⟨by repeat (first | (with_reducible first | exact HB.out | apply below_alloc | apply pw_below_drewN | apply below_drew1 | refine below_set ?_ GE115.out) | exact HB.out)⟩⟩
 case rest =>
  clear HC2
  try clear c2
  try clear p2
  try clear c3
  try clear c4
  try clear c4b0
  try clear c4b1
  try clear c5
  try clear c6
  try clear c25
  try clear c25b0
  try clear c25b1
  try clear c27
  try clear c27b0
  try clear c27b1
  try clear c28
  try clear c28b0
  try clear c28b1
  try clear c31
  try clear c31b0
  try clear c31b1
  try clear c32
  try clear c32b0
  try clear c32b1
  try clear c37
  try clear c38
  try clear c38b0
  try clear c38b1
  try clear c39
  try clear c39b0
  try clear c39b1
  try clear c40
  try clear c40b0
  try clear c40b1
  try clear c43
  try clear c43b0
  try clear c43b1
  try clear c44
  try clear c44b0
  try clear c44b1
  try clear c48
  try clear c48b0
  try clear c48b1
  try clear c49
  try clear c49b0
  try clear c49b1
  try clear c50
  try clear c50b0
  try clear c50b1
  try clear c53
  try clear c53b0
  try clear c53b1
  try clear c54
  try clear c54b0
  try clear c54b1
  try clear c58
  try clear c58b0
  try clear c58b1
  try clear c60
  try clear c60b0
  try clear c60b1
  try clear c61
  try clear c61b0
  try clear c61b1
  try clear c64
  try clear c64b0
  try clear c64b1
  try clear c65
  try clear c65b0
  try clear c65b1
  try clear hcz29_0 hcz29_1 hcz29_2 hcz29_3 hcz29_4 hcz29_5 hcz29_6
  try clear hcz30_0 hcz30_1 hcz30_2 hcz30_3 hcz30_4 hcz30_5 hcz30_6
  try clear hcz33_0 hcz33_1 hcz33_2 hcz33_3 hcz33_4 hcz33_5 hcz33_6
  try clear hcz34_0 hcz34_1 hcz34_2 hcz34_3 hcz34_4 hcz34_5 hcz34_6
  try clear hcz35_0 hcz35_1 hcz35_2 hcz35_3 hcz35_4 hcz35_5 hcz35_6
  try clear hcz41_0 hcz41_1 hcz41_2 hcz41_3 hcz41_4 hcz41_5 hcz41_6
  try clear hcz42_0 hcz42_1 hcz42_2 hcz42_3 hcz42_4 hcz42_5 hcz42_6
  try clear hcz45_0 hcz45_1 hcz45_2 hcz45_3 hcz45_4 hcz45_5 hcz45_6
  try clear hcz46_0 hcz46_1 hcz46_2 hcz46_3 hcz46_4 hcz46_5 hcz46_6
  try clear hcz47_0 hcz47_1 hcz47_2 hcz47_3 hcz47_4 hcz47_5 hcz47_6
  try clear hcz51_0 hcz51_1 hcz51_2 hcz51_3 hcz51_4 hcz51_5 hcz51_6
  try clear hcz52_0 hcz52_1 hcz52_2 hcz52_3 hcz52_4 hcz52_5 hcz52_6
  try clear hcz55_0 hcz55_1 hcz55_2 hcz55_3 hcz55_4 hcz55_5 hcz55_6
  try clear hcz56_0 hcz56_1 hcz56_2 hcz56_3 hcz56_4 hcz56_5 hcz56_6
  try clear hcz57_0 hcz57_1 hcz57_2 hcz57_3 hcz57_4 hcz57_5 hcz57_6
  try clear hcz59_0 hcz59_1 hcz59_2 hcz59_3 hcz59_4 hcz59_5 hcz59_6
  try clear hcz62_0 hcz62_1 hcz62_2 hcz62_3 hcz62_4 hcz62_5 hcz62_6
  try clear hcz63_0 hcz63_1 hcz63_2 hcz63_3 hcz63_4 hcz63_5 hcz63_6
  try clear hcz66_0 hcz66_1 hcz66_2 hcz66_3 hcz66_4 hcz66_5 hcz66_6
  try clear hcz67_0 hcz67_1 hcz67_2 hcz67_3 hcz67_4 hcz67_5 hcz67_6
  try clear hcz68_0 hcz68_1 hcz68_2 hcz68_3 hcz68_4 hcz68_5 hcz68_6
  try clear hcz69_0 hcz69_1 hcz69_2 hcz69_3 hcz69_4 hcz69_5 hcz69_6
  try clear hfz29_0 hfz29_1 hfz29_2 hfz29_3 hfz29_4 hfz29_5 hfz29_6
  try clear hfz30_0 hfz30_1 hfz30_2 hfz30_3 hfz30_4 hfz30_5 hfz30_6
  try clear hfz33_0 hfz33_1 hfz33_2 hfz33_3 hfz33_4 hfz33_5 hfz33_6
  try clear hfz34_0 hfz34_1 hfz34_2 hfz34_3 hfz34_4 hfz34_5 hfz34_6
  try clear hfz35_0 hfz35_1 hfz35_2 hfz35_3 hfz35_4 hfz35_5 hfz35_6
  try clear hfz41_0 hfz41_1 hfz41_2 hfz41_3 hfz41_4 hfz41_5 hfz41_6
  try clear hfz42_0 hfz42_1 hfz42_2 hfz42_3 hfz42_4 hfz42_5 hfz42_6
  try clear hfz45_0 hfz45_1 hfz45_2 hfz45_3 hfz45_4 hfz45_5 hfz45_6
  try clear hfz46_0 hfz46_1 hfz46_2 hfz46_3 hfz46_4 hfz46_5 hfz46_6
  try clear hfz47_0 hfz47_1 hfz47_2 hfz47_3 hfz47_4 hfz47_5 hfz47_6
  try clear hfz51_0 hfz51_1 hfz51_2 hfz51_3 hfz51_4 hfz51_5 hfz51_6
  try clear hfz52_0 hfz52_1 hfz52_2 hfz52_3 hfz52_4 hfz52_5 hfz52_6
  try clear hfz55_0 hfz55_1 hfz55_2 hfz55_3 hfz55_4 hfz55_5 hfz55_6
  try clear hfz56_0 hfz56_1 hfz56_2 hfz56_3 hfz56_4 hfz56_5 hfz56_6
  try clear hfz57_0 hfz57_1 hfz57_2 hfz57_3 hfz57_4 hfz57_5 hfz57_6
  try clear hfz59_0 hfz59_1 hfz59_2 hfz59_3 hfz59_4 hfz59_5 hfz59_6
  try clear hfz62_0 hfz62_1 hfz62_2 hfz62_3 hfz62_4 hfz62_5 hfz62_6
  try clear hfz63_0 hfz63_1 hfz63_2 hfz63_3 hfz63_4 hfz63_5 hfz63_6
  try clear hfz66_0 hfz66_1 hfz66_2 hfz66_3 hfz66_4 hfz66_5 hfz66_6
  try clear hfz67_0 hfz67_1 hfz67_2 hfz67_3 hfz67_4 hfz67_5 hfz67_6
  try clear hfz68_0 hfz68_1 hfz68_2 hfz68_3 hfz68_4 hfz68_5 hfz68_6
  try clear hfz69_0 hfz69_1 hfz69_2 hfz69_3 hfz69_4 hfz69_5 hfz69_6
  obtain ⟨kq, x47_1, rfl, HA, HJ1, BK115, HB⟩ := hcut
  cases kq with
  | zero => exact absurd HA.out (by simp [tree_may.j0])
  | succ kj1 =>
   have H := HA.out
   clear HA
   simp only [tree_may.j0] at H
   by_cases c70 : x47_1 = true
   ·subst c70
    have H1 : (some false) = some r := by rw [if_pos rfl] at H; exact H
    clear H
    have H := H1
    clear H1
    obtain rfl := Option.some.inj H
    go_wp2
    go_ret
    exact ⟨by first | rfl | (simp [errW_none, errW_some] <;> rfl) | (simp [*, errW_none, errW_some] <;> rfl), by repeat (first | (with_reducible first | exact HB.out | apply below_alloc | apply pw_below_drewN | apply below_drew1 | refine below_set ?_ GE115.out) | exact HB.out)⟩
   ·replace c70 := Bool.eq_false_iff.mpr c70
    subst c70
    have H1 : (if a0_0 = 1 then (tree_may.j1 kj1 a0_0 (a0_0 == 1) a0_0 a0_1 a0_2 a0_3 a0_4 l0_5 a0_6) else (tree_may.j1 kj1 a0_0 (a0_0 == 4) a0_0 a0_1 a0_2 a0_3 a0_4 l0_5 a0_6)) = some r := by rw [if_neg (show ¬ (false = true) by decide)] at H; exact H
    clear H
    have H := H1
    clear H1
    have HC71 := Aside0.mk H
    clear H
    obtain ⟨hcz72_0, hcz72_1, hcz72_2, hcz72_3, hcz72_4, hcz72_5, hcz72_6, hfz72_0, hfz72_1, hfz72_2, hfz72_3, hfz72_4, hfz72_5, hfz72_6⟩ := blk7 BK115.out
    go_upto_if 50 with (fail)
    go_cut [50] (fun v50 wc => ∃ (kq : Nat) (x50_70 : Bool), v50 = .bool x50_70 ∧ Aside0 (tree_may.j1 kq a0_0 x50_70 a0_0 a0_1 a0_2 a0_3 a0_4 l0_5 a0_6 = some r) ∧ Aside0 (kq ≤ kj1) ∧ Aside0 (wc.heap[gb115]? = some (.cells #[.int .i64 a0_0, .string a0_1, .int .u32 a0_2, .int .i64 a0_3, .string a0_4, (.slice A0_5 l0_5.length c0_5), .int .i64 a0_6] 26 (0, 0))) ∧ Aside0 (Below w.heap.size w wc))
    case first =>
     have H := HC71.out
     clear HC71
     by_cases c73 : a0_0 = 1
     ·rw [if_pos c73] at H
      have c73b0 : (a0_0 == 1) = true := beq_iff_eq.mpr c73
      have c73b1 : (a0_0 != 1) = false := bne_eq_false_iff_eq.mpr c73
      clear c73
      (first | rw [c73b0] | (simp only [i64_w, i32_w]; rw [c73b0]) | skip)
      have H' := Aside0.mk H
      clear H
      go_wp2
      go_meet
      case rel => exact ⟨_, ((a0_0 == 1)), (by first | rfl | (simp; done) | (simp [*]; done) | (simp; exact (fun l : List UInt8 => (by cases l <;> rfl : l.isEmpty = !(l != []))) _)), H', ⟨by have := HJ1.out; first | omega | exact Nat.le_refl _⟩, ⟨by (with_reducible repeat (first | refine blk_drewN ?_ _ | refine blk_drew ?_ | refine blk_alloc ?_ _)); exact BK115.out⟩, ⟨by repeat (first | (with_reducible first | exact HB.out | apply below_alloc | apply pw_below_drewN | apply below_drew1 | refine below_set ?_ GE115.out) | exact HB.out)⟩⟩
     ·rw [if_neg c73] at H
      have c73b0 : (a0_0 == 1) = false := beq_eq_false_iff_ne.mpr c73
      have c73b1 : (a0_0 != 1) = true := bne_iff_ne.mpr c73
      (first | rw [c73b0] | (simp only [i64_w, i32_w]; rw [c73b0]) | skip)
      have H' := Aside0.mk H
      clear H
      go_wp2
      go_meet
      case rel => exact ⟨_, ((a0_0 == 4)), (by first | rfl | (simp; done) | (simp [*]; done) | (simp; exact (fun l : List UInt8 => (by cases l <;> rfl : l.isEmpty = !(l != []))) _)), H', ⟨by have := HJ1.out; first | omega | exact Nat.le_refl _⟩, ⟨by (with_reducible repeat (first | refine blk_drewN ?_ _ | refine blk_drew ?_ | refine blk_alloc ?_ _)); exact BK115.out⟩, ⟨by repeat (first | (with_reducible first | exact HB.out | apply below_alloc | apply pw_below_drewN | apply below_drew1 | refine below_set ?_ GE115.out) | exact HB.out)⟩⟩
    case rest =>
     clear HC71
     try clear c2
     try clear p2
     try clear c3
     try clear c4
     try clear c4b0
     try clear c4b1
     try clear c5
     try clear c6
     try clear c7
     try clear c25
     try clear c25b0
     try clear c25b1
     try clear c27
     try clear c27b0
     try clear c27b1
     try clear c28
     try clear c28b0
     try clear c28b1
     try clear c31
     try clear c31b0
     try clear c31b1
     try clear c32
     try clear c32b0
     try clear c32b1
     try clear c37
     try clear c38
     try clear c38b0
     try clear c38b1
     try clear c39
     try clear c39b0
     try clear c39b1
     try clear c40
     try clear c40b0
     try clear c40b1
     try clear c43
     try clear c43b0
     try clear c43b1
     try clear c44
     try clear c44b0
     try clear c44b1
     try clear c48
     try clear c48b0
     try clear c48b1
     try clear c49
     try clear c49b0
     try clear c49b1
     try clear c50
     try clear c50b0
     try clear c50b1
     try clear c53
     try clear c53b0
     try clear c53b1
     try clear c54
     try clear c54b0
     try clear c54b1
     try clear c58
     try clear c58b0
     try clear c58b1
     try clear c60
     try clear c60b0
     try clear c60b1
     try clear c61
     try clear c61b0
     try clear c61b1
     try clear c64
     try clear c64b0
     try clear c64b1
     try clear c65
     try clear c65b0
     try clear c65b1
     try clear c70
     try clear c73
     try clear c73b0
     try clear c73b1
     try clear hcz29_0 hcz29_1 hcz29_2 hcz29_3 hcz29_4 hcz29_5 hcz29_6
     try clear hcz30_0 hcz30_1 hcz30_2 hcz30_3 hcz30_4 hcz30_5 hcz30_6
     try clear hcz33_0 hcz33_1 hcz33_2 hcz33_3 hcz33_4 hcz33_5 hcz33_6
     try clear hcz34_0 hcz34_1 hcz34_2 hcz34_3 hcz34_4 hcz34_5 hcz34_6
     try clear hcz35_0 hcz35_1 hcz35_2 hcz35_3 hcz35_4 hcz35_5 hcz35_6
     try clear hcz41_0 hcz41_1 hcz41_2 hcz41_3 hcz41_4 hcz41_5 hcz41_6
     try clear hcz42_0 hcz42_1 hcz42_2 hcz42_3 hcz42_4 hcz42_5 hcz42_6
     try clear hcz45_0 hcz45_1 hcz45_2 hcz45_3 hcz45_4 hcz45_5 hcz45_6
     try clear hcz46_0 hcz46_1 hcz46_2 hcz46_3 hcz46_4 hcz46_5 hcz46_6
     try clear hcz47_0 hcz47_1 hcz47_2 hcz47_3 hcz47_4 hcz47_5 hcz47_6
     try clear hcz51_0 hcz51_1 hcz51_2 hcz51_3 hcz51_4 hcz51_5 hcz51_6
     try clear hcz52_0 hcz52_1 hcz52_2 hcz52_3 hcz52_4 hcz52_5 hcz52_6
     try clear hcz55_0 hcz55_1 hcz55_2 hcz55_3 hcz55_4 hcz55_5 hcz55_6
     try clear hcz56_0 hcz56_1 hcz56_2 hcz56_3 hcz56_4 hcz56_5 hcz56_6
     try clear hcz57_0 hcz57_1 hcz57_2 hcz57_3 hcz57_4 hcz57_5 hcz57_6
     try clear hcz59_0 hcz59_1 hcz59_2 hcz59_3 hcz59_4 hcz59_5 hcz59_6
     try clear hcz62_0 hcz62_1 hcz62_2 hcz62_3 hcz62_4 hcz62_5 hcz62_6
     try clear hcz63_0 hcz63_1 hcz63_2 hcz63_3 hcz63_4 hcz63_5 hcz63_6
     try clear hcz66_0 hcz66_1 hcz66_2 hcz66_3 hcz66_4 hcz66_5 hcz66_6
     try clear hcz67_0 hcz67_1 hcz67_2 hcz67_3 hcz67_4 hcz67_5 hcz67_6
     try clear hcz68_0 hcz68_1 hcz68_2 hcz68_3 hcz68_4 hcz68_5 hcz68_6
     try clear hcz69_0 hcz69_1 hcz69_2 hcz69_3 hcz69_4 hcz69_5 hcz69_6
     try clear hcz72_0 hcz72_1 hcz72_2 hcz72_3 hcz72_4 hcz72_5 hcz72_6
     try clear hfz29_0 hfz29_1 hfz29_2 hfz29_3 hfz29_4 hfz29_5 hfz29_6
     try clear hfz30_0 hfz30_1 hfz30_2 hfz30_3 hfz30_4 hfz30_5 hfz30_6
     try clear hfz33_0 hfz33_1 hfz33_2 hfz33_3 hfz33_4 hfz33_5 hfz33_6
     try clear hfz34_0 hfz34_1 hfz34_2 hfz34_3 hfz34_4 hfz34_5 hfz34_6
     try clear hfz35_0 hfz35_1 hfz35_2 hfz35_3 hfz35_4 hfz35_5 hfz35_6
     try clear hfz41_0 hfz41_1 hfz41_2 hfz41_3 hfz41_4 hfz41_5 hfz41_6
     try clear hfz42_0 hfz42_1 hfz42_2 hfz42_3 hfz42_4 hfz42_5 hfz42_6
     try clear hfz45_0 hfz45_1 hfz45_2 hfz45_3 hfz45_4 hfz45_5 hfz45_6
     try clear hfz46_0 hfz46_1 hfz46_2 hfz46_3 hfz46_4 hfz46_5 hfz46_6
     try clear hfz47_0 hfz47_1 hfz47_2 hfz47_3 hfz47_4 hfz47_5 hfz47_6
     try clear hfz51_0 hfz51_1 hfz51_2 hfz51_3 hfz51_4 hfz51_5 hfz51_6
     try clear hfz52_0 hfz52_1 hfz52_2 hfz52_3 hfz52_4 hfz52_5 hfz52_6
     try clear hfz55_0 hfz55_1 hfz55_2 hfz55_3 hfz55_4 hfz55_5 hfz55_6
     try clear hfz56_0 hfz56_1 hfz56_2 hfz56_3 hfz56_4 hfz56_5 hfz56_6
     try clear hfz57_0 hfz57_1 hfz57_2 hfz57_3 hfz57_4 hfz57_5 hfz57_6
     try clear hfz59_0 hfz59_1 hfz59_2 hfz59_3 hfz59_4 hfz59_5 hfz59_6
     try clear hfz62_0 hfz62_1 hfz62_2 hfz62_3 hfz62_4 hfz62_5 hfz62_6
     try clear hfz63_0 hfz63_1 hfz63_2 hfz63_3 hfz63_4 hfz63_5 hfz63_6
     try clear hfz66_0 hfz66_1 hfz66_2 hfz66_3 hfz66_4 hfz66_5 hfz66_6
     try clear hfz67_0 hfz67_1 hfz67_2 hfz67_3 hfz67_4 hfz67_5 hfz67_6
     try clear hfz68_0 hfz68_1 hfz68_2 hfz68_3 hfz68_4 hfz68_5 hfz68_6
     try clear hfz69_0 hfz69_1 hfz69_2 hfz69_3 hfz69_4 hfz69_5 hfz69_6
     try clear hfz72_0 hfz72_1 hfz72_2 hfz72_3 hfz72_4 hfz72_5 hfz72_6
     try clear p2
     obtain ⟨kq, x50_70, rfl, HA, HJ70, BK115, HB⟩ := hcut
     cases kq with
     | zero => exact absurd HA.out (by simp [tree_may.j1])
     | succ kj70 =>
      have H := HA.out
      clear HA
      simp only [tree_may.j1] at H
      by_cases c74 : x50_70 = true
      ·subst c74
       have H1 : ((tree_named.f kj70 a0_1).bind fun t117 => (some t117)) = some r := by rw [if_pos rfl] at H; exact H
       clear H
       have H := H1
       clear H1
       replace H := Option.bind_eq_some_iff.mp H
       obtain ⟨t117, A750, H⟩ := H
       replace H : (some t117) = some r := H
       have A75 := Aside0.mk A750
       clear A750
       obtain rfl := Option.some.inj H
       obtain ⟨hcz76_0, hcz76_1, hcz76_2, hcz76_3, hcz76_4, hcz76_5, hcz76_6, hfz76_0, hfz76_1, hfz76_2, hfz76_3, hfz76_4, hfz76_5, hfz76_6⟩ := blk7 BK115.out
       go_wp2_with (first | ((with_reducible refine gate_callee (f := 41) rfl ?_); refine goesL_ (some 55) rfl rfl Try.func41 (by kernel_rfl) rfl #[.string a0_1] rfl (by (try simp only [List.map_toArray, List.map_cons, List.map_nil]); first | done | rfl | (simp only [List.length_drop, List.length_take]; rfl)) ?_; (with_reducible refine (tree_named.calls kj70 a0_1 t117 _ A75.out).mono ?_); rintro e w' ⟨rfl, ⟨nd, rfl⟩⟩; refine ⟨_, rfl, ?_⟩))
       go_ret
       exact ⟨by first | rfl | (simp [errW_none, errW_some] <;> rfl) | (simp [*, errW_none, errW_some] <;> rfl), by repeat (first | (with_reducible first | exact HB.out | apply below_alloc | apply pw_below_drewN | apply below_drew1 | refine below_set ?_ GE115.out) | exact HB.out)⟩
      ·replace c74 := Bool.eq_false_iff.mpr c74
       subst c74
       have H1 : (if a0_0 = 2 then (if a0_1.toList = ([] : List UInt8) then ((bits_Class.f kj70 a0_2).bind fun t118 => (some (decide (t118 < 4)))) else (some false)) else (if a0_0 = 3 then (if a0_1.toList = ([] : List UInt8) then (if a0_3 ≥ (-2147483647) then (some (decide (a0_3 ≤ 2147483647))) else (some false)) else (some false)) else (if a0_0 = 5 then ((tree_quoted.f kj70 a0_1).bind fun t119 => (some t119)) else (if a0_0 = 6 then ((tree_let.f kj70 a0_0 a0_1 a0_2 a0_3 a0_4 l0_5 a0_6).bind fun t120 => (some t120)) else (some false))))) = some r := by rw [if_neg (show ¬ (false = true) by decide)] at H; exact H
       clear H
       have H := H1
       clear H1
       by_cases c77 : a0_0 = 2
       ·rw [if_pos c77] at H
        have c77b0 : (a0_0 == 2) = true := beq_iff_eq.mpr c77
        have c77b1 : (a0_0 != 2) = false := bne_eq_false_iff_eq.mpr c77
        clear c77
        by_cases c78 : a0_1.toList = ([] : List UInt8)
        ·rw [if_pos c78] at H
         have c78b0 : (a0_1.toList == ([] : List UInt8)) = true := beq_iff_eq.mpr c78
         have c78b1 : (a0_1.toList != ([] : List UInt8)) = false := bne_eq_false_iff_eq.mpr c78
         clear c78
         replace H := Option.bind_eq_some_iff.mp H
         obtain ⟨t118, A790, H⟩ := H
         replace H : (some (decide (t118 < 4))) = some r := H
         have A79 := Aside0.mk A790
         clear A790
         obtain rfl := Option.some.inj H
         obtain ⟨hcz80_0, hcz80_1, hcz80_2, hcz80_3, hcz80_4, hcz80_5, hcz80_6, hfz80_0, hfz80_1, hfz80_2, hfz80_3, hfz80_4, hfz80_5, hfz80_6⟩ := blk7 BK115.out
         go_wp2_with (first | (go_at_call 42; (with_reducible refine (bits_Class.calls kj70 a0_2 t118 _ A79.out).mono ?_); rintro e w' ⟨rfl, ⟨nd, rfl⟩⟩))
         go_ret
         exact ⟨by first | rfl | (simp [errW_none, errW_some] <;> rfl) | (simp [*, errW_none, errW_some] <;> rfl), by repeat (first | (with_reducible first | exact HB.out | apply below_alloc | apply pw_below_drewN | apply below_drew1 | refine below_set ?_ GE115.out) | exact HB.out)⟩
        ·rw [if_neg c78] at H
         have c78b0 : (a0_1.toList == ([] : List UInt8)) = false := beq_eq_false_iff_ne.mpr c78
         have c78b1 : (a0_1.toList != ([] : List UInt8)) = true := bne_iff_ne.mpr c78
         obtain rfl := Option.some.inj H
         obtain ⟨hcz81_0, hcz81_1, hcz81_2, hcz81_3, hcz81_4, hcz81_5, hcz81_6, hfz81_0, hfz81_1, hfz81_2, hfz81_3, hfz81_4, hfz81_5, hfz81_6⟩ := blk7 BK115.out
         go_wp2
         go_ret
         exact ⟨by first | rfl | (simp [errW_none, errW_some] <;> rfl) | (simp [*, errW_none, errW_some] <;> rfl), by repeat (first | (with_reducible first | exact HB.out | apply below_alloc | apply pw_below_drewN | apply below_drew1 | refine below_set ?_ GE115.out) | exact HB.out)⟩
       ·rw [if_neg c77] at H
        have c77b0 : (a0_0 == 2) = false := beq_eq_false_iff_ne.mpr c77
        have c77b1 : (a0_0 != 2) = true := bne_iff_ne.mpr c77
        by_cases c82 : a0_0 = 3
        ·rw [if_pos c82] at H
         have c82b0 : (a0_0 == 3) = true := beq_iff_eq.mpr c82
         have c82b1 : (a0_0 != 3) = false := bne_eq_false_iff_eq.mpr c82
         clear c82
         by_cases c83 : a0_1.toList = ([] : List UInt8)
         ·rw [if_pos c83] at H
          have c83b0 : (a0_1.toList == ([] : List UInt8)) = true := beq_iff_eq.mpr c83
          have c83b1 : (a0_1.toList != ([] : List UInt8)) = false := bne_eq_false_iff_eq.mpr c83
          clear c83
          by_cases c84 : a0_3 ≥ (-2147483647)
          ·rw [if_pos c84] at H
           have c84b0 : decide ((-2147483647) ≤ a0_3) = true := decide_eq_true c84
           clear c84
           obtain rfl := Option.some.inj H
           obtain ⟨hcz85_0, hcz85_1, hcz85_2, hcz85_3, hcz85_4, hcz85_5, hcz85_6, hfz85_0, hfz85_1, hfz85_2, hfz85_3, hfz85_4, hfz85_5, hfz85_6⟩ := blk7 BK115.out
           go_wp2
           go_ret
           exact ⟨by first | rfl | (simp [errW_none, errW_some] <;> rfl) | (simp [*, errW_none, errW_some] <;> rfl), by repeat (first | (with_reducible first | exact HB.out | apply below_alloc | apply pw_below_drewN | apply below_drew1 | refine below_set ?_ GE115.out) | exact HB.out)⟩
          ·rw [if_neg c84] at H
           have c84b0 : decide ((-2147483647) ≤ a0_3) = false := decide_eq_false c84
           clear c84
           obtain rfl := Option.some.inj H
           obtain ⟨hcz86_0, hcz86_1, hcz86_2, hcz86_3, hcz86_4, hcz86_5, hcz86_6, hfz86_0, hfz86_1, hfz86_2, hfz86_3, hfz86_4, hfz86_5, hfz86_6⟩ := blk7 BK115.out
           go_wp2
           go_ret
           exact ⟨by first | rfl | (simp [errW_none, errW_some] <;> rfl) | (simp [*, errW_none, errW_some] <;> rfl), by repeat (first | (with_reducible first | exact HB.out | apply below_alloc | apply pw_below_drewN | apply below_drew1 | refine below_set ?_ GE115.out) | exact HB.out)⟩
         ·rw [if_neg c83] at H
          have c83b0 : (a0_1.toList == ([] : List UInt8)) = false := beq_eq_false_iff_ne.mpr c83
          have c83b1 : (a0_1.toList != ([] : List UInt8)) = true := bne_iff_ne.mpr c83
          obtain rfl := Option.some.inj H
          obtain ⟨hcz87_0, hcz87_1, hcz87_2, hcz87_3, hcz87_4, hcz87_5, hcz87_6, hfz87_0, hfz87_1, hfz87_2, hfz87_3, hfz87_4, hfz87_5, hfz87_6⟩ := blk7 BK115.out
          go_wp2
          go_ret
          exact ⟨by first | rfl | (simp [errW_none, errW_some] <;> rfl) | (simp [*, errW_none, errW_some] <;> rfl), by repeat (first | (with_reducible first | exact HB.out | apply below_alloc | apply pw_below_drewN | apply below_drew1 | refine below_set ?_ GE115.out) | exact HB.out)⟩
        ·rw [if_neg c82] at H
         have c82b0 : (a0_0 == 3) = false := beq_eq_false_iff_ne.mpr c82
         have c82b1 : (a0_0 != 3) = true := bne_iff_ne.mpr c82
         by_cases c88 : a0_0 = 5
         ·rw [if_pos c88] at H
          have c88b0 : (a0_0 == 5) = true := beq_iff_eq.mpr c88
          have c88b1 : (a0_0 != 5) = false := bne_eq_false_iff_eq.mpr c88
          clear c88
          replace H := Option.bind_eq_some_iff.mp H
          obtain ⟨t119, A890, H⟩ := H
          replace H : (some t119) = some r := H
          have A89 := Aside0.mk A890
          clear A890
          obtain rfl := Option.some.inj H
          obtain ⟨hcz90_0, hcz90_1, hcz90_2, hcz90_3, hcz90_4, hcz90_5, hcz90_6, hfz90_0, hfz90_1, hfz90_2, hfz90_3, hfz90_4, hfz90_5, hfz90_6⟩ := blk7 BK115.out
          go_wp2_with (first | ((with_reducible refine gate_callee (f := 43) rfl ?_); refine goesL_ (some 86) rfl rfl Try.func43 (by kernel_rfl) rfl #[.string a0_1] rfl (by (try simp only [List.map_toArray, List.map_cons, List.map_nil]); first | done | rfl | (simp only [List.length_drop, List.length_take]; rfl)) ?_; (with_reducible refine (tree_quoted.calls kj70 a0_1 t119 _ A89.out).mono ?_); rintro e w' ⟨rfl, ⟨nd, rfl⟩⟩; refine ⟨_, rfl, ?_⟩))
          go_ret
          exact ⟨by first | rfl | (simp [errW_none, errW_some] <;> rfl) | (simp [*, errW_none, errW_some] <;> rfl), by repeat (first | (with_reducible first | exact HB.out | apply below_alloc | apply pw_below_drewN | apply below_drew1 | refine below_set ?_ GE115.out) | exact HB.out)⟩
         ·rw [if_neg c88] at H
          have c88b0 : (a0_0 == 5) = false := beq_eq_false_iff_ne.mpr c88
          have c88b1 : (a0_0 != 5) = true := bne_iff_ne.mpr c88
          by_cases c91 : a0_0 = 6
          ·rw [if_pos c91] at H
           have c91b0 : (a0_0 == 6) = true := beq_iff_eq.mpr c91
           have c91b1 : (a0_0 != 6) = false := bne_eq_false_iff_eq.mpr c91
           clear c91
           replace H := Option.bind_eq_some_iff.mp H
           obtain ⟨t120, A920, H⟩ := H
           replace H : (some t120) = some r := H
           have A92 := Aside0.mk A920
           clear A920
           obtain rfl := Option.some.inj H
           obtain ⟨hcz93_0, hcz93_1, hcz93_2, hcz93_3, hcz93_4, hcz93_5, hcz93_6, hfz93_0, hfz93_1, hfz93_2, hfz93_3, hfz93_4, hfz93_5, hfz93_6⟩ := blk7 BK115.out
           go_wp2_with (first | ((with_reducible refine gate_callee (f := 44) rfl ?_); refine goesL_ (some 90) rfl rfl Try.func44 (by kernel_rfl) rfl #[.agg #[.int .i64 a0_0, .string a0_1, .int .u32 a0_2, .int .i64 a0_3, .string a0_4, .slice A0_5 l0_5.length c0_5, .int .i64 a0_6]] rfl (by (try simp only [List.map_toArray, List.map_cons, List.map_nil]); first | done | rfl | (simp only [List.length_drop, List.length_take]; rfl)) ?_; (with_reducible refine (tree_let.calls kj70 a0_0 a0_1 a0_2 a0_3 a0_4 _ _ l0_5 a0_6 t120 _ ?side1 ?side2 A92.out).mono ?_); (case side1 => repeat (first | exact (Kd.C_below HR0_5.out HB.out) | (with_reducible refine Kd.C_alloc ?_ _) | (with_reducible refine Kd.C_drewN ?_ _) | (with_reducible refine Kd.C_drew ?_))); (case side2 => exact HC0_5.out); rintro e w94 ⟨rfl, hb⟩; refine ⟨_, rfl, ?_⟩; replace BK115 := Aside0.mk (blk_below (by (with_reducible repeat (first | refine blk_drewN ?_ _ | refine blk_drew ?_ | refine blk_alloc ?_ _)); exact BK115.out) hb); replace HB := Aside0.mk (below_step (by repeat (first | (with_reducible first | exact HB.out | apply below_alloc | apply pw_below_drewN | apply below_drew1 | refine below_set ?_ GE115.out) | exact HB.out)) hb); (try clear hb); (try clear hb2); (try clear hk); (try clear hi)))
           go_ret
           exact ⟨by first | rfl | (simp [errW_none, errW_some] <;> rfl) | (simp [*, errW_none, errW_some] <;> rfl), by repeat (first | (with_reducible first | exact HB.out | apply below_alloc | apply pw_below_drewN | apply below_drew1 | refine below_set ?_ GE115.out) | exact HB.out)⟩
          ·rw [if_neg c91] at H
           have c91b0 : (a0_0 == 6) = false := beq_eq_false_iff_ne.mpr c91
           have c91b1 : (a0_0 != 6) = true := bne_iff_ne.mpr c91
           obtain rfl := Option.some.inj H
           go_wp2
           go_ret
           exact ⟨by first | rfl | (simp [errW_none, errW_some] <;> rfl) | (simp [*, errW_none, errW_some] <;> rfl), by repeat (first | (with_reducible first | exact HB.out | apply below_alloc | apply pw_below_drewN | apply below_drew1 | refine below_set ?_ GE115.out) | exact HB.out)⟩

end Go.Proofs.Ytbfomjbencbmlaa.Q
