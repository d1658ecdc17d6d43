/- Lean functions with the answers of the Go functions that the law reaches, proved to be just these answers. Conditions: those that each theorem names. -/
import Derived.Test.YtbfomjbencbmlaaQx0
import Derived.Test.YtbfomjbencbmlaaQx1
import Derived.Test.YtbfomjbencbmlaaQx7
import Derived.Test.YtbfomjbencbmlaaQx8
import Derived.Test.YtbfomjbencbmlaaQx14
import Derived.Test.YtbfomjbencbmlaaQx18
namespace Go.Proofs.Ytbfomjbencbmlaa.Q
open Go.RowKit Go.Proofs.YtbfomjbencbmlaaW.PrintWords Go.Proofs.YtbfomjbencbmlaaW.PrintLast Go.Proofs.YtbfomjbencbmlaaW.PrintMore
attribute [local go_sem] max2_int min2_int max_two min_two max_three min_three max_four min_four   -- for this text's walks alone
set_option linter.unusedVariables false
set_option linter.unusedSimpArgs false

/-! ### lathelaw07_TreeParts: function 7 -/
mutual
def lathelaw07_TreeParts.j0 : Nat → Int → Int → List ByteArray → Int → ByteArray → Int → Int → ByteArray → List (S26) → Int → Option (Bool)
 | 0, _, _, _, _, _, _, _, _, _, _ => none
 | k + 1, x3, x4, x5, x497000, x497001, x497002, x497003, x497004, x497005, x497006 => lathelaw07_TreeParts.l0 k x3 x4 x5 0 x497000 x497001 x497002 x497003 x497004 x497005 x497006
def lathelaw07_TreeParts.l0 : Nat → Int → Int → List ByteArray → Int → Int → ByteArray → Int → Int → ByteArray → List (S26) → Int → Option (Bool)
 | 0, _, _, _, _, _, _, _, _, _, _, _ => none
 | k + 1, x3, x4, x5, x6, x497000, x497001, x497002, x497003, x497004, x497005, x497006 => if x6 < (x497005.length : Int) then (if 0 ≤ x6 then ((tree_Count.f k ((rd_T26 x497005 x6).f0) ((rd_T26 x497005 x6).f1) ((rd_T26 x497005 x6).f2) ((rd_T26 x497005 x6).f3) ((rd_T26 x497005 x6).f4) ((rd_T26 x497005 x6).f5) ((rd_T26 x497005 x6).f6)).bind fun t503 => ((tree_Depth.f k ((rd_T26 x497005 x6).f0) ((rd_T26 x497005 x6).f1) ((rd_T26 x497005 x6).f2) ((rd_T26 x497005 x6).f3) ((rd_T26 x497005 x6).f4) ((rd_T26 x497005 x6).f5) ((rd_T26 x497005 x6).f6)).bind fun t505 => ((tree_Names.f k ((rd_T26 x497005 x6).f0) ((rd_T26 x497005 x6).f1) ((rd_T26 x497005 x6).f2) ((rd_T26 x497005 x6).f3) ((rd_T26 x497005 x6).f4) ((rd_T26 x497005 x6).f5) ((rd_T26 x497005 x6).f6)).bind fun t507 => (if x5.length + t507.length < 8796093022208 then ((tree_Find.f k x497000 x497001 x497002 x497003 x497004 x497005 x497006 (([x6] : List Int))).bind fun bt516 => (if bt516.2.2.2.2.2.2.2 = true then ((lathelaw07_same.f k bt516.1 bt516.2.1 bt516.2.2.1 bt516.2.2.2.1 bt516.2.2.2.2.1 bt516.2.2.2.2.2.1 bt516.2.2.2.2.2.2.1 ((rd_T26 x497005 x6).f0) ((rd_T26 x497005 x6).f1) ((rd_T26 x497005 x6).f2) ((rd_T26 x497005 x6).f3) ((rd_T26 x497005 x6).f4) ((rd_T26 x497005 x6).f5) ((rd_T26 x497005 x6).f6)).bind fun t528 => (if t528 = true then (lathelaw07_TreeParts.l0 k (wrap64 (x3 + t503)) (mx x4 t505) (x5 ++ t507) (wrap64 (x6 + 1)) x497000 x497001 x497002 x497003 x497004 x497005 x497006) else (some false))) else (some false))) else (none))))) else (none)) else ((tree_Count.f k x497000 x497001 x497002 x497003 x497004 x497005 x497006).bind fun t529 => (if t529 = x3 then ((tree_Depth.f k x497000 x497001 x497002 x497003 x497004 x497005 x497006).bind fun t530 => (if t530 = (wrap64 (x4 + 1)) then ((tree_Names.f k x497000 x497001 x497002 x497003 x497004 x497005 x497006).bind fun t531 => ((lathelaw07_sameTexts.f k t531 x5).bind fun t534 => (if t534 = true then (if (x5.length : Int) ≤ x3 then ((lathelaw07_sure.f k).bind fun t535 => (some t535)) else (some false)) else (some false)))) else (some false))) else (some false)))
end
def lathelaw07_TreeParts.f (k : Nat) (a0_0 : Int) (a0_1 : ByteArray) (a0_2 : Int) (a0_3 : Int) (a0_4 : ByteArray) (l0_5 : List (S26)) (a0_6 : Int) : Option (Bool) := (lathelaw07_big.f k a0_0 a0_1 a0_2 a0_3 a0_4 l0_5 a0_6).bind fun t497 => (if t497 = true then ((lathelaw07_sure.f k).bind fun t498 => (some t498)) else (if a0_0 = 1 then (if ([] : List ByteArray).length < 8796093022208 then (lathelaw07_TreeParts.j0 k 1 0 (([] : List ByteArray) ++ [a0_1]) a0_0 a0_1 a0_2 a0_3 a0_4 l0_5 a0_6) else (none)) else (lathelaw07_TreeParts.j0 k 1 0 ([] : List ByteArray) a0_0 a0_1 a0_2 a0_3 a0_4 l0_5 a0_6)))
theorem lathelaw07_TreeParts.mono_l : ∀ k, (∀ y0 y1 y2 y3 y4 y5 y6 y7 y8 y9, LeO (lathelaw07_TreeParts.j0 k y0 y1 y2 y3 y4 y5 y6 y7 y8 y9) (lathelaw07_TreeParts.j0 (k + 1) y0 y1 y2 y3 y4 y5 y6 y7 y8 y9)) ∧ (∀ y0 y1 y2 y3 y4 y5 y6 y7 y8 y9 y10, LeO (lathelaw07_TreeParts.l0 k y0 y1 y2 y3 y4 y5 y6 y7 y8 y9 y10) (lathelaw07_TreeParts.l0 (k + 1) y0 y1 y2 y3 y4 y5 y6 y7 y8 y9 y10))
 | 0 => ⟨fun _ _ _ _ _ _ _ _ _ _ r h => by simp [lathelaw07_TreeParts.j0] at h, fun _ _ _ _ _ _ _ _ _ _ _ r h => by simp [lathelaw07_TreeParts.l0] at h⟩
 | k + 1 => by
  obtain ⟨ih0, ih1⟩ := lathelaw07_TreeParts.mono_l k
  refine ⟨?_, ?_⟩
  ·intro y0 y1 y2 y3 y4 y5 y6 y7 y8 y9
   unfold lathelaw07_TreeParts.j0
   repeat' first
   | (with_reducible exact ih0 _ _ _ _ _ _ _ _ _ _)
   | (with_reducible exact ih1 _ _ _ _ _ _ _ _ _ _ _)
   | (with_reducible exact lathelaw07_big.mono _ _ _ _ _ _ _ _)
   | (with_reducible exact lathelaw07_same.mono _ _ _ _ _ _ _ _ _ _ _ _ _ _ _)
   | (with_reducible exact lathelaw07_sameTexts.mono _ _ _)
   | (with_reducible exact lathelaw07_sure.mono _)
   | (with_reducible exact tree_Count.mono _ _ _ _ _ _ _ _)
   | (with_reducible exact tree_Depth.mono _ _ _ _ _ _ _ _)
   | (with_reducible exact tree_Find.mono _ _ _ _ _ _ _ _ _)
   | (with_reducible exact tree_Names.mono _ _ _ _ _ _ _ _)
   | (with_reducible exact LeO.refl _)
   | (with_reducible exact LeO.none _)
   | (with_reducible refine LeO.ite ?_ ?_)
   | (with_reducible refine LeO.bind ?_ (fun _ => ?_))
   | exact LeO.none _
   | refine LeO.ite ?_ ?_
   | refine LeO.bind ?_ (fun _ => ?_)
  ·intro y0 y1 y2 y3 y4 y5 y6 y7 y8 y9 y10
   unfold lathelaw07_TreeParts.l0
   repeat' first
   | (with_reducible exact ih0 _ _ _ _ _ _ _ _ _ _)
   | (with_reducible exact ih1 _ _ _ _ _ _ _ _ _ _ _)
   | (with_reducible exact lathelaw07_big.mono _ _ _ _ _ _ _ _)
   | (with_reducible exact lathelaw07_same.mono _ _ _ _ _ _ _ _ _ _ _ _ _ _ _)
   | (with_reducible exact lathelaw07_sameTexts.mono _ _ _)
   | (with_reducible exact lathelaw07_sure.mono _)
   | (with_reducible exact tree_Count.mono _ _ _ _ _ _ _ _)
   | (with_reducible exact tree_Depth.mono _ _ _ _ _ _ _ _)
   | (with_reducible exact tree_Find.mono _ _ _ _ _ _ _ _ _)
   | (with_reducible exact tree_Names.mono _ _ _ _ _ _ _ _)
   | (with_reducible exact LeO.refl _)
   | (with_reducible exact LeO.none _)
   | (with_reducible refine LeO.ite ?_ ?_)
   | (with_reducible refine LeO.bind ?_ (fun _ => ?_))
   | exact LeO.none _
   | refine LeO.ite ?_ ?_
   | refine LeO.bind ?_ (fun _ => ?_)
theorem lathelaw07_TreeParts.mono : ∀ a0 a1 a2 a3 a4 a5 a6 k, LeO (lathelaw07_TreeParts.f k a0 a1 a2 a3 a4 a5 a6) (lathelaw07_TreeParts.f (k + 1) a0 a1 a2 a3 a4 a5 a6) := by
 intro a0 a1 a2 a3 a4 a5 a6 k
 obtain ⟨ih0, ih1⟩ := lathelaw07_TreeParts.mono_l k
 unfold lathelaw07_TreeParts.f
 repeat' first
   | (with_reducible exact ih0 _ _ _ _ _ _ _ _ _ _)
   | (with_reducible exact ih1 _ _ _ _ _ _ _ _ _ _ _)
   | (with_reducible exact lathelaw07_big.mono _ _ _ _ _ _ _ _)
   | (with_reducible exact lathelaw07_same.mono _ _ _ _ _ _ _ _ _ _ _ _ _ _ _)
   | (with_reducible exact lathelaw07_sameTexts.mono _ _ _)
   | (with_reducible exact lathelaw07_sure.mono _)
   | (with_reducible exact tree_Count.mono _ _ _ _ _ _ _ _)
   | (with_reducible exact tree_Depth.mono _ _ _ _ _ _ _ _)
   | (with_reducible exact tree_Find.mono _ _ _ _ _ _ _ _ _)
   | (with_reducible exact tree_Names.mono _ _ _ _ _ _ _ _)
   | (with_reducible exact LeO.refl _)
   | (with_reducible exact LeO.none _)
   | (with_reducible refine LeO.ite ?_ ?_)
   | (with_reducible refine LeO.bind ?_ (fun _ => ?_))
   | exact LeO.none _
   | refine LeO.ite ?_ ?_
   | refine LeO.bind ?_ (fun _ => ?_)
def lathelaw07_TreeParts.T14 : Bool × List (List Nat × List Nat) := (true, [([], []), ([0], [0]), ([1], [1]), ([2], [2]), ([2], [2]), ([4, 2], [2, 4]), ([2], [2]), ([5, 6, 2], [2, 5, 6]), ([7, 2], [2, 7]), ([3, 8, 2, 2], [2, 3, 8]), ([9, 2], [2, 9]), ([2, 10], [2, 10])])
def lathelaw07_TreeParts.B14 : List Nat := [0, 1, 3, 7, 7, 23, 7, 119, 247, 511, 1023, 2047]
theorem lathelaw07_TreeParts.tab14 : rtab .any (opsOf Try.f7 14) = lathelaw07_TreeParts.T14 := by kernel_rfl
theorem lathelaw07_TreeParts.bits14 : waitsOk lathelaw07_TreeParts.T14.2 lathelaw07_TreeParts.B14 = true := by kernel_rfl
set_option maxHeartbeats 8000000 in
set_option maxRecDepth 100000 in
theorem lathelaw07_TreeParts.calls (k : Nat) (a0_0 : Int) (a0_1 : ByteArray) (a0_2 : Int) (a0_3 : Int) (a0_4 : ByteArray) (A0_5 : Option Addr) (c0_5 : Nat) (l0_5 : List (S26)) (a0_6 : Int) (r : Bool) (w : World) (hr0_5 : Kd.C k26 w A0_5 l0_5.length l0_5) (hc0_5 : l0_5.length ≤ c0_5) (h : lathelaw07_TreeParts.f k a0_0 a0_1 a0_2 a0_3 a0_4 l0_5 a0_6 = some r) :
  Calls Try.prog 7 #[.agg #[.int .i64 a0_0, .string a0_1, .int .u32 a0_2, .int .i64 a0_3, .string a0_4, .slice A0_5 l0_5.length c0_5, .int .i64 a0_6]] w fun e w' => e = .returned (.bool r) ∧ Below w.heap.size w w' := by
 have hu26 := Try.underlying26
 have HR0_5 := Aside0.mk hr0_5
 have HC0_5 := Aside0.mk hc0_5
 clear hr0_5 hc0_5
 have HB := Aside0.mk (Below.refl w.heap.size w)
 have H : ((lathelaw07_big.f k a0_0 a0_1 a0_2 a0_3 a0_4 l0_5 a0_6).bind fun t497 => (if t497 = true then ((lathelaw07_sure.f k).bind fun t498 => (some t498)) else (if a0_0 = 1 then (if ([] : List ByteArray).length < 8796093022208 then (lathelaw07_TreeParts.j0 k 1 0 (([] : List ByteArray) ++ [a0_1]) a0_0 a0_1 a0_2 a0_3 a0_4 l0_5 a0_6) else (none)) else (lathelaw07_TreeParts.j0 k 1 0 ([] : List ByteArray) a0_0 a0_1 a0_2 a0_3 a0_4 l0_5 a0_6)))) = some r := h
 clear h
 replace H := Option.bind_eq_some_iff.mp H
 obtain ⟨t497, A20, H⟩ := H
 replace H : (if t497 = true then ((lathelaw07_sure.f k).bind fun t498 => (some t498)) else (if a0_0 = 1 then (if ([] : List ByteArray).length < 8796093022208 then (lathelaw07_TreeParts.j0 k 1 0 (([] : List ByteArray) ++ [a0_1]) a0_0 a0_1 a0_2 a0_3 a0_4 l0_5 a0_6) else (none)) else (lathelaw07_TreeParts.j0 k 1 0 ([] : List ByteArray) a0_0 a0_1 a0_2 a0_3 a0_4 l0_5 a0_6))) = some r := H
 have A2 := Aside0.mk A20
 clear A20
 by_cases c3 : t497 = true
 ·subst c3
  have H1 : ((lathelaw07_sure.f k).bind fun t498 => (some t498)) = some r := by rw [if_pos rfl] at H; exact H
  clear H
  have H := H1
  clear H1
  replace H := Option.bind_eq_some_iff.mp H
  obtain ⟨t498, A40, H⟩ := H
  replace H : (some t498) = some r := H
  have A4 := Aside0.mk A40
  clear A40
  obtain rfl := Option.some.inj H
  go_enter Try.func7, Try.ntmps7
  go_wp2_with (first | ((with_reducible refine gate_dst (N := 1) rfl ?_); (try (refine gate_guard (by rfl) ?_; dsimp only)); refine box_event ?hg (N := 1) ?hd (cs := #[.int .i64 a0_0, .string a0_1, .int .u32 a0_2, .int .i64 a0_3, .string a0_4, .slice A0_5 l0_5.length c0_5, .int .i64 a0_6]) (t := 26) ?hr ?_; (case hd => rfl); (case hg => rfl); (case hr => first | (go_simp; done) | (go_simp; rfl)); intro gb496 hg w5 hbox hb; have BK496 := Aside0.mk (hbox); have GW496 := Aside0.mk ((by rw [hg]; exact (below_size (by repeat (first | (with_reducible first | exact HB.out | apply below_alloc | apply pw_below_drewN | apply below_drew1) | exact HB.out))) : w.heap.size ≤ gb496)); have GE496 := Aside0.mk ((by rw [hg]; exact (below_size (by repeat (first | (with_reducible first | exact HB.out | apply below_alloc | apply pw_below_drewN | apply below_drew1) | exact HB.out))) : w.heap.size ≤ gb496)); replace HB := Aside0.mk (below_step (by repeat (first | (with_reducible first | exact HB.out | apply below_alloc | apply pw_below_drewN | apply below_drew1) | exact HB.out)) hb); clear hb hbox hg; obtain ⟨hcz6_0, hcz6_1, hcz6_2, hcz6_3, hcz6_4, hcz6_5, hcz6_6, hfz6_0, hfz6_1, hfz6_2, hfz6_3, hfz6_4, hfz6_5, hfz6_6⟩ := blk7 BK496.out) | ((with_reducible refine gate_callee (f := 10) rfl ?_); refine goesL_ (some 10) rfl rfl Try.func10 (by kernel_rfl) rfl #[.agg #[.int .i64 a0_0, .string a0_1, .int .u32 a0_2, .int .i64 a0_3, .string a0_4, .slice A0_5 l0_5.length c0_5, .int .i64 a0_6]] rfl (by (try simp only [List.map_toArray, List.map_cons, List.map_nil]); first | done | rfl | (simp only [List.length_drop, List.length_take]; rfl)) ?_; (with_reducible refine (lathelaw07_big.calls k a0_0 a0_1 a0_2 a0_3 a0_4 _ _ l0_5 a0_6 true _ ?side1 ?side2 A2.out).mono ?_); (case side1 => repeat (first | exact (Kd.C_below HR0_5.out HB.out) | (with_reducible refine Kd.C_alloc ?_ _) | (with_reducible refine Kd.C_drewN ?_ _) | (with_reducible refine Kd.C_drew ?_))); (case side2 => exact HC0_5.out); rintro e w7 ⟨rfl, hb⟩; refine ⟨_, rfl, ?_⟩; replace BK496 := Aside0.mk (blk_below (by (with_reducible repeat (first | refine blk_drewN ?_ _ | refine blk_drew ?_ | refine blk_alloc ?_ _)); exact BK496.out) hb); replace HB := Aside0.mk (below_step (by repeat (first | (with_reducible first | exact HB.out | apply below_alloc | apply pw_below_drewN | apply below_drew1 | refine below_set ?_ GE496.out) | exact HB.out)) hb); (try clear hb); (try clear hb2); (try clear hk); (try clear hi)) | ((with_reducible refine gate_callee (f := 11) rfl ?_); refine goesL_ (some 11) rfl rfl Try.func11 (by kernel_rfl) rfl #[] rfl (by (try simp only [List.map_toArray, List.map_cons, List.map_nil]); first | done | rfl | (simp only [List.length_drop, List.length_take]; rfl)) ?_; (with_reducible refine (lathelaw07_sure.calls k  t498 _ A4.out).mono ?_); rintro e w8 ⟨rfl, hb⟩; refine ⟨_, rfl, ?_⟩; replace BK496 := Aside0.mk (blk_below (by (with_reducible repeat (first | refine blk_drewN ?_ _ | refine blk_drew ?_ | refine blk_alloc ?_ _)); exact BK496.out) hb); replace HB := Aside0.mk (below_step (by repeat (first | (with_reducible first | exact HB.out | apply below_alloc | apply pw_below_drewN | apply below_drew1 | refine below_set ?_ GE496.out) | exact HB.out)) hb); (try clear hb); (try clear hb2); (try clear hk); (try clear hi)))
  go_ret
  exact ⟨by first | rfl | (simp [errW_none, errW_some] <;> rfl) | (simp [*, errW_none, errW_some] <;> rfl), by repeat (first | (with_reducible first | exact HB.out | apply below_alloc | apply pw_below_drewN | apply below_drew1 | refine below_set ?_ GE496.out) | exact HB.out)⟩
 ·replace c3 := Bool.eq_false_iff.mpr c3
  subst c3
  have H1 : (if a0_0 = 1 then (if ([] : List ByteArray).length < 8796093022208 then (lathelaw07_TreeParts.j0 k 1 0 (([] : List ByteArray) ++ [a0_1]) a0_0 a0_1 a0_2 a0_3 a0_4 l0_5 a0_6) else (none)) else (lathelaw07_TreeParts.j0 k 1 0 ([] : List ByteArray) a0_0 a0_1 a0_2 a0_3 a0_4 l0_5 a0_6)) = some r := by rw [if_neg (show ¬ (false = true) by decide)] at H; exact H
  clear H
  have H := H1
  clear H1
  have HC9 := Aside0.mk H
  clear H
  go_enter Try.func7, Try.ntmps7
  go_upto_if 14 with (first | ((with_reducible refine gate_dst (N := 1) rfl ?_); (try (refine gate_guard (by rfl) ?_; dsimp only)); refine box_event ?hg (N := 1) ?hd (cs := #[.int .i64 a0_0, .string a0_1, .int .u32 a0_2, .int .i64 a0_3, .string a0_4, .slice A0_5 l0_5.length c0_5, .int .i64 a0_6]) (t := 26) ?hr ?_; (case hd => rfl); (case hg => rfl); (case hr => first | (go_simp; done) | (go_simp; rfl)); intro gb496 hg w10 hbox hb; have BK496 := Aside0.mk (hbox); have GW496 := Aside0.mk ((by rw [hg]; exact (below_size (by repeat (first | (with_reducible first | exact HB.out | apply below_alloc | apply pw_below_drewN | apply below_drew1) | exact HB.out))) : w.heap.size ≤ gb496)); have GE496 := Aside0.mk ((by rw [hg]; exact (below_size (by repeat (first | (with_reducible first | exact HB.out | apply below_alloc | apply pw_below_drewN | apply below_drew1) | exact HB.out))) : w.heap.size ≤ gb496)); replace HB := Aside0.mk (below_step (by repeat (first | (with_reducible first | exact HB.out | apply below_alloc | apply pw_below_drewN | apply below_drew1) | exact HB.out)) hb); clear hb hbox hg; obtain ⟨hcz11_0, hcz11_1, hcz11_2, hcz11_3, hcz11_4, hcz11_5, hcz11_6, hfz11_0, hfz11_1, hfz11_2, hfz11_3, hfz11_4, hfz11_5, hfz11_6⟩ := blk7 BK496.out) | ((with_reducible refine gate_callee (f := 10) rfl ?_); refine goesL_ (some 10) rfl rfl Try.func10 (by kernel_rfl) rfl #[.agg #[.int .i64 a0_0, .string a0_1, .int .u32 a0_2, .int .i64 a0_3, .string a0_4, .slice A0_5 l0_5.length c0_5, .int .i64 a0_6]] rfl (by (try simp only [List.map_toArray, List.map_cons, List.map_nil]); first | done | rfl | (simp only [List.length_drop, List.length_take]; rfl)) ?_; (with_reducible refine (lathelaw07_big.calls k a0_0 a0_1 a0_2 a0_3 a0_4 _ _ l0_5 a0_6 false _ ?side1 ?side2 A2.out).mono ?_); (case side1 => repeat (first | exact (Kd.C_below HR0_5.out HB.out) | (with_reducible refine Kd.C_alloc ?_ _) | (with_reducible refine Kd.C_drewN ?_ _) | (with_reducible refine Kd.C_drew ?_))); (case side2 => exact HC0_5.out); rintro e w12 ⟨rfl, hb⟩; refine ⟨_, rfl, ?_⟩; replace BK496 := Aside0.mk (blk_below (by (with_reducible repeat (first | refine blk_drewN ?_ _ | refine blk_drew ?_ | refine blk_alloc ?_ _)); exact BK496.out) hb); replace HB := Aside0.mk (below_step (by repeat (first | (with_reducible first | exact HB.out | apply below_alloc | apply pw_below_drewN | apply below_drew1 | refine below_set ?_ GE496.out) | exact HB.out)) hb); (try clear hb); (try clear hb2); (try clear hk); (try clear hi); obtain ⟨hcz13_0, hcz13_1, hcz13_2, hcz13_3, hcz13_4, hcz13_5, hcz13_6, hfz13_0, hfz13_1, hfz13_2, hfz13_3, hfz13_4, hfz13_5, hfz13_6⟩ := blk7 BK496.out))
  (try simp only [Act.put, List.setIfInBounds_toArray, List.set_cons_zero, List.set_cons_succ])
  go_cut [5] (fun v5 wc => ∃ (kq : Nat) (x5_8 : List ByteArray), Aside0 (lathelaw07_TreeParts.j0 kq 1 0 x5_8 a0_0 a0_1 a0_2 a0_3 a0_4 l0_5 a0_6 = some r) ∧ Aside0 (kq ≤ k) ∧ Aside0 (Kd.R Kd.string 9 wc w.heap.size (fun _ => True) v5 x5_8) ∧ Aside0 (wc.heap[gb496]? = some (.cells #[.int .i64 a0_0, .string a0_1, .int .u32 a0_2, .int .i64 a0_3, .string a0_4, (.slice A0_5 l0_5.length c0_5), .int .i64 a0_6] 26 (0, 0))) ∧ Aside0 (Below w.heap.size w wc))
  case first =>
   have H := HC9.out
   clear HC9
   by_cases c14 : a0_0 = 1
   ·rw [if_pos c14] at H
    have c14b0 : (a0_0 == 1) = true := beq_iff_eq.mpr c14
    have c14b1 : (a0_0 != 1) = false := bne_eq_false_iff_eq.mpr c14
    clear c14
    (first | rw [c14b0] | (simp only [i64_w, i32_w]; rw [c14b0]) | skip)
    by_cases c15 : ([] : List ByteArray).length < 8796093022208
    case neg => rw [if_neg c15] at H; exact absurd H (by simp)
    rw [if_pos c15] at H
    have LMc15 := Aside0.mk c15
    clear c15
    obtain ⟨y499, hy499⟩ : ∃ y_ : List ByteArray, y_ = (([] : List ByteArray) ++ [a0_1]) := ⟨_, rfl⟩
    replace H : (lathelaw07_TreeParts.j0 k 1 0 y499 a0_0 a0_1 a0_2 a0_3 a0_4 l0_5 a0_6) = some r := by first | (rw [hy499]; with_reducible exact H) | (have H2_ := (Option.bind_some _ _).symm.trans H; rw [hy499]; with_reducible exact H2_) | (have H2_ := (Option.bind_some _ _).symm.trans H; with_reducible exact H2_) | with_reducible exact H | (rw [hy499]; exact H) | exact H
    have Ny499 := Aside0.mk hy499
    clear hy499
    have H' := Aside0.mk H
    clear H
    obtain ⟨hcz16_0, hcz16_1, hcz16_2, hcz16_3, hcz16_4, hcz16_5, hcz16_6, hfz16_0, hfz16_1, hfz16_2, hfz16_3, hfz16_4, hfz16_5, hfz16_6⟩ := blk7 BK496.out
    go_wp2_with (first | ((with_reducible refine gate_builtin (b := .append) (xs := #[.tmp 15, .tmp 18]) rfl ?_); (try (refine gate_guard (by rfl) ?_; dsimp only)); at_builtin; refine Kd.R_append Kd.string (w0 := w) w.heap.size rfl (.tmp 15) (.tmp 18) 35 9 (.string ⟨#[]⟩) 16 rfl Try.underlying35 info9 rfl (by decide) (by omega) (.slice none 0 0) ([] : List ByteArray) a0_1 [.string a0_1] (fun _ => True) (fun _ => False) rfl rfl ?aP (fun _ hk => hk.elim) ?aF ?aO ?aB ?aS ?aL ?_; (case aP => exact rfl); (case aB => exact (by repeat (first | (with_reducible first | exact HB.out | apply below_alloc | apply pw_below_drewN | apply below_drew1 | refine below_set ?_ GE496.out) | exact HB.out))); (case aF => exact (fun _ _ => trivial)); (case aO => exact ((Kd.R_nil _ _ _ _ (fun _ => True)))); (case aS => exact (below_size (by repeat (first | (with_reducible first | exact HB.out | apply below_alloc | apply pw_below_drewN | apply below_drew1 | refine below_set ?_ GE496.out) | exact HB.out)))); (case aL => have := LMc15.out; omega); intro v500 w17 ho hb hg hat; rw [← Ny499.out] at ho; replace BK496 := Aside0.mk (blk_grown (by (with_reducible repeat (first | refine blk_drewN ?_ _ | refine blk_drew ?_ | refine blk_alloc ?_ _)); exact BK496.out) hg (by simp [Value.ownBlock])); replace HB := Aside0.mk (hb); have HO501 := Aside0.mk (ho); clear ho hb hg hat))
    go_meet
    case rel => exact ⟨_, (y499), H', ⟨by first | omega | exact Nat.le_refl _⟩, ⟨by (with_reducible repeat (first | apply Kd.R_alloc | apply Kd.R_drewN | apply Kd.R_drew)); exact HO501.out⟩, ⟨by (with_reducible repeat (first | refine blk_drewN ?_ _ | refine blk_drew ?_ | refine blk_alloc ?_ _)); exact BK496.out⟩, ⟨by repeat (first | (with_reducible first | exact HB.out | apply below_alloc | apply pw_below_drewN | apply below_drew1 | refine below_set ?_ GE496.out) | exact HB.out)⟩⟩
   ·rw [if_neg c14] at H
    have c14b0 : (a0_0 == 1) = false := beq_eq_false_iff_ne.mpr c14
    have c14b1 : (a0_0 != 1) = true := bne_iff_ne.mpr c14
    (first | rw [c14b0] | (simp only [i64_w, i32_w]; rw [c14b0]) | skip)
    have H' := Aside0.mk H
    clear H
    go_wp2
    go_meet
    case rel => exact ⟨_, (([] : List ByteArray)), H', ⟨by first | omega | exact Nat.le_refl _⟩, ⟨by first | exact Kd.R_nil _ _ _ _ _ | exact Kd.N_nil _ _ _ _ _ | exact Kd.V_nil _ _ _ _ _ | exact Kd.Q_nil _ _ _ _ _ | exact Kd.S_nil _ _ _ _ _⟩, ⟨by (with_reducible repeat (first | refine blk_drewN ?_ _ | refine blk_drew ?_ | refine blk_alloc ?_ _)); exact BK496.out⟩, ⟨by repeat (first | (with_reducible first | exact HB.out | apply below_alloc | apply pw_below_drewN | apply below_drew1 | refine below_set ?_ GE496.out) | exact HB.out)⟩⟩
  case rest =>
   clear HC9
   try clear c1
   try clear p2
   try clear c3
   try clear c7
   try clear c10
   try clear c11
   try clear c14
   try clear c14b0
   try clear c14b1
   try clear c15
   try clear hcz11_0 hcz11_1 hcz11_2 hcz11_3 hcz11_4 hcz11_5 hcz11_6
   try clear hcz13_0 hcz13_1 hcz13_2 hcz13_3 hcz13_4 hcz13_5 hcz13_6
   try clear hcz16_0 hcz16_1 hcz16_2 hcz16_3 hcz16_4 hcz16_5 hcz16_6
   try clear hcz6_0 hcz6_1 hcz6_2 hcz6_3 hcz6_4 hcz6_5 hcz6_6
   try clear hfz11_0 hfz11_1 hfz11_2 hfz11_3 hfz11_4 hfz11_5 hfz11_6
   try clear hfz13_0 hfz13_1 hfz13_2 hfz13_3 hfz13_4 hfz13_5 hfz13_6
   try clear hfz16_0 hfz16_1 hfz16_2 hfz16_3 hfz16_4 hfz16_5 hfz16_6
   try clear hfz6_0 hfz6_1 hfz6_2 hfz6_3 hfz6_4 hfz6_5 hfz6_6
   obtain ⟨kq, x5_8, HA, HJ8, HO_5, BK496, HB⟩ := hcut
   cases kq with
   | zero => exact absurd HA.out (by simp [lathelaw07_TreeParts.j0])
   | succ kj8 =>
    have H := HA.out
    clear HA
    simp only [lathelaw07_TreeParts.j0] at H
    have H' := Aside0.mk H
    clear H
    go_wp2
    go_loopg [3, 4, 5, 6] kj8 (fun kq v3 v4 v5 v6 w' => ∃ (x3_2 : Int) (x4_2 : Int) (x5_2 : List ByteArray) (x6_2 : Int), v3 = .int .i64 x3_2 ∧ v4 = .int .i64 x4_2 ∧ v6 = .int .i64 x6_2 ∧ Aside0 (lathelaw07_TreeParts.l0 kq x3_2 x4_2 x5_2 x6_2 a0_0 a0_1 a0_2 a0_3 a0_4 l0_5 a0_6 = some r) ∧ Aside0 (kq ≤ kj8) ∧ Aside0 (Kd.R Kd.string 9 w' w.heap.size (fun _ => True) v5 x5_2) ∧ Aside0 (w'.heap[gb496]? = some (.cells #[.int .i64 a0_0, .string a0_1, .int .u32 a0_2, .int .i64 a0_3, .string a0_4, (.slice A0_5 l0_5.length c0_5), .int .i64 a0_6] 26 (0, 0))) ∧ Aside0 (Below w.heap.size w w'))
    case atStart => exact ⟨(1), (0), (x5_8), (0), (by first | rfl | (simp; done) | (simp [*]; done) | (simp; exact (fun l : List UInt8 => (by cases l <;> rfl : l.isEmpty = !(l != []))) _)), (by first | rfl | (simp; done) | (simp [*]; done) | (simp; exact (fun l : List UInt8 => (by cases l <;> rfl : l.isEmpty = !(l != []))) _)), (by first | rfl | (simp; done) | (simp [*]; done) | (simp; exact (fun l : List UInt8 => (by cases l <;> rfl : l.isEmpty = !(l != []))) _)), H', ⟨Nat.le_refl _⟩, ⟨by (with_reducible repeat (first | apply Kd.R_alloc | apply Kd.R_drewN | apply Kd.R_drew)); exact HO_5.out⟩, ⟨by (with_reducible repeat (first | refine blk_drewN ?_ _ | refine blk_drew ?_ | refine blk_alloc ?_ _)); exact BK496.out⟩, ⟨by repeat (first | (with_reducible first | exact HB.out | apply below_alloc | apply pw_below_drewN | apply below_drew1 | refine below_set ?_ GE496.out) | exact HB.out)⟩⟩
    case round =>
     clear H'
     try clear c1
     try clear p2
     try clear c3
     try clear c7
     try clear c10
     try clear c11
     try clear c14
     try clear c14b0
     try clear c14b1
     try clear c15
     try clear hcz11_0 hcz11_1 hcz11_2 hcz11_3 hcz11_4 hcz11_5 hcz11_6
     try clear hcz13_0 hcz13_1 hcz13_2 hcz13_3 hcz13_4 hcz13_5 hcz13_6
     try clear hcz16_0 hcz16_1 hcz16_2 hcz16_3 hcz16_4 hcz16_5 hcz16_6
     try clear hcz6_0 hcz6_1 hcz6_2 hcz6_3 hcz6_4 hcz6_5 hcz6_6
     try clear hfz11_0 hfz11_1 hfz11_2 hfz11_3 hfz11_4 hfz11_5 hfz11_6
     try clear hfz13_0 hfz13_1 hfz13_2 hfz13_3 hfz13_4 hfz13_5 hfz13_6
     try clear hfz16_0 hfz16_1 hfz16_2 hfz16_3 hfz16_4 hfz16_5 hfz16_6
     try clear hfz6_0 hfz6_1 hfz6_2 hfz6_3 hfz6_4 hfz6_5 hfz6_6
     try clear p2
     obtain ⟨x3_2, x4_2, x5_2, x6_2, rfl, rfl, rfl, HA, HK2, HO_5, BK496, HB⟩ := hrel
     cases gk with
     | zero => exact absurd HA.out (by simp [lathelaw07_TreeParts.l0])
     | succ k2 =>
      have H := HA.out
      clear HA
      simp only [lathelaw07_TreeParts.l0] at H
      by_cases c18 : x6_2 < (l0_5.length : Int)
      ·rw [if_pos c18] at H
       have c18b0 : decide (x6_2 < (l0_5.length : Int)) = true := decide_eq_true c18
       clear c18
       by_cases c19 : 0 ≤ x6_2
       case neg => rw [if_neg c19] at H; exact absurd H (by simp)
       rw [if_pos c19] at H
       have c19b0 : decide (0 ≤ x6_2) = true := decide_eq_true c19
       clear c19
       replace H := Option.bind_eq_some_iff.mp H
       obtain ⟨t503, A200, H⟩ := H
       replace H : ((tree_Depth.f k2 ((rd_T26 l0_5 x6_2).f0) ((rd_T26 l0_5 x6_2).f1) ((rd_T26 l0_5 x6_2).f2) ((rd_T26 l0_5 x6_2).f3) ((rd_T26 l0_5 x6_2).f4) ((rd_T26 l0_5 x6_2).f5) ((rd_T26 l0_5 x6_2).f6)).bind fun t505 => ((tree_Names.f k2 ((rd_T26 l0_5 x6_2).f0) ((rd_T26 l0_5 x6_2).f1) ((rd_T26 l0_5 x6_2).f2) ((rd_T26 l0_5 x6_2).f3) ((rd_T26 l0_5 x6_2).f4) ((rd_T26 l0_5 x6_2).f5) ((rd_T26 l0_5 x6_2).f6)).bind fun t507 => (if x5_2.length + t507.length < 8796093022208 then ((tree_Find.f k2 a0_0 a0_1 a0_2 a0_3 a0_4 l0_5 a0_6 (([x6_2] : List Int))).bind fun bt516 => (if bt516.2.2.2.2.2.2.2 = true then ((lathelaw07_same.f k2 bt516.1 bt516.2.1 bt516.2.2.1 bt516.2.2.2.1 bt516.2.2.2.2.1 bt516.2.2.2.2.2.1 bt516.2.2.2.2.2.2.1 ((rd_T26 l0_5 x6_2).f0) ((rd_T26 l0_5 x6_2).f1) ((rd_T26 l0_5 x6_2).f2) ((rd_T26 l0_5 x6_2).f3) ((rd_T26 l0_5 x6_2).f4) ((rd_T26 l0_5 x6_2).f5) ((rd_T26 l0_5 x6_2).f6)).bind fun t528 => (if t528 = true then (lathelaw07_TreeParts.l0 k2 (wrap64 (x3_2 + t503)) (mx x4_2 t505) (x5_2 ++ t507) (wrap64 (x6_2 + 1)) a0_0 a0_1 a0_2 a0_3 a0_4 l0_5 a0_6) else (some false))) else (some false))) else (none)))) = some r := H
       have A20 := Aside0.mk A200
       clear A200
       replace H := Option.bind_eq_some_iff.mp H
       obtain ⟨t505, A210, H⟩ := H
       replace H : ((tree_Names.f k2 ((rd_T26 l0_5 x6_2).f0) ((rd_T26 l0_5 x6_2).f1) ((rd_T26 l0_5 x6_2).f2) ((rd_T26 l0_5 x6_2).f3) ((rd_T26 l0_5 x6_2).f4) ((rd_T26 l0_5 x6_2).f5) ((rd_T26 l0_5 x6_2).f6)).bind fun t507 => (if x5_2.length + t507.length < 8796093022208 then ((tree_Find.f k2 a0_0 a0_1 a0_2 a0_3 a0_4 l0_5 a0_6 (([x6_2] : List Int))).bind fun bt516 => (if bt516.2.2.2.2.2.2.2 = true then ((lathelaw07_same.f k2 bt516.1 bt516.2.1 bt516.2.2.1 bt516.2.2.2.1 bt516.2.2.2.2.1 bt516.2.2.2.2.2.1 bt516.2.2.2.2.2.2.1 ((rd_T26 l0_5 x6_2).f0) ((rd_T26 l0_5 x6_2).f1) ((rd_T26 l0_5 x6_2).f2) ((rd_T26 l0_5 x6_2).f3) ((rd_T26 l0_5 x6_2).f4) ((rd_T26 l0_5 x6_2).f5) ((rd_T26 l0_5 x6_2).f6)).bind fun t528 => (if t528 = true then (lathelaw07_TreeParts.l0 k2 (wrap64 (x3_2 + t503)) (mx x4_2 t505) (x5_2 ++ t507) (wrap64 (x6_2 + 1)) a0_0 a0_1 a0_2 a0_3 a0_4 l0_5 a0_6) else (some false))) else (some false))) else (none))) = some r := H
       have A21 := Aside0.mk A210
       clear A210
       obtain ⟨ji22, hji22⟩ : ∃ j_ : Int, (mx x4_2 t505) = j_ := ⟨_, rfl⟩
       replace H : ((tree_Names.f k2 ((rd_T26 l0_5 x6_2).f0) ((rd_T26 l0_5 x6_2).f1) ((rd_T26 l0_5 x6_2).f2) ((rd_T26 l0_5 x6_2).f3) ((rd_T26 l0_5 x6_2).f4) ((rd_T26 l0_5 x6_2).f5) ((rd_T26 l0_5 x6_2).f6)).bind fun t507 => (if x5_2.length + t507.length < 8796093022208 then ((tree_Find.f k2 a0_0 a0_1 a0_2 a0_3 a0_4 l0_5 a0_6 (([x6_2] : List Int))).bind fun bt516 => (if bt516.2.2.2.2.2.2.2 = true then ((lathelaw07_same.f k2 bt516.1 bt516.2.1 bt516.2.2.1 bt516.2.2.2.1 bt516.2.2.2.2.1 bt516.2.2.2.2.2.1 bt516.2.2.2.2.2.2.1 ((rd_T26 l0_5 x6_2).f0) ((rd_T26 l0_5 x6_2).f1) ((rd_T26 l0_5 x6_2).f2) ((rd_T26 l0_5 x6_2).f3) ((rd_T26 l0_5 x6_2).f4) ((rd_T26 l0_5 x6_2).f5) ((rd_T26 l0_5 x6_2).f6)).bind fun t528 => (if t528 = true then (lathelaw07_TreeParts.l0 k2 (wrap64 (x3_2 + t503)) ji22 (x5_2 ++ t507) (wrap64 (x6_2 + 1)) a0_0 a0_1 a0_2 a0_3 a0_4 l0_5 a0_6) else (some false))) else (some false))) else (none))) = some r := by first | (rw [hji22] at H; exact H) | (simp only [hji22] at H ⊢; exact H)
       (try rw [hji22] at A20)
       (try rw [hji22] at A21)
       have hji22_ : (if x4_2 < t505 then t505 else x4_2) = ji22 := hji22
       replace H := Option.bind_eq_some_iff.mp H
       obtain ⟨t507, A230, H⟩ := H
       replace H : (if x5_2.length + t507.length < 8796093022208 then ((tree_Find.f k2 a0_0 a0_1 a0_2 a0_3 a0_4 l0_5 a0_6 (([x6_2] : List Int))).bind fun bt516 => (if bt516.2.2.2.2.2.2.2 = true then ((lathelaw07_same.f k2 bt516.1 bt516.2.1 bt516.2.2.1 bt516.2.2.2.1 bt516.2.2.2.2.1 bt516.2.2.2.2.2.1 bt516.2.2.2.2.2.2.1 ((rd_T26 l0_5 x6_2).f0) ((rd_T26 l0_5 x6_2).f1) ((rd_T26 l0_5 x6_2).f2) ((rd_T26 l0_5 x6_2).f3) ((rd_T26 l0_5 x6_2).f4) ((rd_T26 l0_5 x6_2).f5) ((rd_T26 l0_5 x6_2).f6)).bind fun t528 => (if t528 = true then (lathelaw07_TreeParts.l0 k2 (wrap64 (x3_2 + t503)) ji22 (x5_2 ++ t507) (wrap64 (x6_2 + 1)) a0_0 a0_1 a0_2 a0_3 a0_4 l0_5 a0_6) else (some false))) else (some false))) else (none)) = some r := H
       have A23 := Aside0.mk A230
       clear A230
       by_cases c24 : x5_2.length + t507.length < 8796093022208
       case neg => rw [if_neg c24] at H; exact absurd H (by simp)
       rw [if_pos c24] at H
       have LMc24 := Aside0.mk c24
       clear c24
       obtain ⟨y510, hy510⟩ : ∃ y_ : List ByteArray, y_ = (x5_2 ++ t507) := ⟨_, rfl⟩
       replace H : ((tree_Find.f k2 a0_0 a0_1 a0_2 a0_3 a0_4 l0_5 a0_6 (([x6_2] : List Int))).bind fun bt516 => (if bt516.2.2.2.2.2.2.2 = true then ((lathelaw07_same.f k2 bt516.1 bt516.2.1 bt516.2.2.1 bt516.2.2.2.1 bt516.2.2.2.2.1 bt516.2.2.2.2.2.1 bt516.2.2.2.2.2.2.1 ((rd_T26 l0_5 x6_2).f0) ((rd_T26 l0_5 x6_2).f1) ((rd_T26 l0_5 x6_2).f2) ((rd_T26 l0_5 x6_2).f3) ((rd_T26 l0_5 x6_2).f4) ((rd_T26 l0_5 x6_2).f5) ((rd_T26 l0_5 x6_2).f6)).bind fun t528 => (if t528 = true then (lathelaw07_TreeParts.l0 k2 (wrap64 (x3_2 + t503)) ji22 y510 (wrap64 (x6_2 + 1)) a0_0 a0_1 a0_2 a0_3 a0_4 l0_5 a0_6) else (some false))) else (some false))) = some r := by first | (rw [hy510]; with_reducible exact H) | (have H2_ := (Option.bind_some _ _).symm.trans H; rw [hy510]; with_reducible exact H2_) | (have H2_ := (Option.bind_some _ _).symm.trans H; with_reducible exact H2_) | with_reducible exact H | (rw [hy510]; exact H) | exact H
       have Ny510 := Aside0.mk hy510
       clear hy510
       obtain ⟨y513, hy513⟩ : ∃ y_ : List Int, y_ = (([x6_2] : List Int)) := ⟨_, rfl⟩
       replace H : ((tree_Find.f k2 a0_0 a0_1 a0_2 a0_3 a0_4 l0_5 a0_6 y513).bind fun bt516 => (if bt516.2.2.2.2.2.2.2 = true then ((lathelaw07_same.f k2 bt516.1 bt516.2.1 bt516.2.2.1 bt516.2.2.2.1 bt516.2.2.2.2.1 bt516.2.2.2.2.2.1 bt516.2.2.2.2.2.2.1 ((rd_T26 l0_5 x6_2).f0) ((rd_T26 l0_5 x6_2).f1) ((rd_T26 l0_5 x6_2).f2) ((rd_T26 l0_5 x6_2).f3) ((rd_T26 l0_5 x6_2).f4) ((rd_T26 l0_5 x6_2).f5) ((rd_T26 l0_5 x6_2).f6)).bind fun t528 => (if t528 = true then (lathelaw07_TreeParts.l0 k2 (wrap64 (x3_2 + t503)) ji22 y510 (wrap64 (x6_2 + 1)) a0_0 a0_1 a0_2 a0_3 a0_4 l0_5 a0_6) else (some false))) else (some false))) = some r := by first | (rw [hy513]; with_reducible exact H) | (have H2_ := (Option.bind_some _ _).symm.trans H; rw [hy513]; with_reducible exact H2_) | (have H2_ := (Option.bind_some _ _).symm.trans H; with_reducible exact H2_) | with_reducible exact H | (rw [hy513]; exact H) | exact H
       have Ny513 := Aside0.mk hy513
       clear hy513
       replace H := Option.bind_eq_some_iff.mp H
       obtain ⟨⟨t516, t517, t518, t519, t520, t521, t524, t525⟩, A250, H⟩ := H
       replace H : (if t525 = true then ((lathelaw07_same.f k2 t516 t517 t518 t519 t520 t521 t524 ((rd_T26 l0_5 x6_2).f0) ((rd_T26 l0_5 x6_2).f1) ((rd_T26 l0_5 x6_2).f2) ((rd_T26 l0_5 x6_2).f3) ((rd_T26 l0_5 x6_2).f4) ((rd_T26 l0_5 x6_2).f5) ((rd_T26 l0_5 x6_2).f6)).bind fun t528 => (if t528 = true then (lathelaw07_TreeParts.l0 k2 (wrap64 (x3_2 + t503)) ji22 y510 (wrap64 (x6_2 + 1)) a0_0 a0_1 a0_2 a0_3 a0_4 l0_5 a0_6) else (some false))) else (some false)) = some r := H
       have A25 := Aside0.mk A250
       clear A250
       by_cases c26 : t525 = true
       ·subst c26
        have H1 : ((lathelaw07_same.f k2 t516 t517 t518 t519 t520 t521 t524 ((rd_T26 l0_5 x6_2).f0) ((rd_T26 l0_5 x6_2).f1) ((rd_T26 l0_5 x6_2).f2) ((rd_T26 l0_5 x6_2).f3) ((rd_T26 l0_5 x6_2).f4) ((rd_T26 l0_5 x6_2).f5) ((rd_T26 l0_5 x6_2).f6)).bind fun t528 => (if t528 = true then (lathelaw07_TreeParts.l0 k2 (wrap64 (x3_2 + t503)) ji22 y510 (wrap64 (x6_2 + 1)) a0_0 a0_1 a0_2 a0_3 a0_4 l0_5 a0_6) else (some false))) = some r := by rw [if_pos rfl] at H; exact H
        clear H
        have H := H1
        clear H1
        replace H := Option.bind_eq_some_iff.mp H
        obtain ⟨t528, A270, H⟩ := H
        replace H : (if t528 = true then (lathelaw07_TreeParts.l0 k2 (wrap64 (x3_2 + t503)) ji22 y510 (wrap64 (x6_2 + 1)) a0_0 a0_1 a0_2 a0_3 a0_4 l0_5 a0_6) else (some false)) = some r := H
        have A27 := Aside0.mk A270
        clear A270
        by_cases c28 : t528 = true
        ·subst c28
         have H1 : (lathelaw07_TreeParts.l0 k2 (wrap64 (x3_2 + t503)) ji22 y510 (wrap64 (x6_2 + 1)) a0_0 a0_1 a0_2 a0_3 a0_4 l0_5 a0_6) = some r := by rw [if_pos rfl] at H; exact H
         clear H
         have H := H1
         clear H1
         have H' := Aside0.mk H
         clear H
         obtain ⟨hcz29_0, hcz29_1, hcz29_2, hcz29_3, hcz29_4, hcz29_5, hcz29_6, hfz29_0, hfz29_1, hfz29_2, hfz29_3, hfz29_4, hfz29_5, hfz29_6⟩ := blk7 BK496.out
         have p502 : 0 ≤ (x6_2 : Int) := of_decide_eq_true (by first | (with_reducible assumption) | assumption)
         have q502 : x6_2 < (l0_5.length : Int) := of_decide_eq_true (by first | (with_reducible assumption) | assumption)
         obtain ⟨ad502, A502_5, c502_5, e502, hx502_0, hx502_1, hx502_2, hx502_3, hx502_4, hx502_5, hx502_6, hl502_5, hi502_5⟩ := at_T26 HR0_5.out x6_2 p502 q502
         cases e502
         replace hx502_0 := (HB.out.cell (World.block_lt_of_cell? w _ hx502_0)).trans hx502_0
         replace hx502_1 := (HB.out.cell (World.block_lt_of_cell? w _ hx502_1)).trans hx502_1
         replace hx502_2 := (HB.out.cell (World.block_lt_of_cell? w _ hx502_2)).trans hx502_2
         replace hx502_3 := (HB.out.cell (World.block_lt_of_cell? w _ hx502_3)).trans hx502_3
         replace hx502_4 := (HB.out.cell (World.block_lt_of_cell? w _ hx502_4)).trans hx502_4
         replace hx502_5 := (HB.out.cell (World.block_lt_of_cell? w _ hx502_5)).trans hx502_5
         replace hx502_6 := (HB.out.cell (World.block_lt_of_cell? w _ hx502_6)).trans hx502_6
         have HR502_5 := Aside0.mk hi502_5
         have HC502_5 := Aside0.mk hl502_5
         clear hi502_5 hl502_5
         replace p502 := eq_true p502
         replace q502 := eq_true q502
         try go_wp2_with (first | ((with_reducible refine gate_callee (f := 19) rfl ?_); refine goesL_ (some 33) rfl rfl Try.func19 (by kernel_rfl) rfl #[.agg #[.int .i64 ((rd_T26 l0_5 x6_2).f0), .string ((rd_T26 l0_5 x6_2).f1), .int .u32 ((rd_T26 l0_5 x6_2).f2), .int .i64 ((rd_T26 l0_5 x6_2).f3), .string ((rd_T26 l0_5 x6_2).f4), .slice A502_5 ((rd_T26 l0_5 x6_2).f5).length c502_5, .int .i64 ((rd_T26 l0_5 x6_2).f6)]] rfl (by (try simp only [List.map_toArray, List.map_cons, List.map_nil]); first | done | rfl | (simp only [List.length_drop, List.length_take]; rfl)) ?_; (with_reducible refine (tree_Count.calls k2 ((rd_T26 l0_5 x6_2).f0) ((rd_T26 l0_5 x6_2).f1) ((rd_T26 l0_5 x6_2).f2) ((rd_T26 l0_5 x6_2).f3) ((rd_T26 l0_5 x6_2).f4) _ _ ((rd_T26 l0_5 x6_2).f5) ((rd_T26 l0_5 x6_2).f6) t503 _ ?side1 ?side2 A20.out).mono ?_); (case side1 => repeat (first | exact (Kd.C_below HR502_5.out HB.out) | (with_reducible refine Kd.C_alloc ?_ _) | (with_reducible refine Kd.C_drewN ?_ _) | (with_reducible refine Kd.C_drew ?_))); (case side2 => exact HC502_5.out); rintro e w30 ⟨rfl, hb⟩; refine ⟨_, rfl, ?_⟩; replace HO_5 := Aside0.mk (Kd.R_below (by (with_reducible repeat (first | apply Kd.R_alloc | apply Kd.R_drewN | apply Kd.R_drew)); exact HO_5.out) hb); replace BK496 := Aside0.mk (blk_below (by (with_reducible repeat (first | refine blk_drewN ?_ _ | refine blk_drew ?_ | refine blk_alloc ?_ _)); exact BK496.out) hb); replace HB := Aside0.mk (below_step (by repeat (first | (with_reducible first | exact HB.out | apply below_alloc | apply pw_below_drewN | apply below_drew1 | refine below_set ?_ GE496.out) | exact HB.out)) hb); (try clear hb); (try clear hb2); (try clear hk); (try clear hi); obtain ⟨hcz31_0, hcz31_1, hcz31_2, hcz31_3, hcz31_4, hcz31_5, hcz31_6, hfz31_0, hfz31_1, hfz31_2, hfz31_3, hfz31_4, hfz31_5, hfz31_6⟩ := blk7 BK496.out; have p504 : 0 ≤ (x6_2 : Int) := of_decide_eq_true (by first | (with_reducible assumption) | assumption); have q504 : x6_2 < (l0_5.length : Int) := of_decide_eq_true (by first | (with_reducible assumption) | assumption); obtain ⟨ad504, A504_5, c504_5, e504, hx504_0, hx504_1, hx504_2, hx504_3, hx504_4, hx504_5, hx504_6, hl504_5, hi504_5⟩ := at_T26 HR0_5.out x6_2 p504 q504; obtain rfl : ad502 = ad504 := (by injection e504); replace hx504_0 := (HB.out.cell (World.block_lt_of_cell? w _ hx504_0)).trans hx504_0; replace hx504_1 := (HB.out.cell (World.block_lt_of_cell? w _ hx504_1)).trans hx504_1; replace hx504_2 := (HB.out.cell (World.block_lt_of_cell? w _ hx504_2)).trans hx504_2; replace hx504_3 := (HB.out.cell (World.block_lt_of_cell? w _ hx504_3)).trans hx504_3; replace hx504_4 := (HB.out.cell (World.block_lt_of_cell? w _ hx504_4)).trans hx504_4; replace hx504_5 := (HB.out.cell (World.block_lt_of_cell? w _ hx504_5)).trans hx504_5; replace hx504_6 := (HB.out.cell (World.block_lt_of_cell? w _ hx504_6)).trans hx504_6; have HR504_5 := Aside0.mk hi504_5; have HC504_5 := Aside0.mk hl504_5; clear hi504_5 hl504_5; replace p504 := eq_true p504; replace q504 := eq_true q504) | ((with_reducible refine gate_callee (f := 21) rfl ?_); refine goesL_ (some 41) rfl rfl Try.func21 (by kernel_rfl) rfl #[.agg #[.int .i64 ((rd_T26 l0_5 x6_2).f0), .string ((rd_T26 l0_5 x6_2).f1), .int .u32 ((rd_T26 l0_5 x6_2).f2), .int .i64 ((rd_T26 l0_5 x6_2).f3), .string ((rd_T26 l0_5 x6_2).f4), .slice A504_5 ((rd_T26 l0_5 x6_2).f5).length c504_5, .int .i64 ((rd_T26 l0_5 x6_2).f6)]] rfl (by (try simp only [List.map_toArray, List.map_cons, List.map_nil]); first | done | rfl | (simp only [List.length_drop, List.length_take]; rfl)) ?_; (with_reducible refine (tree_Depth.calls k2 ((rd_T26 l0_5 x6_2).f0) ((rd_T26 l0_5 x6_2).f1) ((rd_T26 l0_5 x6_2).f2) ((rd_T26 l0_5 x6_2).f3) ((rd_T26 l0_5 x6_2).f4) _ _ ((rd_T26 l0_5 x6_2).f5) ((rd_T26 l0_5 x6_2).f6) t505 _ ?side1 ?side2 A21.out).mono ?_); (case side1 => repeat (first | exact (Kd.C_below HR504_5.out HB.out) | (with_reducible refine Kd.C_alloc ?_ _) | (with_reducible refine Kd.C_drewN ?_ _) | (with_reducible refine Kd.C_drew ?_))); (case side2 => exact HC504_5.out); rintro e w32 ⟨rfl, hb⟩; refine ⟨_, rfl, ?_⟩; replace HO_5 := Aside0.mk (Kd.R_below (by (with_reducible repeat (first | apply Kd.R_alloc | apply Kd.R_drewN | apply Kd.R_drew)); exact HO_5.out) hb); replace BK496 := Aside0.mk (blk_below (by (with_reducible repeat (first | refine blk_drewN ?_ _ | refine blk_drew ?_ | refine blk_alloc ?_ _)); exact BK496.out) hb); replace HB := Aside0.mk (below_step (by repeat (first | (with_reducible first | exact HB.out | apply below_alloc | apply pw_below_drewN | apply below_drew1 | refine below_set ?_ GE496.out) | exact HB.out)) hb); (try clear hb); (try clear hb2); (try clear hk); (try clear hi); obtain ⟨hcz33_0, hcz33_1, hcz33_2, hcz33_3, hcz33_4, hcz33_5, hcz33_6, hfz33_0, hfz33_1, hfz33_2, hfz33_3, hfz33_4, hfz33_5, hfz33_6⟩ := blk7 BK496.out; have p506 : 0 ≤ (x6_2 : Int) := of_decide_eq_true (by first | (with_reducible assumption) | assumption); have q506 : x6_2 < (l0_5.length : Int) := of_decide_eq_true (by first | (with_reducible assumption) | assumption); obtain ⟨ad506, A506_5, c506_5, e506, hx506_0, hx506_1, hx506_2, hx506_3, hx506_4, hx506_5, hx506_6, hl506_5, hi506_5⟩ := at_T26 HR0_5.out x6_2 p506 q506; obtain rfl : ad502 = ad506 := (by injection e506); replace hx506_0 := (HB.out.cell (World.block_lt_of_cell? w _ hx506_0)).trans hx506_0; replace hx506_1 := (HB.out.cell (World.block_lt_of_cell? w _ hx506_1)).trans hx506_1; replace hx506_2 := (HB.out.cell (World.block_lt_of_cell? w _ hx506_2)).trans hx506_2; replace hx506_3 := (HB.out.cell (World.block_lt_of_cell? w _ hx506_3)).trans hx506_3; replace hx506_4 := (HB.out.cell (World.block_lt_of_cell? w _ hx506_4)).trans hx506_4; replace hx506_5 := (HB.out.cell (World.block_lt_of_cell? w _ hx506_5)).trans hx506_5; replace hx506_6 := (HB.out.cell (World.block_lt_of_cell? w _ hx506_6)).trans hx506_6; have HR506_5 := Aside0.mk hi506_5; have HC506_5 := Aside0.mk hl506_5; clear hi506_5 hl506_5; replace p506 := eq_true p506; replace q506 := eq_true q506) | ((with_reducible refine gate_callee (f := 25) rfl ?_); refine goesL_ (some 49) rfl rfl Try.func25 (by kernel_rfl) rfl #[.agg #[.int .i64 ((rd_T26 l0_5 x6_2).f0), .string ((rd_T26 l0_5 x6_2).f1), .int .u32 ((rd_T26 l0_5 x6_2).f2), .int .i64 ((rd_T26 l0_5 x6_2).f3), .string ((rd_T26 l0_5 x6_2).f4), .slice A506_5 ((rd_T26 l0_5 x6_2).f5).length c506_5, .int .i64 ((rd_T26 l0_5 x6_2).f6)]] rfl (by (try simp only [List.map_toArray, List.map_cons, List.map_nil]); first | done | rfl | (simp only [List.length_drop, List.length_take]; rfl)) ?_; (with_reducible refine (tree_Names.calls k2 ((rd_T26 l0_5 x6_2).f0) ((rd_T26 l0_5 x6_2).f1) ((rd_T26 l0_5 x6_2).f2) ((rd_T26 l0_5 x6_2).f3) ((rd_T26 l0_5 x6_2).f4) _ _ ((rd_T26 l0_5 x6_2).f5) ((rd_T26 l0_5 x6_2).f6) t507 _ ?side1 ?side2 A23.out).mono ?_); (case side1 => repeat (first | exact (Kd.C_below HR506_5.out HB.out) | (with_reducible refine Kd.C_alloc ?_ _) | (with_reducible refine Kd.C_drewN ?_ _) | (with_reducible refine Kd.C_drew ?_))); (case side2 => exact HC506_5.out); rintro e w34 ⟨v508, rfl, ho0, hb⟩; refine ⟨_, rfl, ?_⟩; have HO509 := Aside0.mk (Kd.R_lower (Kd.R_new' ho0 (Kd.R_lt (by (with_reducible repeat (first | apply Kd.R_alloc | apply Kd.R_drewN | apply Kd.R_drew)); exact HO_5.out))) (below_size (by repeat (first | (with_reducible first | exact HB.out | apply below_alloc | apply pw_below_drewN | apply below_drew1 | refine below_set ?_ GE496.out) | exact HB.out)))); replace HO_5 := Aside0.mk (Kd.R_elder' (by (with_reducible repeat (first | apply Kd.R_alloc | apply Kd.R_drewN | apply Kd.R_drew)); exact HO_5.out) (Kd.R_base ho0) hb); replace BK496 := Aside0.mk (blk_below (by (with_reducible repeat (first | refine blk_drewN ?_ _ | refine blk_drew ?_ | refine blk_alloc ?_ _)); exact BK496.out) hb); replace HB := Aside0.mk (below_step (by repeat (first | (with_reducible first | exact HB.out | apply below_alloc | apply pw_below_drewN | apply below_drew1 | refine below_set ?_ GE496.out) | exact HB.out)) hb); (try clear hb); (try clear hb2); (try clear hk); (try clear hi); (try clear ho0); obtain ⟨Ao36, co36, eo36⟩ := Kd.R_slice HO509.out; subst eo36) | ((with_reducible refine gate_builtin (b := .append) (xs := #[.tmp 43, .tmp 49]) rfl ?_); (try (refine gate_guard (by rfl) ?_; dsimp only)); at_builtin; refine Kd.R_append_rows Kd.string (w0 := w) w.heap.size rfl (.tmp 43) (.tmp 49) 35 9 (.string ⟨#[]⟩) 16 rfl Try.underlying35 info9 rfl (by decide) (by omega) u5 x5_2 t507 _ _ _ (fun k_ => some k_ ≠ (.slice Ao36 t507.length co36 : Value).ownBlock) (fun _ => False) rfl rfl ?aO ?aR (fun _ _ h => h) (fun _ h => h.elim) ?aF ?aB ?aS ?aL ?_; (case aR => repeat (first | exact (Kd.R_reads' HO509.out).2.2 | (with_reducible refine Kd.C_alloc ?_ _) | (with_reducible refine Kd.C_drewN ?_ _) | (with_reducible refine Kd.C_drew ?_))); (case aB => exact (by repeat (first | (with_reducible first | exact HB.out | apply below_alloc | apply pw_below_drewN | apply below_drew1 | refine below_set ?_ GE496.out) | exact HB.out))); (case aF => exact (fun k_ hk => Kd.fresh' (Kd.R_lt (by (with_reducible repeat (first | apply Kd.R_alloc | apply Kd.R_drewN | apply Kd.R_drew)); exact HO509.out)) k_ hk)); (case aO => exact (by (with_reducible repeat (first | apply Kd.R_alloc | apply Kd.R_drewN | apply Kd.R_drew)); exact Kd.R_mono HO_5.out (fun _ hk => hk.2))); (case aS => exact (below_size (by repeat (first | (with_reducible first | exact HB.out | apply below_alloc | apply pw_below_drewN | apply below_drew1 | refine below_set ?_ GE496.out) | exact HB.out)))); (case aL => have := LMc24.out; omega); intro v511 w35 ho hb hg hat; rw [← Ny510.out] at ho; replace BK496 := Aside0.mk (blk_grown (by (with_reducible repeat (first | refine blk_drewN ?_ _ | refine blk_drew ?_ | refine blk_alloc ?_ _)); exact BK496.out) hg (Kd.R_ne HO_5.out BK496.out (by decide))); replace HO509 := Aside0.mk (Kd.R_after (ok := (fun _ => True)) (by (with_reducible repeat (first | apply Kd.R_alloc | apply Kd.R_drewN | apply Kd.R_drew)); exact HO509.out) hg hat); replace HB := Aside0.mk (hb); have HO512 := Aside0.mk (ho); clear HO_5; clear ho hb hg hat; obtain ⟨hcz37_0, hcz37_1, hcz37_2, hcz37_3, hcz37_4, hcz37_5, hcz37_6, hfz37_0, hfz37_1, hfz37_2, hfz37_3, hfz37_4, hfz37_5, hfz37_6⟩ := blk7 BK496.out) | ((with_reducible refine gate_dst (N := 54) rfl ?_); (try (refine gate_guard (by rfl) ?_; dsimp only)); refine Kd.R_lit (Kd.int .i64) _ 3 ?hg (N := 54) ?hd (xs := ([x6_2] : List Int)) (inner := [.int .i64 x6_2]) (ok := fun _ => True) (okp := fun _ => True) ?hr ?hp (fun _ hk => hk) trivial (Below.refl _ _) (Nat.le_refl _) (by simp) ?_; (case hd => rfl); (case hg => rfl); (case hr => first | (go_simp; done) | (go_simp; rfl)); (case hp => exact (Reps.one (show Kd.M (Kd.int .i64) _ _ _ x6_2 [.int .i64 x6_2] from rfl) (Reps.none _ _))); intro v514 w38 ho39 hb hg_ hnew_; clear hg_ hnew_; (first | rw [← Ny513.out] at ho39 | (simp only [Int.reduceToNat] at ho39; rw [← Ny513.out] at ho39)); replace HO509 := Aside0.mk (Kd.R_below (by (with_reducible repeat (first | apply Kd.R_alloc | apply Kd.R_drewN | apply Kd.R_drew)); exact HO509.out) hb); replace HO512 := Aside0.mk (Kd.R_below (by (with_reducible repeat (first | apply Kd.R_alloc | apply Kd.R_drewN | apply Kd.R_drew)); exact HO512.out) hb); have HO515 := Aside0.mk (Kd.R_lower ho39 (below_size (by repeat (first | (with_reducible first | exact HB.out | apply below_alloc | apply pw_below_drewN | apply below_drew1 | refine below_set ?_ GE496.out) | exact HB.out)))); replace BK496 := Aside0.mk (blk_below (by (with_reducible repeat (first | refine blk_drewN ?_ _ | refine blk_drew ?_ | refine blk_alloc ?_ _)); exact BK496.out) hb); replace HB := Aside0.mk (below_step (by repeat (first | (with_reducible first | exact HB.out | apply below_alloc | apply pw_below_drewN | apply below_drew1 | refine below_set ?_ GE496.out) | exact HB.out)) hb); clear hb ho39; obtain ⟨Ao40, co40, eo40⟩ := Kd.R_slice HO515.out; subst eo40) | ((with_reducible refine gate_callee (f := 27) rfl ?_); refine goesL_ (some 55) rfl rfl Try.func27 (by kernel_rfl) rfl #[.agg #[.int .i64 a0_0, .string a0_1, .int .u32 a0_2, .int .i64 a0_3, .string a0_4, .slice (some ad502) l0_5.length c0_5, .int .i64 a0_6], .slice Ao40 y513.length co40] rfl (by (try simp only [List.map_toArray, List.map_cons, List.map_nil]); first | done | rfl | (simp only [List.length_drop, List.length_take]; rfl)) ?_; (with_reducible refine (tree_Find.calls k2 a0_0 a0_1 a0_2 a0_3 a0_4 (fun k_ => k_ < w.heap.size) _ _ l0_5 a0_6 _ _ y513 t516 t517 t518 t519 t520 t521 t524 true _ ?side1 ?side2 ?side3 A25.out).mono ?_); (case side1 => exact Kd.V_mk HC0_5.out (Kd.F_below (Kd.C_F k26_heap HR0_5.out) (by repeat (first | (with_reducible first | exact HB.out | apply below_alloc | apply pw_below_drewN | apply below_drew1 | refine below_set ?_ GE496.out) | exact HB.out)))); (case side2 => repeat (first | exact (Kd.R_reads' HO515.out).2.2 | (with_reducible refine Kd.C_alloc ?_ _) | (with_reducible refine Kd.C_drewN ?_ _) | (with_reducible refine Kd.C_drew ?_))); (case side3 => exact (Kd.R_reads' HO515.out).2.1); rintro e w41 ⟨v522, rfl, ho0, hb⟩; refine ⟨_, rfl, ?_⟩; replace HO509 := Aside0.mk (Kd.R_below (by (with_reducible repeat (first | apply Kd.R_alloc | apply Kd.R_drewN | apply Kd.R_drew)); exact HO509.out) hb); replace HO512 := Aside0.mk (Kd.R_below (by (with_reducible repeat (first | apply Kd.R_alloc | apply Kd.R_drewN | apply Kd.R_drew)); exact HO512.out) hb); replace HO515 := Aside0.mk (Kd.R_below (by (with_reducible repeat (first | apply Kd.R_alloc | apply Kd.R_drewN | apply Kd.R_drew)); exact HO515.out) hb); have HO523 := Aside0.mk (Kd.R_lower (Kd.R_newB (Kd.R_mono (ok' := fun k_ => True) ho0 (fun _ hk_ => trivial)) (by (with_reducible repeat (first | refine blk_drewN ?_ _ | refine blk_drew ?_ | refine blk_alloc ?_ _)); exact BK496.out)) (below_size (by repeat (first | (with_reducible first | exact HB.out | apply below_alloc | apply pw_below_drewN | apply below_drew1 | refine below_set ?_ GE496.out) | exact HB.out)))); replace BK496 := Aside0.mk (blk_below (by (with_reducible repeat (first | refine blk_drewN ?_ _ | refine blk_drew ?_ | refine blk_alloc ?_ _)); exact BK496.out) hb); replace HB := Aside0.mk (below_step (by repeat (first | (with_reducible first | exact HB.out | apply below_alloc | apply pw_below_drewN | apply below_drew1 | refine below_set ?_ GE496.out) | exact HB.out)) hb); (try clear hb); (try clear hb2); (try clear hk); (try clear hi); (try clear ho0)) | ((with_reducible refine gate_dst (N := 7) rfl ?_); (try (refine gate_guard (by rfl) ?_; dsimp only)); refine box_event ?hg (N := 7) ?hd (cs := #[.int .i64 0, .string (⟨#[]⟩ : ByteArray), .int .u32 0, .int .i64 0, .string (⟨#[]⟩ : ByteArray), .slice none 0 0, .int .i64 0]) (t := 26) ?hr ?_; (case hd => rfl); (case hg => rfl); (case hr => first | (go_simp; done) | (go_simp; rfl)); intro gb526 hg w42 hbox hb; replace HO509 := Aside0.mk (Kd.R_below (by (with_reducible repeat (first | apply Kd.R_alloc | apply Kd.R_drewN | apply Kd.R_drew)); exact HO509.out) hb); replace HO512 := Aside0.mk (Kd.R_below (by (with_reducible repeat (first | apply Kd.R_alloc | apply Kd.R_drewN | apply Kd.R_drew)); exact HO512.out) hb); replace HO515 := Aside0.mk (Kd.R_below (by (with_reducible repeat (first | apply Kd.R_alloc | apply Kd.R_drewN | apply Kd.R_drew)); exact HO515.out) hb); replace HO523 := Aside0.mk (Kd.R_below (Kd.R_elderB (by (with_reducible repeat (first | apply Kd.R_alloc | apply Kd.R_drewN | apply Kd.R_drew)); exact HO523.out) gb526 (Nat.le_of_eq hg.symm)) hb); have BK526 := Aside0.mk (hbox); have GW526 := Aside0.mk ((by rw [hg]; exact (below_size (by repeat (first | (with_reducible first | exact HB.out | apply below_alloc | apply pw_below_drewN | apply below_drew1 | refine below_set ?_ GE496.out) | exact HB.out))) : w.heap.size ≤ gb526)); have GE526 := Aside0.mk ((by rw [hg]; exact (below_size (by repeat (first | (with_reducible first | exact HB.out | apply below_alloc | apply pw_below_drewN | apply below_drew1 | refine below_set ?_ GE496.out) | exact HB.out))) : w.heap.size ≤ gb526)); replace HB := Aside0.mk (below_step (by repeat (first | (with_reducible first | exact HB.out | apply below_alloc | apply pw_below_drewN | apply below_drew1 | refine below_set ?_ GE496.out) | exact HB.out)) hb); have NB496_526 := Aside0.mk ((by rw [hg]; exact Nat.ne_of_lt (blk_lt (by (with_reducible repeat (first | refine blk_drewN ?_ _ | refine blk_drew ?_ | refine blk_alloc ?_ _)); exact BK496.out)) : gb496 ≠ gb526)); have NB526_496 := Aside0.mk ((by rw [hg]; exact Nat.ne_of_gt (blk_lt (by (with_reducible repeat (first | refine blk_drewN ?_ _ | refine blk_drew ?_ | refine blk_alloc ?_ _)); exact BK496.out)) : gb526 ≠ gb496)); replace BK496 := Aside0.mk (blk_below (by (with_reducible repeat (first | refine blk_drewN ?_ _ | refine blk_drew ?_ | refine blk_alloc ?_ _)); exact BK496.out) hb); clear hb hbox hg; have hnb43 := NB526_496.out; have hnc43 := NB496_526.out; obtain ⟨hcz44_0, hcz44_1, hcz44_2, hcz44_3, hcz44_4, hcz44_5, hcz44_6, hfz44_0, hfz44_1, hfz44_2, hfz44_3, hfz44_4, hfz44_5, hfz44_6⟩ := blk7 BK526.out; obtain ⟨Ao45, co45, eo45⟩ := Kd.R_slice HO523.out; subst eo45))
         have n0_ : Aside0 (Kd.R Kd.string 9 (((((((w42.setCell ⟨gb526, 0, none⟩ (.int .i64 t516)).setCell ⟨gb526, 1, none⟩ (.string t517)).setCell ⟨gb526, 2, none⟩ (.int .u32 t518)).setCell ⟨gb526, 3, none⟩ (.int .i64 t519)).setCell ⟨gb526, 4, none⟩ (.string t520)).setCell ⟨gb526, 5, none⟩ (.slice Ao45 t521.length co45)).setCell ⟨gb526, 6, none⟩ (.int .i64 t524)) w.heap.size (fun k_ => some k_ ≠ (v511 : Value).ownBlock) (.slice Ao36 t507.length co36) t507) := ⟨by (with_reducible repeat (first | apply Kd.R_alloc | apply Kd.R_drewN | apply Kd.R_drew)); exact Kd.R_mono (Kd.R_far (p := ⟨gb526, 6, none⟩) (Kd.R_far (p := ⟨gb526, 5, none⟩) (Kd.R_far (p := ⟨gb526, 4, none⟩) (Kd.R_far (p := ⟨gb526, 3, none⟩) (Kd.R_far (p := ⟨gb526, 2, none⟩) (Kd.R_far (p := ⟨gb526, 1, none⟩) (Kd.R_far (p := ⟨gb526, 0, none⟩) (Kd.R_types HO509.out BK526.out (by decide)) (fun _ hk => hk.2) (.int .i64 t516)) (fun _ hk => hk.2) (.string t517)) (fun _ hk => hk.2) (.int .u32 t518)) (fun _ hk => hk.2) (.int .i64 t519)) (fun _ hk => hk.2) (.string t520)) (fun _ hk => hk.2) (.slice Ao45 t521.length co45)) (fun _ hk => hk.2) (.int .i64 t524)) (fun _ hk => hk.1.2)⟩
         have n1_ : Aside0 (Kd.R Kd.string 9 (((((((w42.setCell ⟨gb526, 0, none⟩ (.int .i64 t516)).setCell ⟨gb526, 1, none⟩ (.string t517)).setCell ⟨gb526, 2, none⟩ (.int .u32 t518)).setCell ⟨gb526, 3, none⟩ (.int .i64 t519)).setCell ⟨gb526, 4, none⟩ (.string t520)).setCell ⟨gb526, 5, none⟩ (.slice Ao45 t521.length co45)).setCell ⟨gb526, 6, none⟩ (.int .i64 t524)) w.heap.size (fun k_ => some k_ ≠ (.slice Ao36 t507.length co36 : Value).ownBlock) v511 y510) := ⟨by (with_reducible repeat (first | apply Kd.R_alloc | apply Kd.R_drewN | apply Kd.R_drew)); exact Kd.R_mono (Kd.R_far (p := ⟨gb526, 6, none⟩) (Kd.R_far (p := ⟨gb526, 5, none⟩) (Kd.R_far (p := ⟨gb526, 4, none⟩) (Kd.R_far (p := ⟨gb526, 3, none⟩) (Kd.R_far (p := ⟨gb526, 2, none⟩) (Kd.R_far (p := ⟨gb526, 1, none⟩) (Kd.R_far (p := ⟨gb526, 0, none⟩) (Kd.R_types HO512.out BK526.out (by decide)) (fun _ hk => hk.2) (.int .i64 t516)) (fun _ hk => hk.2) (.string t517)) (fun _ hk => hk.2) (.int .u32 t518)) (fun _ hk => hk.2) (.int .i64 t519)) (fun _ hk => hk.2) (.string t520)) (fun _ hk => hk.2) (.slice Ao45 t521.length co45)) (fun _ hk => hk.2) (.int .i64 t524)) (fun _ hk => hk.1)⟩
         have n2_ : Aside0 (Kd.R (Kd.int .i64) 3 (((((((w42.setCell ⟨gb526, 0, none⟩ (.int .i64 t516)).setCell ⟨gb526, 1, none⟩ (.string t517)).setCell ⟨gb526, 2, none⟩ (.int .u32 t518)).setCell ⟨gb526, 3, none⟩ (.int .i64 t519)).setCell ⟨gb526, 4, none⟩ (.string t520)).setCell ⟨gb526, 5, none⟩ (.slice Ao45 t521.length co45)).setCell ⟨gb526, 6, none⟩ (.int .i64 t524)) w.heap.size (fun _ => True) (.slice Ao40 y513.length co40) y513) := ⟨by (with_reducible repeat (first | apply Kd.R_alloc | apply Kd.R_drewN | apply Kd.R_drew)); exact Kd.R_mono (Kd.R_far (p := ⟨gb526, 6, none⟩) (Kd.R_far (p := ⟨gb526, 5, none⟩) (Kd.R_far (p := ⟨gb526, 4, none⟩) (Kd.R_far (p := ⟨gb526, 3, none⟩) (Kd.R_far (p := ⟨gb526, 2, none⟩) (Kd.R_far (p := ⟨gb526, 1, none⟩) (Kd.R_far (p := ⟨gb526, 0, none⟩) (Kd.R_types HO515.out BK526.out (by decide)) (fun _ hk => hk.2) (.int .i64 t516)) (fun _ hk => hk.2) (.string t517)) (fun _ hk => hk.2) (.int .u32 t518)) (fun _ hk => hk.2) (.int .i64 t519)) (fun _ hk => hk.2) (.string t520)) (fun _ hk => hk.2) (.slice Ao45 t521.length co45)) (fun _ hk => hk.2) (.int .i64 t524)) (fun _ hk => trivial)⟩
         have n3_ : Aside0 (Kd.R k26 26 (((((((w42.setCell ⟨gb526, 0, none⟩ (.int .i64 t516)).setCell ⟨gb526, 1, none⟩ (.string t517)).setCell ⟨gb526, 2, none⟩ (.int .u32 t518)).setCell ⟨gb526, 3, none⟩ (.int .i64 t519)).setCell ⟨gb526, 4, none⟩ (.string t520)).setCell ⟨gb526, 5, none⟩ (.slice Ao45 t521.length co45)).setCell ⟨gb526, 6, none⟩ (.int .i64 t524)) w.heap.size (fun k_ => k_ ≠ gb496 ∧ k_ ≠ gb526) (.slice Ao45 t521.length co45) t521) := ⟨by (with_reducible repeat (first | apply Kd.R_alloc | apply Kd.R_drewN | apply Kd.R_drew)); exact Kd.R_mono (Kd.R_far (p := ⟨gb526, 6, none⟩) (Kd.R_far (p := ⟨gb526, 5, none⟩) (Kd.R_far (p := ⟨gb526, 4, none⟩) (Kd.R_far (p := ⟨gb526, 3, none⟩) (Kd.R_far (p := ⟨gb526, 2, none⟩) (Kd.R_far (p := ⟨gb526, 1, none⟩) (Kd.R_far (p := ⟨gb526, 0, none⟩) (Kd.R_mono HO523.out (fun k_ hk => (⟨hk, hk.2⟩ : _ ∧ k_ ≠ gb526))) (fun _ hk => hk.2) (.int .i64 t516)) (fun _ hk => hk.2) (.string t517)) (fun _ hk => hk.2) (.int .u32 t518)) (fun _ hk => hk.2) (.int .i64 t519)) (fun _ hk => hk.2) (.string t520)) (fun _ hk => hk.2) (.slice Ao45 t521.length co45)) (fun _ hk => hk.2) (.int .i64 t524)) (fun _ hk => ⟨hk.1.1.2, hk.1.2⟩)⟩
         have n4_ : Aside0 ((((((((w42.setCell ⟨gb526, 0, none⟩ (.int .i64 t516)).setCell ⟨gb526, 1, none⟩ (.string t517)).setCell ⟨gb526, 2, none⟩ (.int .u32 t518)).setCell ⟨gb526, 3, none⟩ (.int .i64 t519)).setCell ⟨gb526, 4, none⟩ (.string t520)).setCell ⟨gb526, 5, none⟩ (.slice Ao45 t521.length co45)).setCell ⟨gb526, 6, none⟩ (.int .i64 t524)).heap[gb496]? = some (.cells #[.int .i64 a0_0, .string a0_1, .int .u32 a0_2, .int .i64 a0_3, .string a0_4, .slice (some ad502) l0_5.length c0_5, .int .i64 a0_6] 26 (0, 0))) := ⟨by (repeat (first | (with_reducible first | refine blk_drewN ?_ _ | refine blk_drew ?_ | refine blk_alloc ?_ _) | refine blk_far ?_ NB496_526.out _)); exact BK496.out⟩
         have n5_ : Aside0 ((((((((w42.setCell ⟨gb526, 0, none⟩ (.int .i64 t516)).setCell ⟨gb526, 1, none⟩ (.string t517)).setCell ⟨gb526, 2, none⟩ (.int .u32 t518)).setCell ⟨gb526, 3, none⟩ (.int .i64 t519)).setCell ⟨gb526, 4, none⟩ (.string t520)).setCell ⟨gb526, 5, none⟩ (.slice Ao45 t521.length co45)).setCell ⟨gb526, 6, none⟩ (.int .i64 t524)).heap[gb526]? = some (.cells #[.int .i64 t516, .string t517, .int .u32 t518, .int .i64 t519, .string t520, .slice Ao45 t521.length co45, .int .i64 t524] 26 (0, 0))) := ⟨by (with_reducible repeat (first | refine blk_drewN ?_ _ | refine blk_drew ?_ | refine blk_alloc ?_ _)); refine blk_put (cs := #[.int .i64 t516, .string t517, .int .u32 t518, .int .i64 t519, .string t520, .slice Ao45 t521.length co45, .int .i64 0]) ?_ 6 _ rfl; refine blk_put (cs := #[.int .i64 t516, .string t517, .int .u32 t518, .int .i64 t519, .string t520, .slice none 0 0, .int .i64 0]) ?_ 5 _ rfl; refine blk_put (cs := #[.int .i64 t516, .string t517, .int .u32 t518, .int .i64 t519, .string (⟨#[]⟩ : ByteArray), .slice none 0 0, .int .i64 0]) ?_ 4 _ rfl; refine blk_put (cs := #[.int .i64 t516, .string t517, .int .u32 t518, .int .i64 0, .string (⟨#[]⟩ : ByteArray), .slice none 0 0, .int .i64 0]) ?_ 3 _ rfl; refine blk_put (cs := #[.int .i64 t516, .string t517, .int .u32 0, .int .i64 0, .string (⟨#[]⟩ : ByteArray), .slice none 0 0, .int .i64 0]) ?_ 2 _ rfl; refine blk_put (cs := #[.int .i64 t516, .string (⟨#[]⟩ : ByteArray), .int .u32 0, .int .i64 0, .string (⟨#[]⟩ : ByteArray), .slice none 0 0, .int .i64 0]) ?_ 1 _ rfl; refine blk_put (cs := #[.int .i64 0, .string (⟨#[]⟩ : ByteArray), .int .u32 0, .int .i64 0, .string (⟨#[]⟩ : ByteArray), .slice none 0 0, .int .i64 0]) ?_ 0 _ rfl; (with_reducible repeat (first | refine blk_drewN ?_ _ | refine blk_drew ?_ | refine blk_alloc ?_ _)); exact BK526.out⟩
         have n6_ : Aside0 (Below w.heap.size w (((((((w42.setCell ⟨gb526, 0, none⟩ (.int .i64 t516)).setCell ⟨gb526, 1, none⟩ (.string t517)).setCell ⟨gb526, 2, none⟩ (.int .u32 t518)).setCell ⟨gb526, 3, none⟩ (.int .i64 t519)).setCell ⟨gb526, 4, none⟩ (.string t520)).setCell ⟨gb526, 5, none⟩ (.slice Ao45 t521.length co45)).setCell ⟨gb526, 6, none⟩ (.int .i64 t524))) := ⟨by repeat (first | (with_reducible first | exact HB.out | apply below_alloc | apply pw_below_drewN | apply below_drew1 | refine below_set ?_ GE496.out | refine below_set ?_ GE526.out) | exact HB.out)⟩
         (try clear HO509)
         (try clear HO512)
         (try clear HO515)
         (try clear HO523)
         (try clear BK496)
         (try clear BK526)
         (try clear HB)
         generalize (((((((w42.setCell ⟨gb526, 0, none⟩ (.int .i64 t516)).setCell ⟨gb526, 1, none⟩ (.string t517)).setCell ⟨gb526, 2, none⟩ (.int .u32 t518)).setCell ⟨gb526, 3, none⟩ (.int .i64 t519)).setCell ⟨gb526, 4, none⟩ (.string t520)).setCell ⟨gb526, 5, none⟩ (.slice Ao45 t521.length co45)).setCell ⟨gb526, 6, none⟩ (.int .i64 t524)) = w46 at n0_ n1_ n2_ n3_ n4_ n5_ n6_ ⊢
         have HO509 := n0_
         have HO512 := n1_
         have HO515 := n2_
         have HO523 := n3_
         have BK496 := n4_
         have BK526 := n5_
         have HB := n6_
         clear n0_ n1_ n2_ n3_ n4_ n5_ n6_
         replace HO509 := Aside0.mk (Kd.R_drew HO509.out)
         replace HO512 := Aside0.mk (Kd.R_drew HO512.out)
         replace HO515 := Aside0.mk (Kd.R_drew HO515.out)
         replace HO523 := Aside0.mk (Kd.R_drew HO523.out)
         replace BK496 := Aside0.mk (blk_drew BK496.out)
         replace BK526 := Aside0.mk (blk_drew BK526.out)
         replace HB := Aside0.mk (below_drew1 HB.out)
         have p527 : 0 ≤ (x6_2 : Int) := of_decide_eq_true (by first | (with_reducible assumption) | assumption)
         have q527 : x6_2 < (l0_5.length : Int) := of_decide_eq_true (by first | (with_reducible assumption) | assumption)
         obtain ⟨ad527, A527_5, c527_5, e527, hx527_0, hx527_1, hx527_2, hx527_3, hx527_4, hx527_5, hx527_6, hl527_5, hi527_5⟩ := at_T26 HR0_5.out x6_2 p527 q527
         have hw527_6 := hx527_6
         have hw527_5 := hx527_5
         have hw527_4 := hx527_4
         have hw527_3 := hx527_3
         have hw527_2 := hx527_2
         have hw527_1 := hx527_1
         have hw527_0 := hx527_0
         obtain rfl : ad502 = ad527 := (by injection e527)
         replace hx527_0 := (HB.out.cell (World.block_lt_of_cell? w _ hx527_0)).trans hx527_0
         replace hx527_1 := (HB.out.cell (World.block_lt_of_cell? w _ hx527_1)).trans hx527_1
         replace hx527_2 := (HB.out.cell (World.block_lt_of_cell? w _ hx527_2)).trans hx527_2
         replace hx527_3 := (HB.out.cell (World.block_lt_of_cell? w _ hx527_3)).trans hx527_3
         replace hx527_4 := (HB.out.cell (World.block_lt_of_cell? w _ hx527_4)).trans hx527_4
         replace hx527_5 := (HB.out.cell (World.block_lt_of_cell? w _ hx527_5)).trans hx527_5
         replace hx527_6 := (HB.out.cell (World.block_lt_of_cell? w _ hx527_6)).trans hx527_6
         have HR527_5 := Aside0.mk hi527_5
         have HC527_5 := Aside0.mk hl527_5
         clear hi527_5 hl527_5
         replace p527 := eq_true p527
         replace q527 := eq_true q527
         refine start_ (n := 12) (S := fun w' => w'.cell? ⟨gb526, 0, none⟩ = some (.int .i64 t516) ∧ w'.cell? ⟨gb526, 1, none⟩ = some (.string t517) ∧ w'.cell? ⟨gb526, 2, none⟩ = some (.int .u32 t518) ∧ w'.cell? ⟨gb526, 3, none⟩ = some (.int .i64 t519) ∧ w'.cell? ⟨gb526, 4, none⟩ = some (.string t520) ∧ w'.cell? ⟨gb526, 5, none⟩ = some (.slice Ao45 t521.length co45) ∧ w'.cell? ⟨gb526, 6, none⟩ = some (.int .i64 t524) ∧ w'.cell? ⟨gb496, 0, none⟩ = some (.int .i64 a0_0) ∧ w'.cell? ⟨gb496, 1, none⟩ = some (.string a0_1) ∧ w'.cell? ⟨gb496, 2, none⟩ = some (.int .u32 a0_2) ∧ w'.cell? ⟨gb496, 3, none⟩ = some (.int .i64 a0_3) ∧ w'.cell? ⟨gb496, 4, none⟩ = some (.string a0_4) ∧ w'.cell? ⟨gb496, 5, none⟩ = some (.slice (some ad502) l0_5.length c0_5) ∧ w'.cell? ⟨gb496, 6, none⟩ = some (.int .i64 a0_6) ∧ w'.cell? (ad502.add ((x6_2).toNat * 7)) = some (.int .i64 ((rd_T26 l0_5 x6_2).f0)) ∧ w'.cell? ⟨(ad502.add ((x6_2).toNat * 7)).block, (ad502.add ((x6_2).toNat * 7)).off + 1, none⟩ = some (.string ((rd_T26 l0_5 x6_2).f1)) ∧ w'.cell? ⟨(ad502.add ((x6_2).toNat * 7)).block, (ad502.add ((x6_2).toNat * 7)).off + 2, none⟩ = some (.int .u32 ((rd_T26 l0_5 x6_2).f2)) ∧ w'.cell? ⟨(ad502.add ((x6_2).toNat * 7)).block, (ad502.add ((x6_2).toNat * 7)).off + 3, none⟩ = some (.int .i64 ((rd_T26 l0_5 x6_2).f3)) ∧ w'.cell? ⟨(ad502.add ((x6_2).toNat * 7)).block, (ad502.add ((x6_2).toNat * 7)).off + 4, none⟩ = some (.string ((rd_T26 l0_5 x6_2).f4)) ∧ w'.cell? ⟨(ad502.add ((x6_2).toNat * 7)).block, (ad502.add ((x6_2).toNat * 7)).off + 5, none⟩ = some (.slice A527_5 ((rd_T26 l0_5 x6_2).f5).length c527_5) ∧ w'.cell? ⟨(ad502.add ((x6_2).toNat * 7)).block, (ad502.add ((x6_2).toNat * 7)).off + 6, none⟩ = some (.int .i64 ((rd_T26 l0_5 x6_2).f6))) (ds := []) #[false, false, false, false, false, false, false, false, false, false, false, false] (by kernel_rfl) rfl rfl ⟨(blk_cell BK526.out 0).trans rfl, (blk_cell BK526.out 1).trans rfl, (blk_cell BK526.out 2).trans rfl, (blk_cell BK526.out 3).trans rfl, (blk_cell BK526.out 4).trans rfl, (blk_cell BK526.out 5).trans rfl, (blk_cell BK526.out 6).trans rfl, (blk_cell BK496.out 0).trans rfl, (blk_cell BK496.out 1).trans rfl, (blk_cell BK496.out 2).trans rfl, (blk_cell BK496.out 3).trans rfl, (blk_cell BK496.out 4).trans rfl, (blk_cell BK496.out 5).trans rfl, (blk_cell BK496.out 6).trans rfl, ((HB.out.cell (World.block_lt_of_cell? w _ hw527_0)).trans hw527_0), ((HB.out.cell (World.block_lt_of_cell? w _ hw527_1)).trans hw527_1), ((HB.out.cell (World.block_lt_of_cell? w _ hw527_2)).trans hw527_2), ((HB.out.cell (World.block_lt_of_cell? w _ hw527_3)).trans hw527_3), ((HB.out.cell (World.block_lt_of_cell? w _ hw527_4)).trans hw527_4), ((HB.out.cell (World.block_lt_of_cell? w _ hw527_5)).trans hw527_5), ((HB.out.cell (World.block_lt_of_cell? w _ hw527_6)).trans hw527_6)⟩ (fun hHeld => ?_); refine with_tabW lathelaw07_TreeParts.tab14 lathelaw07_TreeParts.bits14 (fun HT_ HW_ => ?_)
         generalize w46.drew = w47 at HO509 HO512 HO515 HO523 BK496 BK526 HB HR527_5 hx527_0 hx527_1 hx527_2 hx527_3 hx527_4 hx527_5 hx527_6 hHeld ⊢
         refine pure_ (i := 0) (N := some 58) (v := ?_) (a' := ?_) (bq true [1, 11]).toArray rfl rfl (any_of HT_.out (by kernel_rfl)) (fun _ _ _ h => h) (Or.inl ⟨by rfl, ?_⟩) ?_ ?_
         rotate_left
         ·intro w'
          go_simp
          with_reducible rfl
         rotate_left
         ·simp only [Act.put, List.setIfInBounds_toArray, List.set_cons_zero, List.set_cons_succ, i64_w, i32_w]
          rfl
         refine pure_ (i := 1) (N := some 59) (v := ?_) (a' := ?_) (bq true [2, 10]).toArray rfl rfl (any_of HT_.out (by kernel_rfl)) (fun _ _ _ h => h) (Or.inl ⟨by rfl, ?_⟩) ?_ ?_
         rotate_left
         ·intro w'
          go_simp
          with_reducible rfl
         rotate_left
         ·simp only [Act.put, List.setIfInBounds_toArray, List.set_cons_zero, List.set_cons_succ, i64_w, i32_w]
          rfl
         refine pure_ (i := 2) (N := some 60) (v := ?_) (a' := ?_) (bq true [3, 9]).toArray rfl rfl (any_of HT_.out (by kernel_rfl)) (fun _ _ _ h => h) (Or.inl ⟨by rfl, ?_⟩) ?_ ?_
         rotate_left
         ·intro w'
          go_simp
          with_reducible rfl
         rotate_left
         ·simp only [Act.put, List.setIfInBounds_toArray, List.set_cons_zero, List.set_cons_succ, i64_w, i32_w]
          rfl
         refine pure_ (i := 4) (N := some 62) (v := ?_) (a' := ?_) (bq true [3, 1, 1, 7]).toArray rfl rfl (any_of HT_.out (by kernel_rfl)) (fun _ _ _ h => h) (Or.inl ⟨by rfl, ?_⟩) ?_ ?_
         rotate_left
         ·intro w'
          go_simp
          with_reducible rfl
         rotate_left
         ·simp only [Act.put, List.setIfInBounds_toArray, List.set_cons_zero, List.set_cons_succ, i64_w, i32_w]
          rfl
         refine pure_ (i := 6) (N := some 64) (v := ?_) (a' := ?_) (bq true [3, 1, 1, 1, 1, 5]).toArray rfl rfl (any_of HT_.out (by kernel_rfl)) (fun _ _ _ h => h) (Or.inl ⟨by rfl, ?_⟩) ?_ ?_
         rotate_left
         ·intro w'
          go_simp
          with_reducible rfl
         rotate_left
         ·simp only [Act.put, List.setIfInBounds_toArray, List.set_cons_zero, List.set_cons_succ, i64_w, i32_w]
          rfl
         refine take_ (i := 3) (N := some 61) (v := ?_) (a' := ?_) (bq true [5, 1, 1, 5]).toArray rfl rfl (take_ofW HT_.out HW_.out (by kernel_rfl)) (fun _ _ _ h => h) (Or.inl ⟨by rfl, ?_⟩) hHeld ?_ ?_
         rotate_left
         ·rintro w' ⟨s0, s1, s2, s3, s4, s5, s6, s7, s8, s9, s10, s11, s12, s13, s14, s15, s16, s17, s18, s19, s20⟩
          go_simp
          with_reducible rfl
         rotate_left
         ·simp only [Act.put, List.setIfInBounds_toArray, List.set_cons_zero, List.set_cons_succ, i64_w, i32_w]
          rfl
         refine take_ (i := 5) (N := some 63) (v := ?_) (a' := ?_) (bq true [7, 5]).toArray rfl rfl (take_ofW HT_.out HW_.out (by kernel_rfl)) (fun _ _ _ h => h) (Or.inl ⟨by rfl, ?_⟩) hHeld ?_ ?_
         rotate_left
         ·rintro w' ⟨s0, s1, s2, s3, s4, s5, s6, s7, s8, s9, s10, s11, s12, s13, s14, s15, s16, s17, s18, s19, s20⟩
          go_simp
          with_reducible rfl
         rotate_left
         ·simp only [Act.put, List.setIfInBounds_toArray, List.set_cons_zero, List.set_cons_succ, i64_w, i32_w]
          rfl
         refine pure_ (i := 7) (N := some 65) (v := ?_) (a' := ?_) (bq true [8, 4]).toArray rfl rfl (any_of HT_.out (by kernel_rfl)) (fun _ _ _ h => h) (Or.inl ⟨by rfl, ?_⟩) ?_ ?_
         rotate_left
         ·intro w'
          go_simp
          with_reducible rfl
         rotate_left
         ·simp only [Act.put, List.setIfInBounds_toArray, List.set_cons_zero, List.set_cons_succ, i64_w, i32_w]
          rfl
         refine take_ (i := 8) (N := some 66) (v := ?_) (a' := ?_) (bq true [9, 3]).toArray rfl rfl (take_ofW HT_.out HW_.out (by kernel_rfl)) (fun _ _ _ h => h) (Or.inl ⟨by rfl, ?_⟩) hHeld ?_ ?_
         rotate_left
         ·rintro w' ⟨s0, s1, s2, s3, s4, s5, s6, s7, s8, s9, s10, s11, s12, s13, s14, s15, s16, s17, s18, s19, s20⟩
          go_simp
          with_reducible rfl
         rotate_left
         ·simp only [Act.put, List.setIfInBounds_toArray, List.set_cons_zero, List.set_cons_succ, i64_w, i32_w]
          rfl
         refine one_ (i := 9) (N := some 67) (bq true [10, 2]).toArray rfl rfl (one_of HT_.out (by kernel_rfl)) (by decide) (fun K hK => ?_)
         refine goes_ Try.func15 (by kernel_rfl) rfl #[.agg #[.int .i64 t516, .string t517, .int .u32 t518, .int .i64 t519, .string t520, .slice Ao45 t521.length co45, .int .i64 t524], .agg #[.int .i64 ((rd_T26 l0_5 x6_2).f0), .string ((rd_T26 l0_5 x6_2).f1), .int .u32 ((rd_T26 l0_5 x6_2).f2), .int .i64 ((rd_T26 l0_5 x6_2).f3), .string ((rd_T26 l0_5 x6_2).f4), .slice A527_5 ((rd_T26 l0_5 x6_2).f5).length c527_5, .int .i64 ((rd_T26 l0_5 x6_2).f6)]] (by rfl) rfl rfl (by (try simp only [List.map_toArray, List.map_cons, List.map_nil]); first | done | rfl | (simp only [List.length_drop, List.length_take]; rfl)) ?_
         with_reducible refine (lathelaw07_same.calls k2 t516 t517 t518 t519 t520 _ _ t521 t524 ((rd_T26 l0_5 x6_2).f0) ((rd_T26 l0_5 x6_2).f1) ((rd_T26 l0_5 x6_2).f2) ((rd_T26 l0_5 x6_2).f3) ((rd_T26 l0_5 x6_2).f4) _ _ ((rd_T26 l0_5 x6_2).f5) ((rd_T26 l0_5 x6_2).f6) true _ ?side1 ?side2 ?side3 ?side4 A27.out).mono ?_
         (case side1 => repeat (first | exact (Kd.R_reads' HO523.out).2.2 | (with_reducible refine Kd.C_alloc ?_ _) | (with_reducible refine Kd.C_drewN ?_ _) | (with_reducible refine Kd.C_drew ?_)))
         (case side2 => exact (Kd.R_reads' HO523.out).2.1)
         (case side3 => repeat (first | exact (Kd.C_below HR527_5.out HB.out) | (with_reducible refine Kd.C_alloc ?_ _) | (with_reducible refine Kd.C_drewN ?_ _) | (with_reducible refine Kd.C_drew ?_)))
         (case side4 => exact HC527_5.out)
         rintro e w48 ⟨rfl, hb⟩
         refine ⟨_, rfl, ?_⟩
         replace HO509 := Aside0.mk (Kd.R_below (by (with_reducible repeat (first | apply Kd.R_alloc | apply Kd.R_drewN | apply Kd.R_drew)); exact HO509.out) hb)
         replace HO512 := Aside0.mk (Kd.R_below (by (with_reducible repeat (first | apply Kd.R_alloc | apply Kd.R_drewN | apply Kd.R_drew)); exact HO512.out) hb)
         replace HO515 := Aside0.mk (Kd.R_below (by (with_reducible repeat (first | apply Kd.R_alloc | apply Kd.R_drewN | apply Kd.R_drew)); exact HO515.out) hb)
         replace HO523 := Aside0.mk (Kd.R_below (by (with_reducible repeat (first | apply Kd.R_alloc | apply Kd.R_drewN | apply Kd.R_drew)); exact HO523.out) hb)
         replace BK496 := Aside0.mk (blk_below (by (with_reducible repeat (first | refine blk_drewN ?_ _ | refine blk_drew ?_ | refine blk_alloc ?_ _)); exact BK496.out) hb)
         replace BK526 := Aside0.mk (blk_below (by (with_reducible repeat (first | refine blk_drewN ?_ _ | refine blk_drew ?_ | refine blk_alloc ?_ _)); exact BK526.out) hb)
         replace HB := Aside0.mk (below_step (by repeat (first | (with_reducible first | exact HB.out | apply below_alloc | apply pw_below_drewN | apply below_drew1 | refine below_set ?_ GE496.out | refine below_set ?_ GE526.out) | exact HB.out)) hb)
         (try clear hb)
         (try clear hb2)
         (try clear hk)
         (try clear hi)
         refine hK.out _ _ ⟨(blk_cell BK526.out 0).trans rfl, (blk_cell BK526.out 1).trans rfl, (blk_cell BK526.out 2).trans rfl, (blk_cell BK526.out 3).trans rfl, (blk_cell BK526.out 4).trans rfl, (blk_cell BK526.out 5).trans rfl, (blk_cell BK526.out 6).trans rfl, (blk_cell BK496.out 0).trans rfl, (blk_cell BK496.out 1).trans rfl, (blk_cell BK496.out 2).trans rfl, (blk_cell BK496.out 3).trans rfl, (blk_cell BK496.out 4).trans rfl, (blk_cell BK496.out 5).trans rfl, (blk_cell BK496.out 6).trans rfl, ((HB.out.cell (World.block_lt_of_cell? w _ hw527_0)).trans hw527_0), ((HB.out.cell (World.block_lt_of_cell? w _ hw527_1)).trans hw527_1), ((HB.out.cell (World.block_lt_of_cell? w _ hw527_2)).trans hw527_2), ((HB.out.cell (World.block_lt_of_cell? w _ hw527_3)).trans hw527_3), ((HB.out.cell (World.block_lt_of_cell? w _ hw527_4)).trans hw527_4), ((HB.out.cell (World.block_lt_of_cell? w _ hw527_5)).trans hw527_5), ((HB.out.cell (World.block_lt_of_cell? w _ hw527_6)).trans hw527_6)⟩ (fun hHeld => ?_)
         clear hK K
         refine norm_ (a' := ?_) ?_ ?_
         rotate_left
         ·show Act.put _ (some 67) _ = _
          simp only [Act.put, List.setIfInBounds_toArray, List.set_cons_zero, List.set_cons_succ, i64_w, i32_w]
          rfl
         refine pure_ (i := 10) (N := some 68) (v := ?_) (a' := ?_) (bq true [11, 1]).toArray rfl rfl (any_of HT_.out (by kernel_rfl)) (fun _ _ _ h => h) (Or.inl ⟨by rfl, ?_⟩) ?_ ?_
         rotate_left
         ·intro w'
          go_simp
          with_reducible rfl
         rotate_left
         ·simp only [Act.put, List.setIfInBounds_toArray, List.set_cons_zero, List.set_cons_succ, i64_w, i32_w]
          rfl
         refine pure_ (i := 11) (N := some 69) (v := ?_) (a' := ?_) (bq true [12]).toArray rfl rfl (any_of HT_.out (by kernel_rfl)) (fun _ _ _ h => h) (Or.inl ⟨by rfl, ?_⟩) ?_ ?_
         rotate_left
         ·intro w'
          go_simp
          with_reducible rfl
         rotate_left
         ·simp only [Act.put, List.setIfInBounds_toArray, List.set_cons_zero, List.set_cons_succ, i64_w, i32_w]
          rfl
         refine done_ (done_of HT_.out (by kernel_rfl)) ?_
         try go_wp2
         go_roundg k2
         case measure => have := HJ8.out; have := HK2.out; omega
         case rel => exact ⟨(wrap64 (x3_2 + t503)), (ji22), (y510), (wrap64 (x6_2 + 1)), (by first | rfl | (simp; done) | (simp [*]; done) | (simp; exact (fun l : List UInt8 => (by cases l <;> rfl : l.isEmpty = !(l != []))) _)), (by first | rfl | (simp; done) | (simp only [← hji22] <;> (first | rfl | simp)) | (simp [*]; done)), (by first | rfl | (simp; done) | (simp [*]; done) | (simp; exact (fun l : List UInt8 => (by cases l <;> rfl : l.isEmpty = !(l != []))) _)), H', ⟨by have := HJ8.out; have := HK2.out; omega⟩, ⟨by (with_reducible repeat (first | apply Kd.R_alloc | apply Kd.R_drewN | apply Kd.R_drew)); exact Kd.R_mono HO512.out (fun _ hk => trivial)⟩, ⟨by (with_reducible repeat (first | refine blk_drewN ?_ _ | refine blk_drew ?_ | refine blk_alloc ?_ _)); exact BK496.out⟩, ⟨by repeat (first | (with_reducible first | exact HB.out | apply below_alloc | apply pw_below_drewN | apply below_drew1 | refine below_set ?_ GE496.out | refine below_set ?_ GE526.out) | exact HB.out)⟩⟩
        ·replace c28 := Bool.eq_false_iff.mpr c28
         subst c28
         have H1 : (some false) = some r := by rw [if_neg (show ¬ (false = true) by decide)] at H; exact H
         clear H
         have H := H1
         clear H1
         obtain rfl := Option.some.inj H
         obtain ⟨hcz49_0, hcz49_1, hcz49_2, hcz49_3, hcz49_4, hcz49_5, hcz49_6, hfz49_0, hfz49_1, hfz49_2, hfz49_3, hfz49_4, hfz49_5, hfz49_6⟩ := blk7 BK496.out
         have p502 : 0 ≤ (x6_2 : Int) := of_decide_eq_true (by first | (with_reducible assumption) | assumption)
         have q502 : x6_2 < (l0_5.length : Int) := of_decide_eq_true (by first | (with_reducible assumption) | assumption)
         obtain ⟨ad502, A502_5, c502_5, e502, hx502_0, hx502_1, hx502_2, hx502_3, hx502_4, hx502_5, hx502_6, hl502_5, hi502_5⟩ := at_T26 HR0_5.out x6_2 p502 q502
         cases e502
         replace hx502_0 := (HB.out.cell (World.block_lt_of_cell? w _ hx502_0)).trans hx502_0
         replace hx502_1 := (HB.out.cell (World.block_lt_of_cell? w _ hx502_1)).trans hx502_1
         replace hx502_2 := (HB.out.cell (World.block_lt_of_cell? w _ hx502_2)).trans hx502_2
         replace hx502_3 := (HB.out.cell (World.block_lt_of_cell? w _ hx502_3)).trans hx502_3
         replace hx502_4 := (HB.out.cell (World.block_lt_of_cell? w _ hx502_4)).trans hx502_4
         replace hx502_5 := (HB.out.cell (World.block_lt_of_cell? w _ hx502_5)).trans hx502_5
         replace hx502_6 := (HB.out.cell (World.block_lt_of_cell? w _ hx502_6)).trans hx502_6
         have HR502_5 := Aside0.mk hi502_5
         have HC502_5 := Aside0.mk hl502_5
         clear hi502_5 hl502_5
         replace p502 := eq_true p502
         replace q502 := eq_true q502
         try go_wp2_with (first | ((with_reducible refine gate_callee (f := 19) rfl ?_); refine goesL_ (some 33) rfl rfl Try.func19 (by kernel_rfl) rfl #[.agg #[.int .i64 ((rd_T26 l0_5 x6_2).f0), .string ((rd_T26 l0_5 x6_2).f1), .int .u32 ((rd_T26 l0_5 x6_2).f2), .int .i64 ((rd_T26 l0_5 x6_2).f3), .string ((rd_T26 l0_5 x6_2).f4), .slice A502_5 ((rd_T26 l0_5 x6_2).f5).length c502_5, .int .i64 ((rd_T26 l0_5 x6_2).f6)]] rfl (by (try simp only [List.map_toArray, List.map_cons, List.map_nil]); first | done | rfl | (simp only [List.length_drop, List.length_take]; rfl)) ?_; (with_reducible refine (tree_Count.calls k2 ((rd_T26 l0_5 x6_2).f0) ((rd_T26 l0_5 x6_2).f1) ((rd_T26 l0_5 x6_2).f2) ((rd_T26 l0_5 x6_2).f3) ((rd_T26 l0_5 x6_2).f4) _ _ ((rd_T26 l0_5 x6_2).f5) ((rd_T26 l0_5 x6_2).f6) t503 _ ?side1 ?side2 A20.out).mono ?_); (case side1 => repeat (first | exact (Kd.C_below HR502_5.out HB.out) | (with_reducible refine Kd.C_alloc ?_ _) | (with_reducible refine Kd.C_drewN ?_ _) | (with_reducible refine Kd.C_drew ?_))); (case side2 => exact HC502_5.out); rintro e w50 ⟨rfl, hb⟩; refine ⟨_, rfl, ?_⟩; replace HO_5 := Aside0.mk (Kd.R_below (by (with_reducible repeat (first | apply Kd.R_alloc | apply Kd.R_drewN | apply Kd.R_drew)); exact HO_5.out) hb); replace BK496 := Aside0.mk (blk_below (by (with_reducible repeat (first | refine blk_drewN ?_ _ | refine blk_drew ?_ | refine blk_alloc ?_ _)); exact BK496.out) hb); replace HB := Aside0.mk (below_step (by repeat (first | (with_reducible first | exact HB.out | apply below_alloc | apply pw_below_drewN | apply below_drew1 | refine below_set ?_ GE496.out) | exact HB.out)) hb); (try clear hb); (try clear hb2); (try clear hk); (try clear hi); obtain ⟨hcz51_0, hcz51_1, hcz51_2, hcz51_3, hcz51_4, hcz51_5, hcz51_6, hfz51_0, hfz51_1, hfz51_2, hfz51_3, hfz51_4, hfz51_5, hfz51_6⟩ := blk7 BK496.out; have p504 : 0 ≤ (x6_2 : Int) := of_decide_eq_true (by first | (with_reducible assumption) | assumption); have q504 : x6_2 < (l0_5.length : Int) := of_decide_eq_true (by first | (with_reducible assumption) | assumption); obtain ⟨ad504, A504_5, c504_5, e504, hx504_0, hx504_1, hx504_2, hx504_3, hx504_4, hx504_5, hx504_6, hl504_5, hi504_5⟩ := at_T26 HR0_5.out x6_2 p504 q504; obtain rfl : ad502 = ad504 := (by injection e504); replace hx504_0 := (HB.out.cell (World.block_lt_of_cell? w _ hx504_0)).trans hx504_0; replace hx504_1 := (HB.out.cell (World.block_lt_of_cell? w _ hx504_1)).trans hx504_1; replace hx504_2 := (HB.out.cell (World.block_lt_of_cell? w _ hx504_2)).trans hx504_2; replace hx504_3 := (HB.out.cell (World.block_lt_of_cell? w _ hx504_3)).trans hx504_3; replace hx504_4 := (HB.out.cell (World.block_lt_of_cell? w _ hx504_4)).trans hx504_4; replace hx504_5 := (HB.out.cell (World.block_lt_of_cell? w _ hx504_5)).trans hx504_5; replace hx504_6 := (HB.out.cell (World.block_lt_of_cell? w _ hx504_6)).trans hx504_6; have HR504_5 := Aside0.mk hi504_5; have HC504_5 := Aside0.mk hl504_5; clear hi504_5 hl504_5; replace p504 := eq_true p504; replace q504 := eq_true q504) | ((with_reducible refine gate_callee (f := 21) rfl ?_); refine goesL_ (some 41) rfl rfl Try.func21 (by kernel_rfl) rfl #[.agg #[.int .i64 ((rd_T26 l0_5 x6_2).f0), .string ((rd_T26 l0_5 x6_2).f1), .int .u32 ((rd_T26 l0_5 x6_2).f2), .int .i64 ((rd_T26 l0_5 x6_2).f3), .string ((rd_T26 l0_5 x6_2).f4), .slice A504_5 ((rd_T26 l0_5 x6_2).f5).length c504_5, .int .i64 ((rd_T26 l0_5 x6_2).f6)]] rfl (by (try simp only [List.map_toArray, List.map_cons, List.map_nil]); first | done | rfl | (simp only [List.length_drop, List.length_take]; rfl)) ?_; (with_reducible refine (tree_Depth.calls k2 ((rd_T26 l0_5 x6_2).f0) ((rd_T26 l0_5 x6_2).f1) ((rd_T26 l0_5 x6_2).f2) ((rd_T26 l0_5 x6_2).f3) ((rd_T26 l0_5 x6_2).f4) _ _ ((rd_T26 l0_5 x6_2).f5) ((rd_T26 l0_5 x6_2).f6) t505 _ ?side1 ?side2 A21.out).mono ?_); (case side1 => repeat (first | exact (Kd.C_below HR504_5.out HB.out) | (with_reducible refine Kd.C_alloc ?_ _) | (with_reducible refine Kd.C_drewN ?_ _) | (with_reducible refine Kd.C_drew ?_))); (case side2 => exact HC504_5.out); rintro e w52 ⟨rfl, hb⟩; refine ⟨_, rfl, ?_⟩; replace HO_5 := Aside0.mk (Kd.R_below (by (with_reducible repeat (first | apply Kd.R_alloc | apply Kd.R_drewN | apply Kd.R_drew)); exact HO_5.out) hb); replace BK496 := Aside0.mk (blk_below (by (with_reducible repeat (first | refine blk_drewN ?_ _ | refine blk_drew ?_ | refine blk_alloc ?_ _)); exact BK496.out) hb); replace HB := Aside0.mk (below_step (by repeat (first | (with_reducible first | exact HB.out | apply below_alloc | apply pw_below_drewN | apply below_drew1 | refine below_set ?_ GE496.out) | exact HB.out)) hb); (try clear hb); (try clear hb2); (try clear hk); (try clear hi); obtain ⟨hcz53_0, hcz53_1, hcz53_2, hcz53_3, hcz53_4, hcz53_5, hcz53_6, hfz53_0, hfz53_1, hfz53_2, hfz53_3, hfz53_4, hfz53_5, hfz53_6⟩ := blk7 BK496.out; have p506 : 0 ≤ (x6_2 : Int) := of_decide_eq_true (by first | (with_reducible assumption) | assumption); have q506 : x6_2 < (l0_5.length : Int) := of_decide_eq_true (by first | (with_reducible assumption) | assumption); obtain ⟨ad506, A506_5, c506_5, e506, hx506_0, hx506_1, hx506_2, hx506_3, hx506_4, hx506_5, hx506_6, hl506_5, hi506_5⟩ := at_T26 HR0_5.out x6_2 p506 q506; obtain rfl : ad502 = ad506 := (by injection e506); replace hx506_0 := (HB.out.cell (World.block_lt_of_cell? w _ hx506_0)).trans hx506_0; replace hx506_1 := (HB.out.cell (World.block_lt_of_cell? w _ hx506_1)).trans hx506_1; replace hx506_2 := (HB.out.cell (World.block_lt_of_cell? w _ hx506_2)).trans hx506_2; replace hx506_3 := (HB.out.cell (World.block_lt_of_cell? w _ hx506_3)).trans hx506_3; replace hx506_4 := (HB.out.cell (World.block_lt_of_cell? w _ hx506_4)).trans hx506_4; replace hx506_5 := (HB.out.cell (World.block_lt_of_cell? w _ hx506_5)).trans hx506_5; replace hx506_6 := (HB.out.cell (World.block_lt_of_cell? w _ hx506_6)).trans hx506_6; have HR506_5 := Aside0.mk hi506_5; have HC506_5 := Aside0.mk hl506_5; clear hi506_5 hl506_5; replace p506 := eq_true p506; replace q506 := eq_true q506) | ((with_reducible refine gate_callee (f := 25) rfl ?_); refine goesL_ (some 49) rfl rfl Try.func25 (by kernel_rfl) rfl #[.agg #[.int .i64 ((rd_T26 l0_5 x6_2).f0), .string ((rd_T26 l0_5 x6_2).f1), .int .u32 ((rd_T26 l0_5 x6_2).f2), .int .i64 ((rd_T26 l0_5 x6_2).f3), .string ((rd_T26 l0_5 x6_2).f4), .slice A506_5 ((rd_T26 l0_5 x6_2).f5).length c506_5, .int .i64 ((rd_T26 l0_5 x6_2).f6)]] rfl (by (try simp only [List.map_toArray, List.map_cons, List.map_nil]); first | done | rfl | (simp only [List.length_drop, List.length_take]; rfl)) ?_; (with_reducible refine (tree_Names.calls k2 ((rd_T26 l0_5 x6_2).f0) ((rd_T26 l0_5 x6_2).f1) ((rd_T26 l0_5 x6_2).f2) ((rd_T26 l0_5 x6_2).f3) ((rd_T26 l0_5 x6_2).f4) _ _ ((rd_T26 l0_5 x6_2).f5) ((rd_T26 l0_5 x6_2).f6) t507 _ ?side1 ?side2 A23.out).mono ?_); (case side1 => repeat (first | exact (Kd.C_below HR506_5.out HB.out) | (with_reducible refine Kd.C_alloc ?_ _) | (with_reducible refine Kd.C_drewN ?_ _) | (with_reducible refine Kd.C_drew ?_))); (case side2 => exact HC506_5.out); rintro e w54 ⟨v508, rfl, ho0, hb⟩; refine ⟨_, rfl, ?_⟩; have HO509 := Aside0.mk (Kd.R_lower (Kd.R_new' ho0 (Kd.R_lt (by (with_reducible repeat (first | apply Kd.R_alloc | apply Kd.R_drewN | apply Kd.R_drew)); exact HO_5.out))) (below_size (by repeat (first | (with_reducible first | exact HB.out | apply below_alloc | apply pw_below_drewN | apply below_drew1 | refine below_set ?_ GE496.out) | exact HB.out)))); replace HO_5 := Aside0.mk (Kd.R_elder' (by (with_reducible repeat (first | apply Kd.R_alloc | apply Kd.R_drewN | apply Kd.R_drew)); exact HO_5.out) (Kd.R_base ho0) hb); replace BK496 := Aside0.mk (blk_below (by (with_reducible repeat (first | refine blk_drewN ?_ _ | refine blk_drew ?_ | refine blk_alloc ?_ _)); exact BK496.out) hb); replace HB := Aside0.mk (below_step (by repeat (first | (with_reducible first | exact HB.out | apply below_alloc | apply pw_below_drewN | apply below_drew1 | refine below_set ?_ GE496.out) | exact HB.out)) hb); (try clear hb); (try clear hb2); (try clear hk); (try clear hi); (try clear ho0); obtain ⟨Ao56, co56, eo56⟩ := Kd.R_slice HO509.out; subst eo56) | ((with_reducible refine gate_builtin (b := .append) (xs := #[.tmp 43, .tmp 49]) rfl ?_); (try (refine gate_guard (by rfl) ?_; dsimp only)); at_builtin; refine Kd.R_append_rows Kd.string (w0 := w) w.heap.size rfl (.tmp 43) (.tmp 49) 35 9 (.string ⟨#[]⟩) 16 rfl Try.underlying35 info9 rfl (by decide) (by omega) u5 x5_2 t507 _ _ _ (fun k_ => some k_ ≠ (.slice Ao56 t507.length co56 : Value).ownBlock) (fun _ => False) rfl rfl ?aO ?aR (fun _ _ h => h) (fun _ h => h.elim) ?aF ?aB ?aS ?aL ?_; (case aR => repeat (first | exact (Kd.R_reads' HO509.out).2.2 | (with_reducible refine Kd.C_alloc ?_ _) | (with_reducible refine Kd.C_drewN ?_ _) | (with_reducible refine Kd.C_drew ?_))); (case aB => exact (by repeat (first | (with_reducible first | exact HB.out | apply below_alloc | apply pw_below_drewN | apply below_drew1 | refine below_set ?_ GE496.out) | exact HB.out))); (case aF => exact (fun k_ hk => Kd.fresh' (Kd.R_lt (by (with_reducible repeat (first | apply Kd.R_alloc | apply Kd.R_drewN | apply Kd.R_drew)); exact HO509.out)) k_ hk)); (case aO => exact (by (with_reducible repeat (first | apply Kd.R_alloc | apply Kd.R_drewN | apply Kd.R_drew)); exact Kd.R_mono HO_5.out (fun _ hk => hk.2))); (case aS => exact (below_size (by repeat (first | (with_reducible first | exact HB.out | apply below_alloc | apply pw_below_drewN | apply below_drew1 | refine below_set ?_ GE496.out) | exact HB.out)))); (case aL => have := LMc24.out; omega); intro v511 w55 ho hb hg hat; rw [← Ny510.out] at ho; replace BK496 := Aside0.mk (blk_grown (by (with_reducible repeat (first | refine blk_drewN ?_ _ | refine blk_drew ?_ | refine blk_alloc ?_ _)); exact BK496.out) hg (Kd.R_ne HO_5.out BK496.out (by decide))); replace HO509 := Aside0.mk (Kd.R_after (ok := (fun _ => True)) (by (with_reducible repeat (first | apply Kd.R_alloc | apply Kd.R_drewN | apply Kd.R_drew)); exact HO509.out) hg hat); replace HB := Aside0.mk (hb); have HO512 := Aside0.mk (ho); clear HO_5; clear ho hb hg hat; obtain ⟨hcz57_0, hcz57_1, hcz57_2, hcz57_3, hcz57_4, hcz57_5, hcz57_6, hfz57_0, hfz57_1, hfz57_2, hfz57_3, hfz57_4, hfz57_5, hfz57_6⟩ := blk7 BK496.out) | ((with_reducible refine gate_dst (N := 54) rfl ?_); (try (refine gate_guard (by rfl) ?_; dsimp only)); refine Kd.R_lit (Kd.int .i64) _ 3 ?hg (N := 54) ?hd (xs := ([x6_2] : List Int)) (inner := [.int .i64 x6_2]) (ok := fun _ => True) (okp := fun _ => True) ?hr ?hp (fun _ hk => hk) trivial (Below.refl _ _) (Nat.le_refl _) (by simp) ?_; (case hd => rfl); (case hg => rfl); (case hr => first | (go_simp; done) | (go_simp; rfl)); (case hp => exact (Reps.one (show Kd.M (Kd.int .i64) _ _ _ x6_2 [.int .i64 x6_2] from rfl) (Reps.none _ _))); intro v514 w58 ho59 hb hg_ hnew_; clear hg_ hnew_; (first | rw [← Ny513.out] at ho59 | (simp only [Int.reduceToNat] at ho59; rw [← Ny513.out] at ho59)); replace HO509 := Aside0.mk (Kd.R_below (by (with_reducible repeat (first | apply Kd.R_alloc | apply Kd.R_drewN | apply Kd.R_drew)); exact HO509.out) hb); replace HO512 := Aside0.mk (Kd.R_below (by (with_reducible repeat (first | apply Kd.R_alloc | apply Kd.R_drewN | apply Kd.R_drew)); exact HO512.out) hb); have HO515 := Aside0.mk (Kd.R_lower ho59 (below_size (by repeat (first | (with_reducible first | exact HB.out | apply below_alloc | apply pw_below_drewN | apply below_drew1 | refine below_set ?_ GE496.out) | exact HB.out)))); replace BK496 := Aside0.mk (blk_below (by (with_reducible repeat (first | refine blk_drewN ?_ _ | refine blk_drew ?_ | refine blk_alloc ?_ _)); exact BK496.out) hb); replace HB := Aside0.mk (below_step (by repeat (first | (with_reducible first | exact HB.out | apply below_alloc | apply pw_below_drewN | apply below_drew1 | refine below_set ?_ GE496.out) | exact HB.out)) hb); clear hb ho59; obtain ⟨Ao60, co60, eo60⟩ := Kd.R_slice HO515.out; subst eo60) | ((with_reducible refine gate_callee (f := 27) rfl ?_); refine goesL_ (some 55) rfl rfl Try.func27 (by kernel_rfl) rfl #[.agg #[.int .i64 a0_0, .string a0_1, .int .u32 a0_2, .int .i64 a0_3, .string a0_4, .slice (some ad502) l0_5.length c0_5, .int .i64 a0_6], .slice Ao60 y513.length co60] rfl (by (try simp only [List.map_toArray, List.map_cons, List.map_nil]); first | done | rfl | (simp only [List.length_drop, List.length_take]; rfl)) ?_; (with_reducible refine (tree_Find.calls k2 a0_0 a0_1 a0_2 a0_3 a0_4 (fun k_ => k_ < w.heap.size) _ _ l0_5 a0_6 _ _ y513 t516 t517 t518 t519 t520 t521 t524 true _ ?side1 ?side2 ?side3 A25.out).mono ?_); (case side1 => exact Kd.V_mk HC0_5.out (Kd.F_below (Kd.C_F k26_heap HR0_5.out) (by repeat (first | (with_reducible first | exact HB.out | apply below_alloc | apply pw_below_drewN | apply below_drew1 | refine below_set ?_ GE496.out) | exact HB.out)))); (case side2 => repeat (first | exact (Kd.R_reads' HO515.out).2.2 | (with_reducible refine Kd.C_alloc ?_ _) | (with_reducible refine Kd.C_drewN ?_ _) | (with_reducible refine Kd.C_drew ?_))); (case side3 => exact (Kd.R_reads' HO515.out).2.1); rintro e w61 ⟨v522, rfl, ho0, hb⟩; refine ⟨_, rfl, ?_⟩; replace HO509 := Aside0.mk (Kd.R_below (by (with_reducible repeat (first | apply Kd.R_alloc | apply Kd.R_drewN | apply Kd.R_drew)); exact HO509.out) hb); replace HO512 := Aside0.mk (Kd.R_below (by (with_reducible repeat (first | apply Kd.R_alloc | apply Kd.R_drewN | apply Kd.R_drew)); exact HO512.out) hb); replace HO515 := Aside0.mk (Kd.R_below (by (with_reducible repeat (first | apply Kd.R_alloc | apply Kd.R_drewN | apply Kd.R_drew)); exact HO515.out) hb); have HO523 := Aside0.mk (Kd.R_lower (Kd.R_newB (Kd.R_mono (ok' := fun k_ => True) ho0 (fun _ hk_ => trivial)) (by (with_reducible repeat (first | refine blk_drewN ?_ _ | refine blk_drew ?_ | refine blk_alloc ?_ _)); exact BK496.out)) (below_size (by repeat (first | (with_reducible first | exact HB.out | apply below_alloc | apply pw_below_drewN | apply below_drew1 | refine below_set ?_ GE496.out) | exact HB.out)))); replace BK496 := Aside0.mk (blk_below (by (with_reducible repeat (first | refine blk_drewN ?_ _ | refine blk_drew ?_ | refine blk_alloc ?_ _)); exact BK496.out) hb); replace HB := Aside0.mk (below_step (by repeat (first | (with_reducible first | exact HB.out | apply below_alloc | apply pw_below_drewN | apply below_drew1 | refine below_set ?_ GE496.out) | exact HB.out)) hb); (try clear hb); (try clear hb2); (try clear hk); (try clear hi); (try clear ho0)) | ((with_reducible refine gate_dst (N := 7) rfl ?_); (try (refine gate_guard (by rfl) ?_; dsimp only)); refine box_event ?hg (N := 7) ?hd (cs := #[.int .i64 0, .string (⟨#[]⟩ : ByteArray), .int .u32 0, .int .i64 0, .string (⟨#[]⟩ : ByteArray), .slice none 0 0, .int .i64 0]) (t := 26) ?hr ?_; (case hd => rfl); (case hg => rfl); (case hr => first | (go_simp; done) | (go_simp; rfl)); intro gb526 hg w62 hbox hb; replace HO509 := Aside0.mk (Kd.R_below (by (with_reducible repeat (first | apply Kd.R_alloc | apply Kd.R_drewN | apply Kd.R_drew)); exact HO509.out) hb); replace HO512 := Aside0.mk (Kd.R_below (by (with_reducible repeat (first | apply Kd.R_alloc | apply Kd.R_drewN | apply Kd.R_drew)); exact HO512.out) hb); replace HO515 := Aside0.mk (Kd.R_below (by (with_reducible repeat (first | apply Kd.R_alloc | apply Kd.R_drewN | apply Kd.R_drew)); exact HO515.out) hb); replace HO523 := Aside0.mk (Kd.R_below (Kd.R_elderB (by (with_reducible repeat (first | apply Kd.R_alloc | apply Kd.R_drewN | apply Kd.R_drew)); exact HO523.out) gb526 (Nat.le_of_eq hg.symm)) hb); have BK526 := Aside0.mk (hbox); have GW526 := Aside0.mk ((by rw [hg]; exact (below_size (by repeat (first | (with_reducible first | exact HB.out | apply below_alloc | apply pw_below_drewN | apply below_drew1 | refine below_set ?_ GE496.out) | exact HB.out))) : w.heap.size ≤ gb526)); have GE526 := Aside0.mk ((by rw [hg]; exact (below_size (by repeat (first | (with_reducible first | exact HB.out | apply below_alloc | apply pw_below_drewN | apply below_drew1 | refine below_set ?_ GE496.out) | exact HB.out))) : w.heap.size ≤ gb526)); replace HB := Aside0.mk (below_step (by repeat (first | (with_reducible first | exact HB.out | apply below_alloc | apply pw_below_drewN | apply below_drew1 | refine below_set ?_ GE496.out) | exact HB.out)) hb); have NB496_526 := Aside0.mk ((by rw [hg]; exact Nat.ne_of_lt (blk_lt (by (with_reducible repeat (first | refine blk_drewN ?_ _ | refine blk_drew ?_ | refine blk_alloc ?_ _)); exact BK496.out)) : gb496 ≠ gb526)); have NB526_496 := Aside0.mk ((by rw [hg]; exact Nat.ne_of_gt (blk_lt (by (with_reducible repeat (first | refine blk_drewN ?_ _ | refine blk_drew ?_ | refine blk_alloc ?_ _)); exact BK496.out)) : gb526 ≠ gb496)); replace BK496 := Aside0.mk (blk_below (by (with_reducible repeat (first | refine blk_drewN ?_ _ | refine blk_drew ?_ | refine blk_alloc ?_ _)); exact BK496.out) hb); clear hb hbox hg; have hnb63 := NB526_496.out; have hnc63 := NB496_526.out; obtain ⟨hcz64_0, hcz64_1, hcz64_2, hcz64_3, hcz64_4, hcz64_5, hcz64_6, hfz64_0, hfz64_1, hfz64_2, hfz64_3, hfz64_4, hfz64_5, hfz64_6⟩ := blk7 BK526.out; obtain ⟨Ao65, co65, eo65⟩ := Kd.R_slice HO523.out; subst eo65))
         have n0_ : Aside0 (Kd.R Kd.string 9 (((((((w62.setCell ⟨gb526, 0, none⟩ (.int .i64 t516)).setCell ⟨gb526, 1, none⟩ (.string t517)).setCell ⟨gb526, 2, none⟩ (.int .u32 t518)).setCell ⟨gb526, 3, none⟩ (.int .i64 t519)).setCell ⟨gb526, 4, none⟩ (.string t520)).setCell ⟨gb526, 5, none⟩ (.slice Ao65 t521.length co65)).setCell ⟨gb526, 6, none⟩ (.int .i64 t524)) w.heap.size (fun k_ => some k_ ≠ (v511 : Value).ownBlock) (.slice Ao56 t507.length co56) t507) := ⟨by (with_reducible repeat (first | apply Kd.R_alloc | apply Kd.R_drewN | apply Kd.R_drew)); exact Kd.R_mono (Kd.R_far (p := ⟨gb526, 6, none⟩) (Kd.R_far (p := ⟨gb526, 5, none⟩) (Kd.R_far (p := ⟨gb526, 4, none⟩) (Kd.R_far (p := ⟨gb526, 3, none⟩) (Kd.R_far (p := ⟨gb526, 2, none⟩) (Kd.R_far (p := ⟨gb526, 1, none⟩) (Kd.R_far (p := ⟨gb526, 0, none⟩) (Kd.R_types HO509.out BK526.out (by decide)) (fun _ hk => hk.2) (.int .i64 t516)) (fun _ hk => hk.2) (.string t517)) (fun _ hk => hk.2) (.int .u32 t518)) (fun _ hk => hk.2) (.int .i64 t519)) (fun _ hk => hk.2) (.string t520)) (fun _ hk => hk.2) (.slice Ao65 t521.length co65)) (fun _ hk => hk.2) (.int .i64 t524)) (fun _ hk => hk.1.2)⟩
         have n1_ : Aside0 (Kd.R Kd.string 9 (((((((w62.setCell ⟨gb526, 0, none⟩ (.int .i64 t516)).setCell ⟨gb526, 1, none⟩ (.string t517)).setCell ⟨gb526, 2, none⟩ (.int .u32 t518)).setCell ⟨gb526, 3, none⟩ (.int .i64 t519)).setCell ⟨gb526, 4, none⟩ (.string t520)).setCell ⟨gb526, 5, none⟩ (.slice Ao65 t521.length co65)).setCell ⟨gb526, 6, none⟩ (.int .i64 t524)) w.heap.size (fun k_ => some k_ ≠ (.slice Ao56 t507.length co56 : Value).ownBlock) v511 y510) := ⟨by (with_reducible repeat (first | apply Kd.R_alloc | apply Kd.R_drewN | apply Kd.R_drew)); exact Kd.R_mono (Kd.R_far (p := ⟨gb526, 6, none⟩) (Kd.R_far (p := ⟨gb526, 5, none⟩) (Kd.R_far (p := ⟨gb526, 4, none⟩) (Kd.R_far (p := ⟨gb526, 3, none⟩) (Kd.R_far (p := ⟨gb526, 2, none⟩) (Kd.R_far (p := ⟨gb526, 1, none⟩) (Kd.R_far (p := ⟨gb526, 0, none⟩) (Kd.R_types HO512.out BK526.out (by decide)) (fun _ hk => hk.2) (.int .i64 t516)) (fun _ hk => hk.2) (.string t517)) (fun _ hk => hk.2) (.int .u32 t518)) (fun _ hk => hk.2) (.int .i64 t519)) (fun _ hk => hk.2) (.string t520)) (fun _ hk => hk.2) (.slice Ao65 t521.length co65)) (fun _ hk => hk.2) (.int .i64 t524)) (fun _ hk => hk.1)⟩
         have n2_ : Aside0 (Kd.R (Kd.int .i64) 3 (((((((w62.setCell ⟨gb526, 0, none⟩ (.int .i64 t516)).setCell ⟨gb526, 1, none⟩ (.string t517)).setCell ⟨gb526, 2, none⟩ (.int .u32 t518)).setCell ⟨gb526, 3, none⟩ (.int .i64 t519)).setCell ⟨gb526, 4, none⟩ (.string t520)).setCell ⟨gb526, 5, none⟩ (.slice Ao65 t521.length co65)).setCell ⟨gb526, 6, none⟩ (.int .i64 t524)) w.heap.size (fun _ => True) (.slice Ao60 y513.length co60) y513) := ⟨by (with_reducible repeat (first | apply Kd.R_alloc | apply Kd.R_drewN | apply Kd.R_drew)); exact Kd.R_mono (Kd.R_far (p := ⟨gb526, 6, none⟩) (Kd.R_far (p := ⟨gb526, 5, none⟩) (Kd.R_far (p := ⟨gb526, 4, none⟩) (Kd.R_far (p := ⟨gb526, 3, none⟩) (Kd.R_far (p := ⟨gb526, 2, none⟩) (Kd.R_far (p := ⟨gb526, 1, none⟩) (Kd.R_far (p := ⟨gb526, 0, none⟩) (Kd.R_types HO515.out BK526.out (by decide)) (fun _ hk => hk.2) (.int .i64 t516)) (fun _ hk => hk.2) (.string t517)) (fun _ hk => hk.2) (.int .u32 t518)) (fun _ hk => hk.2) (.int .i64 t519)) (fun _ hk => hk.2) (.string t520)) (fun _ hk => hk.2) (.slice Ao65 t521.length co65)) (fun _ hk => hk.2) (.int .i64 t524)) (fun _ hk => trivial)⟩
         have n3_ : Aside0 (Kd.R k26 26 (((((((w62.setCell ⟨gb526, 0, none⟩ (.int .i64 t516)).setCell ⟨gb526, 1, none⟩ (.string t517)).setCell ⟨gb526, 2, none⟩ (.int .u32 t518)).setCell ⟨gb526, 3, none⟩ (.int .i64 t519)).setCell ⟨gb526, 4, none⟩ (.string t520)).setCell ⟨gb526, 5, none⟩ (.slice Ao65 t521.length co65)).setCell ⟨gb526, 6, none⟩ (.int .i64 t524)) w.heap.size (fun k_ => k_ ≠ gb496 ∧ k_ ≠ gb526) (.slice Ao65 t521.length co65) t521) := ⟨by (with_reducible repeat (first | apply Kd.R_alloc | apply Kd.R_drewN | apply Kd.R_drew)); exact Kd.R_mono (Kd.R_far (p := ⟨gb526, 6, none⟩) (Kd.R_far (p := ⟨gb526, 5, none⟩) (Kd.R_far (p := ⟨gb526, 4, none⟩) (Kd.R_far (p := ⟨gb526, 3, none⟩) (Kd.R_far (p := ⟨gb526, 2, none⟩) (Kd.R_far (p := ⟨gb526, 1, none⟩) (Kd.R_far (p := ⟨gb526, 0, none⟩) (Kd.R_mono HO523.out (fun k_ hk => (⟨hk, hk.2⟩ : _ ∧ k_ ≠ gb526))) (fun _ hk => hk.2) (.int .i64 t516)) (fun _ hk => hk.2) (.string t517)) (fun _ hk => hk.2) (.int .u32 t518)) (fun _ hk => hk.2) (.int .i64 t519)) (fun _ hk => hk.2) (.string t520)) (fun _ hk => hk.2) (.slice Ao65 t521.length co65)) (fun _ hk => hk.2) (.int .i64 t524)) (fun _ hk => ⟨hk.1.1.2, hk.1.2⟩)⟩
         have n4_ : Aside0 ((((((((w62.setCell ⟨gb526, 0, none⟩ (.int .i64 t516)).setCell ⟨gb526, 1, none⟩ (.string t517)).setCell ⟨gb526, 2, none⟩ (.int .u32 t518)).setCell ⟨gb526, 3, none⟩ (.int .i64 t519)).setCell ⟨gb526, 4, none⟩ (.string t520)).setCell ⟨gb526, 5, none⟩ (.slice Ao65 t521.length co65)).setCell ⟨gb526, 6, none⟩ (.int .i64 t524)).heap[gb496]? = some (.cells #[.int .i64 a0_0, .string a0_1, .int .u32 a0_2, .int .i64 a0_3, .string a0_4, .slice (some ad502) l0_5.length c0_5, .int .i64 a0_6] 26 (0, 0))) := ⟨by (repeat (first | (with_reducible first | refine blk_drewN ?_ _ | refine blk_drew ?_ | refine blk_alloc ?_ _) | refine blk_far ?_ NB496_526.out _)); exact BK496.out⟩
         have n5_ : Aside0 ((((((((w62.setCell ⟨gb526, 0, none⟩ (.int .i64 t516)).setCell ⟨gb526, 1, none⟩ (.string t517)).setCell ⟨gb526, 2, none⟩ (.int .u32 t518)).setCell ⟨gb526, 3, none⟩ (.int .i64 t519)).setCell ⟨gb526, 4, none⟩ (.string t520)).setCell ⟨gb526, 5, none⟩ (.slice Ao65 t521.length co65)).setCell ⟨gb526, 6, none⟩ (.int .i64 t524)).heap[gb526]? = some (.cells #[.int .i64 t516, .string t517, .int .u32 t518, .int .i64 t519, .string t520, .slice Ao65 t521.length co65, .int .i64 t524] 26 (0, 0))) := ⟨by (with_reducible repeat (first | refine blk_drewN ?_ _ | refine blk_drew ?_ | refine blk_alloc ?_ _)); refine blk_put (cs := #[.int .i64 t516, .string t517, .int .u32 t518, .int .i64 t519, .string t520, .slice Ao65 t521.length co65, .int .i64 0]) ?_ 6 _ rfl; refine blk_put (cs := #[.int .i64 t516, .string t517, .int .u32 t518, .int .i64 t519, .string t520, .slice none 0 0, .int .i64 0]) ?_ 5 _ rfl; refine blk_put (cs := #[.int .i64 t516, .string t517, .int .u32 t518, .int .i64 t519, .string (⟨#[]⟩ : ByteArray), .slice none 0 0, .int .i64 0]) ?_ 4 _ rfl; refine blk_put (cs := #[.int .i64 t516, .string t517, .int .u32 t518, .int .i64 0, .string (⟨#[]⟩ : ByteArray), .slice none 0 0, .int .i64 0]) ?_ 3 _ rfl; refine blk_put (cs := #[.int .i64 t516, .string t517, .int .u32 0, .int .i64 0, .string (⟨#[]⟩ : ByteArray), .slice none 0 0, .int .i64 0]) ?_ 2 _ rfl; refine blk_put (cs := #[.int .i64 t516, .string (⟨#[]⟩ : ByteArray), .int .u32 0, .int .i64 0, .string (⟨#[]⟩ : ByteArray), .slice none 0 0, .int .i64 0]) ?_ 1 _ rfl; refine blk_put (cs := #[.int .i64 0, .string (⟨#[]⟩ : ByteArray), .int .u32 0, .int .i64 0, .string (⟨#[]⟩ : ByteArray), .slice none 0 0, .int .i64 0]) ?_ 0 _ rfl; (with_reducible repeat (first | refine blk_drewN ?_ _ | refine blk_drew ?_ | refine blk_alloc ?_ _)); exact BK526.out⟩
         have n6_ : Aside0 (Below w.heap.size w (((((((w62.setCell ⟨gb526, 0, none⟩ (.int .i64 t516)).setCell ⟨gb526, 1, none⟩ (.string t517)).setCell ⟨gb526, 2, none⟩ (.int .u32 t518)).setCell ⟨gb526, 3, none⟩ (.int .i64 t519)).setCell ⟨gb526, 4, none⟩ (.string t520)).setCell ⟨gb526, 5, none⟩ (.slice Ao65 t521.length co65)).setCell ⟨gb526, 6, none⟩ (.int .i64 t524))) := ⟨by repeat (first | (with_reducible first | exact HB.out | apply below_alloc | apply pw_below_drewN | apply below_drew1 | refine below_set ?_ GE496.out | refine below_set ?_ GE526.out) | exact HB.out)⟩
         (try clear HO509)
         (try clear HO512)
         (try clear HO515)
         (try clear HO523)
         (try clear BK496)
         (try clear BK526)
         (try clear HB)
         generalize (((((((w62.setCell ⟨gb526, 0, none⟩ (.int .i64 t516)).setCell ⟨gb526, 1, none⟩ (.string t517)).setCell ⟨gb526, 2, none⟩ (.int .u32 t518)).setCell ⟨gb526, 3, none⟩ (.int .i64 t519)).setCell ⟨gb526, 4, none⟩ (.string t520)).setCell ⟨gb526, 5, none⟩ (.slice Ao65 t521.length co65)).setCell ⟨gb526, 6, none⟩ (.int .i64 t524)) = w66 at n0_ n1_ n2_ n3_ n4_ n5_ n6_ ⊢
         have HO509 := n0_
         have HO512 := n1_
         have HO515 := n2_
         have HO523 := n3_
         have BK496 := n4_
         have BK526 := n5_
         have HB := n6_
         clear n0_ n1_ n2_ n3_ n4_ n5_ n6_
         replace HO509 := Aside0.mk (Kd.R_drew HO509.out)
         replace HO512 := Aside0.mk (Kd.R_drew HO512.out)
         replace HO515 := Aside0.mk (Kd.R_drew HO515.out)
         replace HO523 := Aside0.mk (Kd.R_drew HO523.out)
         replace BK496 := Aside0.mk (blk_drew BK496.out)
         replace BK526 := Aside0.mk (blk_drew BK526.out)
         replace HB := Aside0.mk (below_drew1 HB.out)
         have p527 : 0 ≤ (x6_2 : Int) := of_decide_eq_true (by first | (with_reducible assumption) | assumption)
         have q527 : x6_2 < (l0_5.length : Int) := of_decide_eq_true (by first | (with_reducible assumption) | assumption)
         obtain ⟨ad527, A527_5, c527_5, e527, hx527_0, hx527_1, hx527_2, hx527_3, hx527_4, hx527_5, hx527_6, hl527_5, hi527_5⟩ := at_T26 HR0_5.out x6_2 p527 q527
         have hw527_6 := hx527_6
         have hw527_5 := hx527_5
         have hw527_4 := hx527_4
         have hw527_3 := hx527_3
         have hw527_2 := hx527_2
         have hw527_1 := hx527_1
         have hw527_0 := hx527_0
         obtain rfl : ad502 = ad527 := (by injection e527)
         replace hx527_0 := (HB.out.cell (World.block_lt_of_cell? w _ hx527_0)).trans hx527_0
         replace hx527_1 := (HB.out.cell (World.block_lt_of_cell? w _ hx527_1)).trans hx527_1
         replace hx527_2 := (HB.out.cell (World.block_lt_of_cell? w _ hx527_2)).trans hx527_2
         replace hx527_3 := (HB.out.cell (World.block_lt_of_cell? w _ hx527_3)).trans hx527_3
         replace hx527_4 := (HB.out.cell (World.block_lt_of_cell? w _ hx527_4)).trans hx527_4
         replace hx527_5 := (HB.out.cell (World.block_lt_of_cell? w _ hx527_5)).trans hx527_5
         replace hx527_6 := (HB.out.cell (World.block_lt_of_cell? w _ hx527_6)).trans hx527_6
         have HR527_5 := Aside0.mk hi527_5
         have HC527_5 := Aside0.mk hl527_5
         clear hi527_5 hl527_5
         replace p527 := eq_true p527
         replace q527 := eq_true q527
         refine start_ (n := 12) (S := fun w' => w'.cell? ⟨gb526, 0, none⟩ = some (.int .i64 t516) ∧ w'.cell? ⟨gb526, 1, none⟩ = some (.string t517) ∧ w'.cell? ⟨gb526, 2, none⟩ = some (.int .u32 t518) ∧ w'.cell? ⟨gb526, 3, none⟩ = some (.int .i64 t519) ∧ w'.cell? ⟨gb526, 4, none⟩ = some (.string t520) ∧ w'.cell? ⟨gb526, 5, none⟩ = some (.slice Ao65 t521.length co65) ∧ w'.cell? ⟨gb526, 6, none⟩ = some (.int .i64 t524) ∧ w'.cell? ⟨gb496, 0, none⟩ = some (.int .i64 a0_0) ∧ w'.cell? ⟨gb496, 1, none⟩ = some (.string a0_1) ∧ w'.cell? ⟨gb496, 2, none⟩ = some (.int .u32 a0_2) ∧ w'.cell? ⟨gb496, 3, none⟩ = some (.int .i64 a0_3) ∧ w'.cell? ⟨gb496, 4, none⟩ = some (.string a0_4) ∧ w'.cell? ⟨gb496, 5, none⟩ = some (.slice (some ad502) l0_5.length c0_5) ∧ w'.cell? ⟨gb496, 6, none⟩ = some (.int .i64 a0_6) ∧ w'.cell? (ad502.add ((x6_2).toNat * 7)) = some (.int .i64 ((rd_T26 l0_5 x6_2).f0)) ∧ w'.cell? ⟨(ad502.add ((x6_2).toNat * 7)).block, (ad502.add ((x6_2).toNat * 7)).off + 1, none⟩ = some (.string ((rd_T26 l0_5 x6_2).f1)) ∧ w'.cell? ⟨(ad502.add ((x6_2).toNat * 7)).block, (ad502.add ((x6_2).toNat * 7)).off + 2, none⟩ = some (.int .u32 ((rd_T26 l0_5 x6_2).f2)) ∧ w'.cell? ⟨(ad502.add ((x6_2).toNat * 7)).block, (ad502.add ((x6_2).toNat * 7)).off + 3, none⟩ = some (.int .i64 ((rd_T26 l0_5 x6_2).f3)) ∧ w'.cell? ⟨(ad502.add ((x6_2).toNat * 7)).block, (ad502.add ((x6_2).toNat * 7)).off + 4, none⟩ = some (.string ((rd_T26 l0_5 x6_2).f4)) ∧ w'.cell? ⟨(ad502.add ((x6_2).toNat * 7)).block, (ad502.add ((x6_2).toNat * 7)).off + 5, none⟩ = some (.slice A527_5 ((rd_T26 l0_5 x6_2).f5).length c527_5) ∧ w'.cell? ⟨(ad502.add ((x6_2).toNat * 7)).block, (ad502.add ((x6_2).toNat * 7)).off + 6, none⟩ = some (.int .i64 ((rd_T26 l0_5 x6_2).f6))) (ds := []) #[false, false, false, false, false, false, false, false, false, false, false, false] (by kernel_rfl) rfl rfl ⟨(blk_cell BK526.out 0).trans rfl, (blk_cell BK526.out 1).trans rfl, (blk_cell BK526.out 2).trans rfl, (blk_cell BK526.out 3).trans rfl, (blk_cell BK526.out 4).trans rfl, (blk_cell BK526.out 5).trans rfl, (blk_cell BK526.out 6).trans rfl, (blk_cell BK496.out 0).trans rfl, (blk_cell BK496.out 1).trans rfl, (blk_cell BK496.out 2).trans rfl, (blk_cell BK496.out 3).trans rfl, (blk_cell BK496.out 4).trans rfl, (blk_cell BK496.out 5).trans rfl, (blk_cell BK496.out 6).trans rfl, ((HB.out.cell (World.block_lt_of_cell? w _ hw527_0)).trans hw527_0), ((HB.out.cell (World.block_lt_of_cell? w _ hw527_1)).trans hw527_1), ((HB.out.cell (World.block_lt_of_cell? w _ hw527_2)).trans hw527_2), ((HB.out.cell (World.block_lt_of_cell? w _ hw527_3)).trans hw527_3), ((HB.out.cell (World.block_lt_of_cell? w _ hw527_4)).trans hw527_4), ((HB.out.cell (World.block_lt_of_cell? w _ hw527_5)).trans hw527_5), ((HB.out.cell (World.block_lt_of_cell? w _ hw527_6)).trans hw527_6)⟩ (fun hHeld => ?_); refine with_tabW lathelaw07_TreeParts.tab14 lathelaw07_TreeParts.bits14 (fun HT_ HW_ => ?_)
         generalize w66.drew = w67 at HO509 HO512 HO515 HO523 BK496 BK526 HB HR527_5 hx527_0 hx527_1 hx527_2 hx527_3 hx527_4 hx527_5 hx527_6 hHeld ⊢
         refine pure_ (i := 0) (N := some 58) (v := ?_) (a' := ?_) (bq true [1, 11]).toArray rfl rfl (any_of HT_.out (by kernel_rfl)) (fun _ _ _ h => h) (Or.inl ⟨by rfl, ?_⟩) ?_ ?_
         rotate_left
         ·intro w'
          go_simp
          with_reducible rfl
         rotate_left
         ·simp only [Act.put, List.setIfInBounds_toArray, List.set_cons_zero, List.set_cons_succ, i64_w, i32_w]
          rfl
         refine pure_ (i := 1) (N := some 59) (v := ?_) (a' := ?_) (bq true [2, 10]).toArray rfl rfl (any_of HT_.out (by kernel_rfl)) (fun _ _ _ h => h) (Or.inl ⟨by rfl, ?_⟩) ?_ ?_
         rotate_left
         ·intro w'
          go_simp
          with_reducible rfl
         rotate_left
         ·simp only [Act.put, List.setIfInBounds_toArray, List.set_cons_zero, List.set_cons_succ, i64_w, i32_w]
          rfl
         refine pure_ (i := 2) (N := some 60) (v := ?_) (a' := ?_) (bq true [3, 9]).toArray rfl rfl (any_of HT_.out (by kernel_rfl)) (fun _ _ _ h => h) (Or.inl ⟨by rfl, ?_⟩) ?_ ?_
         rotate_left
         ·intro w'
          go_simp
          with_reducible rfl
         rotate_left
         ·simp only [Act.put, List.setIfInBounds_toArray, List.set_cons_zero, List.set_cons_succ, i64_w, i32_w]
          rfl
         refine pure_ (i := 4) (N := some 62) (v := ?_) (a' := ?_) (bq true [3, 1, 1, 7]).toArray rfl rfl (any_of HT_.out (by kernel_rfl)) (fun _ _ _ h => h) (Or.inl ⟨by rfl, ?_⟩) ?_ ?_
         rotate_left
         ·intro w'
          go_simp
          with_reducible rfl
         rotate_left
         ·simp only [Act.put, List.setIfInBounds_toArray, List.set_cons_zero, List.set_cons_succ, i64_w, i32_w]
          rfl
         refine pure_ (i := 6) (N := some 64) (v := ?_) (a' := ?_) (bq true [3, 1, 1, 1, 1, 5]).toArray rfl rfl (any_of HT_.out (by kernel_rfl)) (fun _ _ _ h => h) (Or.inl ⟨by rfl, ?_⟩) ?_ ?_
         rotate_left
         ·intro w'
          go_simp
          with_reducible rfl
         rotate_left
         ·simp only [Act.put, List.setIfInBounds_toArray, List.set_cons_zero, List.set_cons_succ, i64_w, i32_w]
          rfl
         refine take_ (i := 3) (N := some 61) (v := ?_) (a' := ?_) (bq true [5, 1, 1, 5]).toArray rfl rfl (take_ofW HT_.out HW_.out (by kernel_rfl)) (fun _ _ _ h => h) (Or.inl ⟨by rfl, ?_⟩) hHeld ?_ ?_
         rotate_left
         ·rintro w' ⟨s0, s1, s2, s3, s4, s5, s6, s7, s8, s9, s10, s11, s12, s13, s14, s15, s16, s17, s18, s19, s20⟩
          go_simp
          with_reducible rfl
         rotate_left
         ·simp only [Act.put, List.setIfInBounds_toArray, List.set_cons_zero, List.set_cons_succ, i64_w, i32_w]
          rfl
         refine take_ (i := 5) (N := some 63) (v := ?_) (a' := ?_) (bq true [7, 5]).toArray rfl rfl (take_ofW HT_.out HW_.out (by kernel_rfl)) (fun _ _ _ h => h) (Or.inl ⟨by rfl, ?_⟩) hHeld ?_ ?_
         rotate_left
         ·rintro w' ⟨s0, s1, s2, s3, s4, s5, s6, s7, s8, s9, s10, s11, s12, s13, s14, s15, s16, s17, s18, s19, s20⟩
          go_simp
          with_reducible rfl
         rotate_left
         ·simp only [Act.put, List.setIfInBounds_toArray, List.set_cons_zero, List.set_cons_succ, i64_w, i32_w]
          rfl
         refine pure_ (i := 7) (N := some 65) (v := ?_) (a' := ?_) (bq true [8, 4]).toArray rfl rfl (any_of HT_.out (by kernel_rfl)) (fun _ _ _ h => h) (Or.inl ⟨by rfl, ?_⟩) ?_ ?_
         rotate_left
         ·intro w'
          go_simp
          with_reducible rfl
         rotate_left
         ·simp only [Act.put, List.setIfInBounds_toArray, List.set_cons_zero, List.set_cons_succ, i64_w, i32_w]
          rfl
         refine take_ (i := 8) (N := some 66) (v := ?_) (a' := ?_) (bq true [9, 3]).toArray rfl rfl (take_ofW HT_.out HW_.out (by kernel_rfl)) (fun _ _ _ h => h) (Or.inl ⟨by rfl, ?_⟩) hHeld ?_ ?_
         rotate_left
         ·rintro w' ⟨s0, s1, s2, s3, s4, s5, s6, s7, s8, s9, s10, s11, s12, s13, s14, s15, s16, s17, s18, s19, s20⟩
          go_simp
          with_reducible rfl
         rotate_left
         ·simp only [Act.put, List.setIfInBounds_toArray, List.set_cons_zero, List.set_cons_succ, i64_w, i32_w]
          rfl
         refine one_ (i := 9) (N := some 67) (bq true [10, 2]).toArray rfl rfl (one_of HT_.out (by kernel_rfl)) (by decide) (fun K hK => ?_)
         refine goes_ Try.func15 (by kernel_rfl) rfl #[.agg #[.int .i64 t516, .string t517, .int .u32 t518, .int .i64 t519, .string t520, .slice Ao65 t521.length co65, .int .i64 t524], .agg #[.int .i64 ((rd_T26 l0_5 x6_2).f0), .string ((rd_T26 l0_5 x6_2).f1), .int .u32 ((rd_T26 l0_5 x6_2).f2), .int .i64 ((rd_T26 l0_5 x6_2).f3), .string ((rd_T26 l0_5 x6_2).f4), .slice A527_5 ((rd_T26 l0_5 x6_2).f5).length c527_5, .int .i64 ((rd_T26 l0_5 x6_2).f6)]] (by rfl) rfl rfl (by (try simp only [List.map_toArray, List.map_cons, List.map_nil]); first | done | rfl | (simp only [List.length_drop, List.length_take]; rfl)) ?_
         with_reducible refine (lathelaw07_same.calls k2 t516 t517 t518 t519 t520 _ _ t521 t524 ((rd_T26 l0_5 x6_2).f0) ((rd_T26 l0_5 x6_2).f1) ((rd_T26 l0_5 x6_2).f2) ((rd_T26 l0_5 x6_2).f3) ((rd_T26 l0_5 x6_2).f4) _ _ ((rd_T26 l0_5 x6_2).f5) ((rd_T26 l0_5 x6_2).f6) false _ ?side1 ?side2 ?side3 ?side4 A27.out).mono ?_
         (case side1 => repeat (first | exact (Kd.R_reads' HO523.out).2.2 | (with_reducible refine Kd.C_alloc ?_ _) | (with_reducible refine Kd.C_drewN ?_ _) | (with_reducible refine Kd.C_drew ?_)))
         (case side2 => exact (Kd.R_reads' HO523.out).2.1)
         (case side3 => repeat (first | exact (Kd.C_below HR527_5.out HB.out) | (with_reducible refine Kd.C_alloc ?_ _) | (with_reducible refine Kd.C_drewN ?_ _) | (with_reducible refine Kd.C_drew ?_)))
         (case side4 => exact HC527_5.out)
         rintro e w68 ⟨rfl, hb⟩
         refine ⟨_, rfl, ?_⟩
         replace HO509 := Aside0.mk (Kd.R_below (by (with_reducible repeat (first | apply Kd.R_alloc | apply Kd.R_drewN | apply Kd.R_drew)); exact HO509.out) hb)
         replace HO512 := Aside0.mk (Kd.R_below (by (with_reducible repeat (first | apply Kd.R_alloc | apply Kd.R_drewN | apply Kd.R_drew)); exact HO512.out) hb)
         replace HO515 := Aside0.mk (Kd.R_below (by (with_reducible repeat (first | apply Kd.R_alloc | apply Kd.R_drewN | apply Kd.R_drew)); exact HO515.out) hb)
         replace HO523 := Aside0.mk (Kd.R_below (by (with_reducible repeat (first | apply Kd.R_alloc | apply Kd.R_drewN | apply Kd.R_drew)); exact HO523.out) hb)
         replace BK496 := Aside0.mk (blk_below (by (with_reducible repeat (first | refine blk_drewN ?_ _ | refine blk_drew ?_ | refine blk_alloc ?_ _)); exact BK496.out) hb)
         replace BK526 := Aside0.mk (blk_below (by (with_reducible repeat (first | refine blk_drewN ?_ _ | refine blk_drew ?_ | refine blk_alloc ?_ _)); exact BK526.out) hb)
         replace HB := Aside0.mk (below_step (by repeat (first | (with_reducible first | exact HB.out | apply below_alloc | apply pw_below_drewN | apply below_drew1 | refine below_set ?_ GE496.out | refine below_set ?_ GE526.out) | exact HB.out)) hb)
         (try clear hb)
         (try clear hb2)
         (try clear hk)
         (try clear hi)
         refine hK.out _ _ ⟨(blk_cell BK526.out 0).trans rfl, (blk_cell BK526.out 1).trans rfl, (blk_cell BK526.out 2).trans rfl, (blk_cell BK526.out 3).trans rfl, (blk_cell BK526.out 4).trans rfl, (blk_cell BK526.out 5).trans rfl, (blk_cell BK526.out 6).trans rfl, (blk_cell BK496.out 0).trans rfl, (blk_cell BK496.out 1).trans rfl, (blk_cell BK496.out 2).trans rfl, (blk_cell BK496.out 3).trans rfl, (blk_cell BK496.out 4).trans rfl, (blk_cell BK496.out 5).trans rfl, (blk_cell BK496.out 6).trans rfl, ((HB.out.cell (World.block_lt_of_cell? w _ hw527_0)).trans hw527_0), ((HB.out.cell (World.block_lt_of_cell? w _ hw527_1)).trans hw527_1), ((HB.out.cell (World.block_lt_of_cell? w _ hw527_2)).trans hw527_2), ((HB.out.cell (World.block_lt_of_cell? w _ hw527_3)).trans hw527_3), ((HB.out.cell (World.block_lt_of_cell? w _ hw527_4)).trans hw527_4), ((HB.out.cell (World.block_lt_of_cell? w _ hw527_5)).trans hw527_5), ((HB.out.cell (World.block_lt_of_cell? w _ hw527_6)).trans hw527_6)⟩ (fun hHeld => ?_)
         clear hK K
         refine norm_ (a' := ?_) ?_ ?_
         rotate_left
         ·show Act.put _ (some 67) _ = _
          simp only [Act.put, List.setIfInBounds_toArray, List.set_cons_zero, List.set_cons_succ, i64_w, i32_w]
          rfl
         refine pure_ (i := 10) (N := some 68) (v := ?_) (a' := ?_) (bq true [11, 1]).toArray rfl rfl (any_of HT_.out (by kernel_rfl)) (fun _ _ _ h => h) (Or.inl ⟨by rfl, ?_⟩) ?_ ?_
         rotate_left
         ·intro w'
          go_simp
          with_reducible rfl
         rotate_left
         ·simp only [Act.put, List.setIfInBounds_toArray, List.set_cons_zero, List.set_cons_succ, i64_w, i32_w]
          rfl
         refine pure_ (i := 11) (N := some 69) (v := ?_) (a' := ?_) (bq true [12]).toArray rfl rfl (any_of HT_.out (by kernel_rfl)) (fun _ _ _ h => h) (Or.inl ⟨by rfl, ?_⟩) ?_ ?_
         rotate_left
         ·intro w'
          go_simp
          with_reducible rfl
         rotate_left
         ·simp only [Act.put, List.setIfInBounds_toArray, List.set_cons_zero, List.set_cons_succ, i64_w, i32_w]
          rfl
         refine done_ (done_of HT_.out (by kernel_rfl)) ?_
         try go_wp2
         go_ret
         exact ⟨by first | rfl | (simp [errW_none, errW_some] <;> rfl) | (simp only [← hji22]; first | rfl | (simp [errW_none, errW_some] <;> rfl)) | (simp [*, errW_none, errW_some] <;> rfl), by repeat (first | (with_reducible first | exact HB.out | apply below_alloc | apply pw_below_drewN | apply below_drew1 | refine below_set ?_ GE496.out | refine below_set ?_ GE526.out) | exact HB.out)⟩
       ·replace c26 := Bool.eq_false_iff.mpr c26
        subst c26
        have H1 : (some false) = some r := by rw [if_neg (show ¬ (false = true) by decide)] at H; exact H
        clear H
        have H := H1
        clear H1
        obtain rfl := Option.some.inj H
        obtain ⟨hcz69_0, hcz69_1, hcz69_2, hcz69_3, hcz69_4, hcz69_5, hcz69_6, hfz69_0, hfz69_1, hfz69_2, hfz69_3, hfz69_4, hfz69_5, hfz69_6⟩ := blk7 BK496.out
        have p502 : 0 ≤ (x6_2 : Int) := of_decide_eq_true (by first | (with_reducible assumption) | assumption)
        have q502 : x6_2 < (l0_5.length : Int) := of_decide_eq_true (by first | (with_reducible assumption) | assumption)
        obtain ⟨ad502, A502_5, c502_5, e502, hx502_0, hx502_1, hx502_2, hx502_3, hx502_4, hx502_5, hx502_6, hl502_5, hi502_5⟩ := at_T26 HR0_5.out x6_2 p502 q502
        cases e502
        replace hx502_0 := (HB.out.cell (World.block_lt_of_cell? w _ hx502_0)).trans hx502_0
        replace hx502_1 := (HB.out.cell (World.block_lt_of_cell? w _ hx502_1)).trans hx502_1
        replace hx502_2 := (HB.out.cell (World.block_lt_of_cell? w _ hx502_2)).trans hx502_2
        replace hx502_3 := (HB.out.cell (World.block_lt_of_cell? w _ hx502_3)).trans hx502_3
        replace hx502_4 := (HB.out.cell (World.block_lt_of_cell? w _ hx502_4)).trans hx502_4
        replace hx502_5 := (HB.out.cell (World.block_lt_of_cell? w _ hx502_5)).trans hx502_5
        replace hx502_6 := (HB.out.cell (World.block_lt_of_cell? w _ hx502_6)).trans hx502_6
        have HR502_5 := Aside0.mk hi502_5
        have HC502_5 := Aside0.mk hl502_5
        clear hi502_5 hl502_5
        replace p502 := eq_true p502
        replace q502 := eq_true q502
        try go_wp2_with (first | ((with_reducible refine gate_callee (f := 19) rfl ?_); refine goesL_ (some 33) rfl rfl Try.func19 (by kernel_rfl) rfl #[.agg #[.int .i64 ((rd_T26 l0_5 x6_2).f0), .string ((rd_T26 l0_5 x6_2).f1), .int .u32 ((rd_T26 l0_5 x6_2).f2), .int .i64 ((rd_T26 l0_5 x6_2).f3), .string ((rd_T26 l0_5 x6_2).f4), .slice A502_5 ((rd_T26 l0_5 x6_2).f5).length c502_5, .int .i64 ((rd_T26 l0_5 x6_2).f6)]] rfl (by (try simp only [List.map_toArray, List.map_cons, List.map_nil]); first | done | rfl | (simp only [List.length_drop, List.length_take]; rfl)) ?_; (with_reducible refine (tree_Count.calls k2 ((rd_T26 l0_5 x6_2).f0) ((rd_T26 l0_5 x6_2).f1) ((rd_T26 l0_5 x6_2).f2) ((rd_T26 l0_5 x6_2).f3) ((rd_T26 l0_5 x6_2).f4) _ _ ((rd_T26 l0_5 x6_2).f5) ((rd_T26 l0_5 x6_2).f6) t503 _ ?side1 ?side2 A20.out).mono ?_); (case side1 => repeat (first | exact (Kd.C_below HR502_5.out HB.out) | (with_reducible refine Kd.C_alloc ?_ _) | (with_reducible refine Kd.C_drewN ?_ _) | (with_reducible refine Kd.C_drew ?_))); (case side2 => exact HC502_5.out); rintro e w70 ⟨rfl, hb⟩; refine ⟨_, rfl, ?_⟩; replace HO_5 := Aside0.mk (Kd.R_below (by (with_reducible repeat (first | apply Kd.R_alloc | apply Kd.R_drewN | apply Kd.R_drew)); exact HO_5.out) hb); replace BK496 := Aside0.mk (blk_below (by (with_reducible repeat (first | refine blk_drewN ?_ _ | refine blk_drew ?_ | refine blk_alloc ?_ _)); exact BK496.out) hb); replace HB := Aside0.mk (below_step (by repeat (first | (with_reducible first | exact HB.out | apply below_alloc | apply pw_below_drewN | apply below_drew1 | refine below_set ?_ GE496.out) | exact HB.out)) hb); (try clear hb); (try clear hb2); (try clear hk); (try clear hi); obtain ⟨hcz71_0, hcz71_1, hcz71_2, hcz71_3, hcz71_4, hcz71_5, hcz71_6, hfz71_0, hfz71_1, hfz71_2, hfz71_3, hfz71_4, hfz71_5, hfz71_6⟩ := blk7 BK496.out; have p504 : 0 ≤ (x6_2 : Int) := of_decide_eq_true (by first | (with_reducible assumption) | assumption); have q504 : x6_2 < (l0_5.length : Int) := of_decide_eq_true (by first | (with_reducible assumption) | assumption); obtain ⟨ad504, A504_5, c504_5, e504, hx504_0, hx504_1, hx504_2, hx504_3, hx504_4, hx504_5, hx504_6, hl504_5, hi504_5⟩ := at_T26 HR0_5.out x6_2 p504 q504; obtain rfl : ad502 = ad504 := (by injection e504); replace hx504_0 := (HB.out.cell (World.block_lt_of_cell? w _ hx504_0)).trans hx504_0; replace hx504_1 := (HB.out.cell (World.block_lt_of_cell? w _ hx504_1)).trans hx504_1; replace hx504_2 := (HB.out.cell (World.block_lt_of_cell? w _ hx504_2)).trans hx504_2; replace hx504_3 := (HB.out.cell (World.block_lt_of_cell? w _ hx504_3)).trans hx504_3; replace hx504_4 := (HB.out.cell (World.block_lt_of_cell? w _ hx504_4)).trans hx504_4; replace hx504_5 := (HB.out.cell (World.block_lt_of_cell? w _ hx504_5)).trans hx504_5; replace hx504_6 := (HB.out.cell (World.block_lt_of_cell? w _ hx504_6)).trans hx504_6; have HR504_5 := Aside0.mk hi504_5; have HC504_5 := Aside0.mk hl504_5; clear hi504_5 hl504_5; replace p504 := eq_true p504; replace q504 := eq_true q504) | ((with_reducible refine gate_callee (f := 21) rfl ?_); refine goesL_ (some 41) rfl rfl Try.func21 (by kernel_rfl) rfl #[.agg #[.int .i64 ((rd_T26 l0_5 x6_2).f0), .string ((rd_T26 l0_5 x6_2).f1), .int .u32 ((rd_T26 l0_5 x6_2).f2), .int .i64 ((rd_T26 l0_5 x6_2).f3), .string ((rd_T26 l0_5 x6_2).f4), .slice A504_5 ((rd_T26 l0_5 x6_2).f5).length c504_5, .int .i64 ((rd_T26 l0_5 x6_2).f6)]] rfl (by (try simp only [List.map_toArray, List.map_cons, List.map_nil]); first | done | rfl | (simp only [List.length_drop, List.length_take]; rfl)) ?_; (with_reducible refine (tree_Depth.calls k2 ((rd_T26 l0_5 x6_2).f0) ((rd_T26 l0_5 x6_2).f1) ((rd_T26 l0_5 x6_2).f2) ((rd_T26 l0_5 x6_2).f3) ((rd_T26 l0_5 x6_2).f4) _ _ ((rd_T26 l0_5 x6_2).f5) ((rd_T26 l0_5 x6_2).f6) t505 _ ?side1 ?side2 A21.out).mono ?_); (case side1 => repeat (first | exact (Kd.C_below HR504_5.out HB.out) | (with_reducible refine Kd.C_alloc ?_ _) | (with_reducible refine Kd.C_drewN ?_ _) | (with_reducible refine Kd.C_drew ?_))); (case side2 => exact HC504_5.out); rintro e w72 ⟨rfl, hb⟩; refine ⟨_, rfl, ?_⟩; replace HO_5 := Aside0.mk (Kd.R_below (by (with_reducible repeat (first | apply Kd.R_alloc | apply Kd.R_drewN | apply Kd.R_drew)); exact HO_5.out) hb); replace BK496 := Aside0.mk (blk_below (by (with_reducible repeat (first | refine blk_drewN ?_ _ | refine blk_drew ?_ | refine blk_alloc ?_ _)); exact BK496.out) hb); replace HB := Aside0.mk (below_step (by repeat (first | (with_reducible first | exact HB.out | apply below_alloc | apply pw_below_drewN | apply below_drew1 | refine below_set ?_ GE496.out) | exact HB.out)) hb); (try clear hb); (try clear hb2); (try clear hk); (try clear hi); obtain ⟨hcz73_0, hcz73_1, hcz73_2, hcz73_3, hcz73_4, hcz73_5, hcz73_6, hfz73_0, hfz73_1, hfz73_2, hfz73_3, hfz73_4, hfz73_5, hfz73_6⟩ := blk7 BK496.out; have p506 : 0 ≤ (x6_2 : Int) := of_decide_eq_true (by first | (with_reducible assumption) | assumption); have q506 : x6_2 < (l0_5.length : Int) := of_decide_eq_true (by first | (with_reducible assumption) | assumption); obtain ⟨ad506, A506_5, c506_5, e506, hx506_0, hx506_1, hx506_2, hx506_3, hx506_4, hx506_5, hx506_6, hl506_5, hi506_5⟩ := at_T26 HR0_5.out x6_2 p506 q506; obtain rfl : ad502 = ad506 := (by injection e506); replace hx506_0 := (HB.out.cell (World.block_lt_of_cell? w _ hx506_0)).trans hx506_0; replace hx506_1 := (HB.out.cell (World.block_lt_of_cell? w _ hx506_1)).trans hx506_1; replace hx506_2 := (HB.out.cell (World.block_lt_of_cell? w _ hx506_2)).trans hx506_2; replace hx506_3 := (HB.out.cell (World.block_lt_of_cell? w _ hx506_3)).trans hx506_3; replace hx506_4 := (HB.out.cell (World.block_lt_of_cell? w _ hx506_4)).trans hx506_4; replace hx506_5 := (HB.out.cell (World.block_lt_of_cell? w _ hx506_5)).trans hx506_5; replace hx506_6 := (HB.out.cell (World.block_lt_of_cell? w _ hx506_6)).trans hx506_6; have HR506_5 := Aside0.mk hi506_5; have HC506_5 := Aside0.mk hl506_5; clear hi506_5 hl506_5; replace p506 := eq_true p506; replace q506 := eq_true q506) | ((with_reducible refine gate_callee (f := 25) rfl ?_); refine goesL_ (some 49) rfl rfl Try.func25 (by kernel_rfl) rfl #[.agg #[.int .i64 ((rd_T26 l0_5 x6_2).f0), .string ((rd_T26 l0_5 x6_2).f1), .int .u32 ((rd_T26 l0_5 x6_2).f2), .int .i64 ((rd_T26 l0_5 x6_2).f3), .string ((rd_T26 l0_5 x6_2).f4), .slice A506_5 ((rd_T26 l0_5 x6_2).f5).length c506_5, .int .i64 ((rd_T26 l0_5 x6_2).f6)]] rfl (by (try simp only [List.map_toArray, List.map_cons, List.map_nil]); first | done | rfl | (simp only [List.length_drop, List.length_take]; rfl)) ?_; (with_reducible refine (tree_Names.calls k2 ((rd_T26 l0_5 x6_2).f0) ((rd_T26 l0_5 x6_2).f1) ((rd_T26 l0_5 x6_2).f2) ((rd_T26 l0_5 x6_2).f3) ((rd_T26 l0_5 x6_2).f4) _ _ ((rd_T26 l0_5 x6_2).f5) ((rd_T26 l0_5 x6_2).f6) t507 _ ?side1 ?side2 A23.out).mono ?_); (case side1 => repeat (first | exact (Kd.C_below HR506_5.out HB.out) | (with_reducible refine Kd.C_alloc ?_ _) | (with_reducible refine Kd.C_drewN ?_ _) | (with_reducible refine Kd.C_drew ?_))); (case side2 => exact HC506_5.out); rintro e w74 ⟨v508, rfl, ho0, hb⟩; refine ⟨_, rfl, ?_⟩; have HO509 := Aside0.mk (Kd.R_lower (Kd.R_new' ho0 (Kd.R_lt (by (with_reducible repeat (first | apply Kd.R_alloc | apply Kd.R_drewN | apply Kd.R_drew)); exact HO_5.out))) (below_size (by repeat (first | (with_reducible first | exact HB.out | apply below_alloc | apply pw_below_drewN | apply below_drew1 | refine below_set ?_ GE496.out) | exact HB.out)))); replace HO_5 := Aside0.mk (Kd.R_elder' (by (with_reducible repeat (first | apply Kd.R_alloc | apply Kd.R_drewN | apply Kd.R_drew)); exact HO_5.out) (Kd.R_base ho0) hb); replace BK496 := Aside0.mk (blk_below (by (with_reducible repeat (first | refine blk_drewN ?_ _ | refine blk_drew ?_ | refine blk_alloc ?_ _)); exact BK496.out) hb); replace HB := Aside0.mk (below_step (by repeat (first | (with_reducible first | exact HB.out | apply below_alloc | apply pw_below_drewN | apply below_drew1 | refine below_set ?_ GE496.out) | exact HB.out)) hb); (try clear hb); (try clear hb2); (try clear hk); (try clear hi); (try clear ho0); obtain ⟨Ao76, co76, eo76⟩ := Kd.R_slice HO509.out; subst eo76) | ((with_reducible refine gate_builtin (b := .append) (xs := #[.tmp 43, .tmp 49]) rfl ?_); (try (refine gate_guard (by rfl) ?_; dsimp only)); at_builtin; refine Kd.R_append_rows Kd.string (w0 := w) w.heap.size rfl (.tmp 43) (.tmp 49) 35 9 (.string ⟨#[]⟩) 16 rfl Try.underlying35 info9 rfl (by decide) (by omega) u5 x5_2 t507 _ _ _ (fun k_ => some k_ ≠ (.slice Ao76 t507.length co76 : Value).ownBlock) (fun _ => False) rfl rfl ?aO ?aR (fun _ _ h => h) (fun _ h => h.elim) ?aF ?aB ?aS ?aL ?_; (case aR => repeat (first | exact (Kd.R_reads' HO509.out).2.2 | (with_reducible refine Kd.C_alloc ?_ _) | (with_reducible refine Kd.C_drewN ?_ _) | (with_reducible refine Kd.C_drew ?_))); (case aB => exact (by repeat (first | (with_reducible first | exact HB.out | apply below_alloc | apply pw_below_drewN | apply below_drew1 | refine below_set ?_ GE496.out) | exact HB.out))); (case aF => exact (fun k_ hk => Kd.fresh' (Kd.R_lt (by (with_reducible repeat (first | apply Kd.R_alloc | apply Kd.R_drewN | apply Kd.R_drew)); exact HO509.out)) k_ hk)); (case aO => exact (by (with_reducible repeat (first | apply Kd.R_alloc | apply Kd.R_drewN | apply Kd.R_drew)); exact Kd.R_mono HO_5.out (fun _ hk => hk.2))); (case aS => exact (below_size (by repeat (first | (with_reducible first | exact HB.out | apply below_alloc | apply pw_below_drewN | apply below_drew1 | refine below_set ?_ GE496.out) | exact HB.out)))); (case aL => have := LMc24.out; omega); intro v511 w75 ho hb hg hat; rw [← Ny510.out] at ho; replace BK496 := Aside0.mk (blk_grown (by (with_reducible repeat (first | refine blk_drewN ?_ _ | refine blk_drew ?_ | refine blk_alloc ?_ _)); exact BK496.out) hg (Kd.R_ne HO_5.out BK496.out (by decide))); replace HO509 := Aside0.mk (Kd.R_after (ok := (fun _ => True)) (by (with_reducible repeat (first | apply Kd.R_alloc | apply Kd.R_drewN | apply Kd.R_drew)); exact HO509.out) hg hat); replace HB := Aside0.mk (hb); have HO512 := Aside0.mk (ho); clear HO_5; clear ho hb hg hat; obtain ⟨hcz77_0, hcz77_1, hcz77_2, hcz77_3, hcz77_4, hcz77_5, hcz77_6, hfz77_0, hfz77_1, hfz77_2, hfz77_3, hfz77_4, hfz77_5, hfz77_6⟩ := blk7 BK496.out) | ((with_reducible refine gate_dst (N := 54) rfl ?_); (try (refine gate_guard (by rfl) ?_; dsimp only)); refine Kd.R_lit (Kd.int .i64) _ 3 ?hg (N := 54) ?hd (xs := ([x6_2] : List Int)) (inner := [.int .i64 x6_2]) (ok := fun _ => True) (okp := fun _ => True) ?hr ?hp (fun _ hk => hk) trivial (Below.refl _ _) (Nat.le_refl _) (by simp) ?_; (case hd => rfl); (case hg => rfl); (case hr => first | (go_simp; done) | (go_simp; rfl)); (case hp => exact (Reps.one (show Kd.M (Kd.int .i64) _ _ _ x6_2 [.int .i64 x6_2] from rfl) (Reps.none _ _))); intro v514 w78 ho79 hb hg_ hnew_; clear hg_ hnew_; (first | rw [← Ny513.out] at ho79 | (simp only [Int.reduceToNat] at ho79; rw [← Ny513.out] at ho79)); replace HO509 := Aside0.mk (Kd.R_below (by (with_reducible repeat (first | apply Kd.R_alloc | apply Kd.R_drewN | apply Kd.R_drew)); exact HO509.out) hb); replace HO512 := Aside0.mk (Kd.R_below (by (with_reducible repeat (first | apply Kd.R_alloc | apply Kd.R_drewN | apply Kd.R_drew)); exact HO512.out) hb); have HO515 := Aside0.mk (Kd.R_lower ho79 (below_size (by repeat (first | (with_reducible first | exact HB.out | apply below_alloc | apply pw_below_drewN | apply below_drew1 | refine below_set ?_ GE496.out) | exact HB.out)))); replace BK496 := Aside0.mk (blk_below (by (with_reducible repeat (first | refine blk_drewN ?_ _ | refine blk_drew ?_ | refine blk_alloc ?_ _)); exact BK496.out) hb); replace HB := Aside0.mk (below_step (by repeat (first | (with_reducible first | exact HB.out | apply below_alloc | apply pw_below_drewN | apply below_drew1 | refine below_set ?_ GE496.out) | exact HB.out)) hb); clear hb ho79; obtain ⟨Ao80, co80, eo80⟩ := Kd.R_slice HO515.out; subst eo80) | ((with_reducible refine gate_callee (f := 27) rfl ?_); refine goesL_ (some 55) rfl rfl Try.func27 (by kernel_rfl) rfl #[.agg #[.int .i64 a0_0, .string a0_1, .int .u32 a0_2, .int .i64 a0_3, .string a0_4, .slice (some ad502) l0_5.length c0_5, .int .i64 a0_6], .slice Ao80 y513.length co80] rfl (by (try simp only [List.map_toArray, List.map_cons, List.map_nil]); first | done | rfl | (simp only [List.length_drop, List.length_take]; rfl)) ?_; (with_reducible refine (tree_Find.calls k2 a0_0 a0_1 a0_2 a0_3 a0_4 (fun k_ => k_ < w.heap.size) _ _ l0_5 a0_6 _ _ y513 t516 t517 t518 t519 t520 t521 t524 false _ ?side1 ?side2 ?side3 A25.out).mono ?_); (case side1 => exact Kd.V_mk HC0_5.out (Kd.F_below (Kd.C_F k26_heap HR0_5.out) (by repeat (first | (with_reducible first | exact HB.out | apply below_alloc | apply pw_below_drewN | apply below_drew1 | refine below_set ?_ GE496.out) | exact HB.out)))); (case side2 => repeat (first | exact (Kd.R_reads' HO515.out).2.2 | (with_reducible refine Kd.C_alloc ?_ _) | (with_reducible refine Kd.C_drewN ?_ _) | (with_reducible refine Kd.C_drew ?_))); (case side3 => exact (Kd.R_reads' HO515.out).2.1); rintro e w81 ⟨v522, rfl, ho0, hb⟩; refine ⟨_, rfl, ?_⟩; replace HO509 := Aside0.mk (Kd.R_below (by (with_reducible repeat (first | apply Kd.R_alloc | apply Kd.R_drewN | apply Kd.R_drew)); exact HO509.out) hb); replace HO512 := Aside0.mk (Kd.R_below (by (with_reducible repeat (first | apply Kd.R_alloc | apply Kd.R_drewN | apply Kd.R_drew)); exact HO512.out) hb); replace HO515 := Aside0.mk (Kd.R_below (by (with_reducible repeat (first | apply Kd.R_alloc | apply Kd.R_drewN | apply Kd.R_drew)); exact HO515.out) hb); have HO523 := Aside0.mk (Kd.R_lower (Kd.R_newB (Kd.R_mono (ok' := fun k_ => True) ho0 (fun _ hk_ => trivial)) (by (with_reducible repeat (first | refine blk_drewN ?_ _ | refine blk_drew ?_ | refine blk_alloc ?_ _)); exact BK496.out)) (below_size (by repeat (first | (with_reducible first | exact HB.out | apply below_alloc | apply pw_below_drewN | apply below_drew1 | refine below_set ?_ GE496.out) | exact HB.out)))); replace BK496 := Aside0.mk (blk_below (by (with_reducible repeat (first | refine blk_drewN ?_ _ | refine blk_drew ?_ | refine blk_alloc ?_ _)); exact BK496.out) hb); replace HB := Aside0.mk (below_step (by repeat (first | (with_reducible first | exact HB.out | apply below_alloc | apply pw_below_drewN | apply below_drew1 | refine below_set ?_ GE496.out) | exact HB.out)) hb); (try clear hb); (try clear hb2); (try clear hk); (try clear hi); (try clear ho0)) | ((with_reducible refine gate_dst (N := 7) rfl ?_); (try (refine gate_guard (by rfl) ?_; dsimp only)); refine box_event ?hg (N := 7) ?hd (cs := #[.int .i64 0, .string (⟨#[]⟩ : ByteArray), .int .u32 0, .int .i64 0, .string (⟨#[]⟩ : ByteArray), .slice none 0 0, .int .i64 0]) (t := 26) ?hr ?_; (case hd => rfl); (case hg => rfl); (case hr => first | (go_simp; done) | (go_simp; rfl)); intro gb526 hg w82 hbox hb; replace HO509 := Aside0.mk (Kd.R_below (by (with_reducible repeat (first | apply Kd.R_alloc | apply Kd.R_drewN | apply Kd.R_drew)); exact HO509.out) hb); replace HO512 := Aside0.mk (Kd.R_below (by (with_reducible repeat (first | apply Kd.R_alloc | apply Kd.R_drewN | apply Kd.R_drew)); exact HO512.out) hb); replace HO515 := Aside0.mk (Kd.R_below (by (with_reducible repeat (first | apply Kd.R_alloc | apply Kd.R_drewN | apply Kd.R_drew)); exact HO515.out) hb); replace HO523 := Aside0.mk (Kd.R_below (Kd.R_elderB (by (with_reducible repeat (first | apply Kd.R_alloc | apply Kd.R_drewN | apply Kd.R_drew)); exact HO523.out) gb526 (Nat.le_of_eq hg.symm)) hb); have BK526 := Aside0.mk (hbox); have GW526 := Aside0.mk ((by rw [hg]; exact (below_size (by repeat (first | (with_reducible first | exact HB.out | apply below_alloc | apply pw_below_drewN | apply below_drew1 | refine below_set ?_ GE496.out) | exact HB.out))) : w.heap.size ≤ gb526)); have GE526 := Aside0.mk ((by rw [hg]; exact (below_size (by repeat (first | (with_reducible first | exact HB.out | apply below_alloc | apply pw_below_drewN | apply below_drew1 | refine below_set ?_ GE496.out) | exact HB.out))) : w.heap.size ≤ gb526)); replace HB := Aside0.mk (below_step (by repeat (first | (with_reducible first | exact HB.out | apply below_alloc | apply pw_below_drewN | apply below_drew1 | refine below_set ?_ GE496.out) | exact HB.out)) hb); have NB496_526 := Aside0.mk ((by rw [hg]; exact Nat.ne_of_lt (blk_lt (by (with_reducible repeat (first | refine blk_drewN ?_ _ | refine blk_drew ?_ | refine blk_alloc ?_ _)); exact BK496.out)) : gb496 ≠ gb526)); have NB526_496 := Aside0.mk ((by rw [hg]; exact Nat.ne_of_gt (blk_lt (by (with_reducible repeat (first | refine blk_drewN ?_ _ | refine blk_drew ?_ | refine blk_alloc ?_ _)); exact BK496.out)) : gb526 ≠ gb496)); replace BK496 := Aside0.mk (blk_below (by (with_reducible repeat (first | refine blk_drewN ?_ _ | refine blk_drew ?_ | refine blk_alloc ?_ _)); exact BK496.out) hb); clear hb hbox hg; have hnb83 := NB526_496.out; have hnc83 := NB496_526.out; obtain ⟨hcz84_0, hcz84_1, hcz84_2, hcz84_3, hcz84_4, hcz84_5, hcz84_6, hfz84_0, hfz84_1, hfz84_2, hfz84_3, hfz84_4, hfz84_5, hfz84_6⟩ := blk7 BK526.out; obtain ⟨Ao85, co85, eo85⟩ := Kd.R_slice HO523.out; subst eo85))
        have n0_ : Aside0 (Kd.R Kd.string 9 (((((((w82.setCell ⟨gb526, 0, none⟩ (.int .i64 t516)).setCell ⟨gb526, 1, none⟩ (.string t517)).setCell ⟨gb526, 2, none⟩ (.int .u32 t518)).setCell ⟨gb526, 3, none⟩ (.int .i64 t519)).setCell ⟨gb526, 4, none⟩ (.string t520)).setCell ⟨gb526, 5, none⟩ (.slice Ao85 t521.length co85)).setCell ⟨gb526, 6, none⟩ (.int .i64 t524)) w.heap.size (fun k_ => some k_ ≠ (v511 : Value).ownBlock) (.slice Ao76 t507.length co76) t507) := ⟨by (with_reducible repeat (first | apply Kd.R_alloc | apply Kd.R_drewN | apply Kd.R_drew)); exact Kd.R_mono (Kd.R_far (p := ⟨gb526, 6, none⟩) (Kd.R_far (p := ⟨gb526, 5, none⟩) (Kd.R_far (p := ⟨gb526, 4, none⟩) (Kd.R_far (p := ⟨gb526, 3, none⟩) (Kd.R_far (p := ⟨gb526, 2, none⟩) (Kd.R_far (p := ⟨gb526, 1, none⟩) (Kd.R_far (p := ⟨gb526, 0, none⟩) (Kd.R_types HO509.out BK526.out (by decide)) (fun _ hk => hk.2) (.int .i64 t516)) (fun _ hk => hk.2) (.string t517)) (fun _ hk => hk.2) (.int .u32 t518)) (fun _ hk => hk.2) (.int .i64 t519)) (fun _ hk => hk.2) (.string t520)) (fun _ hk => hk.2) (.slice Ao85 t521.length co85)) (fun _ hk => hk.2) (.int .i64 t524)) (fun _ hk => hk.1.2)⟩
        have n1_ : Aside0 (Kd.R Kd.string 9 (((((((w82.setCell ⟨gb526, 0, none⟩ (.int .i64 t516)).setCell ⟨gb526, 1, none⟩ (.string t517)).setCell ⟨gb526, 2, none⟩ (.int .u32 t518)).setCell ⟨gb526, 3, none⟩ (.int .i64 t519)).setCell ⟨gb526, 4, none⟩ (.string t520)).setCell ⟨gb526, 5, none⟩ (.slice Ao85 t521.length co85)).setCell ⟨gb526, 6, none⟩ (.int .i64 t524)) w.heap.size (fun k_ => some k_ ≠ (.slice Ao76 t507.length co76 : Value).ownBlock) v511 y510) := ⟨by (with_reducible repeat (first | apply Kd.R_alloc | apply Kd.R_drewN | apply Kd.R_drew)); exact Kd.R_mono (Kd.R_far (p := ⟨gb526, 6, none⟩) (Kd.R_far (p := ⟨gb526, 5, none⟩) (Kd.R_far (p := ⟨gb526, 4, none⟩) (Kd.R_far (p := ⟨gb526, 3, none⟩) (Kd.R_far (p := ⟨gb526, 2, none⟩) (Kd.R_far (p := ⟨gb526, 1, none⟩) (Kd.R_far (p := ⟨gb526, 0, none⟩) (Kd.R_types HO512.out BK526.out (by decide)) (fun _ hk => hk.2) (.int .i64 t516)) (fun _ hk => hk.2) (.string t517)) (fun _ hk => hk.2) (.int .u32 t518)) (fun _ hk => hk.2) (.int .i64 t519)) (fun _ hk => hk.2) (.string t520)) (fun _ hk => hk.2) (.slice Ao85 t521.length co85)) (fun _ hk => hk.2) (.int .i64 t524)) (fun _ hk => hk.1)⟩
        have n2_ : Aside0 (Kd.R (Kd.int .i64) 3 (((((((w82.setCell ⟨gb526, 0, none⟩ (.int .i64 t516)).setCell ⟨gb526, 1, none⟩ (.string t517)).setCell ⟨gb526, 2, none⟩ (.int .u32 t518)).setCell ⟨gb526, 3, none⟩ (.int .i64 t519)).setCell ⟨gb526, 4, none⟩ (.string t520)).setCell ⟨gb526, 5, none⟩ (.slice Ao85 t521.length co85)).setCell ⟨gb526, 6, none⟩ (.int .i64 t524)) w.heap.size (fun _ => True) (.slice Ao80 y513.length co80) y513) := ⟨by (with_reducible repeat (first | apply Kd.R_alloc | apply Kd.R_drewN | apply Kd.R_drew)); exact Kd.R_mono (Kd.R_far (p := ⟨gb526, 6, none⟩) (Kd.R_far (p := ⟨gb526, 5, none⟩) (Kd.R_far (p := ⟨gb526, 4, none⟩) (Kd.R_far (p := ⟨gb526, 3, none⟩) (Kd.R_far (p := ⟨gb526, 2, none⟩) (Kd.R_far (p := ⟨gb526, 1, none⟩) (Kd.R_far (p := ⟨gb526, 0, none⟩) (Kd.R_types HO515.out BK526.out (by decide)) (fun _ hk => hk.2) (.int .i64 t516)) (fun _ hk => hk.2) (.string t517)) (fun _ hk => hk.2) (.int .u32 t518)) (fun _ hk => hk.2) (.int .i64 t519)) (fun _ hk => hk.2) (.string t520)) (fun _ hk => hk.2) (.slice Ao85 t521.length co85)) (fun _ hk => hk.2) (.int .i64 t524)) (fun _ hk => trivial)⟩
        have n3_ : Aside0 (Kd.R k26 26 (((((((w82.setCell ⟨gb526, 0, none⟩ (.int .i64 t516)).setCell ⟨gb526, 1, none⟩ (.string t517)).setCell ⟨gb526, 2, none⟩ (.int .u32 t518)).setCell ⟨gb526, 3, none⟩ (.int .i64 t519)).setCell ⟨gb526, 4, none⟩ (.string t520)).setCell ⟨gb526, 5, none⟩ (.slice Ao85 t521.length co85)).setCell ⟨gb526, 6, none⟩ (.int .i64 t524)) w.heap.size (fun k_ => k_ ≠ gb496 ∧ k_ ≠ gb526) (.slice Ao85 t521.length co85) t521) := ⟨by (with_reducible repeat (first | apply Kd.R_alloc | apply Kd.R_drewN | apply Kd.R_drew)); exact Kd.R_mono (Kd.R_far (p := ⟨gb526, 6, none⟩) (Kd.R_far (p := ⟨gb526, 5, none⟩) (Kd.R_far (p := ⟨gb526, 4, none⟩) (Kd.R_far (p := ⟨gb526, 3, none⟩) (Kd.R_far (p := ⟨gb526, 2, none⟩) (Kd.R_far (p := ⟨gb526, 1, none⟩) (Kd.R_far (p := ⟨gb526, 0, none⟩) (Kd.R_mono HO523.out (fun k_ hk => (⟨hk, hk.2⟩ : _ ∧ k_ ≠ gb526))) (fun _ hk => hk.2) (.int .i64 t516)) (fun _ hk => hk.2) (.string t517)) (fun _ hk => hk.2) (.int .u32 t518)) (fun _ hk => hk.2) (.int .i64 t519)) (fun _ hk => hk.2) (.string t520)) (fun _ hk => hk.2) (.slice Ao85 t521.length co85)) (fun _ hk => hk.2) (.int .i64 t524)) (fun _ hk => ⟨hk.1.1.2, hk.1.2⟩)⟩
        have n4_ : Aside0 ((((((((w82.setCell ⟨gb526, 0, none⟩ (.int .i64 t516)).setCell ⟨gb526, 1, none⟩ (.string t517)).setCell ⟨gb526, 2, none⟩ (.int .u32 t518)).setCell ⟨gb526, 3, none⟩ (.int .i64 t519)).setCell ⟨gb526, 4, none⟩ (.string t520)).setCell ⟨gb526, 5, none⟩ (.slice Ao85 t521.length co85)).setCell ⟨gb526, 6, none⟩ (.int .i64 t524)).heap[gb496]? = some (.cells #[.int .i64 a0_0, .string a0_1, .int .u32 a0_2, .int .i64 a0_3, .string a0_4, .slice (some ad502) l0_5.length c0_5, .int .i64 a0_6] 26 (0, 0))) := ⟨by (repeat (first | (with_reducible first | refine blk_drewN ?_ _ | refine blk_drew ?_ | refine blk_alloc ?_ _) | refine blk_far ?_ NB496_526.out _)); exact BK496.out⟩
        have n5_ : Aside0 ((((((((w82.setCell ⟨gb526, 0, none⟩ (.int .i64 t516)).setCell ⟨gb526, 1, none⟩ (.string t517)).setCell ⟨gb526, 2, none⟩ (.int .u32 t518)).setCell ⟨gb526, 3, none⟩ (.int .i64 t519)).setCell ⟨gb526, 4, none⟩ (.string t520)).setCell ⟨gb526, 5, none⟩ (.slice Ao85 t521.length co85)).setCell ⟨gb526, 6, none⟩ (.int .i64 t524)).heap[gb526]? = some (.cells #[.int .i64 t516, .string t517, .int .u32 t518, .int .i64 t519, .string t520, .slice Ao85 t521.length co85, .int .i64 t524] 26 (0, 0))) := ⟨by (with_reducible repeat (first | refine blk_drewN ?_ _ | refine blk_drew ?_ | refine blk_alloc ?_ _)); refine blk_put (cs := #[.int .i64 t516, .string t517, .int .u32 t518, .int .i64 t519, .string t520, .slice Ao85 t521.length co85, .int .i64 0]) ?_ 6 _ rfl; refine blk_put (cs := #[.int .i64 t516, .string t517, .int .u32 t518, .int .i64 t519, .string t520, .slice none 0 0, .int .i64 0]) ?_ 5 _ rfl; refine blk_put (cs := #[.int .i64 t516, .string t517, .int .u32 t518, .int .i64 t519, .string (⟨#[]⟩ : ByteArray), .slice none 0 0, .int .i64 0]) ?_ 4 _ rfl; refine blk_put (cs := #[.int .i64 t516, .string t517, .int .u32 t518, .int .i64 0, .string (⟨#[]⟩ : ByteArray), .slice none 0 0, .int .i64 0]) ?_ 3 _ rfl; refine blk_put (cs := #[.int .i64 t516, .string t517, .int .u32 0, .int .i64 0, .string (⟨#[]⟩ : ByteArray), .slice none 0 0, .int .i64 0]) ?_ 2 _ rfl; refine blk_put (cs := #[.int .i64 t516, .string (⟨#[]⟩ : ByteArray), .int .u32 0, .int .i64 0, .string (⟨#[]⟩ : ByteArray), .slice none 0 0, .int .i64 0]) ?_ 1 _ rfl; refine blk_put (cs := #[.int .i64 0, .string (⟨#[]⟩ : ByteArray), .int .u32 0, .int .i64 0, .string (⟨#[]⟩ : ByteArray), .slice none 0 0, .int .i64 0]) ?_ 0 _ rfl; (with_reducible repeat (first | refine blk_drewN ?_ _ | refine blk_drew ?_ | refine blk_alloc ?_ _)); exact BK526.out⟩
        have n6_ : Aside0 (Below w.heap.size w (((((((w82.setCell ⟨gb526, 0, none⟩ (.int .i64 t516)).setCell ⟨gb526, 1, none⟩ (.string t517)).setCell ⟨gb526, 2, none⟩ (.int .u32 t518)).setCell ⟨gb526, 3, none⟩ (.int .i64 t519)).setCell ⟨gb526, 4, none⟩ (.string t520)).setCell ⟨gb526, 5, none⟩ (.slice Ao85 t521.length co85)).setCell ⟨gb526, 6, none⟩ (.int .i64 t524))) := ⟨by repeat (first | (with_reducible first | exact HB.out | apply below_alloc | apply pw_below_drewN | apply below_drew1 | refine below_set ?_ GE496.out | refine below_set ?_ GE526.out) | exact HB.out)⟩
        (try clear HO509)
        (try clear HO512)
        (try clear HO515)
        (try clear HO523)
        (try clear BK496)
        (try clear BK526)
        (try clear HB)
        generalize (((((((w82.setCell ⟨gb526, 0, none⟩ (.int .i64 t516)).setCell ⟨gb526, 1, none⟩ (.string t517)).setCell ⟨gb526, 2, none⟩ (.int .u32 t518)).setCell ⟨gb526, 3, none⟩ (.int .i64 t519)).setCell ⟨gb526, 4, none⟩ (.string t520)).setCell ⟨gb526, 5, none⟩ (.slice Ao85 t521.length co85)).setCell ⟨gb526, 6, none⟩ (.int .i64 t524)) = w86 at n0_ n1_ n2_ n3_ n4_ n5_ n6_ ⊢
        have HO509 := n0_
        have HO512 := n1_
        have HO515 := n2_
        have HO523 := n3_
        have BK496 := n4_
        have BK526 := n5_
        have HB := n6_
        clear n0_ n1_ n2_ n3_ n4_ n5_ n6_
        replace HO509 := Aside0.mk (Kd.R_drew HO509.out)
        replace HO512 := Aside0.mk (Kd.R_drew HO512.out)
        replace HO515 := Aside0.mk (Kd.R_drew HO515.out)
        replace HO523 := Aside0.mk (Kd.R_drew HO523.out)
        replace BK496 := Aside0.mk (blk_drew BK496.out)
        replace BK526 := Aside0.mk (blk_drew BK526.out)
        replace HB := Aside0.mk (below_drew1 HB.out)
        refine start_ (n := 12) (S := fun w' => True) (ds := []) #[false, false, false, false, false, false, false, false, false, false, false, false] (by kernel_rfl) rfl rfl trivial (fun hHeld => ?_); refine with_tabW lathelaw07_TreeParts.tab14 lathelaw07_TreeParts.bits14 (fun HT_ HW_ => ?_)
        generalize w86.drew = w87 at HO509 HO512 HO515 HO523 BK496 BK526 HB hHeld ⊢
        refine pure_ (i := 0) (N := some 58) (v := ?_) (a' := ?_) (bq true [1, 11]).toArray rfl rfl (any_of HT_.out (by kernel_rfl)) (fun _ _ _ h => h) (Or.inl ⟨by rfl, ?_⟩) ?_ ?_
        rotate_left
        ·intro w'
         go_simp
         with_reducible rfl
        rotate_left
        ·simp only [Act.put, List.setIfInBounds_toArray, List.set_cons_zero, List.set_cons_succ, i64_w, i32_w]
         rfl
        refine pure_ (i := 1) (N := some 59) (v := ?_) (a' := ?_) (bq true [2, 10]).toArray rfl rfl (any_of HT_.out (by kernel_rfl)) (fun _ _ _ h => h) (Or.inl ⟨by rfl, ?_⟩) ?_ ?_
        rotate_left
        ·intro w'
         go_simp
         with_reducible rfl
        rotate_left
        ·simp only [Act.put, List.setIfInBounds_toArray, List.set_cons_zero, List.set_cons_succ, i64_w, i32_w]
         rfl
        refine pure_ (i := 2) (N := some 60) (v := ?_) (a' := ?_) (bq true [3, 9]).toArray rfl rfl (any_of HT_.out (by kernel_rfl)) (fun _ _ _ h => h) (Or.inl ⟨by rfl, ?_⟩) ?_ ?_
        rotate_left
        ·intro w'
         go_simp
         with_reducible rfl
        rotate_left
        ·simp only [Act.put, List.setIfInBounds_toArray, List.set_cons_zero, List.set_cons_succ, i64_w, i32_w]
         rfl
        refine pure_ (i := 3) (N := some 61) (v := undef) (a' := ?_) #[true, true, true, true, false, false, false, false, false, false, false, false] rfl rfl (any_of HT_.out (by kernel_rfl)) (fun _ _ _ h => h) (Or.inr ⟨by rfl, rfl⟩) ?_ ?_
        rotate_left
        ·simp only [Act.put, List.setIfInBounds_toArray, List.set_cons_zero, List.set_cons_succ, i64_w, i32_w]
         rfl
        refine pure_ (i := 4) (N := some 62) (v := undef) (a' := ?_) #[true, true, true, true, true, false, false, false, false, false, false, false] rfl rfl (any_of HT_.out (by kernel_rfl)) (fun _ _ _ h => h) (Or.inr ⟨by rfl, rfl⟩) ?_ ?_
        rotate_left
        ·simp only [Act.put, List.setIfInBounds_toArray, List.set_cons_zero, List.set_cons_succ, i64_w, i32_w]
         rfl
        refine pure_ (i := 5) (N := some 63) (v := undef) (a' := ?_) #[true, true, true, true, true, true, false, false, false, false, false, false] rfl rfl (any_of HT_.out (by kernel_rfl)) (fun _ _ _ h => h) (Or.inr ⟨by rfl, rfl⟩) ?_ ?_
        rotate_left
        ·simp only [Act.put, List.setIfInBounds_toArray, List.set_cons_zero, List.set_cons_succ, i64_w, i32_w]
         rfl
        refine pure_ (i := 6) (N := some 64) (v := undef) (a' := ?_) #[true, true, true, true, true, true, true, false, false, false, false, false] rfl rfl (any_of HT_.out (by kernel_rfl)) (fun _ _ _ h => h) (Or.inr ⟨by rfl, rfl⟩) ?_ ?_
        rotate_left
        ·simp only [Act.put, List.setIfInBounds_toArray, List.set_cons_zero, List.set_cons_succ, i64_w, i32_w]
         rfl
        refine pure_ (i := 7) (N := some 65) (v := undef) (a' := ?_) #[true, true, true, true, true, true, true, true, false, false, false, false] rfl rfl (any_of HT_.out (by kernel_rfl)) (fun _ _ _ h => h) (Or.inr ⟨by rfl, rfl⟩) ?_ ?_
        rotate_left
        ·simp only [Act.put, List.setIfInBounds_toArray, List.set_cons_zero, List.set_cons_succ, i64_w, i32_w]
         rfl
        refine pure_ (i := 8) (N := some 66) (v := undef) (a' := ?_) #[true, true, true, true, true, true, true, true, true, false, false, false] rfl rfl (any_of HT_.out (by kernel_rfl)) (fun _ _ _ h => h) (Or.inr ⟨by rfl, rfl⟩) ?_ ?_
        rotate_left
        ·simp only [Act.put, List.setIfInBounds_toArray, List.set_cons_zero, List.set_cons_succ, i64_w, i32_w]
         rfl
        refine pure_ (i := 9) (N := some 67) (v := undef) (a' := ?_) #[true, true, true, true, true, true, true, true, true, true, false, false] rfl rfl (any_of HT_.out (by kernel_rfl)) (fun _ _ _ h => h) (Or.inr ⟨by rfl, rfl⟩) ?_ ?_
        rotate_left
        ·simp only [Act.put, List.setIfInBounds_toArray, List.set_cons_zero, List.set_cons_succ, i64_w, i32_w]
         rfl
        refine pure_ (i := 10) (N := some 68) (v := undef) (a' := ?_) #[true, true, true, true, true, true, true, true, true, true, true, false] rfl rfl (any_of HT_.out (by kernel_rfl)) (fun _ _ _ h => h) (Or.inr ⟨by rfl, rfl⟩) ?_ ?_
        rotate_left
        ·simp only [Act.put, List.setIfInBounds_toArray, List.set_cons_zero, List.set_cons_succ, i64_w, i32_w]
         rfl
        refine pure_ (i := 11) (N := some 69) (v := ?_) (a' := ?_) (bq true [12]).toArray rfl rfl (any_of HT_.out (by kernel_rfl)) (fun _ _ _ h => h) (Or.inl ⟨by rfl, ?_⟩) ?_ ?_
        rotate_left
        ·intro w'
         go_simp
         with_reducible rfl
        rotate_left
        ·simp only [Act.put, List.setIfInBounds_toArray, List.set_cons_zero, List.set_cons_succ, i64_w, i32_w]
         rfl
        refine done_ (done_of HT_.out (by kernel_rfl)) ?_
        try go_wp2
        go_ret
        exact ⟨by first | rfl | (simp [errW_none, errW_some] <;> rfl) | (simp only [← hji22]; first | rfl | (simp [errW_none, errW_some] <;> rfl)) | (simp [*, errW_none, errW_some] <;> rfl), by repeat (first | (with_reducible first | exact HB.out | apply below_alloc | apply pw_below_drewN | apply below_drew1 | refine below_set ?_ GE496.out | refine below_set ?_ GE526.out) | exact HB.out)⟩
      ·rw [if_neg c18] at H
       have c18b0 : decide (x6_2 < (l0_5.length : Int)) = false := decide_eq_false c18
       clear c18
       replace H := Option.bind_eq_some_iff.mp H
       obtain ⟨t529, A880, H⟩ := H
       replace H : (if t529 = x3_2 then ((tree_Depth.f k2 a0_0 a0_1 a0_2 a0_3 a0_4 l0_5 a0_6).bind fun t530 => (if t530 = (wrap64 (x4_2 + 1)) then ((tree_Names.f k2 a0_0 a0_1 a0_2 a0_3 a0_4 l0_5 a0_6).bind fun t531 => ((lathelaw07_sameTexts.f k2 t531 x5_2).bind fun t534 => (if t534 = true then (if (x5_2.length : Int) ≤ x3_2 then ((lathelaw07_sure.f k2).bind fun t535 => (some t535)) else (some false)) else (some false)))) else (some false))) else (some false)) = some r := H
       have A88 := Aside0.mk A880
       clear A880
       by_cases c89 : t529 = x3_2
       ·rw [if_pos c89] at H
        have c89b0 : (t529 == x3_2) = true := beq_iff_eq.mpr c89
        have c89b1 : (t529 != x3_2) = false := bne_eq_false_iff_eq.mpr c89
        clear c89
        replace H := Option.bind_eq_some_iff.mp H
        obtain ⟨t530, A900, H⟩ := H
        replace H : (if t530 = (wrap64 (x4_2 + 1)) then ((tree_Names.f k2 a0_0 a0_1 a0_2 a0_3 a0_4 l0_5 a0_6).bind fun t531 => ((lathelaw07_sameTexts.f k2 t531 x5_2).bind fun t534 => (if t534 = true then (if (x5_2.length : Int) ≤ x3_2 then ((lathelaw07_sure.f k2).bind fun t535 => (some t535)) else (some false)) else (some false)))) else (some false)) = some r := H
        have A90 := Aside0.mk A900
        clear A900
        by_cases c91 : t530 = (wrap64 (x4_2 + 1))
        ·rw [if_pos c91] at H
         have c91b0 : (t530 == (wrap64 (x4_2 + 1))) = true := beq_iff_eq.mpr c91
         have c91b1 : (t530 != (wrap64 (x4_2 + 1))) = false := bne_eq_false_iff_eq.mpr c91
         clear c91
         replace H := Option.bind_eq_some_iff.mp H
         obtain ⟨t531, A920, H⟩ := H
         replace H : ((lathelaw07_sameTexts.f k2 t531 x5_2).bind fun t534 => (if t534 = true then (if (x5_2.length : Int) ≤ x3_2 then ((lathelaw07_sure.f k2).bind fun t535 => (some t535)) else (some false)) else (some false))) = some r := H
         have A92 := Aside0.mk A920
         clear A920
         replace H := Option.bind_eq_some_iff.mp H
         obtain ⟨t534, A930, H⟩ := H
         replace H : (if t534 = true then (if (x5_2.length : Int) ≤ x3_2 then ((lathelaw07_sure.f k2).bind fun t535 => (some t535)) else (some false)) else (some false)) = some r := H
         have A93 := Aside0.mk A930
         clear A930
         by_cases c94 : t534 = true
         ·subst c94
          have H1 : (if (x5_2.length : Int) ≤ x3_2 then ((lathelaw07_sure.f k2).bind fun t535 => (some t535)) else (some false)) = some r := by rw [if_pos rfl] at H; exact H
          clear H
          have H := H1
          clear H1
          by_cases c95 : (x5_2.length : Int) ≤ x3_2
          ·rw [if_pos c95] at H
           have c95b0 : decide ((x5_2.length : Int) ≤ x3_2) = true := decide_eq_true c95
           clear c95
           replace H := Option.bind_eq_some_iff.mp H
           obtain ⟨t535, A960, H⟩ := H
           replace H : (some t535) = some r := H
           have A96 := Aside0.mk A960
           clear A960
           obtain rfl := Option.some.inj H
           obtain ⟨hcz97_0, hcz97_1, hcz97_2, hcz97_3, hcz97_4, hcz97_5, hcz97_6, hfz97_0, hfz97_1, hfz97_2, hfz97_3, hfz97_4, hfz97_5, hfz97_6⟩ := blk7 BK496.out
           go_wp2_with (first | ((with_reducible refine gate_callee (f := 19) rfl ?_); refine goesL_ (some 71) rfl rfl Try.func19 (by kernel_rfl) rfl #[.agg #[.int .i64 a0_0, .string a0_1, .int .u32 a0_2, .int .i64 a0_3, .string a0_4, .slice A0_5 l0_5.length c0_5, .int .i64 a0_6]] rfl (by (try simp only [List.map_toArray, List.map_cons, List.map_nil]); first | done | rfl | (simp only [List.length_drop, List.length_take]; rfl)) ?_; (with_reducible refine (tree_Count.calls k2 a0_0 a0_1 a0_2 a0_3 a0_4 _ _ l0_5 a0_6 t529 _ ?side1 ?side2 A88.out).mono ?_); (case side1 => repeat (first | exact (Kd.C_below HR0_5.out HB.out) | (with_reducible refine Kd.C_alloc ?_ _) | (with_reducible refine Kd.C_drewN ?_ _) | (with_reducible refine Kd.C_drew ?_))); (case side2 => exact HC0_5.out); rintro e w98 ⟨rfl, hb⟩; refine ⟨_, rfl, ?_⟩; replace HO_5 := Aside0.mk (Kd.R_below (by (with_reducible repeat (first | apply Kd.R_alloc | apply Kd.R_drewN | apply Kd.R_drew)); exact HO_5.out) hb); replace BK496 := Aside0.mk (blk_below (by (with_reducible repeat (first | refine blk_drewN ?_ _ | refine blk_drew ?_ | refine blk_alloc ?_ _)); exact BK496.out) hb); replace HB := Aside0.mk (below_step (by repeat (first | (with_reducible first | exact HB.out | apply below_alloc | apply pw_below_drewN | apply below_drew1 | refine below_set ?_ GE496.out) | exact HB.out)) hb); (try clear hb); (try clear hb2); (try clear hk); (try clear hi); obtain ⟨hcz99_0, hcz99_1, hcz99_2, hcz99_3, hcz99_4, hcz99_5, hcz99_6, hfz99_0, hfz99_1, hfz99_2, hfz99_3, hfz99_4, hfz99_5, hfz99_6⟩ := blk7 BK496.out) | (go_at_call 21; (with_reducible refine (tree_Depth.calls k2 a0_0 a0_1 a0_2 a0_3 a0_4 _ _ l0_5 a0_6 t530 _ ?side1 ?side2 A90.out).mono ?_); (case side1 => repeat (first | exact (Kd.C_below HR0_5.out HB.out) | (with_reducible refine Kd.C_alloc ?_ _) | (with_reducible refine Kd.C_drewN ?_ _) | (with_reducible refine Kd.C_drew ?_))); (case side2 => exact HC0_5.out); rintro e w100 ⟨rfl, hb⟩; replace HO_5 := Aside0.mk (Kd.R_below (by (with_reducible repeat (first | apply Kd.R_alloc | apply Kd.R_drewN | apply Kd.R_drew)); exact HO_5.out) hb); replace BK496 := Aside0.mk (blk_below (by (with_reducible repeat (first | refine blk_drewN ?_ _ | refine blk_drew ?_ | refine blk_alloc ?_ _)); exact BK496.out) hb); replace HB := Aside0.mk (below_step (by repeat (first | (with_reducible first | exact HB.out | apply below_alloc | apply pw_below_drewN | apply below_drew1 | refine below_set ?_ GE496.out) | exact HB.out)) hb); (try clear hb); (try clear hb2); (try clear hk); (try clear hi); obtain ⟨hcz101_0, hcz101_1, hcz101_2, hcz101_3, hcz101_4, hcz101_5, hcz101_6, hfz101_0, hfz101_1, hfz101_2, hfz101_3, hfz101_4, hfz101_5, hfz101_6⟩ := blk7 BK496.out) | (go_at_call 25; (with_reducible refine (tree_Names.calls k2 a0_0 a0_1 a0_2 a0_3 a0_4 _ _ l0_5 a0_6 t531 _ ?side1 ?side2 A92.out).mono ?_); (case side1 => repeat (first | exact (Kd.C_below HR0_5.out HB.out) | (with_reducible refine Kd.C_alloc ?_ _) | (with_reducible refine Kd.C_drewN ?_ _) | (with_reducible refine Kd.C_drew ?_))); (case side2 => exact HC0_5.out); rintro e w102 ⟨v532, rfl, ho0, hb⟩; have HO533 := Aside0.mk (Kd.R_lower (Kd.R_new' ho0 (Kd.R_lt (by (with_reducible repeat (first | apply Kd.R_alloc | apply Kd.R_drewN | apply Kd.R_drew)); exact HO_5.out))) (below_size (by repeat (first | (with_reducible first | exact HB.out | apply below_alloc | apply pw_below_drewN | apply below_drew1 | refine below_set ?_ GE496.out) | exact HB.out)))); replace HO_5 := Aside0.mk (Kd.R_elder' (by (with_reducible repeat (first | apply Kd.R_alloc | apply Kd.R_drewN | apply Kd.R_drew)); exact HO_5.out) (Kd.R_base ho0) hb); replace BK496 := Aside0.mk (blk_below (by (with_reducible repeat (first | refine blk_drewN ?_ _ | refine blk_drew ?_ | refine blk_alloc ?_ _)); exact BK496.out) hb); replace HB := Aside0.mk (below_step (by repeat (first | (with_reducible first | exact HB.out | apply below_alloc | apply pw_below_drewN | apply below_drew1 | refine below_set ?_ GE496.out) | exact HB.out)) hb); (try clear hb); (try clear hb2); (try clear hk); (try clear hi); (try clear ho0); obtain ⟨Ao103, co103, eo103⟩ := Kd.R_slice HO533.out; subst eo103; obtain ⟨Ao104, co104, eo104⟩ := Kd.R_slice HO_5.out; subst eo104) | (go_at_call 24; (with_reducible refine (lathelaw07_sameTexts.calls k2 _ _ t531 _ _ x5_2 true _ ?side1 ?side2 ?side3 ?side4 A93.out).mono ?_); (case side1 => repeat (first | exact (Kd.R_reads' HO533.out).2.2 | (with_reducible refine Kd.C_alloc ?_ _) | (with_reducible refine Kd.C_drewN ?_ _) | (with_reducible refine Kd.C_drew ?_))); (case side2 => exact (Kd.R_reads' HO533.out).2.1); (case side3 => repeat (first | exact (Kd.R_reads' HO_5.out).2.2 | (with_reducible refine Kd.C_alloc ?_ _) | (with_reducible refine Kd.C_drewN ?_ _) | (with_reducible refine Kd.C_drew ?_))); (case side4 => exact (Kd.R_reads' HO_5.out).2.1); rintro e w' ⟨rfl, ⟨nd, rfl⟩⟩) | (go_at_call 11; (with_reducible refine (lathelaw07_sure.calls k2  t535 _ A96.out).mono ?_); rintro e w105 ⟨rfl, hb⟩; replace HO_5 := Aside0.mk (Kd.R_below (by (with_reducible repeat (first | apply Kd.R_alloc | apply Kd.R_drewN | apply Kd.R_drew)); exact HO_5.out) hb); replace HO533 := Aside0.mk (Kd.R_below (by (with_reducible repeat (first | apply Kd.R_alloc | apply Kd.R_drewN | apply Kd.R_drew)); exact HO533.out) hb); replace BK496 := Aside0.mk (blk_below (by (with_reducible repeat (first | refine blk_drewN ?_ _ | refine blk_drew ?_ | refine blk_alloc ?_ _)); exact BK496.out) hb); replace HB := Aside0.mk (below_step (by repeat (first | (with_reducible first | exact HB.out | apply below_alloc | apply pw_below_drewN | apply below_drew1 | refine below_set ?_ GE496.out) | exact HB.out)) hb); (try clear hb); (try clear hb2); (try clear hk); (try clear hi)))
           go_ret
           exact ⟨by first | rfl | (simp [errW_none, errW_some] <;> rfl) | (simp [*, errW_none, errW_some] <;> rfl), by repeat (first | (with_reducible first | exact HB.out | apply below_alloc | apply pw_below_drewN | apply below_drew1 | refine below_set ?_ GE496.out) | exact HB.out)⟩
          ·rw [if_neg c95] at H
           have c95b0 : decide ((x5_2.length : Int) ≤ x3_2) = false := decide_eq_false c95
           clear c95
           obtain rfl := Option.some.inj H
           obtain ⟨hcz106_0, hcz106_1, hcz106_2, hcz106_3, hcz106_4, hcz106_5, hcz106_6, hfz106_0, hfz106_1, hfz106_2, hfz106_3, hfz106_4, hfz106_5, hfz106_6⟩ := blk7 BK496.out
           go_wp2_with (first | ((with_reducible refine gate_callee (f := 19) rfl ?_); refine goesL_ (some 71) rfl rfl Try.func19 (by kernel_rfl) rfl #[.agg #[.int .i64 a0_0, .string a0_1, .int .u32 a0_2, .int .i64 a0_3, .string a0_4, .slice A0_5 l0_5.length c0_5, .int .i64 a0_6]] rfl (by (try simp only [List.map_toArray, List.map_cons, List.map_nil]); first | done | rfl | (simp only [List.length_drop, List.length_take]; rfl)) ?_; (with_reducible refine (tree_Count.calls k2 a0_0 a0_1 a0_2 a0_3 a0_4 _ _ l0_5 a0_6 t529 _ ?side1 ?side2 A88.out).mono ?_); (case side1 => repeat (first | exact (Kd.C_below HR0_5.out HB.out) | (with_reducible refine Kd.C_alloc ?_ _) | (with_reducible refine Kd.C_drewN ?_ _) | (with_reducible refine Kd.C_drew ?_))); (case side2 => exact HC0_5.out); rintro e w107 ⟨rfl, hb⟩; refine ⟨_, rfl, ?_⟩; replace HO_5 := Aside0.mk (Kd.R_below (by (with_reducible repeat (first | apply Kd.R_alloc | apply Kd.R_drewN | apply Kd.R_drew)); exact HO_5.out) hb); replace BK496 := Aside0.mk (blk_below (by (with_reducible repeat (first | refine blk_drewN ?_ _ | refine blk_drew ?_ | refine blk_alloc ?_ _)); exact BK496.out) hb); replace HB := Aside0.mk (below_step (by repeat (first | (with_reducible first | exact HB.out | apply below_alloc | apply pw_below_drewN | apply below_drew1 | refine below_set ?_ GE496.out) | exact HB.out)) hb); (try clear hb); (try clear hb2); (try clear hk); (try clear hi); obtain ⟨hcz108_0, hcz108_1, hcz108_2, hcz108_3, hcz108_4, hcz108_5, hcz108_6, hfz108_0, hfz108_1, hfz108_2, hfz108_3, hfz108_4, hfz108_5, hfz108_6⟩ := blk7 BK496.out) | (go_at_call 21; (with_reducible refine (tree_Depth.calls k2 a0_0 a0_1 a0_2 a0_3 a0_4 _ _ l0_5 a0_6 t530 _ ?side1 ?side2 A90.out).mono ?_); (case side1 => repeat (first | exact (Kd.C_below HR0_5.out HB.out) | (with_reducible refine Kd.C_alloc ?_ _) | (with_reducible refine Kd.C_drewN ?_ _) | (with_reducible refine Kd.C_drew ?_))); (case side2 => exact HC0_5.out); rintro e w109 ⟨rfl, hb⟩; replace HO_5 := Aside0.mk (Kd.R_below (by (with_reducible repeat (first | apply Kd.R_alloc | apply Kd.R_drewN | apply Kd.R_drew)); exact HO_5.out) hb); replace BK496 := Aside0.mk (blk_below (by (with_reducible repeat (first | refine blk_drewN ?_ _ | refine blk_drew ?_ | refine blk_alloc ?_ _)); exact BK496.out) hb); replace HB := Aside0.mk (below_step (by repeat (first | (with_reducible first | exact HB.out | apply below_alloc | apply pw_below_drewN | apply below_drew1 | refine below_set ?_ GE496.out) | exact HB.out)) hb); (try clear hb); (try clear hb2); (try clear hk); (try clear hi); obtain ⟨hcz110_0, hcz110_1, hcz110_2, hcz110_3, hcz110_4, hcz110_5, hcz110_6, hfz110_0, hfz110_1, hfz110_2, hfz110_3, hfz110_4, hfz110_5, hfz110_6⟩ := blk7 BK496.out) | (go_at_call 25; (with_reducible refine (tree_Names.calls k2 a0_0 a0_1 a0_2 a0_3 a0_4 _ _ l0_5 a0_6 t531 _ ?side1 ?side2 A92.out).mono ?_); (case side1 => repeat (first | exact (Kd.C_below HR0_5.out HB.out) | (with_reducible refine Kd.C_alloc ?_ _) | (with_reducible refine Kd.C_drewN ?_ _) | (with_reducible refine Kd.C_drew ?_))); (case side2 => exact HC0_5.out); rintro e w111 ⟨v532, rfl, ho0, hb⟩; have HO533 := Aside0.mk (Kd.R_lower (Kd.R_new' ho0 (Kd.R_lt (by (with_reducible repeat (first | apply Kd.R_alloc | apply Kd.R_drewN | apply Kd.R_drew)); exact HO_5.out))) (below_size (by repeat (first | (with_reducible first | exact HB.out | apply below_alloc | apply pw_below_drewN | apply below_drew1 | refine below_set ?_ GE496.out) | exact HB.out)))); replace HO_5 := Aside0.mk (Kd.R_elder' (by (with_reducible repeat (first | apply Kd.R_alloc | apply Kd.R_drewN | apply Kd.R_drew)); exact HO_5.out) (Kd.R_base ho0) hb); replace BK496 := Aside0.mk (blk_below (by (with_reducible repeat (first | refine blk_drewN ?_ _ | refine blk_drew ?_ | refine blk_alloc ?_ _)); exact BK496.out) hb); replace HB := Aside0.mk (below_step (by repeat (first | (with_reducible first | exact HB.out | apply below_alloc | apply pw_below_drewN | apply below_drew1 | refine below_set ?_ GE496.out) | exact HB.out)) hb); (try clear hb); (try clear hb2); (try clear hk); (try clear hi); (try clear ho0); obtain ⟨Ao112, co112, eo112⟩ := Kd.R_slice HO533.out; subst eo112; obtain ⟨Ao113, co113, eo113⟩ := Kd.R_slice HO_5.out; subst eo113) | (go_at_call 24; (with_reducible refine (lathelaw07_sameTexts.calls k2 _ _ t531 _ _ x5_2 true _ ?side1 ?side2 ?side3 ?side4 A93.out).mono ?_); (case side1 => repeat (first | exact (Kd.R_reads' HO533.out).2.2 | (with_reducible refine Kd.C_alloc ?_ _) | (with_reducible refine Kd.C_drewN ?_ _) | (with_reducible refine Kd.C_drew ?_))); (case side2 => exact (Kd.R_reads' HO533.out).2.1); (case side3 => repeat (first | exact (Kd.R_reads' HO_5.out).2.2 | (with_reducible refine Kd.C_alloc ?_ _) | (with_reducible refine Kd.C_drewN ?_ _) | (with_reducible refine Kd.C_drew ?_))); (case side4 => exact (Kd.R_reads' HO_5.out).2.1); rintro e w' ⟨rfl, ⟨nd, rfl⟩⟩))
           go_ret
           exact ⟨by first | rfl | (simp [errW_none, errW_some] <;> rfl) | (simp [*, errW_none, errW_some] <;> rfl), by repeat (first | (with_reducible first | exact HB.out | apply below_alloc | apply pw_below_drewN | apply below_drew1 | refine below_set ?_ GE496.out) | exact HB.out)⟩
         ·replace c94 := Bool.eq_false_iff.mpr c94
          subst c94
          have H1 : (some false) = some r := by rw [if_neg (show ¬ (false = true) by decide)] at H; exact H
          clear H
          have H := H1
          clear H1
          obtain rfl := Option.some.inj H
          obtain ⟨hcz114_0, hcz114_1, hcz114_2, hcz114_3, hcz114_4, hcz114_5, hcz114_6, hfz114_0, hfz114_1, hfz114_2, hfz114_3, hfz114_4, hfz114_5, hfz114_6⟩ := blk7 BK496.out
          go_wp2_with (first | ((with_reducible refine gate_callee (f := 19) rfl ?_); refine goesL_ (some 71) rfl rfl Try.func19 (by kernel_rfl) rfl #[.agg #[.int .i64 a0_0, .string a0_1, .int .u32 a0_2, .int .i64 a0_3, .string a0_4, .slice A0_5 l0_5.length c0_5, .int .i64 a0_6]] rfl (by (try simp only [List.map_toArray, List.map_cons, List.map_nil]); first | done | rfl | (simp only [List.length_drop, List.length_take]; rfl)) ?_; (with_reducible refine (tree_Count.calls k2 a0_0 a0_1 a0_2 a0_3 a0_4 _ _ l0_5 a0_6 t529 _ ?side1 ?side2 A88.out).mono ?_); (case side1 => repeat (first | exact (Kd.C_below HR0_5.out HB.out) | (with_reducible refine Kd.C_alloc ?_ _) | (with_reducible refine Kd.C_drewN ?_ _) | (with_reducible refine Kd.C_drew ?_))); (case side2 => exact HC0_5.out); rintro e w115 ⟨rfl, hb⟩; refine ⟨_, rfl, ?_⟩; replace HO_5 := Aside0.mk (Kd.R_below (by (with_reducible repeat (first | apply Kd.R_alloc | apply Kd.R_drewN | apply Kd.R_drew)); exact HO_5.out) hb); replace BK496 := Aside0.mk (blk_below (by (with_reducible repeat (first | refine blk_drewN ?_ _ | refine blk_drew ?_ | refine blk_alloc ?_ _)); exact BK496.out) hb); replace HB := Aside0.mk (below_step (by repeat (first | (with_reducible first | exact HB.out | apply below_alloc | apply pw_below_drewN | apply below_drew1 | refine below_set ?_ GE496.out) | exact HB.out)) hb); (try clear hb); (try clear hb2); (try clear hk); (try clear hi); obtain ⟨hcz116_0, hcz116_1, hcz116_2, hcz116_3, hcz116_4, hcz116_5, hcz116_6, hfz116_0, hfz116_1, hfz116_2, hfz116_3, hfz116_4, hfz116_5, hfz116_6⟩ := blk7 BK496.out) | (go_at_call 21; (with_reducible refine (tree_Depth.calls k2 a0_0 a0_1 a0_2 a0_3 a0_4 _ _ l0_5 a0_6 t530 _ ?side1 ?side2 A90.out).mono ?_); (case side1 => repeat (first | exact (Kd.C_below HR0_5.out HB.out) | (with_reducible refine Kd.C_alloc ?_ _) | (with_reducible refine Kd.C_drewN ?_ _) | (with_reducible refine Kd.C_drew ?_))); (case side2 => exact HC0_5.out); rintro e w117 ⟨rfl, hb⟩; replace HO_5 := Aside0.mk (Kd.R_below (by (with_reducible repeat (first | apply Kd.R_alloc | apply Kd.R_drewN | apply Kd.R_drew)); exact HO_5.out) hb); replace BK496 := Aside0.mk (blk_below (by (with_reducible repeat (first | refine blk_drewN ?_ _ | refine blk_drew ?_ | refine blk_alloc ?_ _)); exact BK496.out) hb); replace HB := Aside0.mk (below_step (by repeat (first | (with_reducible first | exact HB.out | apply below_alloc | apply pw_below_drewN | apply below_drew1 | refine below_set ?_ GE496.out) | exact HB.out)) hb); (try clear hb); (try clear hb2); (try clear hk); (try clear hi); obtain ⟨hcz118_0, hcz118_1, hcz118_2, hcz118_3, hcz118_4, hcz118_5, hcz118_6, hfz118_0, hfz118_1, hfz118_2, hfz118_3, hfz118_4, hfz118_5, hfz118_6⟩ := blk7 BK496.out) | (go_at_call 25; (with_reducible refine (tree_Names.calls k2 a0_0 a0_1 a0_2 a0_3 a0_4 _ _ l0_5 a0_6 t531 _ ?side1 ?side2 A92.out).mono ?_); (case side1 => repeat (first | exact (Kd.C_below HR0_5.out HB.out) | (with_reducible refine Kd.C_alloc ?_ _) | (with_reducible refine Kd.C_drewN ?_ _) | (with_reducible refine Kd.C_drew ?_))); (case side2 => exact HC0_5.out); rintro e w119 ⟨v532, rfl, ho0, hb⟩; have HO533 := Aside0.mk (Kd.R_lower (Kd.R_new' ho0 (Kd.R_lt (by (with_reducible repeat (first | apply Kd.R_alloc | apply Kd.R_drewN | apply Kd.R_drew)); exact HO_5.out))) (below_size (by repeat (first | (with_reducible first | exact HB.out | apply below_alloc | apply pw_below_drewN | apply below_drew1 | refine below_set ?_ GE496.out) | exact HB.out)))); replace HO_5 := Aside0.mk (Kd.R_elder' (by (with_reducible repeat (first | apply Kd.R_alloc | apply Kd.R_drewN | apply Kd.R_drew)); exact HO_5.out) (Kd.R_base ho0) hb); replace BK496 := Aside0.mk (blk_below (by (with_reducible repeat (first | refine blk_drewN ?_ _ | refine blk_drew ?_ | refine blk_alloc ?_ _)); exact BK496.out) hb); replace HB := Aside0.mk (below_step (by repeat (first | (with_reducible first | exact HB.out | apply below_alloc | apply pw_below_drewN | apply below_drew1 | refine below_set ?_ GE496.out) | exact HB.out)) hb); (try clear hb); (try clear hb2); (try clear hk); (try clear hi); (try clear ho0); obtain ⟨Ao120, co120, eo120⟩ := Kd.R_slice HO533.out; subst eo120; obtain ⟨Ao121, co121, eo121⟩ := Kd.R_slice HO_5.out; subst eo121) | (go_at_call 24; (with_reducible refine (lathelaw07_sameTexts.calls k2 _ _ t531 _ _ x5_2 false _ ?side1 ?side2 ?side3 ?side4 A93.out).mono ?_); (case side1 => repeat (first | exact (Kd.R_reads' HO533.out).2.2 | (with_reducible refine Kd.C_alloc ?_ _) | (with_reducible refine Kd.C_drewN ?_ _) | (with_reducible refine Kd.C_drew ?_))); (case side2 => exact (Kd.R_reads' HO533.out).2.1); (case side3 => repeat (first | exact (Kd.R_reads' HO_5.out).2.2 | (with_reducible refine Kd.C_alloc ?_ _) | (with_reducible refine Kd.C_drewN ?_ _) | (with_reducible refine Kd.C_drew ?_))); (case side4 => exact (Kd.R_reads' HO_5.out).2.1); rintro e w' ⟨rfl, ⟨nd, rfl⟩⟩))
          go_ret
          exact ⟨by first | rfl | (simp [errW_none, errW_some] <;> rfl) | (simp [*, errW_none, errW_some] <;> rfl), by repeat (first | (with_reducible first | exact HB.out | apply below_alloc | apply pw_below_drewN | apply below_drew1 | refine below_set ?_ GE496.out) | exact HB.out)⟩
        ·rw [if_neg c91] at H
         have c91b0 : (t530 == (wrap64 (x4_2 + 1))) = false := beq_eq_false_iff_ne.mpr c91
         have c91b1 : (t530 != (wrap64 (x4_2 + 1))) = true := bne_iff_ne.mpr c91
         obtain rfl := Option.some.inj H
         obtain ⟨hcz122_0, hcz122_1, hcz122_2, hcz122_3, hcz122_4, hcz122_5, hcz122_6, hfz122_0, hfz122_1, hfz122_2, hfz122_3, hfz122_4, hfz122_5, hfz122_6⟩ := blk7 BK496.out
         go_wp2_with (first | ((with_reducible refine gate_callee (f := 19) rfl ?_); refine goesL_ (some 71) rfl rfl Try.func19 (by kernel_rfl) rfl #[.agg #[.int .i64 a0_0, .string a0_1, .int .u32 a0_2, .int .i64 a0_3, .string a0_4, .slice A0_5 l0_5.length c0_5, .int .i64 a0_6]] rfl (by (try simp only [List.map_toArray, List.map_cons, List.map_nil]); first | done | rfl | (simp only [List.length_drop, List.length_take]; rfl)) ?_; (with_reducible refine (tree_Count.calls k2 a0_0 a0_1 a0_2 a0_3 a0_4 _ _ l0_5 a0_6 t529 _ ?side1 ?side2 A88.out).mono ?_); (case side1 => repeat (first | exact (Kd.C_below HR0_5.out HB.out) | (with_reducible refine Kd.C_alloc ?_ _) | (with_reducible refine Kd.C_drewN ?_ _) | (with_reducible refine Kd.C_drew ?_))); (case side2 => exact HC0_5.out); rintro e w123 ⟨rfl, hb⟩; refine ⟨_, rfl, ?_⟩; replace HO_5 := Aside0.mk (Kd.R_below (by (with_reducible repeat (first | apply Kd.R_alloc | apply Kd.R_drewN | apply Kd.R_drew)); exact HO_5.out) hb); replace BK496 := Aside0.mk (blk_below (by (with_reducible repeat (first | refine blk_drewN ?_ _ | refine blk_drew ?_ | refine blk_alloc ?_ _)); exact BK496.out) hb); replace HB := Aside0.mk (below_step (by repeat (first | (with_reducible first | exact HB.out | apply below_alloc | apply pw_below_drewN | apply below_drew1 | refine below_set ?_ GE496.out) | exact HB.out)) hb); (try clear hb); (try clear hb2); (try clear hk); (try clear hi); obtain ⟨hcz124_0, hcz124_1, hcz124_2, hcz124_3, hcz124_4, hcz124_5, hcz124_6, hfz124_0, hfz124_1, hfz124_2, hfz124_3, hfz124_4, hfz124_5, hfz124_6⟩ := blk7 BK496.out) | (go_at_call 21; (with_reducible refine (tree_Depth.calls k2 a0_0 a0_1 a0_2 a0_3 a0_4 _ _ l0_5 a0_6 t530 _ ?side1 ?side2 A90.out).mono ?_); (case side1 => repeat (first | exact (Kd.C_below HR0_5.out HB.out) | (with_reducible refine Kd.C_alloc ?_ _) | (with_reducible refine Kd.C_drewN ?_ _) | (with_reducible refine Kd.C_drew ?_))); (case side2 => exact HC0_5.out); rintro e w125 ⟨rfl, hb⟩; replace HO_5 := Aside0.mk (Kd.R_below (by (with_reducible repeat (first | apply Kd.R_alloc | apply Kd.R_drewN | apply Kd.R_drew)); exact HO_5.out) hb); replace BK496 := Aside0.mk (blk_below (by (with_reducible repeat (first | refine blk_drewN ?_ _ | refine blk_drew ?_ | refine blk_alloc ?_ _)); exact BK496.out) hb); replace HB := Aside0.mk (below_step (by repeat (first | (with_reducible first | exact HB.out | apply below_alloc | apply pw_below_drewN | apply below_drew1 | refine below_set ?_ GE496.out) | exact HB.out)) hb); (try clear hb); (try clear hb2); (try clear hk); (try clear hi)))
         go_ret
         exact ⟨by first | rfl | (simp [errW_none, errW_some] <;> rfl) | (simp [*, errW_none, errW_some] <;> rfl), by repeat (first | (with_reducible first | exact HB.out | apply below_alloc | apply pw_below_drewN | apply below_drew1 | refine below_set ?_ GE496.out) | exact HB.out)⟩
       ·rw [if_neg c89] at H
        have c89b0 : (t529 == x3_2) = false := beq_eq_false_iff_ne.mpr c89
        have c89b1 : (t529 != x3_2) = true := bne_iff_ne.mpr c89
        obtain rfl := Option.some.inj H
        obtain ⟨hcz126_0, hcz126_1, hcz126_2, hcz126_3, hcz126_4, hcz126_5, hcz126_6, hfz126_0, hfz126_1, hfz126_2, hfz126_3, hfz126_4, hfz126_5, hfz126_6⟩ := blk7 BK496.out
        go_wp2_with (first | ((with_reducible refine gate_callee (f := 19) rfl ?_); refine goesL_ (some 71) rfl rfl Try.func19 (by kernel_rfl) rfl #[.agg #[.int .i64 a0_0, .string a0_1, .int .u32 a0_2, .int .i64 a0_3, .string a0_4, .slice A0_5 l0_5.length c0_5, .int .i64 a0_6]] rfl (by (try simp only [List.map_toArray, List.map_cons, List.map_nil]); first | done | rfl | (simp only [List.length_drop, List.length_take]; rfl)) ?_; (with_reducible refine (tree_Count.calls k2 a0_0 a0_1 a0_2 a0_3 a0_4 _ _ l0_5 a0_6 t529 _ ?side1 ?side2 A88.out).mono ?_); (case side1 => repeat (first | exact (Kd.C_below HR0_5.out HB.out) | (with_reducible refine Kd.C_alloc ?_ _) | (with_reducible refine Kd.C_drewN ?_ _) | (with_reducible refine Kd.C_drew ?_))); (case side2 => exact HC0_5.out); rintro e w127 ⟨rfl, hb⟩; refine ⟨_, rfl, ?_⟩; replace HO_5 := Aside0.mk (Kd.R_below (by (with_reducible repeat (first | apply Kd.R_alloc | apply Kd.R_drewN | apply Kd.R_drew)); exact HO_5.out) hb); replace BK496 := Aside0.mk (blk_below (by (with_reducible repeat (first | refine blk_drewN ?_ _ | refine blk_drew ?_ | refine blk_alloc ?_ _)); exact BK496.out) hb); replace HB := Aside0.mk (below_step (by repeat (first | (with_reducible first | exact HB.out | apply below_alloc | apply pw_below_drewN | apply below_drew1 | refine below_set ?_ GE496.out) | exact HB.out)) hb); (try clear hb); (try clear hb2); (try clear hk); (try clear hi)))
        go_ret
        exact ⟨by first | rfl | (simp [errW_none, errW_some] <;> rfl) | (simp [*, errW_none, errW_some] <;> rfl), by repeat (first | (with_reducible first | exact HB.out | apply below_alloc | apply pw_below_drewN | apply below_drew1 | refine below_set ?_ GE496.out) | exact HB.out)⟩

end Go.Proofs.Ytbfomjbencbmlaa.Q
