/- Lean functions with the answers of the Go functions that the law reaches, proved to be just these answers. Conditions: those that each theorem names. -/
import Derived.Test.YtmlgidffgojkhaaQx0
import Derived.Test.YtmlgidffgojkhaaQx4
import Derived.Test.YtmlgidffgojkhaaQx5
import Derived.Test.YtmlgidffgojkhaaQx6
import Derived.Test.YtmlgidffgojkhaaQx9
namespace Go.Proofs.Ytmlgidffgojkhaa.Q
open Go.RowKit Go.Proofs.YtmlgidffgojkhaaW.PrintWords Go.Proofs.YtmlgidffgojkhaaW.PrintLast Go.Proofs.YtmlgidffgojkhaaW.PrintMore
attribute [local go_sem] max2_int min2_int max_two min_two max_three min_three max_four min_four   -- for this text's walks alone
set_option linter.unusedVariables false
set_option linter.unusedSimpArgs false

/-! ### lathelaw11_MaskLaws: function 6 -/
mutual
def lathelaw11_MaskLaws.j0 : Nat → List (S45) → Bool → Int → ByteArray → Int → Int → ByteArray → List (S29) → Int → Int → ByteArray → Int → Int → ByteArray → List (S29) → Int → Option (Bool)
 | 0, _, _, _, _, _, _, _, _, _, _, _, _, _, _, _, _ => none
 | k + 1, x2, x40, x203000, x203001, x203002, x203003, x203004, x203005, x203006, x204000, x204001, x204002, x204003, x204004, x204005, x204006 => if x40 = true then ((lathelaw11_sure.f k).bind fun t206 => (some t206)) else ((mask_Set.f k x203000 x203001 x203002 x203003 x203004 x203005 x203006 x2).bind fun bt207 => ((mask_Set.f k x204000 x204001 x204002 x204003 x204004 x204005 x204006 x2).bind fun bt212 => (if bt207.2.1 = 0 then (if bt212.2.1 = 0 then ((latheref07_Depth.f k x203000 x203001 x203002 x203003 x203004 x203005 x203006).bind fun t217 => (if t217 > 60 then (lathelaw11_MaskLaws.j1 k x2 bt207.1 bt212.1 true x203000 x203001 x203002 x203003 x203004 x203005 x203006 x204000 x204001 x204002 x204003 x204004 x204005 x204006) else ((latheref07_Depth.f k x204000 x204001 x204002 x204003 x204004 x204005 x204006).bind fun t218 => (lathelaw11_MaskLaws.j1 k x2 bt207.1 bt212.1 (decide (t218 > 60)) x203000 x203001 x203002 x203003 x203004 x203005 x203006 x204000 x204001 x204002 x204003 x204004 x204005 x204006)))) else (lathelaw11_MaskLaws.j1 k x2 bt207.1 bt212.1 true x203000 x203001 x203002 x203003 x203004 x203005 x203006 x204000 x204001 x204002 x204003 x204004 x204005 x204006)) else (lathelaw11_MaskLaws.j1 k x2 bt207.1 bt212.1 true x203000 x203001 x203002 x203003 x203004 x203005 x203006 x204000 x204001 x204002 x204003 x204004 x204005 x204006))))
def lathelaw11_MaskLaws.j1 : Nat → List (S45) → List Int → List Int → Bool → Int → ByteArray → Int → Int → ByteArray → List (S29) → Int → Int → ByteArray → Int → Int → ByteArray → List (S29) → Int → Option (Bool)
 | 0, _, _, _, _, _, _, _, _, _, _, _, _, _, _, _, _, _, _ => none
 | k + 1, x2, x7, x10, x71, x203000, x203001, x203002, x203003, x203004, x203005, x203006, x204000, x204001, x204002, x204003, x204004, x204005, x204006 => if x71 = true then ((lathelaw11_sure.f k).bind fun t219 => (some t219)) else ((lathelaw11_call.f k (⟨#[110, 111, 116]⟩ : ByteArray) (([(⟨x203000, x203001, x203002, x203003, x203004, x203005, x203006⟩ : S29)] : List (S29)))).bind fun bt223 => ((mask_Set.f k bt223.1 bt223.2.1 bt223.2.2.1 bt223.2.2.2.1 bt223.2.2.2.2.1 bt223.2.2.2.2.2.1 bt223.2.2.2.2.2.2 x2).bind fun bt232 => ((lathelaw11_call.f k (⟨#[110, 111, 116]⟩ : ByteArray) (([(⟨x203000, x203001, x203002, x203003, x203004, x203005, x203006⟩ : S29)] : List (S29)))).bind fun bt240 => ((lathelaw11_call.f k (⟨#[110, 111, 116]⟩ : ByteArray) (([(⟨bt240.1, bt240.2.1, bt240.2.2.1, bt240.2.2.2.1, bt240.2.2.2.2.1, bt240.2.2.2.2.2.1, bt240.2.2.2.2.2.2⟩ : S29)] : List (S29)))).bind fun bt252 => ((mask_Set.f k bt252.1 bt252.2.1 bt252.2.2.1 bt252.2.2.2.1 bt252.2.2.2.2.1 bt252.2.2.2.2.2.1 bt252.2.2.2.2.2.2 x2).bind fun bt261 => ((lathelaw11_call.f k (⟨#[97, 110, 100]⟩ : ByteArray) (([(⟨x203000, x203001, x203002, x203003, x203004, x203005, x203006⟩ : S29), (⟨x204000, x204001, x204002, x204003, x204004, x204005, x204006⟩ : S29)] : List (S29)))).bind fun bt269 => ((lathelaw11_call.f k (⟨#[110, 111, 116]⟩ : ByteArray) (([(⟨bt269.1, bt269.2.1, bt269.2.2.1, bt269.2.2.2.1, bt269.2.2.2.2.1, bt269.2.2.2.2.2.1, bt269.2.2.2.2.2.2⟩ : S29)] : List (S29)))).bind fun bt281 => ((mask_Set.f k bt281.1 bt281.2.1 bt281.2.2.1 bt281.2.2.2.1 bt281.2.2.2.2.1 bt281.2.2.2.2.2.1 bt281.2.2.2.2.2.2 x2).bind fun bt290 => ((lathelaw11_call.f k (⟨#[110, 111, 116]⟩ : ByteArray) (([(⟨x203000, x203001, x203002, x203003, x203004, x203005, x203006⟩ : S29)] : List (S29)))).bind fun bt298 => ((lathelaw11_call.f k (⟨#[110, 111, 116]⟩ : ByteArray) (([(⟨x204000, x204001, x204002, x204003, x204004, x204005, x204006⟩ : S29)] : List (S29)))).bind fun bt310 => ((lathelaw11_call.f k (⟨#[111, 114]⟩ : ByteArray) (([(⟨bt298.1, bt298.2.1, bt298.2.2.1, bt298.2.2.2.1, bt298.2.2.2.2.1, bt298.2.2.2.2.2.1, bt298.2.2.2.2.2.2⟩ : S29), (⟨bt310.1, bt310.2.1, bt310.2.2.1, bt310.2.2.2.1, bt310.2.2.2.2.1, bt310.2.2.2.2.2.1, bt310.2.2.2.2.2.2⟩ : S29)] : List (S29)))).bind fun bt322 => ((mask_Set.f k bt322.1 bt322.2.1 bt322.2.2.1 bt322.2.2.2.1 bt322.2.2.2.2.1 bt322.2.2.2.2.2.1 bt322.2.2.2.2.2.2 x2).bind fun bt331 => ((lathelaw11_call.f k (⟨#[97, 110, 100]⟩ : ByteArray) (([(⟨x203000, x203001, x203002, x203003, x203004, x203005, x203006⟩ : S29), (⟨x204000, x204001, x204002, x204003, x204004, x204005, x204006⟩ : S29)] : List (S29)))).bind fun bt339 => ((mask_Set.f k bt339.1 bt339.2.1 bt339.2.2.1 bt339.2.2.2.1 bt339.2.2.2.2.1 bt339.2.2.2.2.2.1 bt339.2.2.2.2.2.2 x2).bind fun bt348 => ((lathelaw11_call.f k (⟨#[111, 114]⟩ : ByteArray) (([(⟨x203000, x203001, x203002, x203003, x203004, x203005, x203006⟩ : S29), (⟨x204000, x204001, x204002, x204003, x204004, x204005, x204006⟩ : S29)] : List (S29)))).bind fun bt356 => ((mask_Set.f k bt356.1 bt356.2.1 bt356.2.2.1 bt356.2.2.2.1 bt356.2.2.2.2.1 bt356.2.2.2.2.2.1 bt356.2.2.2.2.2.2 x2).bind fun bt365 => ((lathelaw11_same.f k x7 bt261.1).bind fun t370 => (if t370 = true then ((lathelaw11_same.f k bt290.1 bt331.1).bind fun t371 => (if t371 = true then (if (wrap64 ((bt348.1.length : Int) + (bt365.1.length : Int))) = (wrap64 ((x7.length : Int) + (x10.length : Int))) then (lathelaw11_MaskLaws.j2 k x2 x7 bt232.1 ((wrap64 ((x7.length : Int) + (bt232.1.length : Int))) != (x2.length : Int))) else (lathelaw11_MaskLaws.j2 k x2 x7 bt232.1 true)) else (lathelaw11_MaskLaws.j2 k x2 x7 bt232.1 true))) else (lathelaw11_MaskLaws.j2 k x2 x7 bt232.1 true)))))))))))))))))))
def lathelaw11_MaskLaws.j2 : Nat → List (S45) → List Int → List Int → Bool → Option (Bool)
 | 0, _, _, _, _ => none
 | k + 1, x2, x7, x13, x171 => if x171 = true then (some false) else (lathelaw11_MaskLaws.l0 k x2 x7 x13 0)
def lathelaw11_MaskLaws.l0 : Nat → List (S45) → List Int → List Int → Int → Option (Bool)
 | 0, _, _, _, _ => none
 | k + 1, x2, x7, x13, x31 => if x31 < (x2.length : Int) then (lathelaw11_MaskLaws.l1 k x2 x7 x13 x31 0 0) else ((lathelaw11_sure.f k).bind fun t372 => (some t372))
def lathelaw11_MaskLaws.l1 : Nat → List (S45) → List Int → List Int → Int → Int → Int → Option (Bool)
 | 0, _, _, _, _, _, _ => none
 | k + 1, x2, x7, x13, x31, x32, x33 => if x33 < (x7.length : Int) then (if 0 ≤ x33 then (if (rd x7 x33) = x31 then (lathelaw11_MaskLaws.l1 k x2 x7 x13 x31 (wrap64 (x32 + 1)) (wrap64 (x33 + 1))) else (lathelaw11_MaskLaws.l1 k x2 x7 x13 x31 x32 (wrap64 (x33 + 1)))) else (none)) else (lathelaw11_MaskLaws.l2 k x2 x7 x13 x31 x32 0)
def lathelaw11_MaskLaws.l2 : Nat → List (S45) → List Int → List Int → Int → Int → Int → Option (Bool)
 | 0, _, _, _, _, _, _ => none
 | k + 1, x2, x7, x13, x31, x32, x34 => if x34 < (x13.length : Int) then (if 0 ≤ x34 then (if (rd x13 x34) = x31 then (lathelaw11_MaskLaws.l2 k x2 x7 x13 x31 (wrap64 (x32 + 1)) (wrap64 (x34 + 1))) else (lathelaw11_MaskLaws.l2 k x2 x7 x13 x31 x32 (wrap64 (x34 + 1)))) else (none)) else (if x32 = 1 then (lathelaw11_MaskLaws.l0 k x2 x7 x13 (wrap64 (x31 + 1))) else (some false))
end
def lathelaw11_MaskLaws.f (k : Nat) (a0_0 : Int) (a0_1 : ByteArray) (a0_2 : Int) (a0_3 : Int) (a0_4 : ByteArray) (l0_5 : List (S29)) (a0_6 : Int) (a1_0 : Int) (a1_1 : ByteArray) (a1_2 : Int) (a1_3 : Int) (a1_4 : ByteArray) (l1_5 : List (S29)) (a1_6 : Int) (l2 : List (S45)) : Option (Bool) := (lathelaw11_big.f k a0_0 a0_1 a0_2 a0_3 a0_4 l0_5 a0_6).bind fun t204 => (if t204 = true then (lathelaw11_MaskLaws.j0 k l2 true a0_0 a0_1 a0_2 a0_3 a0_4 l0_5 a0_6 a1_0 a1_1 a1_2 a1_3 a1_4 l1_5 a1_6) else ((lathelaw11_big.f k a1_0 a1_1 a1_2 a1_3 a1_4 l1_5 a1_6).bind fun t205 => (lathelaw11_MaskLaws.j0 k l2 t205 a0_0 a0_1 a0_2 a0_3 a0_4 l0_5 a0_6 a1_0 a1_1 a1_2 a1_3 a1_4 l1_5 a1_6)))
theorem lathelaw11_MaskLaws.mono_l : ∀ k, (∀ y0 y1 y2 y3 y4 y5 y6 y7 y8 y9 y10 y11 y12 y13 y14 y15, LeO (lathelaw11_MaskLaws.j0 k y0 y1 y2 y3 y4 y5 y6 y7 y8 y9 y10 y11 y12 y13 y14 y15) (lathelaw11_MaskLaws.j0 (k + 1) y0 y1 y2 y3 y4 y5 y6 y7 y8 y9 y10 y11 y12 y13 y14 y15)) ∧ (∀ y0 y1 y2 y3 y4 y5 y6 y7 y8 y9 y10 y11 y12 y13 y14 y15 y16 y17, LeO (lathelaw11_MaskLaws.j1 k y0 y1 y2 y3 y4 y5 y6 y7 y8 y9 y10 y11 y12 y13 y14 y15 y16 y17) (lathelaw11_MaskLaws.j1 (k + 1) y0 y1 y2 y3 y4 y5 y6 y7 y8 y9 y10 y11 y12 y13 y14 y15 y16 y17)) ∧ (∀ y0 y1 y2 y3, LeO (lathelaw11_MaskLaws.j2 k y0 y1 y2 y3) (lathelaw11_MaskLaws.j2 (k + 1) y0 y1 y2 y3)) ∧ (∀ y0 y1 y2 y3, LeO (lathelaw11_MaskLaws.l0 k y0 y1 y2 y3) (lathelaw11_MaskLaws.l0 (k + 1) y0 y1 y2 y3)) ∧ (∀ y0 y1 y2 y3 y4 y5, LeO (lathelaw11_MaskLaws.l1 k y0 y1 y2 y3 y4 y5) (lathelaw11_MaskLaws.l1 (k + 1) y0 y1 y2 y3 y4 y5)) ∧ (∀ y0 y1 y2 y3 y4 y5, LeO (lathelaw11_MaskLaws.l2 k y0 y1 y2 y3 y4 y5) (lathelaw11_MaskLaws.l2 (k + 1) y0 y1 y2 y3 y4 y5))
 | 0 => ⟨fun _ _ _ _ _ _ _ _ _ _ _ _ _ _ _ _ r h => by simp [lathelaw11_MaskLaws.j0] at h, fun _ _ _ _ _ _ _ _ _ _ _ _ _ _ _ _ _ _ r h => by simp [lathelaw11_MaskLaws.j1] at h, fun _ _ _ _ r h => by simp [lathelaw11_MaskLaws.j2] at h, fun _ _ _ _ r h => by simp [lathelaw11_MaskLaws.l0] at h, fun _ _ _ _ _ _ r h => by simp [lathelaw11_MaskLaws.l1] at h, fun _ _ _ _ _ _ r h => by simp [lathelaw11_MaskLaws.l2] at h⟩
 | k + 1 => by
  obtain ⟨ih0, ih1, ih2, ih3, ih4, ih5⟩ := lathelaw11_MaskLaws.mono_l k
  refine ⟨?_, ?_, ?_, ?_, ?_, ?_⟩
  ·intro y0 y1 y2 y3 y4 y5 y6 y7 y8 y9 y10 y11 y12 y13 y14 y15
   unfold lathelaw11_MaskLaws.j0
   repeat' first
   | (with_reducible exact ih0 _ _ _ _ _ _ _ _ _ _ _ _ _ _ _ _)
   | (with_reducible exact ih1 _ _ _ _ _ _ _ _ _ _ _ _ _ _ _ _ _ _)
   | (with_reducible exact ih2 _ _ _ _)
   | (with_reducible exact ih3 _ _ _ _)
   | (with_reducible exact ih4 _ _ _ _ _ _)
   | (with_reducible exact ih5 _ _ _ _ _ _)
   | (with_reducible exact lathelaw11_big.mono _ _ _ _ _ _ _ _)
   | (with_reducible exact lathelaw11_call.mono _ _ _)
   | (with_reducible exact lathelaw11_same.mono _ _ _)
   | (with_reducible exact lathelaw11_sure.mono _)
   | (with_reducible exact latheref07_Depth.mono _ _ _ _ _ _ _ _)
   | (with_reducible exact mask_Set.mono _ _ _ _ _ _ _ _ _)
   | (with_reducible exact LeO.refl _)
   | (with_reducible exact LeO.none _)
   | (with_reducible refine LeO.ite ?_ ?_)
   | (with_reducible refine LeO.bind ?_ (fun _ => ?_))
   | exact LeO.none _
   | refine LeO.ite ?_ ?_
   | refine LeO.bind ?_ (fun _ => ?_)
  ·intro y0 y1 y2 y3 y4 y5 y6 y7 y8 y9 y10 y11 y12 y13 y14 y15 y16 y17
   unfold lathelaw11_MaskLaws.j1
   repeat' first
   | (with_reducible exact ih0 _ _ _ _ _ _ _ _ _ _ _ _ _ _ _ _)
   | (with_reducible exact ih1 _ _ _ _ _ _ _ _ _ _ _ _ _ _ _ _ _ _)
   | (with_reducible exact ih2 _ _ _ _)
   | (with_reducible exact ih3 _ _ _ _)
   | (with_reducible exact ih4 _ _ _ _ _ _)
   | (with_reducible exact ih5 _ _ _ _ _ _)
   | (with_reducible exact lathelaw11_big.mono _ _ _ _ _ _ _ _)
   | (with_reducible exact lathelaw11_call.mono _ _ _)
   | (with_reducible exact lathelaw11_same.mono _ _ _)
   | (with_reducible exact lathelaw11_sure.mono _)
   | (with_reducible exact latheref07_Depth.mono _ _ _ _ _ _ _ _)
   | (with_reducible exact mask_Set.mono _ _ _ _ _ _ _ _ _)
   | (with_reducible exact LeO.refl _)
   | (with_reducible exact LeO.none _)
   | (with_reducible refine LeO.ite ?_ ?_)
   | (with_reducible refine LeO.bind ?_ (fun _ => ?_))
   | exact LeO.none _
   | refine LeO.ite ?_ ?_
   | refine LeO.bind ?_ (fun _ => ?_)
  ·intro y0 y1 y2 y3
   unfold lathelaw11_MaskLaws.j2
   repeat' first
   | (with_reducible exact ih0 _ _ _ _ _ _ _ _ _ _ _ _ _ _ _ _)
   | (with_reducible exact ih1 _ _ _ _ _ _ _ _ _ _ _ _ _ _ _ _ _ _)
   | (with_reducible exact ih2 _ _ _ _)
   | (with_reducible exact ih3 _ _ _ _)
   | (with_reducible exact ih4 _ _ _ _ _ _)
   | (with_reducible exact ih5 _ _ _ _ _ _)
   | (with_reducible exact lathelaw11_big.mono _ _ _ _ _ _ _ _)
   | (with_reducible exact lathelaw11_call.mono _ _ _)
   | (with_reducible exact lathelaw11_same.mono _ _ _)
   | (with_reducible exact lathelaw11_sure.mono _)
   | (with_reducible exact latheref07_Depth.mono _ _ _ _ _ _ _ _)
   | (with_reducible exact mask_Set.mono _ _ _ _ _ _ _ _ _)
   | (with_reducible exact LeO.refl _)
   | (with_reducible exact LeO.none _)
   | (with_reducible refine LeO.ite ?_ ?_)
   | (with_reducible refine LeO.bind ?_ (fun _ => ?_))
   | exact LeO.none _
   | refine LeO.ite ?_ ?_
   | refine LeO.bind ?_ (fun _ => ?_)
  ·intro y0 y1 y2 y3
   unfold lathelaw11_MaskLaws.l0
   repeat' first
   | (with_reducible exact ih0 _ _ _ _ _ _ _ _ _ _ _ _ _ _ _ _)
   | (with_reducible exact ih1 _ _ _ _ _ _ _ _ _ _ _ _ _ _ _ _ _ _)
   | (with_reducible exact ih2 _ _ _ _)
   | (with_reducible exact ih3 _ _ _ _)
   | (with_reducible exact ih4 _ _ _ _ _ _)
   | (with_reducible exact ih5 _ _ _ _ _ _)
   | (with_reducible exact lathelaw11_big.mono _ _ _ _ _ _ _ _)
   | (with_reducible exact lathelaw11_call.mono _ _ _)
   | (with_reducible exact lathelaw11_same.mono _ _ _)
   | (with_reducible exact lathelaw11_sure.mono _)
   | (with_reducible exact latheref07_Depth.mono _ _ _ _ _ _ _ _)
   | (with_reducible exact mask_Set.mono _ _ _ _ _ _ _ _ _)
   | (with_reducible exact LeO.refl _)
   | (with_reducible exact LeO.none _)
   | (with_reducible refine LeO.ite ?_ ?_)
   | (with_reducible refine LeO.bind ?_ (fun _ => ?_))
   | exact LeO.none _
   | refine LeO.ite ?_ ?_
   | refine LeO.bind ?_ (fun _ => ?_)
  ·intro y0 y1 y2 y3 y4 y5
   unfold lathelaw11_MaskLaws.l1
   repeat' first
   | (with_reducible exact ih0 _ _ _ _ _ _ _ _ _ _ _ _ _ _ _ _)
   | (with_reducible exact ih1 _ _ _ _ _ _ _ _ _ _ _ _ _ _ _ _ _ _)
   | (with_reducible exact ih2 _ _ _ _)
   | (with_reducible exact ih3 _ _ _ _)
   | (with_reducible exact ih4 _ _ _ _ _ _)
   | (with_reducible exact ih5 _ _ _ _ _ _)
   | (with_reducible exact lathelaw11_big.mono _ _ _ _ _ _ _ _)
   | (with_reducible exact lathelaw11_call.mono _ _ _)
   | (with_reducible exact lathelaw11_same.mono _ _ _)
   | (with_reducible exact lathelaw11_sure.mono _)
   | (with_reducible exact latheref07_Depth.mono _ _ _ _ _ _ _ _)
   | (with_reducible exact mask_Set.mono _ _ _ _ _ _ _ _ _)
   | (with_reducible exact LeO.refl _)
   | (with_reducible exact LeO.none _)
   | (with_reducible refine LeO.ite ?_ ?_)
   | (with_reducible refine LeO.bind ?_ (fun _ => ?_))
   | exact LeO.none _
   | refine LeO.ite ?_ ?_
   | refine LeO.bind ?_ (fun _ => ?_)
  ·intro y0 y1 y2 y3 y4 y5
   unfold lathelaw11_MaskLaws.l2
   repeat' first
   | (with_reducible exact ih0 _ _ _ _ _ _ _ _ _ _ _ _ _ _ _ _)
   | (with_reducible exact ih1 _ _ _ _ _ _ _ _ _ _ _ _ _ _ _ _ _ _)
   | (with_reducible exact ih2 _ _ _ _)
   | (with_reducible exact ih3 _ _ _ _)
   | (with_reducible exact ih4 _ _ _ _ _ _)
   | (with_reducible exact ih5 _ _ _ _ _ _)
   | (with_reducible exact lathelaw11_big.mono _ _ _ _ _ _ _ _)
   | (with_reducible exact lathelaw11_call.mono _ _ _)
   | (with_reducible exact lathelaw11_same.mono _ _ _)
   | (with_reducible exact lathelaw11_sure.mono _)
   | (with_reducible exact latheref07_Depth.mono _ _ _ _ _ _ _ _)
   | (with_reducible exact mask_Set.mono _ _ _ _ _ _ _ _ _)
   | (with_reducible exact LeO.refl _)
   | (with_reducible exact LeO.none _)
   | (with_reducible refine LeO.ite ?_ ?_)
   | (with_reducible refine LeO.bind ?_ (fun _ => ?_))
   | exact LeO.none _
   | refine LeO.ite ?_ ?_
   | refine LeO.bind ?_ (fun _ => ?_)
theorem lathelaw11_MaskLaws.mono : ∀ a0 a1 a2 a3 a4 a5 a6 a7 a8 a9 a10 a11 a12 a13 a14 k, LeO (lathelaw11_MaskLaws.f k a0 a1 a2 a3 a4 a5 a6 a7 a8 a9 a10 a11 a12 a13 a14) (lathelaw11_MaskLaws.f (k + 1) a0 a1 a2 a3 a4 a5 a6 a7 a8 a9 a10 a11 a12 a13 a14) := by
 intro a0 a1 a2 a3 a4 a5 a6 a7 a8 a9 a10 a11 a12 a13 a14 k
 obtain ⟨ih0, ih1, ih2, ih3, ih4, ih5⟩ := lathelaw11_MaskLaws.mono_l k
 unfold lathelaw11_MaskLaws.f
 repeat' first
   | (with_reducible exact ih0 _ _ _ _ _ _ _ _ _ _ _ _ _ _ _ _)
   | (with_reducible exact ih1 _ _ _ _ _ _ _ _ _ _ _ _ _ _ _ _ _ _)
   | (with_reducible exact ih2 _ _ _ _)
   | (with_reducible exact ih3 _ _ _ _)
   | (with_reducible exact ih4 _ _ _ _ _ _)
   | (with_reducible exact ih5 _ _ _ _ _ _)
   | (with_reducible exact lathelaw11_big.mono _ _ _ _ _ _ _ _)
   | (with_reducible exact lathelaw11_call.mono _ _ _)
   | (with_reducible exact lathelaw11_same.mono _ _ _)
   | (with_reducible exact lathelaw11_sure.mono _)
   | (with_reducible exact latheref07_Depth.mono _ _ _ _ _ _ _ _)
   | (with_reducible exact mask_Set.mono _ _ _ _ _ _ _ _ _)
   | (with_reducible exact LeO.refl _)
   | (with_reducible exact LeO.none _)
   | (with_reducible refine LeO.ite ?_ ?_)
   | (with_reducible refine LeO.bind ?_ (fun _ => ?_))
   | exact LeO.none _
   | refine LeO.ite ?_ ?_
   | refine LeO.bind ?_ (fun _ => ?_)
end Go.Proofs.Ytmlgidffgojkhaa.Q
