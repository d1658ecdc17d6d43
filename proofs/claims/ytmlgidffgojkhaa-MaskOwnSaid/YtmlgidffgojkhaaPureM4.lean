/- What a mask means: its fault, the parameters in it; package mask and package latheref11 come to it alike. Conditions: the tree and the signature read within the reading's bounds. -/
import Derived.Test.YtmlgidffgojkhaaPureM2
import Derived.Test.YtmlgidffgojkhaaPureTD
import Derived.Test.YtmlgidffgojkhaaQx9
namespace Go.Proofs.Ytmlgidffgojkhaa.Pure
set_option linter.unusedVariables false
open Go.RowKit Go.Proofs.Ytmlgidffgojkhaa.Q Go.Proofs.YtmlgidffgojkhaaW.PrintWords Go.Proofs.YtmlgidffgojkhaaW.PrintMore

abbrev Pm := S45
noncomputable def mt (g n : ByteArray) : Bool := @decide (Gl (bl g) (bl n)) (Classical.propDecidable _)
theorem match_mt (s t : ByteArray) (hs : s.size ≤ 140737488355328) (ht : t.size ≤ 140737488355328) : ∃ k, mask_Match.f k s t = some (mt s t) ∧ latheref11_Match.f k s t = some (mt s t) := by
  obtain ⟨k, r, h1, h2, h3⟩ := matches_same s t hs ht
  have : r = mt s t := bool_eq h3 (by unfold mt; exact @decide_eq_true_iff _ (Classical.propDecidable _))
  subst this
  exact ⟨k, h1, h2⟩
/-- Has a call the arguments that a mask's call has? -/
def shp (nm : ByteArray) (n : Int) : Bool :=
  if nm.toList = ([97, 108, 108] : List UInt8) then n == 0
  else if nm.toList = ([110, 111, 110, 101] : List UInt8) then n == 0
  else if nm.toList = ([114, 101, 97, 108] : List UInt8) then n == 0
  else if nm.toList = ([99, 111, 109, 112, 108, 101, 120] : List UInt8) then n == 0
  else if nm.toList = ([110, 111, 116] : List UInt8) then n == 1
  else if nm.toList = ([97, 110, 100] : List UInt8) then decide (n > 0)
  else if nm.toList = ([111, 114] : List UInt8) then decide (n > 0)
  else false
mutual
noncomputable def flt (l : List Pm) : Nd → Option (Int × Int)
  | ⟨k, nm, _, _, _, args, at_⟩ => if k = 5 then (if (l.any fun p => mt nm p.f0) = true then none else some (111, at_)) else if k = 1 then (if shp nm args.length = true then fltL l args else some (110, at_)) else some (110, at_)
noncomputable def fltL (l : List Pm) : List Nd → Option (Int × Int)
  | [] => none
  | y :: ys => if y.f4.toList = ([] : List UInt8) then (match flt l y with | some f => some f | none => fltL l ys) else some (110, y.f6)
end
mutual
noncomputable def inn (p : Pm) : Nd → Bool
  | ⟨k, nm, _, _, _, args, _⟩ => if k = 5 then mt nm p.f0
    else if nm.toList = ([97, 108, 108] : List UInt8) then true
    else if nm.toList = ([114, 101, 97, 108] : List UInt8) then p.f1 == 1
    else if nm.toList = ([99, 111, 109, 112, 108, 101, 120] : List UInt8) then p.f1 == 2
    else if nm.toList = ([110, 111, 116] : List UInt8) then !((innL p args).headD false)
    else if nm.toList = ([97, 110, 100] : List UInt8) then (innL p args).all id
    else if nm.toList = ([111, 114] : List UInt8) then (innL p args).any id
    else false
noncomputable def innL (p : Pm) : List Nd → List Bool
  | [] => []
  | y :: ys => inn p y :: innL p ys
end
theorem innL_map (p : Pm) : ∀ ys, innL p ys = ys.map (inn p)
  | [] => by simp [innL]
  | y :: ys => by rw [innL, List.map_cons, innL_map p ys]
theorem flt_eq (l : List Pm) (x : Nd) : flt l x = if x.f0 = 5 then (if (l.any fun p => mt x.f1 p.f0) = true then none else some (111, x.f6)) else if x.f0 = 1 then (if shp x.f1 x.f5.length = true then fltL l x.f5 else some (110, x.f6)) else some (110, x.f6) := by cases x; rw [flt]
theorem inn_eq (p : Pm) (x : Nd) : inn p x = if x.f0 = 5 then mt x.f1 p.f0
    else if x.f1.toList = ([97, 108, 108] : List UInt8) then true
    else if x.f1.toList = ([114, 101, 97, 108] : List UInt8) then p.f1 == 1
    else if x.f1.toList = ([99, 111, 109, 112, 108, 101, 120] : List UInt8) then p.f1 == 2
    else if x.f1.toList = ([110, 111, 116] : List UInt8) then !((x.f5.map (inn p)).headD false)
    else if x.f1.toList = ([97, 110, 100] : List UInt8) then (x.f5.map (inn p)).all id
    else if x.f1.toList = ([111, 114] : List UInt8) then (x.f5.map (inn p)).any id
    else false := by cases x; rw [inn, innL_map]
theorem flt_code (l : List Pm) : ∀ (x : Nd) (f : Int × Int), flt l x = some f → f.1 ≠ 0 := by
  intro x
  induction x using tree_ind with
  | h x ih =>
    have key : ∀ ys : List Nd, (∀ y ∈ ys, y ∈ x.f5) → ∀ f, fltL l ys = some f → f.1 ≠ 0 := by
      intro ys
      induction ys with
      | nil => intro _ f h; simp [fltL] at h
      | cons y ys ih2 =>
        intro hsub f h
        rw [fltL] at h
        split at h
        · cases hf : flt l y with
          | some g =>
            rw [hf] at h
            injection h with h
            subst h
            exact ih y (hsub y (List.mem_cons_self ..)) _ hf
          | none =>
            rw [hf] at h
            exact ih2 (fun z hz => hsub z (List.mem_cons_of_mem _ hz)) f h
        · injection h with h; subst h; simp
    intro f h
    rw [flt_eq] at h
    split at h
    · split at h
      · cases h
      · injection h with h; subst h; simp
    · split at h
      · split at h
        · exact key x.f5 (fun _ h => h) f h
        · injection h with h; subst h; simp
      · injection h with h; subst h; simp
theorem fltL_none {l : List Pm} : ∀ {ys : List Nd}, fltL l ys = none → ∀ y ∈ ys, flt l y = none ∧ y.f4.toList = ([] : List UInt8)
  | [], _, y, hy => by cases hy
  | z :: zs, h, y, hy => by
    rw [fltL] at h
    split at h
    · rename_i he
      cases hf : flt l z with
      | some g => rw [hf] at h; cases h
      | none =>
        rw [hf] at h
        rcases List.mem_cons.1 hy with rfl | hy
        · exact ⟨hf, he⟩
        · exact fltL_none h y hy
    · cases h
theorem shape_is (x : Nd) : ∃ k, mask_shape.f k x.f0 x.f1 x.f2 x.f3 x.f4 x.f5 x.f6 = some (shp x.f1 x.f5.length) := by
  refine ⟨1, ?_⟩
  unfold mask_shape.f shp
  simp only [mask_shape.j0]
  repeat' split
  all_goals simp_all
end Go.Proofs.Ytmlgidffgojkhaa.Pure
