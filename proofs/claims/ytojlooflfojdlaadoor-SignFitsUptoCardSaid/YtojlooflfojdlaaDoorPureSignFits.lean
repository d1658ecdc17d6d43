/- The pure form of SignFits: for every argument the law's Lean function answers true. Conditions: those that the theorem names. -/
import Derived.Test.YtojlooflfojdlaaDoorSignE
import Derived.Test.YtojlooflfojdlaaDoorOpenT
import Derived.Test.YtojlooflfojdlaaDoorQx11
import Derived.Test.YtojlooflfojdlaaDoorQx12
namespace Go.Proofs.YtojlooflfojdlaaDoor.Pure
set_option linter.unusedVariables false
open Go.RowKit Go.Proofs.YtojlooflfojdlaaDoor.Q Go.Proofs.YtojlooflfojdlaaDoorW.PrintWords Go.Proofs.YtojlooflfojdlaaDoorW.PrintLast

theorem bytes_pm_fits : Tryd.prog.bytesOf 39 = 32 := by kernel_rfl
def fitL : List Pm → List (List Int) → Bool
  | p :: ps, x :: xs => if (x.length : Int) = numB p then fitL ps xs else false
  | _, _ => true
theorem drop_at7 (l : List (List Int)) (i : Nat) (h : i < l.length) : l.drop i = rd_L7 l (i : Int) :: l.drop (i + 1) := by
  rw [List.drop_eq_getElem_cons h]; simp [rd_L7, List.getElem?_eq_getElem h]
theorem fits_l0 (l : List Pm) (x : List (List Int)) (hl : l.length ≤ 4398046511103) (hx : x.length = l.length) : ∀ (d i : Nat), l.length - i = d → i ≤ l.length → Ev (fun k => sign_Fits.l0 k x l (l.length : Int) (i : Int)) (fitL (l.drop i) (x.drop i)) := by
  intro d
  induction d with
  | zero =>
    intro i h hi
    rw [List.drop_of_length_le (by omega)]
    exact Ev.one fun k => by rw [sign_Fits.l0, if_neg (by omega)]; rfl
  | succ d ih =>
    intro i h hi
    rw [drop_at l i (by omega), drop_at7 x i (by omega), fitL]
    have e0 : ∀ k, sign_Fits.l0 (k + 1) x l (l.length : Int) (i : Int) = if ((rd_L7 x (i : Int)).length : Int) = numB (rd_T39 l (i : Int)) then sign_Fits.l0 k x l (l.length : Int) ((i + 1 : Nat) : Int) else some false := fun k => by
      rw [sign_Fits.l0, if_pos (by omega), if_pos (by omega), if_pos (by omega), if_pos (by omega), num_eq, Option.bind_some, wr64 _ (by omega) (by omega)]
      rfl
    by_cases e : ((rd_L7 x (i : Int)).length : Int) = numB (rd_T39 l (i : Int))
    · rw [if_pos e]
      exact Ev.step (fun k => (e0 k).trans (if_pos e)) (ih (i + 1) (by omega) (by omega))
    · rw [if_neg e]
      exact Ev.one fun k => (e0 k).trans (if_neg e)
theorem rfits_l0 (l : List Pm) (x : List (List Int)) (hl : l.length ≤ 4398046511103) (hx : x.length = l.length) : ∀ (d i : Nat), l.length - i = d → i ≤ l.length → Ev (fun k => latheref10_Fits.l0 k l x (i : Int)) (fitL (l.drop i) (x.drop i)) := by
  intro d
  induction d with
  | zero =>
    intro i h hi
    rw [List.drop_of_length_le (by omega)]
    exact Ev.one fun k => by rw [latheref10_Fits.l0, if_neg (by omega)]; rfl
  | succ d ih =>
    intro i h hi
    rw [drop_at l i (by omega), drop_at7 x i (by omega), fitL]
    refine Ev.step (f := fun k => (latheref10_Numbers.f k (rd_T39 l (i : Int)).f0 (rd_T39 l (i : Int)).f1 (rd_T39 l (i : Int)).f2).bind fun t => if ((rd_L7 x (i : Int)).length : Int) = t then latheref10_Fits.l0 k l x ((i + 1 : Nat) : Int) else some false) (fun k => by
      rw [latheref10_Fits.l0, if_pos (by omega), if_pos (by omega), if_pos (by omega), wr64 _ (by omega) (by omega)]
      rfl) (Ev.bind (num_ev _ _ _) ?_)
    by_cases e : ((rd_L7 x (i : Int)).length : Int) = numB (rd_T39 l (i : Int))
    · rw [if_pos e]
      exact Ev.congr (fun k => if_pos e) (ih (i + 1) (by omega) (by omega))
    · rw [if_neg e]
      exact Ev.const fun k => if_neg e
theorem fits_same (l : List Pm) (x : List (List Int)) (hl : l.length ≤ 4398046511103) : ∃ b, Ev (fun k => sign_Fits.f k l x) b ∧ Ev (fun k => latheref10_Fits.f k l x) b := by
  by_cases h : x.length = l.length
  · have e1 := fits_l0 l x hl h _ 0 rfl (by omega)
    have e2 := rfits_l0 l x hl h _ 0 rfl (by omega)
    refine ⟨_, Ev.congr (fun k => ?_) e1, Ev.congr (fun k => ?_) e2⟩
    · unfold sign_Fits.f; rw [if_pos (by omega)]; rfl
    · unfold latheref10_Fits.f; rw [if_pos (by omega)]; rfl
  · refine ⟨false, Ev.const fun k => ?_, Ev.const fun k => ?_⟩
    · unfold sign_Fits.f; rw [if_neg (by omega)]
    · unfold latheref10_Fits.f; rw [if_neg (by omega)]
theorem sizes_l0 (l : List Pm) (hl : l.length ≤ 4398046511103) (z : List Int) (hz : z.length ≤ 5864062014804) : ∀ (d i : Nat) (x : List (List Int)), z.length - i = d → i ≤ z.length → x.length ≤ i → Ev (fun k => lathelaw10_SignFits.l0 k l z x (i : Int)) true := by
  intro d
  induction d with
  | zero =>
    intro i x h hi hx
    obtain ⟨b, h1, h2⟩ := fits_same l x hl
    refine Ev.step (f := fun k => (sign_Fits.f k l x).bind fun t => (latheref10_Fits.f k l x).bind fun u => if (t == u) = true then (lathelaw10_works.f k).bind fun t => some t else some false) (fun k => ?_) (Ev.bind h1 (Ev.bind h2 (Ev.congr (fun k => if_pos (beq_self_eq_true b)) (Ev.bind works_ev (Ev.now true)))))
    rw [lathelaw10_SignFits.l0, if_neg (by omega)]
  | succ d ih =>
    intro i x h hi hx
    have hm : 0 ≤ mx 0 (mn (rd z (i : Int)) 10000) ∧ mx 0 (mn (rd z (i : Int)) 10000) ≤ 10000 := by unfold mx mn; constructor <;> (split <;> split <;> omega)
    refine Ev.step (fun k => ?_) (ih (i + 1) (x ++ [List.replicate (mx 0 (mn (rd z (i : Int)) 10000)).toNat 0]) (by omega) (by omega) (by simp only [List.length_append, List.length_cons, List.length_nil]; omega))
    rw [lathelaw10_SignFits.l0, if_pos (by omega), if_pos (by omega), if_pos hm.1, if_pos (by omega), if_pos (by omega), wr64 _ (by omega) (by omega)]
    rfl
theorem SignFits (l0 : (List S39)) (l1 : (List Int)) (b0 : (l0.length * Tryd.prog.bytesOf 39 ≤ 140737488351232 ∧ ∀ x_ ∈ l0, ok39 x_)) (hz : l1.length ≤ 5864062014804) : ∃ k, lathelaw10_SignFits.f k l0 l1 = some true := by
  have hl : l0.length ≤ 4398046511103 := by have h := b0.1; rw [bytes_pm_fits] at h; omega
  obtain ⟨K, h⟩ := sizes_l0 l0 hl l1 hz _ 0 [] rfl (by omega) (by simp)
  exact ⟨K, h K (by omega)⟩

end Go.Proofs.YtojlooflfojdlaaDoor.Pure
