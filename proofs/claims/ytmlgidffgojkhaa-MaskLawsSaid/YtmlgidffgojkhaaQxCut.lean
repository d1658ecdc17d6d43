/- A function's code, cut at a region: so that a long walk may stand in several texts. Conditions: none. -/
import Derived.Test.YtmlgidffgojkhaaQx0
namespace Go.Proofs.Ytmlgidffgojkhaa.Q
open Go.RowKit Go.Proofs.YtmlgidffgojkhaaW.PrintWords
/-- What is known of a row's blocks, told again in another order. -/
theorem Nm {α : Type} {d : Kd α} {e : Nat} {w : World} {base : Nat} {ok ok' : Nat → Prop} {v : Value} {xs : List α} (h : Kd.N d e w base ok v xs) (h2 : ∀ k, ok k → ok' k := by intro _ hk; simp only [hk, ne_eq, not_false_eq_true, and_self]) : Kd.N d e w base ok' v xs := Kd.N_mono h h2
theorem Rm {α : Type} {d : Kd α} {e : Nat} {w : World} {base : Nat} {ok ok' : Nat → Prop} {v : Value} {xs : List α} (h : Kd.R d e w base ok v xs) (h2 : ∀ k, ok k → ok' k := by intro _ hk; simp only [hk, ne_eq, not_false_eq_true, and_self]) : Kd.R d e w base ok' v xs := Kd.R_mono h h2
theorem Vm {α : Type} {d : Kd α} {e : Nat} {w : World} {base : Nat} {ok ok' : Nat → Prop} {v : Value} {xs : List α} (h : Kd.V d e w base ok v xs) (h2 : ∀ k, ok k → ok' k := by intro _ hk; simp only [hk, ne_eq, not_false_eq_true, and_self]) : Kd.V d e w base ok' v xs := Kd.V_mono h h2
/-- The code's region n, and the code behind it. -/
def regionAt (n : Nat) : Code → Option Code
  | .region i o d => if i == n then some (.region i o d) else none
  | .seq a b => match regionAt n a with
    | some c => some c
    | none => regionAt n b
  | .cond _ a b => match regionAt n a with
    | some c => some c
    | none => regionAt n b
  | .block _ c => regionAt n c
  | .loop c => regionAt n c
  | _ => none
def heads (n : Nat) : Code → Bool
  | .region i _ _ => i == n
  | _ => false
def behind (n : Nat) : Code → Option Code
  | .seq a b => match heads n a with
    | true => some b
    | false => match behind n a with
      | some c => some c
      | none => behind n b
  | .cond _ a b => match behind n a with
    | some c => some c
    | none => behind n b
  | .block _ c => behind n c
  | .loop c => behind n c
  | _ => none
noncomputable def codeAt (n : Nat) (f : Func) : Code := ((f.body.bind (regionAt n)).getD .skip)
noncomputable def codeAfter (n : Nat) (f : Func) : Code := ((f.body.bind (behind n)).getD .skip)
end Go.Proofs.Ytmlgidffgojkhaa.Q
