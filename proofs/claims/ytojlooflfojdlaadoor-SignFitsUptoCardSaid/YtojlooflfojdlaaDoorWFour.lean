/- Words of the kit's print, cut down by a program of this session to what the claim reaches. Conditions: those that each theorem names. -/
import Derived.Test.YtojlooflfojdlaaDoorWTab
/-! ### 56. Four, five, six operations that may come up next, in any order -/
namespace Go.Proofs.YtojlooflfojdlaaDoorW.PrintLast
section
variable {P : Program} {ops : Array Oper} {Q : Exit → Act → World → Prop} {md : Region.Mode} {S : World → Prop} {ds : List Nat} {T : Bool × List (List Nat × List Nat)}
end
end Go.Proofs.YtojlooflfojdlaaDoorW.PrintLast
