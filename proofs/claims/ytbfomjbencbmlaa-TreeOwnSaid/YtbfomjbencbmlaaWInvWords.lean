/- Words of the kit's print, cut down by a program of this session to what the claim reaches. Conditions: those that each theorem names. -/
import Derived.Test.YtbfomjbencbmlaaWInv
import Derived.Test.YtbfomjbencbmlaaWFootNe
namespace Go.Proofs.YtbfomjbencbmlaaW.PrintWords
open Go.RowKit
end Go.Proofs.YtbfomjbencbmlaaW.PrintWords
namespace Go.Proofs.YtbfomjbencbmlaaW.PrintLast
section
variable {ops : Array Oper} {a : Act} {o og : Oper} {g : Nat} {t : Tmp} {u : Bool}
end
end Go.Proofs.YtbfomjbencbmlaaW.PrintLast
