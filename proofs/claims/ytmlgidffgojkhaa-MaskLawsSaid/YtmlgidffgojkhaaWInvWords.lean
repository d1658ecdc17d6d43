/- Words of the kit's print, cut down by a program of this session to what the claim reaches. Conditions: those that each theorem names. -/
import Derived.Test.YtmlgidffgojkhaaWInv
import Derived.Test.YtmlgidffgojkhaaWFootNe
namespace Go.Proofs.YtmlgidffgojkhaaW.PrintWords
open Go.RowKit
end Go.Proofs.YtmlgidffgojkhaaW.PrintWords
namespace Go.Proofs.YtmlgidffgojkhaaW.PrintLast
section
variable {ops : Array Oper} {a : Act} {o og : Oper} {g : Nat} {t : Tmp} {u : Bool}
end
end Go.Proofs.YtmlgidffgojkhaaW.PrintLast
