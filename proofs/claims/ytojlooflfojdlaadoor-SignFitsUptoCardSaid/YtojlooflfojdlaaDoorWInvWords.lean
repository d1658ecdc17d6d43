/- Words of the kit's print, cut down by a program of this session to what the claim reaches. Conditions: those that each theorem names. -/
import Derived.Test.YtojlooflfojdlaaDoorWInv
import Derived.Test.YtojlooflfojdlaaDoorWFootNe
namespace Go.Proofs.YtojlooflfojdlaaDoorW.PrintWords
open Go.RowKit
end Go.Proofs.YtojlooflfojdlaaDoorW.PrintWords
namespace Go.Proofs.YtojlooflfojdlaaDoorW.PrintLast
section
variable {ops : Array Oper} {a : Act} {o og : Oper} {g : Nat} {t : Tmp} {u : Bool}
end
end Go.Proofs.YtojlooflfojdlaaDoorW.PrintLast
