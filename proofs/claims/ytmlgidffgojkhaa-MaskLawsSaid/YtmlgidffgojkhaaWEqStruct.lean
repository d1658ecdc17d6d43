/- Words of the kit's print, cut down by a program of this session to what the claim reaches. Conditions: those that each theorem names. -/
import Derived.Test.YtmlgidffgojkhaaWWords
import Derived.Laws.StructEq
/-! ### 53. '==' of structs as_ one Bool -/
namespace Go.Proofs.YtmlgidffgojkhaaW.PrintWords
open Go.RowKit
section
variable {P : Program} {d : Nat} {xs ys : Array Value} {f : Field} {fs : List Field} {a b : Value} {r s : Bool} {w : World}
end
end Go.Proofs.YtmlgidffgojkhaaW.PrintWords
