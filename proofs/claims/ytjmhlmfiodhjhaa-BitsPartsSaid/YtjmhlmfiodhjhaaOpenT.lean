/- Each struct type of this translation that a law takes, opened: a value that reads as data is a Lean value of its kind, within the reading's own bounds. Conditions: none. -/
import Derived.Test.YtjmhlmfiodhjhaaQx0
import Derived.Test.YtjmhlmfiodhjhaaOpen
namespace Go.Proofs.Ytjmhlmfiodhjhaa.Q
open Go.RowKit Go.Proofs.Ytjmhlmfiodhjhaa.Opens Go.Proofs.YtjmhlmfiodhjhaaW.PrintWords
set_option linter.unusedVariables false
end Go.Proofs.Ytjmhlmfiodhjhaa.Q
