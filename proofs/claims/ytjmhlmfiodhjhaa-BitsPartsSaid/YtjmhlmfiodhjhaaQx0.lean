/- Laid for this claim by a program of this session: Lean functions with the answers of the Go functions that the law reaches, and the proof that the Go code comes to just these answers. Conditions: none but those that each theorem names. -/
import Derived.Test.YtjmhlmfiodhjhaaProg
import Derived.Below
import Derived.Deep.Draws
import Derived.Deep.AppendLies
import Derived.Maps.AppendAt
import Derived.OwnWalk
import Derived.Laws.BytesArg
import Derived.Laws.MakeOwn
import Derived.Laws.OwnMore
import Derived.Deep.OwnRows
import Derived.Tactics
import Derived.Lib.ConvBytes
import Derived.Laws.Slices
import Derived.WalkKit
import Derived.KernelRfl
import Derived.RowKit3
import Derived.Deep.LoopGhost
import Derived.Deep.QuietTactic
import Derived.BigQuiet
import Derived.WideLaws
import Derived.Deep.DeepCutAuto
import Derived.Deep.CutBlock
import Derived.Deep.RegionHeld3
import Derived.Laws.Rows
import Derived.Lib.AppendStr
import Derived.ArgAppend
import Derived.Laws.IdiomCopy
import Derived.OrdersHeld
import Derived.Laws.BitsLemmas
import Derived.RowKit
import Derived.Test.YtjmhlmfiodhjhaaWWords
import Derived.Test.YtjmhlmfiodhjhaaWLast
import Derived.Test.YtjmhlmfiodhjhaaWTab
import Derived.Test.YtjmhlmfiodhjhaaWFour
import Derived.Test.YtjmhlmfiodhjhaaWQPut
import Derived.Test.YtjmhlmfiodhjhaaWApart
import Derived.Test.YtjmhlmfiodhjhaaWArr
import Derived.Test.YtjmhlmfiodhjhaaWZeros
import Derived.Test.YtjmhlmfiodhjhaaWFoot
import Derived.Test.YtjmhlmfiodhjhaaWKept
import Derived.Test.YtjmhlmfiodhjhaaWShare
import Derived.Test.YtjmhlmfiodhjhaaWN
import Derived.Test.YtjmhlmfiodhjhaaWFootNe
import Derived.Test.YtjmhlmfiodhjhaaWAt
import Derived.Test.YtjmhlmfiodhjhaaWEqStruct
import Derived.Test.YtjmhlmfiodhjhaaWRepsOne
import Derived.Test.YtjmhlmfiodhjhaaWInv
import Derived.Test.YtjmhlmfiodhjhaaWInvWords
import Derived.Test.YtjmhlmfiodhjhaaWGuard
import Derived.Test.YtjmhlmfiodhjhaaWNEv
import Derived.Test.YtjmhlmfiodhjhaaWMore
namespace Go.Proofs.Ytjmhlmfiodhjhaa.Q
open Go.RowKit Go.Proofs.YtjmhlmfiodhjhaaW.PrintWords Go.Proofs.YtjmhlmfiodhjhaaW.PrintLast Go.Proofs.YtjmhlmfiodhjhaaW.PrintMore
attribute [local go_sem] max2_int min2_int max_two min_two max_three min_three max_four min_four   -- for this text's walks alone
set_option linter.unusedVariables false
set_option linter.unusedSimpArgs false



def errW : Option Int → Value
  | none => .nilIface
  | some c => .iface 0 (.int .i64 c)
theorem errW_none : errW none = .nilIface := rfl
theorem errW_some (c : Int) : errW (some c) = .iface 0 (.int .i64 c) := rfl

-- the values' own types

end Go.Proofs.Ytjmhlmfiodhjhaa.Q
