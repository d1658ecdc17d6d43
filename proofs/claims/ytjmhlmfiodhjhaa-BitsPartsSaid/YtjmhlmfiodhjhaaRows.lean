/-
  No cell of these rows narrows 'for every input' (looked for: loops, veiled, ifaces, maps, wideKeys, modest, calm, conditions, laid).
  DERIVED. THE GIVEN ROWS OF THIS SEAT. 7 by the template 'for every input the law returns true; each argument reads behind the call as it read before'; 0 by the template 'total and deterministic' (their statements: YtjmhlmfiodhjhaaTotals.lean).
  GIVEN WITH THE SEED: the statements are not yours to turn. If you find one false, say at which input.
  Laid BY PROGRAM, IN A SANDBOX (cutbox-rows.mjs): the forced cells as the released guide's own fill.sh prints them over the translation bb8cb93402d98512… (all of the seat's roots in one cut). By AI agents, Wed Nov 11 2026. No macro, syntax, notation, axiom, sorry.
-/
import Derived.Test.YtjmhlmfiodhjhaaChecked
import GoSem.Claim
import GoSem.ClaimJoined
import GoSem.ClaimMapViews
import Derived.JoinedTies
import Derived.KernelRfl
namespace Go.Proofs.Ytjmhlmfiodhjhaa
/- THE CELL 'sum', in the pinned program and in every row, IS THE sha256 OF THE DUMP (.gsa) THAT YtjmhlmfiodhjhaaProg.lean LOADS. Nothing in Lean hashes anything: it is a label: what it is worth is what the hold of that sum in a sandbox is worth. -/
noncomputable def Try.pinned : Pinned := { name := "ytjmhlmfiodhjhaa", sum := "bb8cb93402d98512b498b787ab834ab067e8968b824384ccae5e47ba9a15d433", checked := Try.checked }
namespace Rows
def none {H : Type} : Left H := { results := [], args := [] }

/-- 'lathelaw01.BitsConsts': WHATEVER THE INPUT: true; the input reads as it did. -/
def bitsConstsSpec : ChangeSpec := { name := "bitsConsts", fn := fun _ => fun
  | [] => { results := [.lit (.bool true)], args := [] }
  | _ => none }
def bitsConstsRow : OpenClaim := { program := "ytjmhlmfiodhjhaa", sum := "bb8cb93402d98512b498b787ab834ab067e8968b824384ccae5e47ba9a15d433", func := "lathe/lathelaw01.BitsConsts", spec := "bitsConsts", apart := false }
def BitsConstsSaid : Prop := bitsConstsRow.holds Try.pinned (OpenSpec.ofChange bitsConstsSpec)

/-- ITS FALSE NEIGHBOUR: 'it returns false'. Refute it at one input. -/
def bitsConstsWrong : ChangeSpec := { name := "bitsConsts", fn := fun _ => fun
  | [] => { results := [.lit (.bool false)], args := [] }
  | _ => none }
def BitsConstsWrongFalsely : Prop := bitsConstsRow.holds Try.pinned (OpenSpec.ofChange bitsConstsWrong)

/-- 'lathelaw01.BitsParts': WHATEVER THE INPUT: true; the input reads as it did. -/
def bitsPartsSpec : ChangeSpec := { name := "bitsParts", fn := fun _ => fun
  | [d] => { results := [.lit (.bool true)], args := [d] }
  | _ => none }
def bitsPartsRow : OpenClaim := { program := "ytjmhlmfiodhjhaa", sum := "bb8cb93402d98512b498b787ab834ab067e8968b824384ccae5e47ba9a15d433", func := "lathe/lathelaw01.BitsParts", spec := "bitsParts", apart := false }
def BitsPartsSaid : Prop := bitsPartsRow.holds Try.pinned (OpenSpec.ofChange bitsPartsSpec)

/-- ITS FALSE NEIGHBOUR: 'it returns false'. Refute it at one input. -/
def bitsPartsWrong : ChangeSpec := { name := "bitsParts", fn := fun _ => fun
  | [d] => { results := [.lit (.bool false)], args := [d] }
  | _ => none }
def BitsPartsWrongFalsely : Prop := bitsPartsRow.holds Try.pinned (OpenSpec.ofChange bitsPartsWrong)

/-- 'lathelaw01.BitsOrder': WHATEVER THE INPUT: true; the input reads as it did. -/
def bitsOrderSpec : ChangeSpec := { name := "bitsOrder", fn := fun _ => fun
  | [d1, d2] => { results := [.lit (.bool true)], args := [d1, d2] }
  | _ => none }
def bitsOrderRow : OpenClaim := { program := "ytjmhlmfiodhjhaa", sum := "bb8cb93402d98512b498b787ab834ab067e8968b824384ccae5e47ba9a15d433", func := "lathe/lathelaw01.BitsOrder", spec := "bitsOrder", apart := false }
def BitsOrderSaid : Prop := bitsOrderRow.holds Try.pinned (OpenSpec.ofChange bitsOrderSpec)

/-- ITS FALSE NEIGHBOUR: 'it returns false'. Refute it at one input. -/
def bitsOrderWrong : ChangeSpec := { name := "bitsOrder", fn := fun _ => fun
  | [d1, d2] => { results := [.lit (.bool false)], args := [d1, d2] }
  | _ => none }
def BitsOrderWrongFalsely : Prop := bitsOrderRow.holds Try.pinned (OpenSpec.ofChange bitsOrderWrong)

/-- 'lathelaw01.BitsHex': WHATEVER THE INPUT: true; the input reads as it did. -/
def bitsHexSpec : ChangeSpec := { name := "bitsHex", fn := fun _ => fun
  | [d1, d2] => { results := [.lit (.bool true)], args := [d1, d2] }
  | _ => none }
def bitsHexRow : OpenClaim := { program := "ytjmhlmfiodhjhaa", sum := "bb8cb93402d98512b498b787ab834ab067e8968b824384ccae5e47ba9a15d433", func := "lathe/lathelaw01.BitsHex", spec := "bitsHex", apart := false }
def BitsHexSaid : Prop := bitsHexRow.holds Try.pinned (OpenSpec.ofChange bitsHexSpec)

/-- ITS FALSE NEIGHBOUR: 'it returns false'. Refute it at one input. -/
def bitsHexWrong : ChangeSpec := { name := "bitsHex", fn := fun _ => fun
  | [d1, d2] => { results := [.lit (.bool false)], args := [d1, d2] }
  | _ => none }
def BitsHexWrongFalsely : Prop := bitsHexRow.holds Try.pinned (OpenSpec.ofChange bitsHexWrong)

/-- 'lathelaw01.BitsBack': WHATEVER THE INPUT: true; the input reads as it did. -/
def bitsBackSpec : ChangeSpec := { name := "bitsBack", fn := fun _ => fun
  | [d1, d2] => { results := [.lit (.bool true)], args := [d1, d2] }
  | _ => none }
def bitsBackRow : OpenClaim := { program := "ytjmhlmfiodhjhaa", sum := "bb8cb93402d98512b498b787ab834ab067e8968b824384ccae5e47ba9a15d433", func := "lathe/lathelaw01.BitsBack", spec := "bitsBack", apart := false }
def BitsBackSaid : Prop := bitsBackRow.holds Try.pinned (OpenSpec.ofChange bitsBackSpec)

/-- ITS FALSE NEIGHBOUR: 'it returns false'. Refute it at one input. -/
def bitsBackWrong : ChangeSpec := { name := "bitsBack", fn := fun _ => fun
  | [d1, d2] => { results := [.lit (.bool false)], args := [d1, d2] }
  | _ => none }
def BitsBackWrongFalsely : Prop := bitsBackRow.holds Try.pinned (OpenSpec.ofChange bitsBackWrong)

/-- 'lathelaw01.BitsClasses': WHATEVER THE INPUT: true; the input reads as it did. -/
def bitsClassesSpec : ChangeSpec := { name := "bitsClasses", fn := fun _ => fun
  | [d] => { results := [.lit (.bool true)], args := [d] }
  | _ => none }
def bitsClassesRow : OpenClaim := { program := "ytjmhlmfiodhjhaa", sum := "bb8cb93402d98512b498b787ab834ab067e8968b824384ccae5e47ba9a15d433", func := "lathe/lathelaw01.BitsClasses", spec := "bitsClasses", apart := false }
def BitsClassesSaid : Prop := bitsClassesRow.holds Try.pinned (OpenSpec.ofChange bitsClassesSpec)

/-- ITS FALSE NEIGHBOUR: 'it returns false'. Refute it at one input. -/
def bitsClassesWrong : ChangeSpec := { name := "bitsClasses", fn := fun _ => fun
  | [d] => { results := [.lit (.bool false)], args := [d] }
  | _ => none }
def BitsClassesWrongFalsely : Prop := bitsClassesRow.holds Try.pinned (OpenSpec.ofChange bitsClassesWrong)

/-- 'lathelaw01.BitsNeighbours': WHATEVER THE INPUT: true; the input reads as it did. -/
def bitsNeighboursSpec : ChangeSpec := { name := "bitsNeighbours", fn := fun _ => fun
  | [d] => { results := [.lit (.bool true)], args := [d] }
  | _ => none }
def bitsNeighboursRow : OpenClaim := { program := "ytjmhlmfiodhjhaa", sum := "bb8cb93402d98512b498b787ab834ab067e8968b824384ccae5e47ba9a15d433", func := "lathe/lathelaw01.BitsNeighbours", spec := "bitsNeighbours", apart := false }
def BitsNeighboursSaid : Prop := bitsNeighboursRow.holds Try.pinned (OpenSpec.ofChange bitsNeighboursSpec)

/-- ITS FALSE NEIGHBOUR: 'it returns false'. Refute it at one input. -/
def bitsNeighboursWrong : ChangeSpec := { name := "bitsNeighbours", fn := fun _ => fun
  | [d] => { results := [.lit (.bool false)], args := [d] }
  | _ => none }
def BitsNeighboursWrongFalsely : Prop := bitsNeighboursRow.holds Try.pinned (OpenSpec.ofChange bitsNeighboursWrong)

/- THE SECOND FORM. 'bulk': how many values and letters a reading holds, each counted each time it is reached (what is shared counts as often as it is met; a slice's spare places count too). A statement '..UptoSaid' is the law's where the arguments, and the package variables that the reading takes, are together of bulk at most 1048576: NARROWER than '..Said'. Prove '..Said' where nothing that the law and all that it calls make is longer than what came in: it says more and counts as full. Else prove '..UptoSaid'. A law counts once. -/
mutual
def uptoBulk {H : Type} : DataW H → Nat
  | .lit (.string bytes) => bytes.length + 1
  | .lit _ => 1
  | .nil => 1
  | .ptr d => uptoBulk d + 1
  | .slice elems spare => uptoBulkAll elems + uptoBulkAll spare + 1
  | .agg parts => uptoBulkAll parts + 1
  | .iface _ d => uptoBulk d + 1
  | .map entries => uptoBulkEntries entries + 1
  | .held _ => 1
def uptoBulkAll {H : Type} : List (DataW H) → Nat
  | [] => 0
  | d :: r => uptoBulk d + uptoBulkAll r
def uptoBulkEntries {H : Type} : List (Lit × DataW H) → Nat
  | [] => 0
  | x :: r => uptoBulkEntry x + uptoBulkEntries r
def uptoBulkEntry {H : Type} : Lit × DataW H → Nat
  | (.string bytes, d) => bytes.length + uptoBulk d + 1
  | (_, d) => uptoBulk d + 1
 end
def uptoSmall : (H : Type) → List (DataW H) → Bool := fun _ ds => decide (uptoBulkAll ds ≤ 1048576)
def OpenSpec.upto (s : _root_.Go.ChangeSpec) : _root_.Go.OpenSpec := { _root_.Go.OpenSpec.ofChange s with cond := some uptoSmall }

/-- 'lathelaw01.BitsConsts', WHERE WHAT IT READS IS OF BULK AT MOST 1048576: true; the input reads as it did. -/
def bitsConstsUptoRow : OpenClaim := { program := "ytjmhlmfiodhjhaa", sum := "bb8cb93402d98512b498b787ab834ab067e8968b824384ccae5e47ba9a15d433", func := "lathe/lathelaw01.BitsConsts", spec := "bitsConsts", apart := false, narrowed := true }
def BitsConstsUptoSaid : Prop := bitsConstsUptoRow.holds Try.pinned (OpenSpec.upto bitsConstsSpec)

/-- 'lathelaw01.BitsParts', WHERE WHAT IT READS IS OF BULK AT MOST 1048576: true; the input reads as it did. -/
def bitsPartsUptoRow : OpenClaim := { program := "ytjmhlmfiodhjhaa", sum := "bb8cb93402d98512b498b787ab834ab067e8968b824384ccae5e47ba9a15d433", func := "lathe/lathelaw01.BitsParts", spec := "bitsParts", apart := false, narrowed := true }
def BitsPartsUptoSaid : Prop := bitsPartsUptoRow.holds Try.pinned (OpenSpec.upto bitsPartsSpec)

/-- 'lathelaw01.BitsOrder', WHERE WHAT IT READS IS OF BULK AT MOST 1048576: true; the input reads as it did. -/
def bitsOrderUptoRow : OpenClaim := { program := "ytjmhlmfiodhjhaa", sum := "bb8cb93402d98512b498b787ab834ab067e8968b824384ccae5e47ba9a15d433", func := "lathe/lathelaw01.BitsOrder", spec := "bitsOrder", apart := false, narrowed := true }
def BitsOrderUptoSaid : Prop := bitsOrderUptoRow.holds Try.pinned (OpenSpec.upto bitsOrderSpec)

/-- 'lathelaw01.BitsHex', WHERE WHAT IT READS IS OF BULK AT MOST 1048576: true; the input reads as it did. -/
def bitsHexUptoRow : OpenClaim := { program := "ytjmhlmfiodhjhaa", sum := "bb8cb93402d98512b498b787ab834ab067e8968b824384ccae5e47ba9a15d433", func := "lathe/lathelaw01.BitsHex", spec := "bitsHex", apart := false, narrowed := true }
def BitsHexUptoSaid : Prop := bitsHexUptoRow.holds Try.pinned (OpenSpec.upto bitsHexSpec)

/-- 'lathelaw01.BitsBack', WHERE WHAT IT READS IS OF BULK AT MOST 1048576: true; the input reads as it did. -/
def bitsBackUptoRow : OpenClaim := { program := "ytjmhlmfiodhjhaa", sum := "bb8cb93402d98512b498b787ab834ab067e8968b824384ccae5e47ba9a15d433", func := "lathe/lathelaw01.BitsBack", spec := "bitsBack", apart := false, narrowed := true }
def BitsBackUptoSaid : Prop := bitsBackUptoRow.holds Try.pinned (OpenSpec.upto bitsBackSpec)

/-- 'lathelaw01.BitsClasses', WHERE WHAT IT READS IS OF BULK AT MOST 1048576: true; the input reads as it did. -/
def bitsClassesUptoRow : OpenClaim := { program := "ytjmhlmfiodhjhaa", sum := "bb8cb93402d98512b498b787ab834ab067e8968b824384ccae5e47ba9a15d433", func := "lathe/lathelaw01.BitsClasses", spec := "bitsClasses", apart := false, narrowed := true }
def BitsClassesUptoSaid : Prop := bitsClassesUptoRow.holds Try.pinned (OpenSpec.upto bitsClassesSpec)

/-- 'lathelaw01.BitsNeighbours', WHERE WHAT IT READS IS OF BULK AT MOST 1048576: true; the input reads as it did. -/
def bitsNeighboursUptoRow : OpenClaim := { program := "ytjmhlmfiodhjhaa", sum := "bb8cb93402d98512b498b787ab834ab067e8968b824384ccae5e47ba9a15d433", func := "lathe/lathelaw01.BitsNeighbours", spec := "bitsNeighbours", apart := false, narrowed := true }
def BitsNeighboursUptoSaid : Prop := bitsNeighboursUptoRow.holds Try.pinned (OpenSpec.upto bitsNeighboursSpec)

end Rows
end Go.Proofs.Ytjmhlmfiodhjhaa
