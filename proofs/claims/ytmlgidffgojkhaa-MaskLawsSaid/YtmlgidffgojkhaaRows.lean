/-
  NARROWER THAN 'FOR EVERY INPUT', by the rows' own cells (each row's printed sentence says how): MaskSets: loops · MaskLaws: loops · MaskOwn: loops.
  DERIVED. THE GIVEN ROWS OF THIS SEAT. 5 by the template 'for every input the law returns true; each argument reads behind the call as it read before'; 0 by the template 'total and deterministic' (their statements: YtmlgidffgojkhaaTotals.lean).
  GIVEN WITH THE SEED: the statements are not yours to turn. If you find one false, say at which input.
  Laid BY PROGRAM, IN A SANDBOX (cutbox-rows.mjs): the forced cells as the released guide's own fill.sh prints them over the translation 204a3592b9ecd8d8… (all of the seat's roots in one cut). By AI agents, Wed Nov 11 2026. No macro, syntax, notation, axiom, sorry.
-/
import Derived.Test.YtmlgidffgojkhaaChecked
import GoSem.Claim
import GoSem.ClaimJoined
import GoSem.ClaimMapViews
import Derived.JoinedTies
import Derived.KernelRfl
namespace Go.Proofs.Ytmlgidffgojkhaa
/- THE CELL 'sum', in the pinned program and in every row, IS THE sha256 OF THE DUMP (.gsa) THAT YtmlgidffgojkhaaProg.lean LOADS. Nothing in Lean hashes anything: it is a label: what it is worth is what the hold of that sum in a sandbox is worth. -/
noncomputable def Try.pinned : Pinned := { name := "ytmlgidffgojkhaa", sum := "204a3592b9ecd8d8417e0bd505b2627f1a2837f996b35841514d96eb293a2a31", checked := Try.checked }
namespace Rows
def none {H : Type} : Left H := { results := [], args := [] }

/-- 'lathelaw11.MaskMatches': WHATEVER THE INPUT: true; the input reads as it did. -/
def maskMatchesSpec : ChangeSpec := { name := "maskMatches", fn := fun _ => fun
  | [d1, d2] => { results := [.lit (.bool true)], args := [d1, d2] }
  | _ => none }
def maskMatchesRow : OpenClaim := { program := "ytmlgidffgojkhaa", sum := "204a3592b9ecd8d8417e0bd505b2627f1a2837f996b35841514d96eb293a2a31", func := "lathe/lathelaw11.MaskMatches", spec := "maskMatches", unfollowed := true, recurses := true, apart := false }
def MaskMatchesSaid : Prop := maskMatchesRow.holds Try.pinned (OpenSpec.ofChange maskMatchesSpec)

/-- ITS FALSE NEIGHBOUR: 'it returns false'. Refute it at one input. -/
def maskMatchesWrong : ChangeSpec := { name := "maskMatches", fn := fun _ => fun
  | [d1, d2] => { results := [.lit (.bool false)], args := [d1, d2] }
  | _ => none }
def MaskMatchesWrongFalsely : Prop := maskMatchesRow.holds Try.pinned (OpenSpec.ofChange maskMatchesWrong)

/-- 'lathelaw11.MaskParts': WHATEVER THE INPUT: true; the input reads as it did. -/
def maskPartsSpec : ChangeSpec := { name := "maskParts", fn := fun _ => fun
  | [d1, d2, d3] => { results := [.lit (.bool true)], args := [d1, d2, d3] }
  | _ => none }
def maskPartsRow : OpenClaim := { program := "ytmlgidffgojkhaa", sum := "204a3592b9ecd8d8417e0bd505b2627f1a2837f996b35841514d96eb293a2a31", func := "lathe/lathelaw11.MaskParts", spec := "maskParts", unfollowed := true, recurses := true, apart := false }
def MaskPartsSaid : Prop := maskPartsRow.holds Try.pinned (OpenSpec.ofChange maskPartsSpec)

/-- ITS FALSE NEIGHBOUR: 'it returns false'. Refute it at one input. -/
def maskPartsWrong : ChangeSpec := { name := "maskParts", fn := fun _ => fun
  | [d1, d2, d3] => { results := [.lit (.bool false)], args := [d1, d2, d3] }
  | _ => none }
def MaskPartsWrongFalsely : Prop := maskPartsRow.holds Try.pinned (OpenSpec.ofChange maskPartsWrong)

/-- 'lathelaw11.MaskSets': WHATEVER THE INPUT: true; the input reads as it did. -/
def maskSetsSpec : ChangeSpec := { name := "maskSets", fn := fun _ => fun
  | [d1, d2] => { results := [.lit (.bool true)], args := [d1, d2] }
  | _ => none }
def maskSetsRow : OpenClaim := { program := "ytmlgidffgojkhaa", sum := "204a3592b9ecd8d8417e0bd505b2627f1a2837f996b35841514d96eb293a2a31", func := "lathe/lathelaw11.MaskSets", spec := "maskSets", unfollowed := true, recurses := true, loops := true, apart := false }
def MaskSetsSaid : Prop := maskSetsRow.holds Try.pinned (OpenSpec.ofChange maskSetsSpec)

/-- ITS FALSE NEIGHBOUR: 'it returns false'. Refute it at one input. -/
def maskSetsWrong : ChangeSpec := { name := "maskSets", fn := fun _ => fun
  | [d1, d2] => { results := [.lit (.bool false)], args := [d1, d2] }
  | _ => none }
def MaskSetsWrongFalsely : Prop := maskSetsRow.holds Try.pinned (OpenSpec.ofChange maskSetsWrong)

/-- 'lathelaw11.MaskLaws': WHATEVER THE INPUT: true; the input reads as it did. -/
def maskLawsSpec : ChangeSpec := { name := "maskLaws", fn := fun _ => fun
  | [d1, d2, d3] => { results := [.lit (.bool true)], args := [d1, d2, d3] }
  | _ => none }
def maskLawsRow : OpenClaim := { program := "ytmlgidffgojkhaa", sum := "204a3592b9ecd8d8417e0bd505b2627f1a2837f996b35841514d96eb293a2a31", func := "lathe/lathelaw11.MaskLaws", spec := "maskLaws", unfollowed := true, recurses := true, loops := true, apart := false }
def MaskLawsSaid : Prop := maskLawsRow.holds Try.pinned (OpenSpec.ofChange maskLawsSpec)

/-- ITS FALSE NEIGHBOUR: 'it returns false'. Refute it at one input. -/
def maskLawsWrong : ChangeSpec := { name := "maskLaws", fn := fun _ => fun
  | [d1, d2, d3] => { results := [.lit (.bool false)], args := [d1, d2, d3] }
  | _ => none }
def MaskLawsWrongFalsely : Prop := maskLawsRow.holds Try.pinned (OpenSpec.ofChange maskLawsWrong)

/-- 'lathelaw11.MaskOwn': WHATEVER THE INPUT: true; the input reads as it did. -/
def maskOwnSpec : ChangeSpec := { name := "maskOwn", fn := fun _ => fun
  | [d1, d2] => { results := [.lit (.bool true)], args := [d1, d2] }
  | _ => none }
def maskOwnRow : OpenClaim := { program := "ytmlgidffgojkhaa", sum := "204a3592b9ecd8d8417e0bd505b2627f1a2837f996b35841514d96eb293a2a31", func := "lathe/lathelaw11.MaskOwn", spec := "maskOwn", unfollowed := true, recurses := true, loops := true, apart := false }
def MaskOwnSaid : Prop := maskOwnRow.holds Try.pinned (OpenSpec.ofChange maskOwnSpec)

/-- ITS FALSE NEIGHBOUR: 'it returns false'. Refute it at one input. -/
def maskOwnWrong : ChangeSpec := { name := "maskOwn", fn := fun _ => fun
  | [d1, d2] => { results := [.lit (.bool false)], args := [d1, d2] }
  | _ => none }
def MaskOwnWrongFalsely : Prop := maskOwnRow.holds Try.pinned (OpenSpec.ofChange maskOwnWrong)

/- THE SECOND FORM. 'bulk': how many values and letters a reading holds, each counted each time it is reached (what is shared counts as often as it is met; a slice's spare places count too). A statement '..UptoSaid' is the law's where the arguments, and the package variables that the reading takes, are together of bulk at most 1048576: NARROWER than '..Said'. Prove '..Said' where nothing that the law and all that it calls make is longer than what came in: it says more and counts as full. Else prove '..UptoSaid'. A law counts once. -/
mutual
def uptoBulk {H : Type} : DataW H → Nat
  | .lit (.string bytes) => bytes.length + 1
  | .lit _ => 1
  | .nil => 1
  | .ptr d => uptoBulk d + 1
  | .slice elems spare => uptoBulkAll elems + uptoBulkAll spare + 1
  | .agg parts => uptoBulkAll parts + 1
  | .iface _ d => uptoBulk d + 1
  | .map entries => uptoBulkEntries entries + 1
  | .held _ => 1
def uptoBulkAll {H : Type} : List (DataW H) → Nat
  | [] => 0
  | d :: r => uptoBulk d + uptoBulkAll r
def uptoBulkEntries {H : Type} : List (Lit × DataW H) → Nat
  | [] => 0
  | x :: r => uptoBulkEntry x + uptoBulkEntries r
def uptoBulkEntry {H : Type} : Lit × DataW H → Nat
  | (.string bytes, d) => bytes.length + uptoBulk d + 1
  | (_, d) => uptoBulk d + 1
 end
def uptoSmall : (H : Type) → List (DataW H) → Bool := fun _ ds => decide (uptoBulkAll ds ≤ 1048576)
def OpenSpec.upto (s : _root_.Go.ChangeSpec) : _root_.Go.OpenSpec := { _root_.Go.OpenSpec.ofChange s with cond := some uptoSmall }

/-- 'lathelaw11.MaskMatches', WHERE WHAT IT READS IS OF BULK AT MOST 1048576: true; the input reads as it did. -/
def maskMatchesUptoRow : OpenClaim := { program := "ytmlgidffgojkhaa", sum := "204a3592b9ecd8d8417e0bd505b2627f1a2837f996b35841514d96eb293a2a31", func := "lathe/lathelaw11.MaskMatches", spec := "maskMatches", unfollowed := true, recurses := true, apart := false, narrowed := true }
def MaskMatchesUptoSaid : Prop := maskMatchesUptoRow.holds Try.pinned (OpenSpec.upto maskMatchesSpec)

/-- 'lathelaw11.MaskParts', WHERE WHAT IT READS IS OF BULK AT MOST 1048576: true; the input reads as it did. -/
def maskPartsUptoRow : OpenClaim := { program := "ytmlgidffgojkhaa", sum := "204a3592b9ecd8d8417e0bd505b2627f1a2837f996b35841514d96eb293a2a31", func := "lathe/lathelaw11.MaskParts", spec := "maskParts", unfollowed := true, recurses := true, apart := false, narrowed := true }
def MaskPartsUptoSaid : Prop := maskPartsUptoRow.holds Try.pinned (OpenSpec.upto maskPartsSpec)

/-- 'lathelaw11.MaskSets', WHERE WHAT IT READS IS OF BULK AT MOST 1048576: true; the input reads as it did. -/
def maskSetsUptoRow : OpenClaim := { program := "ytmlgidffgojkhaa", sum := "204a3592b9ecd8d8417e0bd505b2627f1a2837f996b35841514d96eb293a2a31", func := "lathe/lathelaw11.MaskSets", spec := "maskSets", unfollowed := true, recurses := true, loops := true, apart := false, narrowed := true }
def MaskSetsUptoSaid : Prop := maskSetsUptoRow.holds Try.pinned (OpenSpec.upto maskSetsSpec)

/-- 'lathelaw11.MaskLaws', WHERE WHAT IT READS IS OF BULK AT MOST 1048576: true; the input reads as it did. -/
def maskLawsUptoRow : OpenClaim := { program := "ytmlgidffgojkhaa", sum := "204a3592b9ecd8d8417e0bd505b2627f1a2837f996b35841514d96eb293a2a31", func := "lathe/lathelaw11.MaskLaws", spec := "maskLaws", unfollowed := true, recurses := true, loops := true, apart := false, narrowed := true }
def MaskLawsUptoSaid : Prop := maskLawsUptoRow.holds Try.pinned (OpenSpec.upto maskLawsSpec)

/-- 'lathelaw11.MaskOwn', WHERE WHAT IT READS IS OF BULK AT MOST 1048576: true; the input reads as it did. -/
def maskOwnUptoRow : OpenClaim := { program := "ytmlgidffgojkhaa", sum := "204a3592b9ecd8d8417e0bd505b2627f1a2837f996b35841514d96eb293a2a31", func := "lathe/lathelaw11.MaskOwn", spec := "maskOwn", unfollowed := true, recurses := true, loops := true, apart := false, narrowed := true }
def MaskOwnUptoSaid : Prop := maskOwnUptoRow.holds Try.pinned (OpenSpec.upto maskOwnSpec)

end Rows
end Go.Proofs.Ytmlgidffgojkhaa
