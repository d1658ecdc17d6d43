/-
  NARROWER THAN 'FOR EVERY INPUT', by the rows' own cells (each row's printed sentence says how): AliasExpands: loops · AliasAgain: loops · AliasParts: loops · AliasLets: loops · AliasOwn: loops.
  DERIVED. THE GIVEN ROWS OF THIS SEAT. 8 by the template 'for every input the law returns true; each argument reads behind the call as it read before'; 0 by the template 'total and deterministic' (their statements: YtbhmhngkacbinaaTotals.lean).
  GIVEN WITH THE SEED: the statements are not yours to turn. If you find one false, say at which input.
  Laid BY PROGRAM, IN A SANDBOX (cutbox-rows.mjs): the forced cells as the released guide's own fill.sh prints them over the translation f1d8c47220e12e80… (all of the seat's roots in one cut). By AI agents, Wed Nov 11 2026. No macro, syntax, notation, axiom, sorry.
-/
import Derived.Test.YtbhmhngkacbinaaChecked
import GoSem.Claim
import GoSem.ClaimJoined
import GoSem.ClaimMapViews
import Derived.JoinedTies
import Derived.KernelRfl
namespace Go.Proofs.Ytbhmhngkacbinaa
/- THE CELL 'sum', in the pinned program and in every row, IS THE sha256 OF THE DUMP (.gsa) THAT YtbhmhngkacbinaaProg.lean LOADS. Nothing in Lean hashes anything: it is a label: what it is worth is what the hold of that sum in a sandbox is worth. -/
noncomputable def Try.pinned : Pinned := { name := "ytbhmhngkacbinaa", sum := "f1d8c47220e12e80d9a9d39d4924117c4370ea75916f414e740ac272e3dfe56b", checked := Try.checked }
namespace Rows
def none {H : Type} : Left H := { results := [], args := [] }

/-- 'lathelaw12.AliasExpands': WHATEVER THE INPUT: true; the input reads as it did. -/
def aliasExpandsSpec : ChangeSpec := { name := "aliasExpands", fn := fun _ => fun
  | [d] => { results := [.lit (.bool true)], args := [d] }
  | _ => none }
def aliasExpandsRow : OpenClaim := { program := "ytbhmhngkacbinaa", sum := "f1d8c47220e12e80d9a9d39d4924117c4370ea75916f414e740ac272e3dfe56b", func := "lathe/lathelaw12.AliasExpands", spec := "aliasExpands", inPlace := ["math.Float32frombits", "math.Float32bits"], unfollowed := true, recurses := true, loops := true, apart := false }
def AliasExpandsSaid : Prop := aliasExpandsRow.holds Try.pinned (OpenSpec.ofChange aliasExpandsSpec)

/-- ITS FALSE NEIGHBOUR: 'it returns false'. Refute it at one input. -/
def aliasExpandsWrong : ChangeSpec := { name := "aliasExpands", fn := fun _ => fun
  | [d] => { results := [.lit (.bool false)], args := [d] }
  | _ => none }
def AliasExpandsWrongFalsely : Prop := aliasExpandsRow.holds Try.pinned (OpenSpec.ofChange aliasExpandsWrong)

/-- 'lathelaw12.AliasAgain': WHATEVER THE INPUT: true; the input reads as it did. -/
def aliasAgainSpec : ChangeSpec := { name := "aliasAgain", fn := fun _ => fun
  | [d] => { results := [.lit (.bool true)], args := [d] }
  | _ => none }
def aliasAgainRow : OpenClaim := { program := "ytbhmhngkacbinaa", sum := "f1d8c47220e12e80d9a9d39d4924117c4370ea75916f414e740ac272e3dfe56b", func := "lathe/lathelaw12.AliasAgain", spec := "aliasAgain", inPlace := ["math.Float32frombits", "math.Float32bits"], unfollowed := true, recurses := true, loops := true, apart := false }
def AliasAgainSaid : Prop := aliasAgainRow.holds Try.pinned (OpenSpec.ofChange aliasAgainSpec)

/-- ITS FALSE NEIGHBOUR: 'it returns false'. Refute it at one input. -/
def aliasAgainWrong : ChangeSpec := { name := "aliasAgain", fn := fun _ => fun
  | [d] => { results := [.lit (.bool false)], args := [d] }
  | _ => none }
def AliasAgainWrongFalsely : Prop := aliasAgainRow.holds Try.pinned (OpenSpec.ofChange aliasAgainWrong)

/-- 'lathelaw12.AliasParts': WHATEVER THE INPUT: true; the input reads as it did. -/
def aliasPartsSpec : ChangeSpec := { name := "aliasParts", fn := fun _ => fun
  | [d] => { results := [.lit (.bool true)], args := [d] }
  | _ => none }
def aliasPartsRow : OpenClaim := { program := "ytbhmhngkacbinaa", sum := "f1d8c47220e12e80d9a9d39d4924117c4370ea75916f414e740ac272e3dfe56b", func := "lathe/lathelaw12.AliasParts", spec := "aliasParts", inPlace := ["math.Float32frombits", "math.Float32bits"], unfollowed := true, recurses := true, loops := true, apart := false }
def AliasPartsSaid : Prop := aliasPartsRow.holds Try.pinned (OpenSpec.ofChange aliasPartsSpec)

/-- ITS FALSE NEIGHBOUR: 'it returns false'. Refute it at one input. -/
def aliasPartsWrong : ChangeSpec := { name := "aliasParts", fn := fun _ => fun
  | [d] => { results := [.lit (.bool false)], args := [d] }
  | _ => none }
def AliasPartsWrongFalsely : Prop := aliasPartsRow.holds Try.pinned (OpenSpec.ofChange aliasPartsWrong)

/-- 'lathelaw12.AliasLets': WHATEVER THE INPUT: true; the input reads as it did. -/
def aliasLetsSpec : ChangeSpec := { name := "aliasLets", fn := fun _ => fun
  | [d1, d2, d3] => { results := [.lit (.bool true)], args := [d1, d2, d3] }
  | _ => none }
def aliasLetsRow : OpenClaim := { program := "ytbhmhngkacbinaa", sum := "f1d8c47220e12e80d9a9d39d4924117c4370ea75916f414e740ac272e3dfe56b", func := "lathe/lathelaw12.AliasLets", spec := "aliasLets", inPlace := ["math.Float32frombits", "math.Float32bits"], unfollowed := true, recurses := true, loops := true, apart := false }
def AliasLetsSaid : Prop := aliasLetsRow.holds Try.pinned (OpenSpec.ofChange aliasLetsSpec)

/-- ITS FALSE NEIGHBOUR: 'it returns false'. Refute it at one input. -/
def aliasLetsWrong : ChangeSpec := { name := "aliasLets", fn := fun _ => fun
  | [d1, d2, d3] => { results := [.lit (.bool false)], args := [d1, d2, d3] }
  | _ => none }
def AliasLetsWrongFalsely : Prop := aliasLetsRow.holds Try.pinned (OpenSpec.ofChange aliasLetsWrong)

/-- 'lathelaw12.AliasNamed': WHATEVER THE INPUT: true; the input reads as it did. -/
def aliasNamedSpec : ChangeSpec := { name := "aliasNamed", fn := fun _ => fun
  | [d] => { results := [.lit (.bool true)], args := [d] }
  | _ => none }
def aliasNamedRow : OpenClaim := { program := "ytbhmhngkacbinaa", sum := "f1d8c47220e12e80d9a9d39d4924117c4370ea75916f414e740ac272e3dfe56b", func := "lathe/lathelaw12.AliasNamed", spec := "aliasNamed", inPlace := ["math.Float32frombits", "math.Float32bits"], unfollowed := true, recurses := true, apart := false }
def AliasNamedSaid : Prop := aliasNamedRow.holds Try.pinned (OpenSpec.ofChange aliasNamedSpec)

/-- ITS FALSE NEIGHBOUR: 'it returns false'. Refute it at one input. -/
def aliasNamedWrong : ChangeSpec := { name := "aliasNamed", fn := fun _ => fun
  | [d] => { results := [.lit (.bool false)], args := [d] }
  | _ => none }
def AliasNamedWrongFalsely : Prop := aliasNamedRow.holds Try.pinned (OpenSpec.ofChange aliasNamedWrong)

/-- 'lathelaw12.AliasDoubles': WHATEVER THE INPUT: true; the input reads as it did. -/
def aliasDoublesSpec : ChangeSpec := { name := "aliasDoubles", fn := fun _ => fun
  | [d] => { results := [.lit (.bool true)], args := [d] }
  | _ => none }
def aliasDoublesRow : OpenClaim := { program := "ytbhmhngkacbinaa", sum := "f1d8c47220e12e80d9a9d39d4924117c4370ea75916f414e740ac272e3dfe56b", func := "lathe/lathelaw12.AliasDoubles", spec := "aliasDoubles", inPlace := ["math.Float32frombits", "math.Float32bits"], unfollowed := true, recurses := true, apart := false }
def AliasDoublesSaid : Prop := aliasDoublesRow.holds Try.pinned (OpenSpec.ofChange aliasDoublesSpec)

/-- ITS FALSE NEIGHBOUR: 'it returns false'. Refute it at one input. -/
def aliasDoublesWrong : ChangeSpec := { name := "aliasDoubles", fn := fun _ => fun
  | [d] => { results := [.lit (.bool false)], args := [d] }
  | _ => none }
def AliasDoublesWrongFalsely : Prop := aliasDoublesRow.holds Try.pinned (OpenSpec.ofChange aliasDoublesWrong)

/-- 'lathelaw12.AliasOwn': WHATEVER THE INPUT: true; the input reads as it did. -/
def aliasOwnSpec : ChangeSpec := { name := "aliasOwn", fn := fun _ => fun
  | [d] => { results := [.lit (.bool true)], args := [d] }
  | _ => none }
def aliasOwnRow : OpenClaim := { program := "ytbhmhngkacbinaa", sum := "f1d8c47220e12e80d9a9d39d4924117c4370ea75916f414e740ac272e3dfe56b", func := "lathe/lathelaw12.AliasOwn", spec := "aliasOwn", inPlace := ["math.Float32frombits", "math.Float32bits"], unfollowed := true, recurses := true, loops := true, apart := false }
def AliasOwnSaid : Prop := aliasOwnRow.holds Try.pinned (OpenSpec.ofChange aliasOwnSpec)

/-- ITS FALSE NEIGHBOUR: 'it returns false'. Refute it at one input. -/
def aliasOwnWrong : ChangeSpec := { name := "aliasOwn", fn := fun _ => fun
  | [d] => { results := [.lit (.bool false)], args := [d] }
  | _ => none }
def AliasOwnWrongFalsely : Prop := aliasOwnRow.holds Try.pinned (OpenSpec.ofChange aliasOwnWrong)

/-- 'lathelaw12.AliasNames': WHATEVER THE INPUT: true; the input reads as it did. -/
def aliasNamesSpec : ChangeSpec := { name := "aliasNames", fn := fun _ => fun
  | [] => { results := [.lit (.bool true)], args := [] }
  | _ => none }
def aliasNamesRow : OpenClaim := { program := "ytbhmhngkacbinaa", sum := "f1d8c47220e12e80d9a9d39d4924117c4370ea75916f414e740ac272e3dfe56b", func := "lathe/lathelaw12.AliasNames", spec := "aliasNames", inPlace := ["math.Float32frombits", "math.Float32bits"], unfollowed := true, recurses := true, apart := false }
def AliasNamesSaid : Prop := aliasNamesRow.holds Try.pinned (OpenSpec.ofChange aliasNamesSpec)

/-- ITS FALSE NEIGHBOUR: 'it returns false'. Refute it at one input. -/
def aliasNamesWrong : ChangeSpec := { name := "aliasNames", fn := fun _ => fun
  | [] => { results := [.lit (.bool false)], args := [] }
  | _ => none }
def AliasNamesWrongFalsely : Prop := aliasNamesRow.holds Try.pinned (OpenSpec.ofChange aliasNamesWrong)

/- THE SECOND FORM. 'bulk': how many values and letters a reading holds, each counted each time it is reached (what is shared counts as often as it is met; a slice's spare places count too). A statement '..UptoSaid' is the law's where the arguments, and the package variables that the reading takes, are together of bulk at most 1048576: NARROWER than '..Said'. Prove '..Said' where nothing that the law and all that it calls make is longer than what came in: it says more and counts as full. Else prove '..UptoSaid'. A law counts once. -/
mutual
def uptoBulk {H : Type} : DataW H → Nat
  | .lit (.string bytes) => bytes.length + 1
  | .lit _ => 1
  | .nil => 1
  | .ptr d => uptoBulk d + 1
  | .slice elems spare => uptoBulkAll elems + uptoBulkAll spare + 1
  | .agg parts => uptoBulkAll parts + 1
  | .iface _ d => uptoBulk d + 1
  | .map entries => uptoBulkEntries entries + 1
  | .held _ => 1
def uptoBulkAll {H : Type} : List (DataW H) → Nat
  | [] => 0
  | d :: r => uptoBulk d + uptoBulkAll r
def uptoBulkEntries {H : Type} : List (Lit × DataW H) → Nat
  | [] => 0
  | x :: r => uptoBulkEntry x + uptoBulkEntries r
def uptoBulkEntry {H : Type} : Lit × DataW H → Nat
  | (.string bytes, d) => bytes.length + uptoBulk d + 1
  | (_, d) => uptoBulk d + 1
 end
def uptoSmall : (H : Type) → List (DataW H) → Bool := fun _ ds => decide (uptoBulkAll ds ≤ 1048576)
def OpenSpec.upto (s : _root_.Go.ChangeSpec) : _root_.Go.OpenSpec := { _root_.Go.OpenSpec.ofChange s with cond := some uptoSmall }

/-- 'lathelaw12.AliasExpands', WHERE WHAT IT READS IS OF BULK AT MOST 1048576: true; the input reads as it did. -/
def aliasExpandsUptoRow : OpenClaim := { program := "ytbhmhngkacbinaa", sum := "f1d8c47220e12e80d9a9d39d4924117c4370ea75916f414e740ac272e3dfe56b", func := "lathe/lathelaw12.AliasExpands", spec := "aliasExpands", inPlace := ["math.Float32frombits", "math.Float32bits"], unfollowed := true, recurses := true, loops := true, apart := false, narrowed := true }
def AliasExpandsUptoSaid : Prop := aliasExpandsUptoRow.holds Try.pinned (OpenSpec.upto aliasExpandsSpec)

/-- 'lathelaw12.AliasAgain', WHERE WHAT IT READS IS OF BULK AT MOST 1048576: true; the input reads as it did. -/
def aliasAgainUptoRow : OpenClaim := { program := "ytbhmhngkacbinaa", sum := "f1d8c47220e12e80d9a9d39d4924117c4370ea75916f414e740ac272e3dfe56b", func := "lathe/lathelaw12.AliasAgain", spec := "aliasAgain", inPlace := ["math.Float32frombits", "math.Float32bits"], unfollowed := true, recurses := true, loops := true, apart := false, narrowed := true }
def AliasAgainUptoSaid : Prop := aliasAgainUptoRow.holds Try.pinned (OpenSpec.upto aliasAgainSpec)

/-- 'lathelaw12.AliasParts', WHERE WHAT IT READS IS OF BULK AT MOST 1048576: true; the input reads as it did. -/
def aliasPartsUptoRow : OpenClaim := { program := "ytbhmhngkacbinaa", sum := "f1d8c47220e12e80d9a9d39d4924117c4370ea75916f414e740ac272e3dfe56b", func := "lathe/lathelaw12.AliasParts", spec := "aliasParts", inPlace := ["math.Float32frombits", "math.Float32bits"], unfollowed := true, recurses := true, loops := true, apart := false, narrowed := true }
def AliasPartsUptoSaid : Prop := aliasPartsUptoRow.holds Try.pinned (OpenSpec.upto aliasPartsSpec)

/-- 'lathelaw12.AliasLets', WHERE WHAT IT READS IS OF BULK AT MOST 1048576: true; the input reads as it did. -/
def aliasLetsUptoRow : OpenClaim := { program := "ytbhmhngkacbinaa", sum := "f1d8c47220e12e80d9a9d39d4924117c4370ea75916f414e740ac272e3dfe56b", func := "lathe/lathelaw12.AliasLets", spec := "aliasLets", inPlace := ["math.Float32frombits", "math.Float32bits"], unfollowed := true, recurses := true, loops := true, apart := false, narrowed := true }
def AliasLetsUptoSaid : Prop := aliasLetsUptoRow.holds Try.pinned (OpenSpec.upto aliasLetsSpec)

/-- 'lathelaw12.AliasNamed', WHERE WHAT IT READS IS OF BULK AT MOST 1048576: true; the input reads as it did. -/
def aliasNamedUptoRow : OpenClaim := { program := "ytbhmhngkacbinaa", sum := "f1d8c47220e12e80d9a9d39d4924117c4370ea75916f414e740ac272e3dfe56b", func := "lathe/lathelaw12.AliasNamed", spec := "aliasNamed", inPlace := ["math.Float32frombits", "math.Float32bits"], unfollowed := true, recurses := true, apart := false, narrowed := true }
def AliasNamedUptoSaid : Prop := aliasNamedUptoRow.holds Try.pinned (OpenSpec.upto aliasNamedSpec)

/-- 'lathelaw12.AliasDoubles', WHERE WHAT IT READS IS OF BULK AT MOST 1048576: true; the input reads as it did. -/
def aliasDoublesUptoRow : OpenClaim := { program := "ytbhmhngkacbinaa", sum := "f1d8c47220e12e80d9a9d39d4924117c4370ea75916f414e740ac272e3dfe56b", func := "lathe/lathelaw12.AliasDoubles", spec := "aliasDoubles", inPlace := ["math.Float32frombits", "math.Float32bits"], unfollowed := true, recurses := true, apart := false, narrowed := true }
def AliasDoublesUptoSaid : Prop := aliasDoublesUptoRow.holds Try.pinned (OpenSpec.upto aliasDoublesSpec)

/-- 'lathelaw12.AliasOwn', WHERE WHAT IT READS IS OF BULK AT MOST 1048576: true; the input reads as it did. -/
def aliasOwnUptoRow : OpenClaim := { program := "ytbhmhngkacbinaa", sum := "f1d8c47220e12e80d9a9d39d4924117c4370ea75916f414e740ac272e3dfe56b", func := "lathe/lathelaw12.AliasOwn", spec := "aliasOwn", inPlace := ["math.Float32frombits", "math.Float32bits"], unfollowed := true, recurses := true, loops := true, apart := false, narrowed := true }
def AliasOwnUptoSaid : Prop := aliasOwnUptoRow.holds Try.pinned (OpenSpec.upto aliasOwnSpec)

/-- 'lathelaw12.AliasNames', WHERE WHAT IT READS IS OF BULK AT MOST 1048576: true; the input reads as it did. -/
def aliasNamesUptoRow : OpenClaim := { program := "ytbhmhngkacbinaa", sum := "f1d8c47220e12e80d9a9d39d4924117c4370ea75916f414e740ac272e3dfe56b", func := "lathe/lathelaw12.AliasNames", spec := "aliasNames", inPlace := ["math.Float32frombits", "math.Float32bits"], unfollowed := true, recurses := true, apart := false, narrowed := true }
def AliasNamesUptoSaid : Prop := aliasNamesUptoRow.holds Try.pinned (OpenSpec.upto aliasNamesSpec)

end Rows
end Go.Proofs.Ytbhmhngkacbinaa
