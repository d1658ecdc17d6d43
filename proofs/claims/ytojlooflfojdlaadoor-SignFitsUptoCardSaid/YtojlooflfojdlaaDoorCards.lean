/-
  DERIVED. GIVEN WITH THE SEED: THE CARDS: each row of YtojlooflfojdlaaDoorRows.lean that lists a variable, with what it lists TIED to the program's text (the seventh form; the later family's looks); each row that meets fmt, with fmt's text TOLD by the authors' own Lean function (tested against real Go, not proved from fmt's source: count such statements apart). THE CARD IS WHAT COUNTS. Prove the row's statement (the work); the ties are given (YtojlooflfojdlaaDoorTie.lean); close each card by the builder's one call (the guide's Derived/Test/ToyasCard.lean, 'card_holds'). Laid BY PROGRAM, IN A SANDBOX (cutbox-door.mjs). By AI agents, Wed Nov 11 2026. No macro, syntax, notation, axiom, sorry.
-/
import Derived.Test.YtojlooflfojdlaaDoorRows
import GoSem.ClaimSeven
namespace Go.Proofs.YtojlooflfojdlaaDoor
namespace Rows

/-- THE TIED CARD OF 'lathelaw10.SignReads'. -/
def signReadsCard : Claim7 := { stood := { row := signReadsRow, standIns := [], harness := (true, "4c6bd5eebf667585fe6a7f29b7093e409fbebc4b9c3c09f10b4d16229b3e35c4"), looks := true }, kinds := [], alts := [], laidByText := true, laidKinds := [.data, .data, .data, .data, .sentinel, .sentinel, .pinned], laidTests := true, laidLooks := .later }
def SignReadsCardSaid : Prop := Claim7.holds Tryd.pinned (.plain (OpenSpec.ofChange signReadsSpec)) signReadsCard

/-- THE TIED CARD OF 'lathelaw10.SignPrints'. -/
def signPrintsCard : Claim7 := { stood := { row := signPrintsRow, standIns := [], harness := (true, "4c6bd5eebf667585fe6a7f29b7093e409fbebc4b9c3c09f10b4d16229b3e35c4"), looks := true }, kinds := [], alts := [], laidByText := true, laidKinds := [.data, .data, .data, .data, .sentinel, .sentinel, .pinned], laidTests := true, laidLooks := .later }
def SignPrintsCardSaid : Prop := Claim7.holds Tryd.pinned (.plain (OpenSpec.ofChange signPrintsSpec)) signPrintsCard

/-- THE TIED CARD OF 'lathelaw10.SignBack'. -/
def signBackCard : Claim7 := { stood := { row := signBackRow, standIns := [], harness := (true, "4c6bd5eebf667585fe6a7f29b7093e409fbebc4b9c3c09f10b4d16229b3e35c4"), looks := true }, kinds := [], alts := [], laidByText := true, laidKinds := [.data, .data, .data, .data, .sentinel, .sentinel, .pinned], laidTests := true, laidLooks := .later }
def SignBackCardSaid : Prop := Claim7.holds Tryd.pinned (.plain (OpenSpec.ofChange signBackSpec)) signBackCard

/-- THE TIED CARD OF 'lathelaw10.SignOwn'. -/
def signOwnCard : Claim7 := { stood := { row := signOwnRow, standIns := [], harness := (true, "4c6bd5eebf667585fe6a7f29b7093e409fbebc4b9c3c09f10b4d16229b3e35c4"), looks := true }, kinds := [], alts := [], laidByText := true, laidKinds := [.data, .data, .data, .data, .sentinel, .sentinel, .pinned], laidTests := true, laidLooks := .later }
def SignOwnCardSaid : Prop := Claim7.holds Tryd.pinned (.plain (OpenSpec.ofChange signOwnSpec)) signOwnCard

/-- THE TIED CARD OF 'lathelaw10.SignChecks'. -/
def signChecksCard : Claim7 := { stood := { row := signChecksRow, standIns := [], harness := (true, "4c6bd5eebf667585fe6a7f29b7093e409fbebc4b9c3c09f10b4d16229b3e35c4"), looks := true }, kinds := [], alts := [], laidByText := true, laidKinds := [.data, .data, .data, .data, .sentinel, .sentinel, .pinned], laidTests := true, laidLooks := .later }
def SignChecksCardSaid : Prop := Claim7.holds Tryd.pinned (.plain (OpenSpec.ofChange signChecksSpec)) signChecksCard

/-- THE TIED CARD OF 'lathelaw10.SignFits'. -/
def signFitsCard : Claim7 := { stood := { row := signFitsRow, standIns := [], harness := (true, "4c6bd5eebf667585fe6a7f29b7093e409fbebc4b9c3c09f10b4d16229b3e35c4"), looks := true }, kinds := [], alts := [], laidByText := true, laidKinds := [.data, .data, .data, .data, .sentinel, .sentinel, .pinned], laidTests := true, laidLooks := .later }
def SignFitsCardSaid : Prop := Claim7.holds Tryd.pinned (.plain (OpenSpec.ofChange signFitsSpec)) signFitsCard

/-- THE SECOND FORM's CARD OF 'lathelaw10.SignReads'. -/
def signReadsUptoCard : Claim7 := { stood := { row := signReadsUptoRow, standIns := [], harness := (true, "4c6bd5eebf667585fe6a7f29b7093e409fbebc4b9c3c09f10b4d16229b3e35c4"), looks := true }, kinds := [], alts := [], laidByText := true, laidKinds := [.data, .data, .data, .data, .sentinel, .sentinel, .pinned], laidTests := true, laidLooks := .later }
def SignReadsUptoCardSaid : Prop := Claim7.holds Tryd.pinned (.plain (OpenSpec.upto signReadsSpec)) signReadsUptoCard

/-- THE SECOND FORM's CARD OF 'lathelaw10.SignPrints'. -/
def signPrintsUptoCard : Claim7 := { stood := { row := signPrintsUptoRow, standIns := [], harness := (true, "4c6bd5eebf667585fe6a7f29b7093e409fbebc4b9c3c09f10b4d16229b3e35c4"), looks := true }, kinds := [], alts := [], laidByText := true, laidKinds := [.data, .data, .data, .data, .sentinel, .sentinel, .pinned], laidTests := true, laidLooks := .later }
def SignPrintsUptoCardSaid : Prop := Claim7.holds Tryd.pinned (.plain (OpenSpec.upto signPrintsSpec)) signPrintsUptoCard

/-- THE SECOND FORM's CARD OF 'lathelaw10.SignBack'. -/
def signBackUptoCard : Claim7 := { stood := { row := signBackUptoRow, standIns := [], harness := (true, "4c6bd5eebf667585fe6a7f29b7093e409fbebc4b9c3c09f10b4d16229b3e35c4"), looks := true }, kinds := [], alts := [], laidByText := true, laidKinds := [.data, .data, .data, .data, .sentinel, .sentinel, .pinned], laidTests := true, laidLooks := .later }
def SignBackUptoCardSaid : Prop := Claim7.holds Tryd.pinned (.plain (OpenSpec.upto signBackSpec)) signBackUptoCard

/-- THE SECOND FORM's CARD OF 'lathelaw10.SignOwn'. -/
def signOwnUptoCard : Claim7 := { stood := { row := signOwnUptoRow, standIns := [], harness := (true, "4c6bd5eebf667585fe6a7f29b7093e409fbebc4b9c3c09f10b4d16229b3e35c4"), looks := true }, kinds := [], alts := [], laidByText := true, laidKinds := [.data, .data, .data, .data, .sentinel, .sentinel, .pinned], laidTests := true, laidLooks := .later }
def SignOwnUptoCardSaid : Prop := Claim7.holds Tryd.pinned (.plain (OpenSpec.upto signOwnSpec)) signOwnUptoCard

/-- THE SECOND FORM's CARD OF 'lathelaw10.SignChecks'. -/
def signChecksUptoCard : Claim7 := { stood := { row := signChecksUptoRow, standIns := [], harness := (true, "4c6bd5eebf667585fe6a7f29b7093e409fbebc4b9c3c09f10b4d16229b3e35c4"), looks := true }, kinds := [], alts := [], laidByText := true, laidKinds := [.data, .data, .data, .data, .sentinel, .sentinel, .pinned], laidTests := true, laidLooks := .later }
def SignChecksUptoCardSaid : Prop := Claim7.holds Tryd.pinned (.plain (OpenSpec.upto signChecksSpec)) signChecksUptoCard

/-- THE SECOND FORM's CARD OF 'lathelaw10.SignFits'. -/
def signFitsUptoCard : Claim7 := { stood := { row := signFitsUptoRow, standIns := [], harness := (true, "4c6bd5eebf667585fe6a7f29b7093e409fbebc4b9c3c09f10b4d16229b3e35c4"), looks := true }, kinds := [], alts := [], laidByText := true, laidKinds := [.data, .data, .data, .data, .sentinel, .sentinel, .pinned], laidTests := true, laidLooks := .later }
def SignFitsUptoCardSaid : Prop := Claim7.holds Tryd.pinned (.plain (OpenSpec.upto signFitsSpec)) signFitsUptoCard
end Rows
end Go.Proofs.YtojlooflfojdlaaDoor
