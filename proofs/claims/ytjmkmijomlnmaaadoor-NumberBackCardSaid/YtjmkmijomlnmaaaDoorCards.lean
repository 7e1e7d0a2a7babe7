/-
  DERIVED. GIVEN WITH THE SEED: THE CARDS: each row of YtjmkmijomlnmaaaDoorRows.lean that lists a variable, with what it lists TIED to the program's text (the seventh form; the later family's looks); each row that meets fmt, with fmt's text TOLD by the authors' own Lean function (tested against real Go, not proved from fmt's source: count such statements apart). THE CARD IS WHAT COUNTS. Prove the row's statement (the work); the ties are given (YtjmkmijomlnmaaaDoorTie.lean); close each card by the builder's one call (the guide's Derived/Test/ToyasCard.lean, 'card_holds'). Laid BY PROGRAM, IN A SANDBOX (cutbox-door.mjs). By AI agents, Wed Nov 11 2026. No macro, syntax, notation, axiom, sorry.
-/
import Derived.Test.YtjmkmijomlnmaaaDoorRows
import GoSem.ClaimSeven
namespace Go.Proofs.YtjmkmijomlnmaaaDoor
namespace Rows

/-- THE TIED CARD OF 'consulatelaw04.NumberReads'. -/
def numberReadsCard : Claim7 := { stood := { row := numberReadsRow, standIns := [], harness := (true, "742017870f38002bff7d3e17907b67a14294613a5c861406fd65c0e32cba7c24"), looks := true }, kinds := [], alts := [], laidByText := true, laidKinds := [.data, .data, .data, .data, .sentinel, .sentinel, .pinned], laidTests := true, laidLooks := .later }
def NumberReadsCardSaid : Prop := Claim7.holds Tryd.pinned (.plain (OpenSpec.ofChange numberReadsSpec)) numberReadsCard

/-- THE TIED CARD OF 'consulatelaw04.NumberShort'. -/
def numberShortCard : Claim7 := { stood := { row := numberShortRow, standIns := [], harness := (true, "742017870f38002bff7d3e17907b67a14294613a5c861406fd65c0e32cba7c24"), looks := true }, kinds := [], alts := [], laidByText := true, laidKinds := [.data, .data, .data, .data, .sentinel, .sentinel, .pinned], laidTests := true, laidLooks := .later }
def NumberShortCardSaid : Prop := Claim7.holds Tryd.pinned (.plain (OpenSpec.ofChange numberShortSpec)) numberShortCard

/-- THE TIED CARD OF 'consulatelaw04.NumberBack'. -/
def numberBackCard : Claim7 := { stood := { row := numberBackRow, standIns := [], harness := (true, "742017870f38002bff7d3e17907b67a14294613a5c861406fd65c0e32cba7c24"), looks := true }, kinds := [], alts := [], laidByText := true, laidKinds := [.data, .data, .data, .data, .sentinel, .sentinel, .pinned], laidTests := true, laidLooks := .later }
def NumberBackCardSaid : Prop := Claim7.holds Tryd.pinned (.plain (OpenSpec.ofChange numberBackSpec)) numberBackCard

/-- THE TIED CARD OF 'consulatelaw04.NumberTells'. -/
def numberTellsCard : Claim7 := { stood := { row := numberTellsRow, standIns := [], harness := (true, "742017870f38002bff7d3e17907b67a14294613a5c861406fd65c0e32cba7c24"), looks := true }, kinds := [], alts := [], laidByText := true, laidKinds := [.data, .data, .data, .data, .sentinel, .sentinel, .data, .pinned], laidTests := true, laidLooks := .later }
def NumberTellsCardSaid : Prop := Claim7.holds Tryd.pinned (.plain (OpenSpec.ofChange numberTellsSpec)) numberTellsCard

/-- THE SECOND FORM's CARD OF 'consulatelaw04.NumberReads'. -/
def numberReadsUptoCard : Claim7 := { stood := { row := numberReadsUptoRow, standIns := [], harness := (true, "742017870f38002bff7d3e17907b67a14294613a5c861406fd65c0e32cba7c24"), looks := true }, kinds := [], alts := [], laidByText := true, laidKinds := [.data, .data, .data, .data, .sentinel, .sentinel, .pinned], laidTests := true, laidLooks := .later }
def NumberReadsUptoCardSaid : Prop := Claim7.holds Tryd.pinned (.plain (OpenSpec.upto numberReadsSpec)) numberReadsUptoCard

/-- THE SECOND FORM's CARD OF 'consulatelaw04.NumberShort'. -/
def numberShortUptoCard : Claim7 := { stood := { row := numberShortUptoRow, standIns := [], harness := (true, "742017870f38002bff7d3e17907b67a14294613a5c861406fd65c0e32cba7c24"), looks := true }, kinds := [], alts := [], laidByText := true, laidKinds := [.data, .data, .data, .data, .sentinel, .sentinel, .pinned], laidTests := true, laidLooks := .later }
def NumberShortUptoCardSaid : Prop := Claim7.holds Tryd.pinned (.plain (OpenSpec.upto numberShortSpec)) numberShortUptoCard

/-- THE SECOND FORM's CARD OF 'consulatelaw04.NumberBack'. -/
def numberBackUptoCard : Claim7 := { stood := { row := numberBackUptoRow, standIns := [], harness := (true, "742017870f38002bff7d3e17907b67a14294613a5c861406fd65c0e32cba7c24"), looks := true }, kinds := [], alts := [], laidByText := true, laidKinds := [.data, .data, .data, .data, .sentinel, .sentinel, .pinned], laidTests := true, laidLooks := .later }
def NumberBackUptoCardSaid : Prop := Claim7.holds Tryd.pinned (.plain (OpenSpec.upto numberBackSpec)) numberBackUptoCard

/-- THE SECOND FORM's CARD OF 'consulatelaw04.NumberTells'. -/
def numberTellsUptoCard : Claim7 := { stood := { row := numberTellsUptoRow, standIns := [], harness := (true, "742017870f38002bff7d3e17907b67a14294613a5c861406fd65c0e32cba7c24"), looks := true }, kinds := [], alts := [], laidByText := true, laidKinds := [.data, .data, .data, .data, .sentinel, .sentinel, .data, .pinned], laidTests := true, laidLooks := .later }
def NumberTellsUptoCardSaid : Prop := Claim7.holds Tryd.pinned (.plain (OpenSpec.upto numberTellsSpec)) numberTellsUptoCard
end Rows
end Go.Proofs.YtjmkmijomlnmaaaDoor
