/-
  DERIVED. GIVEN WITH THE SEED: THE CARDS: each row of YtlhmipepdcndoaaDoorRows.lean that lists a variable, with what it lists TIED to the program's text (the seventh form; the later family's looks); each row that meets fmt, with fmt's text TOLD by the authors' own Lean function (tested against real Go, not proved from fmt's source: count such statements apart). THE CARD IS WHAT COUNTS. Prove the row's statement (the work); the ties are given (YtlhmipepdcndoaaDoorTie.lean); close each card by the builder's one call (the guide's Derived/Test/ToyasCard.lean, 'card_holds'). Laid BY PROGRAM, IN A SANDBOX (cutbox-door.mjs). By AI agents, Wed Nov 11 2026. No macro, syntax, notation, axiom, sorry.
-/
import Derived.Test.YtlhmipepdcndoaaDoorRows
import GoSem.ClaimSeven
namespace Go.Proofs.YtlhmipepdcndoaaDoor
namespace Rows

/-- THE TIED CARD OF 'tacticianlaw18.TraitsSettled'. -/
def traitsSettledCard : Claim7 := { stood := { row := traitsSettledRow, standIns := [], harness := (true, "920397e3bff6b5afeabb586f4b8a739b06cb3040b7f9e59621dc0555dc809e24"), looks := false }, kinds := [], alts := [], laidByText := true, laidKinds := [.data, .data, .data], laidTests := true, laidLooks := .later }
def TraitsSettledCardSaid : Prop := Claim7.holds Tryd.pinned (.plain (OpenSpec.ofChange traitsSettledSpec)) traitsSettledCard

/-- THE TIED CARD OF 'tacticianlaw18.TraitsChecks'. -/
def traitsChecksCard : Claim7 := { stood := { row := traitsChecksRow, standIns := [], harness := (true, "920397e3bff6b5afeabb586f4b8a739b06cb3040b7f9e59621dc0555dc809e24"), looks := false }, kinds := [], alts := [], laidByText := true, laidKinds := [.data, .data, .data], laidTests := true, laidLooks := .later }
def TraitsChecksCardSaid : Prop := Claim7.holds Tryd.pinned (.plain (OpenSpec.ofChange traitsChecksSpec)) traitsChecksCard

/-- THE TIED CARD OF 'tacticianlaw18.TraitsSound'. -/
def traitsSoundCard : Claim7 := { stood := { row := traitsSoundRow, standIns := [], harness := (true, "920397e3bff6b5afeabb586f4b8a739b06cb3040b7f9e59621dc0555dc809e24"), looks := false }, kinds := [], alts := [], laidByText := true, laidKinds := [.data, .data, .data], laidTests := true, laidLooks := .later }
def TraitsSoundCardSaid : Prop := Claim7.holds Tryd.pinned (.plain (OpenSpec.ofChange traitsSoundSpec)) traitsSoundCard

/-- THE TIED CARD OF 'tacticianlaw18.TraitsThrough'. -/
def traitsThroughCard : Claim7 := { stood := { row := traitsThroughRow, standIns := [], harness := (true, "920397e3bff6b5afeabb586f4b8a739b06cb3040b7f9e59621dc0555dc809e24"), looks := false }, kinds := [], alts := [], laidByText := true, laidKinds := [.data, .data, .data], laidTests := true, laidLooks := .later }
def TraitsThroughCardSaid : Prop := Claim7.holds Tryd.pinned (.plain (OpenSpec.ofChange traitsThroughSpec)) traitsThroughCard

/-- THE TIED CARD OF 'tacticianlaw18.TraitsRows'. -/
def traitsRowsCard : Claim7 := { stood := { row := traitsRowsRow, standIns := [], harness := (true, "920397e3bff6b5afeabb586f4b8a739b06cb3040b7f9e59621dc0555dc809e24"), looks := false }, kinds := [], alts := [], laidByText := true, laidKinds := [.data, .data, .data], laidTests := true, laidLooks := .later }
def TraitsRowsCardSaid : Prop := Claim7.holds Tryd.pinned (.plain (OpenSpec.ofChange traitsRowsSpec)) traitsRowsCard

/-- THE TIED CARD OF 'tacticianlaw18.TraitsReduces'. -/
def traitsReducesCard : Claim7 := { stood := { row := traitsReducesRow, standIns := [], harness := (true, "920397e3bff6b5afeabb586f4b8a739b06cb3040b7f9e59621dc0555dc809e24"), looks := false }, kinds := [], alts := [], laidByText := true, laidKinds := [.data, .data, .data], laidTests := true, laidLooks := .later }
def TraitsReducesCardSaid : Prop := Claim7.holds Tryd.pinned (.plain (OpenSpec.ofChange traitsReducesSpec)) traitsReducesCard

/-- THE TIED CARD OF 'tacticianlaw18.TraitsOwn'. -/
def traitsOwnCard : Claim7 := { stood := { row := traitsOwnRow, standIns := [], harness := (true, "920397e3bff6b5afeabb586f4b8a739b06cb3040b7f9e59621dc0555dc809e24"), looks := false }, kinds := [], alts := [], laidByText := true, laidKinds := [.data, .data, .data], laidTests := true, laidLooks := .later }
def TraitsOwnCardSaid : Prop := Claim7.holds Tryd.pinned (.plain (OpenSpec.ofChange traitsOwnSpec)) traitsOwnCard

/-- THE SECOND FORM's CARD OF 'tacticianlaw18.TraitsSettled'. -/
def traitsSettledUptoCard : Claim7 := { stood := { row := traitsSettledUptoRow, standIns := [], harness := (true, "920397e3bff6b5afeabb586f4b8a739b06cb3040b7f9e59621dc0555dc809e24"), looks := false }, kinds := [], alts := [], laidByText := true, laidKinds := [.data, .data, .data], laidTests := true, laidLooks := .later }
def TraitsSettledUptoCardSaid : Prop := Claim7.holds Tryd.pinned (.plain (OpenSpec.upto traitsSettledSpec)) traitsSettledUptoCard

/-- THE SECOND FORM's CARD OF 'tacticianlaw18.TraitsChecks'. -/
def traitsChecksUptoCard : Claim7 := { stood := { row := traitsChecksUptoRow, standIns := [], harness := (true, "920397e3bff6b5afeabb586f4b8a739b06cb3040b7f9e59621dc0555dc809e24"), looks := false }, kinds := [], alts := [], laidByText := true, laidKinds := [.data, .data, .data], laidTests := true, laidLooks := .later }
def TraitsChecksUptoCardSaid : Prop := Claim7.holds Tryd.pinned (.plain (OpenSpec.upto traitsChecksSpec)) traitsChecksUptoCard

/-- THE SECOND FORM's CARD OF 'tacticianlaw18.TraitsSound'. -/
def traitsSoundUptoCard : Claim7 := { stood := { row := traitsSoundUptoRow, standIns := [], harness := (true, "920397e3bff6b5afeabb586f4b8a739b06cb3040b7f9e59621dc0555dc809e24"), looks := false }, kinds := [], alts := [], laidByText := true, laidKinds := [.data, .data, .data], laidTests := true, laidLooks := .later }
def TraitsSoundUptoCardSaid : Prop := Claim7.holds Tryd.pinned (.plain (OpenSpec.upto traitsSoundSpec)) traitsSoundUptoCard

/-- THE SECOND FORM's CARD OF 'tacticianlaw18.TraitsThrough'. -/
def traitsThroughUptoCard : Claim7 := { stood := { row := traitsThroughUptoRow, standIns := [], harness := (true, "920397e3bff6b5afeabb586f4b8a739b06cb3040b7f9e59621dc0555dc809e24"), looks := false }, kinds := [], alts := [], laidByText := true, laidKinds := [.data, .data, .data], laidTests := true, laidLooks := .later }
def TraitsThroughUptoCardSaid : Prop := Claim7.holds Tryd.pinned (.plain (OpenSpec.upto traitsThroughSpec)) traitsThroughUptoCard

/-- THE SECOND FORM's CARD OF 'tacticianlaw18.TraitsRows'. -/
def traitsRowsUptoCard : Claim7 := { stood := { row := traitsRowsUptoRow, standIns := [], harness := (true, "920397e3bff6b5afeabb586f4b8a739b06cb3040b7f9e59621dc0555dc809e24"), looks := false }, kinds := [], alts := [], laidByText := true, laidKinds := [.data, .data, .data], laidTests := true, laidLooks := .later }
def TraitsRowsUptoCardSaid : Prop := Claim7.holds Tryd.pinned (.plain (OpenSpec.upto traitsRowsSpec)) traitsRowsUptoCard

/-- THE SECOND FORM's CARD OF 'tacticianlaw18.TraitsReduces'. -/
def traitsReducesUptoCard : Claim7 := { stood := { row := traitsReducesUptoRow, standIns := [], harness := (true, "920397e3bff6b5afeabb586f4b8a739b06cb3040b7f9e59621dc0555dc809e24"), looks := false }, kinds := [], alts := [], laidByText := true, laidKinds := [.data, .data, .data], laidTests := true, laidLooks := .later }
def TraitsReducesUptoCardSaid : Prop := Claim7.holds Tryd.pinned (.plain (OpenSpec.upto traitsReducesSpec)) traitsReducesUptoCard

/-- THE SECOND FORM's CARD OF 'tacticianlaw18.TraitsOwn'. -/
def traitsOwnUptoCard : Claim7 := { stood := { row := traitsOwnUptoRow, standIns := [], harness := (true, "920397e3bff6b5afeabb586f4b8a739b06cb3040b7f9e59621dc0555dc809e24"), looks := false }, kinds := [], alts := [], laidByText := true, laidKinds := [.data, .data, .data], laidTests := true, laidLooks := .later }
def TraitsOwnUptoCardSaid : Prop := Claim7.holds Tryd.pinned (.plain (OpenSpec.upto traitsOwnSpec)) traitsOwnUptoCard
end Rows
end Go.Proofs.YtlhmipepdcndoaaDoor
