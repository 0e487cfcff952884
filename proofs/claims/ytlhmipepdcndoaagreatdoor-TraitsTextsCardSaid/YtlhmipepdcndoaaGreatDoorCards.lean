/-
  DERIVED. GIVEN WITH THE SEED: THE CARDS: each row of YtlhmipepdcndoaaGreatDoorRows.lean that lists a variable, with what it lists TIED to the program's text (the seventh form; the later family's looks); each row that meets fmt, with fmt's text TOLD by the authors' own Lean function (tested against real Go, not proved from fmt's source: count such statements apart). THE CARD IS WHAT COUNTS. Prove the row's statement (the work); the ties are given (YtlhmipepdcndoaaGreatDoorTie.lean); close each card by the builder's one call (the guide's Derived/Test/ToyasCard.lean, 'card_holds'). Laid BY PROGRAM, IN A SANDBOX (cutbox-door.mjs). By AI agents, Wed Nov 11 2026. No macro, syntax, notation, axiom, sorry.
-/
import Derived.Test.YtlhmipepdcndoaaGreatDoorRows
import GoSem.ClaimSeven
namespace Go.Proofs.YtlhmipepdcndoaaGreatDoor
namespace Rows

/-- THE TIED CARD OF 'tacticianlaw18.TraitsHolds'. -/
def traitsHoldsCard : Claim7 := { stood := { row := traitsHoldsRow, standIns := [], harness := (true, "a88517162081794c037424183683324f204b79802887d50800a29043c79a80d5"), looks := true }, kinds := [], alts := [], laidByText := true, laidKinds := [.data, .data, .data, .data, .pinned], laidTests := true, laidLooks := .later }
def TraitsHoldsCardSaid : Prop := Claim7.holds Tryz.pinned (.plain (OpenSpec.ofChange traitsHoldsSpec)) traitsHoldsCard

/-- THE TIED CARD OF 'tacticianlaw18.TraitsTexts'. -/
def traitsTextsCard : Claim7 := { stood := { row := traitsTextsRow, standIns := [], harness := (true, "a88517162081794c037424183683324f204b79802887d50800a29043c79a80d5"), looks := true }, kinds := [], alts := [], laidByText := true, laidKinds := [.data, .data, .data, .sentinel, .sentinel, .listed, .data], laidTests := true, laidLooks := .later }
def TraitsTextsCardSaid : Prop := Claim7.holds Tryz.pinned (.plain (OpenSpec.ofChange traitsTextsSpec)) traitsTextsCard

/-- THE SECOND FORM's CARD OF 'tacticianlaw18.TraitsHolds'. -/
def traitsHoldsUptoCard : Claim7 := { stood := { row := traitsHoldsUptoRow, standIns := [], harness := (true, "a88517162081794c037424183683324f204b79802887d50800a29043c79a80d5"), looks := true }, kinds := [], alts := [], laidByText := true, laidKinds := [.data, .data, .data, .data, .pinned], laidTests := true, laidLooks := .later }
def TraitsHoldsUptoCardSaid : Prop := Claim7.holds Tryz.pinned (.plain (OpenSpec.upto traitsHoldsSpec)) traitsHoldsUptoCard

/-- THE SECOND FORM's CARD OF 'tacticianlaw18.TraitsTexts'. -/
def traitsTextsUptoCard : Claim7 := { stood := { row := traitsTextsUptoRow, standIns := [], harness := (true, "a88517162081794c037424183683324f204b79802887d50800a29043c79a80d5"), looks := true }, kinds := [], alts := [], laidByText := true, laidKinds := [.data, .data, .data, .sentinel, .sentinel, .listed, .data], laidTests := true, laidLooks := .later }
def TraitsTextsUptoCardSaid : Prop := Claim7.holds Tryz.pinned (.plain (OpenSpec.upto traitsTextsSpec)) traitsTextsUptoCard
end Rows
end Go.Proofs.YtlhmipepdcndoaaGreatDoor
