/-
  DERIVED. GIVEN WITH THE SEED: THE CARDS: each row of YtdcknoijcepibaaGreatDoorRows.lean that lists a variable, with what it lists TIED to the program's text (the seventh form; the later family's looks); each row that meets fmt, with fmt's text TOLD by the authors' own Lean function (tested against real Go, not proved from fmt's source: count such statements apart). THE CARD IS WHAT COUNTS. Prove the row's statement (the work); the ties are given (YtdcknoijcepibaaGreatDoorTie.lean); close each card by the builder's one call (the guide's Derived/Test/ToyasCard.lean, 'card_holds'). Laid BY PROGRAM, IN A SANDBOX (cutbox-door.mjs). By AI agents, Wed Nov 11 2026. No macro, syntax, notation, axiom, sorry.
-/
import Derived.Test.YtdcknoijcepibaaGreatDoorRows
import GoSem.ClaimSeven
namespace Go.Proofs.YtdcknoijcepibaaGreatDoor
namespace Rows

/-- THE TIED CARD OF 'tacticianlaw09.SyntaxParses'. -/
def syntaxParsesCard : Claim7 := { stood := { row := syntaxParsesRow, standIns := [], harness := (true, "b47d97daa00f40ac8631ed715aaa2e31548ee5a3744f34b8305c838281af7993"), looks := true }, kinds := [], alts := [], laidByText := true, laidKinds := [.data, .data, .data, .data, .sentinel, .sentinel, .listed, .data, .pinned], laidTests := true, laidLooks := .later }
def SyntaxParsesCardSaid : Prop := Claim7.holds Tryz.pinned (.plain (OpenSpec.ofChange syntaxParsesSpec)) syntaxParsesCard

/-- THE TIED CARD OF 'tacticianlaw09.SyntaxStrings'. -/
def syntaxStringsCard : Claim7 := { stood := { row := syntaxStringsRow, standIns := [], harness := (true, "b47d97daa00f40ac8631ed715aaa2e31548ee5a3744f34b8305c838281af7993"), looks := true }, kinds := [], alts := [], laidByText := true, laidKinds := [.data, .data, .data, .data, .sentinel, .sentinel, .listed, .data, .pinned], laidTests := true, laidLooks := .later }
def SyntaxStringsCardSaid : Prop := Claim7.holds Tryz.pinned (.plain (OpenSpec.ofChange syntaxStringsSpec)) syntaxStringsCard

/-- THE TIED CARD OF 'tacticianlaw09.SyntaxSames'. -/
def syntaxSamesCard : Claim7 := { stood := { row := syntaxSamesRow, standIns := [], harness := (true, "b47d97daa00f40ac8631ed715aaa2e31548ee5a3744f34b8305c838281af7993"), looks := true }, kinds := [], alts := [], laidByText := true, laidKinds := [.data, .data, .data, .data, .sentinel, .sentinel, .listed, .data, .pinned], laidTests := true, laidLooks := .later }
def SyntaxSamesCardSaid : Prop := Claim7.holds Tryz.pinned (.plain (OpenSpec.ofChange syntaxSamesSpec)) syntaxSamesCard

/-- THE TIED CARD OF 'tacticianlaw09.SyntaxBack'. -/
def syntaxBackCard : Claim7 := { stood := { row := syntaxBackRow, standIns := [], harness := (true, "b47d97daa00f40ac8631ed715aaa2e31548ee5a3744f34b8305c838281af7993"), looks := true }, kinds := [], alts := [], laidByText := true, laidKinds := [.data, .data, .data, .data, .sentinel, .sentinel, .listed, .data, .pinned], laidTests := true, laidLooks := .later }
def SyntaxBackCardSaid : Prop := Claim7.holds Tryz.pinned (.plain (OpenSpec.ofChange syntaxBackSpec)) syntaxBackCard

/-- THE TIED CARD OF 'tacticianlaw09.SyntaxOwn'. -/
def syntaxOwnCard : Claim7 := { stood := { row := syntaxOwnRow, standIns := [], harness := (true, "b47d97daa00f40ac8631ed715aaa2e31548ee5a3744f34b8305c838281af7993"), looks := true }, kinds := [], alts := [], laidByText := true, laidKinds := [.data, .data, .data, .data, .sentinel, .sentinel, .listed, .data, .pinned], laidTests := true, laidLooks := .later }
def SyntaxOwnCardSaid : Prop := Claim7.holds Tryz.pinned (.plain (OpenSpec.ofChange syntaxOwnSpec)) syntaxOwnCard

/-- THE SECOND FORM's CARD OF 'tacticianlaw09.SyntaxParses'. -/
def syntaxParsesUptoCard : Claim7 := { stood := { row := syntaxParsesUptoRow, standIns := [], harness := (true, "b47d97daa00f40ac8631ed715aaa2e31548ee5a3744f34b8305c838281af7993"), looks := true }, kinds := [], alts := [], laidByText := true, laidKinds := [.data, .data, .data, .data, .sentinel, .sentinel, .listed, .data, .pinned], laidTests := true, laidLooks := .later }
def SyntaxParsesUptoCardSaid : Prop := Claim7.holds Tryz.pinned (.plain (OpenSpec.upto syntaxParsesSpec)) syntaxParsesUptoCard

/-- THE SECOND FORM's CARD OF 'tacticianlaw09.SyntaxStrings'. -/
def syntaxStringsUptoCard : Claim7 := { stood := { row := syntaxStringsUptoRow, standIns := [], harness := (true, "b47d97daa00f40ac8631ed715aaa2e31548ee5a3744f34b8305c838281af7993"), looks := true }, kinds := [], alts := [], laidByText := true, laidKinds := [.data, .data, .data, .data, .sentinel, .sentinel, .listed, .data, .pinned], laidTests := true, laidLooks := .later }
def SyntaxStringsUptoCardSaid : Prop := Claim7.holds Tryz.pinned (.plain (OpenSpec.upto syntaxStringsSpec)) syntaxStringsUptoCard

/-- THE SECOND FORM's CARD OF 'tacticianlaw09.SyntaxSames'. -/
def syntaxSamesUptoCard : Claim7 := { stood := { row := syntaxSamesUptoRow, standIns := [], harness := (true, "b47d97daa00f40ac8631ed715aaa2e31548ee5a3744f34b8305c838281af7993"), looks := true }, kinds := [], alts := [], laidByText := true, laidKinds := [.data, .data, .data, .data, .sentinel, .sentinel, .listed, .data, .pinned], laidTests := true, laidLooks := .later }
def SyntaxSamesUptoCardSaid : Prop := Claim7.holds Tryz.pinned (.plain (OpenSpec.upto syntaxSamesSpec)) syntaxSamesUptoCard

/-- THE SECOND FORM's CARD OF 'tacticianlaw09.SyntaxBack'. -/
def syntaxBackUptoCard : Claim7 := { stood := { row := syntaxBackUptoRow, standIns := [], harness := (true, "b47d97daa00f40ac8631ed715aaa2e31548ee5a3744f34b8305c838281af7993"), looks := true }, kinds := [], alts := [], laidByText := true, laidKinds := [.data, .data, .data, .data, .sentinel, .sentinel, .listed, .data, .pinned], laidTests := true, laidLooks := .later }
def SyntaxBackUptoCardSaid : Prop := Claim7.holds Tryz.pinned (.plain (OpenSpec.upto syntaxBackSpec)) syntaxBackUptoCard

/-- THE SECOND FORM's CARD OF 'tacticianlaw09.SyntaxOwn'. -/
def syntaxOwnUptoCard : Claim7 := { stood := { row := syntaxOwnUptoRow, standIns := [], harness := (true, "b47d97daa00f40ac8631ed715aaa2e31548ee5a3744f34b8305c838281af7993"), looks := true }, kinds := [], alts := [], laidByText := true, laidKinds := [.data, .data, .data, .data, .sentinel, .sentinel, .listed, .data, .pinned], laidTests := true, laidLooks := .later }
def SyntaxOwnUptoCardSaid : Prop := Claim7.holds Tryz.pinned (.plain (OpenSpec.upto syntaxOwnSpec)) syntaxOwnUptoCard
end Rows
end Go.Proofs.YtdcknoijcepibaaGreatDoor
