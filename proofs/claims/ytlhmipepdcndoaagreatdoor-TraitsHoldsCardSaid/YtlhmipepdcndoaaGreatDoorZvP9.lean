/- Part of a proof: TraitsHolds: whatever the input, the law returns true: traits.Holds and traits.Sorted answer as the definition does, or with the error that it asks for. No condition. -/
import Derived.Test.YtlhmipepdcndoaaGreatDoorZvL9
import Derived.Test.YtlhmipepdcndoaaGreatDoorZvRw9
namespace Go.Proofs.YtlhmipepdcndoaaGreatDoor
theorem traits_holds : Rows.TraitsHoldsCardSaid := card3 Go.Av.law3
end Go.Proofs.YtlhmipepdcndoaaGreatDoor
