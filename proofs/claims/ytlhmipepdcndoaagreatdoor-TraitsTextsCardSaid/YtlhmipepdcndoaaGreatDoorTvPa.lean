/- Part of a proof: TraitsTexts: whatever the input, the law returns true: traits.String and traits.Parse answer as the definition does, or with the error that it asks for. No condition. -/
import Derived.Test.YtlhmipepdcndoaaGreatDoorTvLa
import Derived.Test.YtlhmipepdcndoaaGreatDoorTvRwA
namespace Go.Proofs.YtlhmipepdcndoaaGreatDoor
theorem traits_texts : Rows.TraitsTextsCardSaid := card4 Go.Av.law4
end Go.Proofs.YtlhmipepdcndoaaGreatDoor
