/- Part of a proof: TraitsSettled: Reduce of Reduce is the same, Implies leads on, each list implies its beginnings, and the full order leaves one order alone. No condition. -/
import Derived.Test.YtlhmipepdcndoaaDoorAvRw3
import Derived.Test.YtlhmipepdcndoaaDoorAvL3
namespace Go.Proofs.YtlhmipepdcndoaaDoor
open Go Go.Av
theorem traits_settled : Rows.TraitsSettledCardSaid := card3 law3
end Go.Proofs.YtlhmipepdcndoaaDoor
