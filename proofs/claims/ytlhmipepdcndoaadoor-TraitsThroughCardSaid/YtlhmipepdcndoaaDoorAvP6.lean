/- Part of a proof: TraitsThrough: Full of any keys, and Through of any expressions, answer what the definition asks, or its error. No condition. -/
import Derived.Test.YtlhmipepdcndoaaDoorAvRw6
import Derived.Test.YtlhmipepdcndoaaDoorAvL6
namespace Go.Proofs.YtlhmipepdcndoaaDoor
open Go Go.Av
theorem traits_through : Rows.TraitsThroughCardSaid := card6 law6
end Go.Proofs.YtlhmipepdcndoaaDoor
