/- Part of a proof: TraitsReduces: Reduce, Implies, Common and Both of any knowledge and keys answer what the definition asks, or its error. No condition. -/
import Derived.Test.YtlhmipepdcndoaaDoorAvRw8
import Derived.Test.YtlhmipepdcndoaaDoorAvL8
namespace Go.Proofs.YtlhmipepdcndoaaDoor
open Go Go.Av
theorem traits_reduces : Rows.TraitsReducesCardSaid := card8 law8
end Go.Proofs.YtlhmipepdcndoaaDoor
