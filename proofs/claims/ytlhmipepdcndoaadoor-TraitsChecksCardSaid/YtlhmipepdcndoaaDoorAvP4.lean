/- Part of a proof: TraitsChecks: Check of any number of columns, knowledge and keys answers what the definition asks. No condition. -/
import Derived.Test.YtlhmipepdcndoaaDoorAvRw
import Derived.Test.YtlhmipepdcndoaaDoorAvL4
namespace Go.Proofs.YtlhmipepdcndoaaDoor
open Go Go.Av
theorem traits_checks : Rows.TraitsChecksCardSaid := card4 law4
end Go.Proofs.YtlhmipepdcndoaaDoor
