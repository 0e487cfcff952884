/- Part of a proof: TraitsRows: rows of columns of rows in the order of keys are in the order of Through. No condition. -/
import Derived.Test.YtlhmipepdcndoaaDoorAvRw7
import Derived.Test.YtlhmipepdcndoaaDoorAvL7
namespace Go.Proofs.YtlhmipepdcndoaaDoor
open Go Go.Av
theorem traits_rows : Rows.TraitsRowsCardSaid := card7 law7
end Go.Proofs.YtlhmipepdcndoaaDoor
