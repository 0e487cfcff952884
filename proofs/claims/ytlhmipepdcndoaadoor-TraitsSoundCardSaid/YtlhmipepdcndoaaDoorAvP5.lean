/- Part of a proof: TraitsSound: where knowledge holds of rows, keys and what is left of them order alike; what is implied is in order; Both is both. No condition. -/
import Derived.Test.YtlhmipepdcndoaaDoorAvRw5
import Derived.Test.YtlhmipepdcndoaaDoorAvL5
namespace Go.Proofs.YtlhmipepdcndoaaDoor
open Go Go.Av
theorem traits_sound : Rows.TraitsSoundCardSaid := card5 law5
end Go.Proofs.YtlhmipepdcndoaaDoor
