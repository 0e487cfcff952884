/- Part of a proof: TokenReads: whatever the input, the law returns true: token.Tokens answers as the definition does, or with the error that it asks for. No condition. -/
import Derived.Test.YtmfgdgfamfpopaaGreatDoorKvLe
import Derived.Test.YtmfgdgfamfpopaaGreatDoorKvRwE
namespace Go.Proofs.YtmfgdgfamfpopaaGreatDoor
theorem token_reads : Rows.TokenReadsCardSaid := card3 Go.Av.law3
end Go.Proofs.YtmfgdgfamfpopaaGreatDoor
