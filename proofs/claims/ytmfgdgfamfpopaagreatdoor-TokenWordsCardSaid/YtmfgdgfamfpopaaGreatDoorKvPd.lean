/- Part of a proof: TokenWords: whatever the input, the law returns true: token's IsName, IsWord and Words are the definition's. No condition. -/
import Derived.Test.YtmfgdgfamfpopaaGreatDoorKvLd
import Derived.Test.YtmfgdgfamfpopaaGreatDoorKvRwD
namespace Go.Proofs.YtmfgdgfamfpopaaGreatDoor
theorem token_words : Rows.TokenWordsCardSaid := card4 Go.Av.law4
end Go.Proofs.YtmfgdgfamfpopaaGreatDoor
