/- Part of a proof: TokenAgain: whatever the input, the law returns true: the tokens of what is joined are the tokens again; tokens stand where they say. No condition. -/
import Derived.Test.YtmfgdgfamfpopaaDoorJvLc
import Derived.Test.YtmfgdgfamfpopaaDoorJvRwC
namespace Go.Proofs.YtmfgdgfamfpopaaDoor
theorem token_again : Rows.TokenAgainCardSaid := card4 Go.Av.law4
end Go.Proofs.YtmfgdgfamfpopaaDoor
