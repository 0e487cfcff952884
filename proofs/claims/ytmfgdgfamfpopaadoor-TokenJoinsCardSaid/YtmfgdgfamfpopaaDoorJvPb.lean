/- Part of a proof: TokenJoins: whatever the input, the law returns true: token.Join is the definition's, of any tokens. No condition. -/
import Derived.Test.YtmfgdgfamfpopaaDoorJvLb
import Derived.Test.YtmfgdgfamfpopaaDoorJvRwB
namespace Go.Proofs.YtmfgdgfamfpopaaDoor
theorem token_joins : Rows.TokenJoinsCardSaid := card3 Go.Av.law3
end Go.Proofs.YtmfgdgfamfpopaaDoor
