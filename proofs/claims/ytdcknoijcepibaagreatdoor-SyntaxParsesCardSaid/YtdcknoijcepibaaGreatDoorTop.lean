/- SyntaxParses: whatever text is handed in, the law returns true: syntax.Parse of its first bytes (a little more than a query may have) is the tree, or the error, that the definition's Parse is. No condition. -/
import Derived.Test.YtdcknoijcepibaaGreatDoorQ25
import Derived.Test.YtdcknoijcepibaaGreatDoorQ26
namespace Go.Proofs.YtdcknoijcepibaaGreatDoor
theorem syntax_parses : Rows.SyntaxParsesCardSaid:=card3 Go.Av.law3
end Go.Proofs.YtdcknoijcepibaaGreatDoor
