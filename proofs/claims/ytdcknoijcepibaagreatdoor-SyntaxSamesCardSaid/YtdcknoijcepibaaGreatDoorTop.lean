/- SyntaxSames: whatever two trees are handed in, the law returns true: syntax.Same answers as the definition's Same does, and a tree is the same as itself. No condition. -/
import Derived.Test.YtdcknoijcepibaaGreatDoorQ19
import Derived.Test.YtdcknoijcepibaaGreatDoorQ20
namespace Go.Proofs.YtdcknoijcepibaaGreatDoor
theorem syntax_sames : Rows.SyntaxSamesCardSaid:=card5 Go.Av.law5
end Go.Proofs.YtdcknoijcepibaaGreatDoor
