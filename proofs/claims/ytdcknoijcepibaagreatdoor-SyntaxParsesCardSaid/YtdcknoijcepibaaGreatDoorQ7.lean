/- Part of syntax_parses. -/
import Derived.Test.YtdcknoijcepibaaGreatDoorQ5
import Derived.Test.YtdcknoijcepibaaGreatDoorQ6
set_option maxRecDepth 1000000
namespace Go.Av
open Go Go.Proofs
theorem bjf {f : FuncId} {fn : Func} (h : Tryz.prog.funcs[f]? = some fn) (h1 : (fn.name == "runtime.NumGoroutine") = false) (h2 : fn.body.isNone = false) : bdp Tryz.prog f := ⟨fn, h, h1, h2⟩
end Go.Av
