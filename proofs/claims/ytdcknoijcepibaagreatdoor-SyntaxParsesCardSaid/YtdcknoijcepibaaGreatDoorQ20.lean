/- Part of syntax_parses. -/
import Derived.Test.YtdcknoijcepibaaGreatDoorQ8
import Derived.Test.YtdcknoijcepibaaGreatDoorQ2
set_option linter.unusedSimpArgs false
set_option linter.unusedVariables false
set_option maxRecDepth 100000
namespace Go.Av
open Go Go.Proofs
theorem HasTy.str_inv{P:Program}{t:TypeId}{a:AV}(hu:P.underlying t=some .string)(h:HasTy P t a):∃s,a=.str s∧s.size≤maxLen:=by
 cases h with
 | str s h hs=>exact⟨s,rfl,hs⟩
 | bool b h=>rw[hu]at h;cases h
 | int k' n h hw=>rw[hu]at h;cases h
 | slice es h=>rw[hu]at h;cases h
 | struct cs h=>rw[hu]at h;cases h
 | array cs h=>rw[hu]at h;cases h
end Go.Av
