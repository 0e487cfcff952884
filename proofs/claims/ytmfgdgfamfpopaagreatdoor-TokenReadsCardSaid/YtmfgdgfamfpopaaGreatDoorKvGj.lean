/- Part of a proof: The whole table. -/
import Derived.Test.YtmfgdgfamfpopaaGreatDoorKvGi
set_option maxRecDepth 100000
set_option linter.unusedSimpArgs false
set_option linter.unusedVariables false
namespace Go.Av
open Go Go.Proofs Go.RowKit

def tabX1 : List (Nat × Ext') := (5, xTokens) :: tabX
theorem run_sound1 {W0 : World} (hL : LaidV W0) (n : Nat) : RecSound Tryz.prog W0 (crun (tabOf tabA tabX1) n) := tabOf_sound mixed tabA_ok (by
  intro p hp
  simp only [tabX1, tabX, List.mem_cons, List.mem_nil_iff, or_false] at hp
  rcases hp with rfl | rfl | rfl | rfl | rfl | rfl <;> first | exact soundTokens hL | exact sound39 hL | exact sound42 hL | exact sound43 hL | exact sound32 hL | exact sound55 hL) n
end Go.Av
