/- Part of a proof: TokenReads: the law. -/
import Derived.Test.YtmfgdgfamfpopaaGreatDoorKvNh
import Derived.Test.YtmfgdgfamfpopaaGreatDoorKvTy
set_option maxRecDepth 100000
namespace Go.Av
open Go Go.Proofs Go.RowKit
theorem law3 : LawTrue Tryz.prog 3 Tryz.f3.params.toList LaidV :=
  lawTrue_of fun W hW => ⟨_, run_law1 hW 3, fun args hl hty => by
    rw [Tryz.params3] at hl hty
    match args, hl with
    | [a], _ =>
      obtain ⟨s, rfl, hs⟩ := (hty 0 _ a rfl rfl).str_inv Tryz.underlying9
      refine ⟨[], none, ?_⟩
      rw [bs_of s]
      exact c3 s.data.toList (by have : s.data.toList.length = s.size := rfl; simp only [maxLen] at hs; omega)⟩
end Go.Av
