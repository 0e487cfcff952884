/- Part of a proof: Head, fixed, Settled, Reduce of the definition. -/
import Derived.Test.YtlhmipepdcndoaaGreatDoorZvMc
set_option maxRecDepth 100000
set_option linter.unusedSimpArgs false
set_option linter.unusedVariables false
namespace Go.Av
open Go Go.Proofs

/-- What is known is right for n columns. -/
structure Dep.InN (d : Dep) (n : Nat) : Prop where
  n16 : n ≤ 16
  e : ∀ p ∈ d.equal, inN n p
  el : d.equal.length ≤ 9223372036854775807
  c : ∀ c ∈ d.consts, 0 ≤ c ∧ c < n
  cl : d.consts.length ≤ 9223372036854775807
  s : ∀ set ∈ d.sets, set.length ≤ 9223372036854775807 ∧ ∀ c ∈ set, 0 ≤ c ∧ c < n
  sl : d.sets.length ≤ 9223372036854775807
theorem Dep.InN.in {d : Dep} {n : Nat} (h : d.InN n) : d.In :=
  ⟨fun p hp => inP_of h.n16 (h.e p hp), h.el, fun c hc => ⟨(h.c c hc).1, by have := (h.c c hc).2; have := h.n16; omega⟩, h.cl, fun s hs => ⟨(h.s s hs).1, fun c hc => ⟨((h.s s hs).2 c hc).1, by have := ((h.s s hs).2 c hc).2; have := h.n16; omega⟩⟩, h.sl⟩
theorem good_of {d : Dep} (hd : d.In) : Good d.equal (hOf d.equal) := by
  obtain ⟨h', _, H, q, m⟩ := c140 d [] hd.e hd.el (lowQ0 d.equal) (fun h p H q hp => lowQ_step hd.e h p H q hp)
  exact hOf_good ⟨H, q, m⟩

/-! ### fixed -/
/-! ### Head -/
/-! ### Settled -/
def l55 (d : Dep) : Locs := [(5, { cells := [intsAV d.consts, pairsAV d.equal, setsAV d.sets], own := [] })]
/-! ### Reduce -/
end Go.Av
