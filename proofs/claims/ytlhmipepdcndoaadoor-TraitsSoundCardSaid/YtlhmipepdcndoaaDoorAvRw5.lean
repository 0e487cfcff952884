/- Part of a proof: The row and the card of TraitsSound, out of its law. -/
import Derived.Test.YtlhmipepdcndoaaDoorRows
import Derived.Test.YtlhmipepdcndoaaDoorCards
import Derived.Test.YtlhmipepdcndoaaDoorTie
import Derived.Test.YtlhmipepdcndoaaDoorAvFx
import Derived.Test.YtlhmipepdcndoaaDoorF2
import Derived.ProofKit
import Derived.LaidMore
import Derived.OpenShut
import Derived.Stop.Joined
import Derived.SevenTiedAt
set_option maxRecDepth 1000000
namespace Go.Proofs.YtlhmipepdcndoaaDoor
open Go Go.Av Go.ChangeShapes Go.WideShapes Go.ChangeAt Go.RowKit Go.WideMaps

theorem own5 : ownKnob Tryd.prog.godebug = none := by kernel_rfl
def laid5v {H : Type} : List (String × DataW H) := [("math/bits.deBruijn32tab", Rows.laid_math_bits_deBruijn32tab), ("math/bits.deBruijn64tab", Rows.laid_math_bits_deBruijn64tab), ("internal/strconv.uint64pow10", Rows.laid_internal_strconv_uint64pow10)]
theorem door5_met (os : Os) (args : Array Value) : laidMetH Tryd.prog laid5v ((World.doorLaid Tryd.prog 400 os).forCall (fun _ _ => 0) ⟨#[], args, []⟩).memory :=
  laidMetH_of_parts3 (fuel := 8) (laidMet_of_run' 8 (by kernel_rfl) (by kernel_rfl)) (by kernel_rfl) (by kernel_rfl)
def seatT5 : List TypeId := [3, 26, 22, 23, 80, 24, 27, 78, 4, 29, 68, 61, 59, 2, 9]
theorem seatT5_ok : ∀ t ∈ seatT5, plainTy Tryd.prog seatT5 t = true := by
  have h : (seatT5.all fun t => plainTy Tryd.prog seatT5 t) = true := by kernel_rfl
  exact List.all_eq_true.1 h

theorem lifted5 (hlaw : LawTrue Tryd.prog 5 Tryd.f5.params.toList fun _ => True) (os : Os) (started : os.Started) (H : Type) (enc : TypeId × Value → H) :
    ReturnsInHanded {} Tryd.checked os 5 .any (fun w args => (Rows.traitsSoundSpec.pre enc Tryd.prog Tryd.f5 [] false w args ∧ laidMetH Tryd.prog laid5v w) ∧ sizedMet enc Tryd.prog Tryd.f5 (OpenSpec.ofChange Rows.traitsSoundSpec) false w args)
      (Rows.traitsSoundSpec.post enc Tryd.prog Tryd.f5 false true false false) := by
  refine returnsInHanded_of_change_and (C := Tryd.checked) (X := fun w _ => laidMetH Tryd.prog laid5v w) (fun _ _ _ hh h => h.of_heap hh) own5 started (by kernel_rfl) Tryd.func5
    (ChangeSpec.witness_shaped (enc := enc) (C := Tryd.checked) (os := os) (X := fun w _ => laidMetH Tryd.prog laid5v w) false (World.doorLaid Tryd.prog 400 os) #[.int .i64 0, .agg #[.slice none 0 0, .slice none 0 0, .slice none 0 0], .slice none 0 0, .slice none 0 0, .slice none 0 0] 8 rfl (World.shaped_of_RefB (by kernel_rfl) (by kernel_rfl)) (by kernel_rfl) (by kernel_rfl) (by kernel_rfl) (door5_met os _)) ?_
  intro W base args ds gs before hval0 hW _ _ hL _
  refine row_contract (P := Tryd.prog) (T := seatT5) (tb := 4) (X := fun _ => True) seatT5_ok ?_ (by kernel_rfl) Tryd.underlying4 rfl ?_ hlaw hval0 hW trivial
  · rw [Tryd.params5]; decide
  · intro ds hl
    rw [Tryd.params5] at hl
    match ds, hl with
    | [d0, d1, d2, d3, d4], _ => exact ⟨rfl, rfl, rfl⟩

theorem holds5 (hlaw : LawTrue Tryd.prog 5 Tryd.f5.params.toList fun _ => True) : Rows.TraitsSoundSaid :=
  OpenClaim.holds_of_wide 5 Tryd.f5 rfl rfl rfl rfl rfl rfl rfl ⟨rfl, rfl, rfl, rfl, rfl⟩ rfl rfl rfl rfl rfl (by kernel_rfl) Tryd.func5 (by kernel_rfl)
    (of_decide_eq_true (by kernel_rfl)) (by unfold Func.isWrapper; first | (rw [if_pos (by decide +kernel)]; kernel_rfl) | (rw [if_neg (by decide +kernel)]; exact ⟨rfl, rfl⟩))
    (fun os started H enc _ => lifted5 hlaw os started H enc)

theorem card5 (hlaw : LawTrue Tryd.prog 5 Tryd.f5.params.toList fun _ => True) : Rows.TraitsSoundCardSaid :=
  Claim7.holds_tied_plain_at .later [] [.data, .data, .data] true (true, "920397e3bff6b5afeabb586f4b8a739b06cb3040b7f9e59621dc0555dc809e24") false
    (holds5 hlaw) (fun _ h => by cases h) (by kernel_rfl) (fun _ h => by cases h) traitsSound_row_tie rfl ⟨rfl, rfl⟩ (by kernel_rfl) rfl
    (fun f fn hf hfn => by
      obtain rfl : f = 5 := Option.some.inj ((show Tryd.prog.funcNamed "tactician/tacticianlaw18.TraitsSound" = some 5 by kernel_rfl).symm.trans hf) |>.symm
      obtain rfl : fn = Tryd.f5 := (Option.some.inj (Tryd.func5.symm.trans hfn)).symm
      exact ⟨by kernel_rfl, fun j t ht => by
        rw [Tryd.params5] at ht
        have hm : t ∈ [3, 26, 27, 29] := by
          have := Array.mem_of_getElem? ht
          simp at this
          first
            | (rcases this with h | h | h | h | h <;> subst h <;> decide)
            | (rcases this with h | h | h | h <;> subst h <;> decide)
            | (rcases this with h | h | h <;> subst h <;> decide)
            | (rcases this with h | h <;> subst h <;> decide)
            | (rcases this with h <;> subst h <;> decide)
        have hall : ([3, 26, 27, 29].all fun u => !Tryd.prog.wantsStandIn u) = true := by kernel_rfl
        exact (show Tryd.prog.wantsStandIn t = false by simpa using List.all_eq_true.1 hall t hm)⟩)
    (by kernel_rfl)
end Go.Proofs.YtlhmipepdcndoaaDoor
