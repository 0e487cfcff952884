/- Part of a proof: AvRw -/
import Derived.Test.YtlhmipepdcndoaaDoorRows
import Derived.Test.YtlhmipepdcndoaaDoorCards
import Derived.Test.YtlhmipepdcndoaaDoorTie
import Derived.Test.YtlhmipepdcndoaaDoorAvFx
import Derived.Test.YtlhmipepdcndoaaDoorF2
import Derived.ProofKit
import Derived.LaidMore
import Derived.OpenShut
import Derived.Stop.Joined
import Derived.SevenTiedAt
set_option maxRecDepth 1000000
namespace Go.Proofs.YtlhmipepdcndoaaDoor
open Go Go.Av Go.ChangeShapes Go.WideShapes Go.ChangeAt Go.RowKit Go.WideMaps

theorem own : ownKnob Tryd.prog.godebug = none := by kernel_rfl
def laid3 {H : Type} : List (String × DataW H) := [("math/bits.deBruijn32tab", Rows.laid_math_bits_deBruijn32tab), ("math/bits.deBruijn64tab", Rows.laid_math_bits_deBruijn64tab), ("internal/strconv.uint64pow10", Rows.laid_internal_strconv_uint64pow10)]
theorem door_met (os : Os) (args : Array Value) : laidMetH Tryd.prog laid3 ((World.doorLaid Tryd.prog 400 os).forCall (fun _ _ => 0) ⟨#[], args, []⟩).memory :=
  laidMetH_of_parts3 (fuel := 8) (laidMet_of_run' 8 (by kernel_rfl) (by kernel_rfl)) (by kernel_rfl) (by kernel_rfl)
def seatT : List TypeId := [3, 4, 26, 22, 23, 24, 80, 27, 78]
theorem seatT_ok : ∀ t ∈ seatT, plainTy Tryd.prog seatT t = true := by
  have h : (seatT.all fun t => plainTy Tryd.prog seatT t) = true := by kernel_rfl
  exact List.all_eq_true.1 h

theorem lifted4 (hlaw : LawTrue Tryd.prog 4 Tryd.f4.params.toList fun _ => True) (os : Os) (started : os.Started) (H : Type) (enc : TypeId × Value → H) :
    ReturnsInHanded {} Tryd.checked os 4 .any (fun w args => (Rows.traitsChecksSpec.pre enc Tryd.prog Tryd.f4 [] false w args ∧ laidMetH Tryd.prog laid3 w) ∧ sizedMet enc Tryd.prog Tryd.f4 (OpenSpec.ofChange Rows.traitsChecksSpec) false w args)
      (Rows.traitsChecksSpec.post enc Tryd.prog Tryd.f4 false true false false) := by
  refine returnsInHanded_of_change_and (C := Tryd.checked) (X := fun w _ => laidMetH Tryd.prog laid3 w) (fun _ _ _ hh h => h.of_heap hh) own started (by kernel_rfl) Tryd.func4
    (ChangeSpec.witness_shaped (enc := enc) (C := Tryd.checked) (os := os) (X := fun w _ => laidMetH Tryd.prog laid3 w) false (World.doorLaid Tryd.prog 400 os) #[.int .i64 0, .agg #[.slice none 0 0, .slice none 0 0, .slice none 0 0], .slice none 0 0] 8 rfl (World.shaped_of_RefB (by kernel_rfl) (by kernel_rfl)) (by kernel_rfl) (by kernel_rfl) (by kernel_rfl) (door_met os _)) ?_
  intro W base args ds gs before hval0 hW _ _ hL _
  refine row_contract (P := Tryd.prog) (T := seatT) (tb := 4) (X := fun _ => True) seatT_ok ?_ (by kernel_rfl) Tryd.underlying4 rfl ?_ hlaw hval0 hW trivial
  · rw [Tryd.params4]; decide
  · intro ds hl
    rw [Tryd.params4] at hl
    match ds, hl with
    | [d1, d2, d3], _ => exact ⟨rfl, rfl, rfl⟩

theorem holds4 (hlaw : LawTrue Tryd.prog 4 Tryd.f4.params.toList fun _ => True) : Rows.TraitsChecksSaid :=
  OpenClaim.holds_of_wide 4 Tryd.f4 rfl rfl rfl rfl rfl rfl rfl ⟨rfl, rfl, rfl, rfl, rfl⟩ rfl rfl rfl rfl rfl (by kernel_rfl) Tryd.func4 (by kernel_rfl)
    (of_decide_eq_true (by kernel_rfl)) (by unfold Func.isWrapper; first | (rw [if_pos (by decide +kernel)]; kernel_rfl) | (rw [if_neg (by decide +kernel)]; exact ⟨rfl, rfl⟩))
    (fun os started H enc _ => lifted4 hlaw os started H enc)

theorem card4 (hlaw : LawTrue Tryd.prog 4 Tryd.f4.params.toList fun _ => True) : Rows.TraitsChecksCardSaid :=
  Claim7.holds_tied_plain_at .later [] [.data, .data, .data] true (true, "920397e3bff6b5afeabb586f4b8a739b06cb3040b7f9e59621dc0555dc809e24") false
    (holds4 hlaw) (fun _ h => by cases h) (by kernel_rfl) (fun _ h => by cases h) traitsChecks_row_tie rfl ⟨rfl, rfl⟩ (by kernel_rfl) rfl
    (fun f fn hf hfn => by
      obtain rfl : f = 4 := Option.some.inj ((show Tryd.prog.funcNamed "tactician/tacticianlaw18.TraitsChecks" = some 4 by kernel_rfl).symm.trans hf) |>.symm
      obtain rfl : fn = Tryd.f4 := (Option.some.inj (Tryd.func4.symm.trans hfn)).symm
      exact ⟨by kernel_rfl, fun j t ht => by
        rw [Tryd.params4] at ht
        have hm : t ∈ [3, 26, 27] := by simpa using Array.mem_of_getElem? ht
        have hall : ([3, 26, 27].all fun u => !Tryd.prog.wantsStandIn u) = true := by kernel_rfl
        exact (show Tryd.prog.wantsStandIn t = false by simpa using List.all_eq_true.1 hall t hm)⟩)
    (by kernel_rfl)
end Go.Proofs.YtlhmipepdcndoaaDoor
