/- Part of a proof: The row and the card of TraitsHolds, out of its law. -/
import Derived.Test.YtlhmipepdcndoaaGreatDoorRows
import Derived.Test.YtlhmipepdcndoaaGreatDoorCards
import Derived.Test.YtlhmipepdcndoaaGreatDoorTie
import Derived.Test.YtlhmipepdcndoaaGreatDoorZvFx
import Derived.Test.YtlhmipepdcndoaaGreatDoorF3
import Derived.Lay
import Derived.MakeChecks
import Derived.Deep.DeepHandedRow
import Derived.ProofKit
import Derived.LaidMore
import Derived.OpenShut
import Derived.Stop.Joined
import Derived.SevenTiedAt
set_option maxRecDepth 1000000
namespace Go.Proofs.YtlhmipepdcndoaaGreatDoor
open Go Go.Av Go.ChangeShapes Go.WideShapes Go.ChangeAt Go.RowKit Go.WideMaps

theorem own3 : ownKnob Tryz.prog.godebug = none := by kernel_rfl
def laid3v : List (String × DataW Unit) := [("math/bits.deBruijn32tab", Rows.laid_math_bits_deBruijn32tab), ("math/bits.deBruijn64tab", Rows.laid_math_bits_deBruijn64tab), ("internal/strconv.uint64pow10", Rows.laid_internal_strconv_uint64pow10), ("unicode/utf8.acceptRanges", Rows.laid_unicode_utf8_acceptRanges), ("unicode/utf8.first", Rows.laid_unicode_utf8_first)]
theorem laidV3 {W : World} (hM : laidMet Tryz.prog laid3v W) (hS : W.ShapedOpen Tryz.prog) : LaidV W :=
  ⟨laid_tabIs (t := 202) (e := 118) (n := 20) (g := 4) (by kernel_rfl) (by kernel_rfl) Tryz.underlying202 Tryz.underlying118 (by kernel_rfl) (by kernel_rfl) hM (by unfold laid3v; exact .tail _ (.tail _ (.head _))), Tryz.laysM155.s1_3 W hS⟩

def seatT3 : List TypeId := [3, 26, 22, 23, 63, 24, 27, 52, 4, 28, 69, 71, 65, 2, 9]
theorem seatT3_ok : ∀ t ∈ seatT3, plainTy Tryz.prog seatT3 t = true := by
  have h : (seatT3.all fun t => plainTy Tryz.prog seatT3 t) = true := by kernel_rfl
  exact List.all_eq_true.1 h

theorem lifted3 (hlaw : LawTrue Tryz.prog 3 Tryz.f3.params.toList LaidV) (os : Os) (started : os.Started) (H : Type) (enc : TypeId × Value → H) :
    ReturnsInHanded {} Tryz.checked os 3 .any (fun w args => (Rows.traitsHoldsSpec.pre enc Tryz.prog Tryz.f3 [] false w args ∧ laidMetH Tryz.prog laid3v w) ∧ sizedMet enc Tryz.prog Tryz.f3 (OpenSpec.ofChange Rows.traitsHoldsSpec) false w args)
      (Rows.traitsHoldsSpec.post enc Tryz.prog Tryz.f3 false true false false) := by
  refine returnsInHanded_of_row (C := Tryz.checked) (s := OpenSpec.ofChange Rows.traitsHoldsSpec) (F := fun _ _ _ => 0) (conds := []) (laid := laid3v) own3 started (by kernel_rfl) Tryz.func3
    (ChangeSpec.witness_shaped (enc := enc) (C := Tryz.checked) (os := os) (X := fun w _ => laidMetH Tryz.prog laid3v w) false (World.laidAll Tryz.prog os laid3v) #[.int .i64 0, .agg #[.slice none 0 0, .slice none 0 0, .slice none 0 0], .slice none 0 0, .slice none 0 0] 8 (World.laidAll_os _ _ _)
      (World.shaped_of_ZipB (by kernel_rfl) (by kernel_rfl)) (by kernel_rfl) (by kernel_rfl) (by kernel_rfl)
      (by rw [MakeChecks.laidMetH_plain _ _ _ (by kernel_rfl)]; exact laidMet_laidAll _ (by kernel_rfl) (by kernel_rfl))) ?_
  intro W base args ds gs before hval0 hW _ _ _ hL hsh _
  rw [MakeChecks.laidMetH_plain _ _ _ (by kernel_rfl)] at hL
  refine row_contract (P := Tryz.prog) (T := seatT3) (tb := 4) (X := LaidV) seatT3_ok ?_ (by kernel_rfl) Tryz.underlying4 rfl ?_ hlaw hval0 hW (laidV3 hL hsh)
  · rw [Tryz.params3]; decide
  · intro ds hl
    rw [Tryz.params3] at hl
    match ds, hl with
    | [d0, d1, d2, d3], _ => exact ⟨rfl, rfl, rfl⟩

theorem holds3 (hlaw : LawTrue Tryz.prog 3 Tryz.f3.params.toList LaidV) : Rows.TraitsHoldsSaid :=
  OpenClaim.holds_of_wide 3 Tryz.f3 rfl rfl rfl rfl rfl rfl rfl ⟨rfl, rfl, rfl, rfl, rfl⟩ rfl rfl rfl rfl rfl (by kernel_rfl) Tryz.func3 (by kernel_rfl)
    (of_decide_eq_true (by kernel_rfl)) (by unfold Func.isWrapper; first | (rw [if_pos (by decide +kernel)]; kernel_rfl) | (rw [if_neg (by decide +kernel)]; exact ⟨rfl, rfl⟩))
    (fun os started H enc _ => lifted3 hlaw os started H enc)

theorem card3 (hlaw : LawTrue Tryz.prog 3 Tryz.f3.params.toList LaidV) : Rows.TraitsHoldsCardSaid :=
  Claim7.holds_tied_plain_at .later [] [.data, .data, .data, .data, .pinned] true (true, "a88517162081794c037424183683324f204b79802887d50800a29043c79a80d5") true
    (holds3 hlaw) (fun _ h => by cases h) (by kernel_rfl) (fun _ h => by cases h) traitsHolds_row_tie rfl ⟨rfl, rfl⟩ (by kernel_rfl) rfl
    (fun f fn hf hfn => by
      obtain rfl : f = 3 := Option.some.inj ((show Tryz.prog.funcNamed "tactician/tacticianlaw18.TraitsHolds" = some 3 by kernel_rfl).symm.trans hf) |>.symm
      obtain rfl : fn = Tryz.f3 := (Option.some.inj (Tryz.func3.symm.trans hfn)).symm
      exact ⟨by kernel_rfl, fun j t ht => by
        rw [Tryz.params3] at ht
        have hm : t ∈ [3, 26, 27, 28] := by
          have := Array.mem_of_getElem? ht
          simp at this
          first
            | (rcases this with h | h | h | h <;> subst h <;> decide)
            | (rcases this with h | h | h <;> subst h <;> decide)
            | (rcases this with h | h <;> subst h <;> decide)
            | (rcases this with h <;> subst h <;> decide)
        have hall : ([3, 26, 27, 28].all fun u => !Tryz.prog.wantsStandIn u) = true := by kernel_rfl
        exact (show Tryz.prog.wantsStandIn t = false by simpa using List.all_eq_true.1 hall t hm)⟩)
    (by kernel_rfl)
end Go.Proofs.YtlhmipepdcndoaaGreatDoor
