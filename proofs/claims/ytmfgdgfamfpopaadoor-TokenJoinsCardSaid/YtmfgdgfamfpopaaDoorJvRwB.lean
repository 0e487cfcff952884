/- Part of a proof: The row and the card of TokenJoins, out of its law. -/
import Derived.Test.YtmfgdgfamfpopaaDoorRows
import Derived.Test.YtmfgdgfamfpopaaDoorCards
import Derived.Test.YtmfgdgfamfpopaaDoorTie
import Derived.Test.YtmfgdgfamfpopaaDoorJvFy
import Derived.Test.YtmfgdgfamfpopaaDoorF3
import Derived.Lay
import Derived.MakeChecks
import Derived.Deep.DeepHandedRow
import Derived.Lib.LaidU8
import Derived.ProofKit
import Derived.LaidMore
import Derived.OpenShut
import Derived.Stop.Joined
import Derived.SevenTiedAt
set_option maxRecDepth 1000000
namespace Go.Proofs.YtmfgdgfamfpopaaDoor
open Go Go.Av Go.ChangeShapes Go.WideShapes Go.ChangeAt Go.RowKit Go.WideMaps

theorem own3 : ownKnob Tryd.prog.godebug = none := by kernel_rfl
def laid3v : List (String × DataW Unit) := [("math/bits.deBruijn32tab", Rows.laid_math_bits_deBruijn32tab), ("math/bits.deBruijn64tab", Rows.laid_math_bits_deBruijn64tab), ("internal/strconv.uint64pow10", Rows.laid_internal_strconv_uint64pow10), ("unicode/utf8.acceptRanges", Rows.laid_unicode_utf8_acceptRanges), ("strconv.ErrRange", Rows.laid_strconv_ErrRange), ("strconv.ErrSyntax", Rows.laid_strconv_ErrSyntax), ("unicode.White_Space", Rows.laid_unicode_White_Space), ("strings.asciiSpace", Rows.laid_strings_asciiSpace), ("unicode/utf8.first", Rows.laid_unicode_utf8_first)]
theorem errVar {P : Program} {W : World} {n nm : String} {d : DataW Unit} {g ti : Nat} {ms : Array (String × TypeId)} (hg : P.globalNamed n = some g) (hty : (P.globals[g]?).map (·.type) = some ti) (hi : P.underlying ti = some (.interface ms))
    (h : Lib.VarReads P W n (.iface nm d)) : ∃ tp p, W.var? P n = some #[.iface tp p] := by
  obtain ⟨g', t, cs, fuel, p, hg', ht', hvar, hd⟩ := h
  obtain rfl := Option.some.inj (hg.symm.trans hg')
  obtain rfl := Option.some.inj (hty.symm.trans ht')
  obtain ⟨_, u, v, hc, _⟩ := iface_of_trod hi hd
  refine ⟨u, v, ?_⟩
  rw [hvar]
  obtain ⟨l⟩ := cs
  simp only at hc
  rw [hc]
theorem laidV3 {W : World} (hM : laidMet Tryd.prog laid3v W) (hS : W.ShapedOpen Tryd.prog) : LaidV W :=
  ⟨laid_tabIs (t := 130) (e := 101) (n := 20) (g := 7) (by kernel_rfl) (by kernel_rfl) Tryd.underlying130 Tryd.underlying101 (by kernel_rfl) (by kernel_rfl) hM (by unfold laid3v; exact .tail _ (.tail _ (.head _))),
   laid_tabIs (t := 94) (e := 5) (n := 256) (g := 1) (by kernel_rfl) (by kernel_rfl) Tryd.underlying94 Tryd.underlying5 (by kernel_rfl) (by kernel_rfl) hM (by unfold laid3v; exact .tail _ (.tail _ (.tail _ (.tail _ (.tail _ (.tail _ (.tail _ (.head _)))))))),
   whiteTab_of_reads { Tryd.lays199 with } ⟨by kernel_rfl, by kernel_rfl, by kernel_rfl, by kernel_rfl, by kernel_rfl, by kernel_rfl, by kernel_rfl, by kernel_rfl⟩ (Lib.laidMet.reads hM (by unfold laid3v; exact .tail _ (.tail _ (.tail _ (.tail _ (.tail _ (.tail _ (.head _)))))))),
   errVar (g := 5) (ti := 53) (by kernel_rfl) (by kernel_rfl) Tryd.underlying53 (Lib.laidMet.reads hM (by unfold laid3v; exact .tail _ (.tail _ (.tail _ (.tail _ (.tail _ (.head _))))))),
   errVar (g := 6) (ti := 53) (by kernel_rfl) (by kernel_rfl) Tryd.underlying53 (Lib.laidMet.reads hM (by unfold laid3v; exact .tail _ (.tail _ (.tail _ (.tail _ (.head _)))))),
   Tryd.laysM155.s1_3 W hS,
   utf8Tabs_of_reads { Tryd.lays260 with } ⟨by kernel_rfl, by kernel_rfl, by kernel_rfl, by kernel_rfl, by kernel_rfl, by kernel_rfl, by kernel_rfl⟩ (Lib.laidMet.reads hM (by unfold laid3v; exact .tail _ (.tail _ (.tail _ (.tail _ (.tail _ (.tail _ (.tail _ (.tail _ (.head _)))))))))) (Lib.laidMet.reads hM (by unfold laid3v; exact .tail _ (.tail _ (.tail _ (.head _)))))⟩

def seatT3 : List TypeId := [22, 26, 24, 9, 3, 4]
theorem seatT3_ok : ∀ t ∈ seatT3, plainTy Tryd.prog seatT3 t = true := by
  have h : (seatT3.all fun t => plainTy Tryd.prog seatT3 t) = true := by kernel_rfl
  exact List.all_eq_true.1 h

theorem lifted3 (hlaw : LawTrue Tryd.prog 3 Tryd.f3.params.toList LaidV) (os : Os) (started : os.Started) (H : Type) (enc : TypeId × Value → H) :
    ReturnsInHanded {} Tryd.checked os 3 .any (fun w args => (Rows.tokenJoinsSpec.pre enc Tryd.prog Tryd.f3 [] false w args ∧ laidMetH Tryd.prog laid3v w) ∧ sizedMet enc Tryd.prog Tryd.f3 (OpenSpec.ofChange Rows.tokenJoinsSpec) false w args)
      (Rows.tokenJoinsSpec.post enc Tryd.prog Tryd.f3 false true false false) := by
  refine returnsInHanded_of_row (C := Tryd.checked) (s := OpenSpec.ofChange Rows.tokenJoinsSpec) (F := fun _ _ _ => 0) (conds := []) (laid := laid3v) own3 started (by kernel_rfl) Tryd.func3
    (ChangeSpec.witness_shaped (enc := enc) (C := Tryd.checked) (os := os) (X := fun w _ => laidMetH Tryd.prog laid3v w) false (World.laidAll Tryd.prog os laid3v) #[.slice none 0 0] 8 (World.laidAll_os _ _ _)
      (World.shaped_of_ZipB (by kernel_rfl) (by kernel_rfl)) (by kernel_rfl) (by kernel_rfl) (by kernel_rfl)
      (by rw [MakeChecks.laidMetH_plain _ _ _ (by kernel_rfl)]; exact laidMet_laidAll _ (by kernel_rfl) (by kernel_rfl))) ?_
  intro W base args ds gs before hval0 hW _ _ _ hL hsh _
  rw [MakeChecks.laidMetH_plain _ _ _ (by kernel_rfl)] at hL
  refine row_contract (P := Tryd.prog) (T := seatT3) (tb := 4) (X := LaidV) seatT3_ok ?_ (by kernel_rfl) Tryd.underlying4 rfl ?_ hlaw hval0 hW (laidV3 hL hsh)
  · rw [Tryd.params3]; decide
  · intro ds hl
    rw [Tryd.params3] at hl
    match ds, hl with
    | [d0], _ => exact ⟨rfl, rfl, rfl⟩

theorem holds3 (hlaw : LawTrue Tryd.prog 3 Tryd.f3.params.toList LaidV) : Rows.TokenJoinsSaid :=
  OpenClaim.holds_of_wide 3 Tryd.f3 rfl rfl rfl rfl rfl rfl rfl ⟨rfl, rfl, rfl, rfl, rfl⟩ rfl rfl rfl rfl rfl (by kernel_rfl) Tryd.func3 (by kernel_rfl)
    (of_decide_eq_true (by kernel_rfl)) (by unfold Func.isWrapper; first | (rw [if_pos (by decide +kernel)]; kernel_rfl) | (rw [if_neg (by decide +kernel)]; exact ⟨rfl, rfl⟩))
    (fun os started H enc _ => lifted3 hlaw os started H enc)

theorem card3 (hlaw : LawTrue Tryd.prog 3 Tryd.f3.params.toList LaidV) : Rows.TokenJoinsCardSaid :=
  Claim7.holds_tied_plain_at .later [] [.data, .data, .data, .data, .sentinel, .sentinel, .listed, .data, .pinned] true (true, "d094508241112d76479eecd01ccc7dc19ad52980d0c0e26b996c0c6657bf8483") true
    (holds3 hlaw) (fun _ h => by cases h) (by kernel_rfl) (fun _ h => by cases h) tokenJoins_row_tie rfl ⟨rfl, rfl⟩ (by kernel_rfl) rfl
    (fun f fn hf hfn => by
      obtain rfl : f = 3 := Option.some.inj ((show Tryd.prog.funcNamed "tactician/tacticianlaw08.TokenJoins" = some 3 by kernel_rfl).symm.trans hf) |>.symm
      obtain rfl : fn = Tryd.f3 := (Option.some.inj (Tryd.func3.symm.trans hfn)).symm
      exact ⟨by kernel_rfl, fun j t ht => by
        rw [Tryd.params3] at ht
        have hm : t ∈ [22] := by
          have := Array.mem_of_getElem? ht
          simp at this
          first

            | (subst this; decide)
            | (rw [← this]; decide)
            | (rw [this]; decide)
        have hall : ([22].all fun u => !Tryd.prog.wantsStandIn u) = true := by kernel_rfl
        exact (show Tryd.prog.wantsStandIn t = false by simpa using List.all_eq_true.1 hall t hm)⟩)
    (by kernel_rfl)
end Go.Proofs.YtmfgdgfamfpopaaDoor
