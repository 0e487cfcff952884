/- Part of a proof of syntax_sames. -/
import Derived.Test.YtdcknoijcepibaaGreatDoorQ14
import Derived.Test.YtdcknoijcepibaaGreatDoorQ3
import Derived.Test.YtdcknoijcepibaaGreatDoorRows
import Derived.Test.YtdcknoijcepibaaGreatDoorCards
import Derived.Test.YtdcknoijcepibaaGreatDoorTie
import Derived.Lay
import Derived.MakeChecks
import Derived.Deep.DeepHandedRow
import Derived.Lib.LaidU8
import Derived.ProofKit
import Derived.LaidMore
import Derived.OpenShut
import Derived.Stop.Joined
import Derived.SevenTiedAt
set_option maxRecDepth 1000000
namespace Go.Proofs.YtdcknoijcepibaaGreatDoor
open Go Go.Av Go.ChangeShapes Go.WideShapes Go.ChangeAt Go.RowKit Go.WideMaps
theorem own5 : ownKnob Tryz.prog.godebug = none:=by kernel_rfl
def laid5v : List (String × DataW Unit) := [("math/bits.deBruijn32tab", Rows.laid_math_bits_deBruijn32tab), ("math/bits.deBruijn64tab", Rows.laid_math_bits_deBruijn64tab), ("internal/strconv.uint64pow10", Rows.laid_internal_strconv_uint64pow10), ("unicode/utf8.acceptRanges", Rows.laid_unicode_utf8_acceptRanges), ("strconv.ErrRange", Rows.laid_strconv_ErrRange), ("strconv.ErrSyntax", Rows.laid_strconv_ErrSyntax), ("unicode.White_Space", Rows.laid_unicode_White_Space), ("strings.asciiSpace", Rows.laid_strings_asciiSpace), ("unicode/utf8.first", Rows.laid_unicode_utf8_first)]
theorem errVar {P : Program} {W : World} {n nm : String} {d : DataW Unit} {g ti : Nat} {ms : Array (String×TypeId)} (hg : P.globalNamed n = some g) (hty : (P.globals[g]?).map (·.type) = some ti) (hi : P.underlying ti = some (.interface ms))
    (h : Lib.VarReads P W n (.iface nm d)) : ∃ tp p,W.var? P n = some #[.iface tp p]:=by
  obtain ⟨g',t,cs,fuel,p,hg',ht',hvar,hd⟩:=h
  obtain rfl:=Option.some.inj (hg.symm.trans hg')
  obtain rfl:=Option.some.inj (hty.symm.trans ht')
  obtain ⟨_,u,v,hc,_⟩:=iface_of_trod hi hd
  refine ⟨u,v,?_⟩
  rw [hvar]
  obtain ⟨l⟩:=cs
  simp only at hc
  rw [hc]
theorem laidV5 {W : World} (hM : laidMet Tryz.prog laid5v W) (hS : W.ShapedOpen Tryz.prog) : LaidV W :=
  ⟨laid_tabIs (t:=289) (e:=255) (n:=20) (g:=7) (by kernel_rfl) (by kernel_rfl) Tryz.underlying289 Tryz.underlying255 (by kernel_rfl) (by kernel_rfl) hM (by unfold laid5v; exact .tail _ (.tail _ (.head _))),
   laid_tabIs (t:=248) (e:=5) (n:=256) (g:=0) (by kernel_rfl) (by kernel_rfl) Tryz.underlying248 Tryz.underlying5 (by kernel_rfl) (by kernel_rfl) hM (by unfold laid5v; exact .tail _ (.tail _ (.tail _ (.tail _ (.tail _ (.tail _ (.tail _ (.head _)))))))),
   whiteTab_of_reads { Tryz.lays199 with } ⟨by kernel_rfl,by kernel_rfl,by kernel_rfl,by kernel_rfl,by kernel_rfl,by kernel_rfl,by kernel_rfl,by kernel_rfl⟩ (Lib.laidMet.reads hM (by unfold laid5v; exact .tail _ (.tail _ (.tail _ (.tail _ (.tail _ (.tail _ (.head _)))))))),
   errVar (g:=5) (ti:=190) (by kernel_rfl) (by kernel_rfl) Tryz.underlying190 (Lib.laidMet.reads hM (by unfold laid5v; exact .tail _ (.tail _ (.tail _ (.tail _ (.tail _ (.head _))))))),
   errVar (g:=6) (ti:=190) (by kernel_rfl) (by kernel_rfl) Tryz.underlying190 (Lib.laidMet.reads hM (by unfold laid5v; exact .tail _ (.tail _ (.tail _ (.tail _ (.head _)))))),
   Tryz.laysM155.s1_3 W hS,
   utf8Tabs_of_reads { Tryz.lays260 with } ⟨by kernel_rfl,by kernel_rfl,by kernel_rfl,by kernel_rfl,by kernel_rfl,by kernel_rfl,by kernel_rfl⟩ (Lib.laidMet.reads hM (by unfold laid5v; exact .tail _ (.tail _ (.tail _ (.tail _ (.tail _ (.tail _ (.tail _ (.tail _ (.head _)))))))))) (Lib.laidMet.reads hM (by unfold laid5v; exact .tail _ (.tail _ (.tail _ (.head _)))))⟩
def seatT5 : List TypeId:=[32,29,3,4,23,59,9,25,62,2,27,24,140,26,30,64]
theorem seatT5_ok : ∀ t ∈ seatT5,plainTy Tryz.prog seatT5 t = true:=by
  have h : (seatT5.all fun t=>plainTy Tryz.prog seatT5 t) = true:=by kernel_rfl
  exact List.all_eq_true.1 h
theorem lifted5 (hlaw : LawTrue Tryz.prog 5 Tryz.f5.params.toList LaidV) (os : Os) (started : os.Started) (H : Type) (enc : TypeId×Value→H) :
    ReturnsInHanded {} Tryz.checked os 5 .any (fun w args=>(Rows.syntaxSamesSpec.pre enc Tryz.prog Tryz.f5 [] false w args∧laidMetH Tryz.prog laid5v w)∧sizedMet enc Tryz.prog Tryz.f5 (OpenSpec.ofChange Rows.syntaxSamesSpec) false w args)
      (Rows.syntaxSamesSpec.post enc Tryz.prog Tryz.f5 false true false false):=by
  refine returnsInHanded_of_row (C:=Tryz.checked) (s:=OpenSpec.ofChange Rows.syntaxSamesSpec) (F:=fun _ _ _=>0) (conds:=[]) (laid:=laid5v) own5 started (by kernel_rfl) Tryz.func5
    (ChangeSpec.witness_shaped (enc:=enc) (C:=Tryz.checked) (os:=os) (X:=fun w _=>laidMetH Tryz.prog laid5v w) false (World.laidAll Tryz.prog os laid5v) #[.agg #[.int .i64 0,.bool false,.bool false,.slice none 0 0,.slice none 0 0,.slice none 0 0,.slice none 0 0,.slice none 0 0,.slice none 0 0,.slice none 0 0,.slice none 0 0,.int .i64 0,.int .i64 0],.agg #[.int .i64 0,.bool false,.bool false,.slice none 0 0,.slice none 0 0,.slice none 0 0,.slice none 0 0,.slice none 0 0,.slice none 0 0,.slice none 0 0,.slice none 0 0,.int .i64 0,.int .i64 0]] 8 (World.laidAll_os _ _ _)
      (World.shaped_of_ZipB (by kernel_rfl) (by kernel_rfl)) (by kernel_rfl) (by kernel_rfl) (by kernel_rfl)
      (by rw [MakeChecks.laidMetH_plain _ _ _ (by kernel_rfl)]; exact laidMet_laidAll _ (by kernel_rfl) (by kernel_rfl))) ?_
  intro W base args ds gs before hval0 hW _ _ _ hL hsh _
  rw [MakeChecks.laidMetH_plain _ _ _ (by kernel_rfl)] at hL
  refine row_contract (P:=Tryz.prog) (T:=seatT5) (tb:=4) (X:=LaidV) seatT5_ok ?_ (by kernel_rfl) Tryz.underlying4 rfl ?_ hlaw hval0 hW (laidV5 hL hsh)
  · rw [Tryz.params5]; decide
  · intro ds hl
    rw [Tryz.params5] at hl
    match ds,hl with
    | [d0,d1],_=>exact ⟨rfl,rfl,rfl⟩
theorem jin5 : (Rows.syntaxSamesRow.inPlace == Tryz.pinned.checked.prog.inPlace 5) = true:=by kernel_rfl
theorem jun5 : (Rows.syntaxSamesRow.unfollowed == Tryz.pinned.checked.prog.unfollowed 5) = true:=by kernel_rfl
theorem jre5 : (Rows.syntaxSamesRow.recurses == Tryz.pinned.checked.prog.recurses 5) = true:=by kernel_rfl
theorem jna5 : (Rows.syntaxSamesRow.named == Tryz.pinned.checked.prog.varsNamed 5) = true:=by kernel_rfl
theorem jf5 : joinedFacts Tryz.pinned.checked.prog 5 Tryz.f5 Rows.syntaxSamesSpec Rows.syntaxSamesRow = true:=by
  unfold joinedFacts
  rw [jin5,jun5,jre5,jna5]
  kernel_rfl
theorem holds5 (hlaw : LawTrue Tryz.prog 5 Tryz.f5.params.toList LaidV) : Rows.SyntaxSamesSaid :=
  OpenClaim.holds_of_wide 5 Tryz.f5 rfl rfl rfl rfl rfl rfl rfl ⟨rfl,rfl,rfl,rfl,rfl⟩ rfl rfl rfl rfl rfl (by kernel_rfl) Tryz.func5 jf5
    (of_decide_eq_true (by kernel_rfl)) (by unfold Func.isWrapper; first | (rw [if_pos (by decide +kernel)]; kernel_rfl) | (rw [if_neg (by decide +kernel)]; exact ⟨rfl,rfl⟩))
    (fun os started H enc _=>lifted5 hlaw os started H enc)
theorem card5 (hlaw : LawTrue Tryz.prog 5 Tryz.f5.params.toList LaidV) : Rows.SyntaxSamesCardSaid :=
  Claim7.holds_tied_plain_at .later [] [.data, .data, .data, .data, .sentinel, .sentinel, .listed, .data, .pinned] true (true, "b47d97daa00f40ac8631ed715aaa2e31548ee5a3744f34b8305c838281af7993") true
    (holds5 hlaw) (fun _ h=>by cases h) (by kernel_rfl) (fun _ h=>by cases h) syntaxSames_row_tie rfl ⟨rfl,rfl⟩ (by kernel_rfl) rfl
    (fun f fn hf hfn=>by
      obtain rfl : f = 5 := Option.some.inj ((show Tryz.prog.funcNamed "tactician/tacticianlaw09.SyntaxSames" = some 5 by kernel_rfl).symm.trans hf) |>.symm
      obtain rfl : fn = Tryz.f5:=(Option.some.inj (Tryz.func5.symm.trans hfn)).symm
      exact ⟨by kernel_rfl,fun j t ht=>by
        rw [Tryz.params5] at ht
        have hm : t ∈ [32]:=by
          have:=Array.mem_of_getElem? ht
          simp at this
          first
            | (rcases this with h | h <;> subst h <;> decide)
            | (subst this; decide)
            | (rw [← this]; decide)
            | (rw [this]; decide)
        have hall : ([32].all fun u=>!Tryz.prog.wantsStandIn u) = true:=by kernel_rfl
        exact (show Tryz.prog.wantsStandIn t = false by simpa using List.all_eq_true.1 hall t hm)⟩)
    (by kernel_rfl)
end Go.Proofs.YtdcknoijcepibaaGreatDoor
