/- Part of syntax_parses. -/
import Derived.Test.YtdcknoijcepibaaGreatDoorQ15
import Derived.Test.YtdcknoijcepibaaGreatDoorQ3
import Derived.Test.YtdcknoijcepibaaGreatDoorRows
import Derived.Test.YtdcknoijcepibaaGreatDoorCards
import Derived.Test.YtdcknoijcepibaaGreatDoorTie
import Derived.Lay
import Derived.MakeChecks
import Derived.Deep.DeepHandedRow
import Derived.Lib.LaidU8
import Derived.ProofKit
import Derived.LaidMore
import Derived.OpenShut
import Derived.Stop.Joined
import Derived.SevenTiedAt
set_option maxRecDepth 1000000
set_option maxHeartbeats 16000000
namespace Go.Proofs.YtdcknoijcepibaaGreatDoor
open Go Go.Av Go.ChangeShapes Go.WideShapes Go.ChangeAt Go.RowKit Go.WideMaps
theorem own3:ownKnob Tryz.prog.godebug=none:=by kernel_rfl
def laid3v : List (String × DataW Unit) := [("math/bits.deBruijn32tab", Rows.laid_math_bits_deBruijn32tab), ("math/bits.deBruijn64tab", Rows.laid_math_bits_deBruijn64tab), ("internal/strconv.uint64pow10", Rows.laid_internal_strconv_uint64pow10), ("unicode/utf8.acceptRanges", Rows.laid_unicode_utf8_acceptRanges), ("strconv.ErrRange", Rows.laid_strconv_ErrRange), ("strconv.ErrSyntax", Rows.laid_strconv_ErrSyntax), ("unicode.White_Space", Rows.laid_unicode_White_Space), ("strings.asciiSpace", Rows.laid_strings_asciiSpace), ("unicode/utf8.first", Rows.laid_unicode_utf8_first)]
theorem errVar{P:Program}{W:World}{n nm:String}{d:DataW Unit}{g ti:Nat}{ms:Array (String×TypeId)}(hg:P.globalNamed n=some g)(hty:(P.globals[g]?).map (·.type)=some ti)(hi:P.underlying ti=some (.interface ms))
  (h:Lib.VarReads P W n (.iface nm d)):∃tp p,W.var? P n=some #[.iface tp p]:=by
 obtain⟨g',t,cs,fuel,p,hg',ht',hvar,hd⟩:=h;obtain rfl:=Option.some.inj (hg.symm.trans hg');obtain rfl:=Option.some.inj (hty.symm.trans ht');obtain⟨_,u,v,hc,_⟩:=iface_of_trod hi hd;refine⟨u,v,?_⟩;rw[hvar];obtain⟨l⟩:=cs;simp only at hc;rw[hc]
theorem laidV3{W:World}(hM:laidMet Tryz.prog laid3v W)(hS:W.ShapedOpen Tryz.prog):LaidV W:=
 ⟨dvq (t:=289) (e:=255) (n:=20) (g:=7) (by kernel_rfl) (by kernel_rfl) Tryz.underlying289 Tryz.underlying255 (by kernel_rfl) (by kernel_rfl) hM (by unfold laid3v;exact .tail _ (.tail _ (.head _))),
  dvq (t:=248) (e:=5) (n:=256) (g:=0) (by kernel_rfl) (by kernel_rfl) Tryz.underlying248 Tryz.underlying5 (by kernel_rfl) (by kernel_rfl) hM (by unfold laid3v;exact .tail _ (.tail _ (.tail _ (.tail _ (.tail _ (.tail _ (.tail _ (.head _)))))))),
  whiteTab_of_reads {Tryz.lays199 with} ⟨by kernel_rfl,by kernel_rfl,by kernel_rfl,by kernel_rfl,by kernel_rfl,by kernel_rfl,by kernel_rfl,by kernel_rfl⟩ (Lib.laidMet.reads hM (by unfold laid3v;exact .tail _ (.tail _ (.tail _ (.tail _ (.tail _ (.tail _ (.head _)))))))),
  errVar (g:=5) (ti:=190) (by kernel_rfl) (by kernel_rfl) Tryz.underlying190 (Lib.laidMet.reads hM (by unfold laid3v;exact .tail _ (.tail _ (.tail _ (.tail _ (.tail _ (.head _))))))),
  errVar (g:=6) (ti:=190) (by kernel_rfl) (by kernel_rfl) Tryz.underlying190 (Lib.laidMet.reads hM (by unfold laid3v;exact .tail _ (.tail _ (.tail _ (.tail _ (.head _)))))),
  Tryz.laysM155.s1_3 W hS,
  utf8Tabs_of_reads {Tryz.lays260 with} ⟨by kernel_rfl,by kernel_rfl,by kernel_rfl,by kernel_rfl,by kernel_rfl,by kernel_rfl,by kernel_rfl⟩ (Lib.laidMet.reads hM (by unfold laid3v;exact .tail _ (.tail _ (.tail _ (.tail _ (.tail _ (.tail _ (.tail _ (.tail _ (.head _)))))))))) (Lib.laidMet.reads hM (by unfold laid3v;exact .tail _ (.tail _ (.tail _ (.head _)))))⟩
def seatT3:List TypeId:=[9,4]
theorem seatT3_ok:∀t∈seatT3,bgm Tryz.prog seatT3 t=true:=by
 have h:(seatT3.all fun t=>bgm Tryz.prog seatT3 t)=true:=by kernel_rfl
 exact List.all_eq_true.1 h
theorem lifted3(hlaw:cpr Tryz.prog 3 Tryz.f3.params.toList LaidV)(os:Os)(started:os.Started)(H:Type)(enc:TypeId×Value→H) :
  ReturnsInHanded {} Tryz.checked os 3 .any (fun w args=>(Rows.syntaxParsesSpec.pre enc Tryz.prog Tryz.f3 [] false w args∧laidMetH Tryz.prog laid3v w)∧sizedMet enc Tryz.prog Tryz.f3 (OpenSpec.ofChange Rows.syntaxParsesSpec) false w args)
   (Rows.syntaxParsesSpec.post enc Tryz.prog Tryz.f3 false true false false):=by
 refine returnsInHanded_of_row (C:=Tryz.checked) (s:=OpenSpec.ofChange Rows.syntaxParsesSpec) (F:=fun _ _ _=>0) (conds:=[]) (laid:=laid3v) own3 started (by kernel_rfl) Tryz.func3
  (ChangeSpec.witness_shaped (enc:=enc) (C:=Tryz.checked) (os:=os) (X:=fun w _=>laidMetH Tryz.prog laid3v w) false (World.laidAll Tryz.prog os laid3v) #[.string ⟨#[]⟩] 8 (World.laidAll_os _ _ _)
   (World.shaped_of_ZipB (by kernel_rfl) (by kernel_rfl)) (by kernel_rfl) (by kernel_rfl) (by kernel_rfl)
   (by rw[MakeChecks.laidMetH_plain _ _ _ (by kernel_rfl)];exact laidMet_laidAll _ (by kernel_rfl) (by kernel_rfl))) ?_
 intro W base args ds gs before hval0 hW _ _ _ hL hsh _;rw[MakeChecks.laidMetH_plain _ _ _ (by kernel_rfl)]at hL;refine dk6 (P:=Tryz.prog) (T:=seatT3) (tb:=4) (X:=LaidV) seatT3_ok ?_ (by kernel_rfl) Tryz.underlying4 rfl ?_ hlaw hval0 hW (laidV3 hL hsh)
 ·rw[Tryz.params3];decide
 ·intro ds hl;rw[Tryz.params3]at hl
  match ds,hl with
  | [d0],_=>exact⟨rfl,rfl,rfl⟩
theorem jin3:(Rows.syntaxParsesRow.inPlace==Tryz.pinned.checked.prog.inPlace 3)=true:=by kernel_rfl
theorem jun3:(Rows.syntaxParsesRow.unfollowed==Tryz.pinned.checked.prog.unfollowed 3)=true:=by kernel_rfl
theorem jre3:(Rows.syntaxParsesRow.recurses==Tryz.pinned.checked.prog.recurses 3)=true:=by kernel_rfl
theorem jna3:(Rows.syntaxParsesRow.named==Tryz.pinned.checked.prog.varsNamed 3)=true:=by kernel_rfl
theorem jf3:joinedFacts Tryz.pinned.checked.prog 3 Tryz.f3 Rows.syntaxParsesSpec Rows.syntaxParsesRow=true:=by
 unfold joinedFacts;rw[jin3,jun3,jre3,jna3]
 kernel_rfl
theorem holds3(hlaw:cpr Tryz.prog 3 Tryz.f3.params.toList LaidV):Rows.SyntaxParsesSaid:=
 OpenClaim.holds_of_wide 3 Tryz.f3 rfl rfl rfl rfl rfl rfl rfl ⟨rfl,rfl,rfl,rfl,rfl⟩ rfl rfl rfl rfl rfl (by kernel_rfl) Tryz.func3 jf3
  (of_decide_eq_true (by kernel_rfl)) (by unfold Func.isWrapper;first | (rw[if_pos (by decide +kernel)];kernel_rfl) | (rw[if_neg (by decide +kernel)];exact⟨rfl,rfl⟩))
  (fun os started H enc _=>lifted3 hlaw os started H enc)
theorem card3(hlaw:cpr Tryz.prog 3 Tryz.f3.params.toList LaidV):Rows.SyntaxParsesCardSaid:=
 Claim7.holds_tied_plain_at .later [] [.data, .data, .data, .data, .sentinel, .sentinel, .listed, .data, .pinned] true (true, "b47d97daa00f40ac8631ed715aaa2e31548ee5a3744f34b8305c838281af7993") true
  (holds3 hlaw) (fun _ h=>by cases h) (by kernel_rfl) (fun _ h=>by cases h) syntaxParses_row_tie rfl ⟨rfl,rfl⟩ (by kernel_rfl) rfl
  (fun f fn hf hfn=>by
   obtain rfl : f = 3 := Option.some.inj ((show Tryz.prog.funcNamed "tactician/tacticianlaw09.SyntaxParses" = some 3 by kernel_rfl).symm.trans hf) |>.symm;obtain rfl:fn=Tryz.f3:=(Option.some.inj (Tryz.func3.symm.trans hfn)).symm;exact⟨by kernel_rfl,fun j t ht=>by
    rw[Tryz.params3]at ht;have hm:t∈[9]:=by
     have:=Array.mem_of_getElem? ht;simp at this
     first
      | (subst this;decide)
      | (rw[← this];decide)
      | (rw[this];decide)
    have hall:([9].all fun u=>!Tryz.prog.wantsStandIn u)=true:=by kernel_rfl
    exact(show Tryz.prog.wantsStandIn t=false by simpa using List.all_eq_true.1 hall t hm)⟩)
  (by kernel_rfl)
end Go.Proofs.YtdcknoijcepibaaGreatDoor
