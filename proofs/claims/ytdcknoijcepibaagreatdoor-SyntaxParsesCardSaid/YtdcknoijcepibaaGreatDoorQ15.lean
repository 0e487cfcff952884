/- Part of syntax_parses. -/
import Derived.Test.YtdcknoijcepibaaGreatDoorQ7
import Derived.Test.YtdcknoijcepibaaGreatDoorQ4
import Derived.Test.YtdcknoijcepibaaGreatDoorQ8
import Derived.Test.YtdcknoijcepibaaGreatDoorQ2
import Derived.Lib.ParseIntBTie
import Derived.Lib.AtoiErrMem
set_option linter.unusedSimpArgs false
set_option linter.unusedVariables false
set_option maxRecDepth 1000000
set_option maxHeartbeats 16000000
namespace Go.Av
open Go Go.Proofs Go.RowKit Go.Sort
structure LaidV(W:World):Prop where
 pow : Lib.TabIs Tryz.prog W "internal/strconv.uint64pow10" .u64 Lib.pow10Tab
 spc : Lib.TabIs Tryz.prog W "strings.asciiSpace" .u8 Lib.asciiSpaceTab
 wht:Lib.WhiteTab 2 W
 syn : ∃ tp p, W.var? Tryz.prog "strconv.ErrSyntax" = some #[.iface tp p]
 rng : ∃ tp p, W.var? Tryz.prog "strconv.ErrRange" = some #[.iface tp p]
 rep:∃m,W.cell? ⟨1,0,none⟩=some (.int .i64 m)
 utf:Lib.Utf8Tabs 3 4 W
theorem bss{P:Program}{W0 w:World}(h:∀b,b<W0.heap.size→w.heap[b]? = W0.heap[b]?){n:String}{cs:Array Value}(hv:W0.var? P n=some cs):w.var? P n=some cs:=by
 unfold World.var? at hv ⊢;cases hg:P.globalNamed n with
 | none=>rw[hg]at hv;cases hv
 | some g=>
  rw[hg]at hv;simp only[bb]at hv ⊢;have hlt:g<W0.heap.size:=by
   rcases fk g W0.heap.size with h' | h'
   ·exact h'
   ·simp[jq h']at hv
  rw[h g hlt];exact hv
theorem bk8{W0 w:World}(h:∀b,b<W0.heap.size→w.heap[b]? = W0.heap[b]?){b o:Nat}{v:Value}(hv:W0.cell? ⟨b,o,none⟩=some v):w.cell? ⟨b,o,none⟩=some v:=by
 have hlt:b<W0.heap.size:=by
  rcases fk b W0.heap.size with h' | h'
  ·exact h'
  ·unfold World.cell? at hv;simp[jq h']at hv
 rw[World.cell?_of_block (w:=W0) (h b hlt)];exact hv
theorem cz5(w:World)(k:Nat)(os:Array Obj):Below w.heap.size w (grow (w.drewN k) os):=by
 have h:∀k,Below w.heap.size w (w.drewN k):=by
  intro k
  induction k with
  | zero=>exact Below.refl _ _
  | succ k ih=>exact ih.drew
 have h1:=h k;refine⟨h1.os,h1.tape,h1.output,dg h1.size (by simp[grow]),fun b hb=>?_⟩;rw[← h1.block b hb];have:b<(w.drewN k).heap.size:=kr hb h1.size;simp only[grow];rw[tq this]
theorem csz{W0 w:World}(h:∀b,b<W0.heap.size→w.heap[b]? = W0.heap[b]?)(hv:Lib.WhiteTab 2 W0):Lib.WhiteTab 2 w:=by
 obtain⟨T,oT,R,oR,h1,h2,h3,h4,h5⟩:=hv;exact⟨T,oT,R,oR,bk8 h h1,bk8 h h2,bk8 h h3,bk8 h h4,fun i hi=>bk8 h (h5 i hi)⟩
theorem c2x(W0:World):bb0 Tryz.prog W0 55 ddq:=dh8 (bjf Tryz.func55 (by kernel_rfl) (by kernel_rfl)) Tryz.strings_Join_none Tryz.strings_Join
theorem cqf{W0:World}(hL:LaidV W0):bb0 Tryz.prog W0 126 bkk:=
 cc4 (bjf Tryz.func126 (by kernel_rfl) (by kernel_rfl)) (fun n w h0 h1 hw=>(Tryz.strconv_FormatInt_10 n h0 h1 w (bss hw hL.pow)).mono fun e w' ⟨he,k,os,hg⟩=>⟨he,hg▸cz5 w k os⟩)
theorem cqb{W0:World}(hL:LaidV W0):bb0 Tryz.prog W0 161 bf5:=
 b7z (bjf Tryz.func161 (by kernel_rfl) (by kernel_rfl)) (fun s old new w h0 h1 h2 hw=>by
  obtain⟨m,hm⟩:=hL.rep;refine Tryz.strings_ReplaceAll s old new m w h0 (bk8 hw hm) h1 ?_;have hc:=Lib.countB_le old h1 s.size s (cj _);have:=dq new.size hc;omega)
theorem cqc{W0:World}(hL:LaidV W0):bb0 Tryz.prog W0 157 cbf:=
 czj (bjf Tryz.func157 (by kernel_rfl) (by kernel_rfl)) (fun s w hs hw=>by
  have e:bvt s.data.toList=Lib.fieldsD s.data.toList:=by
   unfold bvt;split
   ·rename_i h;rw[cq]at h;rw[Lib.fieldsD_ascii _ (fun b hb=>by simpa using h b hb)]
   ·rfl
  rw[e];refine(Tryz.strings_Fields_any s w hs (bss hw hL.spc) (csz hw hL.wht)).mono fun e w' ⟨A,he,hA,ho,hb⟩=>?_
  obtain⟨_,h⟩:=ho;rcases h with⟨h,_⟩ | ⟨g,cap,cur,h1,h2,h3,h4,h5,h6,h7⟩
  ·cases h
  ·injection h1 with h1 _ h1'
   injection h1 with h1
   injection h1 with h1
   subst h1;subst h1';refine⟨A,cur,_,_,he,hA,cj _,h3,fun j v hj=>?_,hb⟩;rw[← h7,dz]at hj;split at hj
   ·simpa using hj
   ·cases hj)
theorem cqg{W0:World}(hL:LaidV W0):bb0 Tryz.prog W0 125 (bpj 259):=
 chb (bjf Tryz.func125 (by kernel_rfl) (by kernel_rfl)) (fun s w hs hw=>by
  unfold b1z;rcases hr:Lib.atoiAll s.data.toList with v | _ | _
  ·exact(Tryz.strconv_ParseInt_10_at64_ok s (by omega) v (by rw[Lib.parseIntB_64];exact hr) w).mono fun e w' ⟨he,hx⟩=>⟨he,by
    rcases hx with rfl | ⟨t,rfl⟩
    ·exact Below.refl _ _
    ·exact Lib.bytesWorld_below _ _ _⟩
  ·obtain⟨tp,p,hv⟩:=hL.syn;exact(Tryz.strconv_ParseInt_10_at64_syntax_var s hs (by rw[Lib.parseIntB_64];exact hr) tp p w (bss hw hv)).mono fun e w' ⟨N,he,_,_,hb⟩=>⟨⟨N,he⟩,hb⟩
  ·obtain⟨tp,p,hv⟩:=hL.rng;exact(Tryz.strconv_ParseInt_10_at64_range_var s hs (by rw[Lib.parseIntB_64];exact hr) tp p w (bss hw hv)).mono fun e w' ⟨N,he,_,_,hb⟩=>⟨⟨N,by rw[he,Lib.intSat_64]⟩,hb⟩)
theorem cqd{W0:World}(hL:LaidV W0):bb0 Tryz.prog W0 138 (csx 259):=
 dh9 (bjf Tryz.func138 (by kernel_rfl) (by kernel_rfl)) (fun s w hs hw=>by
  unfold b1z;rcases hr:Lib.atoiAll s.data.toList with v | _ | _
  ·exact(Tryz.strconv_Atoi_ok s (by omega) v hr w).mono fun e w' ⟨he,hx⟩=>⟨he,by
    rcases hx with rfl | ⟨t,rfl⟩
    ·exact Below.refl _ _
    ·exact Lib.bytesWorld_below _ _ _⟩
  ·obtain⟨tp,p,hv⟩:=hL.syn;exact(Tryz.strconv_Atoi_syntax_var s hs hr tp p w (bss hw hv)).mono fun e w' ⟨N,he,_,_,hb⟩=>⟨⟨N,he⟩,hb⟩
  ·obtain⟨tp,p,hv⟩:=hL.rng;exact(Tryz.strconv_Atoi_range_var s hs hr tp p w (bss hw hv)).mono fun e w' ⟨N,he,_,_,hb⟩=>⟨⟨N,he⟩,hb⟩)
theorem cp9{W0:World}(hL:LaidV W0):bb0 Tryz.prog W0 244 cpv:=
 c8z (ty:=9) (bjf Tryz.func244 (by kernel_rfl) (by kernel_rfl)) (fun s sep w hs h1 hw=>by
  obtain⟨m,hm⟩:=hL.rep;exact Tryz.strings_Split s sep m w hs (bk8 hw hm) h1)
noncomputable abbrev dft:Rec:=bpr (bp9 cfg [])
theorem eqn00{f:Nat}{fn:AFun}(hT:bp9 cfg [] f=some (.air fn)){args:LA}{S:LB}{r:AEnd×LB}(h:b9v dft fn args S=some r):dft f args S=some r:=b3v hT h
theorem dp9(n:Nat)(h:n≤255)(S:LB):dft 121 [.int .u8 (n:Int)] S=some (.ret (.int .u8 (if 65≤n∧n≤90 then(n:Int)+32 else(n:Int))) none,S):=by
 refine eqn00 rfl ?_;by_cases h1:65≤n
 ·by_cases h2:n≤90
  ·have h1':(65:Int)≤(n:Int):=by omega
   have h2':(n:Int)≤90:=by omega
   have e1:IntKind.wrap .u8 ((n:Int)+97)=(n:Int)+97:=by simp[IntKind.wrap,IntKind.bits,IntKind.signed];omega
   have e2:IntKind.wrap .u8 ((n:Int)+97 - 65)=(n:Int)+32:=by simp[IntKind.wrap,IntKind.bits,IntKind.signed];omega
   simp[dtv,h1,h2,h1',h2',e1,e2]
  ·have h1':(65:Int)≤(n:Int):=by omega
   have h2':¬ (n:Int)≤90:=by omega
   simp[dtv,h1,h2,h1',h2']
 ·have h1':¬ (65:Int)≤(n:Int):=by omega
  simp[dtv,h1,h1']
theorem low00(x:Nat)(S:LB):dft 123 [.int .i32 (x:Int)] S=some (.ret (.int .i32 (c6d (x:Int))) none,S):=by
 refine eqn00 rfl ?_;obtain⟨n,hn⟩:∃n,x % 256=n:=⟨_,rfl⟩;have hle:n≤255:=by omega
 have e1:IntKind.wrap .u8 (x:Int)=(n:Int):=by simp[IntKind.wrap,IntKind.bits,IntKind.signed];omega
 have e2:((x:Int) % 256).toNat=n:=by omega
 have q:=dp9 n hle S;unfold c6d;simp only[e2];have hr:(0:Int)≤(if 65≤n∧n≤90 then(n:Int)+32 else(n:Int))∧(if 65≤n∧n≤90 then(n:Int)+32 else(n:Int))≤1000:=by split<;>omega
 generalize (if 65≤n∧n≤90 then(n:Int)+32 else(n:Int))=m at *;have e3:IntKind.wrap .i32 m=m:=by simp[IntKind.wrap,IntKind.bits,IntKind.signed];omega
 simp[a123,e1,q,e3]
theorem cqr{W W':World}{r:AV}{own:Option Nat}{S':LB}{e:Ending}(h:b99 (gOf W) W (.ret r own) S' e W'):Below W.heap.size W W'∧∃g' v,e=.returned v∧RV g' W' r v∧SInv g' W' S'∧Ext (gOf W) W g' W':=by
 obtain⟨g',hE,hS,_,v,he,hv,_⟩:=h;exact⟨⟨hE.os,hE.tape,hE.output,hE.size,fun k hk=>(hE.ext k (by simp[gOf,hk])).2.1⟩,g',v,he,hv,hS,hE⟩
theorem dg2(w:World):MapGrows Tryz.prog 123 #[] c6d w:=by
 intro W x hx hb;have hr:bbk Tryz.prog W (bpr (bp9 cfg [])):=bs0 (fun n=>b4t dq8 cj8 (by intro p hp;cases hp) n);obtain⟨_,hC⟩:=hr _ _ _ _ _ (low00 x []);refine(hC (gOf W) W #[.int .i32 (x:Int)] (crk W) (by simp[RT,R,Value.cells,AV.isAgg,cp2]) (dh5 W) (b35 W)).mono fun e W' hp=>?_
 obtain⟨hb,g',v,rfl,hv,_⟩:=cqr hp;obtain rfl:=bcv.1 hv;exact⟨rfl,hb⟩
theorem cqh{W0:World}(hL:LaidV W0):bb0 Tryz.prog W0 122 (csv 123):=
 dsp (bjf Tryz.func122 (by kernel_rfl) (by kernel_rfl)) (fun s w h1 h2 hb=>by
  have h:=Tryz.strings_Map_grows 123 #[] (enters_of Tryz.func123 (by kernel_rfl) rfl) c6d s w (by omega) (dg2 w) (fun x _=>cv4 x) (Utf8Tabs_below hL.utf hb);rw[cq7 _ h2]at h;exact h)
theorem cf0{W0:World}(hL:LaidV W0)(n:Nat):bbk Tryz.prog W0 (btd (bp9 cfg ddb) n):=b4t dq8 cj8 (by
 intro p hp;simp only[ddb,dc,List.mem_nil_iff,or_false]at hp;rcases hp with rfl | rfl | rfl | rfl | rfl | rfl | rfl | rfl<;>first | exact cqd hL | exact cp9 hL | exact c2x W0 | exact cqh hL | exact cqg hL | exact cqf hL | exact cqc hL | exact cqb hL) n
end Go.Av
