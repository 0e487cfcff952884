/- Part of syntax_parses. -/
import Derived.Test.YtdcknoijcepibaaGreatDoorQ13
import Derived.Test.YtdcknoijcepibaaGreatDoorQ6
set_option linter.unusedSimpArgs false
set_option linter.unusedVariables false
set_option maxRecDepth 100000
set_option maxHeartbeats 16000000
namespace Go.Av
open Go Go.Proofs Go.RowKit Go.Shelf
attribute [local go_sem] Oper.semAt_some
abbrev Tk:=Int×ByteArray×Int
def dkj(W:World)(b o:Nat)(xs:List Tk):Prop:=∀(j:Nat) x,xs[j]? = some x→W.cell? ⟨b,o+j*3,none⟩=some (.int .i64 x.1)∧W.cell? ⟨b,o+j*3+1,none⟩=some (.string x.2.1)∧W.cell? ⟨b,o+j*3+2,none⟩=some (.int .i64 x.2.2)
theorem dkj.below{W W':World}{b o n₀:Nat}{xs:List Tk}(h:dkj W b o xs)(hb:b<n₀)(k:Below n₀ W W'):dkj W' b o xs:=fun j x hj=>by
 obtain⟨h1,h2,h3⟩:=h j x hj;exact⟨(k.cell hb).trans h1,(k.cell hb).trans h2,(k.cell hb).trans h3⟩
def cph(W:World)(p:Option Addr)(n₀:Nat)(xs:List Tk):Prop:=xs=[]∨∃b o,p=some ⟨b,o,none⟩∧b<n₀∧dkj W b o xs
theorem cph.below{W W':World}{p:Option Addr}{n₀:Nat}{xs:List Tk}(h:cph W p n₀ xs)(k:Below n₀ W W'):cph W' p n₀ xs:=
 h.imp id fun⟨b,o,h1,h2,h3⟩=>⟨b,o,h1,h2,h3.below h2 k⟩
abbrev tkEnc(x:Tk):Array Value:=#[.agg #[.int .i64 x.1,.string x.2.1,.int .i64 x.2.2]]
theorem cs8(n:Nat)(l Bn n₀ cap:Nat)(p:Option Addr)(xs:List Tk)(hlen:xs.length≤4611686018427387903)(J Jx:List Tk→World→Prop)
  (n₁:Nat) (hJ:∀pre A B,J pre A→KN n₁ A B→J pre B)
  (hY:∀pre x W,J pre W→pre++[x] <+: xs→YieldAt Fence.wide (n - 1) Tryz.prog l (tkEnc x) W fun e W'=>
   (e=.returned (.bool true)∧J (pre++[x]) W'∧Below n₀ W W')∨(e=.returned (.bool false)∧Jx (pre++[x]) W'))
  (W:World) (hn₁:n₁=W.heap.size) (hn:n₀≤W.heap.size) (hx:cph W p n₀ xs) (hBn:W.cell? ⟨Bn,0,none⟩=some (.slice p xs.length cap)) (h0:J [] W) :
  CallsIn Fence.wide n Tryz.prog 107 #[.func (.yield l) #[] #[],.pointer (some ⟨Bn,0,none⟩)] W fun e W'=>(∃v,e=.returned v) ∧
   (J xs W'∨∃pre,pre <+: xs∧Jx pre W'):=by
 refine callsIn_of_wp Tryz.func107 rfl trivial ?_ rfl;simp only[Tryz.ntmps107,jk,cm,ct,Nat.reduceAdd,Nat.reduceSub,jx,jz,md,km,gj,dv]
 gi_wp2
 gi_loopw [7] (fun q wr=>∃i:Nat,q=.int .i64 (i:Int)∧i≤xs.length∧n₀≤wr.heap.size∧n₁≤wr.heap.size∧cph wr p n₀ xs∧J (xs.take i) wr)
  (fun q _=>xs.length - (Go.RowKit.intOf q).toNat)
 case atStart=>exact⟨0,rfl,sg _,hn,by omega,hx,by simpa using h0⟩
 case round=>
  obtain⟨i,rfl,hi,hnr,hn1,hxr,hJr⟩:=hrel;rcases fk i xs.length with hlt | hge
  ·obtain⟨x,hxi⟩:∃x,xs[i]? = some x:=⟨xs[i],by rw[cz hlt]⟩;have htk:xs.take (i+1)=xs.take i++[x]:=by rw[qg,hxi];rfl
   have hpre:xs.take i++[x] <+: xs:=by rw[← htk];exact vb _ _
   obtain⟨b,o,rfl,hb,hat⟩:=hxr.resolve_left (fun e=>by rw[e]at hlt;simp at hlt);obtain⟨h1,h2,h3⟩:=hat i x hxi
   gi_wp2
   obtain⟨w3,hw3⟩:∃w3,wr.alloc (.cells #[.int .i64 x.1,.string x.2.1,.int .i64 x.2.2] 98)=w3:=⟨_,rfl⟩;rw[hw3];have hb3:Below wr.heap.size wr w3:=by rw[← hw3];exact(Below.refl _ _).alloc (cj _) _
   obtain⟨fn,tmps,assign,body,hy,hR⟩:=hY (xs.take i) x w3 (hJ _ _ _ hJr (KN.of_below hn1 hb3)) hpre;rw[hy];refine⟨(fun h=>by cases h),hR.mono ?_⟩;rintro e w4 (⟨rfl,hJ4,hb4⟩ | ⟨rfl,hJx4⟩)
   ·gi_wp2
    refine⟨⟨i+1,by simp,by omega,dg hnr (dg hb3.size hb4.size),dg hn1 (dg hb3.size hb4.size),hxr.below ((hb3.mono hnr).trans hb4),by rw[htk];exact hJ4⟩,by simp[Go.RowKit.intOf];omega⟩
   ·gi_wp2
    refine bodyPost_ret (results_none rfl _ _ _) rfl ?_;exact⟨⟨_,rfl⟩,.inr ⟨_,hpre,hJx4⟩⟩
  ·have hd:((i:Int)<(xs.length:Int))=False:=by simp;omega
   gi_wp2
   go_end0
   have:xs.take i=xs:=dm hge;exact⟨⟨_,rfl⟩,.inl (by rw[← this];exact hJr)⟩
theorem c0z(v:Value)(hv:v.oneCell'=true)(hv2:v.cells=#[v])(W:World):CallsIn Fence.wide 2 Tryz.prog 54 #[v] W fun e W'=>e=.returned (.func (.func 107) #[] #[.pointer (some ⟨W.heap.size,0,none⟩)])∧W'=W.alloc (.cells #[v] 65):=by
 refine callsIn_of_wp Tryz.func54 rfl trivial ?_ rfl;simp only[Tryz.ntmps54,jk,cm,ct,Nat.reduceAdd,Nat.reduceSub,jx,jz,md,km,gj,dv]
 gi_wp2
 go_ret
 exact⟨rfl,rfl⟩
theorem csb(g j:Nat):(⟨g,0,none⟩:Addr).add j=⟨g,j,none⟩:=by unfold Addr.add;split<;>simp_all
def jnI(W:World)(pre:List Tk)(A:World):Prop:=(∃v,Boxed A W.heap.size 89 v∧A.ownsRow W.heap.size 9 1 v pre.length (pre.map fun x=>Value.string x.2.1))∧W.heap.size+1<A.heap.size∧Below W.heap.size W A
theorem dmk{W:World}{B:Nat}(hB:W.heap.size≤B){pre:List Tk}{X Y:World}(h:jnI W pre X)(k:KC B X Y):jnI W pre Y:=by
 obtain⟨⟨v,h1,h2⟩,h3,h4⟩:=h;exact⟨⟨v,bm3 h1 k,b8r h2 k⟩,kr h3 k.below.size,h4.trans (k.below.mono hB)⟩
theorem dsc:(Tryz.prog.info? 9).map (fun i=>(i.zero,i.size,i.bytes))=some (some (.string ⟨#[]⟩),1,16):=by kernel_rfl
theorem dt6(p:Option Addr)(cap:Nat)(xs:List Tk)(W:World)(hlen:xs.length≤8796093022208)(hcap:xs.length≤cap)(hx:cph W p W.heap.size xs)
  (hj:(Lib.join (xs.map (fun x=>x.2.1.data.toList)) [32]).length≤140737488355328) :
  Calls Tryz.prog 30 #[.slice p xs.length cap] W fun e W'=>e=.returned (.string ⟨(Lib.join (xs.map (fun x=>x.2.1.data.toList)) [32]).toArray⟩)∧Below W.heap.size W W':=by
 refine(callsIn_wide (n:=3)).1 ?_;refine callsIn_of_wp_marks Tryz.func30 rfl trivial ?_ rfl;simp only[Tryz.ntmps30,jk,cm,ct,Nat.reduceAdd,Nat.reduceSub,jx,jz,md,km,gj,dv]
 gi_wp2_with (refine⟨trivial,?_⟩;gi_at_call 54;refine(c0z _ rfl rfl _).mono ?_;rintro e w' ⟨rfl,rfl⟩)
 have b1:=(Boxed.new W 89 (.slice none 0 0)).alloc (.cells #[.slice p xs.length cap] 65);have b2:=Boxed.new (W.alloc (.cells #[.slice none 0 0] 89)) 65 (.slice p xs.length cap);rw[World.size_alloc]at b2;have hB0:Below W.heap.size W ((W.alloc (.cells #[.slice none 0 0] 89)).alloc (.cells #[.slice p xs.length cap] 65)):=((Below.refl _ W).alloc (cj _) _).alloc (by simp) _;have hsz:((W.alloc (.cells #[.slice none 0 0] 89)).alloc (.cells #[.slice p xs.length cap] 65)).heap.size=W.heap.size+2:=by simp
 obtain⟨Wl,hWl⟩:∃Wl,(W.alloc (.cells #[.slice none 0 0] 89)).alloc (.cells #[.slice p xs.length cap] 65)=Wl:=⟨_,rfl⟩;rw[hWl]at b1 b2 hB0 hsz ⊢;clear hWl;have hseq:cpj (3 - 1) Tryz.prog 107 #[.pointer (some ⟨W.heap.size+1,0,none⟩)] tkEnc (Below W.heap.size) xs Wl:=by
  intro l J Jx X hX hJ hJx hY h0;exact cs8 (3 - 1) l (W.heap.size+1) W.heap.size cap p xs (by omega) J Jx X.heap.size hJ hY X rfl (dg hB0.size hX.below.size) (hx.below (hB0.trans (hX.below.mono (by omega)))) (bm3 b2 hX.kc).cell h0
 refine cdx (gf:=107) (lb:=#[.pointer (some ⟨W.heap.size+1,0,none⟩)]) rfl (enters_of Tryz.func107 (by kernel_rfl) rfl) hseq (fun h k=>h.trans k)
  (fun A l r o hl hr=>(KL.putLoop hr (by omega) o).below) (fun _=>rfl)
  (jnI W) (fun _ _=>False) (fun _ _ _ h k=>dmk (by omega) h k) (fun _ _ _ h _=>h) ⟨⟨_,b1,World.ownsRow_nil _ _ _ _⟩,by omega,hB0⟩
  (fun x a' A=>∃Bx,A.heap[Bx]? = some (.cells #[.int .i64 x.1,.string x.2.1,.int .i64 x.2.2] 98 (0,0))∧a'={tmps:=#[.slice p xs.length cap,undef,.string ⟨#[]⟩,.pointer (some ⟨W.heap.size,0,none⟩),.pointer (some ⟨Bx,0,none⟩),.slice p xs.length cap,.func (.func 107) #[] #[.pointer (some ⟨W.heap.size+1,0,none⟩)],.agg #[.int .i64 x.1,.string x.2.1,.int .i64 x.2.2],undef,undef,undef,undef,undef,undef,undef],defers:=[]})
  ?ax ?assign ?body ?done (fun _ _ _ _ _ h _=>h.elim)
 case ax=>exact fun y a' A B h k=>by obtain⟨Bx,h1,h2⟩:=h;exact⟨Bx,k.same _ _ h1 rfl,h2⟩
 case assign=>
  intro l pre x A K hI hpre hK
  gi_wp2
  have hle:=hI.2.1;exact hK _ _ (KeepsOthers.alloc _ _) ((Below.refl _ _).alloc (by omega) _) (dmk (cj _) hI (KL.alloc (by omega) _).kc) ⟨A.heap.size,World.alloc_heap_new A _,rfl⟩
 case body=>
  rintro l pre x a' A hI ⟨Bx,hbx,rfl⟩ hpre;obtain⟨⟨v,hv,hrow⟩,hsA,hBA⟩:=hI;have hpl:pre.length+1≤xs.length:=by
   have h1:=hpre.length_le;simpa using h1
  have cv:=hv.cell;have x2:A.cell? ⟨Bx,1,none⟩=some (.string x.2.1):=by simp[World.cell?,hbx]
  obtain⟨i0,hi,hz0,hz1,hz2⟩:=info_parts dsc
  gi_wp2_with (gi_at_builtin;refine wpListIn_append_own _ rfl _ _ 89 rfl W.heap.size 9 i0 (.string ⟨#[]⟩) 1 16 Tryz.underlying89 hi hz0 hz1 hz2 rfl (by decide) _ _ _ rfl (hrow.alloc _) ⟨A.heap.size,0,none⟩ 1 1 [.string x.2.1] rfl rfl (cell_one_new _ _ _) (by simp[Value.oneCell']) (by simp only[maxLen];omega) (by omega) (by simp;omega) ?_;intro v' w1 hown' hgrow _;obtain⟨g',cap',rfl⟩:=ownsRow_succ hown';obtain⟨hv1,hv2,hr3,hk2,hb2⟩:=hv.appended (by decide) hrow (by omega) (cj _) hown' hgrow;have hc1:=hv1.cell;have hf1:=hv1.frozen)
  refine⟨hk2,hb2,⟨_,hv2,?_⟩,kr hsA hb2.size,hBA.trans hb2⟩;rw[dh,gt];exact hr3
 case done=>
  intro D A hD hI hK;obtain⟨⟨v,hv,hrow⟩,hsA,hBA⟩:=hI;have cv:=hv.cell;simp only[Exit.inBlock,Exit.then];have hJ:Calls Tryz.prog 55 #[v,.string ⟨#[32]⟩] A fun e w'=>e=.returned (.string ⟨(Lib.join (xs.map (fun x=>x.2.1.data.toList)) [32]).toArray⟩)∧Below A.heap.size A w':=by
   have em:xs.map (fun x=>x.2.1.data.toList)=(xs.map fun x=>x.2.1).map (·.data.toList):=by rw[vc];rfl
   rcases hrow.2 with⟨rfl,h0⟩ | ⟨g,c,cur,rfl,hg,hgg,hc,hm,hsz,htk⟩
   ·have:xs=[]:=fh.1 h0;subst this;refine(Tryz.strings_Join_none none 0 ⟨#[32]⟩ A).mono ?_;rintro e w' ⟨rfl,rfl⟩;exact⟨rfl,Below.refl _ _⟩
   ·have hl:xs.length=(xs.map fun x=>x.2.1).length:=by simp
    have hJ:=Tryz.strings_Join g 0 c (xs.map fun x=>x.2.1) ⟨#[32]⟩ A (fun j x hj=>by
      have:=hrow.cells (g:=g) rfl j (.string x) (by
       rw[d4,bv]at hj;obtain⟨y,hy,rfl⟩:=hj;rw[d4,hy];rfl)
      rwa [show((⟨g,0,none⟩:Addr).add j)=⟨g,0+j,none⟩ by rw[dt];exact csb g j]at this) (db.1 hgg).1 (by rw[mc];omega) (by rw[mc];exact hc) (by rw[← em];exact hj)
    rw[← hl]at hJ;rw[em];exact hJ
  have ltD:D<A.heap.size:=(db.1 hK).1
  gi_wp2_with (refine⟨trivial,?_⟩;gi_at_call 55;refine(callsIn_wide.2 hJ).mono ?_;rintro e w' ⟨rfl,hbw⟩)
  have hK2:=(hbw.block D ltD).trans hK;refine⟨by simp,.inl ⟨_,_,rfl,run_takeDeferred hK2,?_⟩⟩;have k:=KD.put hK2 (cj D) (.deferred none);exact⟨_,results_tmp rfl _ _ _,rfl,(hBA.trans (hbw.mono (by omega))).trans (k.below.mono (by omega))⟩
end Go.Av
