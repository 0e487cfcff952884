/- Part of syntax_parses. -/
import Derived.Test.YtdcknoijcepibaaGreatDoorQ11
import Derived.Test.YtdcknoijcepibaaGreatDoorQ14
import Derived.Test.YtdcknoijcepibaaGreatDoorQ15
set_option linter.unusedSimpArgs false
set_option linter.unusedVariables false
set_option maxRecDepth 100000
set_option maxHeartbeats 16000000
namespace Go.Av
open Go Go.Proofs Go.RowKit
def nxB(s:ByteArray):Int×ByteArray×Nat:=match bvj bj9 s.data.toList with
 | some (k,t)=>(k,bs t,t.length)
 | none=>(0,⟨#[]⟩,0)
theorem nxB_le(s:ByteArray):(nxB s).2.2≤s.size:=by
 unfold nxB;split
 ·rename_i k t h;exact(bx3 h).2
 ·exact sg _
def MOw(o:Obj):Prop:=∃es clock,o=.map es clock∧∀g W,MR g W bc1.cells es.toList
theorem dt4(o:Obj)(h:MOw o):b2v o=true:=by
 obtain⟨es,clock,rfl,_⟩:=h;rfl
theorem dc2:∀(l:LV) {g:Gh} {W:World} {es:List MapEntry},MR g W (l.map fun w=>[AV.str (bs w),AV.bool true]).flatten es→∀g' W',MR g' W' (l.map fun w=>[AV.str (bs w),AV.bool true]).flatten es
 | [],g,W,[],h,g',W'=>trivial
 | [],g,W,e::es,h,g',W'=>h
 | w::l,g,W,[],h,g',W'=>by
  simp only[cr,jm,rZd,MR]at h
 | w::l,g,W,e::es,h,g',W'=>by
  simp only[cr,jm,rZd,MR]at h ⊢;refine⟨⟨?_,?_⟩,dc2 l h.2 g' W'⟩
  ·have:=h.1.1;simpa[RV,R] using this
  ·have:=h.1.2;simpa[RV,R] using this
theorem cht{g:Gh}{W:World}(hS:SInv g W [bc1]):∃b o,g.B[0]? = some b∧W.heap[b]? = some o∧MOw o∧g.O b=.box 0:=by
 obtain⟨b,h1,h2⟩:=hS.box 0 bc1 rfl;unfold BxS at h2;rw[if_pos (show bc1.map=true from rfl)]at h2;obtain⟨_,es,clock,h3,h4,h5,_⟩:=h2;exact⟨b,_,h1,h3,⟨es,clock,rfl,fun g' W'=>dc2 bdd h4 g' W'⟩,h5⟩
theorem RV_map{g:Gh}{W:World}{v:Value}(h:RV g W (.mapp 0) v):∃b,g.B[0]? = some b∧v=.map (some b):=by
 obtain⟨h1,h2⟩:=h;simp only[R]at h1;obtain⟨b,hb,e⟩:=h1;refine⟨b,hb,?_⟩;cases v<;>simp_all [Value.cells,AV.isAgg,cp2]
theorem c8s{W0 W:World}(hW:Below W0.heap.size W0 W):Base W0 (gOf W) W:=
 ⟨hW.size,hW.os,hW.tape,hW.output,fun b hb=>⟨by simp[gOf];have:=hW.size;omega,hW.block b hb⟩⟩
theorem setHyp{W0:World}(hL:LaidV W0):dcq W0 MOw:=by
 intro W hW;obtain⟨_,hC⟩:=bs0 (fun n=>cf0 hL n) _ _ _ _ _ c66;refine(hC (gOf W) W #[] (c8s hW) (by simp[RT]) (dh5 W) (b35 W)).mono fun e W' hp=>?_
 obtain⟨hb,g',v,rfl,hv,hS,hE⟩:=cqr hp;obtain⟨b,h1,rfl⟩:=RV_map hv;obtain⟨b',o,h1',h2,h3,h4⟩:=cht hS;obtain rfl:b=b':=by rw[h1]at h1';exact bf h1'
 refine⟨hb,b,o,rfl,?_,h2,h3⟩;rcases fk b W.heap.size with hlt | hge
 ·have:=(hE.ext b (by simp[gOf,hlt])).1;rw[h4]at this;cases this
 ·exact hge
theorem RV_tok{g:Gh}{W:World}{a c n:Int}{b:ByteArray}{v:Value}(h:RV g W (.tuple [.agg [.int .i64 a,.str b,.int .i64 c],.int .i64 n]) v):v=.tuple #[.agg #[.int .i64 a,.string b,.int .i64 c],.int .i64 n]:=by
 obtain⟨h1,h2⟩:=h;simp only[R,RT,RL]at h1;obtain⟨arr,e,v1,r1,e1,⟨⟨x1,y1,f1,⟨_,g1⟩,x2,y2,f2,⟨_,g2⟩,x3,y3,f3,⟨_,g3⟩,f4⟩,a1⟩,v2,r2,e2,⟨k1,a2⟩,e3⟩:=h1;simp only[gr,and_true]at g1 g2 g3;subst f4 f3 f2 g1 g2 g3 e3 e2;have q1:v1=.agg #[.int .i64 a,.string b,.int .i64 c]:=by
  cases v1<;>simp_all [Value.cells,AV.isAgg,cp2];rename_i cs;have:=congrArg List.toArray f1;simpa using this
 have q2:v2=.int .i64 n:=by
  cases v2<;>simp_all [Value.cells,AV.isAgg,cp2]
 obtain⟨l⟩:=arr;simp only at e1;subst e1 q1 q2;cases v<;>simp_all [Value.cells,AV.isAgg,cp2]
theorem dgj(s:ByteArray):bx5 s.data.toList=.tuple [.agg [.int .i64 (nxB s).1,.str (nxB s).2.1,.int .i64 0],.int .i64 ((nxB s).2.2:Int)]:=by
 unfold bx5 nxB brr bcr;split<;>simp_all
theorem dq3{W0:World}(hL:LaidV W0):cpq nxB W0 MOw:=by
 intro W s b o hW hbW hs0 hs hbo hmo;have hsl:s.data.toList.length=s.size:=rfl;have hc:=c67 s.data.toList (by omega) (fun e=>by
  have:=congrArg List.length e;rw[hsl]at this;simp only[ct]at this;omega)
 rw[← dtb,dgj]at hc;obtain⟨_,hC⟩:=bs0 (fun n=>cf0 hL n) _ _ _ _ _ hc;have hlt:=(db.1 hbo).1
 let g:Gh:={T:=fun k=>if k=b then 0 else(gOf W).T k,B:=[b],O:=fun k=>if k=b then .box 0 else(gOf W).O k}
 have hS0:=dh5 W;have hB:Base W0 g W:=⟨hW.size,hW.os,hW.tape,hW.output,fun k hk=>by
  have hne:k≠b:=by omega
  have:=hW.size;exact⟨by simp[g,hne,gOf];omega,hW.block k hk⟩⟩
 have hS:SInv g W [bc1]:=by
  refine⟨rfl,fun i x hx=>?_,fun k hk=>?_⟩
  ·cases i with
   | zero=>
    simp only[mp,bd]at hx;subst hx;obtain⟨es,clock,rfl,hm⟩:=hmo;refine⟨b,rfl,?_⟩;unfold BxS;rw[if_pos (show bc1.map=true from rfl)];exact⟨rfl,es,clock,hbo,hm _ _,by simp[g],by simp[g]⟩
   | succ i=>simp at hx
  ·have hne:k≠b:=by omega
   have:=hS0.fresh k hk;exact⟨by simp[g,hne,this.1],by simp[g,hne,this.2]⟩
 have hcalm:∀k,(g.O k).calm:=fun k=>by
  by_cases e:k=b
  ·simp[g,e,Own.calm]
  ·simp only[g,e,if_false];exact b35 W k
 refine(hC g W #[.string s,.map (some b)] hB (by
  show RT g W [.str s,.mapp 0] [.string s,.map (some b)];simp only[RT];exact⟨_,_,rfl,bfb.2 rfl,_,_,rfl,⟨by simp only[R,Value.cells];exact⟨b,rfl,rfl⟩,rfl⟩,rfl⟩) hS hcalm).mono fun e W' hp=>?_
 obtain⟨g',hE,hS',_,v,rfl,hv,_⟩:=hp;obtain rfl:=RV_tok hv;obtain⟨b',o',h1,h2,h3,_⟩:=cht hS';have hb':g'.B[0]? = some b:=hE.B 0 b rfl;obtain rfl:b'=b:=by rw[h1]at hb';exact bf hb'
 exact⟨⟨hE.os,hE.tape,hE.output,hE.size,fun k hk hne=>(hE.ext k (by simp[g,hne,gOf,hk])).2.1⟩,⟨o',h2,h3⟩,rfl⟩
end Go.Av
namespace Go.Av
open Go Go.Proofs Go.RowKit
def Tok.row(x:Tok):List Value:=[.int .i64 x.k,.string (bs x.t),.int .i64 (x.at':Int)]
def Tok.av(x:Tok):AV:=.agg [.int .i64 x.k,.str (bs x.t),.int .i64 (x.at':Int)]
def bm4(l:LT):List Value:=(l.map Tok.row).flatten
def dt9(ys:List Yd):Option (LT)→Prop
 | some l=>c0r ys=true∧b4b ys=bm4 l∧ys.length=l.length
 | none=>c0r ys=false
theorem c0s{y:Yd}{ys:List Yd}{x:Tok}{o:Option (LT)}(h:dt9 ys o)(h1:y.ok=true)(h2:y.row=x.row):dt9 (y::ys) (o.map fun l=>x::l):=by
 cases o with
 | none=>
  simp only[dt9,bm,c0r,tj,h1,kf]at h ⊢;exact h
 | some l=>
  obtain⟨g1,g2,g3⟩:=h;refine⟨?_,?_,by simp[g3]⟩
  ·simp only[c0r,tj,h1,kf];exact g1
  ·simp only[b4b,bm4,cr,jm,h2]at g2 ⊢;rw[g2]
theorem bs_idx(s:LU){a:Nat}{c:UInt8}(h:s[a]? = some c):(bs s)[a]! = c:=by
 have hlt:=(cf.1 h).1;have h2:(bs s)[a]? = some c:=by rw[bc6];exact h
 rw[getElem!_pos (bs s) a (by rw[zj];exact hlt)];rw[getElem?_pos (bs s) a (by rw[zj];exact hlt)]at h2;exact bf h2
theorem nxB_bs(s:LU):nxB (bs s)=match bvj bj9 s with
  | some (k,t)=>(k,bs t,t.length)
  | none=>(0,⟨#[]⟩,0):=by
 unfold nxB;rw[bpc]
 all_goals (rcases bvj bj9 s with _ | ⟨k,t⟩<;>rfl)
theorem c0q(s:LU):∀(f a:Nat),s.length<a+f→a≤s.length→dt9 (ydL nxB (bs s) f a) (b66 bj9 f (s.drop a) a)
 | 0,a,h,ha=>by omega
 | f+1,a,h,ha=>by
  rw[ydL,zj];by_cases hlt:a<s.length
  ·obtain⟨c,hc⟩:∃c,s[a]? = some c:=⟨s[a],cz hlt⟩;have hb:chv c=true↔(c=32∨c=10):=by simp[chv]
   have hex:(bs s).extract a s.length=bs (s.drop a):=by rw[bct];simp
   rw[if_pos hlt,bs_idx s hc,hex];have hd:=bjr hc;by_cases hbl:c=32∨c=10
   ·rw[if_pos hbl,hd,b66,if_pos (hb.2 hbl)];exact c0q s f (a+1) (by omega) (by omega)
   ·rw[if_neg hbl,nxB_bs];have htf:b66 bj9 (f+1) (s.drop a) a=match bvj bj9 (s.drop a) with
      | some (k,t)=>(b66 bj9 f ((s.drop a).drop t.length) (a+t.length)).map fun l=>⟨k,t,a⟩::l
      | none=>none:=by
     conv=>lhs;rw[hd,b66,if_neg (fun h=>hbl (hb.1 h))]
     rw[hd];rcases bvj bj9 (c::s.drop (a+1)) with _ | ⟨k,t⟩<;>rfl
    rw[htf];cases ho:bvj bj9 (s.drop a) with
    | none=>simp[dt9,c0r]
    | some p=>
     obtain⟨k,t⟩:=p;obtain⟨l1,l2⟩:=bx3 ho;rw[fb]at l2;have ht0:¬ t.length=0:=by omega
     simp only;rw[if_neg ht0,fz];refine c0s (x:=⟨k,t,a⟩) (c0q s f (a+t.length) (by omega) (by omega)) ?_ rfl;simp only[decide_eq_true_eq];omega
  ·rw[if_neg hlt];have e:s.drop a=[]:=fj (by omega);rw[e,b66];exact⟨rfl,rfl,rfl⟩
def brq(s:LU):Option (LT):=b66 bj9 (s.length+1) s 0
def tokE(s:LU):AV:=if 4000<s.length then .tuple [.slice 3 [],.int .i64 2] else match brq s with
 | some l=>.tuple [.slice 3 (l.map Tok.av),.int .i64 0]
 | none=>.tuple [.slice 3 [],.int .i64 80]
def b4c(args:LA)(S:LB):Option (AEnd×LB):=
 match args,S with
 | [.str s],[]=>some (.ret (tokE s.data.toList) none,[])
 | _,_=>none
theorem dcx{g:Gh}{W:World}:∀(l:LT),RE g W 3 (l.map Tok.av) (bm4 l)
 | []=>by simp[RE,bm4]
 | x::l=>by
  simp only[cr,RE];refine⟨x.row,bm4 l,by simp[bm4],rfl,⟨rfl,?_⟩,dcx l⟩;simp[Tok.av,Tok.row,R,RL,AV.isCell]
theorem csf{g:Gh}{W:World}{a:AV}{n:Int}{v:Value}(h:RV g W a v):RV g W (.tuple [a,.int .i64 n]) (.tuple #[v,.int .i64 n]):=
 ⟨by simp only[Value.cells,R,RT];exact⟨_,rfl,_,_,rfl,h,_,_,rfl,⟨rfl,rfl⟩,rfl⟩,rfl⟩
theorem cpk{g:Gh}{W:World}:RV g W (.slice 3 []) (.slice none 0 0):=
 ⟨by simp only[Value.cells,R];exact⟨none,0,rfl,cj _,.inl trivial⟩,rfl⟩
theorem df9{g:Gh}{W W':World}(hS:SInv g W [])(hc:∀b,(g.O b).calm)(hB:Below W.heap.size W W'){l:LT}{v:Value}{e n:Nat}{c:Int}(hn:n=l.length)(ho:W'.ownsRow W.heap.size e 3 v n (bm4 l)) :
  b99 g W (.ret (.tuple [.slice 3 (l.map Tok.av),.int .i64 c]) none) [] (.returned (.tuple #[v,.int .i64 c])) W':=by
 subst hn;rcases ho.2 with⟨rfl,h0⟩ | ⟨gb,cap,cur,rfl,hg,hgg,hcap,hm,hsz,htk⟩
 ·obtain rfl:l=[]:=fh.1 h0;exact bh2 hS hc hB (csf cpk)
 ·have hlt:=(db.1 hgg).1;have hrl:(bm4 l).length=l.length*3:=ho.1
  let g':Gh:={g with T:=upd g.T gb (l.length*3)}
  have hT0:g.T gb=0:=(hS.fresh gb hg).1;have lt:∀b,(g.T b≠0∨g.O b≠.free)→b<W.heap.size:=by
   intro b h;rcases fk b W.heap.size with h1 | h1
   ·exact h1
   ·have:=hS.fresh b h1;rcases h with h | h
    ·exact absurd this.1 h
    ·exact absurd this.2 h
  have hE0:=br8 hS hB;have hE:Ext g W g' W':=by
   refine⟨⟨fun b=>?_,hE0.cell,fun _ _ h=>h⟩,hB.size,hB.os,hB.tape,hB.output,fun b hb=>?_⟩
   ·show g.T b≤upd g.T gb (l.length*3) b;by_cases e:b=gb
    ·subst e;rw[bb2,hT0];omega
    ·rw[bbh _ _ _ _ e];exact cj _
   ·have h1:=lt b (.inr (by rw[hb];simp));have e:b≠gb:=by omega
    exact⟨hb,hB.block b h1,by show upd g.T gb (l.length*3) b=_;rw[bbh _ _ _ _ e]⟩
  have hS':SInv g' W' []:=by
   refine⟨hS.len,fun i x hx=>by simp at hx,fun b hb=>?_⟩;have e:b≠gb:=by omega
   have:=hS.fresh b (dg hB.size hb);exact⟨by show upd g.T gb (l.length*3) b=_;rw[bbh _ _ _ _ e];exact this.1,this.2⟩
  refine⟨g',hE,hS',fun b=>b1x (hc b),_,rfl,csf ?_,fun te h=>by cases h⟩;refine⟨?_,rfl⟩;simp only[Value.cells,R];refine⟨some ⟨gb,0,none⟩,cap,by simp,by simp;exact hcap,.inr ⟨gb,0,bm4 l,rfl,?_,?_,dcx l⟩⟩
  ·intro j u hu;have:=ho.cells (g:=gb) rfl j u hu;rw[csb]at this;rw[dt];exact this
  ·show 0+(bm4 l).length≤upd g.T gb (l.length*3) gb;rw[bb2,hrl];omega
theorem ckg{W0:World}(hL:LaidV W0):bb0 Tryz.prog W0 20 b4c:=by
 intro args S e S' h;refine⟨bjf Tryz.func20 (by kernel_rfl) (by kernel_rfl),fun g W vs hB hT hS hcalm=>?_⟩;unfold b4c at h;split at h
 ·rename_i s;simp only[bd,bq]at h;obtain⟨rfl,rfl⟩:=h;obtain⟨l⟩:=vs;simp only[RT]at hT;obtain⟨v1,r1,hl,hv1,rfl⟩:=hT;subst hl;obtain rfl:=bfb.1 hv1;have hW:Below W0.heap.size W0 W:=⟨hB.os,hB.tape,hB.output,hB.size,fun k hk=>(hB.ext k hk).2⟩;refine(dcm (setHyp hL) (dq3 hL) nxB_le dt4 s W hW).mono fun e w' hh=>?_
  obtain⟨hb,hh⟩:=hh;have hsl:s.data.toList.length=s.size:=rfl;have hy:=c0q s.data.toList (s.size+1) 0 (by omega) (sg _);rw[← dtb,dj]at hy;unfold tokE brq;rw[hsl];by_cases hbig:4000<s.size
  ·rw[if_pos hbig]at hh ⊢;subst hh;exact bh2 hS hcalm hb (csf cpk)
  ·rw[if_neg hbig]at hh ⊢;cases ht:b66 bj9 (s.size+1) s.data.toList 0 with
   | none=>
    rw[ht]at hy;simp only[dt9]at hy;rw[hy]at hh;simp only[ck,if_false]at hh;subst hh;exact bh2 hS hcalm hb (csf cpk)
   | some toks=>
    rw[ht]at hy;obtain⟨y1,y2,y3⟩:=hy;rw[y1]at hh;simp only[if_true]at hh;obtain⟨v,rfl,ho⟩:=hh;rw[y2]at ho;exact df9 hS hcalm hb y3 ho
 ·cases h
end Go.Av
namespace Go.Av
open Go Go.Proofs Go.RowKit
def dvd:LA→Option (List Tk)
 | []=>some []
 | .agg [.int .i64 k,.str t,.int .i64 a]::r=>(dvd r).map fun l=>(k,t,a)::l
 | _=>none
def b7b(x:Tk):List Value:=[.int .i64 x.1,.string x.2.1,.int .i64 x.2.2]
theorem b0r{g:Gh}{W:World}:∀{es:LA} {xs:List Tk} {ms:List Value},dvd es=some xs→RE g W 3 es ms→ms=(xs.map b7b).flatten∧xs.length=es.length
 | [],xs,ms,h,hE=>by
  simp only[dvd,bd]at h;subst h;simp only[RE]at hE;simp[hE]
 | e::es,xs,ms,h,hE=>by
  unfold dvd at h;split at h
  ·rename_i h';cases h'
  ·rename_i k t a r h';simp only[gr]at h';obtain⟨rfl,rfl⟩:=h';simp only[bv]at h;obtain⟨ys,hy,rfl⟩:=h;simp only[RE]at hE;obtain⟨x,r,rfl,hx,⟨_,hR⟩,hE⟩:=hE;obtain⟨h1,h2⟩:=b0r hy hE;simp only[R,RL]at hR;obtain⟨x1,y1,f1,⟨_,g1⟩,x2,y2,f2,⟨_,g2⟩,x3,y3,f3,⟨_,g3⟩,f4⟩:=hR;simp only[gr,and_true]at g1 g2 g3;subst f4 f3 f2 f1 g1 g2 g3;simp[h1,h2,b7b]
  ·cases h
theorem c3p:∀(xs:List Tk) (j:Nat) (x:Tk),xs[j]? = some x→(xs.map b7b).flatten[j*3]? = some (.int .i64 x.1)∧(xs.map b7b).flatten[j*3+1]? = some (.string x.2.1)∧(xs.map b7b).flatten[j*3+2]? = some (.int .i64 x.2.2)
 | [],j,x,h=>by simp at h
 | y::xs,0,x,h=>by
  simp only[mp,bd]at h;subst h;simp[b7b]
 | y::xs,j+1,x,h=>by
  simp only[vg]at h;obtain⟨h1,h2,h3⟩:=c3p xs j x h;have e:(j+1)*3=j*3+3:=by omega
  refine⟨?_,?_,?_⟩
  ·rw[e];simpa[b7b] using h1
  ·rw[e];simpa[b7b] using h2
  ·rw[e];simpa[b7b] using h3
def cbd(args:LA)(S:LB):Option (AEnd×LB):=
 match args with
 | [.slice 3 es]=>match dvd es with
  | some xs=>if xs.length≤1000000∧(Lib.join (xs.map (fun x=>x.2.1.data.toList)) [32]).length≤140737488355328 then some (.ret (.str ⟨(Lib.join (xs.map (fun x=>x.2.1.data.toList)) [32]).toArray⟩) none,S) else none
  | none=>none
 | _=>none
theorem cfx(W0:World):bb0 Tryz.prog W0 30 cbd:=by
 intro args S e S' h;refine⟨bjf Tryz.func30 (by kernel_rfl) (by kernel_rfl),fun g W vs hB hT hS hcalm=>?_⟩;unfold cbd at h;split at h
 ·rename_i es;split at h
  ·rename_i xs hxs;split at h
   ·rename_i hb;simp only[bd,bq]at h;obtain⟨rfl,rfl⟩:=h;obtain⟨l⟩:=vs;simp only[RT]at hT;obtain⟨v1,r1,hl,hv1,rfl⟩:=hT;subst hl;obtain⟨p,cap,rfl,hcap,hes⟩:=bm2 hv1;have hlen:xs.length=es.length:=by
     cases es with
     | nil=>
      simp only[dvd,bd]at hxs;subst hxs;rfl
     | cons e0 es0=>
      rcases hes with hes | ⟨b,o,ms,rfl,hm,hTb,hE⟩
      ·cases hes
      ·exact(b0r hxs hE).2
    have hin:cph W p W.heap.size xs:=by
     rcases hes with rfl | ⟨b,o,ms,rfl,hm,hTb,hE⟩
     ·exact .inl (fh.1 hlen)
     ·obtain⟨rfl,_⟩:=b0r hxs hE;rcases xs with _ | ⟨x0,xs0⟩
      ·exact .inl rfl
      ·refine .inr ⟨b,o,rfl,?_,fun j x hj=>?_⟩
       ·have:=hm 0 (.int .i64 x0.1) (by simp[b7b]);unfold World.cell? at this;simp only at this;rcases fk b W.heap.size with h1 | h1
        ·exact h1
        ·rw[jq h1]at this;cases this
       ·obtain⟨h1,h2,h3⟩:=c3p _ j x hj;exact⟨hm _ _ h1,hm _ _ h2,hm _ _ h3⟩
    rw[← hlen];refine(dt6 p cap xs W (by omega) (by omega) hin hb.2).mono fun e w' hh=>?_
    obtain⟨rfl,hbel⟩:=hh;exact bs2 hS hcalm hbel _
   ·cases h
  ·cases h
 ·cases h
def b7d:List (Nat×dc5):=(20,b4c)::(30,cbd)::ddb
end Go.Av
namespace Go.Av
open Go Go.Proofs Go.RowKit
noncomputable abbrev bpg:Rec:=bpr (bp9 cfg b7d)
theorem b9g{f:Nat}{fn:AFun}(hT:bp9 cfg b7d f=some (.air fn)){args:LA}{S:LB}{r:AEnd×LB}(h:b9v bpg fn args S=some r):bpg f args S=some r:=b3v hT h
theorem dp0(f:Nat)(d:Def)(h:bp9 cfg ddb f=some d):bp9 cfg b7d f=some d:=by
 have n8:bp9 cfg ddb 20=none:=rfl;have n5:bp9 cfg ddb 30=none:=rfl;have e8:f≠20:=fun e=>by rw[e,n8]at h;cases h
 have e5:f≠30:=fun e=>by rw[e,n5]at h;cases h
 have:ccq b7d f=ccq ddb f:=by
  unfold b7d;simp only[ccq];rw[if_neg (fun e=>e8 e.symm),if_neg (fun e=>e5 e.symm)]
 unfold bp9 at h ⊢;rw[this];exact h
theorem lift{f:Nat}{args:LA}{S:LB}{r:AEnd×LB}(h:run f args S=some r):bpg f args S=some r:=cqp dp0 _ _ _ _ h
theorem c20(s:LU):bpg 20 [.str (bs s)] []=some (.ret (tokE s) none,[]):=by
 refine bqh (hh:=b4c) rfl ?_;simp only[b4c,bpc]
def bmb(l:LU):LA:=l.map fun b=>.int .u8 (b.toNat:Int)
def brg(l:LV):LA:=l.map fun s=>.str (bs s)
theorem cr3:∀l:LU,bsf (bmb l)=some l
 | []=>rfl
 | b::l=>by
  have h:=b.toNat_lt;have ih:=cr3 l;unfold bmb at ih ⊢;simp only[cr,bsf,ih];have h2:(b.toNat:Int)<256:=by omega
  have h3:(0:Int)≤(b.toNat:Int):=by omega
  simp[h2,h3]
end Go.Av
namespace Go.Av
open Go Go.Proofs Go.RowKit
theorem c84(c:UInt8)(S:LB):bpg 84 [.int .u8 (c.toNat:Int)] S=some (.ret (.bool (b31 c)) none,S):=by
 refine b9g rfl ?_;have h:=c.toNat_lt;unfold b31 c6f cc9;generalize c.toNat=n at *;by_cases h1:97≤n<;>by_cases h2:n≤122<;>by_cases h3:48≤n<;>by_cases h4:n≤57<;>by_cases h5:n=95<;>first | (exfalso;omega;done) |
  (have h1':(97≤(n:Int))↔(97≤n):=by omega
   have h2':((n:Int)≤122)↔(n≤122):=by omega
   have h3':(48≤(n:Int))↔(48≤n):=by omega
   have h4':((n:Int)≤57)↔(n≤57):=by omega
   have h5':((n:Int)=95)↔(n=95):=by omega
   simp[a84,h1',h2',h3',h4',h5',h1,h2,h3,h4,h5])
theorem c179(S:LB):bpg 179 [] S=some (.ret (.slice 1 (brg bdd)) (some 9),S):=by
 refine b9g rfl ?_;simp[a179];rfl
def stW(s:LU)(S:LB)(i:Nat):St:={σ:=[(0,.v (.str (bs s))),(3,.v (.slice 1 (brg bdd))),(4,.v (ii (i:Int)))],own:=[(3,9)],loc:=[],S:=S}
theorem c144(s:LU)(S:LB):bpg 144 [.str (bs s)] S=some (.ret (.bool (decide (s∈bdd))) none,S):=by
 refine b9g rfl ?_;have hlen:(brg bdd).length=bdd.length:=by simp[brg]
 have hwl:bdd.length≤1000:=by decide
 have h:=bzc (f:=xf bpg b60) bdd (fun w=>decide (w≠s)) (stW s S) (bad:=(.ret,{σ:=[(2,.v (.bool true))],own:=[],loc:=[],S:=S})) (good:=(.exit 0,{σ:=[],own:=[],loc:=[],S:=S})) (by simp) (by simp)
  (fun i w hx=>by
   have h1:=ilt hx;have hlt:=(cf.1 hx).1;have w1:=bp7 (n:=i) (by omega);have g:(brg bdd)[i]? = some (.str (bs w)):=by unfold brg;rw[d4,hx];rfl
   rw[xb];generalize hX:brg bdd=X at *;by_cases e:w=s
   ·subst e;simp[-getElem?_pos,rZa,b60,stW,h1,hlen,w1,g,hX]
   ·have e':¬ (bs w).toList=(bs s).toList:=by rw[zm,zm];exact e
    simp[-getElem?_pos,rZa,b60,stW,h1,hlen,w1,g,e,e',hX])
  (by
   rw[xb];simp[b60,stW,hlen])
 have q:=c179 S;have e0:(bdd.all fun w=>decide (w≠s))=!decide (s∈bdd):=by
  rw[rm];simp only[cq,decide_eq_true_eq,dr,decide_eq_false_iff_not];exact⟨fun h hm=>h s hm rfl,fun h w hw e=>h (e▸hw)⟩
 rw[e0]at h;simp only[stW,cx,dd]at h;generalize brg bdd=X at *;by_cases hm:s∈bdd
 ·simp only[hm,decide_true,Bool.not_true,ck,if_false]at h ⊢;simp[a144,q,h]
 ·simp only[hm,decide_false,Bool.not_false,if_true]at h ⊢;simp[a144,q,h]
def stF(s:LU)(S:LB)(i:Nat):St:={σ:=[(0,.v (.str (bs s))),(3,.v (ii (i:Int)))],own:=[],loc:=[],S:=S}
theorem loop87(s:LU)(S:LB)(hs:s.length≤1000000) :
  zc (xf bpg b9x) (stF s S 0)=(if s.all b31 then some (.exit 0,{σ:=[],own:=[],loc:=[],S:=S}) else some (.ret,{σ:=[(2,.v (.bool false))],own:=[],loc:=[],S:=S})):=by
 have hsz:(bs s).size=s.length:=zj s;refine bzc (f:=xf bpg b9x) s b31 (stF s S) (bad:=(.ret,{σ:=[(2,.v (.bool false))],own:=[],loc:=[],S:=S})) (good:=(.exit 0,{σ:=[],own:=[],loc:=[],S:=S})) (by simp) (by simp)
  (fun i c hx=>by
   have h1:=ilt hx;have hlt:=(cf.1 hx).1;have w:=bp7 (n:=i) (by omega);have q:=c84 c S;have g:(bs s)[i]? = some c:=by rw[bc6];exact hx
   rw[xb];cases hb:b31 c
   ·rw[hb]at q;simp[-getElem?_pos,rZa,b9x,stF,hsz,g,h1,w,q]
   ·rw[hb]at q;simp[-getElem?_pos,rZa,b9x,stF,hsz,g,h1,w,q])
  (by
   rw[xb];simp[b9x,stF,hsz])
theorem c87(s:LU)(S:LB)(hs:s.length≤1000000):bpg 87 [.str (bs s)] S=some (.ret (.bool (bfg s)) none,S):=by
 refine b9g rfl ?_;have h:=loop87 s S hs;cases s with
 | nil=>
  have hz:(bs []).size=0:=zj [];simp[a87,hz,bfg]
 | cons c r=>
  have hc:=c.toNat_lt;have g0:(bs (c::r))[0]? = some c:=by rw[bc6];rfl
  unfold bfg c6f;simp only[stF,cx,dd]at h;have hz:(bs (c::r)).size=(c::r).length:=zj _;have l1:¬ ((c::r).length:Int)<1:=by simp only[cm];omega
  have l2:(c::r).length≠0:=by simp
  by_cases hl:(c::r).length≤20
  ·have hl':¬ (20:Int)<((c::r).length:Int):=by omega
   generalize (c::r).length=n at *;generalize (c::r).all b31=b at *;generalize bs (c::r)=B at *;by_cases h1:97≤c.toNat
   ·by_cases h2:c.toNat≤122
    ·have h1':¬ (c.toNat:Int)<97:=by omega
     have h2':¬ (122:Int)<(c.toNat:Int):=by omega
     cases b
     ·simp[-getElem?_pos,a87,hz,hl,hl',l1,l2,g0,h1,h2,h1',h2',h]
     ·simp[-getElem?_pos,a87,hz,hl,hl',l1,l2,g0,h1,h2,h1',h2',h]
    ·have h1':¬ (c.toNat:Int)<97:=by omega
     have h2':(122:Int)<(c.toNat:Int):=by omega
     simp[-getElem?_pos,a87,hz,hl,hl',l1,l2,g0,h1,h2,h1',h2']
   ·have h1':(c.toNat:Int)<97:=by omega
    simp[-getElem?_pos,a87,hz,hl,hl',l1,l2,g0,h1,h1']
  ·have hl':(20:Int)<((c::r).length:Int):=by omega
   generalize (c::r).length=n at *;generalize (c::r).all b31=b at *;generalize bs (c::r)=B at *;simp[a87,hz,hl,hl',l1,l2]
theorem c86(s:LU)(S:LB):bpg 86 [.str (bs s)] S=some (.ret (.bool (decide (s∈bdd))) none,S):=by
 refine b9g rfl ?_;have q:=c144 s S;simp[a86,q]
end Go.Av
