import Derived.Test.YtdcknoijcepibaaGreatDoorQ23
set_option linter.unusedSimpArgs false
set_option linter.unusedVariables false
set_option maxRecDepth 100000
set_option maxHeartbeats 16000000
namespace Go.Av
open Go Go.Proofs
variable{R:Rd}{n:Nat}
theorem FitD.deep0{n:Nat}{K M N:LT}{d:Int}(F:FitD n K M d)(h:N<:+M)(hd:¬ 24<d+1):FitD n K N (d+1):=
 ⟨⟨by have:=h.length_le;have:=F.fit.len;omega,F.fit.cap,F.fit.good.sfx h,by have:=F.fit.h0;omega,by omega⟩,h.trans F.sfx,F.len⟩
theorem cjk{K:LT}(hL:K.length≤9000){S:LB}{o:Option (LT)}(hS:bb4 K S o)(hs:∀M,o=some M→M<:+K):∃t S',rP 95 [] S (.str (bs t)) S'∧bfr K S' t (o.bind (bcc 2)):=by
 cases o with
 | none=>
  obtain⟨a,ha,rfl⟩:=hS;exact⟨[],_,bmd K a,a,ha,rfl⟩
 | some M=>
  obtain rfl:=hS;have q:=crj hL (hs M rfl);simp only[bb];cases e:bcc 2 M with
  | none=>rw[e]at q;exact⟨[],_,q,_,jb _ _,rfl⟩
  | some x=>rw[e]at q;exact⟨x.1,_,q,rfl,rfl⟩
theorem dc6{K:LT}(hL:K.length≤9000){S:LB}{o:Option (LT)}(hS:bb4 K S o)(hs:∀M,o=some M→M<:+K):∃b1 E b2 T t,rW 46 wb4 S b1 E∧(b1=false→E=S)∧rP 93 [ii 2] E (.bool b2) E∧((b1||b2)=true→rP 95 [] E (.str (bs t)) T)∧((b1||b2)=false→T=E∧t=[])∧bfr K T t (o.bind bf2):=by
 cases o with
 | none=>
  obtain⟨a,ha,rfl⟩:=hS;exact⟨false,_,false,_,[],bd2 K a _,fun _=>rfl,bjv K a 2,fun h=>(by cases h),fun _=>⟨rfl,rfl⟩,a,ha,rfl⟩
 | some M=>
  obtain rfl:=hS;have Y:=hs M rfl;have q:=bcq hL Y was (by simp);simp only[bb];unfold bf2;by_cases h:pk M=was
  ·rw[if_pos h];rw[xx h]at q;obtain⟨t,T,r1,r2⟩:=cjk hL (show bb4 K (RG K (M.drop 1)) (some _) from rfl) (fun N h=>by obtain rfl:=bf h;exact(xp M).trans Y);exact⟨true,_,_,T,t,q,fun h=>(by cases h),bzm hL ((xp M).trans Y) 2,fun _=>r1,fun h=>(by cases h),r2⟩
  ·rw[if_neg h];rw[xk h]at q;have k:=bzm hL Y 2;by_cases P:bbr 2 M=true
   ·rw[if_pos P];obtain⟨t,T,r1,r2⟩:=cjk hL (show bb4 K (RG K M) (some _) from rfl) (fun N h=>by obtain rfl:=bf h;exact Y);exact⟨false,_,_,T,t,q,fun _=>rfl,k,fun _=>r1,fun h=>(by rw[P]at h;cases h),r2⟩
   ·rw[if_neg P];exact⟨false,_,_,_,[],q,fun _=>rfl,k,fun h=>absurd h (by simpa using P),fun _=>⟨rfl,rfl⟩,rfl,rfl⟩
theorem dh4(R:Rd)(d:Int){L:LT}(hg:cbb L)(h:¬ pk L=bcx):bkc R d L=if(bbr 2 L&&(decide (pk (L.drop 1)=b65)&&decide (pk (L.drop 2)=bcx)))=true then(bcc 2 L).bind fun x=>some (.mk true x.1 [] [],L.drop 3)
  else(R.expr d L).bind fun e=>(bf2 e.2).bind fun a=>some (.mk false [] [e.1] a.1,a.2):=by
 unfold bkc;rw[if_neg h]
 match L,hg with
 | [],_=>simp[bbr]
 | [x],_=>simp[pk]
 | [x,y],_=>simp[pk]
 | x::y::z::r,hg=>
  have hz:TokOk z:=hg z (by simp);have e:pk (z::r)=bcx↔(z.t=bcx∧z.k=5):=by
   constructor
   ·intro q;have qt:=ck0 q (by simp);refine⟨qt,?_⟩;simp only[pk]at q;split at q
    ·rename_i hk;rcases hk with hk | hk
     ·have:=hz.word hk;rw[qt]at this;exact absurd this (by decide)
     ·exact hk
    ·cases q
   ·rintro⟨q1,q2⟩;simp only[pk];rw[if_pos (Or.inr q2)];exact q1
  simp only[jf,dj,bbr,bcc,bp,beq_iff_eq,decide_eq_true_eq,e];by_cases Z:x.k=2
  ·simp[Z]
  ·simp[Z]
theorem lf83{p:Prop}(h:p:=by simp[-getElem?_pos,rZa,-List.drop_one,-List.drop_drop,rZb,wn1,wn2,a242, *]):p:=h
theorem c8g(d:Int)(Q m:LB)(h0:rW 46 wb1 Q true m)(hk:∀e,xr 0 Q m e=some (e,m)):rP 242 [ii d] Q (It.mk true [] [] []).av m:=by
 refine xh rfl ?_;simp only[Nd.av,Qr.av,Bd.av,Bd.cells,It.av,Sr.av,xd,zb,bbg,zt,rZd,cg,AV.cells]at *;exact lf83
theorem item_t(d:Int)(Q O m:LB)(t:LU)(A:LA)(i:Nat)(h0:rW 46 wb1 Q false Q)(k:rP 93 [ii 2] Q (.bool true) Q)(c1:rP 97 [ii 1,.str wb7] Q (.bool true) Q)(c2:rP 97 [ii 2,.str wb1] Q (.bool true) Q)(hn:rP 95 [] Q (.str (bs t)) O)(hw:IntKind.i64.wrap ((i:Int)+2)=(i:Int)+2)(g:O[0]? = some {cells:=[.slice 3 A,ii (i:Int),.bool false]})(gs:O.set 0 {cells:=[.slice 3 A,ii ((i:Int)+2),.bool false]}=m)(hk:∀e,xr 0 Q m e=some (e,m)):rP 242 [ii d] Q (It.mk true t [] []).av m:=by
 refine xh rfl ?_;simp only[Nd.av,Qr.av,Bd.av,Bd.cells,It.av,Sr.av,xd,zb,bbg,zt,rZd,cg,AV.cells]at *;exact lf83
theorem item_e(d:Int)(Q O E m:LB)(v:Nd)(k2 c1 c2:Bool)(h0:rW 46 wb1 Q false Q)(k:rP 93 [ii 2] Q (.bool k2) Q)(q1:rP 97 [ii 1,.str wb7] Q (.bool c1) Q)(q2:rP 97 [ii 2,.str wb1] Q (.bool c2) Q)(hc:(k2&&(c1&&c2))=false)(h:rP 241 [ii d] Q v.av O)(b1 b2:Bool)(t:LU)(a1:rW 46 wb4 O b1 E)(a2:rP 93 [ii 2] E (.bool b2) E)(a3:(b1||b2)=true→rP 95 [] E (.str (bs t)) m)(a4:(b1||b2)=false→m=E∧t=[])(hk:∀e,xr 0 Q m e=some (e,m)):rP 242 [ii d] Q (It.mk false [] [v] t).av m:=by
 refine xh rfl ?_;obtain⟨opv,t_,n_,nov,d_,a_,u_⟩:=v;simp only[Nd.av,Qr.av,Bd.av,Bd.cells,It.av,Sr.av,xd,zb,bbg,zt,rZd,cg,AV.cells]at *;have hcs:k2=false∨(k2=true∧c1=false)∨(k2=true∧c1=true∧c2=false):=by revert hc;cases k2<;>cases c1<;>cases c2<;>simp
 rcases hcs with rfl | ⟨rfl,rfl⟩ | ⟨rfl,rfl,rfl⟩<;>cases b1<;>cases b2<;>simp only[jh,ph,px,jj,ck,mt,false_implies,true_implies,forall_const,mq]at a3 a4<;>(try (obtain⟨rfl,rfl⟩:=a4))<;>simp[-getElem?_pos,rZa,-List.drop_one,-List.drop_drop,rZb,wn1,wn2,a242,h0,k,q1,q2,h,a1,a2,a3,hk]
theorem d_item(U:PRD R n):RcD 242 It.av none (bkc R) n:=by
 intro K M d F;have Y:=F.sfx;have hl0:=F.len;have hle:=Y.length_le;by_cases w0:pk M=bcx
 ·have q:=bcq hl0 Y bcx (by simp);rw[xx w0]at q;unfold bkc;rw[if_pos w0];exact c8g d _ _ q (fun e=>bff K _ _ e)
 have n0:=bcq hl0 Y bcx (by simp);rw[xk w0]at n0;rw[dh4 R d F.fit.good w0];have k2:=bzm hl0 Y 2;have i1:=bqr 1 (by omega) hl0 Y b65 (by simp);have i2:=bqr 2 (by omega) hl0 Y bcx (by simp);by_cases hc:(bbr 2 M&&(decide (pk (M.drop 1)=b65)&&decide (pk (M.drop 2)=bcx)))=true
 ·rw[if_pos hc];simp only[bp]at hc;obtain⟨c0,c1,c2⟩:=hc;rw[c0]at k2;rw[c1]at i1;rw[c2]at i2;have hd3:3≤M.length:=by
   obtain⟨x,r,Z⟩:=bm7 (of_decide_eq_true c2) (by simp);have:=congrArg List.length Z;simp only[fb,cm]at this;omega
  have qn:=crj hl0 Y;cases e:bcc 2 M with
  | none=>
   exfalso;cases M with
   | nil=>simp[bbr]at c0
   | cons x r=>simp only[bbr,beq_iff_eq]at c0;simp[bcc,c0]at e
  | some x=>
   obtain⟨t,N⟩:=x;rw[e]at qn;have hN:N=M.drop 1:=by
    cases M with
    | nil=>simp[bcc]at e
    | cons x r=>
     simp only[bcc]at e;split at e
     ·simp only[bd,bq]at e;exact e.2.symm
     ·cases e
   subst hN;simp only[bb];have hl3:(M.drop 3).length=M.length - 3:=by simp
   have hl1:(M.drop 1).length=M.length - 1:=by simp
   refine item_t d _ (RG K (M.drop 1)) (RG K (M.drop 3)) t (K.map Tok.av) (K.length - (M.drop 1).length) n0 k2 i1 i2 qn ?_ rfl ?_ (fun e=>bff K _ _ e)
   ·have J:=wat (n:=K.length - (M.drop 1).length+2) (by omega)
    rwa [rq]at J
   ·show Rst K (K.length - (M.drop 1).length+2) false=Rst K (K.length - (M.drop 3).length) false;congr 1;omega
 ·rw[if_neg hc];obtain⟨v,O,J,X⟩:=bc4 U.expr zN bpd (show bb4 K (RG K M) (some M) from rfl) d (fun N h=>by obtain rfl:=bf h;exact F);simp only[bb]at X;obtain⟨b1,E,b2,T,t,a1,_,a2,a3,a4,e2⟩:=dc6 hl0 X.ends (fun N h=>by
   obtain⟨x,Z,rfl⟩:=bv.1 h;exact(U.sfx.expr _ _ _ (br _) _ Z).trans Y)
  refine b0h (item_e d _ O E T v _ _ _ n0 k2 i1 i2 (by simpa using hc) J b1 b2 t a1 a2 a3 a4 (fun e=>e2.leave e)) ?_;cases ge:R.expr d M with
  | none=>rw[ge]at e2;exact e2
  | some x=>
   rw[ge]at X e2;obtain⟨rfl,-⟩:=X;simp only[bc,bb]at e2 ⊢;exact e2.map (fun a=>It.mk false [] [x.1] a)
theorem dpx(d:Int)(Q O E T S4 S5 m:LB)(v:Qr)(b:Bool)(t:LU)(h0:rW 46 wb0 Q true O)(J:rP 212 [ii d] O (ii (d+1)) E)(P:rP 45 [ii (d+1)] E v.av T)(h3:rP 92 [.str wb2] T (.tuple []) S4)(h4:rW 46 wb4 S4 b S5)(h5:rP 95 [] S5 (.str (bs t)) m)(hk:∀e,xr 0 Q m e=some (e,m)):rP 258 [ii d] Q (Sr.mk 2 [] t [v] [] []).av m:=by
 refine xh rfl ?_;obtain⟨⟨c0v,c1v,c2v,i3v,i4v,i5v,i6v,i7v,i8v,i9v⟩,ksv,liv,ofv⟩:=v;simp only[Nd.av,Qr.av,Bd.av,Bd.cells,It.av,Sr.av,xd,zb,bbg,zt,rZd,cg,AV.cells]at *;simp[-getElem?_pos,rZa,-List.drop_one,-List.drop_drop,rZb,wn1,wn2,a258,h0,J,P,h3,h4,h5,hk]
theorem dpz(d:Int)(Q O E m:LB)(u:LU)(h0:rW 46 wb0 Q false Q)(J:rP 95 [] Q (.str (bs u)) O)(b1 b2:Bool)(t:LU)(a1:rW 46 wb4 O b1 E)(a2:rP 93 [ii 2] E (.bool b2) E)(a3:(b1||b2)=true→rP 95 [] E (.str (bs t)) m)(a4:(b1||b2)=false→m=E∧t=[])(hk:∀e,xr 0 Q m e=some (e,m)):rP 258 [ii d] Q (Sr.mk 1 u t [] [] []).av m:=by
 refine xh rfl ?_;simp only[Nd.av,Qr.av,Bd.av,Bd.cells,It.av,Sr.av,xd,zb,bbg,zt,rZd,cg,AV.cells]at *;cases b1<;>cases b2<;>simp only[jh,ph,px,jj,ck,mt,false_implies,true_implies,forall_const,mq]at a3 a4<;>(try (obtain⟨rfl,rfl⟩:=a4))<;>simp[-getElem?_pos,rZa,-List.drop_one,-List.drop_drop,rZb,wn1,wn2,a258,h0,J,a1,a2,a3,hk]
theorem bvz(U:PRD R n):RcD 258 Sr.av none (bc5 R) n:=by
 intro K M d F;have Y:=F.sfx;have hl0:=F.len;have q:=bcq hl0 Y bh6 (by simp);unfold bc5;by_cases w0:pk M=bh6
 ·rw[if_pos w0,bzk R.query d w0];rw[xx w0]at q;obtain⟨v,E,T,S4,p1,p2,p3,p4⟩:=cps U.sfx.query U.query zQ btj hl0 (show bb4 K (RG K (M.drop 1)) (some _) from rfl) d F.fit.h0 F.fit.d3 (fun N h=>by obtain rfl:=bf h;exact⟨(xp M).trans Y,fun hd=>F.deep0 (xp M) hd⟩);simp only[bb]at p4;have ts:∀x,bf6 R.query d (M.drop 1)=some x→x.2<:+K:=fun x Z=>by
   rw[← bzk R.query d w0]at Z;exact U.sfx.query.inPar d M K Y x Z
  obtain⟨b,S5,r1,r2,_⟩:=dt7 was (by simp) hl0 p4.ends (fun N h=>by
   obtain⟨x,Z,rfl⟩:=bv.1 h;exact ts x Z)
  obtain⟨t,m,r3,r4⟩:=cjk hl0 r2 (fun N h=>by
   simp only[Option.map_map,bv]at h;obtain⟨x,Z,rfl⟩:=h;exact(bb5 _ _).trans (ts x Z))
  refine b0h (dpx d _ _ E T S4 S5 m v b t q p1 p2 p3 r1 r3 (fun e=>r4.leave e)) ?_;cases ge:bf6 R.query d (M.drop 1) with
  | none=>rw[ge]at r4;exact r4
  | some x=>
   rw[ge]at p4 r4;obtain⟨rfl,-⟩:=p4;simp only[bc,bb]at r4 ⊢;exact r4.map (fun a=>Sr.mk 2 [] a [x.1] [] [])
 ·rw[if_neg w0];rw[xk w0]at q;obtain⟨u,O,J,X⟩:=cjk hl0 (show bb4 K (RG K M) (some M) from rfl) (fun N h=>by obtain rfl:=bf h;exact Y);simp only[bb]at X;obtain⟨b1,E,b2,T,t,a1,_,a2,a3,a4,e2⟩:=dc6 hl0 X.ends (fun N h=>by
   obtain⟨x,Z,rfl⟩:=bv.1 h;exact(cfd Z).trans Y)
  refine b0h (dpz d _ O E T u q J b1 b2 t a1 a2 a3 a4 (fun e=>e2.leave e)) ?_;cases ge:bcc 2 M with
  | none=>rw[ge]at e2;exact e2
  | some x=>
   rw[ge]at X e2;obtain⟨rfl,-⟩:=X;simp only[bc,bb]at e2 ⊢;exact e2.map (fun a=>Sr.mk 1 x.1 a [] [] [])
def sZr:Bx:={cells:=[ii 0,.str ⟨#[]⟩,.str ⟨#[]⟩,.slice 13 [],.slice 6 [],.slice 7 []],own:=[(3,45),(4,120),(5,118)]}
def sOw(b:Bool):List (Nat×Nat):=if b=true then [(3,45),(5,118)] else []
def bf4(d:Int)(s:Sr)(b:Bool)(S:LB):St:={σ:=[(0,.v (.ptr 0 0)),(1,.v (ii d)),(4,.l 4 0),(5,.l 5 0)],own:=[],loc:=[(4,sZr),(5,{cells:=s.av.cells,own:=sOw b})],S:=S}
def bhr(s:Sr)(S:LB):St:={σ:=[(4,.l 4 0)],own:=[],loc:=[(4,{cells:=s.av.cells})],S:=S}
def bhs(s:Sr)(b:Bool)(S:LB):St:={σ:=[(4,.l 4 0),(5,.l 5 0)],own:=[],loc:=[(4,sZr),(5,{cells:=s.av.cells,own:=sOw b})],S:=S}
theorem bfr.pair{α β:Type}{K:LT}{T S5:LB}{v:α}{w:β}{o1:Option (α×LT)}{f:LT→Option (LT)}{g:LT→Option (β×LT)}(J:bfr K T v o1)(P:bfr K S5 w (((o1.map Prod.snd).bind f).bind g)):bfr K S5 (v,w) (o1.bind fun x=>(f x.2).bind fun L=>(g L).bind fun y=>some ((x.1,y.1),y.2)):=by
 cases o1 with
 | none=>exact P
 | some x=>
  obtain⟨rfl,-⟩:=J;simp only[bc,bb]at P ⊢;cases e:f x.2 with
  | none=>rw[e]at P;exact P
  | some L=>
   rw[e]at P;simp only[bb]at P ⊢;cases e2:g L with
   | none=>rw[e2]at P;exact P
   | some y=>rw[e2]at P;obtain⟨rfl,rfl⟩:=P;exact⟨rfl,rfl⟩
theorem lf84{p:Prop}(h:p:=by (try simp only[Nd.av,Qr.av,Bd.av,Bd.cells,It.av,Sr.av,xd,zb,bbg,zt,rZd,cg,AV.cells]at *);simp[-getElem?_pos,rZa,-List.drop_one,-List.drop_drop,rZb,wn1,wn2,bds,bf4,bhr,bhs,sZr,sOw, *]):p:=h
theorem dp8(d:Int)(s:Sr)(b:Bool)(S:LB)(A:LA)(i:Nat)(g:S[0]? = some {cells:=[.slice 3 A,ii (i:Int),.bool false]})(h0:rW 46 cs5 S false S)(J:rW 46 c0d S false S)(P:rP 97 [ii 0,.str wb5] S (.bool false) S)(h3:rW 46 dc7 S false S)(h4:rW 46 ddv S false S)(h5:rW 46 dkm S false S):xf bbf bds (bf4 d s b S)=some (.ret,bhr s S):=by
 rw[xb];simp only[bf4,bhr,bhs,sZr];obtain⟨ops,nms,ass,qus,inss,ons⟩:=s;exact lf84
theorem c2s(d:Int)(s:Sr)(b:Bool)(S:LB)(A:LA)(i:Nat)(g:S[0]? = some {cells:=[.slice 3 A,ii (i:Int),.bool true]}):xf bbf bds (bf4 d s b S)=some (.exit 0,bhs s b S):=by
 rw[xb];simp only[bf4,bhr,bhs,sZr];obtain⟨ops,nms,ass,qus,inss,ons⟩:=s;exact lf84
theorem c2r(d:Int)(s:Sr)(b:Bool)(S O E T:LB)(v:Sr)(A:LA)(i:Nat)(g:S[0]? = some {cells:=[.slice 3 A,ii (i:Int),.bool false]})(h0:rW 46 cs5 S true O)(J:rP 92 [.str wb5] O (.tuple []) E)(P:rP 258 [ii d] E v.av T):xf bbf bds (bf4 d s b S)=some (.normal,bf4 d (Sr.mk 3 [] [] [] [s,v] []) true T):=by
 rw[xb];simp only[bf4,bhr,bhs,sZr];obtain⟨ops,nms,ass,qus,inss,ons⟩:=s;obtain⟨opv,nmv,asv,quv,insv,onv⟩:=v;try simp only[Nd.av,Qr.av,Bd.av,Bd.cells,It.av,Sr.av,xd,zb,bbg,zt,rZd,cg,AV.cells]at *
 cases b<;>simp[-getElem?_pos,rZa,-List.drop_one,-List.drop_drop,rZb,wn1,wn2,bds,bf4,bhr,bhs,sZr,sOw,g,h0,J,P]
theorem c2q(d:Int)(s:Sr)(b:Bool)(S O E T S4 S5:LB)(v:Sr)(w:Nd)(A:LA)(i:Nat)(g:S[0]? = some {cells:=[.slice 3 A,ii (i:Int),.bool false]})(h0:rW 46 cs5 S false S)(J:rW 46 c0d S true O)(h6:rP 92 [.str wb5] O (.tuple []) E)(h7:rP 258 [ii d] E v.av T)(h8:rP 92 [.str cz9] T (.tuple []) S4)(h9:rP 241 [ii d] S4 w.av S5):xf bbf bds (bf4 d s b S)=some (.normal,bf4 d (Sr.mk 4 [] [] [] [s,v] [w]) true S5):=by
 rw[xb];simp only[bf4,bhr,bhs,sZr];obtain⟨ops,nms,ass,qus,inss,ons⟩:=s;obtain⟨opv,nmv,asv,quv,insv,onv⟩:=v;obtain⟨opw,textw,numw,now,disw,argsw,queryw⟩:=w;try simp only[Nd.av,Qr.av,Bd.av,Bd.cells,It.av,Sr.av,xd,zb,bbg,zt,rZd,cg,AV.cells]at *
 cases b<;>simp[-getElem?_pos,rZa,-List.drop_one,-List.drop_drop,rZb,wn1,wn2,bds,bf4,bhr,bhs,sZr,sOw,g,h0,J,h6,h7,h8,h9]
theorem dfj(d:Int)(s:Sr)(b:Bool)(S E T S4 S5:LB)(v:Sr)(w:Nd)(A:LA)(i:Nat)(g:S[0]? = some {cells:=[.slice 3 A,ii (i:Int),.bool false]})(h0:rW 46 cs5 S false S)(J:rW 46 c0d S false S)(P:rP 97 [ii 0,.str wb5] S (.bool true) S)(h6:rP 92 [.str wb5] S (.tuple []) E)(h7:rP 258 [ii d] E v.av T)(h8:rP 92 [.str cz9] T (.tuple []) S4)(h9:rP 241 [ii d] S4 w.av S5):xf bbf bds (bf4 d s b S)=some (.normal,bf4 d (Sr.mk 4 [] [] [] [s,v] [w]) true S5):=by
 rw[xb];simp only[bf4,bhr,bhs,sZr];obtain⟨ops,nms,ass,qus,inss,ons⟩:=s;obtain⟨opv,nmv,asv,quv,insv,onv⟩:=v;obtain⟨opw,textw,numw,now,disw,argsw,queryw⟩:=w;try simp only[Nd.av,Qr.av,Bd.av,Bd.cells,It.av,Sr.av,xd,zb,bbg,zt,rZd,cg,AV.cells]at *
 cases b<;>simp[-getElem?_pos,rZa,-List.drop_one,-List.drop_drop,rZb,wn1,wn2,bds,bf4,bhr,bhs,sZr,sOw,g,h0,J,P,h6,h7,h8,h9]
theorem dfh(d:Int)(s:Sr)(b:Bool)(S O E T S4 S5 S6:LB)(v:Sr)(w:Nd)(A:LA)(i:Nat)(g:S[0]? = some {cells:=[.slice 3 A,ii (i:Int),.bool false]})(h0:rW 46 cs5 S false S)(J:rW 46 c0d S false S)(P:rP 97 [ii 0,.str wb5] S (.bool false) S)(h3:rW 46 dc7 S true S6)(c:Bool)(ho:rW 46 ddx S6 c O)(h6:rP 92 [.str wb5] O (.tuple []) E)(h7:rP 258 [ii d] E v.av T)(h8:rP 92 [.str cz9] T (.tuple []) S4)(h9:rP 241 [ii d] S4 w.av S5):xf bbf bds (bf4 d s b S)=some (.normal,bf4 d (Sr.mk 5 [] [] [] [s,v] [w]) true S5):=by
 rw[xb];simp only[bf4,bhr,bhs,sZr];obtain⟨ops,nms,ass,qus,inss,ons⟩:=s;obtain⟨opv,nmv,asv,quv,insv,onv⟩:=v;obtain⟨opw,textw,numw,now,disw,argsw,queryw⟩:=w;try simp only[Nd.av,Qr.av,Bd.av,Bd.cells,It.av,Sr.av,xd,zb,bbg,zt,rZd,cg,AV.cells]at *
 cases b<;>simp[-getElem?_pos,rZa,-List.drop_one,-List.drop_drop,rZb,wn1,wn2,bds,bf4,bhr,bhs,sZr,sOw,g,h0,J,P,h3,ho,h6,h7,h8,h9]
theorem c2p(d:Int)(s:Sr)(b:Bool)(S O E T S4 S5 S6:LB)(v:Sr)(w:Nd)(A:LA)(i:Nat)(g:S[0]? = some {cells:=[.slice 3 A,ii (i:Int),.bool false]})(h0:rW 46 cs5 S false S)(J:rW 46 c0d S false S)(P:rP 97 [ii 0,.str wb5] S (.bool false) S)(h3:rW 46 dc7 S false S)(h4:rW 46 ddv S true S6)(c:Bool)(ho:rW 46 ddx S6 c O)(h6:rP 92 [.str wb5] O (.tuple []) E)(h7:rP 258 [ii d] E v.av T)(h8:rP 92 [.str cz9] T (.tuple []) S4)(h9:rP 241 [ii d] S4 w.av S5):xf bbf bds (bf4 d s b S)=some (.normal,bf4 d (Sr.mk 6 [] [] [] [s,v] [w]) true S5):=by
 rw[xb];simp only[bf4,bhr,bhs,sZr];obtain⟨ops,nms,ass,qus,inss,ons⟩:=s;obtain⟨opv,nmv,asv,quv,insv,onv⟩:=v;obtain⟨opw,textw,numw,now,disw,argsw,queryw⟩:=w;try simp only[Nd.av,Qr.av,Bd.av,Bd.cells,It.av,Sr.av,xd,zb,bbg,zt,rZd,cg,AV.cells]at *
 cases b<;>simp[-getElem?_pos,rZa,-List.drop_one,-List.drop_drop,rZb,wn1,wn2,bds,bf4,bhr,bhs,sZr,sOw,g,h0,J,P,h3,h4,ho,h6,h7,h8,h9]
theorem dfk(d:Int)(s:Sr)(b:Bool)(S O E T S4 S5 S6:LB)(v:Sr)(w:Nd)(A:LA)(i:Nat)(g:S[0]? = some {cells:=[.slice 3 A,ii (i:Int),.bool false]})(h0:rW 46 cs5 S false S)(J:rW 46 c0d S false S)(P:rP 97 [ii 0,.str wb5] S (.bool false) S)(h3:rW 46 dc7 S false S)(h4:rW 46 ddv S false S)(h5:rW 46 dkm S true S6)(c:Bool)(ho:rW 46 ddx S6 c O)(h6:rP 92 [.str wb5] O (.tuple []) E)(h7:rP 258 [ii d] E v.av T)(h8:rP 92 [.str cz9] T (.tuple []) S4)(h9:rP 241 [ii d] S4 w.av S5):xf bbf bds (bf4 d s b S)=some (.normal,bf4 d (Sr.mk 7 [] [] [] [s,v] [w]) true S5):=by
 rw[xb];simp only[bf4,bhr,bhs,sZr];obtain⟨ops,nms,ass,qus,inss,ons⟩:=s;obtain⟨opv,nmv,asv,quv,insv,onv⟩:=v;obtain⟨opw,textw,numw,now,disw,argsw,queryw⟩:=w;try simp only[Nd.av,Qr.av,Bd.av,Bd.cells,It.av,Sr.av,xd,zb,bbg,zt,rZd,cg,AV.cells]at *
 cases b<;>simp[-getElem?_pos,rZa,-List.drop_one,-List.drop_drop,rZb,wn1,wn2,bds,bf4,bhr,bhs,sZr,sOw,g,h0,J,P,h3,h4,h5,ho,h6,h7,h8,h9]
theorem dfm(d:Int)(Q O m:LB)(v s:Sr)(h0:rP 258 [ii d] Q v.av O)(J:zc (xf bbf bds) (bf4 d v false O)=some (.ret,bhr s m))(hk:∀e,xr 0 Q m e=some (e,m)):rP 243 [ii d] Q s.av m:=by
 refine xh rfl ?_;obtain⟨opv,nmv,asv,quv,insv,onv⟩:=v;obtain⟨ops,nms,ass,qus,inss,ons⟩:=s;simp only[bf4,bhr,sZr,sOw,ck,if_false]at J;try simp only[Nd.av,Qr.av,Bd.av,Bd.cells,It.av,Sr.av,xd,zb,bbg,zt,rZd,cg,AV.cells]at *
 simp[-getElem?_pos,rZa,-List.drop_one,-List.drop_drop,rZb,wn1,wn2,a243,h0,J,hk]
theorem cp8(d:Int)(Q O m:LB)(v s:Sr)(b:Bool)(h0:rP 258 [ii d] Q v.av O)(J:zc (xf bbf bds) (bf4 d v false O)=some (.exit 0,bhs s b m))(hk:∀e,xr 0 Q m e=some (e,m)):rP 243 [ii d] Q s.av m:=by
 refine xh rfl ?_;obtain⟨opv,nmv,asv,quv,insv,onv⟩:=v;obtain⟨ops,nms,ass,qus,inss,ons⟩:=s;simp only[bf4,bhs,sZr,sOw,ck,if_false]at J;try simp only[Nd.av,Qr.av,Bd.av,Bd.cells,It.av,Sr.av,xd,zb,bbg,zt,rZd,cg,AV.cells]at *
 cases b<;>simp only[ck,if_false,if_true]at J<;>simp[-getElem?_pos,rZa,-List.drop_one,-List.drop_drop,rZb,wn1,wn2,a243,h0,J,hk]
def dt5(K:LT)(r:Option (AEx×St))(o:Option (Sr×LT)):Prop:=match o with
 | some x=>r=some (.ret,bhr x.1 (RG K x.2))
 | none=>∃s b a,a≤K.length∧r=some (.exit 0,bhs s b (Rst K a true))
def zS:Sr:=.mk 1 [] [] [] [] []
theorem bq0(K:LT)(a:Nat)(d:Int):rP 258 [ii d] (Rst K a true) zS.av (Rst K a true):=cm6 K a d
theorem bsz{α:Type}(K:LT)(d:Int)(f:Nat)(M:LT)(F:FitD n K M d)
  (ih:∀(s:Sr) (b:Bool) (N:LT),FitD n K N d→N.length<f→dt5 K (zc (xf bbf bds) (bf4 d s b (RG K N))) (bbq R d f s N))
  (h:α→Sr) {S:LB} {v:α} {G:Option (α×LT)} (hE:bfr K S v G) (hG:∀x,G=some x→x.2<:+M∧x.2.length<f) :
  dt5 K (zc (xf bbf bds) (bf4 d (h v) true S)) (G.bind fun x=>bbq R d f (h x.1) x.2):=by
 cases G with
 | none=>
  obtain⟨a,ha,rfl⟩:=hE;exact⟨h v,true,a,ha,xc (c2s d (h v) true _ _ a rfl) (by simp)⟩
 | some x=>
  obtain⟨rfl,rfl⟩:=hE;obtain⟨J,P⟩:=hG x rfl;exact ih (h x.1) true x.2 (F.sub J) P
theorem dfg(U:PRD R n)(K:LT)(d:Int):∀(f:Nat) (s:Sr) (b:Bool) (M:LT),FitD n K M d→M.length<f→dt5 K (zc (xf bbf bds) (bf4 d s b (RG K M))) (bbq R d f s M):=by
 intro f
 induction f with
 | zero=>intro s b M _ h;omega
 | succ f ih=>
  intro s b M F hf;have Y:=F.sfx;have hl0:=F.len;have g:=bhv K M;have no:∀w:LU,w≠[]→¬ pk M=w→rW 46 (bs w) (RG K M) false (RG K M):=fun w hw h=>by
   have q:=bcq hl0 Y w hw
   rwa [xk h]at q
  have yes:∀w:LU,w≠[]→pk M=w→rW 46 (bs w) (RG K M) true (RG K (M.drop 1)):=fun w hw h=>by
   have q:=bcq hl0 Y w hw
   rwa [xx h]at q
  have td:M.drop 1<:+M:=xp M;simp only[bbq];by_cases w0:pk M=bgs
  ·rw[if_pos w0,must2,show xm [bgs] M=some (M.drop 1) by simp only[xm];rw[if_pos w0],bb];obtain⟨E,r1,X⟩:=bd5 bcz (by simp) hl0 (show bb4 K (RG K (M.drop 1)) (some (M.drop 1)) from rfl) (fun N h=>by obtain rfl:=bf h;exact td.trans Y);simp only[bb]at X;obtain⟨v,T,r2,e2⟩:=bc4 (bvz U) zS bq0 X d (fun N h=>F.sub ((xj h).trans td));have hr:=c2r d s b _ _ E T v _ _ g (yes _ (by simp) w0) r1 r2;rw[xq hr];have q:=bsz K d f M F ih (fun y:Sr=>Sr.mk 3 [] [] [] [s,y] []) e2 (fun x h=>by
    obtain⟨N,J,P⟩:=bg.1 h;have t:=(bb9 U.sfx d N N (br _) x P).trans (xj J);have:=t.length_le;have:=bgh w0 (by simp);exact⟨t.trans td,by omega⟩)
   simp only[j2]at q ⊢;exact q
  rw[if_neg w0];have n0:=no _ (by simp) w0;have i0:=b5b K hl0 (K.length - M.length) (by omega) false bcz (by simp);rw[bhf Y]at i0;by_cases w1:pk M=bmr
  ·rw[if_neg (by rw[w1];decide),if_neg (by rw[w1];decide),if_pos w1];simp only[w1,show bdt bmr=4 by decide];have tX:M.drop 1<:+M:=td;obtain⟨E,r1,X⟩:=bd5 bcz (by simp) hl0 (show bb4 K (RG K (M.drop 1)) (some (M.drop 1)) from rfl) (fun N h=>by obtain rfl:=bf h;exact tX.trans Y);simp only[bb]at X;obtain⟨v,T,r2,e2⟩:=bc4 (bvz U) zS bq0 X d (fun N h=>F.sub ((xj h).trans tX));have sx:∀x,(xm [bcz] (M.drop 1)).bind (bc5 R d)=some x→x.2<:+M∧x.2.length<M.length:=fun x h=>by
    obtain⟨N,J,P⟩:=bg.1 h;have t:=bb9 U.sfx d N N (br _) x P;have:=t.length_le;have:=bf8 (by simp) J;have:=tX.length_le;exact⟨t.trans ((xj J).trans tX),by omega⟩
   obtain⟨S4,r3,e3⟩:=bd5 won (by simp) hl0 e2.ends (fun N h=>by
    obtain⟨x,Z,rfl⟩:=bv.1 h;exact(sx x Z).1.trans Y)
   obtain⟨w,S5,r4,e4⟩:=bc4 U.expr zN bpd e3 d (fun N h=>by
    obtain⟨A,J,P⟩:=bg.1 h;obtain⟨x,Z,h3⟩:=bv.1 J;subst h3;exact F.sub ((xj P).trans (sx x Z).1))
   have e5:=e2.pair e4;have hr:=c2q d s b _ _ E T S4 S5 v w _ _ g n0 (yes _ (by simp) w1) r1 r2 r3 r4;rw[xq hr];have q:=bsz K d f M F ih (fun y:Sr×Nd=>Sr.mk 4 [] [] [] [s,y.1] [y.2]) e5 (fun x h=>by
    obtain⟨y,J,P⟩:=bg.1 h;obtain⟨N,h3,h4⟩:=bg.1 P;obtain⟨z,h5,h6⟩:=bg.1 h4;obtain rfl:=bf h6;have t:=(U.sfx.expr d N N (br _) z h5).trans (xj h3);have:=t.length_le;have:=(sx y J).2;exact⟨t.trans (sx y J).1,by dsimp only;omega⟩)
   simp only[j2,bb]at q ⊢;exact q
  have n1:=no _ (by simp) w1;by_cases w2:pk M=bcz
  ·rw[if_neg (by rw[w2];decide),if_pos w2];simp only[w2,show bdt bcz=4 by decide];rw[w2,decide_eq_true rfl]at i0;have tX:M<:+M:=br _;obtain⟨E,r1,X⟩:=bd5 bcz (by simp) hl0 (show bb4 K (RG K (M)) (some (M)) from rfl) (fun N h=>by obtain rfl:=bf h;exact tX.trans Y);simp only[bb]at X;obtain⟨v,T,r2,e2⟩:=bc4 (bvz U) zS bq0 X d (fun N h=>F.sub ((xj h).trans tX));have sx:∀x,(xm [bcz] (M)).bind (bc5 R d)=some x→x.2<:+M∧x.2.length<M.length:=fun x h=>by
    obtain⟨N,J,P⟩:=bg.1 h;have t:=bb9 U.sfx d N N (br _) x P;have:=t.length_le;have:=bf8 (by simp) J;have:=tX.length_le;exact⟨t.trans ((xj J).trans tX),by omega⟩
   obtain⟨S4,r3,e3⟩:=bd5 won (by simp) hl0 e2.ends (fun N h=>by
    obtain⟨x,Z,rfl⟩:=bv.1 h;exact(sx x Z).1.trans Y)
   obtain⟨w,S5,r4,e4⟩:=bc4 U.expr zN bpd e3 d (fun N h=>by
    obtain⟨A,J,P⟩:=bg.1 h;obtain⟨x,Z,h3⟩:=bv.1 J;subst h3;exact F.sub ((xj P).trans (sx x Z).1))
   have e5:=e2.pair e4;have hr:=dfj d s b _ E T S4 S5 v w _ _ g n0 n1 i0 r1 r2 r3 r4;rw[xq hr];have q:=bsz K d f M F ih (fun y:Sr×Nd=>Sr.mk 4 [] [] [] [s,y.1] [y.2]) e5 (fun x h=>by
    obtain⟨y,J,P⟩:=bg.1 h;obtain⟨N,h3,h4⟩:=bg.1 P;obtain⟨z,h5,h6⟩:=bg.1 h4;obtain rfl:=bf h6;have t:=(U.sfx.expr d N N (br _) z h5).trans (xj h3);have:=t.length_le;have:=(sx y J).2;exact⟨t.trans (sx y J).1,by dsimp only;omega⟩)
   simp only[j2,bb]at q ⊢;exact q
  rw[decide_eq_false w2]at i0;by_cases w3:pk M=dds
  ·rw[if_neg (by rw[w3];decide),if_neg w2,if_neg w1];simp only[w3,show bdt dds=5 by decide];have ho:=bcq hl0 (td.trans Y) bc3 (by simp);have tu:=(bb5 bc3 (M.drop 1)).trans td;have tX:(isG bc3 (M.drop 1)).2<:+M:=tu;obtain⟨E,r1,X⟩:=bd5 bcz (by simp) hl0 (show bb4 K (RG K ((isG bc3 (M.drop 1)).2)) (some ((isG bc3 (M.drop 1)).2)) from rfl) (fun N h=>by obtain rfl:=bf h;exact tX.trans Y);simp only[bb]at X;obtain⟨v,T,r2,e2⟩:=bc4 (bvz U) zS bq0 X d (fun N h=>F.sub ((xj h).trans tX));have sx:∀x,(xm [bcz] ((isG bc3 (M.drop 1)).2)).bind (bc5 R d)=some x→x.2<:+M∧x.2.length<M.length:=fun x h=>by
    obtain⟨N,J,P⟩:=bg.1 h;have t:=bb9 U.sfx d N N (br _) x P;have:=t.length_le;have:=bf8 (by simp) J;have:=tX.length_le;exact⟨t.trans ((xj J).trans tX),by omega⟩
   obtain⟨S4,r3,e3⟩:=bd5 won (by simp) hl0 e2.ends (fun N h=>by
    obtain⟨x,Z,rfl⟩:=bv.1 h;exact(sx x Z).1.trans Y)
   obtain⟨w,S5,r4,e4⟩:=bc4 U.expr zN bpd e3 d (fun N h=>by
    obtain⟨A,J,P⟩:=bg.1 h;obtain⟨x,Z,h3⟩:=bv.1 J;subst h3;exact F.sub ((xj P).trans (sx x Z).1))
   have e5:=e2.pair e4;have hr:=dfh d s b _ _ E T S4 S5 _ v w _ _ g n0 n1 i0  (yes _ (by simp) w3) _ ho r1 r2 r3 r4;rw[xq hr];have q:=bsz K d f M F ih (fun y:Sr×Nd=>Sr.mk 5 [] [] [] [s,y.1] [y.2]) e5 (fun x h=>by
    obtain⟨y,J,P⟩:=bg.1 h;obtain⟨N,h3,h4⟩:=bg.1 P;obtain⟨z,h5,h6⟩:=bg.1 h4;obtain rfl:=bf h6;have t:=(U.sfx.expr d N N (br _) z h5).trans (xj h3);have:=t.length_le;have:=(sx y J).2;exact⟨t.trans (sx y J).1,by dsimp only;omega⟩)
   simp only[j2,bb]at q ⊢;exact q
  have n3:=no _ (by simp) w3;by_cases w4:pk M=cpx
  ·rw[if_neg (by rw[w4];decide),if_neg w2,if_neg w1];simp only[w4,show bdt cpx=6 by decide];have ho:=bcq hl0 (td.trans Y) bc3 (by simp);have tu:=(bb5 bc3 (M.drop 1)).trans td;have tX:(isG bc3 (M.drop 1)).2<:+M:=tu;obtain⟨E,r1,X⟩:=bd5 bcz (by simp) hl0 (show bb4 K (RG K ((isG bc3 (M.drop 1)).2)) (some ((isG bc3 (M.drop 1)).2)) from rfl) (fun N h=>by obtain rfl:=bf h;exact tX.trans Y);simp only[bb]at X;obtain⟨v,T,r2,e2⟩:=bc4 (bvz U) zS bq0 X d (fun N h=>F.sub ((xj h).trans tX));have sx:∀x,(xm [bcz] ((isG bc3 (M.drop 1)).2)).bind (bc5 R d)=some x→x.2<:+M∧x.2.length<M.length:=fun x h=>by
    obtain⟨N,J,P⟩:=bg.1 h;have t:=bb9 U.sfx d N N (br _) x P;have:=t.length_le;have:=bf8 (by simp) J;have:=tX.length_le;exact⟨t.trans ((xj J).trans tX),by omega⟩
   obtain⟨S4,r3,e3⟩:=bd5 won (by simp) hl0 e2.ends (fun N h=>by
    obtain⟨x,Z,rfl⟩:=bv.1 h;exact(sx x Z).1.trans Y)
   obtain⟨w,S5,r4,e4⟩:=bc4 U.expr zN bpd e3 d (fun N h=>by
    obtain⟨A,J,P⟩:=bg.1 h;obtain⟨x,Z,h3⟩:=bv.1 J;subst h3;exact F.sub ((xj P).trans (sx x Z).1))
   have e5:=e2.pair e4;have hr:=c2p d s b _ _ E T S4 S5 _ v w _ _ g n0 n1 i0 n3 (yes _ (by simp) w4) _ ho r1 r2 r3 r4;rw[xq hr];have q:=bsz K d f M F ih (fun y:Sr×Nd=>Sr.mk 6 [] [] [] [s,y.1] [y.2]) e5 (fun x h=>by
    obtain⟨y,J,P⟩:=bg.1 h;obtain⟨N,h3,h4⟩:=bg.1 P;obtain⟨z,h5,h6⟩:=bg.1 h4;obtain rfl:=bf h6;have t:=(U.sfx.expr d N N (br _) z h5).trans (xj h3);have:=t.length_le;have:=(sx y J).2;exact⟨t.trans (sx y J).1,by dsimp only;omega⟩)
   simp only[j2,bb]at q ⊢;exact q
  have n4:=no _ (by simp) w4;by_cases w5:pk M=ddt
  ·rw[if_neg (by rw[w5];decide),if_neg w2,if_neg w1];simp only[w5,show bdt ddt=7 by decide];have ho:=bcq hl0 (td.trans Y) bc3 (by simp);have tu:=(bb5 bc3 (M.drop 1)).trans td;have tX:(isG bc3 (M.drop 1)).2<:+M:=tu;obtain⟨E,r1,X⟩:=bd5 bcz (by simp) hl0 (show bb4 K (RG K ((isG bc3 (M.drop 1)).2)) (some ((isG bc3 (M.drop 1)).2)) from rfl) (fun N h=>by obtain rfl:=bf h;exact tX.trans Y);simp only[bb]at X;obtain⟨v,T,r2,e2⟩:=bc4 (bvz U) zS bq0 X d (fun N h=>F.sub ((xj h).trans tX));have sx:∀x,(xm [bcz] ((isG bc3 (M.drop 1)).2)).bind (bc5 R d)=some x→x.2<:+M∧x.2.length<M.length:=fun x h=>by
    obtain⟨N,J,P⟩:=bg.1 h;have t:=bb9 U.sfx d N N (br _) x P;have:=t.length_le;have:=bf8 (by simp) J;have:=tX.length_le;exact⟨t.trans ((xj J).trans tX),by omega⟩
   obtain⟨S4,r3,e3⟩:=bd5 won (by simp) hl0 e2.ends (fun N h=>by
    obtain⟨x,Z,rfl⟩:=bv.1 h;exact(sx x Z).1.trans Y)
   obtain⟨w,S5,r4,e4⟩:=bc4 U.expr zN bpd e3 d (fun N h=>by
    obtain⟨A,J,P⟩:=bg.1 h;obtain⟨x,Z,h3⟩:=bv.1 J;subst h3;exact F.sub ((xj P).trans (sx x Z).1))
   have e5:=e2.pair e4;have hr:=dfk d s b _ _ E T S4 S5 _ v w _ _ g n0 n1 i0 n3 n4 (yes _ (by simp) w5) _ ho r1 r2 r3 r4;rw[xq hr];have q:=bsz K d f M F ih (fun y:Sr×Nd=>Sr.mk 7 [] [] [] [s,y.1] [y.2]) e5 (fun x h=>by
    obtain⟨y,J,P⟩:=bg.1 h;obtain⟨N,h3,h4⟩:=bg.1 P;obtain⟨z,h5,h6⟩:=bg.1 h4;obtain rfl:=bf h6;have t:=(U.sfx.expr d N N (br _) z h5).trans (xj h3);have:=t.length_le;have:=(sx y J).2;exact⟨t.trans (sx y J).1,by dsimp only;omega⟩)
   simp only[j2,bb]at q ⊢;exact q
  have n5:=no _ (by simp) w5;rw[if_pos (by unfold bdt;rw[if_neg (by simp[w1,w2]),if_neg w3,if_neg w4,if_neg w5])];exact xc (dp8 d s b _ _ _ g n0 n1 i0 n3 n4 n5) (by simp)
theorem djs(U:PRD R n):RcD 243 Sr.av none (bgk R) n:=by
 intro K M d F;have Y:=F.sfx;obtain⟨v,O,h0,e0⟩:=bc4 (bvz U) zS bq0 (show bb4 K (RG K M) (some M) from rfl) d (fun N h=>by obtain rfl:=bf h;exact F);simp only[bb]at e0;unfold bgk;cases g:bc5 R d M with
 | none=>
  rw[g]at e0;obtain⟨a,ha,rfl⟩:=e0;exact⟨v,a,ha,cp8 d _ _ _ v v false h0 (xc (c2s d v false _ _ a rfl) (by simp)) (fun e=>bgp K _ _ true e)⟩
 | some x=>
  rw[g]at e0;obtain⟨rfl,rfl⟩:=e0;simp only[bb];have t:=bb9 U.sfx d M M (br _) x g;have q:=dfg U K d (x.2.length+1) x.1 false x.2 (F.sub t) (by omega);cases e:bbq R d (x.2.length+1) x.1 x.2 with
  | none=>
   rw[e]at q;obtain⟨s,b,a,ha,q⟩:=q;exact⟨s,a,ha,cp8 d _ _ _ x.1 s b h0 q (fun e=>bgp K _ _ true e)⟩
  | some y=>
   rw[e]at q;exact dfm d _ _ _ x.1 y.1 h0 q (fun e=>bff K _ _ e)
theorem ccr{α:Type}(p:Rdr α)(hp:Sfx p)(d:Int)(M:LT):bbc p d M=((p d M).bind fun x=>bbm p d (M.length+1) ([]++[x.1]) x.2).bind fun y=>if 16<y.1.length then none else some y:=by
 unfold bbc;cases e:p d M with
 | none=>rfl
 | some x=>
  have t:=hp d _ _ (br _) _ e;have:=t.length_le;simp only[bb,gj];rw[bqk hp d (x.2.length+1) (M.length+1) _ _ (by omega) (by omega)]
theorem c6p{α:Type}(body:St→Option (AEx×St))(stt stx:List α→LB→St)(ex:Nat)(p:Rdr α)(hp:Sfx p)(K:LT)(d:Int)(C:LT→α→LB→Prop)
  (hround:∀(acc:List α) (M:LT) (v:α) (S' E:LB) (b:Bool),acc.length≤9000→C M v S'→rW 46 wb3 S' b E→body (stt acc (RG K M))=if b=true then some (.normal,stt (acc++[v]) E) else some (.exit ex,stx (acc++[v]) E))
  (hcall:∀M,FitD n K M d→∃v S',C M v S'∧bfr K S' v (p d M)):∀(f:Nat) (acc:List α) (M:LT),FitD n K M d→M.length<f→acc.length+M.length≤K.length →
  ∃vs S,zc body (stt acc (RG K M))=some (.exit ex,stx vs S)∧vs.length≤9001∧bfr K S vs ((p d M).bind fun x=>bbm p d f (acc++[x.1]) x.2):=by
 intro f
 induction f with
 | zero=>intro acc M _ h;omega
 | succ f ih=>
  intro acc M F hf hacc;have hl0:=F.len;obtain⟨v,S',hc,he⟩:=hcall M F;have hlen:(acc++[v]).length≤9001:=by simp only[dh,cm,ct];omega
  cases X:p d M with
  | none=>
   rw[X]at he;obtain⟨a,ha,rfl⟩:=he;have hr:=hround acc M v _ _ false (by omega) hc (bd2 K a _);simp only[ck,if_false]at hr;exact⟨acc++[v],_,xc hr (by simp),hlen,a,ha,rfl⟩
  | some x=>
   rw[X]at he;obtain⟨rfl,rfl⟩:=he;have t:=hp d _ _ (br _) _ X;have hle:=t.length_le;simp only[bb,bbm];have qh:=bcq F.len (F.sub t).sfx bd7 (by simp);by_cases h:pk x.2=bd7
   ·rw[if_pos h];rw[xx h]at qh;have hl:=zk h (by simp);have hr:=hround acc M x.1 _ _ true (by omega) hc qh;simp only[if_true]at hr;rw[xq hr];exact ih (acc++[x.1]) (x.2.drop 1) (F.sub ((xp x.2).trans t)) (by omega) (by simp only[dh,cm,ct];omega)
   ·rw[if_neg h];rw[xk h]at qh;have hr:=hround acc M x.1 _ _ false (by omega) hc qh;simp only[ck,if_false]at hr;exact⟨acc++[x.1],_,xc hr (by simp),hlen,rfl,rfl⟩
theorem csr{α:Type}(body:St→Option (AEx×St))(stt stx:List α→LB→St)(ex:Nat)(p:Rdr α)(hp:Sfx p){K:LT}(d:Int)(C:LT→α→LB→Prop)
  (hround:∀(acc:List α) (M:LT) (v:α) (S' E:LB) (b:Bool),acc.length≤9000→C M v S'→rW 46 wb3 S' b E→body (stt acc (RG K M))=if b=true then some (.normal,stt (acc++[v]) E) else some (.exit ex,stx (acc++[v]) E))
  (hcall:∀M,FitD n K M d→∃v S',C M v S'∧bfr K S' v (p d M)) (hbad:∀a,body (stt [] (Rst K a true))=some (.exit ex,stx [] (Rst K a true)))
  {S:LB} {o:Option (LT)} (hS:bb4 K S o) (hF:∀M,o=some M→FitD n K M d) :
  ∃vs O E,zc body (stt [] S)=some (.exit ex,stx vs O)∧vs.length≤9001∧rP 96 [ii (vs.length:Int)] O (.tuple []) E∧bfr K E vs (o.bind (bbc p d)):=by
 cases o with
 | none=>
  obtain⟨a,ha,rfl⟩:=hS;have qm:=b8m K a true 0;exact⟨[],_,_,xc (hbad a) (by simp),by simp,qm,a,ha,by simp⟩
 | some M=>
  obtain rfl:=hS;have F:=hF M rfl;obtain⟨vs,S,J,P,h3⟩:=c6p body stt stx ex p hp K d C hround hcall (M.length+1) [] M F (by omega) (by have:=F.sfx.length_le;simpa using this);simp only[bb];rw[ccr p hp d M];generalize ((p d M).bind fun x=>bbm p d (M.length+1) ([]++[x.1]) x.2)=G at h3;cases G with
  | none=>
   obtain⟨a,ha,rfl⟩:=h3;have qm:=b8m K a true vs.length;simp only[jh]at qm;exact⟨vs,_,_,J,P,qm,a,ha,rfl⟩
  | some y=>
   obtain⟨rfl,rfl⟩:=h3;have qm:=b8m K (K.length - y.2.length) false y.1.length;simp only[jj]at qm;simp only[bb];by_cases h:16<y.1.length
   ·rw[if_pos h];rw[decide_eq_true h]at qm;exact⟨y.1,_,_,J,P,qm,_,jb _ _,rfl⟩
   ·rw[if_neg h];rw[decide_eq_false h]at qm;exact⟨y.1,_,_,J,P,qm,rfl,rfl⟩
theorem bfr.chain{α β:Type}{K:LT}{S S':LB}{v:α}{w:β}{o:Option (α×LT)}{g:LT→Option (β×LT)}(J:bfr K S v o)(P:bfr K S' w ((o.map Prod.snd).bind g)):bfr K S' (v,w) (o.bind fun x=>(g x.2).bind fun y=>some ((x.1,y.1),y.2)):=by
 cases o with
 | none=>exact P
 | some x=>
  obtain⟨rfl,-⟩:=J;simp only[bc,bb]at P ⊢;cases e:g x.2 with
  | none=>rw[e]at P;exact P
  | some y=>rw[e]at P;obtain⟨rfl,rfl⟩:=P;exact⟨rfl,rfl⟩
theorem b6c{α β:Type}{o:Option (α×LT)}{g:LT→Option (β×LT)}:(o.bind fun x=>(g x.2).bind fun y=>some ((x.1,y.1),y.2)).map Prod.snd=((o.map Prod.snd).bind g).map Prod.snd:=by
 cases o with
 | none=>rfl
 | some x=>
  simp only[bc,bb];cases g x.2 with
  | none=>rfl
  | some y=>rfl
theorem D_one(U:PRD R n)(w:LU)(hw:w≠[]){K:LT}(hL:K.length≤9000)(d:Int){S:LB}{o:Option (LT)}(hS:bb4 K S o)(hF:∀M,o=some M→FitD n K M d) :
  ∃b O l E,rW 46 (bs w) S b O∧(b=true→∃v:Nd,rP 241 [ii d] O v.av E∧l=[v])∧(b=false→E=O∧l=[])∧bfr K E l (o.bind (bj0 w (one R.expr) [] d)):=by
 cases o with
 | none=>
  obtain⟨a,ha,rfl⟩:=hS;exact⟨false,_,[],_,bd2 K a _,fun h=>(by cases h),fun _=>⟨rfl,rfl⟩,a,ha,rfl⟩
 | some M=>
  obtain rfl:=hS;have F:=hF M rfl;have q:=bcq hL F.sfx w hw;simp only[bb,bj0];by_cases h:pk M=w
  ·rw[if_pos h];rw[xx h]at q;obtain⟨v,E,J,P⟩:=bc4 U.expr zN bpd (show bb4 K (RG K (M.drop 1)) (some (M.drop 1)) from rfl) d (fun N h=>by obtain rfl:=bf h;exact F.sub (xp M));exact⟨true,_,[v],E,q,fun _=>⟨v,J,rfl⟩,fun h=>(by cases h),P.map (fun x=>[x])⟩
  ·rw[if_neg h];rw[xk h]at q;exact⟨false,_,[],_,q,fun h=>(by cases h),fun _=>⟨rfl,rfl⟩,rfl,rfl⟩
theorem dt8(U:PRD R n){K:LT}(hL:K.length≤9000)(d:Int){S:LB}{o:Option (LT)}(hS:bb4 K S o)(hF:∀M,o=some M→FitD n K M d) :
  ∃b O E l T,rW 46 cpz S b O∧(b=true→rP 92 [.str b4j] O (.tuple []) E∧bbf 213 [.ptr 0 0,ii d] E=some (.ret (.slice 7 (xd l)) (some 118),T))∧(b=false→T=O∧l=[])∧bfr K T l (o.bind (bj0 bg6 (byG (bbc R.expr)) [] d)):=by
 cases o with
 | none=>
  obtain⟨a,ha,rfl⟩:=hS;exact⟨false,_,[],[],_,bd2 K a _,fun h=>(by cases h),fun _=>⟨rfl,rfl⟩,a,ha,rfl⟩
 | some M=>
  obtain rfl:=hS;have F:=hF M rfl;have q:=bcq hL F.sfx bg6 (by simp);simp only[bb,bj0];by_cases h:pk M=bg6
  ·rw[if_pos h];rw[xx h]at q;obtain⟨E,J,P⟩:=bd5 wby (by simp) hL (show bb4 K (RG K (M.drop 1)) (some (M.drop 1)) from rfl) (fun N h=>by obtain rfl:=bf h;exact(xp M).trans F.sfx);obtain⟨v,T,h3,h4⟩:=bc4 (dg1 U) [] bz1 P d (fun N h=>F.sub ((xj h).trans (xp M)));exact⟨true,_,E,v,T,q,fun _=>⟨J,h3⟩,fun h=>(by cases h),h4⟩
  ·rw[if_neg h];rw[xk h]at q;exact⟨false,_,[],[],_,q,fun h=>(by cases h),fun _=>⟨rfl,rfl⟩,rfl,rfl⟩
def bZr:Bx:={cells:=[ii 0,.bool false,.bool false,.slice 4 [],.slice 6 [],.slice 7 [],.slice 7 [],.slice 7 [],.slice 1 [],.slice 13 []],own:=[(3,77),(4,120),(5,118),(6,118),(7,118),(8,38),(9,45)]}
def bjh(d:Int)(dis:Bool)(its:List It)(frs:List Sr)(S:LB):St:={σ:=[(0,.v (.ptr 0 0)),(1,.v (ii d)),(4,.l 4 0),(5,.l 5 0)],own:=[],loc:=[(4,bZr),(5,{cells:=[ii 1,.bool false,.bool dis,.slice 4 (bbg its),.slice 6 (zt frs),.slice 7 [],.slice 7 [],.slice 7 [],.slice 1 [],.slice 13 []],own:=[(3,77),(4,120),(5,118),(6,118),(7,118),(8,38),(9,45)]})],S:=S}
theorem czs(d:Int)(dis:Bool)(its:List It)(frs:List Sr)(S O E:LB)(b:Bool)(v:It)(hl:its.length≤9000)(A:LA)(i:Nat)(g:S[0]? = some {cells:=[.slice 3 A,ii (i:Int),.bool false]})(J:rP 242 [ii d] S v.av O)(P:rW 46 wb3 O b E):xf bbf bv6 (bjh d dis its frs S)=some (if b=true then .normal else .exit 0,(bjh d dis (its++[v]) frs E)):=by
 rw[xb];have hlA:=bg0 its;have b1:(its.length+1)*64≤140737488355328:=by omega
 have e:bbg (its++[v])=bbg its++[v.av]:=by simp only[bpz,gt,cr,cg]
 unfold bjh;rw[e];obtain⟨stv,tbv,exv,asv⟩:=v;try simp only[Nd.av,Qr.av,Bd.av,Bd.cells,It.av,Sr.av,xd,zb,bbg,zt,zr,rZd,cg,AV.cells]at *
 generalize bbg its=I at *;cases b<;>simp[-getElem?_pos,rZa,-List.drop_one,-List.drop_drop,rZb,wn1,wn2,bv6,bZr,g,J,P,hlA,b1]
theorem czr(d:Int)(dis:Bool)(its:List It)(frs:List Sr)(S O E:LB)(b:Bool)(v:Sr)(hl:frs.length≤9000)(A:LA)(i:Nat)(g:S[0]? = some {cells:=[.slice 3 A,ii (i:Int),.bool false]})(J:rP 243 [ii d] S v.av O)(P:rW 46 wb3 O b E):xf bbf bh4 (bjh d dis its frs S)=some (if b=true then .normal else .exit 2,(bjh d dis its (frs++[v]) E)):=by
 rw[xb];have hlA:=bjj frs;have b1:(frs.length+1)*112≤140737488355328:=by omega
 have e:zt (frs++[v])=zt frs++[v.av]:=by simp only[bpp,gt,cr,cg]
 unfold bjh;rw[e];obtain⟨opv,nmv,asv,quv,insv,onv⟩:=v;try simp only[Nd.av,Qr.av,Bd.av,Bd.cells,It.av,Sr.av,xd,zb,bbg,zt,zr,rZd,cg,AV.cells]at *
 generalize zt frs=I at *;cases b<;>simp[-getElem?_pos,rZa,-List.drop_one,-List.drop_drop,rZb,wn1,wn2,bh4,bZr,g,J,P,hlA,b1]
theorem dj6(d:Int)(dis:Bool)(its:List It)(frs:List Sr)(S:LB)(A:LA)(i:Nat)(g:S[0]? = some {cells:=[.slice 3 A,ii (i:Int),.bool true]}):xf bbf bv6 (bjh d dis its frs S)=some (.exit 0,(bjh d dis its frs S)):=by
 rw[xb];unfold bjh;simp[-getElem?_pos,rZa,-List.drop_one,-List.drop_drop,rZb,wn1,wn2,bv6,bZr,g]
theorem dj5(d:Int)(dis:Bool)(its:List It)(frs:List Sr)(S:LB)(A:LA)(i:Nat)(g:S[0]? = some {cells:=[.slice 3 A,ii (i:Int),.bool true]}):xf bbf bh4 (bjh d dis its frs S)=some (.exit 2,(bjh d dis its frs S)):=by
 rw[xb];unfold bjh;simp[-getElem?_pos,rZa,-List.drop_one,-List.drop_drop,rZb,wn1,wn2,bh4,bZr,g]
def cp7(d:Int)(dis:Bool)(its:List It)(frs:List Sr)(S:LB):St:={σ:=[(0,.v (.ptr 0 0)),(1,.v (ii d)),(4,.l 4 0),(5,.l 5 0),(31,.v (.bool true))],own:=[],loc:=[(4,bZr),(5,{cells:=[ii 1,.bool false,.bool dis,.slice 4 (bbg its),.slice 6 (zt frs),.slice 7 [],.slice 7 [],.slice 7 [],.slice 1 [],.slice 13 []],own:=[(3,77),(4,120),(5,118),(6,118),(7,118),(8,38),(9,45)]})],S:=S}
theorem dbh(d:Int)(dis:Bool)(its:List It)(frs:List Sr)(S:LB)(A:LA)(i:Nat)(bad:Bool)(g:S[0]? = some {cells:=[.slice 3 A,ii (i:Int),.bool bad]}):zc (xf bbf bh4) (cp7 d dis its frs S)=zc (xf bbf bh4) (bjh d dis its frs S):=by
 have h:xf bbf bh4 (cp7 d dis its frs S)=xf bbf bh4 (bjh d dis its frs S):=by
  rw[xb,xb];simp only[cp7,bjh];generalize bbg its=I;generalize zt frs=F;cases bad<;>simp[-getElem?_pos,rZa,-List.drop_one,-List.drop_drop,rZb,wn1,wn2,bh4,bZr,g]
 rw[bmf,h,← bmf]
theorem dj4(d:Int)(Q O E T S4 S5 S6 S7 S8 S9 S10 S11 S12 m:LB)(dis b1 b2 b3 b4:Bool)(its:List It)(frs:List Sr)(w g h:List Nd)
  (h0:rW 46 cj0 Q dis O) (l0:zc (xf bbf bv6) (bjh d dis [] [] O)=some (.exit 0,bjh d dis its [] E)) (m0:rP 96 [ii (its.length:Int)] E (.tuple []) T)
  (A4:LA) (i4:Nat) (bad4:Bool) (g4:S4[0]? = some {cells:=[.slice 3 A4,ii (i4:Int),.bool bad4]}) (J:rW 46 c0f T b1 S4) (y1:b1=true→zc (xf bbf bh4) (bjh d dis its [] S4)=some (.exit 2,bjh d dis its frs S5)∧rP 96 [ii (frs.length:Int)] S5 (.tuple []) S6) (z1:b1=false→S6=S4∧frs=[])
  (P:rW 46 ddz S6 b2 S7) (y2:b2=true→∃v:Nd,rP 241 [ii d] S7 v.av S8∧w=[v]) (z2:b2=false→S8=S7∧w=[])
  (h3:rW 46 cpz S8 b3 S9) (y3:b3=true→rP 92 [.str b4j] S9 (.tuple []) S10∧bbf 213 [.ptr 0 0,ii d] S10=some (.ret (.slice 7 (xd g)) (some 118),S11)) (z3:b3=false→S11=S9∧g=[])
  (h4:rW 46 b68 S11 b4 S12) (y4:b4=true→∃v:Nd,rP 241 [ii d] S12 v.av m∧h=[v]) (z4:b4=false→m=S12∧h=[])
  (hk:∀e,xr 0 Q m e=some (e,m)):rP 214 [ii d] Q (Bd.mk 1 false dis its frs w g h [] []).av m:=by
 have hl0:=bg0 its;have hl1:=bjj frs;refine xh rfl ?_;have hw:(b2=true→∃v:AV,rP 241 [ii d] S7 v S8∧xd w=[v]∧∃cs,v=.agg cs∧cs.length=7):=fun hb=>by
  obtain⟨v,q1,rfl⟩:=y2 hb;obtain⟨op,t,nu,no,di,ar,qu⟩:=v;exact⟨_,q1,rfl,_,rfl,rfl⟩
 have hh:(b4=true→∃v:AV,rP 241 [ii d] S12 v m∧xd h=[v]∧∃cs,v=.agg cs∧cs.length=7):=fun hb=>by
  obtain⟨v,q1,rfl⟩:=y4 hb;obtain⟨op,t,nu,no,di,ar,qu⟩:=v;exact⟨_,q1,rfl,_,rfl,rfl⟩
 have zw:(b2=false→S8=S7∧xd w=[]):=fun hb=>by obtain⟨q1,rfl⟩:=z2 hb;exact⟨q1,rfl⟩
 have zh:(b4=false→m=S12∧xd h=[]):=fun hb=>by obtain⟨q1,rfl⟩:=z4 hb;exact⟨q1,rfl⟩
 have zg:(b3=false→S11=S9∧xd g=[]):=fun hb=>by obtain⟨q1,rfl⟩:=z3 hb;exact⟨q1,rfl⟩
 have zf:(b1=false→S6=S4∧zt frs=[]):=fun hb=>by obtain⟨q1,rfl⟩:=z1 hb;exact⟨q1,rfl⟩
 clear y2 y4 z2 z4 z3 z1;rw[← hl0]at m0;rw[← hl1,← dbh d dis its [] S4 A4 i4 bad4 g4]at y1;clear g4;clear hl0 hl1;simp only[Bd.av,Bd.cells,bjh,cp7,bZr,bbg,zt,zr,zb]at *;generalize xd w=W at *;generalize xd g=G at *;generalize xd h=H at *;generalize zt frs=F at *;generalize bbg its=I at *;cases b1<;>cases b2<;>cases b3<;>cases b4<;>simp only[mt,ck,false_implies,true_implies,forall_const]at y1 hw y3 hh zf zw zg zh<;>
  (try (obtain⟨y1a,y1b⟩:=y1))<;>(try (obtain⟨v2,q2,rfl,cs2,rfl,c2⟩:=hw))<;>(try (obtain⟨y3a,y3b⟩:=y3))<;>(try (obtain⟨v4,q4,rfl,cs4,rfl,c4⟩:=hh))<;>
  (try (obtain⟨rfl,rfl⟩:=zf))<;>(try (obtain⟨rfl,rfl⟩:=zw))<;>(try (obtain⟨rfl,rfl⟩:=zg))<;>(try (obtain⟨rfl,rfl⟩:=zh))<;>
  simp[-getElem?_pos,rZa,-List.drop_one,-List.drop_drop,rZb,wn1,wn2,a214,bZr, *]
def choG(R:Rd):Rdr Bd:=fun d K=>(bbc (bkc R) d (isG zx K).2).bind fun i=>(bj0 btm (bbc (bgk R)) [] d i.2).bind fun s=>(bj0 bq9 (one R.expr) [] d s.2).bind fun w=>(bj0 bg6 (byG (bbc R.expr)) [] d w.2).bind fun g=>(bj0 bb8 (one R.expr) [] d g.2).bind fun h=>
  some (.mk 1 false (isG zx K).1 i.1 s.1 w.1 g.1 h.1 [] [],h.2)
theorem RcD.ends{α:Type}{f:Nat}{av:α→AV}{own:Option Nat}{p:Rdr α}(hc:RcD f av own p n){K M:LT}{d:Int}(F:FitD n K M d):∃v S',bbf f [.ptr 0 0,ii d] (RG K M)=some (.ret (av v) own,S')∧bfr K S' v (p d M):=by
 have q:=hc K M d F;cases e:p d M with
 | none=>
  rw[e]at q;obtain⟨v,a,ha,q⟩:=q;exact⟨v,_,q,a,ha,rfl⟩
 | some x=>
  rw[e]at q;exact⟨x.1,_,q,rfl,rfl⟩
theorem D_from(U:PRD R n){K:LT}(hL:K.length≤9000)(d:Int)(dis:Bool)(its:List It){S:LB}{o:Option (LT)}(hS:bb4 K S o)(hF:∀M,o=some M→FitD n K M d) :
  ∃b O E vs T,rW 46 c0f S b O∧(∃(A:LA) (i:Nat) (bad:Bool),O[0]? = some {cells:=[.slice 3 A,ii (i:Int),.bool bad]})∧(b=true→zc (xf bbf bh4) (bjh d dis its [] O)=some (.exit 2,bjh d dis its vs E)∧rP 96 [ii (vs.length:Int)] E (.tuple []) T)∧(b=false→T=O∧vs=[])∧bfr K T vs (o.bind (bj0 btm (bbc (bgk R)) [] d)):=by
 cases o with
 | none=>
  obtain⟨a,ha,rfl⟩:=hS;exact⟨false,_,[],[],_,bd2 K a _,⟨_,a,true,rfl⟩,fun h=>(by cases h),fun _=>⟨rfl,rfl⟩,a,ha,rfl⟩
 | some M=>
  obtain rfl:=hS;have F:=hF M rfl;have q:=bcq hL F.sfx btm (by simp);simp only[bb,bj0];by_cases h:pk M=btm
  ·rw[if_pos h];rw[xx h]at q;obtain⟨vs,E,T,J,_,P,h3⟩:=csr (xf bbf bh4) (fun acc S=>bjh d dis its acc S) (fun acc S=>bjh d dis its acc S) 2 (bgk R) (bh0 U.sfx) (K:=K) d (fun M v S'=>rP 243 [ii d] (RG K M) v.av S')
    (fun acc M v S' E b ha hc hh=>czr d dis its acc _ S' E b v ha _ _ (bhv K M) hc hh |>.trans (by cases b<;>rfl)) (fun M F=>(djs U).ends F) (fun a=>dj5 d dis its [] _ _ a rfl) (show bb4 K (RG K (M.drop 1)) (some (M.drop 1)) from rfl) (fun N h=>by obtain rfl:=bf h;exact F.sub (xp M))
   exact⟨true,_,E,vs,T,q,⟨_,_,false,rfl⟩,fun _=>⟨J,P⟩,fun h=>(by cases h),h3⟩
  ·rw[if_neg h];rw[xk h]at q;exact⟨false,_,[],[],_,q,⟨_,_,false,rfl⟩,fun h=>(by cases h),fun _=>⟨rfl,rfl⟩,rfl,rfl⟩
theorem djx(U:PRD R n):RcD 214 Bd.av none (choG R) n:=by
 intro K M d F;have Y:=F.sfx;have hl0:=F.len;have h0:=bcq hl0 Y zx (by simp);have tD:=bb5 zx M;unfold choG;generalize isG zx M=D at *;obtain⟨dis,D⟩:=D;dsimp only at *;have FD:=F.sub tD;obtain⟨its,E,T,l0,_,m0,X⟩:=csr (xf bbf bv6) (fun acc S=>bjh d dis acc [] S) (fun acc S=>bjh d dis acc [] S) 0 (bkc R) (bk5 U.sfx) (K:=K) d (fun M v S'=>rP 242 [ii d] (RG K M) v.av S')
  (fun acc M v S' E b ha hc hh=>czs d dis acc [] _ S' E b v ha _ _ (bhv K M) hc hh |>.trans (by cases b<;>rfl)) (fun M F=>(d_item U).ends F) (fun a=>dj6 d dis [] [] _ _ a rfl) (show bb4 K (RG K D) (some D) from rfl) (fun N h=>by obtain rfl:=bf h;exact FD)
 simp only[bb]at X;have x1:Sx D (bbc (bkc R) d D):=(bk5 U.sfx).list d D D (br _);obtain⟨b1,S4,S5,frs,S6,r1,⟨A4,i4,bad4,g4⟩,y1,z1,e2⟩:=D_from U hl0 d dis its X.ends (fun N h=>by
  obtain⟨x,Z,rfl⟩:=bv.1 h;exact FD.sub (x1 x Z))
 generalize hG1:(Option.map Prod.snd (bbc (bkc R) d D)).bind (bj0 btm (bbc (bgk R)) [] d)=G1 at e2;have s1:∀x,G1=some x→x.2<:+D:=fun x Z=>by
  rw[← hG1]at Z;obtain⟨N,q1,q2⟩:=bg.1 Z;obtain⟨y,q3,q4⟩:=bv.1 q1;subst q4;have ty:=x1 y q3;unfold bj0 at q2;split at q2
  ·exact((bh0 U.sfx).list d _ _ (br _) x q2).trans ((xp _).trans ty)
  ·obtain rfl:=bf q2;exact ty
 obtain⟨b2,S7,w,S8,r2,y2,z2,e3⟩:=D_one U bq9 (by simp) hl0 d e2.ends (fun N h=>by
  obtain⟨x,Z,rfl⟩:=bv.1 h;exact FD.sub (s1 x Z))
 generalize hG2:(Option.map Prod.snd G1).bind (bj0 bq9 (one R.expr) [] d)=G2 at e3;have one_sfx:∀(wd:LU) (y:LT) (x:List Nd×LT),bj0 wd (one R.expr) [] d y=some x→x.2<:+y:=fun wd y x h=>by
  unfold bj0 one at h;split at h
  ·obtain⟨z,q1,q2⟩:=bg.1 h;obtain rfl:=bf q2;exact(U.sfx.expr d _ _ (br _) z q1).trans (xp _)
  ·obtain rfl:=bf h;exact br _
 have s2:∀x,G2=some x→x.2<:+D:=fun x Z=>by
  rw[← hG2]at Z;obtain⟨N,q1,q2⟩:=bg.1 Z;obtain⟨y,q3,q4⟩:=bv.1 q1;subst q4;exact(one_sfx _ _ _ q2).trans (s1 y q3)
 obtain⟨b3,S9,S10,g,S11,r3,y3,z3,e4⟩:=dt8 U hl0 d e3.ends (fun N h=>by
  obtain⟨x,Z,rfl⟩:=bv.1 h;exact FD.sub (s2 x Z))
 generalize hG3:(Option.map Prod.snd G2).bind (bj0 bg6 (byG (bbc R.expr)) [] d)=G3 at e4;have s3:∀x,G3=some x→x.2<:+D:=fun x Z=>by
  rw[← hG3]at Z;obtain⟨N,q1,q2⟩:=bg.1 Z;obtain⟨y,q3,q4⟩:=bv.1 q1;subst q4;have ty:=s2 y q3;unfold bj0 byG at q2;split at q2
  ·obtain⟨z,q5,q6⟩:=bg.1 q2;exact(U.sfx.expr.list d _ _ (br _) x q6).trans ((xj q5).trans ((xp _).trans ty))
  ·obtain rfl:=bf q2;exact ty
 obtain⟨b4,S12,h,m,r4,y4,z4,e5⟩:=D_one U bb8 (by simp) hl0 d e4.ends (fun N h=>by
  obtain⟨x,Z,rfl⟩:=bv.1 h;exact FD.sub (s3 x Z))
 refine b0h (dj4 d _ _ E T S4 S5 S6 S7 S8 S9 S10 S11 S12 m dis b1 b2 b3 b4 its frs w g h h0 l0 m0 A4 i4 bad4 g4 r1 y1 z1 r2 y2 z2 r3 y3 z3 r4 y4 z4 (fun e=>e5.leave e)) ?_;subst hG1 hG2 hG3;cases q1:bbc (bkc R) d D with
 | none=>rw[q1]at e5;exact e5
 | some x=>
  rw[q1]at X e2 e3 e4 e5;obtain⟨rfl,-⟩:=X;simp only[bc,bb]at e2 e3 e4 e5 ⊢;cases q2:bj0 btm (bbc (bgk R)) [] d x.2 with
  | none=>rw[q2]at e5;exact e5
  | some x2=>
   rw[q2]at e2 e3 e4 e5;obtain⟨rfl,-⟩:=e2;simp only[bc,bb]at e3 e4 e5 ⊢;cases q3:bj0 bq9 (one R.expr) [] d x2.2 with
   | none=>rw[q3]at e5;exact e5
   | some x3=>
    rw[q3]at e3 e4 e5;obtain⟨rfl,-⟩:=e3;simp only[bc,bb]at e4 e5 ⊢;cases q4:bj0 bg6 (byG (bbc R.expr)) [] d x3.2 with
    | none=>rw[q4]at e5;exact e5
    | some x4=>
     rw[q4]at e4 e5;obtain⟨rfl,-⟩:=e4;simp only[bc,bb]at e5 ⊢;cases q5:bj0 bb8 (one R.expr) [] d x4.2 with
     | none=>rw[q5]at e5;exact e5
     | some x5=>
      rw[q5]at e5;obtain⟨rfl,rfl⟩:=e5;exact⟨rfl,rfl⟩
def dvh(rows:List (List Nd)):Bx:={cells:=[ii 2,.bool false,.bool false,.slice 4 [],.slice 6 [],.slice 7 [],.slice 7 [],.slice 7 [],.slice 1 (zr rows),.slice 13 []],own:=[(3,77),(4,120),(5,118),(6,118),(7,118),(8,38),(9,45)]}
def ctp(d:Int)(rows:List (List Nd))(S:LB):St:={σ:=[(0,.v (.ptr 0 0)),(1,.v (ii d)),(4,.l 4 0),(6,.l 6 0)],own:=[],loc:=[(4,bZr),(6,dvh rows)],S:=S}
def b53(rows:List (List Nd))(S:LB):St:={σ:=[(0,.v (.ptr 0 0)),(4,.l 4 0),(6,.l 6 0)],own:=[],loc:=[(4,bZr),(6,dvh rows)],S:=S}
theorem b47(l:List (List Nd)):(zr l).length=l.length:=by rw[bh1,mc]
theorem c3f(d:Int)(rows:List (List Nd))(S O E T S4 S5:LB)(b:Bool)(v:List Nd)(hl:rows.length≤9000)(A:LA)(i:Nat)(g:S[0]? = some {cells:=[.slice 3 A,ii (i:Int),.bool false]})(h0:rP 92 [.str wb0] S (.tuple []) O)(J:rP 212 [ii d] O (ii (d+1)) E)(P:bbf 213 [.ptr 0 0,ii (d+1)] E=some (.ret (.slice 7 (xd v)) (some 118),T))(h3:rP 92 [.str wb2] T (.tuple []) S4)(h4:rW 46 wb3 S4 b S5) :
  xf bbf bsh (ctp d rows S)=if b=true then some (.normal,ctp d (rows++[v]) S5) else some (.exit 1,b53 (rows++[v]) S5):=by
 have hlA:=b47 rows;have b1:(rows.length+1)*24≤140737488355328:=by omega
 have e:zr (rows++[v])=zr rows++[.slice 7 (xd v)]:=by simp only[bh1,gt,cr,cg]
 rw[xb];unfold ctp b53 dvh;rw[e];generalize zr rows=I at *;generalize xd v=V at *;cases b<;>simp[-getElem?_pos,rZa,-List.drop_one,-List.drop_drop,rZb,wn1,wn2,bsh,bZr,g,h0,J,P,h3,h4,hlA,b1]
theorem dqb(d:Int)(rows:List (List Nd))(S:LB)(A:LA)(i:Nat)(g:S[0]? = some {cells:=[.slice 3 A,ii (i:Int),.bool true]}):xf bbf bsh (ctp d rows S)=some (.exit 1,b53 rows S):=by
 rw[xb];unfold ctp b53 dvh;generalize zr rows=I at *;simp[-getElem?_pos,rZa,-List.drop_one,-List.drop_drop,rZb,wn1,wn2,bsh,bZr,g]
def dk2(d:Int)(S:LB):St:={σ:=[(0,.v (.ptr 0 0)),(1,.v (ii d)),(4,.l 4 0),(6,.l 6 0)],own:=[],loc:=[(4,bZr),(6,dvh [])],S:=S}
theorem lf85{p:Prop}(h:p:=by (try simp only[Nd.av,Qr.av,Bd.av,Bd.cells,It.av,Sr.av,xd,zb,bbg,zt,zr,rZd,cg,AV.cells]at *);simp[-getElem?_pos,rZa,-List.drop_one,-List.drop_drop,rZb,wn1,wn2,a180, *]):p:=h
theorem ct0(d:Int)(Q O E T m:LB)(A:LA)(i:Nat)(g0:Q[0]? = some {cells:=[.slice 3 A,ii (i:Int),.bool false]})(v:Qr)(h0:rW 46 wb0 Q true O)(J:rP 212 [ii d] O (ii (d+1)) E)(P:rP 45 [ii (d+1)] E v.av T)(h3:rP 92 [.str wb2] T (.tuple []) m)(hk:∀e,xr 0 Q m e=some (e,m)):rP 180 [ii d] Q (Bd.mk 6 false false [] [] [] [] [] [] [v]).av m:=by
 refine xh rfl ?_;obtain⟨⟨c0v,c1v,c2v,i3v,i4v,i5v,i6v,i7v,i8v,i9v⟩,ksv,liv,ofv⟩:=v;exact lf85
theorem ct1(d:Int)(Q O m:LB)(A:LA)(i:Nat)(g0:Q[0]? = some {cells:=[.slice 3 A,ii (i:Int),.bool false]})(v:Bd)(h0:rW 46 wb0 Q false Q)(J:rW 46 cjp Q false Q)(P:rW 46 cp0 Q true O)(h3:rP 214 [ii d] O v.av m)(hk:∀e,xr 0 Q m e=some (e,m)):rP 180 [ii d] Q v.av m:=by
 refine xh rfl ?_;obtain⟨opv,alv,div,itv,frv,whv,grv,hav,rov,inv⟩:=v;exact lf85
theorem ckh(d:Int)(Q m:LB)(A:LA)(i:Nat)(g0:Q[0]? = some {cells:=[.slice 3 A,ii (i:Int),.bool false]})(gs:Q.set 0 {cells:=[.slice 3 A,ii (i:Int),.bool true]}=m)(h0:rW 46 wb0 Q false Q)(J:rW 46 cjp Q false Q)(P:rW 46 cp0 Q false Q)(hk:∀e,xr 0 Q m e=some (e,m)):rP 180 [ii d] Q (Bd.mk 0 false false [] [] [] [] [] [] []).av m:=by
 refine xh rfl ?_;exact lf85
theorem cbz(d:Int)(Q O E m:LB)(A:LA)(i:Nat)(g0:Q[0]? = some {cells:=[.slice 3 A,ii (i:Int),.bool false]})(rows:List (List Nd))(h0:rW 46 wb0 Q false Q)(J:rW 46 cjp Q true O)(l0:zc (xf bbf bsh) (dk2 d O)=some (.exit 1,b53 rows E))(m0:rP 96 [ii (rows.length:Int)] E (.tuple []) m)(hk:∀e,xr 0 Q m e=some (e,m)):rP 180 [ii d] Q (Bd.mk 2 false false [] [] [] [] [] rows []).av m:=by
 have hl:=b47 rows;refine xh rfl ?_;rw[← hl]at m0;clear hl;simp only[Bd.av,Bd.cells,dk2,b53,dvh,bZr,bbg,zt,zr,zb,xd]at *;generalize zr rows=I at *;simp[-getElem?_pos,rZa,-List.drop_one,-List.drop_drop,rZb,wn1,wn2,a180,g0,h0,J,l0,m0,hk]
theorem crx(U:PRD R n):RcD 180 Bd.av none (bjz R) (n+1):=by
 intro K M d F;have Y:=F.sfx;have hl0:=F.len;have g0:=bhv K M;have no:∀w:LU,w≠[]→¬ pk M=w→rW 46 (bs w) (RG K M) false (RG K M):=fun w hw h=>by
  have q:=bcq hl0 Y w hw
  rwa [xk h]at q
 have yes:∀w:LU,w≠[]→pk M=w→rW 46 (bs w) (RG K M) true (RG K (M.drop 1)):=fun w hw h=>by
  have q:=bcq hl0 Y w hw
  rwa [xx h]at q
 have td:M.drop 1<:+M:=xp M;unfold bjz;by_cases w0:pk M=bgj
 ·rw[if_pos w0];have lt:=bgh w0 (by simp);have n0:=no bh6 (by simp) (by rw[w0];simp);obtain⟨rows,E,m,l0,_,m0,X⟩:=csr (xf bbf bsh) (fun acc S=>ctp d acc S) (fun acc S=>b53 acc S) 1 (bbz (bbc R.expr)) (U.sfx.expr.list.inPar) (K:=K) (n:=n) d
   (fun M v S'=>∃O E T,rP 92 [.str wb0] (RG K M) (.tuple []) O∧rP 212 [ii d] O (ii (d+1)) E∧bbf 213 [.ptr 0 0,ii (d+1)] E=some (.ret (.slice 7 (xd v)) (some 118),T)∧rP 92 [.str wb2] T (.tuple []) S')
   (fun acc M v S' E b ha hc hh=>by
    obtain⟨Q1,Q2,Q3,c1,c2,c3,c4⟩:=hc;exact c3f d acc _ Q1 Q2 Q3 S' E b v ha _ _ (bhv K M) c1 c2 c3 c4 hh)
   (fun M F=>by
    obtain⟨Q1,c1,k1⟩:=bd5 bh6 (by simp) F.len (show bb4 K (RG K M) (some M) from rfl) (fun N h=>by obtain rfl:=bf h;exact F.sfx);simp only[bb]at k1;obtain⟨v,Q2,Q3,Q4,c2,c3,c4,k2⟩:=cps U.sfx.expr.list (dg1 U) [] bz1 F.len k1 d F.fit.h0 F.fit.d3 (fun N h=>⟨(xj h).trans F.sfx,fun hd=>F.deep0 (xj h) hd⟩);exact⟨v,Q4,⟨Q1,Q2,Q3,c1,c2,c3,c4⟩,k2⟩)
   (fun a=>dqb d [] _ _ a rfl) (show bb4 K (RG K (M.drop 1)) (some (M.drop 1)) from rfl) (fun N h=>by obtain rfl:=bf h;exact F.down td lt)
  simp only[bb]at X;refine b0h (cbz d _ _ E m _ _ g0 rows n0 (yes _ (by simp) w0) l0 m0 (fun e=>X.leave e)) ?_;exact X.map (fun r=>Bd.mk 2 false false [] [] [] [] [] r [])
 rw[if_neg w0];have n1:=no _ (by simp) w0;by_cases w1:pk M=bh6
 ·rw[if_pos w1,bzk R.query d w1];have lt:=bgh w1 (by simp);obtain⟨v,E,T,S4,p1,p2,p3,p4⟩:=cps U.sfx.query U.query zQ btj hl0 (show bb4 K (RG K (M.drop 1)) (some _) from rfl) d F.fit.h0 F.fit.d3 (fun N h=>by obtain rfl:=bf h;exact⟨td.trans Y,fun hd=>F.deep td lt hd⟩);simp only[bb]at p4;refine b0h (ct0 d _ _ E T S4 _ _ g0 v (yes _ (by simp) w1) p1 p2 p3 (fun e=>p4.leave e)) ?_;exact p4.map (fun q=>Bd.mk 6 false false [] [] [] [] [] [] [q])
 rw[if_neg w1];have n0:=no _ (by simp) w1;unfold bjk;by_cases w2:pk M=bft
 ·have lt:=bgh w2 (by simp);rw[show xm [bft] M=some (M.drop 1) by simp only[xm];rw[if_pos w2],bb];obtain⟨v,m,J,X⟩:=(djx U).ends (F.down td lt);exact b0h (ct1 d _ _ m _ _ g0 v n0 n1 (yes _ (by simp) w2) J (fun e=>X.leave e)) X
 ·rw[show xm [bft] M=none by simp only[xm];rw[if_neg w2],bh];exact⟨_,_,jb _ _,ckh d _ _ _ _ g0 rfl n0 n1 (no _ (by simp) w2) (fun e=>bgp K M _ true e)⟩
def bOw(b:Bool):List (Nat×Nat):=if b=true then [(3,77),(4,120),(5,118),(6,118),(7,118),(8,38)] else []
def cfp(d:Int)(a:Bd)(b:Bool)(S:LB):St:={σ:=[(0,.v (.ptr 0 0)),(1,.v (ii d)),(4,.l 4 0),(5,.l 5 0)],own:=[],loc:=[(4,bZr),(5,{cells:=a.cells,own:=bOw b})],S:=S}
def b9d(a:Bd)(b:Bool)(S:LB):St:={σ:=[(4,.l 4 0),(5,.l 5 0)],own:=[],loc:=[(4,bZr),(5,{cells:=a.cells,own:=bOw b})],S:=S}
theorem ccf(d:Int)(a:Bd)(b:Bool)(S:LB)(h:rW 46 dpd S false S):xf bbf bsj (cfp d a b S)=some (.exit 0,b9d a b S):=by
 rw[xb];simp only[cfp,b9d,bZr];obtain⟨opa,ala,dia,ita,fra,wha,gra,haa,roa,ina⟩:=a;try simp only[Nd.av,Qr.av,Bd.av,Bd.cells,bj2,It.av,Sr.av,xd,zb,bbg,zt,zr,rZd,cg,AV.cells]at *
 simp[-getElem?_pos,rZa,-List.drop_one,-List.drop_drop,rZb,wn1,wn2,bsj,h]
theorem cvd(d:Int)(a:Bd)(b:Bool)(S O E T:LB)(c:Bool)(v:Bd)(h0:rW 46 dpd S true O)(J:rW 46 dd0 O c E)(P:rP 180 [ii d] E v.av T):xf bbf bsj (cfp d a b S)=some (.normal,cfp d (Bd.mk 5 c false [] [] [] [] [] [] [bj2 a,bj2 v]) true T):=by
 have na:=b8k a E;have nv:=b8k v T;rw[xb];simp only[cfp,b9d,bZr];obtain⟨opa,ala,dia,ita,fra,wha,gra,haa,roa,ina⟩:=a;obtain⟨opv,alv,div,itv,frv,whv,grv,hav,rov,inv⟩:=v;try simp only[Nd.av,Qr.av,Bd.av,Bd.cells,bj2,It.av,Sr.av,xd,zb,bbg,zt,zr,rZd,cg,AV.cells]at *
 cases b<;>simp[-getElem?_pos,rZa,-List.drop_one,-List.drop_drop,rZb,wn1,wn2,bOw,bsj,h0,J,P,na,nv]
theorem dmb(d:Int)(Q O m:LB)(v a:Bd)(b:Bool)(h0:rP 180 [ii d] Q v.av O)(J:zc (xf bbf bsj) (cfp d v false O)=some (.exit 0,b9d a b m))(hk:∀e,xr 0 Q m e=some (e,m)):rP 145 [ii d] Q a.av m:=by
 refine xh rfl ?_;simp only[cfp,b9d,bZr,bOw,ck,if_false]at J;obtain⟨opv,alv,div,itv,frv,whv,grv,hav,rov,inv⟩:=v;obtain⟨opa,ala,dia,ita,fra,wha,gra,haa,roa,ina⟩:=a;try simp only[Nd.av,Qr.av,Bd.av,Bd.cells,bj2,It.av,Sr.av,xd,zb,bbg,zt,zr,rZd,cg,AV.cells]at *
 cases b<;>simp only[ck,if_false,if_true]at J<;>simp[-getElem?_pos,rZa,-List.drop_one,-List.drop_drop,rZb,wn1,wn2,a145,h0,J,hk]
def ddc(d:Int)(a:Bd)(b:Bool)(S:LB):St:={σ:=[(0,.v (.ptr 0 0)),(1,.v (ii d)),(4,.l 4 0),(5,.l 5 0)],own:=[],loc:=[(4,bZr),(5,{cells:=a.cells,own:=bOw b})],S:=S}
def chc(a:Bd)(b:Bool)(S:LB):St:={σ:=[(4,.l 4 0),(5,.l 5 0)],own:=[],loc:=[(4,bZr),(5,{cells:=a.cells,own:=bOw b})],S:=S}
theorem lf86{p:Prop}(h:p:=by (try simp only[Nd.av,Qr.av,Bd.av,Bd.cells,bj2,It.av,Sr.av,xd,zb,bbg,zt,zr,rZd,cg,AV.cells]at *);simp[-getElem?_pos,rZa,-List.drop_one,-List.drop_drop,rZb,wn1,wn2,bz6, *]):p:=h
theorem cr4(d:Int)(a:Bd)(b:Bool)(S:LB)(A:LA)(i:Nat)(g:S[0]? = some {cells:=[.slice 3 A,ii (i:Int),.bool true]}):xf bbf bz6 (ddc d a b S)=some (.exit 0,chc a b S):=by
 rw[xb];simp only[ddc,chc,bZr];obtain⟨opa,ala,dia,ita,fra,wha,gra,haa,roa,ina⟩:=a;exact lf86
theorem dkb(d:Int)(a:Bd)(b:Bool)(S:LB)(A:LA)(i:Nat)(g:S[0]? = some {cells:=[.slice 3 A,ii (i:Int),.bool false]})(h0:rP 97 [ii 0,.str dpf] S (.bool false) S)(J:rP 97 [ii 0,.str dkp] S (.bool false) S):xf bbf bz6 (ddc d a b S)=some (.exit 0,chc a b S):=by
 rw[xb];simp only[ddc,chc,bZr];obtain⟨opa,ala,dia,ita,fra,wha,gra,haa,roa,ina⟩:=a;exact lf86
theorem cz3(d:Int)(a:Bd)(b:Bool)(S O E T:LB)(c c2:Bool)(v:Bd)(A:LA)(i:Nat)(g:S[0]? = some {cells:=[.slice 3 A,ii (i:Int),.bool false]})(gs:S.set 0 {cells:=[.slice 3 A,ii ((i:Int)+1),.bool false]}=O)(hw:IntKind.i64.wrap ((i:Int)+1)=(i:Int)+1)(h0:rP 97 [ii 0,.str dpf] S (.bool (!c2)) S)(J:rP 97 [ii 0,.str dkp] S (.bool c2) S)(P:rW 46 dd0 O c E)(h3:rP 145 [ii d] E v.av T):xf bbf bz6 (ddc d a b S)=some (.normal,ddc d (Bd.mk (if c2=true then 4 else 3) c false [] [] [] [] [] [] [bj2 a,bj2 v]) true T):=by
 have na:=b8k a E;have nv:=b8k v T;rw[xb];simp only[ddc,chc,bZr];obtain⟨opa,ala,dia,ita,fra,wha,gra,haa,roa,ina⟩:=a;obtain⟨opv,alv,div,itv,frv,whv,grv,hav,rov,inv⟩:=v;try simp only[Nd.av,Qr.av,Bd.av,Bd.cells,bj2,It.av,Sr.av,xd,zb,bbg,zt,zr,rZd,cg,AV.cells]at *
 cases b<;>cases c2<;>simp only[Bool.not_true,Bool.not_false]at h0<;>simp[-getElem?_pos,rZa,-List.drop_one,-List.drop_drop,rZb,wn1,wn2,bOw,bz6,g,gs,hw,h0,J,P,h3,na,nv]
theorem dmx(d:Int)(Q O m:LB)(v a:Bd)(b:Bool)(h0:rP 145 [ii d] Q v.av O)(J:zc (xf bbf bz6) (ddc d v false O)=some (.exit 0,chc a b m))(hk:∀e,xr 0 Q m e=some (e,m)):rP 91 [ii d] Q a.av m:=by
 refine xh rfl ?_;simp only[ddc,chc,bZr,bOw,ck,if_false]at J;obtain⟨opv,alv,div,itv,frv,whv,grv,hav,rov,inv⟩:=v;obtain⟨opa,ala,dia,ita,fra,wha,gra,haa,roa,ina⟩:=a;try simp only[Nd.av,Qr.av,Bd.av,Bd.cells,bj2,It.av,Sr.av,xd,zb,bbg,zt,zr,rZd,cg,AV.cells]at *
 cases b<;>simp only[ck,if_false,if_true]at J<;>simp[-getElem?_pos,rZa,-List.drop_one,-List.drop_drop,rZb,wn1,wn2,a91,h0,J,hk]
theorem c4q(U:PRD R n)(K:LT)(d:Int):∀(f:Nat) (a:Bd) (b:Bool) (M:LT),FitD (n+1) K M d→M.length<f →
  ∃a' b' S',zc (xf bbf bsj) (cfp d a b (RG K M))=some (.exit 0,b9d a' b' S')∧bfr K S' a' (bg1 (bjz R) [bg5] d f a M):=by
 intro f
 induction f with
 | zero=>intro a b M _ h;omega
 | succ f ih=>
  intro a b M F hf;have Y:=F.sfx;have hl0:=F.len;have hle:=Y.length_le;simp only[bg1];by_cases h:pk M∈[bg5]
  ·rw[if_pos h];have td:M.drop 1<:+M:=xp M;have ha:=bcq hl0 (td.trans Y) b0f (by simp);have ta:=(bb5 b0f (M.drop 1)).trans td;have hlt:(isG b0f (M.drop 1)).2.length<M.length:=by
    have J:=(bb5 b0f (M.drop 1)).length_le;have P:∃w,pk M=w∧w≠[]:=⟨pk M,rfl,by intro e;rw[e]at h;exact absurd h (by decide)⟩;obtain⟨w,P,h3⟩:=P;have:=bgh P h3;omega
   obtain⟨v,T,hv,he⟩:=(crx U).ends (F.sub ta);have hw:pk M=bg5:=by simpa using h
   have q:=bcq hl0 Y bg5 (by simp);rw[xx hw]at q;have hr:=cvd d a b _ _ _ T _ v q ha hv;rw[show b7k (pk M)=5 by rw[hw];decide];rw[xq hr];cases e:bjz R d (isG b0f (M.drop 1)).2 with
   | none=>
    rw[e]at he;obtain⟨a',ha',rfl⟩:=he;exact⟨_,_,_,xc (ccf d _ _ _ (bd2 K a' _)) (by simp),a',ha',rfl⟩
   | some x=>
    rw[e]at he;obtain⟨rfl,rfl⟩:=he;have t:=bqd U.sfx d _ _ (br _) x e;have:=t.length_le;simp only[bb];exact ih _ true x.2 (F.sub (t.trans ta)) (by omega)
  ·rw[if_neg h];have q:=bcq hl0 Y bg5 (by simp);rw[xk (by simpa using h)]at q;exact⟨a,b,_,xc (ccf d a b _ q) (by simp),rfl,rfl⟩
theorem dmr(U:PRD R n):RcD 145 Bd.av none (b3m R) (n+1):=by
 intro K M d F;obtain⟨v,O,h0,e0⟩:=(crx U).ends F;unfold b3m cb1;cases g:bjz R d M with
 | none=>
  rw[g]at e0;obtain⟨a',ha',rfl⟩:=e0;exact⟨v,a',ha',dmb d _ _ _ v v false h0 (xc (ccf d _ _ _ (bd2 K a' _)) (by simp)) (fun e=>bgp K _ _ true e)⟩
 | some x=>
  rw[g]at e0;obtain⟨rfl,rfl⟩:=e0;simp only[bb];have t:=bqd U.sfx d M M (br _) x g;obtain⟨a',b',S',J,P⟩:=c4q U K d (x.2.length+1) x.1 false x.2 (F.sub t) (by omega);exact b0h (dmb d _ _ S' x.1 a' b' h0 J (fun e=>P.leave e)) P
theorem db0(U:PRD R n)(K:LT)(d:Int):∀(f:Nat) (a:Bd) (b:Bool) (M:LT),FitD (n+1) K M d→M.length<f →
  ∃a' b' S',zc (xf bbf bz6) (ddc d a b (RG K M))=some (.exit 0,chc a' b' S')∧bfr K S' a' (bg1 (b3m R) [btt,bks] d f a M):=by
 intro f
 induction f with
 | zero=>intro a b M _ h;omega
 | succ f ih=>
  intro a b M F hf;have Y:=F.sfx;have hl0:=F.len;have hle:=Y.length_le;simp only[bg1];by_cases h:pk M∈[btt,bks]
  ·rw[if_pos h];have td:M.drop 1<:+M:=xp M;have ha:=bcq hl0 (td.trans Y) b0f (by simp);have ta:=(bb5 b0f (M.drop 1)).trans td;have hlt:(isG b0f (M.drop 1)).2.length<M.length:=by
    have J:=(bb5 b0f (M.drop 1)).length_le;have P:∃w,pk M=w∧w≠[]:=⟨pk M,rfl,by intro e;rw[e]at h;exact absurd h (by decide)⟩;obtain⟨w,P,h3⟩:=P;have:=bgh P h3;omega
   obtain⟨v,T,hv,he⟩:=(dmr U).ends (F.sub ta);have hw:pk M=btt∨pk M=bks:=by simpa using h
   have i0:=b5b K hl0 (K.length - M.length) (by omega) false btt (by simp);have i1:=b5b K hl0 (K.length - M.length) (by omega) false bks (by simp);rw[bhf Y]at i0 i1;have e0:decide (pk M=btt)=!decide (pk M=bks):=by rcases hw with hw | hw<;>rw[hw]<;>decide
   rw[e0]at i0;have hw1:IntKind.i64.wrap (((K.length - M.length:Nat):Int)+1)=((K.length - M.length:Nat):Int)+1:=by have:=bp7 (n:=K.length - M.length) (by omega);simpa using this
   have hs:(RG K M).set 0 {cells:=[.slice 3 (K.map Tok.av),ii (((K.length - M.length:Nat):Int)+1),.bool false]}=RG K (M.drop 1):=by
    obtain⟨x,r,rfl⟩:∃x r,M=x::r:=by rcases hw with hw | hw<;>exact bm7 hw (by simp)
    exact(bsr Y).symm
   have hr:=cz3 d a b _ _ _ T _ _ v _ _ (bhv K M) hs hw1 i0 i1 ha hv;rw[show b7k (pk M)=(if decide (pk M=bks)=true then 4 else 3) by rcases hw with hw | hw<;>rw[hw]<;>decide];rw[xq hr];cases e:b3m R d (isG b0f (M.drop 1)).2 with
   | none=>
    rw[e]at he;obtain⟨a',ha',rfl⟩:=he;exact⟨_,_,_,xc (cr4 d _ _ _ _ a' rfl) (by simp),a',ha',rfl⟩
   | some x=>
    rw[e]at he;obtain⟨rfl,rfl⟩:=he;have t:=bx1 U.sfx d _ _ (br _) x e;have:=t.length_le;simp only[bb];exact ih _ true x.2 (F.sub (t.trans ta)) (by omega)
  ·rw[if_neg h];have i0:=b5b K hl0 (K.length - M.length) (by omega) false btt (by simp);have i1:=b5b K hl0 (K.length - M.length) (by omega) false bks (by simp);rw[bhf Y]at i0 i1;simp only[dc,fp,or_false,not_or]at h;rw[decide_eq_false h.1]at i0;rw[decide_eq_false h.2]at i1;exact⟨a,b,_,xc (dkb d a b _ _ _ (bhv K M) i0 i1) (by simp),rfl,rfl⟩
theorem d_body(U:PRD R n):RcD 91 Bd.av none (b6f R) (n+1):=by
 intro K M d F;obtain⟨v,O,h0,e0⟩:=(dmr U).ends F;unfold b6f cb1;cases g:b3m R d M with
 | none=>
  rw[g]at e0;obtain⟨a',ha',rfl⟩:=e0;exact⟨v,a',ha',dmx d _ _ _ v v false h0 (xc (cr4 d _ _ _ _ a' rfl) (by simp)) (fun e=>bgp K _ _ true e)⟩
 | some x=>
  rw[g]at e0;obtain⟨rfl,rfl⟩:=e0;simp only[bb];have t:=bx1 U.sfx d M M (br _) x g;obtain⟨a',b',S',J,P⟩:=db0 U K d (x.2.length+1) x.1 false x.2 (F.sub t) (by omega);exact b0h (dmx d _ _ S' x.1 a' b' h0 J (fun e=>P.leave e)) P
theorem lf87{p:Prop}(h:p:=by simp[-getElem?_pos,rZa,-List.drop_one,-List.drop_drop,rZb,a94, *]):p:=h
theorem cgb(Q:LB)(A:LA)(i:Int)(b:Bool)(g:Q[0]? = some {cells:=[.slice 3 A,ii i,.bool b]})(h3:rP 93 [ii 3] Q (.bool false) Q)(hk:∀e,xr 0 Q (Q.set 0 {cells:=[.slice 3 A,ii i,.bool true]}) e=some (e,Q.set 0 {cells:=[.slice 3 A,ii i,.bool true]})) :
  rP 94 [] Q (ii 0) (Q.set 0 {cells:=[.slice 3 A,ii i,.bool true]}):=by
 refine xh rfl ?_;exact lf87
theorem cvp(Q:LB)(A:LA)(i:Nat)(k:Int)(t:LU)(p:Int)(ht:bj9 t=true)(hl:t.length≤5000)(hi:i<A.length)(hw:IntKind.i64.wrap ((i:Int)+1)=(i:Int)+1)(hm:IntKind.i64.wrap (b7p t)=b7p t)(g:Q[0]? = some {cells:=[.slice 3 A,ii (i:Int),.bool false]})(hlen:0<Q.length)(gA:A[i]? = some (.agg [ii k,.str (bs t),ii p]))(h3:rP 93 [ii 3] Q (.bool true) Q)(hk:∀c e,xr 0 Q (Q.set 0 c) e=some (e,Q.set 0 c)) :
  bbf 94 [.ptr 0 0] Q=if 20000<b7p t then some (.ret (ii 0) none,Q.set 0 {cells:=[.slice 3 A,ii ((i:Int)+1),.bool true]}) else some (.ret (ii (b7p t)) none,Q.set 0 {cells:=[.slice 3 A,ii ((i:Int)+1),.bool false]}):=by
 have hi':(i:Int)<(A.length:Int):=by omega
 have qn:=c288 ht hl Q;have hset:∀(c c':Bx),(Q.set 0 c).set 0 c'=Q.set 0 c':=fun c c'=>by simp
 generalize b7p t=v at *;by_cases hv:20000<v
 ·rw[if_pos hv];refine xh rfl ?_;exact lf87
 ·rw[if_neg hv];refine xh rfl ?_;exact lf87
theorem ddr{n:Int}(h0:0≤n)(J:n≤9223372036854775807):IntKind.i64.wrap n=n:=b72 (by omega) J
theorem dqz{t:LU}(h:bj9 t=true):0≤b7p t:=by
 have J:=ccj t;rw[h]at J;unfold dq0 at J;rw[c5g h]at J;simpa using J
theorem c5f{t:LU}(ht:bj9 t=true):IntKind.i64.wrap (b7p t)=b7p t:=ddr (dqz ht) (b5k (c5g ht))
theorem csq{K:LT}{n:Nat}{d:Int}{S:LB}{o:Option (LT)}(hS:bb4 K S o)(hF:∀M,o=some M→FitD n K M d):∃v S',rP 94 [] S (ii v) S'∧bfr K S' v (o.bind bs4):=by
 cases o with
 | none=>
  obtain⟨a,ha,rfl⟩:=hS;exact⟨0,_,bfj K a,a,ha,rfl⟩
 | some M=>
  obtain rfl:=hS;have F:=hF M rfl;have Y:=F.sfx;have hle:=Y.length_le;have q:=bzm F.len Y 3;simp only[bb,bs4];cases M with
  | nil=>
   exact⟨0,_,cgb _ _ _ _ (bhv K []) q (fun e=>bgp K [] (K.length - 0) true e),_,jb _ _,rfl⟩
  | cons x r=>
   by_cases h:x.k=3
   ·have ok:=F.fit.good x (.head _);have Z:K[K.length - (x::r).length]? = some x:=by
     have:=fd (xs:=K) (i:=K.length - (x::r).length) (j:=0);rw[bhf Y]at this;simpa using this.symm
    have hw1:IntKind.i64.wrap (((K.length - (x::r).length:Nat):Int)+1)=((K.length - (x::r).length:Nat):Int)+1:=by have:=bp7 (n:=K.length - (x::r).length) (by have:=F.len;omega);simpa using this
    have hn:bbr 3 (x::r)=true:=by simp[bbr,h]
    rw[hn]at q;have hr:=cvp (RG K (x::r)) (K.map Tok.av) (K.length - (x::r).length) x.k x.t (x.at':Int) (ok.num h) (by have:=ok.len;omega) (by simp at hle ⊢;omega) hw1 (c5f (ok.num h)) (bhv K _) (by simp[RG,Rst]) (b5s Z) q (fun c e=>by refine xg ?_ _;show 1≤1+0;decide);simp only[bcc,if_pos h,bb];by_cases hv:20000<b7p x.t
    ·rw[if_pos hv]at hr ⊢;exact⟨0,_,hr,K.length - (x::r).length+1,by simp at hle ⊢;omega,rfl⟩
    ·rw[if_neg hv]at hr ⊢;exact⟨_,_,hr,rfl,(bsr Y).symm⟩
   ·have hn:bbr 3 (x::r)=false:=by simp[bbr,h]
    rw[hn]at q;simp only[bcc,if_neg h,bh];exact⟨0,_,cgb _ _ _ _ (bhv K _) q (fun e=>bgp K _ (K.length - (x::r).length) true e),_,jb _ _,rfl⟩
theorem csp(w:LU)(hw:w≠[]){K:LT}{n:Nat}{d:Int}{S:LB}{o:Option (LT)}(hL:K.length≤9000)(hS:bb4 K S o)(hF:∀M,o=some M→FitD n K M d) :
  ∃b O v E,rW 46 (bs w) S b O∧(b=true→rP 94 [] O (ii v) E)∧(b=false→E=O∧v=-1)∧bfr K E v (o.bind (bj0 w (fun _=>bs4) (-1) d)):=by
 cases o with
 | none=>
  obtain⟨a,ha,rfl⟩:=hS;exact⟨false,_,-1,_,bd2 K a _,fun h=>(by cases h),fun _=>⟨rfl,rfl⟩,a,ha,rfl⟩
 | some M=>
  obtain rfl:=hS;have F:=hF M rfl;have q:=bcq hL F.sfx w hw;simp only[bb,bj0];by_cases h:pk M=w
  ·rw[if_pos h];rw[xx h]at q;obtain⟨v,E,J,P⟩:=csq (n:=n) (d:=d) (show bb4 K (RG K (M.drop 1)) (some (M.drop 1)) from rfl) (fun N h=>by obtain rfl:=bf h;exact F.sub (xp M));exact⟨true,_,v,E,q,fun _=>J,fun h=>(by cases h),P⟩
  ·rw[if_neg h];rw[xk h]at q;exact⟨false,_,-1,_,q,fun h=>(by cases h),fun _=>⟨rfl,rfl⟩,rfl,rfl⟩
def dc4(S:LB)(v:Ky)(S':LB):Prop:=
 ∃ (b1 b2:Bool) (E T:LB),rP 93 [ii 3] S (.bool b1) S
   ∧ (b1=true→∃(O:LB) (A:LA) (i:Int) (bad:Bool),rP 94 [] S (ii v.at') O∧O[0]? = some {cells:=[.slice 3 A,ii i,.bool bad]}∧0<O.length∧O.set 0 {cells:=[.slice 3 A,ii i,.bool (bad||v.at'==0)]}=E∧v.name=[])
   ∧ (b1=false→rP 95 [] S (.str (bs v.name)) E∧v.at'=0)
   ∧ rW 46 dkv E b2 T∧(b2=true→S'=T)∧(b2=false→∃b3,rW 46 dvb T b3 S')∧v.desc=b2
theorem dc3{K M:LT}{d:Int}(F:FitD n K M d):∃v S',dc4 (RG K M) v S'∧bfr K S' v (cdv d M):=by
 have hL:=F.len;have Y:=F.sfx;have q:=bzm hL Y 3;have J:∃(nm:LU) (at':Int) (E:LB) (o:Option ((LU×Int)×LT)),(if bbr 3 M=true then(bs4 M).bind fun x=>if x.1=0 then none else some ((([]:LU),x.1),x.2) else(bcc 2 M).bind fun x=>some ((x.1,0),x.2))=o∧bfr K E (nm,at') o∧(∀x,o=some x→x.2<:+K)
   ∧ (bbr 3 M=true→∃(O:LB) (A:LA) (i:Int) (bad:Bool),rP 94 [] (RG K M) (ii at') O∧O[0]? = some {cells:=[.slice 3 A,ii i,.bool bad]}∧0<O.length∧O.set 0 {cells:=[.slice 3 A,ii i,.bool (bad||at'==0)]}=E∧nm=[])
   ∧ (bbr 3 M=false→rP 95 [] (RG K M) (.str (bs nm)) E∧at'=0):=by
  by_cases h:bbr 3 M=true
  ·rw[if_pos h];obtain⟨v,O,r1,X⟩:=csq (n:=n) (d:=d) (show bb4 K (RG K M) (some M) from rfl) (fun N h=>by obtain rfl:=bf h;exact F);simp only[bb]at X;cases e:bs4 M with
   | none=>
    rw[e]at X;obtain⟨a,ha,rfl⟩:=X;exact⟨[],v,Rst K a true,none,rfl,⟨a,ha,rfl⟩,(fun x h=>by cases h),fun _=>⟨_,_,_,_,r1,rfl,by simp[Rst],by simp[Rst],rfl⟩,fun P=>absurd h (by rw[P];simp)⟩
   | some x=>
    rw[e]at X;obtain⟨rfl,rfl⟩:=X;have t:x.2<:+K:=bhm Y x e;simp only[bb];by_cases h0:x.1=0
    ·rw[if_pos h0];exact⟨[],x.1,Rst K (K.length - x.2.length) true,none,rfl,⟨_,jb _ _,rfl⟩,(fun x h=>by cases h),fun _=>⟨_,_,_,_,r1,rfl,by simp[RG,Rst],by rw[h0];simp[RG,Rst],rfl⟩,fun P=>absurd h (by rw[P];simp)⟩
    ·rw[if_neg h0];have h00:(x.1==0)=false:=by simpa using h0
     exact⟨[],x.1,RG K x.2,_,rfl,⟨rfl,rfl⟩,(fun y h=>by obtain rfl:=bf h;exact t),fun _=>⟨_,_,_,_,r1,rfl,by simp[RG,Rst],by simp[RG,Rst,h00],rfl⟩,fun P=>absurd h (by rw[P];simp)⟩
  ·rw[if_neg h];obtain⟨t,E,r1,X⟩:=cjk hL (show bb4 K (RG K M) (some M) from rfl) (fun N h=>by obtain rfl:=bf h;exact Y);simp only[bb]at X;cases e:bcc 2 M with
   | none=>
    rw[e]at X;exact⟨t,0,E,none,rfl,X,(fun x h=>by cases h),fun P=>absurd P h,fun _=>⟨r1,rfl⟩⟩
   | some x=>
    rw[e]at X;obtain⟨rfl,rfl⟩:=X;have tx:x.2<:+K:=Sx.take Y x e;exact⟨x.1,0,_,_,rfl,⟨rfl,rfl⟩,(fun y h=>by obtain rfl:=bf h;exact tx),fun P=>absurd P h,fun _=>⟨r1,rfl⟩⟩
 obtain⟨nm,at',E,o,ho,X,ts,y1,z1⟩:=J;unfold cdv;rw[ho];cases o with
 | none=>
  obtain⟨a,ha,rfl⟩:=X;exact⟨⟨nm,at',false⟩,Rst K a true,⟨_,false,_,Rst K a true,q,y1,z1,bd2 K a _,(fun h=>by cases h),fun _=>⟨_,bd2 K a _⟩,rfl⟩,a,ha,rfl⟩
 | some x=>
  obtain⟨X,rfl⟩:=X;have tx:=ts x rfl;have qd:=bcq hL tx cbg (by simp);simp only[bb];by_cases h:pk x.2=cbg
  ·rw[if_pos h];rw[xx h]at qd;exact⟨⟨nm,at',true⟩,_,⟨_,true,_,_,q,y1,z1,qd,fun _=>rfl,(fun h=>by cases h),rfl⟩,by rw[← X],rfl⟩
  ·rw[if_neg h];rw[xk h]at qd;have qa:=bcq hL tx c0x (by simp);exact⟨⟨nm,at',false⟩,_,⟨_,false,_,_,q,y1,z1,qd,(fun h=>by cases h),fun _=>⟨_,qa⟩,rfl⟩,by rw[← X],rfl⟩
def qZr:Bx:={cells:=[ii 0,.bool false,.bool false,.slice 4 [],.slice 6 [],.slice 7 [],.slice 7 [],.slice 7 [],.slice 1 [],.slice 13 [],.slice 3 [],ii 0,ii 0],own:=[(3,77),(4,120),(5,118),(6,118),(7,118),(8,38),(9,45),(10,75)]}
def ctj(c0:Int)(c1 c2:Bool)(I F W G H V N:LA)(ks:LA)(S:LB):St:={σ:=[(0,.v (.ptr 0 0)),(4,.l 4 0),(5,.l 5 0)],own:=[],loc:=[(4,qZr),(5,{cells:=[ii c0,.bool c1,.bool c2,.slice 4 I,.slice 6 F,.slice 7 W,.slice 7 G,.slice 7 H,.slice 1 V,.slice 13 N,.slice 3 ks,ii (-1),ii (-1)],own:=[(10,75)]})],S:=S}
theorem lf88{p:Prop}(h:p:=by simp[-getElem?_pos,rZa,-List.drop_one,-List.drop_drop,rZb,b3c,qZr, *]):p:=h
theorem df3(c0:Int)(c1 c2:Bool)(I F W G H V N:LA)(ks:List Ky)(hl:ks.length≤9000)(S O E:LB)(b:Bool)(v:Ky)(A:LA)(i:Nat)(g:S[0]? = some {cells:=[.slice 3 A,ii (i:Int),.bool false]})(J:dc4 S v O)(P:rW 46 wb3 O b E) :
  xf bbf b3c (ctj c0 c1 c2 I F W G H V N (ks.map Ky.av) S)=some (if b=true then .normal else .exit 0,ctj c0 c1 c2 I F W G H V N ((ks++[v]).map Ky.av) E):=by
 obtain⟨b1,b2,T,S4,k1,y1,z1,k2,y2,z2,k3⟩:=J;rw[xb];have hlA:(ks.map Ky.av).length=ks.length:=by simp
 have b1':(ks.length+1)*32≤140737488355328:=by omega
 have e:(ks++[v]).map Ky.av=ks.map Ky.av++[.agg [.str (bs v.name),ii v.at',.bool v.desc]]:=by simp[Ky.av]
 unfold ctj;rw[e,k3];generalize ks.map Ky.av=KS at *;obtain⟨nm,at',ds⟩:=v;dsimp only at *;cases b1<;>cases b2<;>simp only[mt,ck,false_implies,true_implies,forall_const]at y1 z1 y2 z2<;>
  (try (obtain⟨S5,A5,i5,bad5,n1,n2,n2',n3,rfl⟩:=y1))<;>(try (obtain⟨n4,rfl⟩:=z1))<;>(try (obtain⟨b3,n5⟩:=z2))<;>(try subst y2)<;>(try (cases bad5))<;>(try simp only[jj,jh]at n3)<;>cases b<;>
  exact lf88
theorem qu_bad(c0:Int)(c1 c2:Bool)(I F W G H V N:LA)(ks:LA)(S:LB)(A:LA)(i:Nat)(g:S[0]? = some {cells:=[.slice 3 A,ii (i:Int),.bool true]}):xf bbf b3c (ctj c0 c1 c2 I F W G H V N ks S)=some (.exit 0,ctj c0 c1 c2 I F W G H V N ks S):=by
 rw[xb];unfold ctj;exact lf88
theorem dqg(d:Int)(Q O E T S4 S5 S6 S7 S8 m:LB)(b1 b2 b3:Bool)(c0:Int)(c1 c2:Bool)(I:List It)(F:List Sr)(W G H:List Nd)(V:List (List Nd))(N:List Qr)(ks:List Ky)(li of:Int)
  (h0:rP 91 [ii d] Q (Bd.mk c0 c1 c2 I F W G H V N).av O)
  (J:rW 46 dkx O b1 E) (y1:b1=true→rP 92 [.str b4j] E (.tuple []) T∧zc (xf bbf b3c) (ctj c0 c1 c2 (bbg I) (zt F) (xd W) (xd G) (xd H) (zr V) (zb N) [] T)=some (.exit 0,ctj c0 c1 c2 (bbg I) (zt F) (xd W) (xd G) (xd H) (zr V) (zb N) (ks.map Ky.av) S4)∧rP 96 [ii (ks.length:Int)] S4 (.tuple []) S5) (z1:b1=false→S5=E∧ks=[])
  (P:rW 46 dd2 S5 b2 S6) (y2:b2=true→rP 94 [] S6 (ii li) S7) (z2:b2=false→S7=S6∧li=-1)
  (h3:rW 46 cs7 S7 b3 S8) (y3:b3=true→rP 94 [] S8 (ii of) m) (z3:b3=false→m=S8∧of=-1)
  (hk:∀e,xr 0 Q m e=some (e,m)):rP 45 [ii d] Q (Qr.mk (.mk c0 c1 c2 I F W G H V N) ks li of).av m:=by
 have hn:=b8k (.mk c0 c1 c2 I F W G H V N) O;refine xh rfl ?_;simp only[Bd.av,Bd.cells,Qr.av,bj2,rZd,cg,ctj,qZr]at *;generalize bbg I=I at *;generalize zt F=F at *;generalize xd W=W at *;generalize xd G=G at *;generalize xd H=H at *;generalize zr V=V at *;generalize zb N=N at *;cases b1<;>cases b2<;>cases b3<;>simp only[mt,ck,false_implies,true_implies,forall_const]at y1 y2 y3 z1 z2 z3<;>
  (try (obtain⟨y1a,y1b,y1c⟩:=y1))<;>(try (obtain⟨rfl,rfl⟩:=z1))<;>(try (obtain⟨rfl,rfl⟩:=z2))<;>(try (obtain⟨rfl,rfl⟩:=z3))<;>
  simp[-getElem?_pos,rZa,-List.drop_one,-List.drop_drop,rZb,a45, *]
theorem D_keys(c0:Int)(c1 c2:Bool)(I F W G H V N:LA){K:LT}(hL:K.length≤9000)(d:Int){S:LB}{o:Option (LT)}(hS:bb4 K S o)(hF:∀M,o=some M→FitD n K M d) :
  ∃b O E T ks S4,rW 46 dkx S b O∧(b=true→rP 92 [.str b4j] O (.tuple []) E∧zc (xf bbf b3c) (ctj c0 c1 c2 I F W G H V N [] E)=some (.exit 0,ctj c0 c1 c2 I F W G H V N (ks.map Ky.av) T)∧rP 96 [ii (ks.length:Int)] T (.tuple []) S4)∧(b=false→S4=O∧ks=[])∧bfr K S4 ks (o.bind (bj0 bmq (byG (bbc cdv)) [] d)):=by
 cases o with
 | none=>
  obtain⟨a,ha,rfl⟩:=hS;exact⟨false,_,[],[],[],_,bd2 K a _,fun h=>(by cases h),fun _=>⟨rfl,rfl⟩,a,ha,rfl⟩
 | some M=>
  obtain rfl:=hS;have F0:=hF M rfl;have q:=bcq hL F0.sfx bmq (by simp);simp only[bb,bj0];by_cases h:pk M=bmq
  ·rw[if_pos h];rw[xx h]at q;obtain⟨E,n1,X⟩:=bd5 wby (by simp) hL (show bb4 K (RG K (M.drop 1)) (some (M.drop 1)) from rfl) (fun N h=>by obtain rfl:=bf h;exact(xp M).trans F0.sfx);obtain⟨vs,T,S4,l1,_,m1,e2⟩:=csr (n:=n) (xf bbf b3c) (fun acc S=>ctj c0 c1 c2 I F W G H V N (acc.map Ky.av) S) (fun acc S=>ctj c0 c1 c2 I F W G H V N (acc.map Ky.av) S) 0 cdv bzg (K:=K) d (fun M v S'=>dc4 (RG K M) v S')
    (fun acc M v S' E b ha hc hh=>df3 c0 c1 c2 I F W G H V N acc ha _ S' E b v _ _ (bhv K M) hc hh |>.trans (by cases b<;>rfl)) (fun M F=>dc3 F) (fun a=>qu_bad c0 c1 c2 I F W G H V N [] _ _ a rfl) X (fun N h=>by
     simp only[bb]at h;exact F0.sub ((xj h).trans (xp M)))
   exact⟨true,_,E,T,vs,S4,q,fun _=>⟨n1,l1,m1⟩,fun h=>(by cases h),e2⟩
  ·rw[if_neg h];rw[xk h]at q;exact⟨false,_,[],[],[],_,q,fun h=>(by cases h),fun _=>⟨rfl,rfl⟩,rfl,rfl⟩
theorem cvk{w:LU}{d:Int}{y:LT}{x:Int×LT}(h:bj0 w (fun _=>bs4) (-1) d y=some x):x.2<:+y:=Sfx.opt (p:=fun _=>bs4) (fun _ _ _ h=>bhm h) w (-1) d y y (br _) x h
theorem dsv(U:PRD R n):RcD 45 Qr.av none (b2p R) (n+1):=by
 intro K M d F;have hl0:=F.len;obtain⟨b,O,r0,e0⟩:=(d_body U).ends F;have tb:∀x,b6f R d M=some x→x.2<:+M:=fun x h=>b6d U.sfx d M M (br _) x h
 unfold b2p;generalize b6f R d M=B at e0 tb;obtain⟨c0,c1,c2,I,FF,W,G,H,V,N⟩:=b;obtain⟨b1,E,T,S4,ks,S5,r1,y1,z1,X⟩:=D_keys c0 c1 c2 (bbg I) (zt FF) (xd W) (xd G) (xd H) (zr V) (zb N) hl0 d e0.ends (fun N h=>by
  obtain⟨x,Z,rfl⟩:=bv.1 h;exact F.sub (tb x Z))
 have C1:=e0.chain X;have s1:∀x,(B.map Prod.snd).bind (bj0 bmq (byG (bbc cdv)) [] d)=some x→x.2<:+M:=fun x Z=>by
  obtain⟨N,q1,q2⟩:=bg.1 Z;obtain⟨y,q3,rfl⟩:=bv.1 q1;exact(bzg.list.by'.opt bmq [] d y.2 y.2 (br _) x q2).trans (tb y q3)
 obtain⟨b2,S6,li,S7,r2,y2,z2,e2⟩:=csp (n:=n+1) (d:=d) bpm (by simp) hl0 X.ends (fun N h=>by
  obtain⟨x,Z,rfl⟩:=bv.1 h;exact F.sub (s1 x Z))
 have e2':=e2;rw[← b6c]at e2';have C2:=C1.chain e2';generalize hG1:(B.map Prod.snd).bind (bj0 bmq (byG (bbc cdv)) [] d)=G1 at X e2 s1;have s2:∀x,(G1.map Prod.snd).bind (bj0 bpm (fun _=>bs4) (-1) d)=some x→x.2<:+M:=fun x Z=>by
  obtain⟨N,q1,q2⟩:=bg.1 Z;obtain⟨y,q3,rfl⟩:=bv.1 q1;exact(cvk q2).trans (s1 y q3)
 obtain⟨b3,S8,of,m,r3,y3,z3,e3⟩:=csp (n:=n+1) (d:=d) bfc (by simp) hl0 e2.ends (fun N h=>by
  obtain⟨x,Z,rfl⟩:=bv.1 h;exact F.sub (s2 x Z))
 have C3:=C2.chain (g:=bj0 bfc (fun _=>bs4) (-1) d) (w:=of) (S':=m) (by rw[b6c,b6c,hG1];exact e3);refine b0h (dqg d _ O E T S4 S5 S6 S7 S8 m b1 b2 b3 c0 c1 c2 I FF W G H V N ks li of r0 r1 y1 z1 r2 y2 z2 r3 y3 z3 (fun e=>e3.leave e)) ?_;have C:=C3.map (fun x=>Qr.mk x.1.1.1 x.1.1.2 x.1.2 x.2);have e:∀o:Option (Bd×LT),(((o.bind fun x=>(bj0 bmq (byG (bbc cdv)) [] d x.2).bind fun y=>some ((x.1,y.1),y.2)).bind fun x=>(bj0 bpm (fun _=>bs4) (-1) d x.2).bind fun y=>some ((x.1,y.1),y.2)).bind fun x=>(bj0 bfc (fun _=>bs4) (-1) d x.2).bind fun y=>some ((x.1,y.1),y.2)).bind (fun x=>some (Qr.mk x.1.1.1.1 x.1.1.1.2 x.1.1.2 x.1.2,x.2))
   = o.bind fun b=>(bj0 bmq (byG (bbc cdv)) [] d b.2).bind fun k=>(bj0 bpm (fun _=>bs4) (-1) d k.2).bind fun l=>(bj0 bfc (fun _=>bs4) (-1) d l.2).bind fun f=>some (.mk b.1 k.1 l.1 f.1,f.2):=by
  intro o;cases o with
  | none=>rfl
  | some x=>
   simp only[bb];cases bj0 bmq (byG (bbc cdv)) [] d x.2 with
   | none=>rfl
   | some y=>
    simp only[bb];cases bj0 bpm (fun _=>bs4) (-1) d y.2 with
    | none=>rfl
    | some z=>
     simp only[bb];cases bj0 bfc (fun _=>bs4) (-1) d z.2<;>rfl
 rw[← e];exact C
theorem b08:∀n,PRD (rdG n) n
 | 0=>⟨cb6 0,fun K M d F=>absurd F.fit.len (by omega),fun K M d F=>absurd F.fit.len (by omega),fun K M d F=>absurd F.fit.len (by omega),fun K M d F=>absurd F.fit.len (by omega)⟩
 | n+1=>⟨cb6 (n+1),dsv (b08 n),ds0 (b08 n),dms (b08 n),c9v (b08 n)⟩
theorem b1j(S:LB)(r:AV)(hr:r.closed 0=true):xr 0 [] S (.ret r none)=some (.ret r none,[]):=bzd S _ hr
theorem RG_all(L:LT):RG L L=[{cells:=[.slice 3 (L.map Tok.av),ii 0,.bool false]}]:=by simp[RG,Rst]
theorem dk8(L:LT)(O E:LB)(i:Int)(bad b:Bool)(v:Qr)
  (hq:rP 45 [ii 0] (RG L L) v.av O)
  (hs:rW 46 ⟨#[59]⟩ O b E)
  (g:E[0]? = some {cells:=[.slice 3 (L.map Tok.av),ii i,.bool bad]}) :
  rH 23 [.slice 3 (L.map Tok.av)] [] (.tuple (if(bad||i != (L.length:Int))=true then [Qr.zero.av,.bool false] else [v.av,.bool true])) []:=by
 rw[RG_all]at hq;have hcl:=Qr.closed 0 v;have hlen:(L.map Tok.av).length=L.length:=by simp
 generalize L.map Tok.av=A at *;generalize hN:(L.length:Int)=N at *;refine xh rfl ?_;obtain⟨⟨c0,c1,c2,i3,i4,i5,i6,i7,i8,i9⟩,ks,li,of⟩:=v;simp only[Qr.av,Bd.cells,rZd,Qr.zero,Bd.zero,bbg,zt,xd,zr,zb,cg]at *;cases bad
 ·by_cases hi:i=N
  ·have e:(false||i != N)=false:=by simp[hi]
   rw[e];simp[-getElem?_pos,rZa,rZb,a23,hq,hs,g,hlen,hN,hi];rw[b1j _ _ (by simp[AV.closed,zd]at hcl ⊢;exact hcl)]
  ·have e:(false||i != N)=true:=by simp[hi]
   rw[e];simp[-getElem?_pos,rZa,rZb,a23,hq,hs,g,hlen,hN,hi];rw[b1j _ _ (by simp[AV.closed,zd])]
 ·have e:(true||i != N)=true:=by simp
  rw[e];simp[-getElem?_pos,rZa,rZb,a23,hq,hs,g,hlen,hN];rw[b1j _ _ (by simp[AV.closed,zd])]
theorem c23(L:LT)(G:cbb L)(hl:L.length≤8000) :
  rH 23 [.slice 3 (L.map Tok.av)] [] (.tuple (match b49 L with | some q=>[q.av,.bool true] | none=>[Qr.zero.av,.bool false])) []:=by
 have F:FitD (L.length+1) L L 0:=⟨⟨by omega,by omega,G,by omega,by omega⟩,br _,by omega⟩;obtain⟨v,O,hq,he⟩:=(b08 (L.length+1)).query.ends F;unfold b49;cases e:(rdG (L.length+1)).query 0 L with
 | none=>
  rw[e]at he;obtain⟨a,ha,rfl⟩:=he;have h:=dk8 L _ _ (a:Int) true false v hq (bd2 L a _) rfl;simpa using h
 | some x=>
  rw[e]at he;obtain⟨rfl,rfl⟩:=he;have t:=(b08 (L.length+1)).sfx.query 0 L L (br _) x e;have hs:=bcq (by omega) t b3h (by simp);have ts:=(bb5 b3h x.2).trans t;have hle:=ts.length_le;have h:=dk8 L _ _ ((L.length - (isG b3h x.2).2.length:Nat):Int) false _ x.1 hq hs (bhv L _);simp only[bb];by_cases h0:(isG b3h x.2).2=[]
  ·rw[if_pos h0];rw[h0]at h;simpa using h
  ·rw[if_neg h0];have hp:0<(isG b3h x.2).2.length:=kj.2 h0;have e2:(false||(((L.length - (isG b3h x.2).2.length:Nat):Int) != (L.length:Int)))=true:=by
    simp only[jj,bne_iff_ne,ne_eq];omega
   rw[e2]at h;simpa using h
theorem lf89{p:Prop}(h:p:=by simp[-getElem?_pos,rZa,a10,Qr.zero,Bd.zero,Qr.av,Bd.cells,bbg,zt,xd,zr,zb, *]):p:=h
theorem lf90{p:Prop}(h:p:=by simp[-getElem?_pos,rZa,a10, *]):p:=h
theorem c10(s:LU):rH 10 [.str (bs s)] [] (.tuple [(bk0 s).1.av,ii (bk0 s).2]) []:=by
 unfold bk0;have hsz:(bs s).size=s.length:=zj s;by_cases hb:4000<s.length
 ·rw[if_pos hb];have hb':(4000:Int)<(s.length:Int):=by omega
  refine xh rfl ?_;exact lf89
 ·rw[if_neg hb];have hb':¬ (4000:Int)<(s.length:Int):=by omega
  have qt:=cv6 (c22 s (by omega));cases ht:brq s with
  | none=>
   rw[ht]at qt;dsimp only at qt ⊢;refine xh rfl ?_;exact lf89
  | some l=>
   obtain⟨G,hl⟩:=bvb (by omega) ht;rw[ht]at qt;dsimp only at qt ⊢;simp only[bxj]at qt;have qp:=c23 l G (by omega);cases hr:b49 l with
   | none=>
    rw[hr]at qp;dsimp only at qp ⊢;refine xh rfl ?_;generalize l.map Tok.av=A at *;simp only[Qr.zero,Bd.zero,Qr.av,Bd.cells,bbg,zt,xd,zr,zb,rZd,cg]at *;exact lf90
   | some q=>
    rw[hr]at qp;dsimp only at qp ⊢;refine xh rfl ?_;generalize l.map Tok.av=A at *;obtain⟨⟨c0,c1,c2,i3,i4,i5,i6,i7,i8,i9⟩,ks,li,of⟩:=q;simp only[Qr.av,Bd.cells,rZd]at *;exact lf90
end Go.Av
