/- Part of syntax_parses. -/
import Derived.Test.YtdcknoijcepibaaGreatDoorQ19
import Derived.Test.YtdcknoijcepibaaGreatDoorQ22
set_option linter.unusedSimpArgs false
set_option linter.unusedVariables false
set_option maxRecDepth 100000
set_option maxHeartbeats 16000000
namespace Go.Av
open Go Go.Proofs
variable{B0 B1:Bx}{R:Rd}{n:Nat}
theorem c2125(w:LU)(S:LB)(hw:w.length≤1000000)(hn:bj9 w=true):rH 125 [.str (bs w),ii 10,ii 64] S (.tuple [ii (b7p w),.niliface]) S:=by
 have h:=cv6 (lift (c125 w S hw));unfold bz2 at h;rw[bpc,c5c hn]at h;exact h
theorem dmg(m:LU):dgv (39::(m++[39]))=m:=by
 unfold dgv;have e:(39::(m++[39])).length - 1=m.length+1:=by simp
 rw[e];simp
theorem dkz{x:Tok}(h:TokOk x)(hk:x.k=4):∃m,x.t=39::(m++[39])∧bd9 m=true∧bf7 m=true∧cd8 x.t=und m∧m.length≤5000:=by
 obtain⟨h1,h2,h3⟩:=h.txt hk;have hl:=h.len;obtain⟨k,t,p⟩:=x;dsimp only at *;cases t with
 | nil=>cases h1
 | cons c r=>
  obtain rfl:c=39:=by simpa using h1
  have hq:bdr (39::r)=qGo 1 r:=rfl;rw[hq]at h2;obtain⟨mid,z,e1,e2,e3⟩:=bkp r.length 1 r (cj _) (by rw[h2];simp);have hz:z=[]:=by
   rw[e1]at h2 e3;simp only[cm,dh]at h2 e3;exact fh.1 (by omega)
  subst hz;subst e1;rw[dmg]at h3;refine⟨mid,rfl,e2,h3,by unfold cd8;rw[dmg],?_⟩;simp only[cm,dh]at hl;omega
theorem c2119{x:Tok}(h:TokOk x)(hk:x.k=4)(S:LB):bbf 119 [.str (bs x.t)] S=some (.ret (.tuple [.agg [ii 3,ii 0,.str (bs (cd8 x.t))],.bool true]) none,S):=by
 obtain⟨m,e1,e2,e3,e4,e5⟩:=dkz h hk;have q:=cv6 (lift (c119Q m S (by omega) e2));rw[e4,e1,q];simp[df1,bgt,e3]
def bp6(B0 B1:Bx)(f:Nat)(args:LA)(own:Option Nat)(L:LT)(d:Int)(X:LB)(b b':Bx)(o:Option (AV×LT)):Prop:=match o with
 | some (v,M)=>bbf f args (Pst B0 B1 L d (X++[b]))=some (.ret v own,Pst B0 B1 M d (X++[b']))
 | none=>∃M d' z,bbf f args (Pst B0 B1 L d (X++[b]))=some (.panic fv,Pst B0 B1 M d' (X++[z]))
theorem lf40{p:Prop}(h:p:=by simp[-getElem?_pos,rZa,a133, *]):p:=h
theorem dsr(k:Nat)(first caps:LA)(L:LT)(d:Int)(h0:0≤d)(h1:d≤1000)(X:LB)(b b':Bx)(o:Option (List Nd×LT))
  (hc:¬ 24<d+1→bp6 B0 B1 k (first++caps) (some 62) L (d+1) X b b' (o.map fun x=>(.slice 7 (xd x.1),x.2))) :
  bp6 B0 B1 133 [.ptr 2 0,.clos (.func k) first caps] (some 62) L d X b b' (if 24<d+1 then none else o.map fun x=>(.slice 7 (xd x.1),x.2)):=by
 have w1:=dvc h0 h1;have w2:=wDec h0 h1;have qf:=c43 (.ptr 2 0) (Pst B0 B1 L (d+1) (X++[b])) rfl;have hk:∀M d' z e,xr 0 (Pst B0 B1 L d (X++[b])) (Pst B0 B1 M d' (X++[z])) e=some (e,Pst B0 B1 M d' (X++[z])):=fun M d' z e=>xg (by simp[Pst]) e
 by_cases hd:24<d+1
 ·rw[if_pos hd];refine⟨L,d+1,b,xh rfl ?_⟩;replace hk:=hk L (d+1) b;simp only[Pst]at *;generalize L.map Tok.av=R at *;exact lf40
 ·rw[if_neg hd];replace hc:=hc hd;cases o with
  | none=>
   simp only[bm,bp6]at hc ⊢;obtain⟨M,d',z,hc⟩:=hc;refine⟨M,d',z,xh rfl ?_⟩;replace hk:=hk M d' z;simp only[Pst]at *;generalize L.map Tok.av=R at *;generalize M.map Tok.av=R' at *;exact lf40
  | some x=>
   obtain⟨v,M⟩:=x;simp only[bc,bp6]at hc ⊢;refine xh rfl ?_;replace hk:=hk M d b';generalize xd v=A at *;simp only[Pst]at *;generalize L.map Tok.av=R at *;generalize M.map Tok.av=R' at *;exact lf40
theorem lf41{p:Prop}(h:p:=by simp[-getElem?_pos,rZa,a75, *]):p:=h
theorem inPar2(k:Nat)(first caps:LA)(d:Int)(h0:0≤d)(h1:d≤1000)(X:LB)(b b':Bx)(L L1:LT)(e1:xm [bh6] L=some L1)(o:Option (List Nd×LT))
  (hc:¬ 24<d+1→bp6 B0 B1 k (first++caps) (some 62) L1 (d+1) X b b' (o.map fun x=>(.slice 7 (xd x.1),x.2))) :
  bp6 B0 B1 75 [.ptr 2 0,.clos (.func k) first caps] (some 62) L d X b b' (((if 24<d+1 then none else o).bind fun x=>(xm [brp] x.2).bind fun L3=>some (x.1,L3)).map fun x=>(.slice 7 (xd x.1),x.2)):=by
 have hk:∀M d' z e,xr 0 (Pst B0 B1 L d (X++[b])) (Pst B0 B1 M d' (X++[z])) e=some (e,Pst B0 B1 M d' (X++[z])):=fun M d' z e=>xg (by simp[Pst]) e
 have q1:vz B0 B1 69 [.ptr 2 0,.slice 1 [.str wb0]] none L d (X++[b]) ((xm [bh6] L).map fun M=>(.tuple [],M)):=brk B0 B1 bh6 (by simp) L d (X++[b]);rw[e1]at q1;have q2:=dsr (B0:=B0) (B1:=B1) k first caps L1 d h0 h1 X b b' o hc
 simp only[bc,vz]at q1;have e2:(if 24<d+1 then none else o.map fun x=>(AV.slice 7 (xd x.1),x.2))=(if 24<d+1 then none else o).map fun x=>(AV.slice 7 (xd x.1),x.2):=by split<;>rfl
 rw[e2]at q2;clear hc;cases e3:(if 24<d+1 then none else o) with
 | none=>
  rw[e3]at q2;simp only[bm,bh,bp6]at q2 ⊢;obtain⟨M,d',z,q2⟩:=q2;refine⟨M,d',z,xh rfl ?_⟩;replace hk:=hk M d' z;generalize Pst B0 B1 L d (X++[b])=P at *;generalize Pst B0 B1 L1 d (X++[b])=P1 at *;generalize Pst B0 B1 M d' (X++[z])=Q at *;exact lf41
 | some x=>
  obtain⟨v,L2⟩:=x;rw[e3]at q2;have q3:vz B0 B1 69 [.ptr 2 0,.slice 1 [.str wb2]] none L2 d (X++[b']) ((xm [brp] L2).map fun M=>(.tuple [],M)):=brk B0 B1 brp (by simp) L2 d (X++[b']);simp only[bc,bb,bp6]at q2 ⊢;generalize hV:xd v=V at *;cases e4:xm [brp] L2 with
  | none=>
   rw[e4]at q3;simp only[bm,bh,vz]at q3 ⊢;obtain⟨M,d',q3⟩:=q3;refine⟨M,d',b',xh rfl ?_⟩;replace hk:=hk M d' b';generalize Pst B0 B1 L d (X++[b])=P at *;generalize Pst B0 B1 L1 d (X++[b])=P1 at *;generalize Pst B0 B1 L2 d (X++[b'])=P2 at *;generalize Pst B0 B1 M d' (X++[b'])=Q at *;exact lf41
  | some L3=>
   rw[e4]at q3;simp only[bc,bb,vz]at q3 ⊢;refine xh rfl ?_;replace hk:=hk L3 d b';generalize Pst B0 B1 L d (X++[b])=P at *;generalize Pst B0 B1 L1 d (X++[b])=P1 at *;generalize Pst B0 B1 L2 d (X++[b'])=P2 at *;generalize Pst B0 B1 L3 d (X++[b'])=Q at *;exact lf41
def bpb(t:LU)(dis:Bool):Bx:={cells:=[ii 8,.str (bs t),ii 0,.bool false,.bool dis,.slice 7 [],.slice 13 []],own:=[(5,62),(6,32)]}
theorem dk5(S:LB)(x y:Bx):(S++[x]).set S.length y=S++[y]:=by
 rw[vp _ _ (cj _)];simp
theorem bd4(L:LT)(d:Int)(X Z:LB):Pst B0 B1 L d (X++Z)=Pst B0 B1 L d X++Z:=rfl
theorem lf42{p:Prop}(h:p:=by simp[-getElem?_pos,rZa,a273, *]):p:=h
theorem c273(hR:PR B0 B1 R n)(L:LT)(d:Int)(X:LB)(F:Fit n L d)(t:LU) :
  bp6 B0 B1 273 [.sptr [.ptr 2 0],.ptr (X.length+4) 0] (some 62) L d X (bpb t false) (bpb t (isG zx L).1) ((bbc R.expr d (isG zx L).2).map fun x=>(.slice 7 (xd x.1),x.2)):=by
 have q1:rH 42 [.ptr 2 0,.slice 1 [.str cj0]] (Pst B0 B1 L d (X++[bpb t false])) (.bool (isG zx L).1) (Pst B0 B1 (isG zx L).2 d (X++[bpb t false])):=bc7 B0 B1 zx (by simp) L d _;have s1:=bb5 zx L;generalize hI:isG zx L=I at *;obtain⟨b,L1⟩:=I;dsimp only at *;have F1:=F.sfx s1;have q2:=c77 B0 B1 73 [.ptr 2 0] [] d (X++[bpb t b]) L1 F1.l9 R.expr hR.sfx.expr (fun M hM=>hR.expr M d _ (F1.sfx hM));simp only[← bhp]at q2;have hk:∀M d' e,xr 0 (Pst B0 B1 L d (X++[bpb t false])) (Pst B0 B1 M d' (X++[bpb t b])) e=some (e,Pst B0 B1 M d' (X++[bpb t b])):=fun M d' e=>xg (by simp[Pst]) e
 have hl:=bq7 B0 B1 L1 d X;have g1:(Pst B0 B1 L1 d X++[bpb t false])[X.length+4]? = some (bpb t false):=by rw[← hl];simp
 have g2:(Pst B0 B1 L1 d X++[bpb t false]).set (X.length+4) (bpb t b)=Pst B0 B1 L1 d X++[bpb t b]:=by rw[← hl,dk5]
 simp only[bpb]at g2;cases e2:bbc R.expr d L1 with
 | none=>
  rw[e2]at q2;simp only[bm,vz,bp6]at q2 ⊢;obtain⟨M,d',q2⟩:=q2;refine⟨M,d',bpb t b,xh rfl ?_⟩;replace hk:=hk M d';simp only[bd4,bpb]at *;generalize Pst B0 B1 L d X=P at *;generalize Pst B0 B1 L1 d X=P1 at *;generalize Pst B0 B1 M d' X=Q at *;exact lf42
 | some x=>
  obtain⟨v,N⟩:=x;rw[e2]at q2;simp only[bc,vz,bp6]at q2 ⊢;refine xh rfl ?_;replace hk:=hk N d;simp only[bd4,bpb]at *;generalize Pst B0 B1 L d X=P at *;generalize Pst B0 B1 L1 d X=P1 at *;generalize Pst B0 B1 N d X=Q at *;generalize xd v=V at *;exact lf42
end Go.Av
namespace Go.Av
open Go Go.Proofs
variable{B0 B1:Bx}{R:Rd}{n:Nat}
theorem dm6(L:LT)(d:Int)(X:LB):(Pst B0 B1 L d X)[2]? = some {cells:=[.slice 3 (L.map Tok.av),ii d,.mapp 3]}:=rfl
theorem Pst3(L:LT)(d:Int)(X:LB):(Pst B0 B1 L d X)[3]? = some ck2:=rfl
theorem dv0(L:LT)(d:Int)(X:LB)(b:Bx):(Pst B0 B1 L d X++[b])[X.length+4]? = some b:=by rw[← bq7 B0 B1 L d X];simp
theorem dvz(L:LT)(d:Int)(X:LB)(a b:Bx):(Pst B0 B1 L d X++[a]).set (X.length+4) b=Pst B0 B1 L d X++[b]:=by rw[← bq7 B0 B1 L d X,dk5]
theorem dd9{k:Int}(x:Tok)(r:LT)(d:Int)(X:LB)(hk:x.k=k):rH 137 [.ptr 2 0,ii k] (Pst B0 B1 (x::r) d X) (.str (bs x.t)) (Pst B0 B1 r d X):=by
 have h0:=b9m B0 B1 (x::r) d X k;simp only[bcc,if_pos hk,bc,vz]at h0;exact h0
theorem dq2{k:Int}(x:Tok)(r:LT)(d:Int)(X:LB)(hk:x.k=k):rH 136 [.ptr 2 0,ii k] (Pst B0 B1 (x::r) d X) (.bool true) (Pst B0 B1 (x::r) d X):=by
 have h0:=cjt B0 B1 (x::r) d X k
 rwa [show bbr k (x::r)=true by simp[bbr,hk]]at h0
theorem nextN{k:Int}(x:Tok)(r:LT)(d:Int)(X:LB)(hk:¬ x.k=k):rH 136 [.ptr 2 0,ii k] (Pst B0 B1 (x::r) d X) (.bool false) (Pst B0 B1 (x::r) d X):=by
 have h0:=cjt B0 B1 (x::r) d X k
 rwa [show bbr k (x::r)=false by simp[bbr,hk]]at h0
theorem ds8(t:LU)(r:LT)(d:Int)(h:pk r=bh6):((bbz (chk R) d r).bind fun x=>some (Nd.mk 8 t 0 false x.1.1 x.1.2 [],x.2)) =
  ((if 24<d+1 then none else bbc R.expr (d+1) (isG zx (r.drop 1)).2).bind fun x=>(xm [brp] x.2).bind fun L3=>some (x.1,L3)).bind fun y=>some (Nd.mk 8 t 0 false (isG zx (r.drop 1)).1 y.1 [],y.2):=by
 have e:xm [bh6] r=some (r.drop 1):=by simp only[xm,if_pos h]
 unfold bbz bbj chk;rw[e];simp only[bb];by_cases hd:24<d+1
 ·rw[if_pos hd,if_pos hd];rfl
 ·rw[if_neg hd,if_neg hd];cases bbc R.expr (d+1) (isG zx (r.drop 1)).2 with
  | none=>rfl
  | some x=>
   simp only[bb];cases xm [brp] x.2<;>rfl
theorem lf43{p:Prop}(h:p:=by simp[-getElem?_pos,rZa,-List.drop_one,rZb,a271,ck2,b7q,bg4, *]):p:=h
theorem lf44{p:Prop}(h:p:=by (try simp only[rZc,rZd]at *);simp[-getElem?_pos,rZa,-List.drop_one,rZb,a271,ck2,b7q,bg4, *]):p:=h
theorem c4c(hR:PR B0 B1 R n)(L:LT)(d:Int)(X:LB)(F:Fit (n+1) L d)(h0:¬ pk L=bxf)(h1:¬ pk L=b4g)(h2:¬ pk L=b0m)(h3:¬ pk L=b0p)(h4:¬ pk L=cs3)(h5:¬ pk L=bh6) :
  vz B0 B1 271 [.ptr 2 0] none L d X ((match (generalizing:=false) L with
  | []=>none
  | x::r=>if x.k=3 then some (Nd.mk 1 [] (b7p x.t) false false [] [],r) else if x.k=4 then some (Nd.mk 2 (cd8 x.t) 0 false false [] [],r)
    else if x.k=2 then bx6 R x.t d r else none:Option (Nd×LT)).map fun x=>(x.1.av,x.2)):=by
 have hk:=hkP B0 B1 L d X;have g2:=dm6 (B0:=B0) (B1:=B1) L d X;have g3:=Pst3 (B0:=B0) (B1:=B1) L d X;have qp:=c68 B0 B1 L d X;cases L with
 | nil=>
  have qt:=b9m B0 B1 [] d X 2;have qn3:=cjt B0 B1 [] d X 3;have qn4:=cjt B0 B1 [] d X 4;simp only[bcc,bm,vz,bbr]at qt qn3 qn4 ⊢;obtain⟨M,d',qt⟩:=qt;refine⟨M,d',xh rfl ?_⟩;replace hk:=hk M d';exact lf43
 | cons x r=>
 have ok:=F.good x (.head _);have sr:r<:+x::r:=fq x r;dsimp only;by_cases k3:x.k=3
 ·rw[if_pos k3];have qn3:=dq2 (B0:=B0) (B1:=B1) x r d X k3;have qt:=dd9 (B0:=B0) (B1:=B1) x r d X k3;have qv:=c2125 x.t (Pst B0 B1 r d X) (by have:=ok.len;omega) (ok.num k3);simp only[bc,vz];refine xh rfl ?_;replace hk:=hk r d;simp only[Nd.av,xd,zb];exact lf43
 rw[if_neg k3];have qn3:=nextN (B0:=B0) (B1:=B1) x r d X k3;by_cases k4:x.k=4
 ·rw[if_pos k4];have qn4:=dq2 (B0:=B0) (B1:=B1) x r d X k4;have qt:=dd9 (B0:=B0) (B1:=B1) x r d X k4;have qv:=c2119 ok k4 (Pst B0 B1 r d X);simp only[bc,vz];refine xh rfl ?_;replace hk:=hk r d;simp only[Nd.av,xd,zb];exact lf43
 rw[if_neg k4];have qn4:=nextN (B0:=B0) (B1:=B1) x r d X k4;by_cases k2:x.k=2
 ·rw[if_pos k2];have qt:=dd9 (B0:=B0) (B1:=B1) x r d X k2;unfold bx6;by_cases h7:pk r=b65
  ·rw[if_pos h7];have qd:rH 42 [.ptr 2 0,.slice 1 [.str wb7]] (Pst B0 B1 (r) d X) (.bool true) (Pst B0 B1 ((r).drop 1) d X):=by have h0:=bc7 B0 B1 b65 (by simp) (r) d X;rw[xx h7]at h0;exact h0
   have z1:(bs x.t).size+(wb7:ByteArray).size≤9223372036854775807:=by rw[zj];exact dg (vq ok.len (cj _)) (by decide)
   have q5:=b9m B0 B1 (r.drop 1) d X 2;cases e5:bcc 2 (r.drop 1) with
   | none=>
    rw[e5]at q5;simp only[bm,bh,vz]at q5 ⊢;obtain⟨M,d',q5⟩:=q5;refine⟨M,d',xh rfl ?_⟩;replace hk:=hk M d';exact lf44
   | some x_e5=>
    obtain⟨u,N⟩:=x_e5;rw[e5]at q5;simp only[bc,vz]at q5;try simp only[bb]
    have lu:=(bjg (F.good.sfx ((xp r).trans sr)) e5).2.2;have z2:(bs x.t).size+(wb7:ByteArray).size+(bs u).size≤9223372036854775807:=by rw[zj,zj];exact dg (vq (vq ok.len (cj _)) lu) (by decide)
    have eS:bs x.t++(wb7:ByteArray)++bs u=bs (x.t++b65++u):=by rw[← bdm,← bdm];rfl
    try simp only[bc,vz]
    refine xh rfl ?_;replace hk:=hk N d;exact lf44
  ·rw[if_neg h7];have qd:rH 42 [.ptr 2 0,.slice 1 [.str wb7]] (Pst B0 B1 (r) d X) (.bool false) (Pst B0 B1 (r) d X):=by have h0:=bc7 B0 B1 b65 (by simp) (r) d X;rw[xk h7]at h0;exact h0
   have qp2:=c68 B0 B1 (r) d X;by_cases h8:pk r≠bh6
   ·rw[if_pos h8];try simp only[bc,vz]
    refine xh rfl ?_;replace hk:=hk r d;exact lf44
   ·rw[if_neg h8];have h8:=Decidable.not_not.1 h8;have qb:=dj8 B0 B1 (r) d X;by_cases h9:pk (r.drop 1)=bcx
    ·rw[if_pos h9];have qm:vz B0 B1 69 [.ptr 2 0,.slice 1 [.str wb0,.str wb1,.str wb2]] none (r) d X ((xm [bh6,bcx,brp] (r)).map fun M=>(.tuple [],M)):=c69 B0 B1 [bh6,bcx,brp] (by simp) (by simp) r d X;cases e5:xm [bh6,bcx,brp] r with
     | none=>
      rw[e5]at qm;simp only[bm,bh,vz]at qm ⊢;obtain⟨M,d',qm⟩:=qm;refine⟨M,d',xh rfl ?_⟩;replace hk:=hk M d';exact lf44
     | some x_e5=>
      rw[e5]at qm;simp only[bc,vz]at qm;try simp only[bb]
      try simp only[bc,vz]
      refine xh rfl ?_;replace hk:=hk x_e5 d;exact lf44
    ·rw[if_neg h9];rw[ds8 x.t r d h8];have hkz:∀M d' (Z:LB) e,e.closed (X.length+4)=true→xr 0 (Pst B0 B1 (x::r) d X) (Pst B0 B1 M d' X++Z) e=some (e,Pst B0 B1 M d' X):=fun M d' Z e he=>ccc (x::r) M d d' X Z e he
     have e1:xm [bh6] r=some (r.drop 1):=by simp only[xm,if_pos h8]
     have F1:¬ 24<d+1→Fit n (r.drop 1) (d+1):=fun hd=>F.deep ((xp r).trans sr) (by have:=(xp r).length_le;simp;omega) hd
     have qc:=inPar2 (B0:=B0) (B1:=B1) 273 [] [.sptr [.ptr 2 0],.ptr (X.length+4) 0] d F.h0 F.d3 X (bpb x.t false) (bpb x.t (isG zx (r.drop 1)).1) r (r.drop 1) e1 (bbc R.expr (d+1) (isG zx (r.drop 1)).2) (fun hd=>c273 hR (r.drop 1) (d+1) X (F1 hd) x.t);have hl:=bq7 B0 B1 r d X;have gA:=dv0 (B0:=B0) (B1:=B1) r d X;have gS:=dvz (B0:=B0) (B1:=B1) r d X;have ht:=bvq 0 [];generalize isG zx (r.drop 1)=I at *;obtain⟨b,L1⟩:=I;dsimp only at *;generalize ((if 24<d+1 then none else bbc R.expr (d+1) L1).bind fun x=>(xm [brp] x.2).bind fun L3=>some (x.1,L3))=G at *;cases G with
     | none=>
      simp only[bm,bh,vz,bp6]at qc ⊢;obtain⟨M,d',z,qc⟩:=qc;refine⟨M,d',xh rfl ?_⟩;have hk2:∀(Z:LB) e,e.closed (X.length+4)=true→xr 0 (Pst B0 B1 (x::r) d X) (Pst B0 B1 M d' X++Z) e=some (e,Pst B0 B1 M d' X):=hkz M d';simp only[bd4,bpb,Nd.av,zb]at *;simp[-getElem?_pos,rZa,-List.drop_one,rZb,a271,ck2,b7q,bg4,g2,g3,qp,h0,h1,h2,h3,h4,h5,qn3,qn4,qt,qd,qp2,h7,h8,qb,h9,hl,gA,gS,qc];rw[hk2 _ _ (by simp[AEnd.closed,AV.closed,zd,fv])]
     | some y=>
      obtain⟨v,N⟩:=y;simp only[bc,bb,vz,bp6]at qc ⊢;refine xh rfl ?_;have gA':=dv0 (B0:=B0) (B1:=B1) N d X;have gS':=dvz (B0:=B0) (B1:=B1) N d X;have hk2:∀(Z:LB) e,e.closed (X.length+4)=true→xr 0 (Pst B0 B1 (x::r) d X) (Pst B0 B1 N d X++Z) e=some (e,Pst B0 B1 N d X):=hkz N d;have hcl:=bfs (X.length+4) v;simp only[bd4,bpb,Nd.av,zb]at *;generalize xd v=V at *;simp[-getElem?_pos,rZa,-List.drop_one,rZb,a271,ck2,b7q,bg4,g2,g3,qp,h0,h1,h2,h3,h4,h5,qn3,qn4,qt,qd,qp2,h7,h8,qb,h9,hl,gA,gS,gA',gS',qc];rw[hk2 _ _ (by simp[AEnd.closed,AV.closed,zd,hcl])]
 ·rw[if_neg k2];have qt:=b9m B0 B1 (x::r) d X 2;simp only[bcc,if_neg k2,bm,vz]at qt ⊢;obtain⟨M,d',qt⟩:=qt;refine⟨M,d',xh rfl ?_⟩;replace hk:=hk M d';exact lf43
theorem c271(hR:PR B0 B1 R n):Rc B0 B1 271 Nd.av none (b5d R) (n+1):=by
 intro L d X F;have hk:=hkP B0 B1 L d X;have g2:=dm6 (B0:=B0) (B1:=B1) L d X;have g3:=Pst3 (B0:=B0) (B1:=B1) L d X;have qp:=c68 B0 B1 L d X;unfold b5d;by_cases h0:pk L=bxf
 ·rw[if_pos h0];rw[h0]at qp;have qt:=c36 (B0:=B0) (B1:=B1) L d X bxf h0 (by simp);simp only[cd4,Nd.av,xd,zb]at qt;try simp only[bc,vz]
  refine xh rfl ?_;replace hk:=hk (L.drop 1) d;exact lf44
 ·rw[if_neg h0];by_cases h1:pk L=b4g
  ·rw[if_pos h1];rw[h1]at qp;have qt:=c36 (B0:=B0) (B1:=B1) L d X b4g h1 (by simp);simp only[cd4,Nd.av,xd,zb]at qt;try simp only[bc,vz]
   refine xh rfl ?_;replace hk:=hk (L.drop 1) d;exact lf44
  ·rw[if_neg h1];by_cases h2:pk L=b0m
   ·rw[if_pos h2];rw[h2]at qp;have qt:=c36 (B0:=B0) (B1:=B1) L d X b0m h2 (by simp);simp only[cd4,Nd.av,xd,zb]at qt;try simp only[bc,vz]
    refine xh rfl ?_;replace hk:=hk (L.drop 1) d;exact lf44
   ·rw[if_neg h2];by_cases h3:pk L=b0p
    ·rw[if_pos h3];rw[h3]at qp;have qt:=c37 hR L d X F h3;generalize ((bbz R.query d (L.drop 1)).bind fun x=>some (Nd.mk 17 [] 0 false false [] [x.1],x.2))=G at *;cases e1:G with
     | none=>
      rw[e1]at qt;simp only[bm,bh,vz]at qt ⊢;obtain⟨M,d',qt⟩:=qt;refine⟨M,d',xh rfl ?_⟩;replace hk:=hk M d';exact lf44
     | some x_e1=>
      obtain⟨v1,L1⟩:=x_e1;rw[e1]at qt;simp only[bc,vz]at qt;try simp only[bb]
      try simp only[bc,vz]
      refine xh rfl ?_;replace hk:=hk L1 d;obtain⟨opv1,t_1,n_1,nov1,d_1,a_1,u_1⟩:=v1;exact lf44
    ·rw[if_neg h3];by_cases h4:pk L=cs3
     ·rw[if_pos h4];rw[h4]at qp;have qt:=c38 hR L d X F h4;cases e1:bbj (bm0 R) d (L.drop 1) with
      | none=>
       rw[e1]at qt;simp only[bm,bh,vz]at qt ⊢;obtain⟨M,d',qt⟩:=qt;refine⟨M,d',xh rfl ?_⟩;replace hk:=hk M d';exact lf44
      | some x_e1=>
       obtain⟨v1,L1⟩:=x_e1;rw[e1]at qt;simp only[bc,vz]at qt;try simp only[bb]
       try simp only[bc,vz]
       refine xh rfl ?_;replace hk:=hk L1 d;obtain⟨opv1,t_1,n_1,nov1,d_1,a_1,u_1⟩:=v1;exact lf44
     ·rw[if_neg h4];by_cases h5:pk L=bh6
      ·rw[if_pos h5];rw[h5]at qp;have qt:=c39 hR L d X F;cases e1:bx2 R d L with
       | none=>
        rw[e1]at qt;simp only[bm,bh,vz]at qt ⊢;obtain⟨M,d',qt⟩:=qt;refine⟨M,d',xh rfl ?_⟩;replace hk:=hk M d';exact lf44
       | some x_e1=>
        obtain⟨v1,L1⟩:=x_e1;rw[e1]at qt;simp only[bc,vz]at qt;try simp only[bb]
        try simp only[bc,vz]
        refine xh rfl ?_;replace hk:=hk L1 d;obtain⟨opv1,t_1,n_1,nov1,d_1,a_1,u_1⟩:=v1;exact lf44
      ·rw[if_neg h5];exact c4c hR L d X F h0 h1 h2 h3 h4 h5
end Go.Av
namespace Go.Av
open Go Go.Proofs
variable{B0 B1:Bx}{R:Rd}{n:Nat}
theorem c3g(hR:PR B0 B1 R n):Rc B0 B1 265 Nd.av none (cb0 R) (n+1):=fun L d X F=>
 c265 B0 B1 d F.h0 F.d3 X L R.sign (b5d R) (fun M hl hs hd=>hR.sign M (d+1) X (F.deep hs hl hd)) (c271 hR L d X F)
theorem dpt(hR:PR B0 B1 R n):Rc B0 B1 254 Nd.av none (cj6 R) (n+1):=fun L d X F=>
 c254 B0 B1 d X L (cb0 R) (bxs hR.sfx) (fun M hM=>c3g hR M d X (F.sfx hM))
theorem brc(hR:PR B0 B1 R n):Rc B0 B1 235 Nd.av none (b3t R) (n+1):=fun L d X F=>
 c235 B0 B1 d X L (cj6 R) (b4s hR.sfx) (fun M hM=>dpt hR M d X (F.sfx hM))
theorem b1_of{m:Nat}(h:m≤9000):(m+1)*88≤140737488355328:=dg (dq _ (kq h)) (by decide)
theorem b2x(sR:R.Sfx){d:Int}{L:LT}{x:List Nd×LT}(h:bbz (bbc R.expr) d L=some x)(hL:L.length≤9000):x.1.length≤9000:=by
 unfold bbz bbj bbc at h;obtain⟨L1,e1,h⟩:=bg.1 h;obtain⟨y,e2,h⟩:=bg.1 h;obtain⟨L3,e3,h⟩:=bg.1 h;obtain rfl:=bf h;split at e2
 ·cases e2
 ·obtain⟨z,e4,e2⟩:=bg.1 e2;obtain⟨u,e5,e2⟩:=bg.1 e2;split at e2
  ·cases e2
  ·obtain rfl:=bf e2;dsimp only;omega
theorem lf45{p:Prop}(h:p:=by (try simp only[rZc,rZd]at *);simp[-getElem?_pos,rZa,-List.drop_one,-List.drop_drop,rZb,a207, *]):p:=h
theorem dpj(hR:PR B0 B1 R n):Rc B0 B1 207 Nd.av none (b7c R) (n+1):=by
 intro L d X F;have hk:=hkP B0 B1 L d X;unfold b7c;have q0:=brc hR L d X F;cases e0:b3t R d L with
 | none=>
  rw[e0]at q0;simp only[bm,bh,vz]at q0 ⊢;obtain⟨M,d',q0⟩:=q0;refine⟨M,d',xh rfl ?_⟩;replace hk:=hk M d';exact lf45
 | some x_e0=>
  obtain⟨v0,L1⟩:=x_e0;rw[e0]at q0;simp only[bc,vz]at q0;try simp only[bb]
  have s1:L1<:+L:=bh7 hR.sfx d L L (br _) _ e0;have qp:=c68 B0 B1 (L1) d X;try dsimp only
  by_cases h6:pk L1∈[weq,wne,wlt,wle,wgt,wge]
  ·rw[if_pos h6];simp only[dc,fp,or_false]at h6;rcases h6 with h6 | h6 | h6 | h6 | h6 | h6
   ·skip;rw[h6]at qp ⊢;have qm:=by have h0:=brk B0 B1 weq (by simp) L1 d X;simp only[xm,if_pos h6,bc,vz]at h0;exact h0
    have q2:=brc hR (L1.drop 1) d X (F.sfx ((xp L1).trans s1));cases e2:b3t R d (L1.drop 1) with
    | none=>
     rw[e2]at q2;simp only[bm,bh,vz]at q2 ⊢;obtain⟨M,d',q2⟩:=q2;refine⟨M,d',xh rfl ?_⟩;replace hk:=hk M d';obtain⟨opv0,t_0,n_0,nov0,d_0,a_0,u_0⟩:=v0;exact lf45
    | some x_e2=>
     obtain⟨v2,L2⟩:=x_e2;rw[e2]at q2;simp only[bc,vz]at q2;try simp only[bb]
     have qb:=ds9 weq v0 v2 (Pst B0 B1 L2 d X);try simp only[bc,vz]
     refine xh rfl ?_;replace hk:=hk L2 d;obtain⟨opv0,t_0,n_0,nov0,d_0,a_0,u_0⟩:=v0;obtain⟨opv2,t_2,n_2,nov2,d_2,a_2,u_2⟩:=v2;exact lf45
   ·skip;rw[h6]at qp ⊢;have qm:=by have h0:=brk B0 B1 wne (by simp) L1 d X;simp only[xm,if_pos h6,bc,vz]at h0;exact h0
    have q2:=brc hR (L1.drop 1) d X (F.sfx ((xp L1).trans s1));cases e2:b3t R d (L1.drop 1) with
    | none=>
     rw[e2]at q2;simp only[bm,bh,vz]at q2 ⊢;obtain⟨M,d',q2⟩:=q2;refine⟨M,d',xh rfl ?_⟩;replace hk:=hk M d';obtain⟨opv0,t_0,n_0,nov0,d_0,a_0,u_0⟩:=v0;exact lf45
    | some x_e2=>
     obtain⟨v2,L2⟩:=x_e2;rw[e2]at q2;simp only[bc,vz]at q2;try simp only[bb]
     have qb:=ds9 wne v0 v2 (Pst B0 B1 L2 d X);try simp only[bc,vz]
     refine xh rfl ?_;replace hk:=hk L2 d;obtain⟨opv0,t_0,n_0,nov0,d_0,a_0,u_0⟩:=v0;obtain⟨opv2,t_2,n_2,nov2,d_2,a_2,u_2⟩:=v2;exact lf45
   ·skip;rw[h6]at qp ⊢;have qm:=by have h0:=brk B0 B1 wlt (by simp) L1 d X;simp only[xm,if_pos h6,bc,vz]at h0;exact h0
    have q2:=brc hR (L1.drop 1) d X (F.sfx ((xp L1).trans s1));cases e2:b3t R d (L1.drop 1) with
    | none=>
     rw[e2]at q2;simp only[bm,bh,vz]at q2 ⊢;obtain⟨M,d',q2⟩:=q2;refine⟨M,d',xh rfl ?_⟩;replace hk:=hk M d';obtain⟨opv0,t_0,n_0,nov0,d_0,a_0,u_0⟩:=v0;exact lf45
    | some x_e2=>
     obtain⟨v2,L2⟩:=x_e2;rw[e2]at q2;simp only[bc,vz]at q2;try simp only[bb]
     have qb:=ds9 wlt v0 v2 (Pst B0 B1 L2 d X);try simp only[bc,vz]
     refine xh rfl ?_;replace hk:=hk L2 d;obtain⟨opv0,t_0,n_0,nov0,d_0,a_0,u_0⟩:=v0;obtain⟨opv2,t_2,n_2,nov2,d_2,a_2,u_2⟩:=v2;exact lf45
   ·skip;rw[h6]at qp ⊢;have qm:=by have h0:=brk B0 B1 wle (by simp) L1 d X;simp only[xm,if_pos h6,bc,vz]at h0;exact h0
    have q2:=brc hR (L1.drop 1) d X (F.sfx ((xp L1).trans s1));cases e2:b3t R d (L1.drop 1) with
    | none=>
     rw[e2]at q2;simp only[bm,bh,vz]at q2 ⊢;obtain⟨M,d',q2⟩:=q2;refine⟨M,d',xh rfl ?_⟩;replace hk:=hk M d';obtain⟨opv0,t_0,n_0,nov0,d_0,a_0,u_0⟩:=v0;exact lf45
    | some x_e2=>
     obtain⟨v2,L2⟩:=x_e2;rw[e2]at q2;simp only[bc,vz]at q2;try simp only[bb]
     have qb:=ds9 wle v0 v2 (Pst B0 B1 L2 d X);try simp only[bc,vz]
     refine xh rfl ?_;replace hk:=hk L2 d;obtain⟨opv0,t_0,n_0,nov0,d_0,a_0,u_0⟩:=v0;obtain⟨opv2,t_2,n_2,nov2,d_2,a_2,u_2⟩:=v2;exact lf45
   ·skip;rw[h6]at qp ⊢;have qm:=by have h0:=brk B0 B1 wgt (by simp) L1 d X;simp only[xm,if_pos h6,bc,vz]at h0;exact h0
    have q2:=brc hR (L1.drop 1) d X (F.sfx ((xp L1).trans s1));cases e2:b3t R d (L1.drop 1) with
    | none=>
     rw[e2]at q2;simp only[bm,bh,vz]at q2 ⊢;obtain⟨M,d',q2⟩:=q2;refine⟨M,d',xh rfl ?_⟩;replace hk:=hk M d';obtain⟨opv0,t_0,n_0,nov0,d_0,a_0,u_0⟩:=v0;exact lf45
    | some x_e2=>
     obtain⟨v2,L2⟩:=x_e2;rw[e2]at q2;simp only[bc,vz]at q2;try simp only[bb]
     have qb:=ds9 wgt v0 v2 (Pst B0 B1 L2 d X);try simp only[bc,vz]
     refine xh rfl ?_;replace hk:=hk L2 d;obtain⟨opv0,t_0,n_0,nov0,d_0,a_0,u_0⟩:=v0;obtain⟨opv2,t_2,n_2,nov2,d_2,a_2,u_2⟩:=v2;exact lf45
   ·skip;rw[h6]at qp ⊢;have qm:=by have h0:=brk B0 B1 wge (by simp) L1 d X;simp only[xm,if_pos h6,bc,vz]at h0;exact h0
    have q2:=brc hR (L1.drop 1) d X (F.sfx ((xp L1).trans s1));cases e2:b3t R d (L1.drop 1) with
    | none=>
     rw[e2]at q2;simp only[bm,bh,vz]at q2 ⊢;obtain⟨M,d',q2⟩:=q2;refine⟨M,d',xh rfl ?_⟩;replace hk:=hk M d';obtain⟨opv0,t_0,n_0,nov0,d_0,a_0,u_0⟩:=v0;exact lf45
    | some x_e2=>
     obtain⟨v2,L2⟩:=x_e2;rw[e2]at q2;simp only[bc,vz]at q2;try simp only[bb]
     have qb:=ds9 wge v0 v2 (Pst B0 B1 L2 d X);try simp only[bc,vz]
     refine xh rfl ?_;replace hk:=hk L2 d;obtain⟨opv0,t_0,n_0,nov0,d_0,a_0,u_0⟩:=v0;obtain⟨opv2,t_2,n_2,nov2,d_2,a_2,u_2⟩:=v2;exact lf45
  ·rw[if_neg h6];have h6':=h6;simp only[dc,fp,or_false,not_or]at h6';obtain⟨n0,n1,n2,n3,n4,n5⟩:=h6';by_cases h7:pk L1=wis
   ·rw[if_pos h7];have qm:rH 69 [.ptr 2 0,.slice 1 [.str c0c]] (Pst B0 B1 (L1) d X) (.tuple []) (Pst B0 B1 ((L1).drop 1) d X):=by have h0:=brk B0 B1 wis (by simp) (L1) d X;simp only[xm,if_pos h7,bc,vz]at h0;exact h0
    have qn:rH 42 [.ptr 2 0,.slice 1 [.str wb8]] (Pst B0 B1 (L1.drop 1) d X) (.bool (isG bpk (L1.drop 1)).1) (Pst B0 B1 (isG bpk (L1.drop 1)).2 d X):=bc7 B0 B1 bpk (by simp) (L1.drop 1) d X;have s2:=(bb5 bpk (L1.drop 1)).trans ((xp L1).trans s1);generalize isG bpk (L1.drop 1)=I at *;obtain⟨nb,L2⟩:=I;try dsimp only at *
    by_cases h8:pk L2=b0m
    ·rw[if_pos h8];have q8:rH 42 [.ptr 2 0,.slice 1 [.str wb9]] (Pst B0 B1 (L2) d X) (.bool true) (Pst B0 B1 ((L2).drop 1) d X):=by have h0:=bc7 B0 B1 b0m (by simp) (L2) d X;rw[xx h8]at h0;exact h0
     try simp only[bc,vz]
     refine xh rfl ?_;replace hk:=hk (L2.drop 1) d;obtain⟨opv0,t_0,n_0,nov0,d_0,a_0,u_0⟩:=v0;exact lf45
    ·rw[if_neg h8];have q8:rH 42 [.ptr 2 0,.slice 1 [.str wb9]] (Pst B0 B1 (L2) d X) (.bool false) (Pst B0 B1 (L2) d X):=by have h0:=bc7 B0 B1 b0m (by simp) (L2) d X;rw[xk h8]at h0;exact h0
     by_cases h9:pk L2=bxf
     ·rw[if_pos h9];have q9:rH 42 [.ptr 2 0,.slice 1 [.str wb6]] (Pst B0 B1 (L2) d X) (.bool true) (Pst B0 B1 ((L2).drop 1) d X):=by have h0:=bc7 B0 B1 bxf (by simp) (L2) d X;rw[xx h9]at h0;exact h0
      try simp only[bc,vz]
      refine xh rfl ?_;replace hk:=hk (L2.drop 1) d;obtain⟨opv0,t_0,n_0,nov0,d_0,a_0,u_0⟩:=v0;exact lf45
     ·rw[if_neg h9];have q9:rH 42 [.ptr 2 0,.slice 1 [.str wb6]] (Pst B0 B1 (L2) d X) (.bool false) (Pst B0 B1 (L2) d X):=by have h0:=bc7 B0 B1 bxf (by simp) (L2) d X;rw[xk h9]at h0;exact h0
      have q3:vz B0 B1 69 [.ptr 2 0,.slice 1 [.str cj0,.str c0f]] none (L2) d X ((xm [zx,btm] (L2)).map fun M=>(.tuple [],M)):=c69 B0 B1 [zx,btm] (by simp) (by simp) L2 d X;cases e3:xm [zx,btm] L2 with
      | none=>
       rw[e3]at q3;simp only[bm,bh,vz]at q3 ⊢;obtain⟨M,d',q3⟩:=q3;refine⟨M,d',xh rfl ?_⟩;replace hk:=hk M d';obtain⟨opv0,t_0,n_0,nov0,d_0,a_0,u_0⟩:=v0;exact lf45
      | some x_e3=>
       rw[e3]at q3;simp only[bc,vz]at q3;try simp only[bb]
       have s3:x_e3<:+L:=(xj e3).trans s2;have q4:=brc hR (x_e3) d X (F.sfx (s3));cases e4:b3t R d (x_e3) with
       | none=>
        rw[e4]at q4;simp only[bm,bh,vz]at q4 ⊢;obtain⟨M,d',q4⟩:=q4;refine⟨M,d',xh rfl ?_⟩;replace hk:=hk M d';obtain⟨opv0,t_0,n_0,nov0,d_0,a_0,u_0⟩:=v0;exact lf45
       | some x_e4=>
        obtain⟨v4,L5⟩:=x_e4;rw[e4]at q4;simp only[bc,vz]at q4;try simp only[bb]
        try simp only[bc,vz]
        refine xh rfl ?_;replace hk:=hk L5 d;obtain⟨opv0,t_0,n_0,nov0,d_0,a_0,u_0⟩:=v0;obtain⟨opv4,t_4,n_4,nov4,d_4,a_4,u_4⟩:=v4;exact lf45
   ·rw[if_neg h7];have qb:=dj8 B0 B1 (L1) d X;by_cases h8:pk L1=bpk
    ·skip;by_cases h9:pk (L1.drop 1)=win
     ·skip;have hno:(decide (pk L1=bpk)&&(decide (pk (L1.drop 1)=win)||decide (pk (L1.drop 1)=bbs)))=true:=by simp[-List.drop_one,h8,h9]
      simp only[hno,if_true,ck,if_false];have hx:¬ pk (L1.drop 1)=bbs:=by rw[h9];simp
      have qm:rH 69 [.ptr 2 0,.slice 1 [.str wb8]] (Pst B0 B1 (L1) d X) (.tuple []) (Pst B0 B1 ((L1).drop 1) d X):=by have h0:=brk B0 B1 bpk (by simp) (L1) d X;simp only[xm,if_pos h8,bc,vz]at h0;exact h0
      rw[if_neg hx,if_pos h9];have qbe:rH 42 [.ptr 2 0,.slice 1 [.str cd1]] (Pst B0 B1 (L1.drop 1) d X) (.bool false) (Pst B0 B1 (L1.drop 1) d X):=by have h0:=bc7 B0 B1 bbs (by simp) (L1.drop 1) d X;rw[xk hx]at h0;exact h0
      have qi:rH 42 [.ptr 2 0,.slice 1 [.str cd0]] (Pst B0 B1 (L1.drop 1) d X) (.bool true) (Pst B0 B1 ((L1.drop 1).drop 1) d X):=by have h0:=bc7 B0 B1 win (by simp) (L1.drop 1) d X;rw[xx h9]at h0;exact h0
      have qo:=c74 (B0:=B0) (B1:=B1) ((L1.drop 1).drop 1) d X;by_cases ho:bt2 ((L1.drop 1).drop 1)=true
      ·rw[if_pos ho];have q2:=dvm hR X (F.sfx ((xp _).trans ((xp L1).trans s1)));cases e2:bbz R.query d ((L1.drop 1).drop 1) with
       | none=>
        rw[e2]at q2;simp only[bm,bh,vz]at q2 ⊢;obtain⟨M,d',q2⟩:=q2;refine⟨M,d',xh rfl ?_⟩;replace hk:=hk M d';obtain⟨opv0,t_0,n_0,nov0,d_0,a_0,u_0⟩:=v0;exact lf45
       | some x_e2=>
        obtain⟨v2,L3⟩:=x_e2;rw[e2]at q2;simp only[bc,vz]at q2;try simp only[bb]
        try simp only[bc,vz]
        refine xh rfl ?_;replace hk:=hk L3 d;obtain⟨opv0,t_0,n_0,nov0,d_0,a_0,u_0⟩:=v0;obtain⟨⟨c0v2,c1v2,c2v2,i3v2,i4v2,i5v2,i6v2,i7v2,i8v2,i9v2⟩,ksv2,liv2,ofv2⟩:=v2;exact lf45
      ·rw[if_neg ho];have q2:=inPe hR 236 (c236 hR) ((L1.drop 1).drop 1) d X (F.sfx ((xp _).trans ((xp L1).trans s1)));cases e2:bbz (bbc R.expr) d ((L1.drop 1).drop 1) with
       | none=>
        rw[e2]at q2;simp only[bm,bh,vz]at q2 ⊢;obtain⟨M,d',q2⟩:=q2;refine⟨M,d',xh rfl ?_⟩;replace hk:=hk M d';obtain⟨opv0,t_0,n_0,nov0,d_0,a_0,u_0⟩:=v0;exact lf45
       | some x_e2=>
        obtain⟨v2,L3⟩:=x_e2;rw[e2]at q2;simp only[bc,vz]at q2;try simp only[bb]
        have l2:=b2x hR.sfx e2 (F.sfx ((xp _).trans ((xp L1).trans s1))).l9;have b1:(1+v2.length)*88≤140737488355328:=by rw[jg];exact b1_of l2
        have hlA:=bdh v2;try simp only[bc,vz]
        refine xh rfl ?_;replace hk:=hk L3 d;obtain⟨opv0,t_0,n_0,nov0,d_0,a_0,u_0⟩:=v0;exact lf45
     ·skip;by_cases h10:pk (L1.drop 1)=bbs
      ·skip;have hno:(decide (pk L1=bpk)&&(decide (pk (L1.drop 1)=win)||decide (pk (L1.drop 1)=bbs)))=true:=by simp[-List.drop_one,h8,h10]
       simp only[hno,if_true,ck,if_false];have qm:rH 69 [.ptr 2 0,.slice 1 [.str wb8]] (Pst B0 B1 (L1) d X) (.tuple []) (Pst B0 B1 ((L1).drop 1) d X):=by have h0:=brk B0 B1 bpk (by simp) (L1) d X;simp only[xm,if_pos h8,bc,vz]at h0;exact h0
       rw[if_pos h10];have qbe:rH 42 [.ptr 2 0,.slice 1 [.str cd1]] (Pst B0 B1 (L1.drop 1) d X) (.bool true) (Pst B0 B1 ((L1.drop 1).drop 1) d X):=by have h0:=bc7 B0 B1 bbs (by simp) (L1.drop 1) d X;rw[xx h10]at h0;exact h0
       have q2:=brc hR ((L1.drop 1).drop 1) d X (F.sfx ((xp _).trans ((xp L1).trans s1)));cases e2:b3t R d ((L1.drop 1).drop 1) with
       | none=>
        rw[e2]at q2;simp only[bm,bh,vz]at q2 ⊢;obtain⟨M,d',q2⟩:=q2;refine⟨M,d',xh rfl ?_⟩;replace hk:=hk M d';obtain⟨opv0,t_0,n_0,nov0,d_0,a_0,u_0⟩:=v0;exact lf45
       | some x_e2=>
        obtain⟨v2,L3⟩:=x_e2;rw[e2]at q2;simp only[bc,vz]at q2;try simp only[bb]
        have s3:L3<:+L:=bh7 hR.sfx d _ L ((xp _).trans ((xp L1).trans s1)) _ e2;have q3:vz B0 B1 69 [.ptr 2 0,.slice 1 [.str cj1]] none (L3) d X ((xm [b69] (L3)).map fun M=>(.tuple [],M)):=brk B0 B1 b69 (by simp) L3 d X;cases e3:xm [b69] L3 with
        | none=>
         rw[e3]at q3;simp only[bm,bh,vz]at q3 ⊢;obtain⟨M,d',q3⟩:=q3;refine⟨M,d',xh rfl ?_⟩;replace hk:=hk M d';obtain⟨opv0,t_0,n_0,nov0,d_0,a_0,u_0⟩:=v0;obtain⟨opv2,t_2,n_2,nov2,d_2,a_2,u_2⟩:=v2;exact lf45
        | some x_e3=>
         rw[e3]at q3;simp only[bc,vz]at q3;try simp only[bb]
         have s4:x_e3<:+L:=(xj e3).trans s3;have q4:=brc hR (x_e3) d X (F.sfx (s4));cases e4:b3t R d (x_e3) with
         | none=>
          rw[e4]at q4;simp only[bm,bh,vz]at q4 ⊢;obtain⟨M,d',q4⟩:=q4;refine⟨M,d',xh rfl ?_⟩;replace hk:=hk M d';obtain⟨opv0,t_0,n_0,nov0,d_0,a_0,u_0⟩:=v0;obtain⟨opv2,t_2,n_2,nov2,d_2,a_2,u_2⟩:=v2;exact lf45
         | some x_e4=>
          obtain⟨v4,L5⟩:=x_e4;rw[e4]at q4;simp only[bc,vz]at q4;try simp only[bb]
          try simp only[bc,vz]
          refine xh rfl ?_;replace hk:=hk L5 d;obtain⟨opv0,t_0,n_0,nov0,d_0,a_0,u_0⟩:=v0;obtain⟨opv2,t_2,n_2,nov2,d_2,a_2,u_2⟩:=v2;obtain⟨opv4,t_4,n_4,nov4,d_4,a_4,u_4⟩:=v4;exact lf45
      ·skip;have hno:(decide (pk L1=bpk)&&(decide (pk (L1.drop 1)=win)||decide (pk (L1.drop 1)=bbs)))=false:=by simp[-List.drop_one,h8,h9,h10]
       simp only[hno,if_true,ck,if_false];have hx:¬ pk L1=bbs:=by rw[h8];simp
       have hy:¬ pk L1=win:=by rw[h8];simp
       rw[if_neg hx,if_neg hy];have qbe:rH 42 [.ptr 2 0,.slice 1 [.str cd1]] (Pst B0 B1 (L1) d X) (.bool false) (Pst B0 B1 (L1) d X):=by have h0:=bc7 B0 B1 bbs (by simp) (L1) d X;rw[xk hx]at h0;exact h0
       have qi:rH 42 [.ptr 2 0,.slice 1 [.str cd0]] (Pst B0 B1 (L1) d X) (.bool false) (Pst B0 B1 (L1) d X):=by have h0:=bc7 B0 B1 win (by simp) (L1) d X;rw[xk hy]at h0;exact h0
       try simp only[bc,vz]
       refine xh rfl ?_;replace hk:=hk L1 d;obtain⟨opv0,t_0,n_0,nov0,d_0,a_0,u_0⟩:=v0;exact lf45
    ·skip;have hno:(decide (pk L1=bpk)&&(decide (pk (L1.drop 1)=win)||decide (pk (L1.drop 1)=bbs)))=false:=by simp[-List.drop_one,h8]
     simp only[hno,if_true,ck,if_false];by_cases h9:pk L1=bbs
     ·rw[if_pos h9];have qbe:rH 42 [.ptr 2 0,.slice 1 [.str cd1]] (Pst B0 B1 (L1) d X) (.bool true) (Pst B0 B1 ((L1).drop 1) d X):=by have h0:=bc7 B0 B1 bbs (by simp) (L1) d X;rw[xx h9]at h0;exact h0
      have q2:=brc hR ((L1).drop 1) d X (F.sfx ((xp _).trans (s1)));cases e2:b3t R d ((L1).drop 1) with
      | none=>
       rw[e2]at q2;simp only[bm,bh,vz]at q2 ⊢;obtain⟨M,d',q2⟩:=q2;refine⟨M,d',xh rfl ?_⟩;replace hk:=hk M d';obtain⟨opv0,t_0,n_0,nov0,d_0,a_0,u_0⟩:=v0;exact lf45
      | some x_e2=>
       obtain⟨v2,L3⟩:=x_e2;rw[e2]at q2;simp only[bc,vz]at q2;try simp only[bb]
       have s3:L3<:+L:=bh7 hR.sfx d _ L ((xp _).trans (s1)) _ e2;have q3:vz B0 B1 69 [.ptr 2 0,.slice 1 [.str cj1]] none (L3) d X ((xm [b69] (L3)).map fun M=>(.tuple [],M)):=brk B0 B1 b69 (by simp) L3 d X;cases e3:xm [b69] L3 with
       | none=>
        rw[e3]at q3;simp only[bm,bh,vz]at q3 ⊢;obtain⟨M,d',q3⟩:=q3;refine⟨M,d',xh rfl ?_⟩;replace hk:=hk M d';obtain⟨opv0,t_0,n_0,nov0,d_0,a_0,u_0⟩:=v0;obtain⟨opv2,t_2,n_2,nov2,d_2,a_2,u_2⟩:=v2;exact lf45
       | some x_e3=>
        rw[e3]at q3;simp only[bc,vz]at q3;try simp only[bb]
        have s4:x_e3<:+L:=(xj e3).trans s3;have q4:=brc hR (x_e3) d X (F.sfx (s4));cases e4:b3t R d (x_e3) with
        | none=>
         rw[e4]at q4;simp only[bm,bh,vz]at q4 ⊢;obtain⟨M,d',q4⟩:=q4;refine⟨M,d',xh rfl ?_⟩;replace hk:=hk M d';obtain⟨opv0,t_0,n_0,nov0,d_0,a_0,u_0⟩:=v0;obtain⟨opv2,t_2,n_2,nov2,d_2,a_2,u_2⟩:=v2;exact lf45
        | some x_e4=>
         obtain⟨v4,L5⟩:=x_e4;rw[e4]at q4;simp only[bc,vz]at q4;try simp only[bb]
         try simp only[bc,vz]
         refine xh rfl ?_;replace hk:=hk L5 d;obtain⟨opv0,t_0,n_0,nov0,d_0,a_0,u_0⟩:=v0;obtain⟨opv2,t_2,n_2,nov2,d_2,a_2,u_2⟩:=v2;obtain⟨opv4,t_4,n_4,nov4,d_4,a_4,u_4⟩:=v4;exact lf45
     ·rw[if_neg h9];by_cases h10:pk L1=win
      ·rw[if_pos h10];have qbe:rH 42 [.ptr 2 0,.slice 1 [.str cd1]] (Pst B0 B1 (L1) d X) (.bool false) (Pst B0 B1 (L1) d X):=by have h0:=bc7 B0 B1 bbs (by simp) (L1) d X;rw[xk h9]at h0;exact h0
       have qi:rH 42 [.ptr 2 0,.slice 1 [.str cd0]] (Pst B0 B1 (L1) d X) (.bool true) (Pst B0 B1 ((L1).drop 1) d X):=by have h0:=bc7 B0 B1 win (by simp) (L1) d X;rw[xx h10]at h0;exact h0
       have qo:=c74 (B0:=B0) (B1:=B1) ((L1).drop 1) d X;by_cases ho:bt2 ((L1).drop 1)=true
       ·rw[if_pos ho];have q2:=dvm hR X (F.sfx ((xp _).trans (s1)));cases e2:bbz R.query d ((L1).drop 1) with
        | none=>
         rw[e2]at q2;simp only[bm,bh,vz]at q2 ⊢;obtain⟨M,d',q2⟩:=q2;refine⟨M,d',xh rfl ?_⟩;replace hk:=hk M d';obtain⟨opv0,t_0,n_0,nov0,d_0,a_0,u_0⟩:=v0;exact lf45
        | some x_e2=>
         obtain⟨v2,L3⟩:=x_e2;rw[e2]at q2;simp only[bc,vz]at q2;try simp only[bb]
         try simp only[bc,vz]
         refine xh rfl ?_;replace hk:=hk L3 d;obtain⟨opv0,t_0,n_0,nov0,d_0,a_0,u_0⟩:=v0;obtain⟨⟨c0v2,c1v2,c2v2,i3v2,i4v2,i5v2,i6v2,i7v2,i8v2,i9v2⟩,ksv2,liv2,ofv2⟩:=v2;exact lf45
       ·rw[if_neg ho];have q2:=inPe hR 236 (c236 hR) ((L1).drop 1) d X (F.sfx ((xp _).trans (s1)));cases e2:bbz (bbc R.expr) d ((L1).drop 1) with
        | none=>
         rw[e2]at q2;simp only[bm,bh,vz]at q2 ⊢;obtain⟨M,d',q2⟩:=q2;refine⟨M,d',xh rfl ?_⟩;replace hk:=hk M d';obtain⟨opv0,t_0,n_0,nov0,d_0,a_0,u_0⟩:=v0;exact lf45
        | some x_e2=>
         obtain⟨v2,L3⟩:=x_e2;rw[e2]at q2;simp only[bc,vz]at q2;try simp only[bb]
         have l2:=b2x hR.sfx e2 (F.sfx ((xp _).trans (s1))).l9;have b1:(1+v2.length)*88≤140737488355328:=by rw[jg];exact b1_of l2
         have hlA:=bdh v2;try simp only[bc,vz]
         refine xh rfl ?_;replace hk:=hk L3 d;obtain⟨opv0,t_0,n_0,nov0,d_0,a_0,u_0⟩:=v0;exact lf45
      ·rw[if_neg h10];have qbe:rH 42 [.ptr 2 0,.slice 1 [.str cd1]] (Pst B0 B1 (L1) d X) (.bool false) (Pst B0 B1 (L1) d X):=by have h0:=bc7 B0 B1 bbs (by simp) (L1) d X;rw[xk h9]at h0;exact h0
       have qi:rH 42 [.ptr 2 0,.slice 1 [.str cd0]] (Pst B0 B1 (L1) d X) (.bool false) (Pst B0 B1 (L1) d X):=by have h0:=bc7 B0 B1 win (by simp) (L1) d X;rw[xk h10]at h0;exact h0
       try simp only[bc,vz]
       refine xh rfl ?_;replace hk:=hk L1 d;obtain⟨opv0,t_0,n_0,nov0,d_0,a_0,u_0⟩:=v0;exact lf45
theorem dmd(hR:PR B0 B1 R n):Rc B0 B1 173 Nd.av none (dgt R) (n+1):=fun L d X F=>
 c173 B0 B1 d F.h0 F.d3 X L R.neg (b7c R) (fun M hl hs hd=>hR.neg M (d+1) X (F.deep hs hl hd)) (dpj hR L d X F)
theorem ds4(hR:PR B0 B1 R n):Rc B0 B1 130 Nd.av none (cmx R) (n+1):=fun L d X F=>
 c130 B0 B1 d X L (dgt R) (b3x hR.sfx) (fun M hM=>dmd hR M d X (F.sfx hM))
theorem dsq(hR:PR B0 B1 R n):Rc B0 B1 73 Nd.av none (c9f R) (n+1):=fun L d X F=>
 c73 B0 B1 d X L (cmx R) (b6b hR.sfx) (fun M hM=>ds4 hR M d X (F.sfx hM))
end Go.Av
namespace Go.Av
open Go Go.Proofs
variable{B0 B1:Bx}{R:Rd}{n:Nat}
theorem lf46{p:Prop}(h:p:=by (try simp only[rZc,rZd]at *);simp[-getElem?_pos,rZa,-List.drop_one,-List.drop_drop,rZb,a80, *]):p:=h
theorem key_rc:Rc B0 B1 80 Ky.av none cdv n:=by
 intro L d X F;have hk:=hkP B0 B1 L d X;have qn:=cjt B0 B1 L d X 3;unfold cdv;by_cases hn:bbr 3 L=true
 ·rw[if_pos hn];rw[hn]at qn;have q1:=c81 B0 B1 L F.good d X;cases e1:bs4 L with
  | none=>
   rw[e1]at q1;simp only[bm,bh,vz]at q1 ⊢;obtain⟨M,d',q1⟩:=q1;refine⟨M,d',xh rfl ?_⟩;replace hk:=hk M d';exact lf46
  | some x_e1=>
   obtain⟨k,L1⟩:=x_e1;rw[e1]at q1;simp only[bc,vz]at q1;try simp only[bb]
   by_cases h0:k=0
   ·rw[if_pos h0];simp only[bh];have qf:=c43 (.ptr 2 0) (Pst B0 B1 L1 d X) rfl;simp only[bm,vz];refine⟨L1,d,xh rfl ?_⟩;replace hk:=hk L1 d;exact lf46
   ·rw[if_neg h0];try simp only[bb]
    by_cases hd:pk L1=cbg
    ·rw[if_pos hd];have q2:rH 42 [.ptr 2 0,.slice 1 [.str dkv]] (Pst B0 B1 (L1) d X) (.bool true) (Pst B0 B1 ((L1).drop 1) d X):=by have h0:=bc7 B0 B1 cbg (by simp) (L1) d X;rw[xx hd]at h0;exact h0
     try simp only[bc,vz]
     refine xh rfl ?_;replace hk:=hk (L1.drop 1) d;exact lf46
    ·rw[if_neg hd];have q2:rH 42 [.ptr 2 0,.slice 1 [.str dkv]] (Pst B0 B1 (L1) d X) (.bool false) (Pst B0 B1 (L1) d X):=by have h0:=bc7 B0 B1 cbg (by simp) (L1) d X;rw[xk hd]at h0;exact h0
     have q3:rH 42 [.ptr 2 0,.slice 1 [.str dvb]] (Pst B0 B1 (L1) d X) (.bool (isG c0x (L1)).1) (Pst B0 B1 (isG c0x (L1)).2 d X):=bc7 B0 B1 c0x (by simp) (L1) d X;try simp only[bc,vz]
     refine xh rfl ?_;replace hk:=hk ((isG c0x L1).2) d;exact lf46
 ·rw[if_neg hn];have hn':bbr 3 L=false:=by simpa using hn
  rw[hn']at qn;have q1:=b9m B0 B1 (L) d X 2;cases e1:bcc 2 (L) with
  | none=>
   rw[e1]at q1;simp only[bm,bh,vz]at q1 ⊢;obtain⟨M,d',q1⟩:=q1;refine⟨M,d',xh rfl ?_⟩;replace hk:=hk M d';exact lf46
  | some x_e1=>
   obtain⟨k,L1⟩:=x_e1;rw[e1]at q1;simp only[bc,vz]at q1;try simp only[bb]
   try simp only[bb]
   by_cases hd:pk L1=cbg
   ·rw[if_pos hd];have q2:rH 42 [.ptr 2 0,.slice 1 [.str dkv]] (Pst B0 B1 (L1) d X) (.bool true) (Pst B0 B1 ((L1).drop 1) d X):=by have h0:=bc7 B0 B1 cbg (by simp) (L1) d X;rw[xx hd]at h0;exact h0
    try simp only[bc,vz]
    refine xh rfl ?_;replace hk:=hk (L1.drop 1) d;exact lf46
   ·rw[if_neg hd];have q2:rH 42 [.ptr 2 0,.slice 1 [.str dkv]] (Pst B0 B1 (L1) d X) (.bool false) (Pst B0 B1 (L1) d X):=by have h0:=bc7 B0 B1 cbg (by simp) (L1) d X;rw[xk hd]at h0;exact h0
    have q3:rH 42 [.ptr 2 0,.slice 1 [.str dvb]] (Pst B0 B1 (L1) d X) (.bool (isG c0x (L1)).1) (Pst B0 B1 (isG c0x (L1)).2 d X):=bc7 B0 B1 c0x (by simp) (L1) d X;try simp only[bc,vz]
    refine xh rfl ?_;replace hk:=hk ((isG c0x L1).2) d;exact lf46
theorem lf47{p:Prop}(h:p:=by (try simp only[rZc,rZd]at *);simp[-getElem?_pos,rZa,-List.drop_one,-List.drop_drop,rZb,a255, *]):p:=h
theorem bxm(hR:PR B0 B1 R n):Rc B0 B1 255 Sr.av none (bc5 R) (n+1):=by
 intro L d X F;have hk:=hkP B0 B1 L d X;have qp:=c68 B0 B1 L d X;unfold bc5;by_cases h1:pk L=bh6
 ·rw[if_pos h1];have q1:=dvm hR X F;cases e1:bbz R.query d L with
  | none=>
   rw[e1]at q1;simp only[bm,bh,vz]at q1 ⊢;obtain⟨M,d',q1⟩:=q1;refine⟨M,d',xh rfl ?_⟩;replace hk:=hk M d';exact lf47
  | some x_e1=>
   obtain⟨v1,L1⟩:=x_e1;rw[e1]at q1;simp only[bc,vz]at q1;try simp only[bb]
   have qa:rH 42 [.ptr 2 0,.slice 1 [.str wb4]] (Pst B0 B1 (L1) d X) (.bool (isG was (L1)).1) (Pst B0 B1 (isG was (L1)).2 d X):=bc7 B0 B1 was (by simp) (L1) d X;have qt:=b9m B0 B1 ((isG was L1).2) d X 2;cases e2:bcc 2 ((isG was L1).2) with
   | none=>
    rw[e2]at qt;simp only[bm,bh,vz]at qt ⊢;obtain⟨M,d',qt⟩:=qt;refine⟨M,d',xh rfl ?_⟩;replace hk:=hk M d';obtain⟨⟨c0v1,c1v1,c2v1,i3v1,i4v1,i5v1,i6v1,i7v1,i8v1,i9v1⟩,ksv1,liv1,ofv1⟩:=v1;exact lf47
   | some x_e2=>
    obtain⟨w,N⟩:=x_e2;rw[e2]at qt;simp only[bc,vz]at qt;try simp only[bb]
    try simp only[bc,vz]
    refine xh rfl ?_;replace hk:=hk N d;obtain⟨⟨c0v1,c1v1,c2v1,i3v1,i4v1,i5v1,i6v1,i7v1,i8v1,i9v1⟩,ksv1,liv1,ofv1⟩:=v1;exact lf47
 ·rw[if_neg h1];have q1:=b9m B0 B1 (L) d X 2;cases e1:bcc 2 (L) with
  | none=>
   rw[e1]at q1;simp only[bm,bh,vz]at q1 ⊢;obtain⟨M,d',q1⟩:=q1;refine⟨M,d',xh rfl ?_⟩;replace hk:=hk M d';exact lf47
  | some x_e1=>
   obtain⟨t,L1⟩:=x_e1;rw[e1]at q1;simp only[bc,vz]at q1;try simp only[bb]
   unfold bf2;by_cases ha:pk L1=was
   ·rw[if_pos ha];have qa:rH 42 [.ptr 2 0,.slice 1 [.str wb4]] (Pst B0 B1 (L1) d X) (.bool true) (Pst B0 B1 ((L1).drop 1) d X):=by have h0:=bc7 B0 B1 was (by simp) (L1) d X;rw[xx ha]at h0;exact h0
    have qt:=b9m B0 B1 (L1.drop 1) d X 2;cases ea:bcc 2 (L1.drop 1) with
    | none=>
     rw[ea]at qt;simp only[bm,bh,vz]at qt ⊢;obtain⟨M,d',qt⟩:=qt;refine⟨M,d',xh rfl ?_⟩;replace hk:=hk M d';exact lf47
    | some x_ea=>
     obtain⟨w,N⟩:=x_ea;rw[ea]at qt;simp only[bc,vz]at qt;try simp only[bb]
     try simp only[bc,vz]
     refine xh rfl ?_;replace hk:=hk N d;exact lf47
   ·rw[if_neg ha];have qa:rH 42 [.ptr 2 0,.slice 1 [.str wb4]] (Pst B0 B1 (L1) d X) (.bool false) (Pst B0 B1 (L1) d X):=by have h0:=bc7 B0 B1 was (by simp) (L1) d X;rw[xk ha]at h0;exact h0
    have qn:=cjt B0 B1 (L1) d X 2;by_cases hm:bbr 2 L1=true
    ·rw[if_pos hm];rw[hm]at qn;have qt:=b9m B0 B1 (L1) d X 2;cases ea:bcc 2 (L1) with
     | none=>
      rw[ea]at qt;simp only[bm,bh,vz]at qt ⊢;obtain⟨M,d',qt⟩:=qt;refine⟨M,d',xh rfl ?_⟩;replace hk:=hk M d';exact lf47
     | some x_ea=>
      obtain⟨w,N⟩:=x_ea;rw[ea]at qt;simp only[bc,vz]at qt;try simp only[bb]
      try simp only[bc,vz]
      refine xh rfl ?_;replace hk:=hk N d;exact lf47
    ·rw[if_neg hm];have hm':bbr 2 L1=false:=by simpa using hm
     rw[hm']at qn;try simp only[bc,vz]
     refine xh rfl ?_;replace hk:=hk L1 d;exact lf47
theorem lf48{p:Prop}(h:p:=by (try simp only[rZc,rZd]at *);simp[-getElem?_pos,rZa,-List.drop_one,-List.drop_drop,rZb,a238, *]):p:=h
theorem itemA(he:Rc B0 B1 73 Nd.av none R.expr n)(L:LT)(d:Int)(X:LB)(F:Fit n L d)(h1:¬ pk L=bcx)(hA:bbr 2 L=false) :
  vz B0 B1 238 [.ptr 2 0] none L d X (((R.expr d L).bind fun e=>(bf2 e.2).bind fun a=>some (It.mk false [] [e.1] a.1,a.2)).map fun x=>(x.1.av,x.2)):=by
 have hk:=hkP B0 B1 L d X;have qs:rH 42 [.ptr 2 0,.slice 1 [.str wb1]] (Pst B0 B1 L d X) (.bool false) (Pst B0 B1 L d X):=by have h0:=bc7 B0 B1 bcx (by simp) L d X;rw[xk h1]at h0;exact h0
 have q2:=cjt B0 B1 L d X 2;have qb:=dj8 B0 B1 L d X;have g2:=dm6 (B0:=B0) (B1:=B1) L d X;rw[hA]at q2;have q1:=he L d X F;cases e1:R.expr d L with
 | none=>
  rw[e1]at q1;simp only[bm,bh,vz]at q1 ⊢;obtain⟨M,d',q1⟩:=q1;refine⟨M,d',xh rfl ?_⟩;replace hk:=hk M d';exact lf48
 | some x_e1=>
  obtain⟨v1,L1⟩:=x_e1;rw[e1]at q1;simp only[bc,vz]at q1;try simp only[bb]
  try unfold bf2
  by_cases ha:pk L1=was
  ·rw[if_pos ha];have qa:rH 42 [.ptr 2 0,.slice 1 [.str wb4]] (Pst B0 B1 (L1) d X) (.bool true) (Pst B0 B1 ((L1).drop 1) d X):=by have h0:=bc7 B0 B1 was (by simp) (L1) d X;rw[xx ha]at h0;exact h0
   have qt:=b9m B0 B1 (L1.drop 1) d X 2;cases ea:bcc 2 (L1.drop 1) with
   | none=>
    rw[ea]at qt;simp only[bm,bh,vz]at qt ⊢;obtain⟨M,d',qt⟩:=qt;refine⟨M,d',xh rfl ?_⟩;replace hk:=hk M d';obtain⟨opv1,t_1,n_1,nov1,d_1,a_1,u_1⟩:=v1;exact lf48
   | some x_ea=>
    obtain⟨w,N⟩:=x_ea;rw[ea]at qt;simp only[bc,vz]at qt;try simp only[bb]
    try simp only[bc,vz]
    refine xh rfl ?_;replace hk:=hk N d;obtain⟨opv1,t_1,n_1,nov1,d_1,a_1,u_1⟩:=v1;exact lf48
  ·rw[if_neg ha];have qa:rH 42 [.ptr 2 0,.slice 1 [.str wb4]] (Pst B0 B1 (L1) d X) (.bool false) (Pst B0 B1 (L1) d X):=by have h0:=bc7 B0 B1 was (by simp) (L1) d X;rw[xk ha]at h0;exact h0
   have qn:=cjt B0 B1 (L1) d X 2;by_cases hm:bbr 2 L1=true
   ·rw[if_pos hm];rw[hm]at qn;have qt:=b9m B0 B1 (L1) d X 2;cases ea:bcc 2 (L1) with
    | none=>
     rw[ea]at qt;simp only[bm,bh,vz]at qt ⊢;obtain⟨M,d',qt⟩:=qt;refine⟨M,d',xh rfl ?_⟩;replace hk:=hk M d';obtain⟨opv1,t_1,n_1,nov1,d_1,a_1,u_1⟩:=v1;exact lf48
    | some x_ea=>
     obtain⟨w,N⟩:=x_ea;rw[ea]at qt;simp only[bc,vz]at qt;try simp only[bb]
     try simp only[bc,vz]
     refine xh rfl ?_;replace hk:=hk N d;obtain⟨opv1,t_1,n_1,nov1,d_1,a_1,u_1⟩:=v1;exact lf48
   ·rw[if_neg hm];have hm':bbr 2 L1=false:=by simpa using hm
    rw[hm']at qn;try simp only[bc,vz]
    refine xh rfl ?_;replace hk:=hk L1 d;obtain⟨opv1,t_1,n_1,nov1,d_1,a_1,u_1⟩:=v1;exact lf48
theorem itemB(he:Rc B0 B1 73 Nd.av none R.expr n)(L:LT)(d:Int)(X:LB)(F:Fit n L d)(h1:¬ pk L=bcx)(hA:bbr 2 L=true)(hB:¬ pk (L.drop 1)=b65) :
  vz B0 B1 238 [.ptr 2 0] none L d X (((R.expr d L).bind fun e=>(bf2 e.2).bind fun a=>some (It.mk false [] [e.1] a.1,a.2)).map fun x=>(x.1.av,x.2)):=by
 have hk:=hkP B0 B1 L d X;have qs:rH 42 [.ptr 2 0,.slice 1 [.str wb1]] (Pst B0 B1 L d X) (.bool false) (Pst B0 B1 L d X):=by have h0:=bc7 B0 B1 bcx (by simp) L d X;rw[xk h1]at h0;exact h0
 have q2:=cjt B0 B1 L d X 2;have qb:=dj8 B0 B1 L d X;have g2:=dm6 (B0:=B0) (B1:=B1) L d X;rw[hA]at q2;have q1:=he L d X F;cases e1:R.expr d L with
 | none=>
  rw[e1]at q1;simp only[bm,bh,vz]at q1 ⊢;obtain⟨M,d',q1⟩:=q1;refine⟨M,d',xh rfl ?_⟩;replace hk:=hk M d';exact lf48
 | some x_e1=>
  obtain⟨v1,L1⟩:=x_e1;rw[e1]at q1;simp only[bc,vz]at q1;try simp only[bb]
  try unfold bf2
  by_cases ha:pk L1=was
  ·rw[if_pos ha];have qa:rH 42 [.ptr 2 0,.slice 1 [.str wb4]] (Pst B0 B1 (L1) d X) (.bool true) (Pst B0 B1 ((L1).drop 1) d X):=by have h0:=bc7 B0 B1 was (by simp) (L1) d X;rw[xx ha]at h0;exact h0
   have qt:=b9m B0 B1 (L1.drop 1) d X 2;cases ea:bcc 2 (L1.drop 1) with
   | none=>
    rw[ea]at qt;simp only[bm,bh,vz]at qt ⊢;obtain⟨M,d',qt⟩:=qt;refine⟨M,d',xh rfl ?_⟩;replace hk:=hk M d';obtain⟨opv1,t_1,n_1,nov1,d_1,a_1,u_1⟩:=v1;exact lf48
   | some x_ea=>
    obtain⟨w,N⟩:=x_ea;rw[ea]at qt;simp only[bc,vz]at qt;try simp only[bb]
    try simp only[bc,vz]
    refine xh rfl ?_;replace hk:=hk N d;obtain⟨opv1,t_1,n_1,nov1,d_1,a_1,u_1⟩:=v1;exact lf48
  ·rw[if_neg ha];have qa:rH 42 [.ptr 2 0,.slice 1 [.str wb4]] (Pst B0 B1 (L1) d X) (.bool false) (Pst B0 B1 (L1) d X):=by have h0:=bc7 B0 B1 was (by simp) (L1) d X;rw[xk ha]at h0;exact h0
   have qn:=cjt B0 B1 (L1) d X 2;by_cases hm:bbr 2 L1=true
   ·rw[if_pos hm];rw[hm]at qn;have qt:=b9m B0 B1 (L1) d X 2;cases ea:bcc 2 (L1) with
    | none=>
     rw[ea]at qt;simp only[bm,bh,vz]at qt ⊢;obtain⟨M,d',qt⟩:=qt;refine⟨M,d',xh rfl ?_⟩;replace hk:=hk M d';obtain⟨opv1,t_1,n_1,nov1,d_1,a_1,u_1⟩:=v1;exact lf48
    | some x_ea=>
     obtain⟨w,N⟩:=x_ea;rw[ea]at qt;simp only[bc,vz]at qt;try simp only[bb]
     try simp only[bc,vz]
     refine xh rfl ?_;replace hk:=hk N d;obtain⟨opv1,t_1,n_1,nov1,d_1,a_1,u_1⟩:=v1;exact lf48
   ·rw[if_neg hm];have hm':bbr 2 L1=false:=by simpa using hm
    rw[hm']at qn;try simp only[bc,vz]
    refine xh rfl ?_;replace hk:=hk L1 d;obtain⟨opv1,t_1,n_1,nov1,d_1,a_1,u_1⟩:=v1;exact lf48
theorem dr9(he:Rc B0 B1 73 Nd.av none R.expr n)(L:LT)(d:Int)(X:LB)(F:Fit n L d)(h1:¬ pk L=bcx)(hA:bbr 2 L=true)(hB:pk (L.drop 1)=b65)(hC:L.length≤2) :
  vz B0 B1 238 [.ptr 2 0] none L d X (((R.expr d L).bind fun e=>(bf2 e.2).bind fun a=>some (It.mk false [] [e.1] a.1,a.2)).map fun x=>(x.1.av,x.2)):=by
 have hk:=hkP B0 B1 L d X;have qs:rH 42 [.ptr 2 0,.slice 1 [.str wb1]] (Pst B0 B1 L d X) (.bool false) (Pst B0 B1 L d X):=by have h0:=bc7 B0 B1 bcx (by simp) L d X;rw[xk h1]at h0;exact h0
 have q2:=cjt B0 B1 L d X 2;have qb:=dj8 B0 B1 L d X;have g2:=dm6 (B0:=B0) (B1:=B1) L d X;rw[hA]at q2;have hC1:¬ (2:Int)<(L.length:Int):=by omega
 have hC2:¬ 2<L.length:=by omega
 have q1:=he L d X F;cases e1:R.expr d L with
 | none=>
  rw[e1]at q1;simp only[bm,bh,vz]at q1 ⊢;obtain⟨M,d',q1⟩:=q1;refine⟨M,d',xh rfl ?_⟩;replace hk:=hk M d';exact lf48
 | some x_e1=>
  obtain⟨v1,L1⟩:=x_e1;rw[e1]at q1;simp only[bc,vz]at q1;try simp only[bb]
  try unfold bf2
  by_cases ha:pk L1=was
  ·rw[if_pos ha];have qa:rH 42 [.ptr 2 0,.slice 1 [.str wb4]] (Pst B0 B1 (L1) d X) (.bool true) (Pst B0 B1 ((L1).drop 1) d X):=by have h0:=bc7 B0 B1 was (by simp) (L1) d X;rw[xx ha]at h0;exact h0
   have qt:=b9m B0 B1 (L1.drop 1) d X 2;cases ea:bcc 2 (L1.drop 1) with
   | none=>
    rw[ea]at qt;simp only[bm,bh,vz]at qt ⊢;obtain⟨M,d',qt⟩:=qt;refine⟨M,d',xh rfl ?_⟩;replace hk:=hk M d';obtain⟨opv1,t_1,n_1,nov1,d_1,a_1,u_1⟩:=v1;exact lf48
   | some x_ea=>
    obtain⟨w,N⟩:=x_ea;rw[ea]at qt;simp only[bc,vz]at qt;try simp only[bb]
    try simp only[bc,vz]
    refine xh rfl ?_;replace hk:=hk N d;obtain⟨opv1,t_1,n_1,nov1,d_1,a_1,u_1⟩:=v1;exact lf48
  ·rw[if_neg ha];have qa:rH 42 [.ptr 2 0,.slice 1 [.str wb4]] (Pst B0 B1 (L1) d X) (.bool false) (Pst B0 B1 (L1) d X):=by have h0:=bc7 B0 B1 was (by simp) (L1) d X;rw[xk ha]at h0;exact h0
   have qn:=cjt B0 B1 (L1) d X 2;by_cases hm:bbr 2 L1=true
   ·rw[if_pos hm];rw[hm]at qn;have qt:=b9m B0 B1 (L1) d X 2;cases ea:bcc 2 (L1) with
    | none=>
     rw[ea]at qt;simp only[bm,bh,vz]at qt ⊢;obtain⟨M,d',qt⟩:=qt;refine⟨M,d',xh rfl ?_⟩;replace hk:=hk M d';obtain⟨opv1,t_1,n_1,nov1,d_1,a_1,u_1⟩:=v1;exact lf48
    | some x_ea=>
     obtain⟨w,N⟩:=x_ea;rw[ea]at qt;simp only[bc,vz]at qt;try simp only[bb]
     try simp only[bc,vz]
     refine xh rfl ?_;replace hk:=hk N d;obtain⟨opv1,t_1,n_1,nov1,d_1,a_1,u_1⟩:=v1;exact lf48
   ·rw[if_neg hm];have hm':bbr 2 L1=false:=by simpa using hm
    rw[hm']at qn;try simp only[bc,vz]
    refine xh rfl ?_;replace hk:=hk L1 d;obtain⟨opv1,t_1,n_1,nov1,d_1,a_1,u_1⟩:=v1;exact lf48
theorem itemD(he:Rc B0 B1 73 Nd.av none R.expr n)(L:LT)(d:Int)(X:LB)(F:Fit n L d)(h1:¬ pk L=bcx)(x y z:Tok)(r:LT)(hL:L=x::y::z::r)(hA:bbr 2 L=true)(hB:pk (L.drop 1)=b65)(hD:¬ z.t=bcx) :
  vz B0 B1 238 [.ptr 2 0] none L d X (((R.expr d L).bind fun e=>(bf2 e.2).bind fun a=>some (It.mk false [] [e.1] a.1,a.2)).map fun x=>(x.1.av,x.2)):=by
 have hk:=hkP B0 B1 L d X;have qs:rH 42 [.ptr 2 0,.slice 1 [.str wb1]] (Pst B0 B1 L d X) (.bool false) (Pst B0 B1 L d X):=by have h0:=bc7 B0 B1 bcx (by simp) L d X;rw[xk h1]at h0;exact h0
 have q2:=cjt B0 B1 L d X 2;have qb:=dj8 B0 B1 L d X;have g2:=dm6 (B0:=B0) (B1:=B1) L d X;rw[hA]at q2;have hC1:(2:Int)<(L.length:Int):=by rw[hL];simp;omega
 have gz:(L.map Tok.av)[2]? = some (.agg [ii z.k,.str (bs z.t),ii (z.at':Int)]):=by rw[hL];rfl
 have q1:=he L d X F;cases e1:R.expr d L with
 | none=>
  rw[e1]at q1;simp only[bm,bh,vz]at q1 ⊢;obtain⟨M,d',q1⟩:=q1;refine⟨M,d',xh rfl ?_⟩;replace hk:=hk M d';try simp only[rZc,rZd]at *
  simp[-getElem?_pos,rZa,-List.drop_one,-List.drop_drop,rZb,a238,qs,q2,qb,g2,hB,hC1,hD,gz,q1,hk]
 | some x_e1=>
  obtain⟨v1,L1⟩:=x_e1;rw[e1]at q1;simp only[bc,vz]at q1;try simp only[bb]
  try unfold bf2
  by_cases ha:pk L1=was
  ·rw[if_pos ha];have qa:rH 42 [.ptr 2 0,.slice 1 [.str wb4]] (Pst B0 B1 (L1) d X) (.bool true) (Pst B0 B1 ((L1).drop 1) d X):=by have h0:=bc7 B0 B1 was (by simp) (L1) d X;rw[xx ha]at h0;exact h0
   have qt:=b9m B0 B1 (L1.drop 1) d X 2;cases ea:bcc 2 (L1.drop 1) with
   | none=>
    rw[ea]at qt;simp only[bm,bh,vz]at qt ⊢;obtain⟨M,d',qt⟩:=qt;refine⟨M,d',xh rfl ?_⟩;replace hk:=hk M d';obtain⟨opv1,t_1,n_1,nov1,d_1,a_1,u_1⟩:=v1;try simp only[rZc,rZd]at *
    simp[-getElem?_pos,rZa,-List.drop_one,-List.drop_drop,rZb,a238,qs,q2,qb,g2,hB,hC1,hD,gz,q1,ha,qa,qt,hk]
   | some x_ea=>
    obtain⟨w,N⟩:=x_ea;rw[ea]at qt;simp only[bc,vz]at qt;try simp only[bb]
    try simp only[bc,vz]
    refine xh rfl ?_;replace hk:=hk N d;obtain⟨opv1,t_1,n_1,nov1,d_1,a_1,u_1⟩:=v1;try simp only[rZc,rZd]at *
    simp[-getElem?_pos,rZa,-List.drop_one,-List.drop_drop,rZb,a238,qs,q2,qb,g2,hB,hC1,hD,gz,q1,ha,qa,qt,hk]
  ·rw[if_neg ha];have qa:rH 42 [.ptr 2 0,.slice 1 [.str wb4]] (Pst B0 B1 (L1) d X) (.bool false) (Pst B0 B1 (L1) d X):=by have h0:=bc7 B0 B1 was (by simp) (L1) d X;rw[xk ha]at h0;exact h0
   have qn:=cjt B0 B1 (L1) d X 2;by_cases hm:bbr 2 L1=true
   ·rw[if_pos hm];rw[hm]at qn;have qt:=b9m B0 B1 (L1) d X 2;cases ea:bcc 2 (L1) with
    | none=>
     rw[ea]at qt;simp only[bm,bh,vz]at qt ⊢;obtain⟨M,d',qt⟩:=qt;refine⟨M,d',xh rfl ?_⟩;replace hk:=hk M d';obtain⟨opv1,t_1,n_1,nov1,d_1,a_1,u_1⟩:=v1;try simp only[rZc,rZd]at *
     simp[-getElem?_pos,rZa,-List.drop_one,-List.drop_drop,rZb,a238,qs,q2,qb,g2,hB,hC1,hD,gz,q1,ha,qa,qn,hm,qt,hk]
    | some x_ea=>
     obtain⟨w,N⟩:=x_ea;rw[ea]at qt;simp only[bc,vz]at qt;try simp only[bb]
     try simp only[bc,vz]
     refine xh rfl ?_;replace hk:=hk N d;obtain⟨opv1,t_1,n_1,nov1,d_1,a_1,u_1⟩:=v1;try simp only[rZc,rZd]at *
     simp[-getElem?_pos,rZa,-List.drop_one,-List.drop_drop,rZb,a238,qs,q2,qb,g2,hB,hC1,hD,gz,q1,ha,qa,qn,hm,qt,hk]
   ·rw[if_neg hm];have hm':bbr 2 L1=false:=by simpa using hm
    rw[hm']at qn;try simp only[bc,vz]
    refine xh rfl ?_;replace hk:=hk L1 d;obtain⟨opv1,t_1,n_1,nov1,d_1,a_1,u_1⟩:=v1;try simp only[rZc,rZd]at *
    simp[-getElem?_pos,rZa,-List.drop_one,-List.drop_drop,rZb,a238,qs,q2,qb,g2,hB,hC1,hD,gz,q1,ha,qa,qn,hm,hk]
theorem itemE(he:Rc B0 B1 73 Nd.av none R.expr n)(L:LT)(d:Int)(X:LB)(F:Fit n L d)(h1:¬ pk L=bcx)(x y z:Tok)(r:LT)(hL:L=x::y::z::r)(hA:bbr 2 L=true)(hB:pk (L.drop 1)=b65)(hD:z.t=bcx)(hE:¬ z.k=5) :
  vz B0 B1 238 [.ptr 2 0] none L d X (((R.expr d L).bind fun e=>(bf2 e.2).bind fun a=>some (It.mk false [] [e.1] a.1,a.2)).map fun x=>(x.1.av,x.2)):=by
 have hk:=hkP B0 B1 L d X;have qs:rH 42 [.ptr 2 0,.slice 1 [.str wb1]] (Pst B0 B1 L d X) (.bool false) (Pst B0 B1 L d X):=by have h0:=bc7 B0 B1 bcx (by simp) L d X;rw[xk h1]at h0;exact h0
 have q2:=cjt B0 B1 L d X 2;have qb:=dj8 B0 B1 L d X;have g2:=dm6 (B0:=B0) (B1:=B1) L d X;rw[hA]at q2;have hC1:(2:Int)<(L.length:Int):=by rw[hL];simp;omega
 have gz:(L.map Tok.av)[2]? = some (.agg [ii z.k,.str (bs z.t),ii (z.at':Int)]):=by rw[hL];rfl
 have q1:=he L d X F;cases e1:R.expr d L with
 | none=>
  rw[e1]at q1;simp only[bm,bh,vz]at q1 ⊢;obtain⟨M,d',q1⟩:=q1;refine⟨M,d',xh rfl ?_⟩;replace hk:=hk M d';try simp only[rZc,rZd]at *
  simp[-getElem?_pos,rZa,-List.drop_one,-List.drop_drop,rZb,a238,qs,q2,qb,g2,hB,hC1,hD,hE,gz,q1,hk]
 | some x_e1=>
  obtain⟨v1,L1⟩:=x_e1;rw[e1]at q1;simp only[bc,vz]at q1;try simp only[bb]
  try unfold bf2
  by_cases ha:pk L1=was
  ·rw[if_pos ha];have qa:rH 42 [.ptr 2 0,.slice 1 [.str wb4]] (Pst B0 B1 (L1) d X) (.bool true) (Pst B0 B1 ((L1).drop 1) d X):=by have h0:=bc7 B0 B1 was (by simp) (L1) d X;rw[xx ha]at h0;exact h0
   have qt:=b9m B0 B1 (L1.drop 1) d X 2;cases ea:bcc 2 (L1.drop 1) with
   | none=>
    rw[ea]at qt;simp only[bm,bh,vz]at qt ⊢;obtain⟨M,d',qt⟩:=qt;refine⟨M,d',xh rfl ?_⟩;replace hk:=hk M d';obtain⟨opv1,t_1,n_1,nov1,d_1,a_1,u_1⟩:=v1;try simp only[rZc,rZd]at *
    simp[-getElem?_pos,rZa,-List.drop_one,-List.drop_drop,rZb,a238,qs,q2,qb,g2,hB,hC1,hD,hE,gz,q1,ha,qa,qt,hk]
   | some x_ea=>
    obtain⟨w,N⟩:=x_ea;rw[ea]at qt;simp only[bc,vz]at qt;try simp only[bb]
    try simp only[bc,vz]
    refine xh rfl ?_;replace hk:=hk N d;obtain⟨opv1,t_1,n_1,nov1,d_1,a_1,u_1⟩:=v1;try simp only[rZc,rZd]at *
    simp[-getElem?_pos,rZa,-List.drop_one,-List.drop_drop,rZb,a238,qs,q2,qb,g2,hB,hC1,hD,hE,gz,q1,ha,qa,qt,hk]
  ·rw[if_neg ha];have qa:rH 42 [.ptr 2 0,.slice 1 [.str wb4]] (Pst B0 B1 (L1) d X) (.bool false) (Pst B0 B1 (L1) d X):=by have h0:=bc7 B0 B1 was (by simp) (L1) d X;rw[xk ha]at h0;exact h0
   have qn:=cjt B0 B1 (L1) d X 2;by_cases hm:bbr 2 L1=true
   ·rw[if_pos hm];rw[hm]at qn;have qt:=b9m B0 B1 (L1) d X 2;cases ea:bcc 2 (L1) with
    | none=>
     rw[ea]at qt;simp only[bm,bh,vz]at qt ⊢;obtain⟨M,d',qt⟩:=qt;refine⟨M,d',xh rfl ?_⟩;replace hk:=hk M d';obtain⟨opv1,t_1,n_1,nov1,d_1,a_1,u_1⟩:=v1;try simp only[rZc,rZd]at *
     simp[-getElem?_pos,rZa,-List.drop_one,-List.drop_drop,rZb,a238,qs,q2,qb,g2,hB,hC1,hD,hE,gz,q1,ha,qa,qn,hm,qt,hk]
    | some x_ea=>
     obtain⟨w,N⟩:=x_ea;rw[ea]at qt;simp only[bc,vz]at qt;try simp only[bb]
     try simp only[bc,vz]
     refine xh rfl ?_;replace hk:=hk N d;obtain⟨opv1,t_1,n_1,nov1,d_1,a_1,u_1⟩:=v1;try simp only[rZc,rZd]at *
     simp[-getElem?_pos,rZa,-List.drop_one,-List.drop_drop,rZb,a238,qs,q2,qb,g2,hB,hC1,hD,hE,gz,q1,ha,qa,qn,hm,qt,hk]
   ·rw[if_neg hm];have hm':bbr 2 L1=false:=by simpa using hm
    rw[hm']at qn;try simp only[bc,vz]
    refine xh rfl ?_;replace hk:=hk L1 d;obtain⟨opv1,t_1,n_1,nov1,d_1,a_1,u_1⟩:=v1;try simp only[rZc,rZd]at *
    simp[-getElem?_pos,rZa,-List.drop_one,-List.drop_drop,rZb,a238,qs,q2,qb,g2,hB,hC1,hD,hE,gz,q1,ha,qa,qn,hm,hk]
theorem lf49{p:Prop}(h:p:=by simp[-getElem?_pos,rZa,-List.drop_one,-List.drop_drop,rZb,a238, *]):p:=h
theorem itemF(x y z:Tok)(r:LT)(d:Int)(X:LB)(h1:¬ pk (x::y::z::r)=bcx)(hA:x.k=2)(hB:pk (y::z::r)=b65)(hD:z.t=bcx)(hE:z.k=5) :
  rH 238 [.ptr 2 0] (Pst B0 B1 (x::y::z::r) d X) (It.mk true x.t [] []).av (Pst B0 B1 r d X):=by
 have hk:∀e,xr 0 (Pst B0 B1 (x::y::z::r) d X) (Pst B0 B1 r d X) e=some (e,Pst B0 B1 r d X):=fun e=>xg (by simp[Pst]) e
 have qs:rH 42 [.ptr 2 0,.slice 1 [.str wb1]] (Pst B0 B1 (x::y::z::r) d X) (.bool false) (Pst B0 B1 (x::y::z::r) d X):=by have h0:=bc7 B0 B1 bcx (by simp) (x::y::z::r) d X;rw[xk h1]at h0;exact h0
 have q2:=dq2 (B0:=B0) (B1:=B1) x (y::z::r) d X hA;have qb:=dj8 B0 B1 (x::y::z::r) d X;rw[show(x::y::z::r).drop 1=y::z::r from rfl,hB]at qb;have g2:=dm6 (B0:=B0) (B1:=B1) (x::y::z::r) d X;have qt:=dd9 (B0:=B0) (B1:=B1) x (y::z::r) d X hA;have qm:rH 69 [.ptr 2 0,.slice 1 [.str wb7,.str wb1]] (Pst B0 B1 (y::z::r) d X) (.tuple []) (Pst B0 B1 r d X):=by
  have h0:=c69 B0 B1 [b65,bcx] (by simp) (by simp) (y::z::r) d X;have hz:pk (z::r)=bcx:=by simp[pk,hE,hD]
  simp only[xm,if_pos hB,jf,dj,if_pos hz,bc,vz]at h0;exact h0
 have gz:((x::y::z::r).map Tok.av)[2]? = some (.agg [ii z.k,.str (bs z.t),ii (z.at':Int)]):=rfl;have hC1:(2:Int)<((x::y::z::r).length:Int):=by simp;omega
 rw[hD,hE]at gz;refine xh rfl ?_;simp only[It.av,xd];generalize x::y::z::r=L at *;generalize y::z::r=L1 at *;exact lf49
theorem dr8(he:Rc B0 B1 73 Nd.av none R.expr n):Rc B0 B1 238 It.av none (bkc R) n:=by
 intro L d X F;by_cases h1:pk L=bcx
 ·unfold bkc;rw[if_pos h1];have hk:∀e,xr 0 (Pst B0 B1 L d X) (Pst B0 B1 (L.drop 1) d X) e=some (e,Pst B0 B1 (L.drop 1) d X):=fun e=>xg (by simp[Pst]) e
  have qs:rH 42 [.ptr 2 0,.slice 1 [.str wb1]] (Pst B0 B1 L d X) (.bool true) (Pst B0 B1 (L.drop 1) d X):=by have h0:=bc7 B0 B1 bcx (by simp) L d X;rw[xx h1]at h0;exact h0
  simp only[bc,vz];refine xh rfl ?_;simp only[It.av,xd];exact lf49
 ·by_cases hA:bbr 2 L=true
  ·by_cases hB:pk (L.drop 1)=b65
   ·unfold bkc;rw[if_neg h1]
    match L,F,h1,hA,hB with
    | [],F,h1,hA,hB=>exact dr9 he _ d X F h1 hA hB (by simp)
    | [x],F,h1,hA,hB=>exact dr9 he _ d X F h1 hA hB (by simp)
    | [x,y],F,h1,hA,hB=>exact dr9 he _ d X F h1 hA hB (by simp)
    | x::y::z::r,F,h1,hA,hB=>
     have hk2:x.k=2:=by simpa[bbr] using hA
     dsimp only;by_cases hD:z.t=bcx
     ·by_cases hE:z.k=5
      ·rw[if_pos ⟨hk2,hB,hD,hE⟩];exact itemF x y z r d X h1 hk2 hB hD hE
      ·rw[if_neg (fun h=>hE h.2.2.2)];exact itemE he _ d X F h1 x y z r rfl hA hB hD hE
     ·rw[if_neg (fun h=>hD h.2.2.1)];exact itemD he _ d X F h1 x y z r rfl hA hB hD
   ·have hg:bkc R d L=((R.expr d L).bind fun e=>(bf2 e.2).bind fun a=>some (It.mk false [] [e.1] a.1,a.2)):=by
     unfold bkc;rw[if_neg h1];split
     ·rw[if_neg (fun h=>hB h.2.1)]
     ·rfl
    rw[hg];exact itemB he L d X F h1 hA hB
  ·have hg:bkc R d L=((R.expr d L).bind fun e=>(bf2 e.2).bind fun a=>some (It.mk false [] [e.1] a.1,a.2)):=by
    unfold bkc;rw[if_neg h1];split
    ·rw[if_neg (fun h=>hA (by simp[bbr,h.1]))]
    ·rfl
   rw[hg];exact itemA he L d X F h1 (by simpa using hA)
end Go.Av
namespace Go.Av
open Go Go.Proofs
variable{B0 B1:Bx}{R:Rd}{n:Nat}
def ckp:Bx:={cells:=[ii 0,.str ⟨#[]⟩,.str ⟨#[]⟩,.slice 13 [],.slice 6 [],.slice 7 []],own:=[(3,32),(4,140),(5,62)]}
def bg9:Bx:={cells:=[.str wb5,ii 4,.str c0d,ii 4,.str dc7,ii 5,.str ddv,ii 6,.str dkm,ii 7],map:=true}
def c4z(ow:List (Nat×Nat)):Prop:=ow=[]∨ow=[(3,32),(5,62)]∨ow=[(3,32)]
def bj8(B0 B1:Bx)(L:LT)(d:Int)(X:LB)(a:LA)(ow:List (Nat×Nat)):St:=
 {σ:=[(0,.v (.ptr 2 0)),(2,.l 2 0),(3,.l 3 0)],own:=[],loc:=[(2,ckp),(3,{cells:=a,own:=ow})],S:=Pst B0 B1 L d X}
theorem dgx(w:LU):b7q none [.str wb5,ii 4,.str c0d,ii 4,.str dc7,ii 5,.str ddv,ii 6,.str dkm,ii 7] (.str (bs w))=some (if bdt w=0 then none else some (ii (bdt w))):=by
 unfold bdt;by_cases h1:w=bcz
 ·subst h1;simp[b7q,bg4,bd1,zm]
 by_cases h2:w=bmr
 ·subst h2;simp[b7q,bg4,bd1,zm]
 by_cases h3:w=dds
 ·subst h3;simp[b7q,bg4,bd1,zm]
 by_cases h4:w=cpx
 ·subst h4;simp[b7q,bg4,bd1,zm]
 by_cases h5:w=ddt
 ·subst h5;simp[b7q,bg4,bd1,zm]
 simp[b7q,bg4,bd1,zm,h1,h2,h3,h4,h5]
theorem b30(L:LT)(d:Int)(X:LB)(h:¬ pk L=bgs):rH 42 [.ptr 2 0,.slice 1 [.str cs5,.str wb5]] (Pst B0 B1 L d X) (.bool false) (Pst B0 B1 L d X):=by
 have h0:=c42 B0 B1 bgs [bcz] (by simp) (by simp) L d X;rw[if_neg h]at h0;exact h0
theorem lf50{p:Prop}(h:p:=by simp[-getElem?_pos,rZa,-List.drop_one,-List.drop_drop,rZb,bfp,bj8,ckp,cq5,bg4, *]):p:=h
theorem cfv(hR:PR B0 B1 R n)(L:LT)(d:Int)(X:LB)(F:Fit (n+1) L d)(s:Sr)(ow:List (Nat×Nat))(how:c4z ow)(h:pk L=bgs) :
  match (xm [bgs,bcz] L).bind fun L1=>bc5 R d L1 with
  | some x=>∃ow',c4z ow'∧xf bbf bfp (bj8 B0 B1 L d X s.av.cells ow)=some (.normal,bj8 B0 B1 x.2 d X (Sr.mk 3 [] [] [] [s,x.1] []).av.cells ow')
  | none=>∃s' M d',xf bbf bfp (bj8 B0 B1 L d X s.av.cells ow)=some (.panic fv,s')∧s'.S=Pst B0 B1 M d' X:=by
 have q1:vz B0 B1 42 [.ptr 2 0,.slice 1 [.str cs5,.str wb5]] none L d X (if pk L=bgs then(xm [bgs,bcz] L).map fun M=>(.bool true,M) else some (.bool false,L)):=c42 B0 B1 bgs [bcz] (by simp) (by simp) L d X;rw[if_pos h]at q1;cases e1:xm [bgs,bcz] L with
 | none=>
  rw[e1]at q1;simp only[bm,bh,vz]at q1 ⊢;obtain⟨M,d',q1⟩:=q1;refine(bd8 ?_).imp fun s h=>⟨M,d',h⟩
  rw[xb];exact lf50
 | some L1=>
 rw[e1]at q1;simp only[bc,bb,vz]at q1 ⊢;have q2:=bxm hR L1 d X (F.sfx (xj e1));cases e2:bc5 R d L1 with
 | none=>
  rw[e2]at q2;simp only[bm,vz]at q2 ⊢;obtain⟨M,d',q2⟩:=q2;refine(bd8 ?_).imp fun s h=>⟨M,d',h⟩
  rw[xb];obtain⟨ops,names,ass,querys,inss,ons⟩:=s;simp only[Sr.av,AV.cells]at *;exact lf50
 | some x=>
  obtain⟨v,N⟩:=x;rw[e2]at q2;simp only[bc,vz]at q2 ⊢;refine⟨[(3,32),(5,62)],.inr (.inl rfl),?_⟩;rw[xb];obtain⟨ops,names,ass,querys,inss,ons⟩:=s;obtain⟨opv,m_,asv,u_,insv,onv⟩:=v;simp only[Sr.av,Nd.av,zt,xd,zb,AV.cells]at *;rcases how with rfl | rfl | rfl<;>simp[-getElem?_pos,rZa,-List.drop_one,-List.drop_drop,rZb,bfp,bj8,ckp,cq5,bg4,q1,q2]
theorem ctx(L:LT)(d:Int)(X:LB)(s:Sr)(ow:List (Nat×Nat))(h:¬ pk L=bgs)(h0:bdt (pk L)=0) :
  xf bbf bfp (bj8 B0 B1 L d X s.av.cells ow)=some (.ret,{σ:=[(2,.l 2 0)],own:=[],loc:=[(2,{cells:=s.av.cells})],S:=Pst B0 B1 L d (X++[bg9])}):=by
 have q1:=b30 (B0:=B0) (B1:=B1) L d X h;have qp:=c68 B0 B1 L d (X++[bg9]);have hm:=dgx (pk L);rw[if_pos h0]at hm;have hl:=bq7 B0 B1 L d X;have gA:=dv0 (B0:=B0) (B1:=B1) L d X;have gS:=dvz (B0:=B0) (B1:=B1) L d X;rw[xb];obtain⟨ops,names,ass,querys,inss,ons⟩:=s;simp only[Sr.av,Nd.av,zt,xd,zb,AV.cells,bd4,bg9]at *;exact lf50
theorem ckd(hR:PR B0 B1 R n)(L:LT)(d:Int)(X:LB)(F:Fit (n+1) L d)(s:Sr)(ow:List (Nat×Nat))(how:c4z ow)(h:¬ pk L=bgs)(h0:¬ bdt (pk L)=0)(hj:pk L=bcz) :
  match (xm [bcz] L).bind fun L2=>(bc5 R d L2).bind fun x=>(xm [won] x.2).bind fun L3=>(R.expr d L3).bind fun e=>some (Sr.mk (bdt (pk L)) [] [] [] [s,x.1] [e.1],e.2) with
  | some x=>∃ow',c4z ow'∧xf bbf bfp (bj8 B0 B1 L d X s.av.cells ow)=some (.normal,bj8 B0 B1 x.2 d (X++[bg9]) x.1.av.cells ow')
  | none=>∃s' M d',xf bbf bfp (bj8 B0 B1 L d X s.av.cells ow)=some (.panic fv,s')∧s'.S=Pst B0 B1 M d' (X++[bg9]):=by
 have q1:=b30 (B0:=B0) (B1:=B1) L d X h;have qp:=c68 B0 B1 L d (X++[bg9]);have hm:=dgx (pk L);rw[if_neg h0]at hm;have hl:=bq7 B0 B1 L d X;have gA:=dv0 (B0:=B0) (B1:=B1) L d X;have gS:=dvz (B0:=B0) (B1:=B1) L d X;generalize bdt (pk L)=k at *;rw[hj]at qp hm;have sj:L<:+L:=br L;have q2:vz B0 B1 69 [.ptr 2 0,.slice 1 [.str wb5]] none (L) d (X++[bg9]) ((xm [bcz] (L)).map fun M=>(.tuple [],M)):=brk B0 B1 bcz (by simp) (L) d (X++[bg9]);cases e2:xm [bcz] L with
 | none=>
  rw[e2]at q2;simp only[bm,bh,vz]at q2 ⊢;obtain⟨M,d',q2⟩:=q2;refine(bd8 ?_).imp fun s h=>⟨M,d',h⟩
  rw[xb];obtain⟨ops,names,ass,querys,inss,ons⟩:=s;simp only[Sr.av,Nd.av,zt,xd,zb,AV.cells,bd4,bg9]at *;exact lf50
 | some L2=>
 rw[e2]at q2;simp only[bc,bb,vz]at q2 ⊢;have s2:=(xj e2).trans sj;have q3:=bxm hR L2 d (X++[bg9]) (F.sfx s2);cases e3:bc5 R d L2 with
 | none=>
  rw[e3]at q3;simp only[bm,bh,vz]at q3 ⊢;obtain⟨M,d',q3⟩:=q3;refine(bd8 ?_).imp fun s h=>⟨M,d',h⟩
  rw[xb];obtain⟨ops,names,ass,querys,inss,ons⟩:=s;simp only[Sr.av,Nd.av,zt,xd,zb,AV.cells,bd4,bg9]at *;exact lf50
 | some x=>
 obtain⟨v,L3⟩:=x;rw[e3]at q3;simp only[bc,bb,vz]at q3 ⊢;have s3:L3<:+L:=bb9 hR.sfx d L2 L s2 _ e3;have q4:vz B0 B1 69 [.ptr 2 0,.slice 1 [.str cz9]] none (L3) d (X++[bg9]) ((xm [won] (L3)).map fun M=>(.tuple [],M)):=brk B0 B1 won (by simp) L3 d (X++[bg9]);cases e4:xm [won] L3 with
 | none=>
  rw[e4]at q4;simp only[bm,bh,vz]at q4 ⊢;obtain⟨M,d',q4⟩:=q4;refine(bd8 ?_).imp fun s h=>⟨M,d',h⟩
  rw[xb];obtain⟨ops,names,ass,querys,inss,ons⟩:=s;obtain⟨opv,m_,asv,u_,insv,onv⟩:=v;simp only[Sr.av,Nd.av,zt,xd,zb,AV.cells,bd4,bg9]at *;exact lf50
 | some L4=>
 rw[e4]at q4;simp only[bc,bb,vz]at q4 ⊢;have s4:=(xj e4).trans s3;have lt4:L4.length<L.length:=by have:=bf8 (by simp) e4;have:=s3.length_le;omega
 have q5:=hR.expr L4 d (X++[bg9]) (F.down s4 lt4);cases e5:R.expr d L4 with
 | none=>
  rw[e5]at q5;simp only[bm,bh,vz]at q5 ⊢;obtain⟨M,d',q5⟩:=q5;refine(bd8 ?_).imp fun s h=>⟨M,d',h⟩
  rw[xb];obtain⟨ops,names,ass,querys,inss,ons⟩:=s;obtain⟨opv,m_,asv,u_,insv,onv⟩:=v;simp only[Sr.av,Nd.av,zt,xd,zb,AV.cells,bd4,bg9]at *;exact lf50
 | some y=>
  obtain⟨w,N⟩:=y;rw[e5]at q5;simp only[bc,bb,vz]at q5 ⊢;refine⟨[(3,32)],.inr (.inr rfl),?_⟩;rw[xb];obtain⟨ops,names,ass,querys,inss,ons⟩:=s;obtain⟨opv,m_,asv,u_,insv,onv⟩:=v;obtain⟨opw,textw,numw,now,disw,argsw,queryw⟩:=w;simp only[Sr.av,Nd.av,zt,xd,zb,AV.cells,bd4,bg9]at *;rcases how with rfl | rfl | rfl<;>(simp[-getElem?_pos,rZa,-List.drop_one,-List.drop_drop,rZb,bfp,bj8,ckp,cq5,bg4,q1,qp,hm,hl,gA,gS,h0,hj,q2,q3,q4,q5];rfl)
theorem cft(hR:PR B0 B1 R n)(L:LT)(d:Int)(X:LB)(F:Fit (n+1) L d)(s:Sr)(ow:List (Nat×Nat))(how:c4z ow)(h:¬ pk L=bgs)(h0:¬ bdt (pk L)=0)(hj:pk L=bmr) :
  match (xm [bcz] (L.drop 1)).bind fun L2=>(bc5 R d L2).bind fun x=>(xm [won] x.2).bind fun L3=>(R.expr d L3).bind fun e=>some (Sr.mk (bdt (pk L)) [] [] [] [s,x.1] [e.1],e.2) with
  | some x=>∃ow',c4z ow'∧xf bbf bfp (bj8 B0 B1 L d X s.av.cells ow)=some (.normal,bj8 B0 B1 x.2 d (X++[bg9]) x.1.av.cells ow')
  | none=>∃s' M d',xf bbf bfp (bj8 B0 B1 L d X s.av.cells ow)=some (.panic fv,s')∧s'.S=Pst B0 B1 M d' (X++[bg9]):=by
 have q1:=b30 (B0:=B0) (B1:=B1) L d X h;have qp:=c68 B0 B1 L d (X++[bg9]);have hm:=dgx (pk L);rw[if_neg h0]at hm;have hl:=bq7 B0 B1 L d X;have gA:=dv0 (B0:=B0) (B1:=B1) L d X;have gS:=dvz (B0:=B0) (B1:=B1) L d X;generalize bdt (pk L)=k at *;rw[hj]at qp hm;have qm:rH 69 [.ptr 2 0,.slice 1 [.str (bs bmr)]] (Pst B0 B1 L d (X++[bg9])) (.tuple []) (Pst B0 B1 (L.drop 1) d (X++[bg9])):=by have h0:=brk B0 B1 bmr (by simp) L d (X++[bg9]);simp only[xm,if_pos hj,bc,vz]at h0;exact h0
 have sj:(L.drop 1)<:+L:=xp L;have q2:vz B0 B1 69 [.ptr 2 0,.slice 1 [.str wb5]] none ((L.drop 1)) d (X++[bg9]) ((xm [bcz] ((L.drop 1))).map fun M=>(.tuple [],M)):=brk B0 B1 bcz (by simp) ((L.drop 1)) d (X++[bg9]);generalize (L.drop 1)=Lj at *;cases e2:xm [bcz] Lj with
 | none=>
  rw[e2]at q2;simp only[bm,bh,vz]at q2 ⊢;obtain⟨M,d',q2⟩:=q2;refine(bd8 ?_).imp fun s h=>⟨M,d',h⟩
  rw[xb];obtain⟨ops,names,ass,querys,inss,ons⟩:=s;simp only[Sr.av,Nd.av,zt,xd,zb,AV.cells,bd4,bg9]at *;exact lf50
 | some L2=>
 rw[e2]at q2;simp only[bc,bb,vz]at q2 ⊢;have s2:=(xj e2).trans sj;have q3:=bxm hR L2 d (X++[bg9]) (F.sfx s2);cases e3:bc5 R d L2 with
 | none=>
  rw[e3]at q3;simp only[bm,bh,vz]at q3 ⊢;obtain⟨M,d',q3⟩:=q3;refine(bd8 ?_).imp fun s h=>⟨M,d',h⟩
  rw[xb];obtain⟨ops,names,ass,querys,inss,ons⟩:=s;simp only[Sr.av,Nd.av,zt,xd,zb,AV.cells,bd4,bg9]at *;exact lf50
 | some x=>
 obtain⟨v,L3⟩:=x;rw[e3]at q3;simp only[bc,bb,vz]at q3 ⊢;have s3:L3<:+L:=bb9 hR.sfx d L2 L s2 _ e3;have q4:vz B0 B1 69 [.ptr 2 0,.slice 1 [.str cz9]] none (L3) d (X++[bg9]) ((xm [won] (L3)).map fun M=>(.tuple [],M)):=brk B0 B1 won (by simp) L3 d (X++[bg9]);cases e4:xm [won] L3 with
 | none=>
  rw[e4]at q4;simp only[bm,bh,vz]at q4 ⊢;obtain⟨M,d',q4⟩:=q4;refine(bd8 ?_).imp fun s h=>⟨M,d',h⟩
  rw[xb];obtain⟨ops,names,ass,querys,inss,ons⟩:=s;obtain⟨opv,m_,asv,u_,insv,onv⟩:=v;simp only[Sr.av,Nd.av,zt,xd,zb,AV.cells,bd4,bg9]at *;exact lf50
 | some L4=>
 rw[e4]at q4;simp only[bc,bb,vz]at q4 ⊢;have s4:=(xj e4).trans s3;have lt4:L4.length<L.length:=by have:=bf8 (by simp) e4;have:=s3.length_le;omega
 have q5:=hR.expr L4 d (X++[bg9]) (F.down s4 lt4);cases e5:R.expr d L4 with
 | none=>
  rw[e5]at q5;simp only[bm,bh,vz]at q5 ⊢;obtain⟨M,d',q5⟩:=q5;refine(bd8 ?_).imp fun s h=>⟨M,d',h⟩
  rw[xb];obtain⟨ops,names,ass,querys,inss,ons⟩:=s;obtain⟨opv,m_,asv,u_,insv,onv⟩:=v;simp only[Sr.av,Nd.av,zt,xd,zb,AV.cells,bd4,bg9]at *;exact lf50
 | some y=>
  obtain⟨w,N⟩:=y;rw[e5]at q5;simp only[bc,bb,vz]at q5 ⊢;refine⟨[(3,32)],.inr (.inr rfl),?_⟩;rw[xb];obtain⟨ops,names,ass,querys,inss,ons⟩:=s;obtain⟨opv,m_,asv,u_,insv,onv⟩:=v;obtain⟨opw,textw,numw,now,disw,argsw,queryw⟩:=w;simp only[Sr.av,Nd.av,zt,xd,zb,AV.cells,bd4,bg9]at *;rcases how with rfl | rfl | rfl<;>(simp[-getElem?_pos,rZa,-List.drop_one,-List.drop_drop,rZb,bfp,bj8,ckp,cq5,bg4,q1,qp,hm,hl,gA,gS,h0,hj,qm,q2,q3,q4,q5];rfl)
theorem ckc(hR:PR B0 B1 R n)(L:LT)(d:Int)(X:LB)(F:Fit (n+1) L d)(s:Sr)(ow:List (Nat×Nat))(how:c4z ow)(h:¬ pk L=bgs)(h0:¬ bdt (pk L)=0)(hne0:pk L≠[])(hj1:¬ pk L=bcz)(hj2:¬ pk L=bmr) :
  match (xm [bcz] (isG bc3 (L.drop 1)).2).bind fun L2=>(bc5 R d L2).bind fun x=>(xm [won] x.2).bind fun L3=>(R.expr d L3).bind fun e=>some (Sr.mk (bdt (pk L)) [] [] [] [s,x.1] [e.1],e.2) with
  | some x=>∃ow',c4z ow'∧xf bbf bfp (bj8 B0 B1 L d X s.av.cells ow)=some (.normal,bj8 B0 B1 x.2 d (X++[bg9]) x.1.av.cells ow')
  | none=>∃s' M d',xf bbf bfp (bj8 B0 B1 L d X s.av.cells ow)=some (.panic fv,s')∧s'.S=Pst B0 B1 M d' (X++[bg9]):=by
 have q1:=b30 (B0:=B0) (B1:=B1) L d X h;have qp:=c68 B0 B1 L d (X++[bg9]);have hm:=dgx (pk L);rw[if_neg h0]at hm;have hl:=bq7 B0 B1 L d X;have gA:=dv0 (B0:=B0) (B1:=B1) L d X;have gS:=dvz (B0:=B0) (B1:=B1) L d X;generalize bdt (pk L)=k at *;have hne:pk L≠[]:=hne0;have qm:rH 69 [.ptr 2 0,.slice 1 [.str (bs (pk L))]] (Pst B0 B1 L d (X++[bg9])) (.tuple []) (Pst B0 B1 (L.drop 1) d (X++[bg9])):=by have h0:=brk B0 B1 (pk L) hne L d (X++[bg9]);simp only[xm,if_true,bc,vz]at h0;exact h0
 have qo:rH 42 [.ptr 2 0,.slice 1 [.str ddx]] (Pst B0 B1 (L.drop 1) d (X++[bg9])) (.bool (isG bc3 (L.drop 1)).1) (Pst B0 B1 (isG bc3 (L.drop 1)).2 d (X++[bg9])):=bc7 B0 B1 bc3 (by simp) (L.drop 1) d (X++[bg9]);have sj:(isG bc3 (L.drop 1)).2<:+L:=(bb5 _ _).trans (xp L);have q2:vz B0 B1 69 [.ptr 2 0,.slice 1 [.str wb5]] none ((isG bc3 (L.drop 1)).2) d (X++[bg9]) ((xm [bcz] ((isG bc3 (L.drop 1)).2)).map fun M=>(.tuple [],M)):=brk B0 B1 bcz (by simp) ((isG bc3 (L.drop 1)).2) d (X++[bg9]);generalize (isG bc3 (L.drop 1)).2=Lj at *;cases e2:xm [bcz] Lj with
 | none=>
  rw[e2]at q2;simp only[bm,bh,vz]at q2 ⊢;obtain⟨M,d',q2⟩:=q2;refine(bd8 ?_).imp fun s h=>⟨M,d',h⟩
  rw[xb];obtain⟨ops,names,ass,querys,inss,ons⟩:=s;simp only[Sr.av,Nd.av,zt,xd,zb,AV.cells,bd4,bg9]at *;exact lf50
 | some L2=>
 rw[e2]at q2;simp only[bc,bb,vz]at q2 ⊢;have s2:=(xj e2).trans sj;have q3:=bxm hR L2 d (X++[bg9]) (F.sfx s2);cases e3:bc5 R d L2 with
 | none=>
  rw[e3]at q3;simp only[bm,bh,vz]at q3 ⊢;obtain⟨M,d',q3⟩:=q3;refine(bd8 ?_).imp fun s h=>⟨M,d',h⟩
  rw[xb];obtain⟨ops,names,ass,querys,inss,ons⟩:=s;simp only[Sr.av,Nd.av,zt,xd,zb,AV.cells,bd4,bg9]at *;exact lf50
 | some x=>
 obtain⟨v,L3⟩:=x;rw[e3]at q3;simp only[bc,bb,vz]at q3 ⊢;have s3:L3<:+L:=bb9 hR.sfx d L2 L s2 _ e3;have q4:vz B0 B1 69 [.ptr 2 0,.slice 1 [.str cz9]] none (L3) d (X++[bg9]) ((xm [won] (L3)).map fun M=>(.tuple [],M)):=brk B0 B1 won (by simp) L3 d (X++[bg9]);cases e4:xm [won] L3 with
 | none=>
  rw[e4]at q4;simp only[bm,bh,vz]at q4 ⊢;obtain⟨M,d',q4⟩:=q4;refine(bd8 ?_).imp fun s h=>⟨M,d',h⟩
  rw[xb];obtain⟨ops,names,ass,querys,inss,ons⟩:=s;obtain⟨opv,m_,asv,u_,insv,onv⟩:=v;simp only[Sr.av,Nd.av,zt,xd,zb,AV.cells,bd4,bg9]at *;exact lf50
 | some L4=>
 rw[e4]at q4;simp only[bc,bb,vz]at q4 ⊢;have s4:=(xj e4).trans s3;have lt4:L4.length<L.length:=by have:=bf8 (by simp) e4;have:=s3.length_le;omega
 have q5:=hR.expr L4 d (X++[bg9]) (F.down s4 lt4);cases e5:R.expr d L4 with
 | none=>
  rw[e5]at q5;simp only[bm,bh,vz]at q5 ⊢;obtain⟨M,d',q5⟩:=q5;refine(bd8 ?_).imp fun s h=>⟨M,d',h⟩
  rw[xb];obtain⟨ops,names,ass,querys,inss,ons⟩:=s;obtain⟨opv,m_,asv,u_,insv,onv⟩:=v;simp only[Sr.av,Nd.av,zt,xd,zb,AV.cells,bd4,bg9]at *;exact lf50
 | some y=>
  obtain⟨w,N⟩:=y;rw[e5]at q5;simp only[bc,bb,vz]at q5 ⊢;refine⟨[(3,32)],.inr (.inr rfl),?_⟩;rw[xb];obtain⟨ops,names,ass,querys,inss,ons⟩:=s;obtain⟨opv,m_,asv,u_,insv,onv⟩:=v;obtain⟨opw,textw,numw,now,disw,argsw,queryw⟩:=w;simp only[Sr.av,Nd.av,zt,xd,zb,AV.cells,bd4,bg9]at *;rcases how with rfl | rfl | rfl<;>(simp[-getElem?_pos,rZa,-List.drop_one,-List.drop_drop,rZb,bfp,bj8,ckp,cq5,bg4,q1,qp,hm,hl,gA,gS,h0,hj1,hj2,qm,qo,q2,q3,q4,q5];rfl)
end Go.Av
namespace Go.Av
open Go Go.Proofs
variable{B0 B1:Bx}{R:Rd}{n:Nat}
theorem cfs(hR:PR B0 B1 R n)(L:LT)(d:Int)(X:LB)(F:Fit (n+1) L d)(s:Sr)(ow:List (Nat×Nat))(how:c4z ow)(h:¬ pk L=bgs)(h0:¬ bdt (pk L)=0) :
  match (xm [bcz] (if pk L=bcz then L else if pk L=bmr then L.drop 1 else(isG bc3 (L.drop 1)).2)).bind fun L2=>(bc5 R d L2).bind fun x=>(xm [won] x.2).bind fun L3=>(R.expr d L3).bind fun e=>some (Sr.mk (bdt (pk L)) [] [] [] [s,x.1] [e.1],e.2) with
  | some x=>∃ow',c4z ow'∧xf bbf bfp (bj8 B0 B1 L d X s.av.cells ow)=some (.normal,bj8 B0 B1 x.2 d (X++[bg9]) x.1.av.cells ow')
  | none=>∃s' M d',xf bbf bfp (bj8 B0 B1 L d X s.av.cells ow)=some (.panic fv,s')∧s'.S=Pst B0 B1 M d' (X++[bg9]):=by
 by_cases h1:pk L=bcz
 ·rw[if_pos h1];exact ckd hR L d X F s ow how h h0 h1
 ·rw[if_neg h1];by_cases h2:pk L=bmr
  ·rw[if_pos h2];exact cft hR L d X F s ow how h h0 h2
  ·rw[if_neg h2];exact ckc hR L d X F s ow how h h0 (by intro e;rw[e]at h0;exact h0 rfl) h1 h2
theorem ckb(hR:PR B0 B1 R n)(d:Int)(L0:LT):∀(f:Nat) (s:Sr) (ow:List (Nat×Nat)) (L:LT) (X:LB),c4z ow→Fit (n+1) L d→L.length<f →
  match bbq R d f s L with
  | some (v,N)=>∃Z,zc (xf bbf bfp) (bj8 B0 B1 L d X s.av.cells ow)=some (.ret,{σ:=[(2,.l 2 0)],own:=[],loc:=[(2,{cells:=v.av.cells})],S:=Pst B0 B1 N d (X++Z)})
  | none=>∃s' M d' Z,zc (xf bbf bfp) (bj8 B0 B1 L d X s.av.cells ow)=some (.panic fv,s')∧s'.S=Pst B0 B1 M d' (X++Z):=by
 intro f
 induction f with
 | zero=>intro s ow L X _ _ h;omega
 | succ f ih=>
  intro s ow L X how F hf;by_cases h:pk L=bgs
  ·have st:=cfv hR L d X F s ow how h;have e0:bbq R d (f+1) s L=((xm [bgs,bcz] L).bind fun L1=>bc5 R d L1).bind fun x=>bbq R d f (Sr.mk 3 [] [] [] [s,x.1] []) x.2:=by
    simp only[bbq,if_pos h];cases xm [bgs,bcz] L<;>rfl
   rw[e0];cases e1:(xm [bgs,bcz] L).bind fun L1=>bc5 R d L1 with
   | none=>
    rw[e1]at st;obtain⟨s',M,d',g1,g2⟩:=st;exact⟨s',M,d',[],xc g1 (by simp),by rw[mb];exact g2⟩
   | some x=>
    rw[e1]at st;obtain⟨ow',how',g1⟩:=st;obtain⟨L1,a1,a2⟩:=bg.1 e1;have t1:=xj a1;have l1:=bf8 (by simp) a1;have t2:=bb9 hR.sfx d L1 L1 (br _) _ a2;have:=t2.length_le;simp only[bb];rw[xq g1];exact ih _ ow' x.2 X how' (F.sfx (t2.trans t1)) (by omega)
  ·by_cases h0:bdt (pk L)=0
   ·simp only[bbq,if_neg h,if_pos h0];exact⟨[bg9],xc (ctx L d X s ow h h0) (by simp)⟩
   ·have st:=cfs hR L d X F s ow how h h0;generalize hL1:(if pk L=bcz then L else if pk L=bmr then L.drop 1 else(isG bc3 (L.drop 1)).2)=L1 at st;have t0:L1<:+L:=by
     rw[← hL1];split
     ·exact br _
     ·split
      ·exact xp L
      ·exact(bb5 _ _).trans (xp L)
    have e0:bbq R d (f+1) s L=((xm [bcz] L1).bind fun L2=>(bc5 R d L2).bind fun x=>(xm [won] x.2).bind fun L3=>(R.expr d L3).bind fun e=>some (Sr.mk (bdt (pk L)) [] [] [] [s,x.1] [e.1],e.2)).bind fun x=>bbq R d f x.1 x.2:=by
     simp only[bbq,if_neg h,if_neg h0,hL1];cases xm [bcz] L1 with
     | none=>rfl
     | some L2=>
      simp only[bb];cases bc5 R d L2 with
      | none=>rfl
      | some x=>
       simp only[bb];cases xm [won] x.2 with
       | none=>rfl
       | some L3=>
        simp only[bb];cases R.expr d L3<;>rfl
    rw[e0];cases e1:(xm [bcz] L1).bind fun L2=>(bc5 R d L2).bind fun x=>(xm [won] x.2).bind fun L3=>(R.expr d L3).bind fun e=>some (Sr.mk (bdt (pk L)) [] [] [] [s,x.1] [e.1],e.2) with
    | none=>
     rw[e1]at st;obtain⟨s',M,d',g1,g2⟩:=st;exact⟨s',M,d',[bg9],xc g1 (by simp),g2⟩
    | some x=>
     rw[e1]at st;obtain⟨ow',how',g1⟩:=st;obtain⟨L2,a1,e1⟩:=bg.1 e1;obtain⟨y,a2,e1⟩:=bg.1 e1;obtain⟨L3,a3,e1⟩:=bg.1 e1;obtain⟨z,a4,e1⟩:=bg.1 e1;obtain rfl:=bf e1;have l1:=bf8 (by simp) a1;have t1:=xj a1;have t2:=bb9 hR.sfx d L2 L2 (br _) _ a2;have t3:=xj a3;have t4:=hR.sfx.expr d L3 L3 (br _) _ a4;have t:=(((t4.trans t3).trans t2).trans t1).trans t0;have:=(((t4.trans t3).trans t2)).length_le;have:=t0.length_le;simp only[bb];rw[xq g1];have hi:=ih (Sr.mk (bdt (pk L)) [] [] [] [s,y.1] [z.1]) ow' z.2 (X++[bg9]) how' (F.sfx t) (by dsimp only at *;omega);dsimp only;cases e5:bbq R d f (Sr.mk (bdt (pk L)) [] [] [] [s,y.1] [z.1]) z.2 with
     | none=>
      rw[e5]at hi;obtain⟨s',M,d',Z,g1,g2⟩:=hi;exact⟨s',M,d',[bg9]++Z,g1,by rw[← gq];exact g2⟩
     | some w=>
      rw[e5]at hi;obtain⟨Z,g1⟩:=hi;exact⟨[bg9]++Z,by rw[← gq];exact g1⟩
theorem lf51{p:Prop}(h:p:=by simp[-getElem?_pos,rZa,-List.drop_one,-List.drop_drop,rZb,a240, *]):p:=h
theorem c2t(hR:PR B0 B1 R n):Rc B0 B1 240 Sr.av none (bgk R) (n+1):=by
 intro L d X F;have q1:=bxm hR L d X F;unfold bgk;cases e1:bc5 R d L with
 | none=>
  rw[e1]at q1;simp only[bm,bh,vz]at q1 ⊢;obtain⟨M,d',q1⟩:=q1;refine⟨M,d',xh rfl ?_⟩;have hk:∀e,xr 0 (Pst B0 B1 L d X) (Pst B0 B1 M d' X) e=some (e,Pst B0 B1 M d' X):=fun e=>xg (by simp[Pst]) e
  exact lf51
 | some x=>
  obtain⟨v,L1⟩:=x;rw[e1]at q1;have t1:L1<:+L:=bb9 hR.sfx d L L (br _) _ e1;have hl:=ckb (B0:=B0) (B1:=B1) hR d L (L1.length+1) v [] L1 X (.inl rfl) (F.sfx t1) (by omega);simp only[bc,bb,vz]at q1 ⊢;simp only[bj8,ckp]at hl;cases e2:bbq R d (L1.length+1) v L1 with
  | none=>
   rw[e2]at hl;obtain⟨s',M,d',Z,hl,hS⟩:=hl;simp only[bm,vz];refine⟨M,d',xh rfl ?_⟩;have hk:xr 0 (Pst B0 B1 L d X) s'.S (.panic fv)=some (.panic fv,Pst B0 B1 M d' X):=by rw[hS];exact ccc L M d d' X Z _ (by simp[AEnd.closed,AV.closed,zd,fv])
   obtain⟨opv,m_,asv,u_,insv,onv⟩:=v;simp only[Sr.av,AV.cells]at *;simp[-getElem?_pos,rZa,-List.drop_one,-List.drop_drop,rZb,a240,q1,hl,hk]
  | some y=>
   obtain⟨w,N⟩:=y;rw[e2]at hl;obtain⟨Z,hl⟩:=hl;simp only[bc,vz];refine xh rfl ?_;have hk:∀e,e.closed (X.length+4)=true→xr 0 (Pst B0 B1 L d X) (Pst B0 B1 N d (X++Z)) e=some (e,Pst B0 B1 N d X):=fun e he=>ccc L N d d X Z e he
   have hcl:=hk (.ret w.av none) (Sr.closed _ w);obtain⟨opv,m_,asv,u_,insv,onv⟩:=v;obtain⟨opw,namew,asw,queryw,insw,onw⟩:=w;simp only[Sr.av,AV.cells]at *;exact lf51
theorem lsNd(he:Rc B0 B1 73 Nd.av none R.expr n)(sR:R.Sfx){L:LT}{d:Int}(X:LB)(F:Fit n L d):vz B0 B1 77 [.ptr 2 0,.clos (.func 73) [.ptr 2 0] []] (some 62) L d X ((bbc R.expr d L).map fun x=>(.slice 7 (xd x.1),x.2)):=by
 have h:=c77 B0 B1 73 [.ptr 2 0] [] d X L F.l9 R.expr sR.expr (fun M hM=>he M d X (F.sfx hM));simp only[← bhp]at h;exact h
theorem lsIt(he:Rc B0 B1 73 Nd.av none R.expr n)(sR:R.Sfx){L:LT}{d:Int}(X:LB)(F:Fit n L d):vz B0 B1 237 [.ptr 2 0,.clos (.func 238) [.ptr 2 0] []] (some 59) L d X ((bbc (bkc R) d L).map fun x=>(.slice 4 (bbg x.1),x.2)):=by
 have h:=c237 B0 B1 238 [.ptr 2 0] [] d X L F.l9 (bkc R) (bk5 sR) (fun M hM=>dr8 he M d X (F.sfx hM));simp only[← bpz]at h;exact h
theorem lsSr(hR:PR B0 B1 R n){L:LT}{d:Int}(X:LB)(F:Fit (n+1) L d):vz B0 B1 239 [.ptr 2 0,.clos (.func 240) [.ptr 2 0] []] (some 140) L d X ((bbc (bgk R) d L).map fun x=>(.slice 6 (zt x.1),x.2)):=by
 have h:=c239 B0 B1 240 [.ptr 2 0] [] d X L F.l9 (bgk R) (bh0 hR.sfx) (fun M hM=>c2t hR M d X (F.sfx hM));simp only[← bpp]at h;exact h
theorem isBy(L:LT)(d:Int)(X:LB)(w:LU)(hw:w≠[])(h:¬ pk L=w):rH 42 [.ptr 2 0,.slice 1 [.str (bs w),.str b4j]] (Pst B0 B1 L d X) (.bool false) (Pst B0 B1 L d X):=by
 have h0:=c42 B0 B1 w [wby] (by simp) (by simpa using hw) L d X;rw[if_neg h]at h0;exact h0
theorem c8k(L:LT)(d:Int)(X:LB)(w:LU)(hw:w≠[])(h:pk L=w):vz B0 B1 42 [.ptr 2 0,.slice 1 [.str (bs w),.str b4j]] none L d X ((xm [wby] (L.drop 1)).map fun M=>(.bool true,M)):=by
 have h0:=c42 B0 B1 w [wby] (by simp) (by simpa using hw) L d X;rw[if_pos h]at h0;have e:xm [w,wby] L=xm [wby] (L.drop 1):=by simp only[xm,if_pos h]
 rw[e]at h0;exact h0
theorem lf52{p:Prop}(h:p:=by (try simp only[rZc,rZd]at *);simp[-getElem?_pos,rZa,-List.drop_one,-List.drop_drop,rZb,a211, *]):p:=h
theorem ckm(hR:PR B0 B1 R n):Rc B0 B1 211 Bd.av none (bjk R) (n+1):=by
 intro L d X F;have hk:=hkP B0 B1 L d X;simp only[bjk,bj0,one,byG];have qm:vz B0 B1 69 [.ptr 2 0,.slice 1 [.str cp0]] none (L) d X ((xm [bft] (L)).map fun M=>(.tuple [],M)):=c69 B0 B1 [bft] (by simp) (by simp) (L) d X;cases em:xm [bft] (L) with
 | none=>
  rw[em]at qm;simp only[bm,bh,vz]at qm ⊢;obtain⟨M,d',qm⟩:=qm;refine⟨M,d',xh rfl ?_⟩;replace hk:=hk M d';exact lf52
 | some x_em=>
  rw[em]at qm;simp only[bc,vz]at qm;try simp only[bb]
  have s0:=xj em;have l0:=bf8 (by simp) em;have F0:Fit n x_em d:=F.down s0 l0;have qd:rH 42 [.ptr 2 0,.slice 1 [.str cj0]] (Pst B0 B1 (x_em) d X) (.bool (isG zx (x_em)).1) (Pst B0 B1 (isG zx (x_em)).2 d X):=bc7 B0 B1 zx (by simp) (x_em) d X;have sI:=bb5 zx x_em;generalize isG zx x_em=I at *;obtain⟨dis,L0⟩:=I;try dsimp only at *
  have t0:=sI.trans s0;have F1:=F0.sfx sI;have q0:=lsIt hR.expr hR.sfx X F1;cases e0:bbc (bkc R) d L0 with
  | none=>
   rw[e0]at q0;simp only[bm,bh,vz]at q0 ⊢;obtain⟨M,d',q0⟩:=q0;refine⟨M,d',xh rfl ?_⟩;replace hk:=hk M d';exact lf52
  | some x_e0=>
   obtain⟨v0,L1⟩:=x_e0;rw[e0]at q0;simp only[bc,vz]at q0;try simp only[bb]
   have sA:L1<:+L:=(bk5 hR.sfx).list d L0 L t0 _ e0;have FA:Fit n L1 d:=F1.sfx ((bk5 hR.sfx).list d L0 L0 (br _) _ e0);have lA:=FA.len;have lB:L1.length<L.length:=by have h2:=((bk5 hR.sfx).list d L0 L0 (br _) _ e0).length_le;have h3:=sI.length_le;dsimp only at *;omega
   try simp only[bb]
   by_cases h1:pk L1=btm
   ·rw[if_pos h1];have iq1:rH 42 [.ptr 2 0,.slice 1 [.str c0f]] (Pst B0 B1 (L1) d X) (.bool true) (Pst B0 B1 ((L1).drop 1) d X):=by have h0:=bc7 B0 B1 btm (by simp) (L1) d X;rw[xx h1]at h0;exact h0
    have q1:=lsSr hR X (F.sfx ((xp L1).trans sA));cases e1:bbc (bgk R) d (L1.drop 1) with
    | none=>
     rw[e1]at q1;simp only[bm,bh,vz]at q1 ⊢;obtain⟨M,d',q1⟩:=q1;refine⟨M,d',xh rfl ?_⟩;replace hk:=hk M d';exact lf52
    | some x_e1=>
     obtain⟨v1,N1⟩:=x_e1;rw[e1]at q1;simp only[bc,vz]at q1;try simp only[bb]
     have s1:N1<:+L:=(bh0 hR.sfx).list d (L1.drop 1) L ((xp L1).trans sA) _ e1;have l1:=(((bh0 hR.sfx).list d (L1.drop 1) (L1.drop 1) (br _) _ e1).trans (xp L1)).length_le;have F1:Fit n N1 d:=F.down s1 (by dsimp only at *;omega);try simp only[bb]
     by_cases h2:pk N1=bq9
     ·rw[if_pos h2];have iq2:rH 42 [.ptr 2 0,.slice 1 [.str ddz]] (Pst B0 B1 (N1) d X) (.bool true) (Pst B0 B1 ((N1).drop 1) d X):=by have h0:=bc7 B0 B1 bq9 (by simp) (N1) d X;rw[xx h2]at h0;exact h0
      have q2:=hR.expr (N1.drop 1) d X (F1.sfx (xp N1));cases e2:R.expr d (N1.drop 1) with
      | none=>
       rw[e2]at q2;simp only[bm,bh,vz]at q2 ⊢;obtain⟨M,d',q2⟩:=q2;refine⟨M,d',xh rfl ?_⟩;replace hk:=hk M d';exact lf52
      | some x_e2=>
       obtain⟨v2,N2⟩:=x_e2;rw[e2]at q2;simp only[bc,vz]at q2;try simp only[bb]
       have s2:N2<:+L:=hR.sfx.expr d (N1.drop 1) L ((xp N1).trans s1) _ e2;have F2:Fit n N2 d:=F1.sfx (hR.sfx.expr d (N1.drop 1) N1 (xp N1) _ e2);try simp only[bb]
       by_cases h3:pk N2=bg6
       ·rw[if_pos h3];have iq3:vz B0 B1 42 [.ptr 2 0,.slice 1 [.str cpz,.str b4j]] none (N2) d X ((xm [wby] ((N2).drop 1)).map fun M=>(.bool true,M)):=c8k (N2) d X bg6 (by simp) h3;cases be3:xm [wby] (N2.drop 1) with
        | none=>
         rw[be3]at iq3;simp only[bm,bh,vz]at iq3 ⊢;obtain⟨M,d',iq3⟩:=iq3;refine⟨M,d',xh rfl ?_⟩;replace hk:=hk M d';obtain⟨opv2,t_2,n_2,nov2,d_2,a_2,u_2⟩:=v2;exact lf52
        | some x_be3=>
         rw[be3]at iq3;simp only[bc,vz]at iq3;try simp only[bb]
         have t3:=(xj be3).trans (xp N2);have q3:=lsNd hR.expr hR.sfx X (F2.sfx t3);cases e3:bbc R.expr d x_be3 with
         | none=>
          rw[e3]at q3;simp only[bm,bh,vz]at q3 ⊢;obtain⟨M,d',q3⟩:=q3;refine⟨M,d',xh rfl ?_⟩;replace hk:=hk M d';obtain⟨opv2,t_2,n_2,nov2,d_2,a_2,u_2⟩:=v2;exact lf52
         | some x_e3=>
          obtain⟨v3,N3⟩:=x_e3;rw[e3]at q3;simp only[bc,vz]at q3;try simp only[bb]
          have F3:Fit n N3 d:=F2.sfx (hR.sfx.expr.list d x_be3 N2 t3 _ e3);have s3:N3<:+L:=hR.sfx.expr.list d x_be3 L (t3.trans s2) _ e3;try simp only[bb]
          by_cases h4:pk N3=bb8
          ·rw[if_pos h4];have iq4:rH 42 [.ptr 2 0,.slice 1 [.str b68]] (Pst B0 B1 (N3) d X) (.bool true) (Pst B0 B1 ((N3).drop 1) d X):=by have h0:=bc7 B0 B1 bb8 (by simp) (N3) d X;rw[xx h4]at h0;exact h0
           have q4:=hR.expr (N3.drop 1) d X (F3.sfx (xp N3));cases e4:R.expr d (N3.drop 1) with
           | none=>
            rw[e4]at q4;simp only[bm,bh,vz]at q4 ⊢;obtain⟨M,d',q4⟩:=q4;refine⟨M,d',xh rfl ?_⟩;replace hk:=hk M d';obtain⟨opv2,t_2,n_2,nov2,d_2,a_2,u_2⟩:=v2;exact lf52
           | some x_e4=>
            obtain⟨v4,N4⟩:=x_e4;rw[e4]at q4;simp only[bc,vz]at q4;try simp only[bb]
            have s4:N4<:+L:=hR.sfx.expr d (N3.drop 1) L ((xp N3).trans s3) _ e4;have F4:Fit n N4 d:=F3.sfx (hR.sfx.expr d (N3.drop 1) N3 (xp N3) _ e4);try simp only[bb]
            try simp only[bc,vz]
            refine xh rfl ?_;replace hk:=hk N4 d;obtain⟨opv2,t_2,n_2,nov2,d_2,a_2,u_2⟩:=v2;obtain⟨opv4,t_4,n_4,nov4,d_4,a_4,u_4⟩:=v4;exact lf52
          ·rw[if_neg h4];have iq4:rH 42 [.ptr 2 0,.slice 1 [.str b68]] (Pst B0 B1 (N3) d X) (.bool false) (Pst B0 B1 (N3) d X):=by have h0:=bc7 B0 B1 bb8 (by simp) (N3) d X;rw[xk h4]at h0;exact h0
           try simp only[bb]
           try simp only[bc,vz]
           refine xh rfl ?_;replace hk:=hk N3 d;obtain⟨opv2,t_2,n_2,nov2,d_2,a_2,u_2⟩:=v2;exact lf52
       ·rw[if_neg h3];have iq3:rH 42 [.ptr 2 0,.slice 1 [.str cpz,.str b4j]] (Pst B0 B1 (N2) d X) (.bool false) (Pst B0 B1 (N2) d X):=isBy (N2) d X bg6 (by simp) h3;try simp only[bb]
        by_cases h5:pk N2=bb8
        ·rw[if_pos h5];have iq5:rH 42 [.ptr 2 0,.slice 1 [.str b68]] (Pst B0 B1 (N2) d X) (.bool true) (Pst B0 B1 ((N2).drop 1) d X):=by have h0:=bc7 B0 B1 bb8 (by simp) (N2) d X;rw[xx h5]at h0;exact h0
         have q5:=hR.expr (N2.drop 1) d X (F2.sfx (xp N2));cases e5:R.expr d (N2.drop 1) with
         | none=>
          rw[e5]at q5;simp only[bm,bh,vz]at q5 ⊢;obtain⟨M,d',q5⟩:=q5;refine⟨M,d',xh rfl ?_⟩;replace hk:=hk M d';obtain⟨opv2,t_2,n_2,nov2,d_2,a_2,u_2⟩:=v2;exact lf52
         | some x_e5=>
          obtain⟨v5,N5⟩:=x_e5;rw[e5]at q5;simp only[bc,vz]at q5;try simp only[bb]
          have s5:N5<:+L:=hR.sfx.expr d (N2.drop 1) L ((xp N2).trans s2) _ e5;have F5:Fit n N5 d:=F2.sfx (hR.sfx.expr d (N2.drop 1) N2 (xp N2) _ e5);try simp only[bb]
          try simp only[bc,vz]
          refine xh rfl ?_;replace hk:=hk N5 d;obtain⟨opv2,t_2,n_2,nov2,d_2,a_2,u_2⟩:=v2;obtain⟨opv5,t_5,n_5,nov5,d_5,a_5,u_5⟩:=v5;exact lf52
        ·rw[if_neg h5];have iq5:rH 42 [.ptr 2 0,.slice 1 [.str b68]] (Pst B0 B1 (N2) d X) (.bool false) (Pst B0 B1 (N2) d X):=by have h0:=bc7 B0 B1 bb8 (by simp) (N2) d X;rw[xk h5]at h0;exact h0
         try simp only[bb]
         try simp only[bc,vz]
         refine xh rfl ?_;replace hk:=hk N2 d;obtain⟨opv2,t_2,n_2,nov2,d_2,a_2,u_2⟩:=v2;exact lf52
     ·rw[if_neg h2];have iq2:rH 42 [.ptr 2 0,.slice 1 [.str ddz]] (Pst B0 B1 (N1) d X) (.bool false) (Pst B0 B1 (N1) d X):=by have h0:=bc7 B0 B1 bq9 (by simp) (N1) d X;rw[xk h2]at h0;exact h0
      try simp only[bb]
      by_cases h6:pk N1=bg6
      ·rw[if_pos h6];have iq6:vz B0 B1 42 [.ptr 2 0,.slice 1 [.str cpz,.str b4j]] none (N1) d X ((xm [wby] ((N1).drop 1)).map fun M=>(.bool true,M)):=c8k (N1) d X bg6 (by simp) h6;cases be6:xm [wby] (N1.drop 1) with
       | none=>
        rw[be6]at iq6;simp only[bm,bh,vz]at iq6 ⊢;obtain⟨M,d',iq6⟩:=iq6;refine⟨M,d',xh rfl ?_⟩;replace hk:=hk M d';exact lf52
       | some x_be6=>
        rw[be6]at iq6;simp only[bc,vz]at iq6;try simp only[bb]
        have t6:=(xj be6).trans (xp N1);have q6:=lsNd hR.expr hR.sfx X (F1.sfx t6);cases e6:bbc R.expr d x_be6 with
        | none=>
         rw[e6]at q6;simp only[bm,bh,vz]at q6 ⊢;obtain⟨M,d',q6⟩:=q6;refine⟨M,d',xh rfl ?_⟩;replace hk:=hk M d';exact lf52
        | some x_e6=>
         obtain⟨v6,N6⟩:=x_e6;rw[e6]at q6;simp only[bc,vz]at q6;try simp only[bb]
         have F6:Fit n N6 d:=F1.sfx (hR.sfx.expr.list d x_be6 N1 t6 _ e6);have s6:N6<:+L:=hR.sfx.expr.list d x_be6 L (t6.trans s1) _ e6;try simp only[bb]
         by_cases h7:pk N6=bb8
         ·rw[if_pos h7];have iq7:rH 42 [.ptr 2 0,.slice 1 [.str b68]] (Pst B0 B1 (N6) d X) (.bool true) (Pst B0 B1 ((N6).drop 1) d X):=by have h0:=bc7 B0 B1 bb8 (by simp) (N6) d X;rw[xx h7]at h0;exact h0
          have q7:=hR.expr (N6.drop 1) d X (F6.sfx (xp N6));cases e7:R.expr d (N6.drop 1) with
          | none=>
           rw[e7]at q7;simp only[bm,bh,vz]at q7 ⊢;obtain⟨M,d',q7⟩:=q7;refine⟨M,d',xh rfl ?_⟩;replace hk:=hk M d';exact lf52
          | some x_e7=>
           obtain⟨v7,N7⟩:=x_e7;rw[e7]at q7;simp only[bc,vz]at q7;try simp only[bb]
           have s7:N7<:+L:=hR.sfx.expr d (N6.drop 1) L ((xp N6).trans s6) _ e7;have F7:Fit n N7 d:=F6.sfx (hR.sfx.expr d (N6.drop 1) N6 (xp N6) _ e7);try simp only[bb]
           try simp only[bc,vz]
           refine xh rfl ?_;replace hk:=hk N7 d;obtain⟨opv7,t_7,n_7,nov7,d_7,a_7,u_7⟩:=v7;exact lf52
         ·rw[if_neg h7];have iq7:rH 42 [.ptr 2 0,.slice 1 [.str b68]] (Pst B0 B1 (N6) d X) (.bool false) (Pst B0 B1 (N6) d X):=by have h0:=bc7 B0 B1 bb8 (by simp) (N6) d X;rw[xk h7]at h0;exact h0
          try simp only[bb]
          try simp only[bc,vz]
          refine xh rfl ?_;replace hk:=hk N6 d;exact lf52
      ·rw[if_neg h6];have iq6:rH 42 [.ptr 2 0,.slice 1 [.str cpz,.str b4j]] (Pst B0 B1 (N1) d X) (.bool false) (Pst B0 B1 (N1) d X):=isBy (N1) d X bg6 (by simp) h6;try simp only[bb]
       by_cases h8:pk N1=bb8
       ·rw[if_pos h8];have iq8:rH 42 [.ptr 2 0,.slice 1 [.str b68]] (Pst B0 B1 (N1) d X) (.bool true) (Pst B0 B1 ((N1).drop 1) d X):=by have h0:=bc7 B0 B1 bb8 (by simp) (N1) d X;rw[xx h8]at h0;exact h0
        have q8:=hR.expr (N1.drop 1) d X (F1.sfx (xp N1));cases e8:R.expr d (N1.drop 1) with
        | none=>
         rw[e8]at q8;simp only[bm,bh,vz]at q8 ⊢;obtain⟨M,d',q8⟩:=q8;refine⟨M,d',xh rfl ?_⟩;replace hk:=hk M d';exact lf52
        | some x_e8=>
         obtain⟨v8,N8⟩:=x_e8;rw[e8]at q8;simp only[bc,vz]at q8;try simp only[bb]
         have s8:N8<:+L:=hR.sfx.expr d (N1.drop 1) L ((xp N1).trans s1) _ e8;have F8:Fit n N8 d:=F1.sfx (hR.sfx.expr d (N1.drop 1) N1 (xp N1) _ e8);try simp only[bb]
         try simp only[bc,vz]
         refine xh rfl ?_;replace hk:=hk N8 d;obtain⟨opv8,t_8,n_8,nov8,d_8,a_8,u_8⟩:=v8;exact lf52
       ·rw[if_neg h8];have iq8:rH 42 [.ptr 2 0,.slice 1 [.str b68]] (Pst B0 B1 (N1) d X) (.bool false) (Pst B0 B1 (N1) d X):=by have h0:=bc7 B0 B1 bb8 (by simp) (N1) d X;rw[xk h8]at h0;exact h0
        try simp only[bb]
        try simp only[bc,vz]
        refine xh rfl ?_;replace hk:=hk N1 d;exact lf52
   ·rw[if_neg h1];have iq1:rH 42 [.ptr 2 0,.slice 1 [.str c0f]] (Pst B0 B1 (L1) d X) (.bool false) (Pst B0 B1 (L1) d X):=by have h0:=bc7 B0 B1 btm (by simp) (L1) d X;rw[xk h1]at h0;exact h0
    try simp only[bb]
    by_cases h9:pk L1=bq9
    ·rw[if_pos h9];have iq9:rH 42 [.ptr 2 0,.slice 1 [.str ddz]] (Pst B0 B1 (L1) d X) (.bool true) (Pst B0 B1 ((L1).drop 1) d X):=by have h0:=bc7 B0 B1 bq9 (by simp) (L1) d X;rw[xx h9]at h0;exact h0
     have q9:=hR.expr (L1.drop 1) d X (FA.sfx (xp L1));cases e9:R.expr d (L1.drop 1) with
     | none=>
      rw[e9]at q9;simp only[bm,bh,vz]at q9 ⊢;obtain⟨M,d',q9⟩:=q9;refine⟨M,d',xh rfl ?_⟩;replace hk:=hk M d';exact lf52
     | some x_e9=>
      obtain⟨v9,N9⟩:=x_e9;rw[e9]at q9;simp only[bc,vz]at q9;try simp only[bb]
      have s9:N9<:+L:=hR.sfx.expr d (L1.drop 1) L ((xp L1).trans sA) _ e9;have F9:Fit n N9 d:=FA.sfx (hR.sfx.expr d (L1.drop 1) L1 (xp L1) _ e9);try simp only[bb]
      by_cases h10:pk N9=bg6
      ·rw[if_pos h10];have iq10:vz B0 B1 42 [.ptr 2 0,.slice 1 [.str cpz,.str b4j]] none (N9) d X ((xm [wby] ((N9).drop 1)).map fun M=>(.bool true,M)):=c8k (N9) d X bg6 (by simp) h10;cases be10:xm [wby] (N9.drop 1) with
       | none=>
        rw[be10]at iq10;simp only[bm,bh,vz]at iq10 ⊢;obtain⟨M,d',iq10⟩:=iq10;refine⟨M,d',xh rfl ?_⟩;replace hk:=hk M d';obtain⟨opv9,t_9,n_9,nov9,d_9,a_9,u_9⟩:=v9;exact lf52
       | some x_be10=>
        rw[be10]at iq10;simp only[bc,vz]at iq10;try simp only[bb]
        have t10:=(xj be10).trans (xp N9);have q10:=lsNd hR.expr hR.sfx X (F9.sfx t10);cases e10:bbc R.expr d x_be10 with
        | none=>
         rw[e10]at q10;simp only[bm,bh,vz]at q10 ⊢;obtain⟨M,d',q10⟩:=q10;refine⟨M,d',xh rfl ?_⟩;replace hk:=hk M d';obtain⟨opv9,t_9,n_9,nov9,d_9,a_9,u_9⟩:=v9;exact lf52
        | some x_e10=>
         obtain⟨v10,N10⟩:=x_e10;rw[e10]at q10;simp only[bc,vz]at q10;try simp only[bb]
         have F10:Fit n N10 d:=F9.sfx (hR.sfx.expr.list d x_be10 N9 t10 _ e10);have s10:N10<:+L:=hR.sfx.expr.list d x_be10 L (t10.trans s9) _ e10;try simp only[bb]
         by_cases h11:pk N10=bb8
         ·rw[if_pos h11];have iq11:rH 42 [.ptr 2 0,.slice 1 [.str b68]] (Pst B0 B1 (N10) d X) (.bool true) (Pst B0 B1 ((N10).drop 1) d X):=by have h0:=bc7 B0 B1 bb8 (by simp) (N10) d X;rw[xx h11]at h0;exact h0
          have q11:=hR.expr (N10.drop 1) d X (F10.sfx (xp N10));cases e11:R.expr d (N10.drop 1) with
          | none=>
           rw[e11]at q11;simp only[bm,bh,vz]at q11 ⊢;obtain⟨M,d',q11⟩:=q11;refine⟨M,d',xh rfl ?_⟩;replace hk:=hk M d';obtain⟨opv9,t_9,n_9,nov9,d_9,a_9,u_9⟩:=v9;exact lf52
          | some x_e11=>
           obtain⟨v11,N11⟩:=x_e11;rw[e11]at q11;simp only[bc,vz]at q11;try simp only[bb]
           have s11:N11<:+L:=hR.sfx.expr d (N10.drop 1) L ((xp N10).trans s10) _ e11;have F11:Fit n N11 d:=F10.sfx (hR.sfx.expr d (N10.drop 1) N10 (xp N10) _ e11);try simp only[bb]
           try simp only[bc,vz]
           refine xh rfl ?_;replace hk:=hk N11 d;obtain⟨opv9,t_9,n_9,nov9,d_9,a_9,u_9⟩:=v9;obtain⟨opv11,t_11,n_11,nov11,d_11,a_11,u_11⟩:=v11;exact lf52
         ·rw[if_neg h11];have iq11:rH 42 [.ptr 2 0,.slice 1 [.str b68]] (Pst B0 B1 (N10) d X) (.bool false) (Pst B0 B1 (N10) d X):=by have h0:=bc7 B0 B1 bb8 (by simp) (N10) d X;rw[xk h11]at h0;exact h0
          try simp only[bb]
          try simp only[bc,vz]
          refine xh rfl ?_;replace hk:=hk N10 d;obtain⟨opv9,t_9,n_9,nov9,d_9,a_9,u_9⟩:=v9;exact lf52
      ·rw[if_neg h10];have iq10:rH 42 [.ptr 2 0,.slice 1 [.str cpz,.str b4j]] (Pst B0 B1 (N9) d X) (.bool false) (Pst B0 B1 (N9) d X):=isBy (N9) d X bg6 (by simp) h10;try simp only[bb]
       by_cases h12:pk N9=bb8
       ·rw[if_pos h12];have iq12:rH 42 [.ptr 2 0,.slice 1 [.str b68]] (Pst B0 B1 (N9) d X) (.bool true) (Pst B0 B1 ((N9).drop 1) d X):=by have h0:=bc7 B0 B1 bb8 (by simp) (N9) d X;rw[xx h12]at h0;exact h0
        have q12:=hR.expr (N9.drop 1) d X (F9.sfx (xp N9));cases e12:R.expr d (N9.drop 1) with
        | none=>
         rw[e12]at q12;simp only[bm,bh,vz]at q12 ⊢;obtain⟨M,d',q12⟩:=q12;refine⟨M,d',xh rfl ?_⟩;replace hk:=hk M d';obtain⟨opv9,t_9,n_9,nov9,d_9,a_9,u_9⟩:=v9;exact lf52
        | some x_e12=>
         obtain⟨v12,N12⟩:=x_e12;rw[e12]at q12;simp only[bc,vz]at q12;try simp only[bb]
         have s12:N12<:+L:=hR.sfx.expr d (N9.drop 1) L ((xp N9).trans s9) _ e12;have F12:Fit n N12 d:=F9.sfx (hR.sfx.expr d (N9.drop 1) N9 (xp N9) _ e12);try simp only[bb]
         try simp only[bc,vz]
         refine xh rfl ?_;replace hk:=hk N12 d;obtain⟨opv9,t_9,n_9,nov9,d_9,a_9,u_9⟩:=v9;obtain⟨opv12,t_12,n_12,nov12,d_12,a_12,u_12⟩:=v12;exact lf52
       ·rw[if_neg h12];have iq12:rH 42 [.ptr 2 0,.slice 1 [.str b68]] (Pst B0 B1 (N9) d X) (.bool false) (Pst B0 B1 (N9) d X):=by have h0:=bc7 B0 B1 bb8 (by simp) (N9) d X;rw[xk h12]at h0;exact h0
        try simp only[bb]
        try simp only[bc,vz]
        refine xh rfl ?_;replace hk:=hk N9 d;obtain⟨opv9,t_9,n_9,nov9,d_9,a_9,u_9⟩:=v9;exact lf52
    ·rw[if_neg h9];have iq9:rH 42 [.ptr 2 0,.slice 1 [.str ddz]] (Pst B0 B1 (L1) d X) (.bool false) (Pst B0 B1 (L1) d X):=by have h0:=bc7 B0 B1 bq9 (by simp) (L1) d X;rw[xk h9]at h0;exact h0
     try simp only[bb]
     by_cases h13:pk L1=bg6
     ·rw[if_pos h13];have iq13:vz B0 B1 42 [.ptr 2 0,.slice 1 [.str cpz,.str b4j]] none (L1) d X ((xm [wby] ((L1).drop 1)).map fun M=>(.bool true,M)):=c8k (L1) d X bg6 (by simp) h13;cases be13:xm [wby] (L1.drop 1) with
      | none=>
       rw[be13]at iq13;simp only[bm,bh,vz]at iq13 ⊢;obtain⟨M,d',iq13⟩:=iq13;refine⟨M,d',xh rfl ?_⟩;replace hk:=hk M d';exact lf52
      | some x_be13=>
       rw[be13]at iq13;simp only[bc,vz]at iq13;try simp only[bb]
       have t13:=(xj be13).trans (xp L1);have q13:=lsNd hR.expr hR.sfx X (FA.sfx t13);cases e13:bbc R.expr d x_be13 with
       | none=>
        rw[e13]at q13;simp only[bm,bh,vz]at q13 ⊢;obtain⟨M,d',q13⟩:=q13;refine⟨M,d',xh rfl ?_⟩;replace hk:=hk M d';exact lf52
       | some x_e13=>
        obtain⟨v13,N13⟩:=x_e13;rw[e13]at q13;simp only[bc,vz]at q13;try simp only[bb]
        have F13:Fit n N13 d:=FA.sfx (hR.sfx.expr.list d x_be13 L1 t13 _ e13);have s13:N13<:+L:=hR.sfx.expr.list d x_be13 L (t13.trans sA) _ e13;try simp only[bb]
        by_cases h14:pk N13=bb8
        ·rw[if_pos h14];have iq14:rH 42 [.ptr 2 0,.slice 1 [.str b68]] (Pst B0 B1 (N13) d X) (.bool true) (Pst B0 B1 ((N13).drop 1) d X):=by have h0:=bc7 B0 B1 bb8 (by simp) (N13) d X;rw[xx h14]at h0;exact h0
         have q14:=hR.expr (N13.drop 1) d X (F13.sfx (xp N13));cases e14:R.expr d (N13.drop 1) with
         | none=>
          rw[e14]at q14;simp only[bm,bh,vz]at q14 ⊢;obtain⟨M,d',q14⟩:=q14;refine⟨M,d',xh rfl ?_⟩;replace hk:=hk M d';exact lf52
         | some x_e14=>
          obtain⟨v14,N14⟩:=x_e14;rw[e14]at q14;simp only[bc,vz]at q14;try simp only[bb]
          have s14:N14<:+L:=hR.sfx.expr d (N13.drop 1) L ((xp N13).trans s13) _ e14;have F14:Fit n N14 d:=F13.sfx (hR.sfx.expr d (N13.drop 1) N13 (xp N13) _ e14);try simp only[bb]
          try simp only[bc,vz]
          refine xh rfl ?_;replace hk:=hk N14 d;obtain⟨opv14,t_14,n_14,nov14,d_14,a_14,u_14⟩:=v14;exact lf52
        ·rw[if_neg h14];have iq14:rH 42 [.ptr 2 0,.slice 1 [.str b68]] (Pst B0 B1 (N13) d X) (.bool false) (Pst B0 B1 (N13) d X):=by have h0:=bc7 B0 B1 bb8 (by simp) (N13) d X;rw[xk h14]at h0;exact h0
         try simp only[bb]
         try simp only[bc,vz]
         refine xh rfl ?_;replace hk:=hk N13 d;exact lf52
     ·rw[if_neg h13];have iq13:rH 42 [.ptr 2 0,.slice 1 [.str cpz,.str b4j]] (Pst B0 B1 (L1) d X) (.bool false) (Pst B0 B1 (L1) d X):=isBy (L1) d X bg6 (by simp) h13;try simp only[bb]
      by_cases h15:pk L1=bb8
      ·rw[if_pos h15];have iq15:rH 42 [.ptr 2 0,.slice 1 [.str b68]] (Pst B0 B1 (L1) d X) (.bool true) (Pst B0 B1 ((L1).drop 1) d X):=by have h0:=bc7 B0 B1 bb8 (by simp) (L1) d X;rw[xx h15]at h0;exact h0
       have q15:=hR.expr (L1.drop 1) d X (FA.sfx (xp L1));cases e15:R.expr d (L1.drop 1) with
       | none=>
        rw[e15]at q15;simp only[bm,bh,vz]at q15 ⊢;obtain⟨M,d',q15⟩:=q15;refine⟨M,d',xh rfl ?_⟩;replace hk:=hk M d';exact lf52
       | some x_e15=>
        obtain⟨v15,N15⟩:=x_e15;rw[e15]at q15;simp only[bc,vz]at q15;try simp only[bb]
        have s15:N15<:+L:=hR.sfx.expr d (L1.drop 1) L ((xp L1).trans sA) _ e15;have F15:Fit n N15 d:=FA.sfx (hR.sfx.expr d (L1.drop 1) L1 (xp L1) _ e15);try simp only[bb]
        try simp only[bc,vz]
        refine xh rfl ?_;replace hk:=hk N15 d;obtain⟨opv15,t_15,n_15,nov15,d_15,a_15,u_15⟩:=v15;exact lf52
      ·rw[if_neg h15];have iq15:rH 42 [.ptr 2 0,.slice 1 [.str b68]] (Pst B0 B1 (L1) d X) (.bool false) (Pst B0 B1 (L1) d X):=by have h0:=bc7 B0 B1 bb8 (by simp) (L1) d X;rw[xk h15]at h0;exact h0
       try simp only[bb]
       try simp only[bc,vz]
       refine xh rfl ?_;replace hk:=hk L1 d;exact lf52
end Go.Av
namespace Go.Av
open Go Go.Proofs
variable{B0 B1:Bx}{R:Rd}{n:Nat}
theorem lf53{p:Prop}(h:p:=by (try simp only[rZc,rZd]at *);simp[-getElem?_pos,rZa,-List.drop_one,-List.drop_drop,rZb,a209, *]):p:=h
theorem c209(hR:PR B0 B1 R n)(L:LT)(d:Int)(X:LB)(F:Fit (n+1) L d):vz B0 B1 209 [.sptr [.ptr 2 0]] (some 62) L d X ((bbz (bbc R.expr) d L).map fun x=>(.slice 7 (xd x.1),x.2)):=by
 have hk:=hkP B0 B1 L d X;have q1:=inPe hR 210 (c210 hR) L d X F;cases e1:bbz (bbc R.expr) d L with
 | none=>
  rw[e1]at q1;simp only[bm,bh,vz]at q1 ⊢;obtain⟨M,d',q1⟩:=q1;refine⟨M,d',xh rfl ?_⟩;replace hk:=hk M d';exact lf53
 | some x_e1=>
  obtain⟨v1,L1⟩:=x_e1;rw[e1]at q1;simp only[bc,vz]at q1;try simp only[bb]
  try simp only[bc,vz]
  refine xh rfl ?_;replace hk:=hk L1 d;exact lf53
theorem lsRow(hR:PR B0 B1 R n){L:LT}{d:Int}(X:LB)(F:Fit (n+1) L d):vz B0 B1 208 [.ptr 2 0,.clos (.func 209) [] [.sptr [.ptr 2 0]]] (some 25) L d X ((bbc (bbz (bbc R.expr)) d L).map fun x=>(.slice 1 (zr x.1),x.2)):=by
 have h:=c208 B0 B1 209 [] [.sptr [.ptr 2 0]] d X L F.l9 (bbz (bbc R.expr)) hR.sfx.expr.list.inPar (fun M hM=>c209 hR M d X (F.sfx hM));simp only[← bh1]at h;exact h
theorem lf54{p:Prop}(h:p:=by (try simp only[rZc,rZd]at *);simp[-getElem?_pos,rZa,-List.drop_one,-List.drop_drop,rZb,a176, *]):p:=h
theorem c3d(hR:PR B0 B1 R n):Rc B0 B1 176 Bd.av none (bjz R) (n+1):=by
 intro L d X F;have hk:=hkP B0 B1 L d X;have qp:=c68 B0 B1 L d X;unfold bjz;by_cases h1:pk L=bgj
 ·rw[if_pos h1];have qi:rH 42 [.ptr 2 0,.slice 1 [.str cjp]] (Pst B0 B1 (L) d X) (.bool true) (Pst B0 B1 ((L).drop 1) d X):=by have h0:=bc7 B0 B1 bgj (by simp) (L) d X;rw[xx h1]at h0;exact h0
  have q1:=lsRow hR X (F.sfx (xp L));cases e1:bbc (bbz (bbc R.expr)) d (L.drop 1) with
  | none=>
   rw[e1]at q1;simp only[bm,bh,vz]at q1 ⊢;obtain⟨M,d',q1⟩:=q1;refine⟨M,d',xh rfl ?_⟩;replace hk:=hk M d';exact lf54
  | some x_e1=>
   obtain⟨v1,L1⟩:=x_e1;rw[e1]at q1;simp only[bc,vz]at q1;try simp only[bb]
   try simp only[bc,vz]
   refine xh rfl ?_;replace hk:=hk L1 d;exact lf54
 ·rw[if_neg h1];have qi:rH 42 [.ptr 2 0,.slice 1 [.str cjp]] (Pst B0 B1 (L) d X) (.bool false) (Pst B0 B1 (L) d X):=by have h0:=bc7 B0 B1 bgj (by simp) (L) d X;rw[xk h1]at h0;exact h0
  by_cases h2:pk L=bh6
  ·rw[if_pos h2];have q1:=dvm hR X F;cases e1:bbz R.query d L with
   | none=>
    rw[e1]at q1;simp only[bm,bh,vz]at q1 ⊢;obtain⟨M,d',q1⟩:=q1;refine⟨M,d',xh rfl ?_⟩;replace hk:=hk M d';exact lf54
   | some x_e1=>
    obtain⟨v1,L1⟩:=x_e1;rw[e1]at q1;simp only[bc,vz]at q1;try simp only[bb]
    try simp only[bc,vz]
    refine xh rfl ?_;replace hk:=hk L1 d;obtain⟨⟨c0v1,c1v1,c2v1,i3v1,i4v1,i5v1,i6v1,i7v1,i8v1,i9v1⟩,ksv1,liv1,ofv1⟩:=v1;exact lf54
  ·rw[if_neg h2];have q1:=ckm hR L d X F;cases e1:bjk R d L with
   | none=>
    rw[e1]at q1;simp only[bm,bh,vz]at q1 ⊢;obtain⟨M,d',q1⟩:=q1;refine⟨M,d',xh rfl ?_⟩;replace hk:=hk M d';exact lf54
   | some x_e1=>
    obtain⟨v1,L1⟩:=x_e1;rw[e1]at q1;simp only[bc,vz]at q1;try simp only[bb]
    try simp only[bc,vz]
    refine xh rfl ?_;replace hk:=hk L1 d;obtain⟨c0v1,c1v1,c2v1,i3v1,i4v1,i5v1,i6v1,i7v1,i8v1,i9v1⟩:=v1;exact lf54
theorem c175(b:Bd)(S:LB):rH 175 [b.av] S (bj2 b).av S:=by
 refine xh rfl ?_;obtain⟨c0b,c1b,c2b,i3b,i4b,i5b,i6b,i7b,i8b,i9b⟩:=b;simp only[Bd.av,bj2,Qr.av,Bd.cells,rZd,cg];simp[-getElem?_pos,rZa,-List.drop_one,-List.drop_drop,rZb,a175]
def bZ9:Bx:={cells:=[ii 0,.bool false,.bool false,.slice 4 [],.slice 6 [],.slice 7 [],.slice 7 [],.slice 7 [],.slice 1 [],.slice 13 []],own:=[(3,59),(4,140),(5,62),(6,62),(7,62),(8,25),(9,32)]}
def okOb(ow:List (Nat×Nat)):Prop:=ow=[]∨ow=[(3,59),(4,140),(5,62),(6,62),(7,62),(8,25)]
def cbx(B0 B1:Bx)(k:Nat)(ws ops:LA)(L:LT)(d:Int)(X:LB)(a:LA)(ow:List (Nat×Nat)):St:=
 {σ:=[(0,.v (.ptr 2 0)),(1,.v (.clos (.func k) [.ptr 2 0] [])),(2,.v (.slice 1 ws)),(3,.v (.slice 1 ops)),(8,.l 8 0),(9,.l 9 0)],own:=[],loc:=[(8,bZ9),(9,{cells:=a,own:=ow})],S:=Pst B0 B1 L d X}
structure SetW(ws:LV)(ops:LA):Prop where
 len:ws.length≤1000
 ne:∀w∈ws,w≠[]
 idx:∀w∈ws,∃i:Nat,b1q ws w 0=(i:Int)∧i<ws.length∧(bgg ws)[i]? = some (.str (bs w))∧i<ops.length∧ops[i]? = some (ii (b7k w))
 no:∀w,w∉ws→b1q ws w 0<0
theorem setW1:SetW [btt,bks] [ii 3,ii 4]:=by
 refine⟨by simp,by simp,fun w hw=>?_,fun w hw=>?_⟩
 ·simp only[dc,fp,or_false]at hw;rcases hw with rfl | rfl
  ·exact⟨0,by simp[b1q],by simp,rfl,by simp,by simp[b7k]⟩
  ·exact⟨1,by simp[b1q],by simp,rfl,by simp,by simp[b7k]⟩
 ·simp only[dc,fp,or_false,not_or]at hw;have h1:¬ btt=w:=fun e=>hw.1 e.symm
  have h2:¬ bks=w:=fun e=>hw.2 e.symm
  simp[b1q,h1,h2,hw.1,hw.2]
theorem setW2:SetW [bg5] [ii 5]:=by
 refine⟨by simp,by simp,fun w hw=>?_,fun w hw=>?_⟩
 ·simp only[dc,fp,or_false]at hw;subst hw;exact⟨0,by simp[b1q],by simp,rfl,by simp,by simp[b7k]⟩
 ·simp only[dc,fp,or_false]at hw;have h1:¬ bg5=w:=fun e=>hw e.symm
  simp[b1q,h1,hw]
theorem c3j(k:Nat)(ws:LV)(ops:LA)(hW:SetW ws ops)(d:Int)(X:LB)(L:LT)(h:pk L∈ws)(a:Bd)(ow:List (Nat×Nat))(how:okOb ow)(v:Bd)(N:LT)
  (hc:rH k [.ptr 2 0] (Pst B0 B1 (isG b0f (L.drop 1)).2 d X) v.av (Pst B0 B1 N d X)) :
  xf bbf bsk (cbx B0 B1 k (bgg ws) ops L d X a.cells ow)=some (.normal,cbx B0 B1 k (bgg ws) ops N d X (Bd.mk (b7k (pk L)) (isG b0f (L.drop 1)).1 false [] [] [] [] [] [] [bj2 a,bj2 v]).cells [(3,59),(4,140),(5,62),(6,62),(7,62),(8,25)]):=by
 obtain⟨i,i1,i2,i3,i4,i5⟩:=hW.idx _ h;have hlen:(bgg ws).length=ws.length:=by simp[bgg]
 have i2q:(i:Int)<(ws.length:Int):=by omega
 have i4q:(i:Int)<(ops.length:Int):=by omega
 have i0:¬ (i:Int)<0:=by omega
 have qp:=c68 B0 B1 L d X;have qx:=c174 (Pst B0 B1 L d X) ws hW.len (pk L);rw[i1]at qx;have qm:rH 69 [.ptr 2 0,.slice 1 [.str (bs (pk L))]] (Pst B0 B1 L d X) (.tuple []) (Pst B0 B1 (L.drop 1) d X):=by
  have h0:=brk B0 B1 (pk L) (hW.ne _ h) L d X;simp only[xm,if_true,bc,vz]at h0;exact h0
 have qa:rH 42 [.ptr 2 0,.slice 1 [.str dd0]] (Pst B0 B1 (L.drop 1) d X) (.bool (isG b0f (L.drop 1)).1) (Pst B0 B1 (isG b0f (L.drop 1)).2 d X):=bc7 B0 B1 b0f (by simp) (L.drop 1) d X;generalize isG b0f (L.drop 1)=I at *;obtain⟨al,L1⟩:=I;dsimp only at *;have b1:=c175 a (Pst B0 B1 L1 d X);have b2:=c175 v (Pst B0 B1 N d X);rw[xb];obtain⟨c0a,c1a,c2a,i3a,i4a,i5a,i6a,i7a,i8a,i9a⟩:=a;obtain⟨c0v,c1v,c2v,i3v,i4v,i5v,i6v,i7v,i8v,i9v⟩:=v;simp only[Bd.av,Bd.cells,Qr.av,zb,bbg,zt,xd,zr,bj2,AV.cells,rZd,cg]at *;generalize bgg ws=W at *;generalize b7k (pk L)=so at *;generalize pk L=w at *;rcases how with rfl | rfl<;>simp[-getElem?_pos,rZa,-List.drop_one,-List.drop_drop,rZb,bsk,cbx,bZ9,qp,qx,qm,qa,b1,b2,hc,hlen,i2,i2q,i3,i4,i4q,i5,i0]
theorem lf55{p:Prop}(h:p:=by simp[-getElem?_pos,rZa,-List.drop_one,-List.drop_drop,rZb,bsk,cbx,bZ9, *]):p:=h
theorem c3m(k:Nat)(ws:LV)(ops:LA)(hW:SetW ws ops)(d d':Int)(X:LB)(L M:LT)(h:pk L∈ws)(a:Bd)(ow:List (Nat×Nat))
  (hc:bbf k [.ptr 2 0] (Pst B0 B1 (isG b0f (L.drop 1)).2 d X)=some (.panic fv,Pst B0 B1 M d' X)) :
  ∃s,xf bbf bsk (cbx B0 B1 k (bgg ws) ops L d X a.cells ow)=some (.panic fv,s)∧s.S=Pst B0 B1 M d' X:=by
 obtain⟨i,i1,i2,i3,i4,i5⟩:=hW.idx _ h;have hlen:(bgg ws).length=ws.length:=by simp[bgg]
 have i2q:(i:Int)<(ws.length:Int):=by omega
 have i4q:(i:Int)<(ops.length:Int):=by omega
 have i0:¬ (i:Int)<0:=by omega
 have qp:=c68 B0 B1 L d X;have qx:=c174 (Pst B0 B1 L d X) ws hW.len (pk L);rw[i1]at qx;have qm:rH 69 [.ptr 2 0,.slice 1 [.str (bs (pk L))]] (Pst B0 B1 L d X) (.tuple []) (Pst B0 B1 (L.drop 1) d X):=by
  have h0:=brk B0 B1 (pk L) (hW.ne _ h) L d X;simp only[xm,if_true,bc,vz]at h0;exact h0
 have qa:rH 42 [.ptr 2 0,.slice 1 [.str dd0]] (Pst B0 B1 (L.drop 1) d X) (.bool (isG b0f (L.drop 1)).1) (Pst B0 B1 (isG b0f (L.drop 1)).2 d X):=bc7 B0 B1 b0f (by simp) (L.drop 1) d X;generalize isG b0f (L.drop 1)=I at *;obtain⟨al,L1⟩:=I;dsimp only at *;have b1:=c175 a (Pst B0 B1 L1 d X);refine bd8 ?_;rw[xb];obtain⟨c0a,c1a,c2a,i3a,i4a,i5a,i6a,i7a,i8a,i9a⟩:=a;simp only[Bd.av,Bd.cells,Qr.av,zb,bbg,zt,xd,zr,bj2,AV.cells,rZd,cg]at *;generalize bgg ws=W at *;generalize b7k (pk L)=so at *;generalize pk L=w at *;exact lf55
theorem dfq(k:Nat)(ws:LV)(ops:LA)(hW:SetW ws ops)(d:Int)(X:LB)(L:LT)(h:¬ pk L∈ws)(a:Bd)(ow:List (Nat×Nat)) :
  xf bbf bsk (cbx B0 B1 k (bgg ws) ops L d X a.cells ow)=some (.ret,{σ:=[(8,.l 8 0)],own:=[],loc:=[(8,{cells:=a.cells})],S:=Pst B0 B1 L d X}):=by
 have i1:=hW.no _ h;have qp:=c68 B0 B1 L d X;have qx:=c174 (Pst B0 B1 L d X) ws hW.len (pk L);generalize b1q ws (pk L) 0=j at *;rw[xb];obtain⟨c0a,c1a,c2a,i3a,i4a,i5a,i6a,i7a,i8a,i9a⟩:=a;simp only[Bd.av,Bd.cells,Qr.av,zb,bbg,zt,xd,zr,bj2,AV.cells,rZd,cg]at *;generalize bgg ws=W at *;exact lf55
theorem c3k(k:Nat)(ws:LV)(ops:LA)(hW:SetW ws ops)(d:Int)(X:LB)(p:Rdr Bd)(hp:Sfx p)(hc:Rc B0 B1 k Bd.av none p n):∀(f:Nat) (a:Bd) (ow:List (Nat×Nat)) (L:LT),okOb ow→Fit n L d→L.length<f →
  match bg1 p ws d f a L with
  | some (v,N)=>zc (xf bbf bsk) (cbx B0 B1 k (bgg ws) ops L d X a.cells ow)=some (.ret,{σ:=[(8,.l 8 0)],own:=[],loc:=[(8,{cells:=v.cells})],S:=Pst B0 B1 N d X})
  | none=>∃s M d',zc (xf bbf bsk) (cbx B0 B1 k (bgg ws) ops L d X a.cells ow)=some (.panic fv,s)∧s.S=Pst B0 B1 M d' X:=by
 intro f
 induction f with
 | zero=>intro a ow L _ _ h;omega
 | succ f ih=>
  intro a ow L how F hf;simp only[bg1];by_cases h:pk L∈ws
  ·rw[if_pos h];have l1:=zk (L:=L) rfl (hW.ne _ h);have t1:(isG b0f (L.drop 1)).2<:+L:=(bb5 _ _).trans (xp L);have t2:=(bb5 b0f (L.drop 1)).length_le;have q:=hc _ d X (F.sfx t1);cases e1:p d (isG b0f (L.drop 1)).2 with
   | none=>
    rw[e1]at q;simp only[bm,bh,vz]at q ⊢;obtain⟨M,d',q⟩:=q;obtain⟨s,g1,g2⟩:=c3m k ws ops hW d d' X L M h a (ow:=ow) q;exact⟨s,M,d',xc g1 (by simp),g2⟩
   | some x=>
    obtain⟨v,N⟩:=x;rw[e1]at q;simp only[bc,bb,vz]at q ⊢;have t3:N<:+(isG b0f (L.drop 1)).2:=hp d _ _ (br _) _ e1;have:=t3.length_le;rw[xq (c3j k ws ops hW d X L h a ow how v N q)];exact ih _ _ N (.inr rfl) (F.sfx (t3.trans t1)) (by omega)
  ·rw[if_neg h];exact xc (dfq k ws ops hW d X L h a ow) (by simp)
theorem lf56{p:Prop}(h:p:=by simp[-getElem?_pos,rZa,-List.drop_one,-List.drop_drop,rZb,a134, *]):p:=h
theorem cqj(k:Nat)(ws:LV)(ops:LA)(hW:SetW ws ops)(p:Rdr Bd)(hp:Sfx p)(hc:Rc B0 B1 k Bd.av none p n)(L:LT)(d:Int)(X:LB)(F:Fit n L d) :
  vz B0 B1 134 [.ptr 2 0,.clos (.func k) [.ptr 2 0] [],.slice 1 (bgg ws),.slice 1 ops] none L d X ((cb1 p ws d L).map fun x=>(x.1.av,x.2)):=by
 have hk:=hkP B0 B1 L d X;have q1:=hc L d X F;unfold cb1;cases e1:p d L with
 | none=>
  rw[e1]at q1;simp only[bm,bh,vz]at q1 ⊢;obtain⟨M,d',q1⟩:=q1;refine⟨M,d',xh rfl ?_⟩;replace hk:=hk M d';generalize bgg ws=W at *;exact lf56
 | some x=>
  obtain⟨v,L1⟩:=x;rw[e1]at q1;have t1:L1<:+L:=hp d L L (br _) _ e1;have hl:=c3k k ws ops hW d X p hp hc (L1.length+1) v [] L1 (.inl rfl) (F.sfx t1) (by omega);simp only[bc,bb,vz]at q1 ⊢;simp only[cbx,bZ9]at hl;cases e2:bg1 p ws d (L1.length+1) v L1 with
  | none=>
   rw[e2]at hl;obtain⟨s,M,d',hl,hS⟩:=hl;simp only[bm,vz];refine⟨M,d',xh rfl ?_⟩;replace hk:=hk M d';rw[← hS]at hk ⊢;generalize bgg ws=W at *;obtain⟨c0v,c1v,c2v,i3v,i4v,i5v,i6v,i7v,i8v,i9v⟩:=v;simp only[Bd.av,Bd.cells]at *;simp[-getElem?_pos,rZa,-List.drop_one,-List.drop_drop,rZb,a134,q1,hl,hk]
  | some y=>
   obtain⟨w,N⟩:=y;rw[e2]at hl;simp only[bc,vz];refine xh rfl ?_;replace hk:=hk N d;generalize bgg ws=W at *;obtain⟨c0v,c1v,c2v,i3v,i4v,i5v,i6v,i7v,i8v,i9v⟩:=v;obtain⟨c0w,c1w,c2w,i3w,i4w,i5w,i6w,i7w,i8w,i9w⟩:=w;simp only[Bd.av,Bd.cells]at *;exact lf56
theorem lf57{p:Prop}(h:p:=by (try simp only[rZc,rZd]at *);simp[-getElem?_pos,rZa,-List.drop_one,-List.drop_drop,rZb,a135, *]):p:=h
theorem dqq(hR:PR B0 B1 R n):Rc B0 B1 135 Bd.av none (b3m R) (n+1):=by
 intro L d X F;have hk:=hkP B0 B1 L d X;have q1:vz B0 B1 134 [.ptr 2 0,.clos (.func 176) [.ptr 2 0] [],.slice 1 [.str dpd],.slice 1 [ii 5]] none L d X ((b3m R d L).map fun x=>(x.1.av,x.2)):=cqj 176 _ _ setW2 (bjz R) (bqd hR.sfx) (c3d hR) L d X F;cases e1:b3m R d L with
 | none=>
  rw[e1]at q1;simp only[bm,bh,vz]at q1 ⊢;obtain⟨M,d',q1⟩:=q1;refine⟨M,d',xh rfl ?_⟩;replace hk:=hk M d';exact lf57
 | some x_e1=>
  obtain⟨v1,L1⟩:=x_e1;rw[e1]at q1;simp only[bc,vz]at q1;try simp only[bb]
  try simp only[bc,vz]
  refine xh rfl ?_;replace hk:=hk L1 d;obtain⟨c0v1,c1v1,c2v1,i3v1,i4v1,i5v1,i6v1,i7v1,i8v1,i9v1⟩:=v1;exact lf57
theorem lf58{p:Prop}(h:p:=by (try simp only[rZc,rZd]at *);simp[-getElem?_pos,rZa,-List.drop_one,-List.drop_drop,rZb,a78, *]):p:=h
theorem dtc(hR:PR B0 B1 R n):Rc B0 B1 78 Bd.av none (b6f R) (n+1):=by
 intro L d X F;have hk:=hkP B0 B1 L d X;have q1:vz B0 B1 134 [.ptr 2 0,.clos (.func 135) [.ptr 2 0] [],.slice 1 [.str dpf,.str dkp],.slice 1 [ii 3,ii 4]] none L d X ((b6f R d L).map fun x=>(x.1.av,x.2)):=cqj 135 _ _ setW1 (b3m R) (bx1 hR.sfx) (dqq hR) L d X F;cases e1:b6f R d L with
 | none=>
  rw[e1]at q1;simp only[bm,bh,vz]at q1 ⊢;obtain⟨M,d',q1⟩:=q1;refine⟨M,d',xh rfl ?_⟩;replace hk:=hk M d';exact lf58
 | some x_e1=>
  obtain⟨v1,L1⟩:=x_e1;rw[e1]at q1;simp only[bc,vz]at q1;try simp only[bb]
  try simp only[bc,vz]
  refine xh rfl ?_;replace hk:=hk L1 d;obtain⟨c0v1,c1v1,c2v1,i3v1,i4v1,i5v1,i6v1,i7v1,i8v1,i9v1⟩:=v1;exact lf58
theorem lsKey{L:LT}{d:Int}(X:LB)(F:Fit n L d):vz B0 B1 79 [.ptr 2 0,.clos (.func 80) [.ptr 2 0] []] (some 64) L d X ((bbc cdv d L).map fun x=>(.slice 3 (x.1.map Ky.av),x.2)):=
 c79 B0 B1 80 [.ptr 2 0] [] d X L F.l9 cdv bzg (fun M hM=>key_rc M d X (F.sfx hM))
theorem lf59{p:Prop}(h:p:=by (try simp only[rZc,rZd]at *);simp[-getElem?_pos,rZa,-List.drop_one,-List.drop_drop,rZb,a41, *]):p:=h
theorem df2(hR:PR B0 B1 R n):Rc B0 B1 41 Qr.av none (b2p R) (n+1):=by
 intro L d X F;have hk:=hkP B0 B1 L d X;simp only[b2p,bj0,byG];have q0:=dtc hR L d X F;cases e0:b6f R d L with
 | none=>
  rw[e0]at q0;simp only[bm,bh,vz]at q0 ⊢;obtain⟨M,d',q0⟩:=q0;refine⟨M,d',xh rfl ?_⟩;replace hk:=hk M d';exact lf59
 | some x_e0=>
  obtain⟨v0,L1⟩:=x_e0;rw[e0]at q0;simp only[bc,vz]at q0;try simp only[bb]
  have FA:=F.sfx (b6d hR.sfx d L L (br _) _ e0);try simp only[bb]
  by_cases h1:pk L1=bmq
  ·rw[if_pos h1];have iq1:vz B0 B1 42 [.ptr 2 0,.slice 1 [.str dkx,.str b4j]] none (L1) d X ((xm [wby] ((L1).drop 1)).map fun M=>(.bool true,M)):=c8k (L1) d X bmq (by simp) h1;cases be1:xm [wby] (L1.drop 1) with
   | none=>
    rw[be1]at iq1;simp only[bm,bh,vz]at iq1 ⊢;obtain⟨M,d',iq1⟩:=iq1;refine⟨M,d',xh rfl ?_⟩;replace hk:=hk M d';obtain⟨c0v0,c1v0,c2v0,i3v0,i4v0,i5v0,i6v0,i7v0,i8v0,i9v0⟩:=v0;exact lf59
   | some x_be1=>
    rw[be1]at iq1;simp only[bc,vz]at iq1;try simp only[bb]
    have t1:=(xj be1).trans (xp L1);have q1:=lsKey (B0:=B0) (B1:=B1) X (FA.sfx t1);cases e1:bbc cdv d x_be1 with
    | none=>
     rw[e1]at q1;simp only[bm,bh,vz]at q1 ⊢;obtain⟨M,d',q1⟩:=q1;refine⟨M,d',xh rfl ?_⟩;replace hk:=hk M d';obtain⟨c0v0,c1v0,c2v0,i3v0,i4v0,i5v0,i6v0,i7v0,i8v0,i9v0⟩:=v0;exact lf59
    | some x_e1=>
     obtain⟨v1,N1⟩:=x_e1;rw[e1]at q1;simp only[bc,vz]at q1;try simp only[bb]
     have F1:=FA.sfx (bzg.list d x_be1 L1 t1 _ e1);try simp only[bb]
     by_cases h2:pk N1=bpm
     ·rw[if_pos h2];have iq2:rH 42 [.ptr 2 0,.slice 1 [.str dd2]] (Pst B0 B1 (N1) d X) (.bool true) (Pst B0 B1 ((N1).drop 1) d X):=by have h0:=bc7 B0 B1 bpm (by simp) (N1) d X;rw[xx h2]at h0;exact h0
      have q2:=c81 B0 B1 (N1.drop 1) (F1.sfx (xp N1)).good d X;cases e2:bs4 (N1.drop 1) with
      | none=>
       rw[e2]at q2;simp only[bm,bh,vz]at q2 ⊢;obtain⟨M,d',q2⟩:=q2;refine⟨M,d',xh rfl ?_⟩;replace hk:=hk M d';obtain⟨c0v0,c1v0,c2v0,i3v0,i4v0,i5v0,i6v0,i7v0,i8v0,i9v0⟩:=v0;exact lf59
      | some x_e2=>
       obtain⟨v2,N2⟩:=x_e2;rw[e2]at q2;simp only[bc,vz]at q2;try simp only[bb]
       have F2:=F1.sfx (bhm (xp N1) _ e2);try simp only[bb]
       by_cases h3:pk N2=bfc
       ·rw[if_pos h3];have iq3:rH 42 [.ptr 2 0,.slice 1 [.str cs7]] (Pst B0 B1 (N2) d X) (.bool true) (Pst B0 B1 ((N2).drop 1) d X):=by have h0:=bc7 B0 B1 bfc (by simp) (N2) d X;rw[xx h3]at h0;exact h0
        have q3:=c81 B0 B1 (N2.drop 1) (F2.sfx (xp N2)).good d X;cases e3:bs4 (N2.drop 1) with
        | none=>
         rw[e3]at q3;simp only[bm,bh,vz]at q3 ⊢;obtain⟨M,d',q3⟩:=q3;refine⟨M,d',xh rfl ?_⟩;replace hk:=hk M d';obtain⟨c0v0,c1v0,c2v0,i3v0,i4v0,i5v0,i6v0,i7v0,i8v0,i9v0⟩:=v0;exact lf59
        | some x_e3=>
         obtain⟨v3,N3⟩:=x_e3;rw[e3]at q3;simp only[bc,vz]at q3;try simp only[bb]
         have F3:=F2.sfx (bhm (xp N2) _ e3);try simp only[bb]
         try simp only[bc,vz]
         refine xh rfl ?_;replace hk:=hk N3 d;obtain⟨c0v0,c1v0,c2v0,i3v0,i4v0,i5v0,i6v0,i7v0,i8v0,i9v0⟩:=v0;exact lf59
       ·rw[if_neg h3];have iq3:rH 42 [.ptr 2 0,.slice 1 [.str cs7]] (Pst B0 B1 (N2) d X) (.bool false) (Pst B0 B1 (N2) d X):=by have h0:=bc7 B0 B1 bfc (by simp) (N2) d X;rw[xk h3]at h0;exact h0
        try simp only[bb]
        try simp only[bc,vz]
        refine xh rfl ?_;replace hk:=hk N2 d;obtain⟨c0v0,c1v0,c2v0,i3v0,i4v0,i5v0,i6v0,i7v0,i8v0,i9v0⟩:=v0;exact lf59
     ·rw[if_neg h2];have iq2:rH 42 [.ptr 2 0,.slice 1 [.str dd2]] (Pst B0 B1 (N1) d X) (.bool false) (Pst B0 B1 (N1) d X):=by have h0:=bc7 B0 B1 bpm (by simp) (N1) d X;rw[xk h2]at h0;exact h0
      try simp only[bb]
      by_cases h4:pk N1=bfc
      ·rw[if_pos h4];have iq4:rH 42 [.ptr 2 0,.slice 1 [.str cs7]] (Pst B0 B1 (N1) d X) (.bool true) (Pst B0 B1 ((N1).drop 1) d X):=by have h0:=bc7 B0 B1 bfc (by simp) (N1) d X;rw[xx h4]at h0;exact h0
       have q4:=c81 B0 B1 (N1.drop 1) (F1.sfx (xp N1)).good d X;cases e4:bs4 (N1.drop 1) with
       | none=>
        rw[e4]at q4;simp only[bm,bh,vz]at q4 ⊢;obtain⟨M,d',q4⟩:=q4;refine⟨M,d',xh rfl ?_⟩;replace hk:=hk M d';obtain⟨c0v0,c1v0,c2v0,i3v0,i4v0,i5v0,i6v0,i7v0,i8v0,i9v0⟩:=v0;exact lf59
       | some x_e4=>
        obtain⟨v4,N4⟩:=x_e4;rw[e4]at q4;simp only[bc,vz]at q4;try simp only[bb]
        have F4:=F1.sfx (bhm (xp N1) _ e4);try simp only[bb]
        try simp only[bc,vz]
        refine xh rfl ?_;replace hk:=hk N4 d;obtain⟨c0v0,c1v0,c2v0,i3v0,i4v0,i5v0,i6v0,i7v0,i8v0,i9v0⟩:=v0;exact lf59
      ·rw[if_neg h4];have iq4:rH 42 [.ptr 2 0,.slice 1 [.str cs7]] (Pst B0 B1 (N1) d X) (.bool false) (Pst B0 B1 (N1) d X):=by have h0:=bc7 B0 B1 bfc (by simp) (N1) d X;rw[xk h4]at h0;exact h0
       try simp only[bb]
       try simp only[bc,vz]
       refine xh rfl ?_;replace hk:=hk N1 d;obtain⟨c0v0,c1v0,c2v0,i3v0,i4v0,i5v0,i6v0,i7v0,i8v0,i9v0⟩:=v0;exact lf59
  ·rw[if_neg h1];have iq1:rH 42 [.ptr 2 0,.slice 1 [.str dkx,.str b4j]] (Pst B0 B1 (L1) d X) (.bool false) (Pst B0 B1 (L1) d X):=isBy (L1) d X bmq (by simp) h1;try simp only[bb]
   by_cases h5:pk L1=bpm
   ·rw[if_pos h5];have iq5:rH 42 [.ptr 2 0,.slice 1 [.str dd2]] (Pst B0 B1 (L1) d X) (.bool true) (Pst B0 B1 ((L1).drop 1) d X):=by have h0:=bc7 B0 B1 bpm (by simp) (L1) d X;rw[xx h5]at h0;exact h0
    have q5:=c81 B0 B1 (L1.drop 1) (FA.sfx (xp L1)).good d X;cases e5:bs4 (L1.drop 1) with
    | none=>
     rw[e5]at q5;simp only[bm,bh,vz]at q5 ⊢;obtain⟨M,d',q5⟩:=q5;refine⟨M,d',xh rfl ?_⟩;replace hk:=hk M d';obtain⟨c0v0,c1v0,c2v0,i3v0,i4v0,i5v0,i6v0,i7v0,i8v0,i9v0⟩:=v0;exact lf59
    | some x_e5=>
     obtain⟨v5,N5⟩:=x_e5;rw[e5]at q5;simp only[bc,vz]at q5;try simp only[bb]
     have F5:=FA.sfx (bhm (xp L1) _ e5);try simp only[bb]
     by_cases h6:pk N5=bfc
     ·rw[if_pos h6];have iq6:rH 42 [.ptr 2 0,.slice 1 [.str cs7]] (Pst B0 B1 (N5) d X) (.bool true) (Pst B0 B1 ((N5).drop 1) d X):=by have h0:=bc7 B0 B1 bfc (by simp) (N5) d X;rw[xx h6]at h0;exact h0
      have q6:=c81 B0 B1 (N5.drop 1) (F5.sfx (xp N5)).good d X;cases e6:bs4 (N5.drop 1) with
      | none=>
       rw[e6]at q6;simp only[bm,bh,vz]at q6 ⊢;obtain⟨M,d',q6⟩:=q6;refine⟨M,d',xh rfl ?_⟩;replace hk:=hk M d';obtain⟨c0v0,c1v0,c2v0,i3v0,i4v0,i5v0,i6v0,i7v0,i8v0,i9v0⟩:=v0;exact lf59
      | some x_e6=>
       obtain⟨v6,N6⟩:=x_e6;rw[e6]at q6;simp only[bc,vz]at q6;try simp only[bb]
       have F6:=F5.sfx (bhm (xp N5) _ e6);try simp only[bb]
       try simp only[bc,vz]
       refine xh rfl ?_;replace hk:=hk N6 d;obtain⟨c0v0,c1v0,c2v0,i3v0,i4v0,i5v0,i6v0,i7v0,i8v0,i9v0⟩:=v0;exact lf59
     ·rw[if_neg h6];have iq6:rH 42 [.ptr 2 0,.slice 1 [.str cs7]] (Pst B0 B1 (N5) d X) (.bool false) (Pst B0 B1 (N5) d X):=by have h0:=bc7 B0 B1 bfc (by simp) (N5) d X;rw[xk h6]at h0;exact h0
      try simp only[bb]
      try simp only[bc,vz]
      refine xh rfl ?_;replace hk:=hk N5 d;obtain⟨c0v0,c1v0,c2v0,i3v0,i4v0,i5v0,i6v0,i7v0,i8v0,i9v0⟩:=v0;exact lf59
   ·rw[if_neg h5];have iq5:rH 42 [.ptr 2 0,.slice 1 [.str dd2]] (Pst B0 B1 (L1) d X) (.bool false) (Pst B0 B1 (L1) d X):=by have h0:=bc7 B0 B1 bpm (by simp) (L1) d X;rw[xk h5]at h0;exact h0
    try simp only[bb]
    by_cases h7:pk L1=bfc
    ·rw[if_pos h7];have iq7:rH 42 [.ptr 2 0,.slice 1 [.str cs7]] (Pst B0 B1 (L1) d X) (.bool true) (Pst B0 B1 ((L1).drop 1) d X):=by have h0:=bc7 B0 B1 bfc (by simp) (L1) d X;rw[xx h7]at h0;exact h0
     have q7:=c81 B0 B1 (L1.drop 1) (FA.sfx (xp L1)).good d X;cases e7:bs4 (L1.drop 1) with
     | none=>
      rw[e7]at q7;simp only[bm,bh,vz]at q7 ⊢;obtain⟨M,d',q7⟩:=q7;refine⟨M,d',xh rfl ?_⟩;replace hk:=hk M d';obtain⟨c0v0,c1v0,c2v0,i3v0,i4v0,i5v0,i6v0,i7v0,i8v0,i9v0⟩:=v0;exact lf59
     | some x_e7=>
      obtain⟨v7,N7⟩:=x_e7;rw[e7]at q7;simp only[bc,vz]at q7;try simp only[bb]
      have F7:=FA.sfx (bhm (xp L1) _ e7);try simp only[bb]
      try simp only[bc,vz]
      refine xh rfl ?_;replace hk:=hk N7 d;obtain⟨c0v0,c1v0,c2v0,i3v0,i4v0,i5v0,i6v0,i7v0,i8v0,i9v0⟩:=v0;exact lf59
    ·rw[if_neg h7];have iq7:rH 42 [.ptr 2 0,.slice 1 [.str cs7]] (Pst B0 B1 (L1) d X) (.bool false) (Pst B0 B1 (L1) d X):=by have h0:=bc7 B0 B1 bfc (by simp) (L1) d X;rw[xk h7]at h0;exact h0
     try simp only[bb]
     try simp only[bc,vz]
     refine xh rfl ?_;replace hk:=hk L1 d;obtain⟨c0v0,c1v0,c2v0,i3v0,i4v0,i5v0,i6v0,i7v0,i8v0,i9v0⟩:=v0;exact lf59
theorem dqm(hR:PR B0 B1 R n):PR B0 B1 (dfd R) (n+1):=⟨cfm hR.sfx,df2 hR,dsq hR,dmd hR,c3g hR⟩
theorem dk9:∀n,PR B0 B1 (rdG n) n
 | 0=>⟨cb6 0,fun L d X F=>absurd F.len (by omega),fun L d X F=>absurd F.len (by omega),fun L d X F=>absurd F.len (by omega),fun L d X F=>absurd F.len (by omega)⟩
 | n+1=>dqm (dk9 n)
end Go.Av
namespace Go.Av
open Go Go.Proofs
def cb9:LA:=[ii 0,.bool false,.bool false,.slice 4 [],.slice 6 [],.slice 7 [],.slice 7 [],.slice 7 [],.slice 1 [],.slice 13 [],.slice 3 [],ii 0,ii 0]
def df6:List (Nat×Nat):=[(3,59),(4,140),(5,62),(6,62),(7,62),(8,25),(9,32),(10,64)]
def bQ0:Bx:={cells:=cb9,own:=df6}
def bF0:Bx:={cells:=[.bool false]}
theorem bmp(c:ACode)(st:St):xf bbf c st=kgo bbf c st []:=xb bbf c st
theorem bzd(S:LB)(e:AEnd)(he:e.closed 0=true):xr 0 [] S e=some (e,[]):=by
 unfold xr;split
 ·rename_i h;have:S=[]:=by simpa using h
  rw[this]
 ·have ht:bq4 [] S ([]:LB).length:=fun i x hi _=>by simp at hi
  have h2:e.closed (([]:LB).length+0)=true:=he;rw[if_pos ⟨ht,h2⟩];simp
theorem c21(L:LT)(G:cbb L)(hl:L.length≤8000) :
  rH 21 [.slice 3 (L.map Tok.av)] [] (.tuple (match b49 L with | some q=>[q.av,.bool true] | none=>[Qr.zero.av,.bool false])) []:=by
 have hq:=(dk9 (B0:=bQ0) (B1:=bF0) (L.length+1)).query L 0 [] ⟨by omega,by omega,G,by omega,by omega⟩;unfold b49;cases e:(rdG (L.length+1)).query 0 L with
 | none=>
  rw[e]at hq;simp only[bm,bh,vz]at hq ⊢;obtain⟨M,d',hq⟩:=hq;refine eqnD rfl ?_;simp only[Pst,bQ0,bF0,cb9,df6,ck2]at hq;generalize hR:L.map Tok.av=A at *;generalize hR':M.map Tok.av=A' at *;simp[-getElem?_pos,rZa,rZb,cdp,bzp,bcb,evA,d21,r40,bcd,cgk,br6,bvv,bqv,bdv,isV,bmp,bp2,bdb,b27,b70,AOp.isCall,cq5,bg4,fv,Qr.zero,Bd.zero,Qr.av,Bd.cells,bbg,zt,xd,zr,zb,hq];rw[bzd _ _ (by simp[AEnd.closed,AV.closed,zd])]
 | some x=>
  obtain⟨v,N⟩:=x;rw[e]at hq;simp only[bc,bb,vz]at hq ⊢;have hcl:=Qr.closed 0 v;have qi:rH 42 [.ptr 2 0,.slice 1 [.str ⟨#[59]⟩]] (Pst {cells:=v.av.cells} bF0 N 0 []) (.bool (isG b3h N).1) (Pst {cells:=v.av.cells} bF0 (isG b3h N).2 0 []):=bc7 {cells:=v.av.cells} bF0 b3h (by simp) N 0 [];generalize (isG b3h N).1=b at *;generalize (isG b3h N).2=N' at *;have qf:=c43 (.ptr 2 0) (Pst {cells:=v.av.cells} bF0 N' 0 []) rfl;by_cases hN:N'=[]
  ·rw[if_pos hN];subst hN;refine eqnD rfl ?_;obtain⟨⟨c0,c1,c2,i3,i4,i5,i6,i7,i8,i9⟩,ks,li,of⟩:=v;simp only[Qr.av,Bd.cells,rZd,AV.cells,cg]at *;simp only[Pst,bQ0,bF0,cb9,df6,ck2,cg]at *;generalize hR:L.map Tok.av=A at *;generalize hR':N.map Tok.av=A' at *;simp[-getElem?_pos,rZa,rZb,cdp,bzp,bcb,evA,d21,r40,bcd,cgk,br6,bvv,bqv,bdv,isV,bmp,bp2,bdb,b27,b70,AOp.isCall,cq5,bg4,fv,Qr.zero,Bd.zero,Qr.av,Bd.cells,bbg,zt,xd,zr,zb,hq,qi];rw[bzd _ _ (by simp[AEnd.closed,AV.closed,zd]at hcl ⊢;exact hcl)]
  ·rw[if_neg hN];have hpos:0<N'.length:=kj.2 hN;have hpos':(0:Int)<(N'.length:Int):=by omega
   refine eqnD rfl ?_;obtain⟨⟨c0,c1,c2,i3,i4,i5,i6,i7,i8,i9⟩,ks,li,of⟩:=v;simp only[Qr.av,Bd.cells,rZd,AV.cells,cg]at *;simp only[Pst,bQ0,bF0,cb9,df6,ck2]at *;have hlen:(N'.map Tok.av).length=N'.length:=by simp
   generalize hR:L.map Tok.av=A at *;generalize hR':N.map Tok.av=A' at *;generalize hR2:N'.map Tok.av=A2 at *;simp[-getElem?_pos,rZa,rZb,cdp,bzp,bcb,evA,d21,r40,bcd,cgk,br6,bvv,bqv,bdv,isV,bmp,bp2,bdb,b27,b70,AOp.isCall,cq5,bg4,fv,Qr.zero,Bd.zero,Qr.av,Bd.cells,bbg,zt,xd,zr,zb,hq,qi,qf,hlen,hpos,hpos',xg];rw[bzd _ _ (by simp[AEnd.closed,AV.closed,zd])]
end Go.Av
namespace Go.Av
open Go Go.Proofs
theorem cch:∀(k n:Nat) (m:LU),m.length≤k→bd9 m=true→qGo n (m++[39])=n+m.length+1
 | k,n,[],_,_=>by simp[qGo]
 | 0,n,c::r,h,_=>by simp at h
 | k+1,n,[c],_,h=>by
  have hc:¬ c=39:=by simpa[bd9] using h
  simp[qGo,hc]
 | k+1,n,c::d::r,hk,h=>by
  simp only[cm]at hk;by_cases hc:c=39
  ·simp only[bd9,hc,if_true,bp,decide_eq_true_eq]at h;obtain⟨rfl,h2⟩:=h;subst hc;have e:qGo n (39::39::r++[39])=qGo (n+2) (r++[39]):=by simp[qGo]
   rw[e,cch k (n+2) r (by omega) h2];simp;omega
  ·have h2:bd9 (d::r)=true:=by simpa[bd9,hc] using h
   have e:qGo n (c::d::r++[39])=qGo (n+1) (d::r++[39]):=by simp[qGo,hc]
   rw[e,cch k (n+1) (d::r) (by simp;omega) h2];simp;omega
theorem dqt{s:LU}{k:Int}{t:LU}{p:Nat}(hs:s.length≤5000)(h:bvj bj9 s=some (k,t)):TokOk ⟨k,t,p⟩:=by
 have hl:=(bx3 h).2;unfold bvj at h;split at h
 ·rename_i hq;split at h
  ·cases h
  ·rename_i hn;split at h
   ·rename_i hok;simp only[bd,bq]at h;obtain⟨rfl,rfl⟩:=h;cases s with
    | nil=>cases hq
    | cons c r=>
     obtain rfl:c=39:=by simpa using hq
     have hq2:bdr (39::r)=qGo 1 r:=rfl;rw[hq2]at hn hok hl ⊢;obtain⟨mid,z,e1,e2,e3⟩:=bkp r.length 1 r (cj _) hn;have et:(39::r).take (qGo 1 r)=39::(mid++[39]):=by
      rw[e3,e1];have:1+mid.length+1=(mid.length+1)+1:=by omega
      rw[this,jd,qq];simp;exact dm (by omega)
     rw[et]at hok hl ⊢;refine⟨by dsimp only;omega,fun h=>by simp at h,fun _=>⟨rfl,?_,hok⟩,fun h=>by simp at h,fun h=>by simp at h⟩;show qGo 1 (mid++[39])=_;rw[cch mid.length 1 mid (cj _) e2];simp;omega
   ·cases h
 ·simp only at h;split at h
  ·cases hf:bcj.find? fun x=>x.isPrefixOf s with
   | none=>rw[hf]at h;cases h
   | some x=>
    rw[hf]at h;simp only[bc,bd,bq]at h;obtain⟨rfl,rfl⟩:=h;exact⟨by dsimp only;omega,fun h=>by simp at h,fun h=>by simp at h,fun h=>by simp at h,fun h=>by simp at h⟩
  split at h
  ·rename_i hw;simp only[bd,bq]at h;obtain⟨rfl,rfl⟩:=h;exact⟨by dsimp only;omega,fun h=>by simp at h,fun h=>by simp at h,fun _=>hw,fun h=>by simp at h⟩
  split at h
  ·rename_i hw;simp only[bd,bq]at h;obtain⟨rfl,rfl⟩:=h;exact⟨by dsimp only;omega,fun h=>by simp at h,fun h=>by simp at h,fun h=>by simp at h,fun _=>hw⟩
  split at h
  ·rename_i hw;simp only[bd,bq]at h;obtain⟨rfl,rfl⟩:=h;exact⟨by dsimp only;omega,fun _=>hw,fun h=>by simp at h,fun h=>by simp at h,fun h=>by simp at h⟩
  ·cases h
theorem b4q:∀(f:Nat) (s:LU) (n:Nat) {l:LT},s.length≤5000→b66 bj9 f s n=some l→cbb l∧l.length≤s.length
 | 0,s,n,l,_,h=>by cases h
 | f+1,[],n,l,_,h=>by
  obtain rfl:=bf h;exact⟨fun x hx=>(by cases hx),cj _⟩
 | f+1,c::r,n,l,hs,h=>by
  simp only[b66]at h;split at h
  ·obtain⟨h1,h2⟩:=b4q f r (n+1) (by simp at hs;omega) h;exact⟨h1,by simp;omega⟩
  ·split at h
   ·rename_i k t ho;obtain⟨l1,l2⟩:=bx3 ho;cases hl:b66 bj9 f ((c::r).drop t.length) (n+t.length) with
    | none=>rw[hl]at h;cases h
    | some m=>
     rw[hl]at h;obtain rfl:=bf h;obtain⟨h1,h2⟩:=b4q f _ _ (by simp at hs ⊢;omega) hl;refine⟨fun x hx=>?_,?_⟩
     ·rcases dc.1 hx with rfl | hx
      ·exact dqt hs ho
      ·exact h1 x hx
     ·simp only[fb]at h2;simp only[cm]at h2 l2 ⊢;omega
   ·cases h
theorem bvb{s:LU}{l:LT}(hs:s.length≤5000)(h:brq s=some l):cbb l∧l.length≤s.length:=b4q _ _ _ hs h
def bk0(s:LU):Qr×Int:=if 4000<s.length then(.zero,2) else match brq s with
 | none=>(.zero,80)
 | some l=>match b49 l with
  | none=>(.zero,90)
  | some q=>(q,0)
theorem lf60{p:Prop}(h:p:=by simp[-getElem?_pos,rZa,a9,Qr.zero,Bd.zero,Qr.av,Bd.cells,bbg,zt,xd,zr,zb, *]):p:=h
theorem lf61{p:Prop}(h:p:=by simp[-getElem?_pos,rZa,a9, *]):p:=h
theorem c9(s:LU):rH 9 [.str (bs s)] [] (.tuple [(bk0 s).1.av,ii (bk0 s).2]) []:=by
 have qt:=cv6 (c20 s);unfold tokE at qt;unfold bk0;by_cases hb:4000<s.length
 ·rw[if_pos hb]at qt ⊢;refine xh rfl ?_;exact lf60
 ·rw[if_neg hb]at qt ⊢;cases ht:brq s with
  | none=>
   rw[ht]at qt;dsimp only at qt ⊢;refine xh rfl ?_;exact lf60
  | some l=>
   obtain⟨G,hl⟩:=bvb (by omega) ht;rw[ht]at qt;dsimp only at qt ⊢;have qp:=c21 l G (by omega);cases hr:b49 l with
   | none=>
    rw[hr]at qp;dsimp only at qp ⊢;refine xh rfl ?_;generalize l.map Tok.av=A at *;simp only[Qr.zero,Bd.zero,Qr.av,Bd.cells,bbg,zt,xd,zr,zb,rZd,cg]at *;exact lf61
   | some q=>
    rw[hr]at qp;dsimp only at qp ⊢;refine xh rfl ?_;generalize l.map Tok.av=A at *;obtain⟨⟨c0,c1,c2,i3,i4,i5,i6,i7,i8,i9⟩,ks,li,of⟩:=q;simp only[Qr.av,Bd.cells,rZd]at *;exact lf61
end Go.Av
namespace Go.Av
open Go Go.Proofs
def Rst(L0:LT)(at':Nat)(bad:Bool):LB:=[{cells:=[.slice 3 (L0.map Tok.av),ii (at':Int),.bool bad]}]
theorem b5s{L0:LT}{i:Nat}{x:Tok}(h:L0[i]? = some x):(L0.map Tok.av)[i]? = some (.agg [ii x.k,.str (bs x.t),ii (x.at':Int)]):=by rw[d4,h];rfl
theorem djm{α:Type}{l:List α}{i:Nat}{x:α}(h:l[i]? = some x):l.drop i=x::l.drop (i+1):=by
 obtain⟨h1,h2⟩:=cf.1 h;rw[mf h1,h2]
theorem wat{n:Nat}(h:n≤100000):IntKind.i64.wrap ((n:Int))=(n:Int):=by
 cases n with
 | zero=>decide
 | succ n=>have:=bp7 (n:=n) (by omega);simpa using this
theorem lf62{p:Prop}(h:p:=by simp[-getElem?_pos,rZa,-Int.natCast_add,a97,pk,dmv,zm,cm4, *]):p:=h
theorem dvj(L0:LT)(hL:L0.length≤9000)(at':Nat)(ha:at'≤9001)(bad:Bool)(a:Nat)(h2:a≤2)(w:LU)(hw:w≠[]) :
  rP 97 [ii (a:Int),.str (bs w)] (Rst L0 at' bad) (.bool (decide (pk (L0.drop (at'+a))=w))) (Rst L0 at' bad):=by
 have hwr:IntKind.i64.wrap ((at':Int)+(a:Int))=((at'+a:Nat):Int):=by
  have:=wat (n:=at'+a) (by omega)
  rwa [rq]at this ⊢
 refine xh rfl ?_;simp only[Rst];have hlen:(L0.map Tok.av).length=L0.length:=by simp
 by_cases hge:L0.length≤at'+a
 ·have e:L0.drop (at'+a)=[]:=fj hge;have hf:(decide (pk (L0.drop (at'+a))=w))=false:=by rw[e];exact decide_eq_false (fun h=>hw h.symm)
  rw[hf];have hge':(L0.length:Int)≤((at'+a:Nat):Int):=by omega
  generalize L0.map Tok.av=A at *;simp[-getElem?_pos,rZa,-Int.natCast_add,a97,hwr,hlen,hge,hge']
 ·obtain⟨x,hx⟩:∃x,L0[at'+a]? = some x:=⟨L0[at'+a],cz (by omega)⟩;have hd:L0.drop (at'+a)=x::L0.drop (at'+a+1):=djm hx;have hge':¬ (L0.length:Int)≤((at'+a:Nat):Int):=by omega
  have hlt:((at'+a:Nat):Int)<(L0.length:Int):=by omega
  have hltn:at'+a<L0.length:=by omega
  have g:=b5s hx;rw[hd];generalize L0.map Tok.av=A at *;obtain⟨k,t,p⟩:=x;by_cases h1:k=1
  ·subst h1;exact lf62
  ·by_cases h5:k=5
   ·subst h5;exact lf62
   ·have hw':¬ []=w:=fun e=>hw e.symm
    simp[-getElem?_pos,rZa,-Int.natCast_add,a97,hwr,hlen,hge,hge',hlt,hltn,g,pk,h1,h5,hw']
theorem b5b(L0:LT)(hL:L0.length≤9000)(at':Nat)(ha:at'≤9001)(bad:Bool)(w:LU)(hw:w≠[]) :
  rP 97 [ii 0,.str (bs w)] (Rst L0 at' bad) (.bool (decide (pk (L0.drop at')=w))) (Rst L0 at' bad):=dvj L0 hL at' ha bad 0 (by omega) w hw
def RG(L0 M:LT):LB:=Rst L0 (L0.length - M.length) false
theorem bhf{L0 M:LT}(h:M<:+L0):L0.drop (L0.length - M.length)=M:=by
 obtain⟨p,rfl⟩:=h;simp
theorem bsr{L0:LT}{x:Tok}{r:LT}(h:(x::r)<:+L0):RG L0 r=Rst L0 (L0.length - (x::r).length+1) false:=by
 have:=h.length_le;simp only[cm]at this ⊢;unfold RG;congr 1;omega
theorem bqr(a:Nat)(h2:a≤2){L0 M:LT}(hL:L0.length≤9000)(hM:M<:+L0)(w:LU)(hw:w≠[]) :
  rP 97 [ii (a:Int),.str (bs w)] (RG L0 M) (.bool (decide (pk (M.drop a)=w))) (RG L0 M):=by
 have h:=dvj L0 hL (L0.length - M.length) (by omega) false a h2 w hw;rw[← fz,bhf hM]at h;exact h
theorem lf63{p:Prop}(h:p:=by simp[-getElem?_pos,rZa,a46, *]):p:=h
theorem bcq{L0 M:LT}(hL:L0.length≤9000)(hM:M<:+L0)(w:LU)(hw:w≠[]) :
  rP 46 [.str (bs w)] (RG L0 M) (.bool (isG w M).1) (RG L0 (isG w M).2):=by
 have q:=bqr 0 (by omega) hL hM w hw;rw[dj]at q;simp only[cx,dd]at q;by_cases h:pk M=w
 ·rw[xx h];obtain⟨x,r,rfl⟩:=bm7 h hw;rw[jf,dj,bsr hM];simp only[h,decide_true]at q;have hw1:=bp7 (n:=L0.length - (x::r).length) (by omega);refine xh rfl ?_;simp only[RG,Rst]at *;generalize L0.length - (x::r).length=i at *;generalize L0.map Tok.av=A at *;simp[-getElem?_pos,rZa,a46,q,hw1,xg]
 ·rw[xk h];simp only[h,decide_false]at q;refine xh rfl ?_;simp only[RG,Rst]at *;generalize L0.length - M.length=i at *;generalize L0.map Tok.av=A at *;exact lf63
theorem bd2(L0:LT)(at':Nat)(w:ByteArray):rW 46 w (Rst L0 at' true) false (Rst L0 at' true):=by
 refine xh rfl ?_;simp only[Rst];generalize L0.map Tok.av=A at *;simp[-getElem?_pos,rZa,a46]
theorem dsh{L0 M:LT}(hL:L0.length≤9000)(hM:M<:+L0)(w:LU)(hw:w≠[])(h:pk M=w) :
  rP 92 [.str (bs w)] (RG L0 M) (.tuple []) (RG L0 (M.drop 1)):=by
 have q:=bcq hL hM w hw;rw[xx h]at q;refine xh rfl ?_;simp[-getElem?_pos,rZa,-List.drop_one,a92,q];refine xg ?_ _;show 1≤1+0
 decide
theorem dsj{L0 M:LT}(hL:L0.length≤9000)(hM:M<:+L0)(w:LU)(hw:w≠[])(h:¬ pk M=w) :
  rP 92 [.str (bs w)] (RG L0 M) (.tuple []) (Rst L0 (L0.length - M.length) true):=by
 have q:=bcq hL hM w hw;rw[xk h]at q;refine xh rfl ?_;simp only[RG,Rst]at *;generalize L0.length - M.length=i at *;generalize L0.map Tok.av=A at *;simp[-getElem?_pos,rZa,a92,q,xg]
theorem bjt(L0:LT)(at':Nat)(w:ByteArray):rP 92 [.str w] (Rst L0 at' true) (.tuple []) (Rst L0 at' true):=by
 have q:=bd2 L0 at' w;refine xh rfl ?_;simp only[Rst]at *;generalize L0.map Tok.av=A at *;simp[-getElem?_pos,rZa,a92,q]
theorem lf64{p:Prop}(h:p:=by simp[-getElem?_pos,rZa,a93, *]):p:=h
theorem bzm{L0 M:LT}(hL:L0.length≤9000)(hM:M<:+L0)(k:Int):rP 93 [ii k] (RG L0 M) (.bool (bbr k M)) (RG L0 M):=by
 have hd:=bhf hM;have hle:=hM.length_le;refine xh rfl ?_;have hlen:(L0.map Tok.av).length=L0.length:=by simp
 cases M with
 | nil=>
  simp only[RG,Rst,ct,Nat.sub_zero,bbr];generalize L0.map Tok.av=A at *;exact lf64
 | cons x r=>
  have hx:L0[L0.length - (x::r).length]? = some x:=by
   have:=fd (xs:=L0) (i:=L0.length - (x::r).length) (j:=0);rw[hd]at this;simpa using this.symm
  have g:=b5s hx;have hlt:L0.length - (x::r).length<L0.length:=by simp at hle ⊢;omega
  have hlt':((L0.length - (x::r).length:Nat):Int)<(L0.length:Int):=by omega
  simp only[RG,Rst,bbr];generalize L0.length - (x::r).length=i at *;generalize L0.map Tok.av=A at *;obtain⟨kx,t,p⟩:=x;by_cases h:kx=k
  ·simp[-getElem?_pos,rZa,a93,hlen,g,hlt,hlt',h]
  ·simp[-getElem?_pos,rZa,a93,hlen,g,hlt,hlt',h]
theorem bjv(L0:LT)(at':Nat)(k:Int):rP 93 [ii k] (Rst L0 at' true) (.bool false) (Rst L0 at' true):=by
 refine xh rfl ?_;simp only[Rst];generalize L0.map Tok.av=A at *;simp[-getElem?_pos,rZa,a93]
theorem lf65{p:Prop}(h:p:=by simp[-getElem?_pos,rZa,a95,xg, *]):p:=h
theorem crj{L0 M:LT}(hL:L0.length≤9000)(hM:M<:+L0):bbf 95 [.ptr 0 0] (RG L0 M)=match bcc 2 M with
  | some x=>some (.ret (.str (bs x.1)) none,RG L0 x.2)
  | none=>some (.ret (.str ⟨#[]⟩) none,Rst L0 (L0.length - M.length) true):=by
 have q:=bzm hL hM 2;have hd:=bhf hM;have hle:=hM.length_le;have hlen:(L0.map Tok.av).length=L0.length:=by simp
 cases M with
 | nil=>
  simp only[bcc];refine xh rfl ?_;simp only[RG,Rst,bbr,ct,Nat.sub_zero]at *;generalize L0.map Tok.av=A at *;exact lf65
 | cons x r=>
  have hx:L0[L0.length - (x::r).length]? = some x:=by
   have:=fd (xs:=L0) (i:=L0.length - (x::r).length) (j:=0);rw[hd]at this;simpa using this.symm
  have g:=b5s hx;have hlt:L0.length - (x::r).length<L0.length:=by simp at hle ⊢;omega
  have hlt':((L0.length - (x::r).length:Nat):Int)<(L0.length:Int):=by omega
  have hw1:=bp7 (n:=L0.length - (x::r).length) (by omega);simp only[bcc];by_cases h:x.k=2
  ·rw[if_pos h];dsimp only;rw[bsr hM];have hw2:=wat (n:=L0.length - (x::r).length) (by omega);have hn:bbr 2 (x::r)=true:=by simp[bbr,h]
   rw[hn]at q;refine xh rfl ?_;simp only[RG,Rst]at *;generalize L0.length - (x::r).length=i at *;generalize L0.map Tok.av=A at *;exact lf65
  ·rw[if_neg h];have hn:bbr 2 (x::r)=false:=by simp[bbr,h]
   rw[hn]at q;refine xh rfl ?_;simp only[RG,Rst]at *;generalize L0.length - (x::r).length=i at *;generalize L0.map Tok.av=A at *;exact lf65
theorem bmd(L0:LT)(at':Nat):rP 95 [] (Rst L0 at' true) (.str ⟨#[]⟩) (Rst L0 at' true):=by
 have q:=bjv L0 at' 2;refine xh rfl ?_;simp only[Rst]at *;generalize L0.map Tok.av=A at *;simp[-getElem?_pos,rZa,a95,q]
theorem bfj(L0:LT)(at':Nat):rP 94 [] (Rst L0 at' true) (ii 0) (Rst L0 at' true):=by
 have q:=bjv L0 at' 3;refine xh rfl ?_;simp only[Rst]at *;generalize L0.map Tok.av=A at *;simp[-getElem?_pos,rZa,a94,q]
theorem lf66{p:Prop}(h:p:=by simp[-getElem?_pos,rZa,a96,xg, *]):p:=h
theorem b8m(L0:LT)(at':Nat)(bad:Bool)(n:Nat):rP 96 [ii (n:Int)] (Rst L0 at' bad) (.tuple []) (Rst L0 at' (bad||decide (16<n))):=by
 refine xh rfl ?_;simp only[Rst];generalize L0.map Tok.av=A at *;by_cases h:16<n
 ·have h':(16:Int)<(n:Int):=by omega
  exact lf66
 ·have h':¬ (16:Int)<(n:Int):=by omega
  exact lf66
theorem lf67{p:Prop}(h:p:=by simp[-getElem?_pos,rZa,a212,xg, *]):p:=h
theorem cb7(L0:LT)(at':Nat)(bad:Bool)(d:Int)(h0:0≤d)(h1:d≤1000):rP 212 [ii d] (Rst L0 at' bad) (ii (d+1)) (Rst L0 at' (bad||decide (24<d+1))):=by
 have w1:=dvc h0 h1;refine xh rfl ?_;simp only[Rst];generalize L0.map Tok.av=A at *;by_cases h:24<d+1
 ·have h':24≤d:=by omega
  exact lf67
 ·have h':¬ 24≤d:=by omega
  exact lf67
end Go.Av
namespace Go.Av
open Go Go.Proofs
noncomputable def cv5(f:St→Option (AEx×St)):Option (AEx×St)→Option (AEx×St)
 | some (.normal,s)=>zc f s
 | r=>r
theorem bc2(f:St→Option (AEx×St))(st:St):zc f st=cv5 f (f st):=by
 cases h:f st with
 | none=>
  have:=bmf f st;rw[h]at this;simpa[cv5] using this
 | some p=>
  obtain⟨x,s⟩:=p;cases x with
  | normal=>exact xq h
  | _=>exact xc h (by simp)
theorem b84(f:St→Option (AEx×St))(i:Nat)(s:St):cv5 f (some (.exit i,s))=some (.exit i,s):=rfl
theorem cgp(f:St→Option (AEx×St))(s:St):cv5 f (some (.ret,s))=some (.ret,s):=rfl
theorem b5x(f:St→Option (AEx×St))(v:AV)(s:St):cv5 f (some (.panic v,s))=some (.panic v,s):=rfl
theorem b2r(f:St→Option (AEx×St))(s:St):cv5 f (some (.normal,s))=zc f s:=rfl
theorem rZf:type_of% (And.intro @b84 (And.intro @cgp (And.intro @b5x @b2r))):=And.intro @b84 (And.intro @cgp (And.intro @b5x @b2r))
theorem bfq(L0:LT)(a:Nat)(b:Bool):(Rst L0 a b)[0]? = some {cells:=[.slice 3 (L0.map Tok.av),ii (a:Int),.bool b]}:=rfl
theorem bj3(L0:LT)(a:Nat)(b:Bool):(Rst L0 a b).set 0 {cells:=[.slice 3 (L0.map Tok.av),ii (a:Int),.bool true]}=Rst L0 a true:=rfl
def zNd:AV:=.agg [ii 0,.str ⟨#[]⟩,ii 0,.bool false,.bool false,.slice 7 [],.slice 13 []]
def zBd:AV:=.agg [ii 0,.bool false,.bool false,.slice 4 [],.slice 6 [],.slice 7 [],.slice 7 [],.slice 7 [],.slice 1 [],.slice 13 []]
def zQr:AV:=.agg [ii 0,.bool false,.bool false,.slice 4 [],.slice 6 [],.slice 7 [],.slice 7 [],.slice 7 [],.slice 1 [],.slice 13 [],.slice 3 [],ii (-1),ii (-1)]
theorem dtf(L0:LT)(at':Nat)(d:Int):rP 266 [ii d] (Rst L0 at' true) (zNd) (Rst L0 at' true):=by
 refine xh rfl ?_;simp[-getElem?_pos,rZa,-List.drop_one,-List.drop_drop,rZb,bc2,rZf,bmp,bfq,a266,bd2,bjt,bjv,bmd,bfj,zNd,zBd,zQr,bj3,xg]
theorem db5(L0:LT)(at':Nat)(d:Int):rP 276 [ii d] (Rst L0 at' true) (zNd) (Rst L0 at' true):=by
 refine xh rfl ?_;simp[-getElem?_pos,rZa,-List.drop_one,-List.drop_drop,rZb,bc2,rZf,bmp,bfq,a276,bd2,bjt,bjv,bmd,bfj,zNd,zBd,zQr,bj3,xg]
theorem db4(L0:LT)(at':Nat)(d:Int):rP 275 [ii d] (Rst L0 at' true) (zNd) (Rst L0 at' true):=by
 refine xh rfl ?_;simp[-getElem?_pos,rZa,-List.drop_one,-List.drop_drop,rZb,bc2,rZf,bmp,bfq,a275,bmj,bd2,bjt,bjv,bmd,bfj,db5,zNd,zBd,zQr,bj3,xg]
theorem dtd(L0:LT)(at':Nat)(d:Int):rP 274 [ii d] (Rst L0 at' true) (zNd) (Rst L0 at' true):=by
 refine xh rfl ?_;simp[-getElem?_pos,rZa,-List.drop_one,-List.drop_drop,rZb,bc2,rZf,bmp,bfq,a274,bmk,bd2,bjt,bjv,bmd,bfj,db4,zNd,zBd,zQr,bj3,xg]
theorem db6(L0:LT)(at':Nat)(d:Int):rP 256 [ii d] (Rst L0 at' true) (zNd) (Rst L0 at' true):=by
 refine xh rfl ?_;simp[-getElem?_pos,rZa,-List.drop_one,-List.drop_drop,rZb,bc2,rZf,bmp,bfq,a256,bq2,bd2,bjt,bjv,bmd,bfj,dtf,zNd,zBd,zQr,bj3,xg]
theorem ch0(L0:LT)(at':Nat)(d:Int):rP 241 [ii d] (Rst L0 at' true) (zNd) (Rst L0 at' true):=by
 refine xh rfl ?_;simp[-getElem?_pos,rZa,-List.drop_one,-List.drop_drop,rZb,bc2,rZf,bmp,bfq,a241,bq3,bd2,bjt,bjv,bmd,bfj,db6,zNd,zBd,zQr,bj3,xg]
theorem dkc(L0:LT)(at':Nat)(d:Int):rP 180 [ii d] (Rst L0 at' true) (zBd) (Rst L0 at' true):=by
 refine xh rfl ?_;simp[-getElem?_pos,rZa,-List.drop_one,-List.drop_drop,rZb,bc2,rZf,bmp,bfq,a180,bsh,bd2,bjt,bjv,bmd,bfj,zNd,zBd,zQr,bj3,xg]
theorem b_part(L0:LT)(at':Nat)(d:Int):rP 145 [ii d] (Rst L0 at' true) (zBd) (Rst L0 at' true):=by
 refine xh rfl ?_;simp[-getElem?_pos,rZa,-List.drop_one,-List.drop_drop,rZb,bc2,rZf,bmp,bfq,a145,bsj,bd2,bjt,bjv,bmd,bfj,dkc,zNd,zBd,zQr,bj3,xg]
theorem b_body(L0:LT)(at':Nat)(d:Int):rP 91 [ii d] (Rst L0 at' true) (zBd) (Rst L0 at' true):=by
 refine xh rfl ?_;simp[-getElem?_pos,rZa,-List.drop_one,-List.drop_drop,rZb,bc2,rZf,bmp,bfq,a91,bz6,bd2,bjt,bjv,bmd,bfj,b_part,zNd,zBd,zQr,bj3,xg]
theorem b8k(b:Bd)(S:LB):bbf 90 [b.av] S=some (.ret (bj2 b).av (some (1000000+75)),S):=by
 refine xh rfl ?_;obtain⟨c0,c1,c2,i3,i4,i5,i6,i7,i8,i9⟩:=b;simp only[Bd.av,bj2,Qr.av,Bd.cells,rZd,cg];simp[-getElem?_pos,rZa,-List.drop_one,-List.drop_drop,rZb,bc2,rZf,bmp,bfq,a90]
theorem dqf(S:LB):bbf 90 [zBd] S=some (.ret zQr (some (1000000+75)),S):=b8k .zero S
theorem cm7(L0:LT)(at':Nat)(d:Int):rP 45 [ii d] (Rst L0 at' true) (zQr) (Rst L0 at' true):=by
 have hn:=dqf (Rst L0 at' true);have hb:=b_body L0 at' d;simp only[zBd,zQr]at hn hb;refine xh rfl ?_;simp[-getElem?_pos,rZa,-List.drop_one,-List.drop_drop,rZb,bc2,rZf,bmp,bfq,a45,b3c,bd2,bjt,bjv,bmd,bfj,hb,hn,zNd,zBd,zQr,bj3,xg]
theorem cm6(L0:LT)(at':Nat)(d:Int):rP 258 [ii d] (Rst L0 at' true) (.agg [ii 1,.str ⟨#[]⟩,.str ⟨#[]⟩,.slice 13 [],.slice 6 [],.slice 7 []]) (Rst L0 at' true):=by
 refine xh rfl ?_;simp[-getElem?_pos,rZa,-List.drop_one,-List.drop_drop,rZb,bc2,rZf,bmp,bfq,a258,bd2,bjt,bjv,bmd,bfj,zNd,zBd,zQr,bj3,xg]
theorem cdj(L0:LT)(at':Nat)(d:Int):bbf 213 [.ptr 0 0,ii d] (Rst L0 at' true)=some (.ret (.slice 7 []) (some 118),Rst L0 at' true):=by
 have qm:=b8m L0 at' true 0;simp only[jh,cx,dd]at qm;refine xh rfl ?_;simp[-getElem?_pos,rZa,-List.drop_one,-List.drop_drop,rZb,bc2,rZf,bmp,bfq,a213,b2b,ch0,bd2,qm,xg]
theorem cm8(L0:LT)(at':Nat)(d:Int):rP 278 [ii d] (Rst L0 at' true) (.agg [ii 18,.str ⟨#[]⟩,ii 0,.bool false,.bool false,.slice 7 [],.slice 13 []]) (Rst L0 at' true):=by
 refine xh rfl ?_;simp[-getElem?_pos,rZa,-List.drop_one,-List.drop_drop,rZb,bc2,rZf,bmp,bfq,a278,bpf,bd2,bjt,bjv,bmd,bfj,ch0,zNd,zBd,zQr,bj3,xg]
end Go.Av
namespace Go.Av
open Go Go.Proofs
structure FitD(n:Nat)(L0 M:LT)(d:Int):Prop where
 fit:Fit n M d
 sfx:M<:+L0
 len:L0.length≤9000
theorem FitD.sub{n:Nat}{L0 M N:LT}{d:Int}(F:FitD n L0 M d)(h:N<:+M):FitD n L0 N d:=⟨F.fit.sfx h,h.trans F.sfx,F.len⟩
theorem FitD.down{n:Nat}{L0 M N:LT}{d:Int}(F:FitD (n+1) L0 M d)(h:N<:+M)(hl:N.length<M.length):FitD n L0 N d:=⟨F.fit.down h hl,h.trans F.sfx,F.len⟩
theorem FitD.deep{n:Nat}{L0 M N:LT}{d:Int}(F:FitD (n+1) L0 M d)(h:N<:+M)(hl:N.length<M.length)(hd:¬ 24<d+1):FitD n L0 N (d+1):=⟨F.fit.deep h hl hd,h.trans F.sfx,F.len⟩
def bf3{α:Type}(f:Nat)(av:α→AV)(own:Option Nat)(L0 M:LT)(d:Int)(o:Option (α×LT)):Prop:=match o with
 | some (v,N)=>bbf f [.ptr 0 0,.int .i64 d] (RG L0 M)=some (.ret (av v) own,RG L0 N)
 | none=>∃v a,a≤L0.length∧bbf f [.ptr 0 0,.int .i64 d] (RG L0 M)=some (.ret (av v) own,Rst L0 a true)
def RcD{α:Type}(f:Nat)(av:α→AV)(own:Option Nat)(p:Rdr α)(n:Nat):Prop:=∀L0 M d,FitD n L0 M d→bf3 f av own L0 M d (p d M)
structure PRD(R:Rd)(n:Nat):Prop where
 sfx:R.Sfx
 query:RcD 45 Qr.av none R.query n
 expr:RcD 241 Nd.av none R.expr n
 neg:RcD 266 Nd.av none R.neg n
 sign:RcD 276 Nd.av none R.sign n
variable{R:Rd}{n:Nat}
theorem bh8(w:LU)(a b:Nd)(S:LB):rH 257 [.str (bs w),a.av,b.av] S (bhb w a b).av S:=by
 refine xh rfl ?_;obtain⟨op,text,num,no,dis,args,query⟩:=a;obtain⟨op',text',num',no',dis',args',query'⟩:=b;simp only[Nd.av,bhb,xd,zb];generalize xd args=A at *;generalize xd args'=A' at *;generalize zb query=Q at *;generalize zb query'=Q' at *;simp[-getElem?_pos,rZa,a257]
def nZr:Bx:={cells:=[ii 0,.str ⟨#[]⟩,ii 0,.bool false,.bool false,.slice 7 [],.slice 13 []],own:=[(5,118),(6,45)]}
theorem b32{L0:LT}{x:Tok}{r:LT}(h:(x::r)<:+L0):(L0.map Tok.av)[L0.length - (x::r).length]? = some (.agg [ii x.k,.str (bs x.t),ii (x.at':Int)]):=by
 apply b5s;have:=fd (xs:=L0) (i:=L0.length - (x::r).length) (j:=0);rw[bhf h]at this;simpa using this.symm
theorem ck0{x:Tok}{r:LT}{w:LU}(h:pk (x::r)=w)(hw:w≠[]):x.t=w:=by
 simp only[pk]at h;split at h
 ·exact h
 ·exact absurd h.symm hw
def b4z(d:Int)(a:LA)(S:LB):St:={σ:=[(0,.v (.ptr 0 0)),(1,.v (ii d)),(4,.l 4 0),(5,.l 5 0)],own:=[],loc:=[(4,nZr),(5,{cells:=a})],S:=S}
def b20(a:LA)(S:LB):St:={σ:=[(4,.l 4 0),(5,.l 5 0)],own:=[],loc:=[(4,nZr),(5,{cells:=a})],S:=S}
theorem lf68{p:Prop}(h:p:=by simp[-getElem?_pos,rZa,-List.drop_one,-List.drop_drop,rZb,xg,bq3,b4z,b20,nZr, *]):p:=h
theorem djb{L0 M:LT}(hL:L0.length≤9000)(hM:M<:+L0)(d:Int)(a:Nd)(h:¬ pk M∈[wor]):xf bbf bq3 (b4z d a.av.cells (RG L0 M))=some (.exit 0,b20 a.av.cells (RG L0 M)):=by
 have q:rW 46 dc8 (RG L0 M) false (RG L0 M):=by have h0:=bcq hL hM wor (by simp);rw[xk (fun e=>h (by simp[e]))]at h0;exact h0
 obtain⟨opa,texta,numa,noa,disa,argsa,querya⟩:=a;simp only[Nd.av,AV.cells]at *;rw[xb];exact lf68
theorem crq(L0:LT)(at':Nat)(d:Int)(a:Nd):xf bbf bq3 (b4z d a.av.cells (Rst L0 at' true))=some (.exit 0,b20 a.av.cells (Rst L0 at' true)):=by
 have q:=bd2 L0 at' dc8;obtain⟨opa,texta,numa,noa,disa,argsa,querya⟩:=a;simp only[Nd.av,AV.cells]at *;rw[xb];exact lf68
theorem b9c{L0 M:LT}(hL:L0.length≤9000)(hM:M<:+L0)(d:Int)(a:Nd)(h:pk M∈[wor])(v:Nd)(S':LB)(hc:rP 256 [ii d] (RG L0 (M.drop 1)) v.av S') :
  xf bbf bq3 (b4z d a.av.cells (RG L0 M))=some (.normal,b4z d (bhb (pk M) a v).av.cells S'):=by
 have h:pk M=wor:=by simpa using h
 have q:rW 46 dc8 (RG L0 M) true (RG L0 (M.drop 1)):=by have h0:=bcq hL hM wor (by simp);rw[xx h]at h0;exact h0
 have qb:rH 257 [.str dc8,a.av,v.av] S' (bhb wor a v).av S':=bh8 wor a v S';rw[h];obtain⟨opa,texta,numa,noa,disa,argsa,querya⟩:=a;obtain⟨opv,t_,n_,nov,d_,a_,u_⟩:=v;simp only[Nd.av,bhb,AV.cells]at *;rw[xb];exact lf68
theorem c9b(p:Rdr Nd)(hp:Sfx p)(hc:RcD 256 Nd.av none p n)(L0:LT)(d:Int):∀(f:Nat) (a:Nd) (M:LT),FitD n L0 M d→M.length<f →
  match bdz p [wor] d f a M with
  | some (v,N)=>zc (xf bbf bq3) (b4z d a.av.cells (RG L0 M))=some (.exit 0,b20 v.av.cells (RG L0 N))
  | none=>∃v at',at'≤L0.length∧zc (xf bbf bq3) (b4z d a.av.cells (RG L0 M))=some (.exit 0,b20 (Nd.av v).cells (Rst L0 at' true)):=by
 intro f
 induction f with
 | zero=>intro a M _ h;omega
 | succ f ih=>
  intro a M F hf;simp only[bdz];by_cases h:pk M∈[wor]
  ·rw[if_pos h];have hl:=zk (L:=M) rfl (fun e=>by rw[e]at h;simp at h);have q:=hc L0 _ d (F.sub (xp M));cases e1:p d (M.drop 1) with
   | none=>
    rw[e1]at q;obtain⟨v,at',ha,q⟩:=q;simp only[bh];refine⟨bhb (pk M) a v,at',ha,?_⟩;rw[xq (b9c F.len F.sfx d a h v _ q)];exact xc (crq L0 at' d _) (by simp)
   | some x=>
    obtain⟨v,N⟩:=x;rw[e1]at q;simp only[bf3]at q;simp only[bb];have t:=hp d _ _ (br _) _ e1;have:=t.length_le;rw[xq (b9c F.len F.sfx d a h v _ q)];exact ih _ N (F.sub (t.trans (xp M))) (by dsimp only at this;omega)
  ·rw[if_neg h];exact xc (djb F.len F.sfx d a h) (by simp)
theorem lf69{p:Prop}(h:p:=by simp[-getElem?_pos,rZa,-List.drop_one,-List.drop_drop,rZb,xg,a241, *]):p:=h
theorem d_expr(p:Rdr Nd)(hp:Sfx p)(hc:RcD 256 Nd.av none p n):RcD 241 Nd.av none (bxt p [wor]) n:=by
 intro L0 M d F;have q:=hc L0 M d F;unfold bxt;cases e1:p d M with
 | none=>
  rw[e1]at q;obtain⟨v,at',ha,q⟩:=q;simp only[bh];refine⟨v,at',ha,xh rfl ?_⟩;have hl:zc (xf bbf bq3) (b4z d v.av.cells (Rst L0 at' true))=_:=xc (crq L0 at' d v) (by simp);have hk:∀e,xr 0 (RG L0 M) (Rst L0 at' true) e=some (e,Rst L0 at' true):=fun e=>by refine xg ?_ _;show 1≤1+0;decide
  obtain⟨opv,t_,n_,nov,d_,a_,u_⟩:=v;simp only[Nd.av,AV.cells,b4z,b20,nZr]at *;exact lf69
 | some x=>
  obtain⟨v,N⟩:=x;rw[e1]at q;simp only[bf3]at q;simp only[bb];have t:=hp d _ _ (br _) _ e1;have hl:=c9b p hp hc L0 d (N.length+1) v N (F.sub t) (by omega);cases e2:bdz p [wor] d (N.length+1) v N with
  | none=>
   rw[e2]at hl;obtain⟨w,at',ha,hl⟩:=hl;refine⟨w,at',ha,xh rfl ?_⟩;have hk:∀e,xr 0 (RG L0 M) (Rst L0 at' true) e=some (e,Rst L0 at' true):=fun e=>by refine xg ?_ _;show 1≤1+0;decide
   obtain⟨opv,t_,n_,nov,d_,a_,u_⟩:=v;obtain⟨opw,textw,numw,now,disw,argsw,queryw⟩:=w;simp only[Nd.av,AV.cells,b4z,b20,nZr]at *;exact lf69
  | some y=>
   obtain⟨w,N'⟩:=y;rw[e2]at hl;simp only[bf3];refine xh rfl ?_;have hk:∀e,xr 0 (RG L0 M) (RG L0 N') e=some (e,RG L0 N'):=fun e=>by refine xg ?_ _;show 1≤1+0;decide
   obtain⟨opv,t_,n_,nov,d_,a_,u_⟩:=v;obtain⟨opw,textw,numw,now,disw,argsw,queryw⟩:=w;simp only[Nd.av,AV.cells,b4z,b20,nZr]at *;exact lf69
def b4x(d:Int)(a:LA)(S:LB):St:={σ:=[(0,.v (.ptr 0 0)),(1,.v (ii d)),(4,.l 4 0),(5,.l 5 0)],own:=[],loc:=[(4,nZr),(5,{cells:=a})],S:=S}
def b2z(a:LA)(S:LB):St:={σ:=[(4,.l 4 0),(5,.l 5 0)],own:=[],loc:=[(4,nZr),(5,{cells:=a})],S:=S}
theorem lf70{p:Prop}(h:p:=by simp[-getElem?_pos,rZa,-List.drop_one,-List.drop_drop,rZb,xg,bq2,b4x,b2z,nZr, *]):p:=h
theorem dj2{L0 M:LT}(hL:L0.length≤9000)(hM:M<:+L0)(d:Int)(a:Nd)(h:¬ pk M∈[b69]):xf bbf bq2 (b4x d a.av.cells (RG L0 M))=some (.exit 0,b2z a.av.cells (RG L0 M)):=by
 have q:rW 46 cj1 (RG L0 M) false (RG L0 M):=by have h0:=bcq hL hM b69 (by simp);rw[xk (fun e=>h (by simp[e]))]at h0;exact h0
 obtain⟨opa,texta,numa,noa,disa,argsa,querya⟩:=a;simp only[Nd.av,AV.cells]at *;rw[xb];exact lf70
theorem cr0(L0:LT)(at':Nat)(d:Int)(a:Nd):xf bbf bq2 (b4x d a.av.cells (Rst L0 at' true))=some (.exit 0,b2z a.av.cells (Rst L0 at' true)):=by
 have q:=bd2 L0 at' cj1;obtain⟨opa,texta,numa,noa,disa,argsa,querya⟩:=a;simp only[Nd.av,AV.cells]at *;rw[xb];exact lf70
theorem b9j{L0 M:LT}(hL:L0.length≤9000)(hM:M<:+L0)(d:Int)(a:Nd)(h:pk M∈[b69])(v:Nd)(S':LB)(hc:rP 266 [ii d] (RG L0 (M.drop 1)) v.av S') :
  xf bbf bq2 (b4x d a.av.cells (RG L0 M))=some (.normal,b4x d (bhb (pk M) a v).av.cells S'):=by
 have h:pk M=b69:=by simpa using h
 have q:rW 46 cj1 (RG L0 M) true (RG L0 (M.drop 1)):=by have h0:=bcq hL hM b69 (by simp);rw[xx h]at h0;exact h0
 have qb:rH 257 [.str cj1,a.av,v.av] S' (bhb b69 a v).av S':=bh8 b69 a v S';rw[h];obtain⟨opa,texta,numa,noa,disa,argsa,querya⟩:=a;obtain⟨opv,t_,n_,nov,d_,a_,u_⟩:=v;simp only[Nd.av,bhb,AV.cells]at *;rw[xb];exact lf70
theorem dbc(p:Rdr Nd)(hp:Sfx p)(hc:RcD 266 Nd.av none p n)(L0:LT)(d:Int):∀(f:Nat) (a:Nd) (M:LT),FitD n L0 M d→M.length<f →
  match bdz p [b69] d f a M with
  | some (v,N)=>zc (xf bbf bq2) (b4x d a.av.cells (RG L0 M))=some (.exit 0,b2z v.av.cells (RG L0 N))
  | none=>∃v at',at'≤L0.length∧zc (xf bbf bq2) (b4x d a.av.cells (RG L0 M))=some (.exit 0,b2z (Nd.av v).cells (Rst L0 at' true)):=by
 intro f
 induction f with
 | zero=>intro a M _ h;omega
 | succ f ih=>
  intro a M F hf;simp only[bdz];by_cases h:pk M∈[b69]
  ·rw[if_pos h];have hl:=zk (L:=M) rfl (fun e=>by rw[e]at h;simp at h);have q:=hc L0 _ d (F.sub (xp M));cases e1:p d (M.drop 1) with
   | none=>
    rw[e1]at q;obtain⟨v,at',ha,q⟩:=q;simp only[bh];refine⟨bhb (pk M) a v,at',ha,?_⟩;rw[xq (b9j F.len F.sfx d a h v _ q)];exact xc (cr0 L0 at' d _) (by simp)
   | some x=>
    obtain⟨v,N⟩:=x;rw[e1]at q;simp only[bf3]at q;simp only[bb];have t:=hp d _ _ (br _) _ e1;have:=t.length_le;rw[xq (b9j F.len F.sfx d a h v _ q)];exact ih _ N (F.sub (t.trans (xp M))) (by dsimp only at this;omega)
  ·rw[if_neg h];exact xc (dj2 F.len F.sfx d a h) (by simp)
theorem lf71{p:Prop}(h:p:=by simp[-getElem?_pos,rZa,-List.drop_one,-List.drop_drop,rZb,xg,a256, *]):p:=h
theorem d_conj(p:Rdr Nd)(hp:Sfx p)(hc:RcD 266 Nd.av none p n):RcD 256 Nd.av none (bxt p [b69]) n:=by
 intro L0 M d F;have q:=hc L0 M d F;unfold bxt;cases e1:p d M with
 | none=>
  rw[e1]at q;obtain⟨v,at',ha,q⟩:=q;simp only[bh];refine⟨v,at',ha,xh rfl ?_⟩;have hl:zc (xf bbf bq2) (b4x d v.av.cells (Rst L0 at' true))=_:=xc (cr0 L0 at' d v) (by simp);have hk:∀e,xr 0 (RG L0 M) (Rst L0 at' true) e=some (e,Rst L0 at' true):=fun e=>by refine xg ?_ _;show 1≤1+0;decide
  obtain⟨opv,t_,n_,nov,d_,a_,u_⟩:=v;simp only[Nd.av,AV.cells,b4x,b2z,nZr]at *;exact lf71
 | some x=>
  obtain⟨v,N⟩:=x;rw[e1]at q;simp only[bf3]at q;simp only[bb];have t:=hp d _ _ (br _) _ e1;have hl:=dbc p hp hc L0 d (N.length+1) v N (F.sub t) (by omega);cases e2:bdz p [b69] d (N.length+1) v N with
  | none=>
   rw[e2]at hl;obtain⟨w,at',ha,hl⟩:=hl;refine⟨w,at',ha,xh rfl ?_⟩;have hk:∀e,xr 0 (RG L0 M) (Rst L0 at' true) e=some (e,Rst L0 at' true):=fun e=>by refine xg ?_ _;show 1≤1+0;decide
   obtain⟨opv,t_,n_,nov,d_,a_,u_⟩:=v;obtain⟨opw,textw,numw,now,disw,argsw,queryw⟩:=w;simp only[Nd.av,AV.cells,b4x,b2z,nZr]at *;exact lf71
  | some y=>
   obtain⟨w,N'⟩:=y;rw[e2]at hl;simp only[bf3];refine xh rfl ?_;have hk:∀e,xr 0 (RG L0 M) (RG L0 N') e=some (e,RG L0 N'):=fun e=>by refine xg ?_ _;show 1≤1+0;decide
   obtain⟨opv,t_,n_,nov,d_,a_,u_⟩:=v;obtain⟨opw,textw,numw,now,disw,argsw,queryw⟩:=w;simp only[Nd.av,AV.cells,b4x,b2z,nZr]at *;exact lf71
def b01(d:Int)(a:LA)(S:LB):St:={σ:=[(0,.v (.ptr 0 0)),(1,.v (ii d)),(4,.l 4 0),(5,.l 5 0)],own:=[],loc:=[(4,nZr),(5,{cells:=a})],S:=S}
def bt5(a:LA)(S:LB):St:={σ:=[(4,.l 4 0),(5,.l 5 0)],own:=[],loc:=[(4,nZr),(5,{cells:=a})],S:=S}
theorem lf72{p:Prop}(h:p:=by simp[-getElem?_pos,rZa,-List.drop_one,-List.drop_drop,rZb,xg,bmk,b01,bt5,nZr,bfq, *]):p:=h
theorem dp3{L0 M:LT}(hL:L0.length≤9000)(hM:M<:+L0)(d:Int)(a:Nd)(h:¬ pk M∈[b4d,bd6,b4h]):xf bbf bmk (b01 d a.av.cells (RG L0 M))=some (.exit 0,bt5 a.av.cells (RG L0 M)):=by
 have q1:rP 97 [ii 0,.str dks] (RG L0 M) (.bool (decide (pk M=b4d))) (RG L0 M):=bqr 0 (by omega) hL hM b4d (by simp);have q2:rP 97 [ii 0,.str cjr] (RG L0 M) (.bool (decide (pk M=bd6))) (RG L0 M):=bqr 0 (by omega) hL hM bd6 (by simp);have q3:rP 97 [ii 0,.str dkt] (RG L0 M) (.bool (decide (pk M=b4h))) (RG L0 M):=bqr 0 (by omega) hL hM b4h (by simp);simp only[dc,fp,or_false,not_or]at h;obtain⟨h1,h2,h3⟩:=h;simp only[h1,h2,h3,decide_false]at q1 q2 q3;obtain⟨opa,texta,numa,noa,disa,argsa,querya⟩:=a;simp only[Nd.av,AV.cells]at *;simp only[RG]at *;rw[xb];exact lf72
theorem c2h(L0:LT)(at':Nat)(d:Int)(a:Nd):xf bbf bmk (b01 d a.av.cells (Rst L0 at' true))=some (.exit 0,bt5 a.av.cells (Rst L0 at' true)):=by
 obtain⟨opa,texta,numa,noa,disa,argsa,querya⟩:=a;simp only[Nd.av,AV.cells]at *;rw[xb];simp[-getElem?_pos,rZa,-List.drop_one,-List.drop_drop,rZb,xg,bmk,b01,bt5,nZr,bfq]
theorem cfj{L0 M:LT}(hL:L0.length≤9000)(hM:M<:+L0)(d:Int)(a:Nd)(h:pk M∈[b4d,bd6,b4h])(v:Nd)(S':LB)(hc:rP 275 [ii d] (RG L0 (M.drop 1)) v.av S') :
  xf bbf bmk (b01 d a.av.cells (RG L0 M))=some (.normal,b01 d (bhb (pk M) a v).av.cells S'):=by
 have q1:rP 97 [ii 0,.str dks] (RG L0 M) (.bool (decide (pk M=b4d))) (RG L0 M):=bqr 0 (by omega) hL hM b4d (by simp);have q2:rP 97 [ii 0,.str cjr] (RG L0 M) (.bool (decide (pk M=bd6))) (RG L0 M):=bqr 0 (by omega) hL hM bd6 (by simp);have q3:rP 97 [ii 0,.str dkt] (RG L0 M) (.bool (decide (pk M=b4h))) (RG L0 M):=bqr 0 (by omega) hL hM b4h (by simp);have qb:=bh8 (pk M) a v S';obtain⟨x,r,rfl⟩:∃x r,M=x::r:=bm7 (w:=pk M) rfl (fun e=>by rw[e]at h;simp at h);have gx:=b32 hM;have hx:=ck0 (x:=x) (r:=r) rfl (fun e=>by rw[e]at h;simp at h);rw[hx]at gx;have hle:=hM.length_le;have hlen:(L0.map Tok.av).length=L0.length:=by simp
 have hlt:L0.length - (x::r).length<L0.length:=by simp at hle ⊢;omega
 have hlt':((L0.length - (x::r).length:Nat):Int)<(L0.length:Int):=by omega
 have hw1:=bp7 (n:=L0.length - (x::r).length) (by omega);rw[jf,dj,bsr hM]at hc;obtain⟨opa,texta,numa,noa,disa,argsa,querya⟩:=a;obtain⟨opv,t_,n_,nov,d_,a_,u_⟩:=v;simp only[Nd.av,bhb,AV.cells]at *;simp only[RG,Rst]at *;generalize L0.length - (x::r).length=i at *;generalize pk (x::r)=w at *;generalize L0.map Tok.av=A at *;rw[xb];simp only[rq,pq,qk]at *;simp only[dc,fp,or_false]at h;rcases h with rfl | rfl | rfl<;>simp[-getElem?_pos,rZa,-List.drop_one,-List.drop_drop,rZb,xg,bmk,b01,bt5,nZr,q1,q2,q3,qb,hc,gx,hw1,hlen,hlt,hlt']
theorem dfb(p:Rdr Nd)(hp:Sfx p)(hc:RcD 275 Nd.av none p n)(L0:LT)(d:Int):∀(f:Nat) (a:Nd) (M:LT),FitD n L0 M d→M.length<f →
  match bdz p [b4d,bd6,b4h] d f a M with
  | some (v,N)=>zc (xf bbf bmk) (b01 d a.av.cells (RG L0 M))=some (.exit 0,bt5 v.av.cells (RG L0 N))
  | none=>∃v at',at'≤L0.length∧zc (xf bbf bmk) (b01 d a.av.cells (RG L0 M))=some (.exit 0,bt5 (Nd.av v).cells (Rst L0 at' true)):=by
 intro f
 induction f with
 | zero=>intro a M _ h;omega
 | succ f ih=>
  intro a M F hf;simp only[bdz];by_cases h:pk M∈[b4d,bd6,b4h]
  ·rw[if_pos h];have hl:=zk (L:=M) rfl (fun e=>by rw[e]at h;simp at h);have q:=hc L0 _ d (F.sub (xp M));cases e1:p d (M.drop 1) with
   | none=>
    rw[e1]at q;obtain⟨v,at',ha,q⟩:=q;simp only[bh];refine⟨bhb (pk M) a v,at',ha,?_⟩;rw[xq (cfj F.len F.sfx d a h v _ q)];exact xc (c2h L0 at' d _) (by simp)
   | some x=>
    obtain⟨v,N⟩:=x;rw[e1]at q;simp only[bf3]at q;simp only[bb];have t:=hp d _ _ (br _) _ e1;have:=t.length_le;rw[xq (cfj F.len F.sfx d a h v _ q)];exact ih _ N (F.sub (t.trans (xp M))) (by dsimp only at this;omega)
  ·rw[if_neg h];exact xc (dp3 F.len F.sfx d a h) (by simp)
theorem lf73{p:Prop}(h:p:=by simp[-getElem?_pos,rZa,-List.drop_one,-List.drop_drop,rZb,xg,a274, *]):p:=h
theorem d_sum(p:Rdr Nd)(hp:Sfx p)(hc:RcD 275 Nd.av none p n):RcD 274 Nd.av none (bxt p [b4d,bd6,b4h]) n:=by
 intro L0 M d F;have q:=hc L0 M d F;unfold bxt;cases e1:p d M with
 | none=>
  rw[e1]at q;obtain⟨v,at',ha,q⟩:=q;simp only[bh];refine⟨v,at',ha,xh rfl ?_⟩;have hl:zc (xf bbf bmk) (b01 d v.av.cells (Rst L0 at' true))=_:=xc (c2h L0 at' d v) (by simp);have hk:∀e,xr 0 (RG L0 M) (Rst L0 at' true) e=some (e,Rst L0 at' true):=fun e=>by refine xg ?_ _;show 1≤1+0;decide
  obtain⟨opv,t_,n_,nov,d_,a_,u_⟩:=v;simp only[Nd.av,AV.cells,b01,bt5,nZr]at *;exact lf73
 | some x=>
  obtain⟨v,N⟩:=x;rw[e1]at q;simp only[bf3]at q;simp only[bb];have t:=hp d _ _ (br _) _ e1;have hl:=dfb p hp hc L0 d (N.length+1) v N (F.sub t) (by omega);cases e2:bdz p [b4d,bd6,b4h] d (N.length+1) v N with
  | none=>
   rw[e2]at hl;obtain⟨w,at',ha,hl⟩:=hl;refine⟨w,at',ha,xh rfl ?_⟩;have hk:∀e,xr 0 (RG L0 M) (Rst L0 at' true) e=some (e,Rst L0 at' true):=fun e=>by refine xg ?_ _;show 1≤1+0;decide
   obtain⟨opv,t_,n_,nov,d_,a_,u_⟩:=v;obtain⟨opw,textw,numw,now,disw,argsw,queryw⟩:=w;simp only[Nd.av,AV.cells,b01,bt5,nZr]at *;exact lf73
  | some y=>
   obtain⟨w,N'⟩:=y;rw[e2]at hl;simp only[bf3];refine xh rfl ?_;have hk:∀e,xr 0 (RG L0 M) (RG L0 N') e=some (e,RG L0 N'):=fun e=>by refine xg ?_ _;show 1≤1+0;decide
   obtain⟨opv,t_,n_,nov,d_,a_,u_⟩:=v;obtain⟨opw,textw,numw,now,disw,argsw,queryw⟩:=w;simp only[Nd.av,AV.cells,b01,bt5,nZr]at *;exact lf73
def b00(d:Int)(a:LA)(S:LB):St:={σ:=[(0,.v (.ptr 0 0)),(1,.v (ii d)),(4,.l 4 0),(5,.l 5 0)],own:=[],loc:=[(4,nZr),(5,{cells:=a})],S:=S}
def bt4(a:LA)(S:LB):St:={σ:=[(4,.l 4 0),(5,.l 5 0)],own:=[],loc:=[(4,nZr),(5,{cells:=a})],S:=S}
theorem lf74{p:Prop}(h:p:=by simp[-getElem?_pos,rZa,-List.drop_one,-List.drop_drop,rZb,xg,bmj,b00,bt4,nZr,bfq, *]):p:=h
theorem dd8{L0 M:LT}(hL:L0.length≤9000)(hM:M<:+L0)(d:Int)(a:Nd)(h:¬ pk M∈[bcx,brm,bhc]):xf bbf bmj (b00 d a.av.cells (RG L0 M))=some (.exit 0,bt4 a.av.cells (RG L0 M)):=by
 have q1:rP 97 [ii 0,.str wb1] (RG L0 M) (.bool (decide (pk M=bcx))) (RG L0 M):=bqr 0 (by omega) hL hM bcx (by simp);have q2:rP 97 [ii 0,.str dkr] (RG L0 M) (.bool (decide (pk M=brm))) (RG L0 M):=bqr 0 (by omega) hL hM brm (by simp);have q3:rP 97 [ii 0,.str dkq] (RG L0 M) (.bool (decide (pk M=bhc))) (RG L0 M):=bqr 0 (by omega) hL hM bhc (by simp);simp only[dc,fp,or_false,not_or]at h;obtain⟨h1,h2,h3⟩:=h;simp only[h1,h2,h3,decide_false]at q1 q2 q3;obtain⟨opa,texta,numa,noa,disa,argsa,querya⟩:=a;simp only[Nd.av,AV.cells]at *;simp only[RG]at *;rw[xb];exact lf74
theorem cp6(L0:LT)(at':Nat)(d:Int)(a:Nd):xf bbf bmj (b00 d a.av.cells (Rst L0 at' true))=some (.exit 0,bt4 a.av.cells (Rst L0 at' true)):=by
 obtain⟨opa,texta,numa,noa,disa,argsa,querya⟩:=a;simp only[Nd.av,AV.cells]at *;rw[xb];simp[-getElem?_pos,rZa,-List.drop_one,-List.drop_drop,rZb,xg,bmj,b00,bt4,nZr,bfq]
theorem b79{L0 M:LT}(hL:L0.length≤9000)(hM:M<:+L0)(d:Int)(a:Nd)(h:pk M∈[bcx,brm,bhc])(v:Nd)(S':LB)(hc:rP 276 [ii d] (RG L0 (M.drop 1)) v.av S') :
  xf bbf bmj (b00 d a.av.cells (RG L0 M))=some (.normal,b00 d (bhb (pk M) a v).av.cells S'):=by
 have q1:rP 97 [ii 0,.str wb1] (RG L0 M) (.bool (decide (pk M=bcx))) (RG L0 M):=bqr 0 (by omega) hL hM bcx (by simp);have q2:rP 97 [ii 0,.str dkr] (RG L0 M) (.bool (decide (pk M=brm))) (RG L0 M):=bqr 0 (by omega) hL hM brm (by simp);have q3:rP 97 [ii 0,.str dkq] (RG L0 M) (.bool (decide (pk M=bhc))) (RG L0 M):=bqr 0 (by omega) hL hM bhc (by simp);have qb:=bh8 (pk M) a v S';obtain⟨x,r,rfl⟩:∃x r,M=x::r:=bm7 (w:=pk M) rfl (fun e=>by rw[e]at h;simp at h);have gx:=b32 hM;have hx:=ck0 (x:=x) (r:=r) rfl (fun e=>by rw[e]at h;simp at h);rw[hx]at gx;have hle:=hM.length_le;have hlen:(L0.map Tok.av).length=L0.length:=by simp
 have hlt:L0.length - (x::r).length<L0.length:=by simp at hle ⊢;omega
 have hlt':((L0.length - (x::r).length:Nat):Int)<(L0.length:Int):=by omega
 have hw1:=bp7 (n:=L0.length - (x::r).length) (by omega);rw[jf,dj,bsr hM]at hc;obtain⟨opa,texta,numa,noa,disa,argsa,querya⟩:=a;obtain⟨opv,t_,n_,nov,d_,a_,u_⟩:=v;simp only[Nd.av,bhb,AV.cells]at *;simp only[RG,Rst]at *;generalize L0.length - (x::r).length=i at *;generalize pk (x::r)=w at *;generalize L0.map Tok.av=A at *;rw[xb];simp only[rq,pq,qk]at *;simp only[dc,fp,or_false]at h;rcases h with rfl | rfl | rfl<;>simp[-getElem?_pos,rZa,-List.drop_one,-List.drop_drop,rZb,xg,bmj,b00,bt4,nZr,q1,q2,q3,qb,hc,gx,hw1,hlen,hlt,hlt']
theorem c2d(p:Rdr Nd)(hp:Sfx p)(hc:RcD 276 Nd.av none p n)(L0:LT)(d:Int):∀(f:Nat) (a:Nd) (M:LT),FitD n L0 M d→M.length<f →
  match bdz p [bcx,brm,bhc] d f a M with
  | some (v,N)=>zc (xf bbf bmj) (b00 d a.av.cells (RG L0 M))=some (.exit 0,bt4 v.av.cells (RG L0 N))
  | none=>∃v at',at'≤L0.length∧zc (xf bbf bmj) (b00 d a.av.cells (RG L0 M))=some (.exit 0,bt4 (Nd.av v).cells (Rst L0 at' true)):=by
 intro f
 induction f with
 | zero=>intro a M _ h;omega
 | succ f ih=>
  intro a M F hf;simp only[bdz];by_cases h:pk M∈[bcx,brm,bhc]
  ·rw[if_pos h];have hl:=zk (L:=M) rfl (fun e=>by rw[e]at h;simp at h);have q:=hc L0 _ d (F.sub (xp M));cases e1:p d (M.drop 1) with
   | none=>
    rw[e1]at q;obtain⟨v,at',ha,q⟩:=q;simp only[bh];refine⟨bhb (pk M) a v,at',ha,?_⟩;rw[xq (b79 F.len F.sfx d a h v _ q)];exact xc (cp6 L0 at' d _) (by simp)
   | some x=>
    obtain⟨v,N⟩:=x;rw[e1]at q;simp only[bf3]at q;simp only[bb];have t:=hp d _ _ (br _) _ e1;have:=t.length_le;rw[xq (b79 F.len F.sfx d a h v _ q)];exact ih _ N (F.sub (t.trans (xp M))) (by dsimp only at this;omega)
  ·rw[if_neg h];exact xc (dd8 F.len F.sfx d a h) (by simp)
theorem lf75{p:Prop}(h:p:=by simp[-getElem?_pos,rZa,-List.drop_one,-List.drop_drop,rZb,xg,a275, *]):p:=h
theorem d_term(p:Rdr Nd)(hp:Sfx p)(hc:RcD 276 Nd.av none p n):RcD 275 Nd.av none (bxt p [bcx,brm,bhc]) n:=by
 intro L0 M d F;have q:=hc L0 M d F;unfold bxt;cases e1:p d M with
 | none=>
  rw[e1]at q;obtain⟨v,at',ha,q⟩:=q;simp only[bh];refine⟨v,at',ha,xh rfl ?_⟩;have hl:zc (xf bbf bmj) (b00 d v.av.cells (Rst L0 at' true))=_:=xc (cp6 L0 at' d v) (by simp);have hk:∀e,xr 0 (RG L0 M) (Rst L0 at' true) e=some (e,Rst L0 at' true):=fun e=>by refine xg ?_ _;show 1≤1+0;decide
  obtain⟨opv,t_,n_,nov,d_,a_,u_⟩:=v;simp only[Nd.av,AV.cells,b00,bt4,nZr]at *;exact lf75
 | some x=>
  obtain⟨v,N⟩:=x;rw[e1]at q;simp only[bf3]at q;simp only[bb];have t:=hp d _ _ (br _) _ e1;have hl:=c2d p hp hc L0 d (N.length+1) v N (F.sub t) (by omega);cases e2:bdz p [bcx,brm,bhc] d (N.length+1) v N with
  | none=>
   rw[e2]at hl;obtain⟨w,at',ha,hl⟩:=hl;refine⟨w,at',ha,xh rfl ?_⟩;have hk:∀e,xr 0 (RG L0 M) (Rst L0 at' true) e=some (e,Rst L0 at' true):=fun e=>by refine xg ?_ _;show 1≤1+0;decide
   obtain⟨opv,t_,n_,nov,d_,a_,u_⟩:=v;obtain⟨opw,textw,numw,now,disw,argsw,queryw⟩:=w;simp only[Nd.av,AV.cells,b00,bt4,nZr]at *;exact lf75
  | some y=>
   obtain⟨w,N'⟩:=y;rw[e2]at hl;simp only[bf3];refine xh rfl ?_;have hk:∀e,xr 0 (RG L0 M) (RG L0 N') e=some (e,RG L0 N'):=fun e=>by refine xg ?_ _;show 1≤1+0;decide
   obtain⟨opv,t_,n_,nov,d_,a_,u_⟩:=v;obtain⟨opw,textw,numw,now,disw,argsw,queryw⟩:=w;simp only[Nd.av,AV.cells,b00,bt4,nZr]at *;exact lf75
end Go.Av
namespace Go.Av
open Go Go.Proofs
variable{R:Rd}{n:Nat}
theorem bff(L0 M N:LT)(e:AEnd):xr 0 (RG L0 M) (RG L0 N) e=some (e,RG L0 N):=by
 refine xg ?_ _;show 1≤1+0
 decide
theorem bgp(L0 M:LT)(a:Nat)(b:Bool)(e:AEnd):xr 0 (RG L0 M) (Rst L0 a b) e=some (e,Rst L0 a b):=by
 refine xg ?_ _;show 1≤1+0
 decide
theorem ccs(L0:LT)(a c:Nat)(b b':Bool)(e:AEnd):xr 0 (Rst L0 a b) (Rst L0 c b') e=some (e,Rst L0 c b'):=by
 refine xg ?_ _;show 1≤1+0
 decide
theorem rZe:type_of% (And.intro @bff (And.intro @bgp (And.intro @ccs (And.intro @zNd.eq_1 (And.intro @zBd.eq_1 (And.intro @zQr.eq_1 (And.intro @bd2 (And.intro @bjt (And.intro @bjv (And.intro @bmd (And.intro @bfj (And.intro @dtf (And.intro @db5 (And.intro @db4 (And.intro @dtd (And.intro @db6 (And.intro @ch0 (And.intro @cdj (And.intro @cm7 (And.intro @cm6 @cm8)))))))))))))))))))):=And.intro @bff (And.intro @bgp (And.intro @ccs (And.intro @zNd.eq_1 (And.intro @zBd.eq_1 (And.intro @zQr.eq_1 (And.intro @bd2 (And.intro @bjt (And.intro @bjv (And.intro @bmd (And.intro @bfj (And.intro @dtf (And.intro @db5 (And.intro @db4 (And.intro @dtd (And.intro @db6 (And.intro @ch0 (And.intro @cdj (And.intro @cm7 (And.intro @cm6 @cm8)))))))))))))))))))
theorem cdf(L0 M:LT)(d:Int)(h0:0≤d)(h1:d≤1000)(hd:24<d+1):rP 212 [ii d] (RG L0 M) (ii (d+1)) (Rst L0 (L0.length - M.length) true):=by
 have h:=cb7 L0 (L0.length - M.length) false d h0 h1;simp only[hd,decide_true,ph]at h;exact h
theorem cdg(L0 M:LT)(d:Int)(h0:0≤d)(h1:d≤1000)(hd:¬ 24<d+1):rP 212 [ii d] (RG L0 M) (ii (d+1)) (RG L0 M):=by
 have h:=cb7 L0 (L0.length - M.length) false d h0 h1;simp only[hd,decide_false,mq]at h;exact h
theorem bhv(L0 M:LT):(RG L0 M)[0]? = some {cells:=[.slice 3 (L0.map Tok.av),ii ((L0.length - M.length:Nat):Int),.bool false]}:=rfl
theorem lf76{p:Prop}(h:p:=by (try simp only[rZc,rZd,cg]at *);simp[-getElem?_pos,rZa,-List.drop_one,-List.drop_drop,rZb,rZe,a266, *];try rfl):p:=h
theorem d_neg(hR:PRD R n)(p:Rdr Nd)(hc:RcD 272 Nd.av none p (n+1)):RcD 266 Nd.av none (fun d L=>if pk L=bpk then(bbj R.neg d (L.drop 1)).bind fun x=>some (.mk 10 bpk 0 false false [x.1] [],x.2) else p d L) (n+1):=by
 intro L0 M d F;dsimp only;by_cases h:pk M=bpk
 ·rw[if_pos h];have q:rW 46 wb8 (RG L0 (M)) true (RG L0 ((M).drop 1)):=by have h0:=bcq F.len (F.sfx) bpk (by simp);rw[xx h]at h0;exact h0
  have lt:=bgh h (by simp);unfold bbj;by_cases hd:24<d+1
  ·skip;rw[if_pos hd];have qd:=cdf L0 (M.drop 1) d F.fit.h0 F.fit.d3 hd;simp only[bh];refine⟨.mk 10 bpk 0 false false [(.mk 0 [] 0 false false [] [])] [],(L0.length - (M.drop 1).length),jb _ _,xh rfl ?_⟩;exact lf76
  ·skip;rw[if_neg hd];have qd:=cdg L0 (M.drop 1) d F.fit.h0 F.fit.d3 hd;have q1:=hR.neg L0 _ (d+1) (F.deep (xp M) lt hd);cases e1:R.neg (d+1) (M.drop 1) with
   | none=>
    rw[e1]at q1;obtain⟨v,at_,ha_,q1⟩:=q1;try simp only[bh]
    refine⟨.mk 10 bpk 0 false false [v] [],at_,ha_,xh rfl ?_⟩;obtain⟨opv,t_,n_,nov,d_,a_,u_⟩:=v;exact lf76
   | some x_e1=>
    obtain⟨v,N⟩:=x_e1;rw[e1]at q1;simp only[bf3]at q1;try simp only[bb]
    try simp only[bf3]
    refine xh rfl ?_;obtain⟨opv,t_,n_,nov,d_,a_,u_⟩:=v;exact lf76
 ·rw[if_neg h];have q:rW 46 wb8 (RG L0 (M)) false (RG L0 (M)):=by have h0:=bcq F.len (F.sfx) bpk (by simp);rw[xk h]at h0;exact h0
  have gg:=bhv L0 M;have q1:=hc L0 M d F;cases e1:p d M with
  | none=>
   rw[e1]at q1;obtain⟨v,at_,ha_,q1⟩:=q1;try simp only[bh]
   refine⟨v,at_,ha_,xh rfl ?_⟩;obtain⟨opv,t_,n_,nov,d_,a_,u_⟩:=v;exact lf76
  | some x_e1=>
   obtain⟨v,N⟩:=x_e1;rw[e1]at q1;simp only[bf3]at q1;try simp only[bb]
   try simp only[bf3]
   refine xh rfl ?_;obtain⟨opv,t_,n_,nov,d_,a_,u_⟩:=v;exact lf76
theorem lf77{p:Prop}(h:p:=by (try simp only[rZc,rZd,cg]at *);simp[-getElem?_pos,rZa,-List.drop_one,-List.drop_drop,rZb,rZe,a276, *];try rfl):p:=h
theorem d_sign(hR:PRD R n)(p:Rdr Nd)(hc:RcD 277 Nd.av none p (n+1)):RcD 276 Nd.av none (fun d L=>if pk L=bd6 then(bbj R.sign d (L.drop 1)).bind fun x=>some (.mk 10 bd6 0 false false [x.1] [],x.2) else p d L) (n+1):=by
 intro L0 M d F;dsimp only;by_cases h:pk M=bd6
 ·rw[if_pos h];have q:rW 46 cjr (RG L0 (M)) true (RG L0 ((M).drop 1)):=by have h0:=bcq F.len (F.sfx) bd6 (by simp);rw[xx h]at h0;exact h0
  have lt:=bgh h (by simp);unfold bbj;by_cases hd:24<d+1
  ·skip;rw[if_pos hd];have qd:=cdf L0 (M.drop 1) d F.fit.h0 F.fit.d3 hd;simp only[bh];refine⟨.mk 10 bd6 0 false false [(.mk 0 [] 0 false false [] [])] [],(L0.length - (M.drop 1).length),jb _ _,xh rfl ?_⟩;exact lf77
  ·skip;rw[if_neg hd];have qd:=cdg L0 (M.drop 1) d F.fit.h0 F.fit.d3 hd;have q1:=hR.sign L0 _ (d+1) (F.deep (xp M) lt hd);cases e1:R.sign (d+1) (M.drop 1) with
   | none=>
    rw[e1]at q1;obtain⟨v,at_,ha_,q1⟩:=q1;try simp only[bh]
    refine⟨.mk 10 bd6 0 false false [v] [],at_,ha_,xh rfl ?_⟩;obtain⟨opv,t_,n_,nov,d_,a_,u_⟩:=v;exact lf77
   | some x_e1=>
    obtain⟨v,N⟩:=x_e1;rw[e1]at q1;simp only[bf3]at q1;try simp only[bb]
    try simp only[bf3]
    refine xh rfl ?_;obtain⟨opv,t_,n_,nov,d_,a_,u_⟩:=v;exact lf77
 ·rw[if_neg h];have q:rW 46 cjr (RG L0 (M)) false (RG L0 (M)):=by have h0:=bcq F.len (F.sfx) bd6 (by simp);rw[xk h]at h0;exact h0
  have gg:=bhv L0 M;have q1:=hc L0 M d F;cases e1:p d M with
  | none=>
   rw[e1]at q1;obtain⟨v,at_,ha_,q1⟩:=q1;try simp only[bh]
   refine⟨v,at_,ha_,xh rfl ?_⟩;obtain⟨opv,t_,n_,nov,d_,a_,u_⟩:=v;exact lf77
  | some x_e1=>
   obtain⟨v,N⟩:=x_e1;rw[e1]at q1;simp only[bf3]at q1;try simp only[bb]
   try simp only[bf3]
   refine xh rfl ?_;obtain⟨opv,t_,n_,nov,d_,a_,u_⟩:=v;exact lf77
theorem bqk{α:Type}{p:Rdr α}(hp:Sfx p)(d:Int):∀(f g:Nat) (acc:List α) (L:LT),L.length<f→L.length<g→bbm p d f acc L=bbm p d g acc L
 | 0,_,_,_,h,_=>absurd h (by omega)
 | _+1,0,_,_,_,h=>absurd h (by omega)
 | f+1,g+1,acc,L,hf,hg=>by
  simp only[bbm];by_cases h:pk L=bd7
  ·rw[if_pos h,if_pos h];have hl:=zk h (by simp);cases e:p d (L.drop 1) with
   | none=>rfl
   | some x=>
    have t:=hp d _ _ (br _) _ e;have:=t.length_le;simp only[bb];exact bqk hp d f g _ _ (by omega) (by omega)
  ·rw[if_neg h,if_neg h]
def ctk(d:Int)(acc:List Nd)(S:LB):St:={σ:=[(0,.v (.ptr 0 0)),(1,.v (ii d)),(5,.v (.slice 7 (xd acc)))],own:=[(5,118)],loc:=[],S:=S}
def cg9(acc:List Nd)(S:LB):St:={σ:=[(0,.v (.ptr 0 0)),(5,.v (.slice 7 (xd acc)))],own:=[(5,118)],loc:=[],S:=S}
theorem bvx{L0 M:LT}(d:Int)(acc:List Nd)(hacc:acc.length≤9000)(v:Nd)(S' S2:LB)(b:Bool)(hc:rP 241 [ii d] (RG L0 M) v.av S')(hh:rW 46 wb3 S' b S2) :
  xf bbf b2b (ctk d acc (RG L0 M))=some (if b=true then .normal else .exit 0,if b=true then ctk d (acc++[v]) S2 else cg9 (acc++[v]) S2):=by
 have b1:(acc.length+1)*88≤140737488355328:=dg (dq _ (kq hacc)) (by decide);have hlA:(xd acc).length=acc.length:=bdh acc;have e5:xd (acc++[v])=xd acc++[v.av]:=by simp[bpv,xd]
 have gg:=bhv L0 M;rw[xb];simp only[ctk,cg9,e5];obtain⟨opv,t_,n_,nov,d_,a_,u_⟩:=v;simp only[Nd.av]at *;generalize xd acc=A at *;cases b<;>simp[-getElem?_pos,rZa,-List.drop_one,-List.drop_drop,rZb,rZe,b2b,gg,hc,hh,hlA,b1]
theorem czk(p:Rdr Nd)(hp:Sfx p)(hc:RcD 241 Nd.av none p n)(L0:LT)(d:Int):∀(f:Nat) (acc:List Nd) (M:LT),FitD n L0 M d→M.length<f→acc.length+M.length≤L0.length →
  match (p d M).bind fun x=>bbm p d f (acc++[x.1]) x.2 with
  | some (vs,N)=>vs.length≤9001∧zc (xf bbf b2b) (ctk d acc (RG L0 M))=some (.exit 0,cg9 vs (RG L0 N))
  | none=>∃vs at',vs.length≤9001∧at'≤L0.length∧zc (xf bbf b2b) (ctk d acc (RG L0 M))=some (.exit 0,cg9 vs (Rst L0 at' true)):=by
 intro f
 induction f with
 | zero=>intro acc M _ h;omega
 | succ f ih=>
  intro acc M F hf hacc;have hl0:=F.len;have q:=hc L0 M d F;cases e1:p d M with
  | none=>
   rw[e1]at q;obtain⟨v,at',ha,q⟩:=q;simp only[bh];exact⟨acc++[v],at',by simp only[dh,cm,ct];omega,ha,xc (bvx d acc (by omega) v _ _ false q (bd2 L0 at' _)) (by simp)⟩
  | some x=>
   obtain⟨v,N⟩:=x;rw[e1]at q;simp only[bf3]at q;have t:=hp d _ _ (br _) _ e1;have hle:=t.length_le;dsimp only at hle t;simp only[bb,bbm];have qh:=bcq F.len (F.sub t).sfx bd7 (by simp);by_cases h:pk N=bd7
   ·rw[if_pos h];rw[xx h]at qh;have hl:=zk h (by simp);have hr:=bvx d acc (by omega) v _ _ true q qh;simp only[if_true]at hr;rw[xq hr];exact ih (acc++[v]) (N.drop 1) (F.sub ((xp N).trans t)) (by omega) (by simp only[dh,cm,ct];omega)
   ·rw[if_neg h];rw[xk h]at qh;exact⟨by simp only[dh,cm,ct];omega,xc (bvx d acc (by omega) v _ _ false q qh) (by simp)⟩
def dm8(L0 M:LT)(d:Int)(o:Option (List Nd×LT)):Prop:=match o with
 | some x=>bbf 213 [.ptr 0 0,.int .i64 d] (RG L0 M)=some (.ret (.slice 7 (xd x.1)) (some 118),RG L0 x.2)
 | none=>∃vs at',vs.length≤9001∧at'≤L0.length∧bbf 213 [.ptr 0 0,.int .i64 d] (RG L0 M)=some (.ret (.slice 7 (xd vs)) (some 118),Rst L0 at' true)
theorem lf78{p:Prop}(h:p:=by simp[-getElem?_pos,rZa,-List.drop_one,-List.drop_drop,rZb,rZe,a213, *]):p:=h
theorem crz(p:Rdr Nd)(hp:Sfx p)(hc:RcD 241 Nd.av none p n)(L0 M:LT)(d:Int)(F:FitD n L0 M d):dm8 L0 M d (bbc p d M):=by
 have hl0:=F.len;have hl:=czk p hp hc L0 d (M.length+1) [] M F (by omega) (by have:=F.sfx.length_le;simpa using this);have e0:bbc p d M=((p d M).bind fun x=>bbm p d (M.length+1) ([]++[x.1]) x.2).bind fun y=>if 16<y.1.length then none else some y:=by
  unfold bbc;cases e:p d M with
  | none=>rfl
  | some x=>
   have t:=hp d _ _ (br _) _ e;have:=t.length_le;simp only[bb,gj];rw[bqk hp d (x.2.length+1) (M.length+1) _ _ (by omega) (by omega)]
 rw[e0];simp only[ctk,cg9,xd]at hl;cases e1:(p d M).bind fun x=>bbm p d (M.length+1) ([]++[x.1]) x.2 with
 | none=>
  rw[e1]at hl;obtain⟨vs,at',hb,ha,hl⟩:=hl;have qm:=b8m L0 at' true vs.length;simp only[jh]at qm;have hv:=bdh vs;refine⟨vs,at',hb,ha,xh rfl ?_⟩;generalize xd vs=V at *;exact lf78
 | some y=>
  obtain⟨vs,N⟩:=y;rw[e1]at hl;dsimp only at hl;obtain⟨hb,hl⟩:=hl;have hv:=bdh vs;have qm:=b8m L0 (L0.length - N.length) false vs.length;simp only[bb];by_cases h:16<vs.length
  ·rw[if_pos h];simp only[h,decide_true,jj]at qm;refine⟨vs,L0.length - N.length,hb,jb _ _,xh rfl ?_⟩;generalize xd vs=V at *;simp only[RG]at *;exact lf78
  ·rw[if_neg h];simp only[h,decide_false,jj]at qm;simp only[dm8];refine xh rfl ?_;generalize xd vs=V at *;simp only[RG]at *;exact lf78
theorem dsz(p:Rdr Nd)(hp:Sfx p)(hc:RcD 241 Nd.av none p n):RcD 213 (fun l=>.slice 7 (xd l)) (some 118) (bbc p) n:=by
 intro L0 M d F;have q:=crz p hp hc L0 M d F;cases e:bbc p d M with
 | none=>
  rw[e]at q;obtain⟨vs,a,_,ha,q⟩:=q;exact⟨vs,a,ha,q⟩
 | some x=>rw[e]at q;exact q
abbrev SL:={l:List Nd // l.length≤9001}
theorem cgr{p:Rdr Nd}{d:Int}{M:LT}{x:List Nd×LT}(h:bbc p d M=some x):x.1.length≤9001:=by
 unfold bbc at h;obtain⟨y,_,h⟩:=bg.1 h;obtain⟨z,_,h⟩:=bg.1 h;split at h
 ·cases h
 ·rename_i hh;obtain rfl:=bf h;omega
def b7r(p:Rdr Nd):Rdr SL:=fun d M=>(bbc p d M).bind fun x=>if h:x.1.length≤9001 then some (⟨x.1,h⟩,x.2) else none
theorem b85{p:Rdr Nd}{d:Int}{M:LT}{x:List Nd×LT}(h:bbc p d M=some x):b7r p d M=some (⟨x.1,cgr h⟩,x.2):=by
 unfold b7r;rw[h,bb,dif_pos (cgr h)]
theorem b86{p:Rdr Nd}{d:Int}{M:LT}(h:bbc p d M=none):b7r p d M=none:=by
 unfold b7r;rw[h,bh]
theorem cgq(p:Rdr Nd)(d:Int)(M:LT):bbc p d M=(b7r p d M).map fun x=>(x.1.1,x.2):=by
 cases e:bbc p d M with
 | none=>rw[b86 e];rfl
 | some x=>rw[b85 e];rfl
theorem c6q{p:Rdr Nd}(h:Sfx (bbc p)):Sfx (b7r p):=by
 intro d L L0 hs x hx;have q:=cgq p d L;rw[hx]at q;exact h d L L0 hs _ q
theorem djv(p:Rdr Nd)(hp:Sfx p)(hc:RcD 241 Nd.av none p n):RcD 213 (fun l:SL=>.slice 7 (xd l.1)) (some 118) (b7r p) n:=by
 intro L0 M d F;have q:=crz p hp hc L0 M d F;cases e:bbc p d M with
 | none=>
  rw[e]at q;rw[b86 e];obtain⟨vs,a,hb,ha,q⟩:=q;exact⟨⟨vs,hb⟩,a,ha,q⟩
 | some x=>rw[e]at q;rw[b85 e];exact q
end Go.Av
namespace Go.Av
open Go Go.Proofs
variable{R:Rd}{n:Nat}
def bb4(L0:LT)(S:LB)(o:Option (LT)):Prop:=match o with
 | some N=>S=RG L0 N
 | none=>∃a,a≤L0.length∧S=Rst L0 a true
def bfr{α:Type}(L0:LT)(S:LB)(v:α)(o:Option (α×LT)):Prop:=match o with
 | some x=>v=x.1∧S=RG L0 x.2
 | none=>∃a,a≤L0.length∧S=Rst L0 a true
theorem bfr.ends{α:Type}{L0:LT}{S:LB}{v:α}{o:Option (α×LT)}(h:bfr L0 S v o):bb4 L0 S (o.map Prod.snd):=by
 cases o with
 | none=>exact h
 | some x=>exact h.2
theorem bfr.leave{α:Type}{L0 M:LT}{S:LB}{v:α}{o:Option (α×LT)}(h:bfr L0 S v o)(e:AEnd):xr 0 (RG L0 M) S e=some (e,S):=by
 cases o with
 | none=>obtain⟨a,_,rfl⟩:=h;exact bgp L0 M a true e
 | some x=>obtain⟨_,rfl⟩:=h;exact bff L0 M _ e
theorem bb4.leave{L0 M:LT}{S:LB}{o:Option (LT)}(h:bb4 L0 S o)(e:AEnd):xr 0 (RG L0 M) S e=some (e,S):=by
 cases o with
 | none=>obtain⟨a,_,rfl⟩:=h;exact bgp L0 M a true e
 | some x=>obtain rfl:=h;exact bff L0 M _ e
theorem b0h{α:Type}{f:Nat}{av:α→AV}{own:Option Nat}{L0 M:LT}{d:Int}{V:α}{S:LB}{G:Option (α×LT)}(h:bbf f [.ptr 0 0,ii d] (RG L0 M)=some (.ret (av V) own,S))(hE:bfr L0 S V G):bf3 f av own L0 M d G:=by
 cases G with
 | none=>obtain⟨a,ha,rfl⟩:=hE;exact⟨V,a,ha,h⟩
 | some x=>obtain⟨rfl,rfl⟩:=hE;exact h
theorem bc4{α:Type}{f:Nat}{av:α→AV}{own:Option Nat}{p:Rdr α}(hc:RcD f av own p n)(zv:α)(hb:∀L0 a d,bbf f [.ptr 0 0,ii d] (Rst L0 a true)=some (.ret (av zv) own,Rst L0 a true)){L0:LT}{S:LB}{o:Option (LT)}(hS:bb4 L0 S o)(d:Int)(hF:∀M,o=some M→FitD n L0 M d) :
  ∃v S',bbf f [.ptr 0 0,ii d] S=some (.ret (av v) own,S')∧bfr L0 S' v (o.bind (p d)):=by
 cases o with
 | none=>
  obtain⟨a,ha,rfl⟩:=hS;exact⟨zv,_,hb L0 a d,a,ha,rfl⟩
 | some M=>
  obtain rfl:=hS;have q:=hc L0 M d (hF M rfl);simp only[bb];cases e:p d M with
  | none=>
   rw[e]at q;obtain⟨v,a,ha,q⟩:=q;exact⟨v,_,q,a,ha,rfl⟩
  | some x=>
   rw[e]at q;exact⟨x.1,_,q,rfl,rfl⟩
theorem dm7{L0:LT}{S:LB}{o:Option (LT)}(hS:bb4 L0 S o)(d:Int)(h0:0≤d)(h1:d≤1000):∃S',rP 212 [ii d] S (ii (d+1)) S'∧bb4 L0 S' (if 24<d+1 then none else o):=by
 cases o with
 | none=>
  obtain⟨a,ha,rfl⟩:=hS;have h:=cb7 L0 a true d h0 h1;simp only[jh]at h;refine⟨_,h,?_⟩;split
  ·exact⟨a,ha,rfl⟩
  ·exact⟨a,ha,rfl⟩
 | some M=>
  obtain rfl:=hS;by_cases hd:24<d+1
  ·rw[if_pos hd];exact⟨_,cdf L0 M d h0 h1 hd,_,jb _ _,rfl⟩
  ·rw[if_neg hd];exact⟨_,cdg L0 M d h0 h1 hd,rfl⟩
theorem bd5(w:LU)(hw:w≠[]){L0:LT}(hL:L0.length≤9000){S:LB}{o:Option (LT)}(hS:bb4 L0 S o)(hs:∀M,o=some M→M<:+L0):∃S',rP 92 [.str (bs w)] S (.tuple []) S'∧bb4 L0 S' (o.bind (xm [w])):=by
 cases o with
 | none=>
  obtain⟨a,ha,rfl⟩:=hS;exact⟨_,bjt L0 a _,a,ha,rfl⟩
 | some M=>
  obtain rfl:=hS;simp only[bb,xm];by_cases h:pk M=w
  ·rw[if_pos h];exact⟨_,dsh hL (hs M rfl) w hw h,rfl⟩
  ·rw[if_neg h];exact⟨_,dsj hL (hs M rfl) w hw h,_,jb _ _,rfl⟩
theorem dt7(w:LU)(hw:w≠[]){L0:LT}(hL:L0.length≤9000){S:LB}{o:Option (LT)}(hS:bb4 L0 S o)(hs:∀M,o=some M→M<:+L0):∃b S',rW 46 (bs w) S b S'∧bb4 L0 S' (o.map fun M=>(isG w M).2)∧(∀M,o=some M→b=(isG w M).1)∧(o=none→b=false):=by
 cases o with
 | none=>
  obtain⟨a,ha,rfl⟩:=hS;exact⟨false,_,bd2 L0 a _,⟨a,ha,rfl⟩,fun M h=>(by cases h),fun _=>rfl⟩
 | some M=>
  obtain rfl:=hS;exact⟨_,_,bcq hL (hs M rfl) w hw,rfl,fun N h=>by obtain rfl:=bf h;rfl,fun h=>by cases h⟩
def bf6{α:Type}(p:Rdr α)(d:Int)(M:LT):Option (α×LT):=(bbj p d M).bind fun x=>(xm [brp] x.2).bind fun L3=>some (x.1,L3)
theorem bzk{α:Type}(p:Rdr α)(d:Int){L:LT}(h:pk L=bh6):bbz p d L=bf6 p d (L.drop 1):=by
 unfold bbz bf6;simp only[xm,if_pos h,bb]
theorem cps{α:Type}{f:Nat}{av:α→AV}{own:Option Nat}{p:Rdr α}(hp:Sfx p)(hc:RcD f av own p n)(zv:α)(hb:∀L0 a d,bbf f [.ptr 0 0,ii d] (Rst L0 a true)=some (.ret (av zv) own,Rst L0 a true)){L0:LT}(hL:L0.length≤9000){S:LB}{o:Option (LT)}(hS:bb4 L0 S o)(d:Int)(h0:0≤d)(h1:d≤1000)(hF:∀M,o=some M→M<:+L0∧(¬ 24<d+1→FitD n L0 M (d+1))) :
  ∃v S2 S3 S4,rP 212 [ii d] S (ii (d+1)) S2∧bbf f [.ptr 0 0,ii (d+1)] S2=some (.ret (av v) own,S3)∧rP 92 [.str wb2] S3 (.tuple []) S4∧bfr L0 S4 v (o.bind (bf6 p d)):=by
 obtain⟨S2,q2,e2⟩:=dm7 hS d h0 h1;obtain⟨v,S3,q3,e3⟩:=bc4 hc zv hb e2 (d+1) (fun M h=>by
  split at h
  ·cases h
  ·rename_i hd;exact(hF M h).2 hd)
 obtain⟨S4,q4,e4⟩:=bd5 brp (by simp) hL e3.ends (fun N h=>by
  obtain⟨x,hx,rfl⟩:=bv.1 h;obtain⟨M,hM,hx⟩:=bg.1 hx;split at hM
  ·cases hM
  ·exact(hp _ _ _ (br _) _ hx).trans (hF M hM).1)
 refine⟨v,S2,S3,S4,q2,q3,q4,?_⟩;cases o with
 | none=>
  have:(if 24<d+1 then none else(none:Option (LT)))=none:=by split<;>rfl
  rw[this]at e4;exact e4
 | some M=>
  simp only[bb,bf6,bbj];by_cases hd:24<d+1
  ·rw[if_pos hd]at e4 ⊢;exact e4
  ·rw[if_neg hd]at e3 e4 ⊢;simp only[bb]at e3 e4;cases e:p (d+1) M with
   | none=>rw[e]at e4;exact e4
   | some x=>
    rw[e]at e3 e4;simp only[bc,bb]at e4 ⊢;cases e5:xm [brp] x.2 with
    | none=>rw[e5]at e4;exact e4
    | some N=>rw[e5]at e4;exact⟨e3.1,e4⟩
def zN:Nd:=.mk 0 [] 0 false false [] []
def zQ:Qr:=bj2 .zero
theorem bpd(L0:LT)(a:Nat)(d:Int):rP 241 [ii d] (Rst L0 a true) zN.av (Rst L0 a true):=ch0 L0 a d
theorem bt9(L0:LT)(a:Nat)(d:Int):rP 274 [ii d] (Rst L0 a true) zN.av (Rst L0 a true):=dtd L0 a d
theorem btj(L0:LT)(a:Nat)(d:Int):rP 45 [ii d] (Rst L0 a true) zQ.av (Rst L0 a true):=cm7 L0 a d
theorem bz1(L0:LT)(a:Nat)(d:Int):bbf 213 [.ptr 0 0,ii d] (Rst L0 a true)=some (.ret (.slice 7 (xd [])) (some 118),Rst L0 a true):=cdj L0 a d
theorem dg1(hR:PRD R n):RcD 213 (fun l=>.slice 7 (xd l)) (some 118) (bbc R.expr) n:=dsz R.expr hR.sfx.expr hR.expr
def dbp(acc:List Nd):Bx:={cells:=[ii 18,.str ⟨#[]⟩,ii 0,.bool false,.bool false,.slice 7 (xd acc),.slice 13 []],own:=[(5,118),(6,45)]}
def btp(d:Int)(acc:List Nd)(S:LB):St:={σ:=[(0,.v (.ptr 0 0)),(1,.v (ii d)),(4,.l 4 0),(5,.l 5 0)],own:=[],loc:=[(4,nZr),(5,dbp acc)],S:=S}
theorem cm0{L0 M:LT}(d:Int)(acc:List Nd)(hacc:acc.length≤20000)(v w:Nd)(S1 S2 S3 S4:LB)(b:Bool)(h1:rP 241 [ii d] (RG L0 M) v.av S1)(h2:rP 92 [.str wb57] S1 (.tuple []) S2)(h3:rP 241 [ii d] S2 w.av S3)
  (h4:rW 46 dd1 S3 b S4):xf bbf bpf (btp d acc (RG L0 M))=some (if b=true then .normal else .exit 0,btp d (acc++[v,w]) S4):=by
 have b1:(acc.length+1)*88≤140737488355328:=dg (dq _ (kq hacc)) (by decide);have b2:(acc.length+1+1)*88≤140737488355328:=dg (dq _ (kq (kq hacc))) (by decide);have hlA:(xd acc).length=acc.length:=bdh acc;have e5:xd (acc++[v,w])=xd acc++[v.av]++[w.av]:=by simp[bpv,xd]
 have gg:=bhv L0 M;rw[xb];simp only[btp,dbp,nZr,e5];obtain⟨opv,t_,n_,nov,d_,a_,u_⟩:=v;obtain⟨opw,textw,numw,now,disw,argsw,queryw⟩:=w;simp only[Nd.av]at *;generalize xd acc=A at *;cases b<;>simp[-getElem?_pos,rZa,-List.drop_one,-List.drop_drop,rZb,bpf,gg,h1,h2,h3,h4,hlA,b1,b2]
theorem cz1(L0:LT)(a:Nat)(d:Int)(acc:List Nd):xf bbf bpf (btp d acc (Rst L0 a true))=some (.exit 0,btp d acc (Rst L0 a true)):=by
 rw[xb];simp only[btp,dbp,nZr];generalize xd acc=A at *;simp[-getElem?_pos,rZa,-List.drop_one,-List.drop_drop,rZb,bpf,bfq]
def cmz(R:Rd)(d:Int)(f:Nat)(acc:List Nd)(M:LT):Option (List Nd×LT):=(R.expr d M).bind fun x=>(xm [b3g] x.2).bind fun L2=>(R.expr d L2).bind fun y=>
  if pk y.2=bp8 then bcf R d f (acc++[x.1,y.1]) y.2 else some (acc++[x.1,y.1],y.2)
theorem b24(R:Rd)(d:Int)(f:Nat)(acc:List Nd)(L:LT):bcf R d (f+1) acc L=(xm [bp8] L).bind fun M=>cmz R d f acc M:=rfl
theorem cz2(hR:PRD R n)(L0:LT)(d:Int):∀(f:Nat) (acc:List Nd) (M:LT),FitD n L0 M d→M.length<f→acc.length+M.length≤9000 →
  ∃vs S,zc (xf bbf bpf) (btp d acc (RG L0 M))=some (.exit 0,btp d vs S)∧bfr L0 S vs (cmz R d f acc M)∧vs.length≤20000:=by
 intro f
 induction f with
 | zero=>intro acc M _ h;omega
 | succ f ih=>
  intro acc M F hf hacc;obtain⟨v,S1,q1,e1⟩:=bc4 hR.expr zN bpd (show bb4 L0 (RG L0 M) (some M) from rfl) d (fun N h=>by obtain rfl:=bf h;exact F);simp only[bb]at e1;have s1:∀x,R.expr d M=some x→x.2<:+M:=fun x hx=>hR.sfx.expr d M M (br _) x hx
  obtain⟨S2,q2,e2⟩:=bd5 b3g (by simp) F.len e1.ends (fun N h=>by
   obtain⟨x,hx,rfl⟩:=bv.1 h;exact(s1 x hx).trans F.sfx)
  have s2:∀L2,((R.expr d M).map Prod.snd).bind (xm [b3g])=some L2→L2<:+M∧L2.length<M.length:=fun L2 h=>by
   obtain⟨N,hN,h⟩:=bg.1 h;obtain⟨x,hx,rfl⟩:=bv.1 hN;exact⟨(xj h).trans (s1 x hx),by have:=bf8 (by simp) h;have:=(s1 x hx).length_le;omega⟩
  obtain⟨w,S3,q3,e3⟩:=bc4 hR.expr zN bpd e2 d (fun N h=>F.sub (s2 N h).1);obtain⟨b,S4,q4,e4,b1,b2⟩:=dt7 bp8 (by simp) F.len e3.ends (fun N h=>by
   obtain⟨y,hy,rfl⟩:=bv.1 h;obtain⟨L2,h2,hy⟩:=bg.1 hy;exact((hR.sfx.expr d L2 L2 (br _) y hy).trans (s2 L2 h2).1).trans F.sfx)
  have hr:=cm0 d acc (by omega) v w S1 S2 S3 S4 b q1 q2 q3 q4;cases g1:R.expr d M with
  | none=>
   rw[g1]at e3 e4 b2;have hb:=b2 (by simp);subst hb;obtain⟨a,ha,rfl⟩:=e4;exact⟨_,_,xc hr (by simp),by simp only[cmz,g1,bh];exact⟨a,ha,rfl⟩,by simp;omega⟩
  | some x=>
   rw[g1]at e1 e2 e3 e4 b1 b2 s2;simp only[bc,bb]at e2 e3 e4 b1 b2 s2;cases g2:xm [b3g] x.2 with
   | none=>
    rw[g2]at e3 e4 b2;have hb:=b2 (by simp);subst hb;obtain⟨a,ha,rfl⟩:=e4;exact⟨_,_,xc hr (by simp),by simp only[cmz,g1,bb,g2,bh];exact⟨a,ha,rfl⟩,by simp;omega⟩
   | some L2=>
    rw[g2]at e3 e4 b1 b2;simp only[bb]at e3 e4 b1 b2;cases g3:R.expr d L2 with
    | none=>
     rw[g3]at e4 b2;have hb:=b2 (by simp);subst hb;obtain⟨a,ha,rfl⟩:=e4;exact⟨_,_,xc hr (by simp),by simp only[cmz,g1,bb,g2,g3,bh];exact⟨a,ha,rfl⟩,by simp;omega⟩
    | some y=>
     rw[g3]at e3 e4 b1;simp only[bc]at e4 b1;have hb:=b1 y.2 rfl;obtain rfl:=e1.1;obtain rfl:=e3.1;have hS:S4=RG L0 (isG bp8 y.2).2:=e4;subst hS;have t3:=hR.sfx.expr d L2 L2 (br _) y g3;have t2:=s2 L2 g2;have:=t3.length_le;by_cases h:pk y.2=bp8
     ·rw[xx h]at hb hr;subst hb;simp only[if_true]at hr;have l1:=zk h (by simp);obtain⟨vs,S,r1,r2,r3⟩:=ih (acc++[x.1,y.1]) (y.2.drop 1) (F.sub (((xp y.2).trans t3).trans t2.1)) (by omega) (by simp only[dh,cm,ct];omega);refine⟨vs,S,by rw[xq hr];exact r1,?_,r3⟩;simp only[cmz,g1,bb,g2,g3,if_pos h];rw[b24];simp only[xm,if_pos h,bb];exact r2
     ·rw[xk h]at hb hr;subst hb;refine⟨_,_,xc hr (by simp),?_,by simp;omega⟩;simp only[cmz,g1,bb,g2,g3,if_neg h];exact⟨rfl,rfl⟩
end Go.Av
namespace Go.Av
open Go Go.Proofs
variable{R:Rd}{n:Nat}
theorem lf79{p:Prop}(h:p:=by simp[-getElem?_pos,rZa,-List.drop_one,-List.drop_drop,rZb,a278, *]):p:=h
theorem ds6{L0 M:LT}(d:Int)(vs:List Nd)(hvs:vs.length≤20000)(v:Nd)(S1 S2 S3 S4 SE:LB)(h1:rP 92 [.str dd1] (RG L0 M) (.tuple []) S1)(h2:zc (xf bbf bpf) (btp d [] S1)=some (.exit 0,btp d vs S2))(h3:rW 46 dph S2 true S3)(h4:rP 241 [ii d] S3 v.av S4)(h5:rP 92 [.str dpg] S4 (.tuple []) SE)(hk:∀e,xr 0 (RG L0 M) SE e=some (e,SE)) :
  rP 278 [ii d] (RG L0 M) (Nd.mk 18 [] 0 false false (vs++[v]) []).av SE:=by
 have b1:(vs.length+1)*88≤140737488355328:=dg (dq _ (kq hvs)) (by decide);have hlA:(xd vs).length=vs.length:=bdh vs;have e5:xd (vs++[v])=xd vs++[v.av]:=by simp[bpv,xd]
 refine xh rfl ?_;simp only[Nd.av,e5,zb];obtain⟨opv,t_,n_,nov,d_,a_,u_⟩:=v;simp only[btp,dbp,nZr,Nd.av]at *;simp only[xd]at h2;generalize xd vs=A at *;exact lf79
theorem ds7{L0 M:LT}(d:Int)(vs:List Nd)(S1 S2 S3 SE:LB)(h1:rP 92 [.str dd1] (RG L0 M) (.tuple []) S1)(h2:zc (xf bbf bpf) (btp d [] S1)=some (.exit 0,btp d vs S2))(h3:rW 46 dph S2 false S3)(h5:rP 92 [.str dpg] S3 (.tuple []) SE)(hk:∀e,xr 0 (RG L0 M) SE e=some (e,SE)) :
  rP 278 [ii d] (RG L0 M) (Nd.mk 18 [] 0 false false vs []).av SE:=by
 refine xh rfl ?_;simp only[Nd.av,zb];simp only[btp,dbp,nZr]at *;simp only[xd]at h2;generalize xd vs=A at *;exact lf79
theorem b5r{α:Type}{o:Option (α×LT)}{N:LT}(h:o.map Prod.snd=some N):∃v,o=some (v,N):=by
 obtain⟨x,hx,rfl⟩:=bv.1 h;exact⟨x.1,hx⟩
theorem ds3(hR:PRD R n):RcD 278 Nd.av none (bm0 R) n:=by
 intro L0 M d F;have hM:=F.sfx;have hl0:=F.len;have hle:=hM.length_le;obtain⟨S1,q1,e1⟩:=bd5 bp8 (by simp) F.len (show bb4 L0 (RG L0 M) (some M) from rfl) (fun N h=>by obtain rfl:=bf h;exact hM);simp only[bb]at e1;have hlp:∃vs S2,zc (xf bbf bpf) (btp d [] S1)=some (.exit 0,btp d vs S2)∧bfr L0 S2 vs (bcf R d (M.length+1) [] M)∧vs.length≤20000:=by
  rw[b24];cases g:xm [bp8] M with
  | none=>
   rw[g]at e1;obtain⟨a,ha,rfl⟩:=e1;exact⟨[],_,xc (cz1 L0 a d []) (by simp),⟨a,ha,rfl⟩,by simp⟩
  | some M1=>
   rw[g]at e1;obtain rfl:=e1;have:=bf8 (by simp) g;exact cz2 hR L0 d M.length [] M1 (F.sub (xj g)) (by omega) (by simp;omega)
 obtain⟨vs,S2,q2,e2,hvs⟩:=hlp;have t2:∀x,bcf R d (M.length+1) [] M=some x→x.2<:+M:=fun x hx=>bkh hR.sfx d M _ _ _ (br _) x hx
 obtain⟨b,S3,q3,e3,b1,b2⟩:=dt7 cdz (by simp) F.len e2.ends (fun N h=>by
  obtain⟨v,h⟩:=b5r h;exact(t2 _ h).trans hM)
 unfold bm0;generalize bcf R d (M.length+1) [] M=o2 at *;have t3:∀N,(Option.map (fun M=>(isG cdz M).2) (o2.map Prod.snd))=some N→N<:+M:=fun N h=>by
  obtain⟨K,hK,rfl⟩:=bv.1 h;obtain⟨v,hK⟩:=b5r hK;exact(bb5 _ _).trans (t2 _ hK)
 cases b with
 | true=>
  obtain⟨v,S4,q4,e4⟩:=bc4 hR.expr zN bpd e3 d (fun N h=>F.sub (t3 N h));obtain⟨S5,q5,e5⟩:=bd5 cz8 (by simp) F.len e4.ends (fun N h=>by
   obtain⟨w,h⟩:=b5r h;obtain⟨K,hK,h⟩:=bg.1 h;exact((hR.sfx.expr d K K (br _) _ h).trans (t3 K hK)).trans hM)
  refine b0h (ds6 d vs hvs v S1 S2 S3 S4 S5 q1 q2 q3 q4 q5 (fun e=>e5.leave e)) ?_;cases o2 with
  | none=>have:=b2 rfl;cases this
  | some x=>
   have hb:=b1 x.2 rfl;have hp:pk x.2=cdz:=by
    unfold isG at hb;split at hb
    ·assumption
    ·cases hb
   obtain rfl:=e2.1;simp only[bc,xx hp,bb]at e3 e4 e5 ⊢;rw[if_pos hp];cases g4:R.expr d (x.2.drop 1) with
   | none=>rw[g4]at e5;exact e5
   | some y=>
    rw[g4]at e4 e5;obtain rfl:=e4.1;simp only[bc,bb]at e5 ⊢;cases g5:xm [cz8] y.2 with
    | none=>rw[g5]at e5;exact e5
    | some N=>rw[g5]at e5;exact⟨rfl,e5⟩
 | false=>
  obtain⟨S5,q5,e5⟩:=bd5 cz8 (by simp) F.len e3 (fun N h=>(t3 N h).trans hM);refine b0h (ds7 d vs S1 S2 S3 S5 q1 q2 q3 q5 (fun e=>e5.leave e)) ?_;cases o2 with
  | none=>exact e5
  | some x=>
   have hb:=b1 x.2 rfl;have hp:¬ pk x.2=cdz:=by
    unfold isG at hb;split at hb
    ·cases hb
    ·assumption
   obtain rfl:=e2.1;simp only[bc,xk hp,bb]at e5 ⊢;rw[if_neg hp];cases g5:xm [cz8] x.2 with
   | none=>rw[g5]at e5;exact e5
   | some N=>rw[g5]at e5;exact⟨rfl,e5⟩
def parG(R:Rd):Rdr Nd:=fun d L=>if pk L=bft∨pk L=bgj then(R.query d L).bind fun x=>(xm [brp] x.2).bind fun N=>some (.mk 19 [] 0 false false [] [x.1],N)
 else(bbc R.expr d L).bind fun x=>(xm [brp] x.2).bind fun N=>some ((match x.1 with | [a]=>a | l=>.mk 20 [] 0 false false l []),N)
theorem c4s(R:Rd)(d:Int){L:LT}(h:pk L=bh6):bx2 R d L=bbj (parG R) d (L.drop 1):=by
 unfold bx2 bt2;simp only[h,decide_true,kf];have hpar:∀{α:Type} (p:Rdr α),bbz p d L=bf6 p d (L.drop 1):=fun p=>bzk p d h
 rw[hpar,hpar];unfold bf6 bbj parG;by_cases h1:pk (L.drop 1)=bft∨pk (L.drop 1)=bgj
 ·have h2:(decide (pk (L.drop 1)=bft)||decide (pk (L.drop 1)=bgj))=true:=by simpa using h1
  rw[if_pos h2];split
  ·rfl
  ·cases R.query (d+1) (L.drop 1) with
   | none=>rfl
   | some x=>
    simp only[bb];cases xm [brp] x.2<;>rfl
 ·have h2:¬ (decide (pk (L.drop 1)=bft)||decide (pk (L.drop 1)=bgj))=true:=by simpa using h1
  rw[if_neg h2];split
  ·rfl
  ·cases bbc R.expr (d+1) (L.drop 1) with
   | none=>rfl
   | some x=>
    simp only[bb];cases xm [brp] x.2 with
    | none=>rfl
    | some N=>
     simp only[bb];obtain⟨l,K⟩:=x
     match l with
     | []=>rfl
     | [a]=>rfl
     | a::b::r=>rfl
def tupV(l:List Nd):Nd:=match l with | [a]=>a | l=>.mk 20 [] 0 false false l []
theorem cqv(d:Int)(S0:LB)(b1 b2:Bool)(hb:(b1||b2)=true)(v:Qr)(S1 SE:LB)(h1:rP 97 [ii 0,.str cp0] S0 (.bool b1) S0)(h2:rP 97 [ii 0,.str cjp] S0 (.bool b2) S0)(h3:rP 45 [ii d] S0 v.av S1)(h4:rP 92 [.str wb2] S1 (.tuple []) SE)(hk:∀e,xr 0 S0 SE e=some (e,SE)) :
  rP 279 [ii d] S0 (Nd.mk 19 [] 0 false false [] [v]).av SE:=by
 refine xh rfl ?_;obtain⟨⟨c0v,c1v,c2v,i3v,i4v,i5v,i6v,i7v,i8v,i9v⟩,ksv,liv,ofv⟩:=v;simp only[Nd.av,Qr.av,Bd.av,Bd.cells,xd,zb,rZd,cg,AV.cells]at *;cases b1<;>cases b2<;>first | (cases hb;done) | simp[-getElem?_pos,rZa,-List.drop_one,-List.drop_drop,rZb,a279,h1,h2,h3,h4,hk]
theorem cqx(d:Int)(S0:LB)(l:List Nd)(S1 SE:LB)(h1:rP 97 [ii 0,.str cp0] S0 (.bool false) S0)(h2:rP 97 [ii 0,.str cjp] S0 (.bool false) S0)(h3:bbf 213 [.ptr 0 0,ii d] S0=some (.ret (.slice 7 (xd l)) (some 118),S1))(h4:rP 92 [.str wb2] S1 (.tuple []) SE)(hk:∀e,xr 0 S0 SE e=some (e,SE)) :
  rP 279 [ii d] S0 (tupV l).av SE:=by
 match l,h3 with
 | [],h3=>exact xh rfl (by
   simp only[tupV,Nd.av,xd,zb]at *;simp[-getElem?_pos,rZa,-List.drop_one,-List.drop_drop,rZb,a279,h1,h2,h3,h4,hk])
 | [⟨op,text,num,no,dis,args,query⟩],h3=>exact xh rfl (by
   simp only[tupV,Nd.av,xd,zb]at *;simp[-getElem?_pos,rZa,-List.drop_one,-List.drop_drop,rZb,a279,h1,h2,h3,h4,hk])
 | a::b::r,h3=>exact xh rfl (by
   have hn:¬ ((xd r).length:Int)+1+1=1:=by omega
   simp only[tupV,Nd.av,xd,zb]at *;simp[-getElem?_pos,rZa,-List.drop_one,-List.drop_drop,rZb,a279,h1,h2,h3,h4,hk,hn])
theorem djt(hR:PRD R n):RcD 279 Nd.av none (parG R) n:=by
 intro L0 M d F;have hM:=F.sfx;have h1:=bqr 0 (by omega) F.len hM bft (by simp);have h2:=bqr 0 (by omega) F.len hM bgj (by simp);rw[dj]at h1 h2;unfold parG;by_cases h:pk M=bft∨pk M=bgj
 ·rw[if_pos h];obtain⟨v,S1,q1,e1⟩:=bc4 hR.query zQ btj (show bb4 L0 (RG L0 M) (some M) from rfl) d (fun N h=>by obtain rfl:=bf h;exact F);simp only[bb]at e1;obtain⟨S2,q2,e2⟩:=bd5 brp (by simp) F.len e1.ends (fun N h=>by
   obtain⟨w,h⟩:=b5r h;exact(hR.sfx.query d M M (br _) _ h).trans hM)
  refine b0h (cqv d _ _ _ (by simpa using h) v S1 S2 h1 h2 q1 q2 (fun e=>e2.leave e)) ?_;cases g1:R.query d M with
  | none=>rw[g1]at e2;exact e2
  | some x=>
   rw[g1]at e1 e2;obtain rfl:=e1.1;simp only[bc,bb]at e2 ⊢;cases g2:xm [brp] x.2 with
   | none=>rw[g2]at e2;exact e2
   | some N=>rw[g2]at e2;exact⟨rfl,e2⟩
 ·rw[if_neg h];simp only[not_or]at h;simp only[h.1,h.2,decide_false]at h1 h2;obtain⟨v,S1,q1,e1⟩:=bc4 (dg1 hR) [] bz1 (show bb4 L0 (RG L0 M) (some M) from rfl) d (fun N h=>by obtain rfl:=bf h;exact F);simp only[bb]at e1;obtain⟨S2,q2,e2⟩:=bd5 brp (by simp) F.len e1.ends (fun N h=>by
   obtain⟨w,h⟩:=b5r h;exact(hR.sfx.expr.list d M M (br _) _ h).trans hM)
  refine b0h (cqx d _ v S1 S2 h1 h2 q1 q2 (fun e=>e2.leave e)) ?_;cases g1:bbc R.expr d M with
  | none=>rw[g1]at e2;exact e2
  | some x=>
   rw[g1]at e1 e2;obtain rfl:=e1.1;simp only[bc,bb]at e2 ⊢;cases g2:xm [brp] x.2 with
   | none=>rw[g2]at e2;exact e2
   | some N=>rw[g2]at e2;exact⟨rfl,e2⟩
theorem dkd(L0:LT)(hL:L0.length≤9000)(a:Nat)(ha:a≤L0.length)(d:Int):∃v:Nd,rP 279 [ii d] (Rst L0 a true) v.av (Rst L0 a true):=by
 have h1:=b5b L0 hL a (by omega) true bft (by simp);have h2:=b5b L0 hL a (by omega) true bgj (by simp);have hk:∀e,xr 0 (Rst L0 a true) (Rst L0 a true) e=some (e,Rst L0 a true):=fun e=>ccs L0 a a true true e
 cases hb:(decide (pk (L0.drop a)=bft)||decide (pk (L0.drop a)=bgj)) with
 | true=>exact⟨_,cqv d _ _ _ hb zQ _ _ h1 h2 (btj L0 a d) (bjt L0 a _) hk⟩
 | false=>
  simp only[Bool.or_eq_false_iff]at hb;rw[hb.1]at h1;rw[hb.2]at h2;exact⟨_,cqx d _ [] _ _ h1 h2 (bz1 L0 a d) (bjt L0 a _) hk⟩
end Go.Av
namespace Go.Av
open Go Go.Proofs
variable{R:Rd}{n:Nat}
theorem b5k{s:LU}{v:Int}(h:bhk s=some v):v≤9223372036854775807:=by
 have hr:-9223372036854775808≤bc0 s∧bc0 s≤9223372036854775807:=bmv s 0 (by omega);unfold bhk at h;split at h
 ·cases h
 split at h
 ·obtain rfl:=bf h;exact hr.2
 split at h
 ·rename_i hh;obtain rfl:=bf h;have:=hh.1;omega
 ·cases h
theorem c5g{t:LU}(h:bj9 t=true):bhk t=some (b7p t):=by
 have h1:=ccj t;rw[h]at h1;unfold dq0 at h1;cases hn:bhk t with
 | none=>rw[hn]at h1;cases h1
 | some v=>
  rw[hn]at h1;have h0:0≤v:=by simpa using h1
  have e:=b8s hn;have e2:=ch1 h0 (b5k hn);rw[e]at e2;have e3:=c5c h;rw[e2]at e3
  injection e3 with e3
  rw[e3]
theorem c288{t:LU}(h:bj9 t=true)(hl:t.length≤5000)(S:LB):rH 88 [.str (bs t)] S (.tuple [ii (b7p t),.bool true]) S:=by
 have q:=cv6 (lift (c88 t S (by omega)));unfold numE at q;rw[c5g h]at q;exact q
theorem c283{x:Tok}(h:TokOk x)(hk:x.k=4)(S:LB):bbf 83 [.str (bs x.t)] S=some (.ret (.tuple [.agg [ii 3,ii 0,.str (bs (cd8 x.t))],.bool true]) none,S):=by
 obtain⟨m,e1,e2,e3,e4,e5⟩:=dkz h hk;obtain⟨t,q,ht⟩:=c83Q' m S (by omega) e2;have q:=cv6 q;rw[e4,e1,← ht e3,q,e3];rfl
theorem lf80{p:Prop}(h:p:=by simp[-getElem?_pos,rZa,-List.drop_one,-List.drop_drop,rZb,a280, *]):p:=h
theorem c5q(d:Int)(S0 S1:LB)(t:LU)(h0:rP 95 [] S0 (.str (bs t)) S1)(h1:rP 97 [ii 0,.str wb0] S1 (.bool false) S1)(h2:rW 46 wb0 S1 false S1)(h3:rW 46 wb7 S1 false S1)(hk:∀e,xr 0 S0 S1 e=some (e,S1)):rP 280 [ii d] S0 (Nd.mk 6 t 0 false false [] []).av S1:=by
 refine xh rfl ?_;simp only[Nd.av,Qr.av,Bd.av,Bd.cells,xd,zb,rZd,cg,AV.cells]at *;exact lf80
theorem cgc(d:Int)(S0 S1 S2 SE:LB)(t u:LU)(z1:t.length+1+u.length≤6000)(h0:rP 95 [] S0 (.str (bs t)) S1)(h1:rP 97 [ii 0,.str wb0] S1 (.bool false) S1)(h2:rW 46 wb0 S1 false S1)(h3:rW 46 wb7 S1 true S2)(h4:rP 95 [] S2 (.str (bs u)) SE)(hk:∀e,xr 0 S0 SE e=some (e,SE)):rP 280 [ii d] S0 (Nd.mk 7 (t++b65++u) 0 false false [] []).av SE:=by
 have z2:(bs t).size+(wb7:ByteArray).size≤9223372036854775807:=by rw[zj];exact dg (show t.length+1≤6000 by omega) (by decide)
 have z3:(bs t).size+(wb7:ByteArray).size+(bs u).size≤9223372036854775807:=by rw[zj,zj];exact dg z1 (by decide)
 have eS:bs t++(wb7:ByteArray)++bs u=bs (t++b65++u):=by rw[← bdm,← bdm];rfl
 refine xh rfl ?_;simp only[Nd.av,Qr.av,Bd.av,Bd.cells,xd,zb,rZd,cg,AV.cells]at *;exact lf80
theorem cvt(d:Int)(S0 S1 S2 S3 S4 S5 SE:LB)(t:LU)(b:Bool)(l:List Nd)(h0:rP 95 [] S0 (.str (bs t)) S1)(h1:rP 97 [ii 0,.str wb0] S1 (.bool true) S1)(h1':rP 97 [ii 1,.str wb1] S1 (.bool false) S1)(h2:rW 46 wb0 S1 true S2)(h3:rW 46 cj0 S2 b S3)(h4:rP 212 [ii d] S3 (ii (d+1)) S4)(h5:bbf 213 [.ptr 0 0,ii (d+1)] S4=some (.ret (.slice 7 (xd l)) (some 118),S5))(h6:rP 92 [.str wb2] S5 (.tuple []) SE)(hk:∀e,xr 0 S0 SE e=some (e,SE)) :
  rP 280 [ii d] S0 (Nd.mk 8 t 0 false b l []).av SE:=by
 refine xh rfl ?_;simp only[Nd.av,zb];generalize xd l=A at *;exact lf80
theorem cvs(d:Int)(S0 S1 S2 SE:LB)(t:LU)(A:LA)(i:Nat)(hw:IntKind.i64.wrap ((i:Int)+2)=(i:Int)+2)(h0:rP 95 [] S0 (.str (bs t)) S1)(h1:rP 97 [ii 0,.str wb0] S1 (.bool true) S1)(h1':rP 97 [ii 1,.str wb1] S1 (.bool true) S1)(g:S1[0]? = some {cells:=[.slice 3 A,ii (i:Int),.bool false]})(gs:S1.set 0 {cells:=[.slice 3 A,ii ((i:Int)+2),.bool false]}=S2)(h6:rP 92 [.str wb2] S2 (.tuple []) SE)(hk:∀e,xr 0 S0 SE e=some (e,SE)) :
  rP 280 [ii d] S0 (Nd.mk 9 t 0 false false [] []).av SE:=by
 refine xh rfl ?_;simp only[Nd.av,Qr.av,Bd.av,Bd.cells,xd,zb,rZd,cg,AV.cells]at *;exact lf80
theorem c2g{x:Tok}{r:LT}{k:Int}(h:x.k=k):bcc k (x::r)=some (x.t,r):=by simp[bcc,h]
theorem dsx(hR:PRD R n){L0:LT}{x:Tok}{r:LT}{d:Int}(F:FitD (n+1) L0 (x::r) d)(hx:x.k=2):bf3 280 Nd.av none L0 (x::r) d (bx6 R x.t d r):=by
 have hM:=F.sfx;have hl0:=F.len;have tr:r<:+x::r:=fq x r;have hr:r<:+L0:=tr.trans hM;have ok:=F.fit.good x (.head _);have lt:=bs9 (ok.name hx);have q0:=crj hl0 hM;rw[c2g hx]at q0;dsimp only at q0;have i0:=bqr 0 (by omega) hl0 hr bh6 (by simp);rw[dj]at i0;have i1:=bqr 1 (by omega) hl0 hr bcx (by simp);unfold bx6;by_cases hd:pk r=b65
 ·rw[if_pos hd];have hno:¬ pk r=bh6:=by rw[hd];simp
  simp only[hno,decide_false]at i0;have q2:=bcq hl0 hr bh6 (by simp);rw[xk hno]at q2;have q3:=bcq hl0 hr b65 (by simp);rw[xx hd]at q3;have td:=(xp r).trans hr;have q4:=crj hl0 td;cases g:bcc 2 (r.drop 1) with
  | none=>
   rw[g]at q4;dsimp only at q4;simp only[bh];exact⟨_,_,jb _ _,cgc d _ _ _ _ x.t [] (by simp;omega) q0 i0 q2 q3 q4 (fun e=>bgp L0 _ _ true e)⟩
  | some y=>
   rw[g]at q4;dsimp only at q4;have lu:=(bjg (F.fit.good.sfx ((xp r).trans tr)) g).2.2;simp only[bb];exact cgc d _ _ _ _ x.t y.1 (by omega) q0 i0 q2 q3 q4 (fun e=>bff L0 _ _ e)
 ·rw[if_neg hd];by_cases ho:pk r≠bh6
  ·rw[if_pos ho];have hno:¬ pk r=bh6:=ho;simp only[hno,decide_false]at i0;have q2:=bcq hl0 hr bh6 (by simp);rw[xk hno]at q2;have q3:=bcq hl0 hr b65 (by simp);rw[xk hd]at q3;exact c5q d _ _ x.t q0 i0 q2 q3 (fun e=>bff L0 _ _ e)
  ·rw[if_neg ho];have ho:=Decidable.not_not.1 ho;simp only[ho,decide_true]at i0;by_cases hs:pk (r.drop 1)=bcx
   ·rw[if_pos hs];simp only[hs,decide_true]at i1;have em:xm [bh6,bcx,brp] r=xm [brp] ((r.drop 1).drop 1):=by simp only[xm,if_pos ho,if_pos hs]
    rw[em];have t2:(r.drop 1).drop 1<:+L0:=((xp _).trans (xp r)).trans hr;have l1:=zk ho (by simp);have l2:=zk hs (by simp);have hle:=hr.length_le;have gs:(RG L0 r).set 0 {cells:=[.slice 3 (L0.map Tok.av),ii (((L0.length - r.length:Nat):Int)+2),.bool false]}=RG L0 ((r.drop 1).drop 1):=by
     have e:L0.length - ((r.drop 1).drop 1).length=L0.length - r.length+2:=by omega
     unfold RG Rst;rw[e];simp
    have hw:IntKind.i64.wrap (((L0.length - r.length:Nat):Int)+2)=((L0.length - r.length:Nat):Int)+2:=by
     have:=wat (n:=L0.length - r.length+2) (by omega);simpa using this
    obtain⟨S5,q5,e5⟩:=bd5 brp (by simp) hl0 (show bb4 L0 (RG L0 ((r.drop 1).drop 1)) (some _) from rfl) (fun N h=>by obtain rfl:=bf h;exact t2);simp only[bb]at e5;refine b0h (cvs d _ _ _ S5 x.t _ _ hw q0 i0 i1 (bhv L0 r) gs q5 (fun e=>e5.leave e)) ?_;cases g:xm [brp] ((r.drop 1).drop 1) with
    | none=>rw[g]at e5;exact e5
    | some N=>rw[g]at e5;exact⟨rfl,e5⟩
   ·rw[if_neg hs];simp only[hs,decide_false]at i1;have q2:=bcq hl0 hr bh6 (by simp);rw[xx ho]at q2;have td:=(xp r).trans hr;have q3:=bcq hl0 td zx (by simp);have tI:=bb5 zx (r.drop 1);rw[bzk (chk R) d ho];unfold bf6 bbj chk;generalize isG zx (r.drop 1)=I at *;obtain⟨b,K⟩:=I;dsimp only at *;have tK:K<:+x::r:=(tI.trans (xp r)).trans tr;have lK:K.length<(x::r).length:=by have:=tI.length_le;have:=(xp r).length_le;simp only[cm];omega
    obtain⟨l,S4,S5,S6,p1,p2,p3,p4⟩:=cps hR.sfx.expr.list (dg1 hR) [] bz1 hl0 (show bb4 L0 (RG L0 K) (some K) from rfl) d F.fit.h0 F.fit.d3 (fun N h=>by obtain rfl:=bf h;exact⟨tK.trans hM,fun hd=>F.deep tK lK hd⟩);simp only[bb]at p4;refine b0h (cvt d _ _ _ _ S4 S5 S6 x.t b l q0 i0 i1 q2 q3 p1 p2 p3 (fun e=>p4.leave e)) ?_;unfold bf6 bbj at p4;by_cases hd2:24<d+1
    ·rw[if_pos hd2]at p4 ⊢;exact p4
    ·rw[if_neg hd2]at p4 ⊢;cases g:bbc R.expr (d+1) K with
     | none=>rw[g]at p4;exact p4
     | some y=>
      rw[g]at p4;simp only[bb]at p4 ⊢;cases g2:xm [brp] y.2 with
      | none=>rw[g2]at p4;exact p4
      | some N=>
       rw[g2]at p4;obtain⟨rfl,rfl⟩:=p4;exact⟨rfl,rfl⟩
theorem lf81{p:Prop}(h:p:=by simp[-getElem?_pos,rZa,-List.drop_one,-List.drop_drop,rZb,a277, *]):p:=h
theorem dqk(d:Int)(S0 SE:LB)(h3:rP 93 [ii 3] S0 (.bool false) S0)(h4:rP 93 [ii 4] S0 (.bool false) S0)(w:rW 46 wb6 S0 true SE)(hk:∀e,xr 0 S0 SE e=some (e,SE)):rP 277 [ii d] S0 (Nd.mk 3 [] 0 false false [] []).av SE:=by
 refine xh rfl ?_;simp only[Nd.av,Qr.av,Bd.av,Bd.cells,xd,zb,rZd,cg,AV.cells]at *;exact lf81
theorem dqj(d:Int)(S0 SE:LB)(h3:rP 93 [ii 3] S0 (.bool false) S0)(h4:rP 93 [ii 4] S0 (.bool false) S0)(w0:rW 46 wb6 S0 false S0)(w:rW 46 cd3 S0 true SE)(hk:∀e,xr 0 S0 SE e=some (e,SE)):rP 277 [ii d] S0 (Nd.mk 4 [] 0 false false [] []).av SE:=by
 refine xh rfl ?_;simp only[Nd.av,Qr.av,Bd.av,Bd.cells,xd,zb,rZd,cg,AV.cells]at *;exact lf81
theorem dqh(d:Int)(S0 SE:LB)(h3:rP 93 [ii 3] S0 (.bool false) S0)(h4:rP 93 [ii 4] S0 (.bool false) S0)(w0:rW 46 wb6 S0 false S0)(w1:rW 46 cd3 S0 false S0)(w:rW 46 wb9 S0 true SE)(hk:∀e,xr 0 S0 SE e=some (e,SE)):rP 277 [ii d] S0 (Nd.mk 5 [] 0 false false [] []).av SE:=by
 refine xh rfl ?_;simp only[Nd.av,Qr.av,Bd.av,Bd.cells,xd,zb,rZd,cg,AV.cells]at *;exact lf81
theorem ckx(d:Int)(S0 S1 S2 S3 S4 SE:LB)(v:Qr)(h3:rP 93 [ii 3] S0 (.bool false) S0)(h4:rP 93 [ii 4] S0 (.bool false) S0)(w0:rW 46 wb6 S0 false S0)(w1:rW 46 cd3 S0 false S0)(w2:rW 46 wb9 S0 false S0)(w:rW 46 c0g S0 true S1)(q1:rP 92 [.str wb0] S1 (.tuple []) S2)(q2:rP 212 [ii d] S2 (ii (d+1)) S3)(q3:rP 45 [ii (d+1)] S3 v.av S4)(q4:rP 92 [.str wb2] S4 (.tuple []) SE)(hk:∀e,xr 0 S0 SE e=some (e,SE)):rP 277 [ii d] S0 (Nd.mk 17 [] 0 false false [] [v]).av SE:=by
 refine xh rfl ?_;obtain⟨⟨c0v,c1v,c2v,i3v,i4v,i5v,i6v,i7v,i8v,i9v⟩,ksv,liv,ofv⟩:=v;simp only[Nd.av,Qr.av,Bd.av,Bd.cells,xd,zb,rZd,cg,AV.cells]at *;exact lf81
theorem c4d(d:Int)(S0 S1 S2 SE:LB)(v:Nd)(h3:rP 93 [ii 3] S0 (.bool false) S0)(h4:rP 93 [ii 4] S0 (.bool false) S0)(w0:rW 46 wb6 S0 false S0)(w1:rW 46 cd3 S0 false S0)(w2:rW 46 wb9 S0 false S0)(w3:rW 46 c0g S0 false S0)(w:rW 46 dc9 S0 true S1)(q2:rP 212 [ii d] S1 (ii (d+1)) S2)(q3:rP 278 [ii (d+1)] S2 v.av SE)(hk:∀e,xr 0 S0 SE e=some (e,SE)):rP 277 [ii d] S0 v.av SE:=by
 refine xh rfl ?_;obtain⟨opv,t_,n_,nov,d_,a_,u_⟩:=v;simp only[Nd.av,Qr.av,Bd.av,Bd.cells,xd,zb,rZd,cg,AV.cells]at *;exact lf81
theorem b07(d:Int)(S0 S1 S2 SE:LB)(v:Nd)(h3:rP 93 [ii 3] S0 (.bool false) S0)(h4:rP 93 [ii 4] S0 (.bool false) S0)(w0:rW 46 wb6 S0 false S0)(w1:rW 46 cd3 S0 false S0)(w2:rW 46 wb9 S0 false S0)(w3:rW 46 c0g S0 false S0)(w4:rW 46 dc9 S0 false S0)(w:rW 46 wb0 S0 true S1)(q2:rP 212 [ii d] S1 (ii (d+1)) S2)(q3:rP 279 [ii (d+1)] S2 v.av SE)(hk:∀e,xr 0 S0 SE e=some (e,SE)):rP 277 [ii d] S0 v.av SE:=by
 refine xh rfl ?_;obtain⟨opv,t_,n_,nov,d_,a_,u_⟩:=v;simp only[Nd.av,Qr.av,Bd.av,Bd.cells,xd,zb,rZd,cg,AV.cells]at *;exact lf81
theorem cf6(d:Int)(S0 SE:LB)(v:Nd)(h3:rP 93 [ii 3] S0 (.bool false) S0)(h4:rP 93 [ii 4] S0 (.bool false) S0)(w0:rW 46 wb6 S0 false S0)(w1:rW 46 cd3 S0 false S0)(w2:rW 46 wb9 S0 false S0)(w3:rW 46 c0g S0 false S0)(w4:rW 46 dc9 S0 false S0)(w5:rW 46 wb0 S0 false S0)(k2:rP 93 [ii 2] S0 (.bool true) S0)(q3:rP 280 [ii d] S0 v.av SE)(hk:∀e,xr 0 S0 SE e=some (e,SE)):rP 277 [ii d] S0 v.av SE:=by
 refine xh rfl ?_;obtain⟨opv,t_,n_,nov,d_,a_,u_⟩:=v;simp only[Nd.av,Qr.av,Bd.av,Bd.cells,xd,zb,rZd,cg,AV.cells]at *;exact lf81
theorem cf5(L0:LT)(i:Nat)(d:Int)(S0:LB)(hS:S0=Rst L0 i false)(h3:rP 93 [ii 3] S0 (.bool false) S0)(h4:rP 93 [ii 4] S0 (.bool false) S0)(w0:rW 46 wb6 S0 false S0)(w1:rW 46 cd3 S0 false S0)(w2:rW 46 wb9 S0 false S0)(w3:rW 46 c0g S0 false S0)(w4:rW 46 dc9 S0 false S0)(w5:rW 46 wb0 S0 false S0)(k2:rP 93 [ii 2] S0 (.bool false) S0):rP 277 [ii d] S0 zN.av (Rst L0 i true):=by
 have hk:∀e,xr 0 S0 (Rst L0 i true) e=some (e,Rst L0 i true):=fun e=>by rw[hS];exact ccs L0 i i false true e
 have g:S0[0]? = some {cells:=[.slice 3 (L0.map Tok.av),ii (i:Int),.bool false]}:=by rw[hS];rfl
 have gs:S0.set 0 {cells:=[.slice 3 (L0.map Tok.av),ii (i:Int),.bool true]}=Rst L0 i true:=by rw[hS];rfl
 refine xh rfl ?_;simp only[zN];simp only[Nd.av,Qr.av,Bd.av,Bd.cells,xd,zb,rZd,cg,AV.cells]at *;simp[-getElem?_pos,rZa,-List.drop_one,-List.drop_drop,rZb,a277,h3,h4,w0,w1,w2,w3,w4,w5,k2,g,gs,hk]
theorem df8(d:Int)(S0 S1:LB)(A:LA)(i:Nat)(k:Int)(t:LU)(p:Int)(ht:bj9 t=true)(hl:t.length≤5000)(hi:i<A.length)(hw:IntKind.i64.wrap ((i:Int)+1)=(i:Int)+1)(g:S0[0]? = some {cells:=[.slice 3 A,ii (i:Int),.bool false]})(gA:A[i]? = some (.agg [ii k,.str (bs t),ii p]))(gs:S0.set 0 {cells:=[.slice 3 A,ii ((i:Int)+1),.bool false]}=S1)(h3:rP 93 [ii 3] S0 (.bool true) S0)(hk:∀e,xr 0 S0 S1 e=some (e,S1)) :
  rP 277 [ii d] S0 (Nd.mk 1 [] (b7p t) false false [] []).av S1:=by
 have hi':(i:Int)<(A.length:Int):=by omega
 have qn:=c288 ht hl S0;refine xh rfl ?_;simp only[Nd.av,Qr.av,Bd.av,Bd.cells,xd,zb,rZd,cg,AV.cells]at *;exact lf81
theorem df7(d:Int)(S0 S1:LB)(A:LA)(i:Nat)(x:Tok)(ok:TokOk x)(hx:x.k=4)(hi:i<A.length)(hw:IntKind.i64.wrap ((i:Int)+1)=(i:Int)+1)(g:S0[0]? = some {cells:=[.slice 3 A,ii (i:Int),.bool false]})(gA:A[i]? = some (.agg [ii x.k,.str (bs x.t),ii (x.at':Int)]))(gs:S0.set 0 {cells:=[.slice 3 A,ii ((i:Int)+1),.bool false]}=S1)(h3:rP 93 [ii 3] S0 (.bool false) S0)(h4:rP 93 [ii 4] S0 (.bool true) S0)(hk:∀e,xr 0 S0 S1 e=some (e,S1)) :
  rP 277 [ii d] S0 (Nd.mk 2 (cd8 x.t) 0 false false [] []).av S1:=by
 have hi':(i:Int)<(A.length:Int):=by omega
 have qn:=c283 ok hx S0;refine xh rfl ?_;simp only[Nd.av,Qr.av,Bd.av,Bd.cells,xd,zb,rZd,cg,AV.cells]at *;exact lf81
theorem bj1{M:LT}{w:LU}(h:pk M=w)(hw:w≠[])(k:Int)(h1:k≠1)(h5:k≠5):bbr k M=false:=by
 obtain⟨x,r,rfl⟩:=bm7 h hw;simp only[pk]at h;split at h
 ·rename_i hh;rcases hh with hh | hh<;>simp[bbr,hh]<;>omega
 ·exact absurd h.symm hw
theorem d_prim(hR:PRD R n):RcD 277 Nd.av none (b5d R) (n+1):=by
 intro L0 M d F;have hM:=F.sfx;have hl0:=F.len;have hle:=hM.length_le;have h3:=bzm hl0 hM 3;have h4:=bzm hl0 hM 4;have h2:=bzm hl0 hM 2;have no:∀w:LU,w≠[]→¬ pk M=w→rW 46 (bs w) (RG L0 M) false (RG L0 M):=fun w hw h=>by
  have q:=bcq hl0 hM w hw
  rwa [xk h]at q
 have yes:∀w:LU,w≠[]→pk M=w→rW 46 (bs w) (RG L0 M) true (RG L0 (M.drop 1)):=fun w hw h=>by
  have q:=bcq hl0 hM w hw
  rwa [xx h]at q
 have td:M.drop 1<:+M:=xp M;unfold b5d;by_cases w0:pk M=bxf
 ·rw[if_pos w0];rw[bj1 w0 (by simp) 3 (by decide) (by decide)]at h3;rw[bj1 w0 (by simp) 4 (by decide) (by decide)]at h4;exact dqk d _ _ h3 h4 (yes _ (by simp) w0) (fun e=>bff L0 _ _ e)
 rw[if_neg w0];have n0:=no _ (by simp) w0;by_cases w1:pk M=b4g
 ·rw[if_pos w1];rw[bj1 w1 (by simp) 3 (by decide) (by decide)]at h3;rw[bj1 w1 (by simp) 4 (by decide) (by decide)]at h4;exact dqj d _ _ h3 h4 n0 (yes _ (by simp) w1) (fun e=>bff L0 _ _ e)
 rw[if_neg w1];have n1:=no _ (by simp) w1;by_cases w2:pk M=b0m
 ·rw[if_pos w2];rw[bj1 w2 (by simp) 3 (by decide) (by decide)]at h3;rw[bj1 w2 (by simp) 4 (by decide) (by decide)]at h4;exact dqh d _ _ h3 h4 n0 n1 (yes _ (by simp) w2) (fun e=>bff L0 _ _ e)
 rw[if_neg w2];have n2:=no _ (by simp) w2;by_cases w3:pk M=b0p
 ·rw[if_pos w3];rw[bj1 w3 (by simp) 3 (by decide) (by decide)]at h3;rw[bj1 w3 (by simp) 4 (by decide) (by decide)]at h4;have lt:=bgh w3 (by simp);obtain⟨S2,q1,e1⟩:=bd5 bh6 (by simp) hl0 (show bb4 L0 (RG L0 (M.drop 1)) (some _) from rfl) (fun N h=>by obtain rfl:=bf h;exact td.trans hM);simp only[bb]at e1;have tm:∀N,xm [bh6] (M.drop 1)=some N→N<:+M∧N.length<M.length:=fun N h=>⟨(xj h).trans td,by have:=(xj h).length_le;omega⟩
  obtain⟨v,S3,S4,S5,p1,p2,p3,p4⟩:=cps hR.sfx.query hR.query zQ btj hl0 e1 d F.fit.h0 F.fit.d3 (fun N h=>⟨(tm N h).1.trans hM,fun hd=>F.deep (tm N h).1 (tm N h).2 hd⟩);refine b0h (ckx d _ _ S2 S3 S4 S5 v h3 h4 n0 n1 n2 (yes _ (by simp) w3) q1 p1 p2 p3 (fun e=>p4.leave e)) ?_;have ei:bbz R.query d (M.drop 1)=(xm [bh6] (M.drop 1)).bind (bf6 R.query d):=rfl;rw[ei];cases g:(xm [bh6] (M.drop 1)).bind (bf6 R.query d) with
  | none=>rw[g]at p4;exact p4
  | some y=>rw[g]at p4;obtain⟨rfl,rfl⟩:=p4;exact⟨rfl,rfl⟩
 rw[if_neg w3];have n3:=no _ (by simp) w3;by_cases w4:pk M=cs3
 ·rw[if_pos w4];rw[bj1 w4 (by simp) 3 (by decide) (by decide)]at h3;rw[bj1 w4 (by simp) 4 (by decide) (by decide)]at h4;have lt:=bgh w4 (by simp);obtain⟨S2,p1,e1⟩:=dm7 (show bb4 L0 (RG L0 (M.drop 1)) (some _) from rfl) d F.fit.h0 F.fit.d3;obtain⟨v,S3,p2,e2⟩:=bc4 (ds3 hR) (.mk 18 [] 0 false false [] []) (fun L0 a d=>cm8 L0 a d) e1 (d+1) (fun N h=>by
   split at h
   ·cases h
   ·rename_i hd;obtain rfl:=bf h;exact F.deep td lt hd)
  refine b0h (c4d d _ _ S2 S3 v h3 h4 n0 n1 n2 n3 (yes _ (by simp) w4) p1 p2 (fun e=>e2.leave e)) ?_;unfold bbj;by_cases hd:24<d+1
  ·rw[if_pos hd]at e2 ⊢;exact e2
  ·rw[if_neg hd]at e2 ⊢;exact e2
 rw[if_neg w4];have n4:=no _ (by simp) w4;by_cases w5:pk M=bh6
 ·rw[if_pos w5,c4s R d w5];rw[bj1 w5 (by simp) 3 (by decide) (by decide)]at h3;rw[bj1 w5 (by simp) 4 (by decide) (by decide)]at h4;have lt:=bgh w5 (by simp);unfold bbj;by_cases hd:24<d+1
  ·rw[if_pos hd];obtain⟨v,q⟩:=dkd L0 hl0 (L0.length - (M.drop 1).length) (jb _ _) (d+1);exact⟨v,_,jb _ _,b07 d _ _ _ _ v h3 h4 n0 n1 n2 n3 n4 (yes _ (by simp) w5) (cdf L0 _ d F.fit.h0 F.fit.d3 hd) q (fun e=>bgp L0 _ _ true e)⟩
  ·rw[if_neg hd];have q:=djt hR L0 _ (d+1) (F.deep td lt hd);have qd:=cdg L0 (M.drop 1) d F.fit.h0 F.fit.d3 hd;cases g:parG R (d+1) (M.drop 1) with
   | none=>
    rw[g]at q;obtain⟨v,a,ha,q⟩:=q;exact⟨v,a,ha,b07 d _ _ _ _ v h3 h4 n0 n1 n2 n3 n4 (yes _ (by simp) w5) qd q (fun e=>bgp L0 _ _ true e)⟩
   | some y=>
    rw[g]at q;exact b07 d _ _ _ _ y.1 h3 h4 n0 n1 n2 n3 n4 (yes _ (by simp) w5) qd q (fun e=>bff L0 _ _ e)
 rw[if_neg w5];have n5:=no _ (by simp) w5;cases M with
 | nil=>exact⟨zN,_,jb _ _,cf5 L0 _ d _ rfl h3 h4 n0 n1 n2 n3 n4 n5 h2⟩
 | cons x r=>
  have ok:=F.fit.good x (.head _);have hlen:(L0.map Tok.av).length=L0.length:=by simp
  have hi:L0.length - (x::r).length<(L0.map Tok.av).length:=by rw[hlen];simp at hle ⊢;omega
  have hw:=bp7 (n:=L0.length - (x::r).length) (by omega);have gs:(RG L0 (x::r)).set 0 {cells:=[.slice 3 (L0.map Tok.av),ii (((L0.length - (x::r).length:Nat):Int)+1),.bool false]}=RG L0 r:=by
   rw[bsr hM];unfold RG Rst;simp
  dsimp only;by_cases k3:x.k=3
  ·rw[if_pos k3];have e3:bbr 3 (x::r)=true:=by simp[bbr,k3]
   rw[e3]at h3;exact df8 d _ _ _ _ x.k x.t _ (ok.num k3) ok.len hi hw (bhv L0 _) (b32 hM) gs h3 (fun e=>bff L0 _ _ e)
  ·rw[if_neg k3];have e3:bbr 3 (x::r)=false:=by simp[bbr,k3]
   rw[e3]at h3;by_cases k4:x.k=4
   ·rw[if_pos k4];have e4:bbr 4 (x::r)=true:=by simp[bbr,k4]
    rw[e4]at h4;exact df7 d _ _ _ _ x ok k4 hi hw (bhv L0 _) (b32 hM) gs h3 h4 (fun e=>bff L0 _ _ e)
   ·rw[if_neg k4];have e4:bbr 4 (x::r)=false:=by simp[bbr,k4]
    rw[e4]at h4;by_cases k2:x.k=2
    ·rw[if_pos k2];have e2:bbr 2 (x::r)=true:=by simp[bbr,k2]
     rw[e2]at h2;have q:=dsx hR F k2;cases g:bx6 R x.t d r with
     | none=>
      rw[g]at q;obtain⟨v,a,ha,q⟩:=q;exact⟨v,a,ha,cf6 d _ _ v h3 h4 n0 n1 n2 n3 n4 n5 h2 q (fun e=>bgp L0 _ _ true e)⟩
     | some y=>
      rw[g]at q;exact cf6 d _ _ y.1 h3 h4 n0 n1 n2 n3 n4 n5 h2 q (fun e=>bff L0 _ _ e)
    ·rw[if_neg k2];have e2:bbr 2 (x::r)=false:=by simp[bbr,k2]
     rw[e2]at h2;exact⟨zN,_,jb _ _,cf5 L0 _ d _ rfl h3 h4 n0 n1 n2 n3 n4 n5 h2⟩
end Go.Av
namespace Go.Av
open Go Go.Proofs
variable{R:Rd}{n:Nat}
theorem wn1:IntKind.i64.wrap 1=1:=by decide
theorem wn2:IntKind.i64.wrap 2=2:=by decide
theorem wn3:IntKind.i64.wrap 3=3:=by decide
theorem wn4:IntKind.i64.wrap 4=4:=by decide
theorem wn5:IntKind.i64.wrap 5=5:=by decide
theorem wn6:IntKind.i64.wrap 6=6:=by decide
theorem c9v(hR:PRD R n):RcD 276 Nd.av none (cb0 R) (n+1):=d_sign hR (b5d R) (d_prim hR)
theorem dss(hR:PRD R n):RcD 275 Nd.av none (cj6 R) (n+1):=d_term (cb0 R) (bxs hR.sfx) (c9v hR)
theorem bt7(hR:PRD R n):RcD 274 Nd.av none (b3t R) (n+1):=d_sum (cj6 R) (b4s hR.sfx) (dss hR)
theorem lf82{p:Prop}(h:p:=by simp[-getElem?_pos,rZa,-List.drop_one,-List.drop_drop,rZb,bc2,rZf,bmp,wn1,wn2,wn3,wn4,wn5,wn6,dvx,b19, *]):p:=h
theorem dps(d:Int)(S0 S1 S2 SE:LB)(v0 v1:Nd)(h0:rP 274 [ii d] S0 v0.av S1)(w:rW 46 cdt S1 true S2)(h2:rP 274 [ii d] S2 v1.av SE)(hk:∀e,xr 0 S0 SE e=some (e,SE)):rP 272 [ii d] S0 (bhb weq v0 v1).av SE:=by
 have qb:rH 257 [.str cdt,v0.av,v1.av] SE (bhb weq v0 v1).av SE:=bh8 weq v0 v1 SE;refine xh rfl ?_;obtain⟨opv0,t_0,n_0,nov0,d_0,a_0,u_0⟩:=v0;obtain⟨opv1,t_1,n_1,nov1,d_1,a_1,u_1⟩:=v1;simp only[Nd.av,Qr.av,Bd.av,Bd.cells,bhb,xd,zb,rZd,cg,AV.cells]at *;exact lf82
theorem dpr(d:Int)(S0 S1 S2 SE:LB)(v0 v1:Nd)(h0:rP 274 [ii d] S0 v0.av S1)(f0:rW 46 cdt S1 false S1)(w:rW 46 cd2 S1 true S2)(h2:rP 274 [ii d] S2 v1.av SE)(hk:∀e,xr 0 S0 SE e=some (e,SE)):rP 272 [ii d] S0 (bhb wne v0 v1).av SE:=by
 have qb:rH 257 [.str cd2,v0.av,v1.av] SE (bhb wne v0 v1).av SE:=bh8 wne v0 v1 SE;refine xh rfl ?_;obtain⟨opv0,t_0,n_0,nov0,d_0,a_0,u_0⟩:=v0;obtain⟨opv1,t_1,n_1,nov1,d_1,a_1,u_1⟩:=v1;simp only[Nd.av,Qr.av,Bd.av,Bd.cells,bhb,xd,zb,rZd,cg,AV.cells]at *;exact lf82
theorem dpq(d:Int)(S0 S1 S2 SE:LB)(v0 v1:Nd)(h0:rP 274 [ii d] S0 v0.av S1)(f0:rW 46 cdt S1 false S1)(f1:rW 46 cd2 S1 false S1)(w:rW 46 cjq S1 true S2)(h2:rP 274 [ii d] S2 v1.av SE)(hk:∀e,xr 0 S0 SE e=some (e,SE)):rP 272 [ii d] S0 (bhb wlt v0 v1).av SE:=by
 have qb:rH 257 [.str cjq,v0.av,v1.av] SE (bhb wlt v0 v1).av SE:=bh8 wlt v0 v1 SE;refine xh rfl ?_;obtain⟨opv0,t_0,n_0,nov0,d_0,a_0,u_0⟩:=v0;obtain⟨opv1,t_1,n_1,nov1,d_1,a_1,u_1⟩:=v1;simp only[Nd.av,Qr.av,Bd.av,Bd.cells,bhb,xd,zb,rZd,cg,AV.cells]at *;exact lf82
theorem dpp(d:Int)(S0 S1 S2 SE:LB)(v0 v1:Nd)(h0:rP 274 [ii d] S0 v0.av S1)(f0:rW 46 cdt S1 false S1)(f1:rW 46 cd2 S1 false S1)(f2:rW 46 cjq S1 false S1)(w:rW 46 cj2 S1 true S2)(h2:rP 274 [ii d] S2 v1.av SE)(hk:∀e,xr 0 S0 SE e=some (e,SE)):rP 272 [ii d] S0 (bhb wle v0 v1).av SE:=by
 have qb:rH 257 [.str cj2,v0.av,v1.av] SE (bhb wle v0 v1).av SE:=bh8 wle v0 v1 SE;refine xh rfl ?_;obtain⟨opv0,t_0,n_0,nov0,d_0,a_0,u_0⟩:=v0;obtain⟨opv1,t_1,n_1,nov1,d_1,a_1,u_1⟩:=v1;simp only[Nd.av,Qr.av,Bd.av,Bd.cells,bhb,xd,zb,rZd,cg,AV.cells]at *;exact lf82
theorem dpm(d:Int)(S0 S1 S2 SE:LB)(v0 v1:Nd)(h0:rP 274 [ii d] S0 v0.av S1)(f0:rW 46 cdt S1 false S1)(f1:rW 46 cd2 S1 false S1)(f2:rW 46 cjq S1 false S1)(f3:rW 46 cj2 S1 false S1)(w:rW 46 cp1 S1 true S2)(h2:rP 274 [ii d] S2 v1.av SE)(hk:∀e,xr 0 S0 SE e=some (e,SE)):rP 272 [ii d] S0 (bhb wgt v0 v1).av SE:=by
 have qb:rH 257 [.str cp1,v0.av,v1.av] SE (bhb wgt v0 v1).av SE:=bh8 wgt v0 v1 SE;refine xh rfl ?_;obtain⟨opv0,t_0,n_0,nov0,d_0,a_0,u_0⟩:=v0;obtain⟨opv1,t_1,n_1,nov1,d_1,a_1,u_1⟩:=v1;simp only[Nd.av,Qr.av,Bd.av,Bd.cells,bhb,xd,zb,rZd,cg,AV.cells]at *;exact lf82
theorem dpk(d:Int)(S0 S1 S2 SE:LB)(v0 v1:Nd)(h0:rP 274 [ii d] S0 v0.av S1)(f0:rW 46 cdt S1 false S1)(f1:rW 46 cd2 S1 false S1)(f2:rW 46 cjq S1 false S1)(f3:rW 46 cj2 S1 false S1)(f4:rW 46 cp1 S1 false S1)(w:rW 46 cs6 S1 true S2)(h2:rP 274 [ii d] S2 v1.av SE)(hk:∀e,xr 0 S0 SE e=some (e,SE)):rP 272 [ii d] S0 (bhb wge v0 v1).av SE:=by
 have qb:rH 257 [.str cs6,v0.av,v1.av] SE (bhb wge v0 v1).av SE:=bh8 wge v0 v1 SE;refine xh rfl ?_;obtain⟨opv0,t_0,n_0,nov0,d_0,a_0,u_0⟩:=v0;obtain⟨opv1,t_1,n_1,nov1,d_1,a_1,u_1⟩:=v1;simp only[Nd.av,Qr.av,Bd.av,Bd.cells,bhb,xd,zb,rZd,cg,AV.cells]at *;exact lf82
theorem c1t(d:Int)(S0 S1 SE:LB)(v0:Nd)(h0:rP 274 [ii d] S0 v0.av S1)(f0:rW 46 cdt S1 false S1)(f1:rW 46 cd2 S1 false S1)(f2:rW 46 cjq S1 false S1)(f3:rW 46 cj2 S1 false S1)(f4:rW 46 cp1 S1 false S1)(f5:rW 46 cs6 S1 false S1)(S2 S3:LB)(nb:Bool)(w:rW 46 c0c S1 true S2)(h2:rW 46 wb8 S2 nb S3)(h3:rW 46 wb9 S3 true SE)(hk:∀e,xr 0 S0 SE e=some (e,SE)):rP 272 [ii d] S0 (Nd.mk 12 [] 0 nb false [v0] []).av SE:=by
 refine xh rfl ?_;obtain⟨opv0,t_0,n_0,nov0,d_0,a_0,u_0⟩:=v0;simp only[Nd.av,Qr.av,Bd.av,Bd.cells,bhb,xd,zb,rZd,cg,AV.cells]at *;exact lf82
theorem c1s(d:Int)(S0 S1 SE:LB)(v0:Nd)(h0:rP 274 [ii d] S0 v0.av S1)(f0:rW 46 cdt S1 false S1)(f1:rW 46 cd2 S1 false S1)(f2:rW 46 cjq S1 false S1)(f3:rW 46 cj2 S1 false S1)(f4:rW 46 cp1 S1 false S1)(f5:rW 46 cs6 S1 false S1)(S2 S3:LB)(nb:Bool)(w:rW 46 c0c S1 true S2)(h2:rW 46 wb8 S2 nb S3)(h3:rW 46 wb9 S3 false S3)(h4:rW 46 wb6 S3 true SE)(hk:∀e,xr 0 S0 SE e=some (e,SE)):rP 272 [ii d] S0 (Nd.mk 13 [] 0 nb false [v0] []).av SE:=by
 refine xh rfl ?_;obtain⟨opv0,t_0,n_0,nov0,d_0,a_0,u_0⟩:=v0;simp only[Nd.av,Qr.av,Bd.av,Bd.cells,bhb,xd,zb,rZd,cg,AV.cells]at *;exact lf82
theorem c1x(d:Int)(S0 S1 SE:LB)(v0:Nd)(h0:rP 274 [ii d] S0 v0.av S1)(f0:rW 46 cdt S1 false S1)(f1:rW 46 cd2 S1 false S1)(f2:rW 46 cjq S1 false S1)(f3:rW 46 cj2 S1 false S1)(f4:rW 46 cp1 S1 false S1)(f5:rW 46 cs6 S1 false S1)(S2 S3 S4 S5:LB)(nb:Bool)(v1:Nd)(w:rW 46 c0c S1 true S2)(h2:rW 46 wb8 S2 nb S3)(h3:rW 46 wb9 S3 false S3)(h4:rW 46 wb6 S3 false S3)(h5:rP 92 [.str cj0] S3 (.tuple []) S4)(h6:rP 92 [.str c0f] S4 (.tuple []) S5)(h7:rP 274 [ii d] S5 v1.av SE)(hk:∀e,xr 0 S0 SE e=some (e,SE)):rP 272 [ii d] S0 (Nd.mk 14 [] 0 nb false [v0,v1] []).av SE:=by
 refine xh rfl ?_;obtain⟨opv0,t_0,n_0,nov0,d_0,a_0,u_0⟩:=v0;obtain⟨opv1,t_1,n_1,nov1,d_1,a_1,u_1⟩:=v1;simp only[Nd.av,Qr.av,Bd.av,Bd.cells,bhb,xd,zb,rZd,cg,AV.cells]at *;exact lf82
theorem dd6(d:Int)(S0 S1 SE:LB)(v0:Nd)(h0:rP 274 [ii d] S0 v0.av S1)(f0:rW 46 cdt S1 false S1)(f1:rW 46 cd2 S1 false S1)(f2:rW 46 cjq S1 false S1)(f3:rW 46 cj2 S1 false S1)(f4:rW 46 cp1 S1 false S1)(f5:rW 46 cs6 S1 false S1)(S1p:LB)(c1 c2 c3:Bool)(A:LA)(i:Nat)(bad:Bool)(w:rW 46 c0c S1 false S1)(n1:rP 97 [ii 0,.str wb8] S1 (.bool c1) S1)(n2:rP 97 [ii 1,.str cd0] S1 (.bool c2) S1)(n3:rP 97 [ii 1,.str cd1] S1 (.bool c3) S1)(hw:IntKind.i64.wrap ((i:Int)+1)=(i:Int)+1)(g:S1[0]? = some {cells:=[.slice 3 A,ii (i:Int),.bool bad]})(gs:S1.set 0 {cells:=[.slice 3 A,ii ((i:Int)+1),.bool bad]}=S1p)(S3 S4 S5 S6:LB)(b1 b2:Bool)(hb:(b1||b2)=true)(v:Qr)(h1:rW 46 cd0 (if(c1&&(c2||c3))=true then S1p else S1) true S3)(h2:rP 92 [.str wb0] S3 (.tuple []) S4)(h3:rP 97 [ii 0,.str cp0] S4 (.bool b1) S4)(h4:rP 97 [ii 0,.str cjp] S4 (.bool b2) S4)(h5:rP 212 [ii d] S4 (ii (d+1)) S5)(h6:rP 45 [ii (d+1)] S5 v.av S6)(h7:rP 92 [.str wb2] S6 (.tuple []) SE)(hk:∀e,xr 0 S0 SE e=some (e,SE)):rP 272 [ii d] S0 (Nd.mk 15 [] 0 (c1&&(c2||c3)) false [v0] [v]).av SE:=by
 refine xh rfl ?_;obtain⟨opv0,t_0,n_0,nov0,d_0,a_0,u_0⟩:=v0;obtain⟨⟨c0v,c1v,c2v,i3v,i4v,i5v,i6v,i7v,i8v,i9v⟩,ksv,liv,ofv⟩:=v;simp only[Nd.av,Qr.av,Bd.av,Bd.cells,bhb,xd,zb,rZd,cg,AV.cells]at *;rcases Bool.or_eq_true_iff.1 hb with hb1 | hb1<;>subst hb1<;>cases c1<;>cases c2<;>cases c3<;>simp only[kf,sf,jh,ph,px,jj,mq,ck,if_true,if_false] at*<;> simp[-getElem?_pos,rZa,-List.drop_one,-List.drop_drop,rZb,bc2,rZf,bmp,wn1,wn2,wn3,wn4,wn5,wn6,dvx,b19,h0,f0,f1,f2,f3,f4,f5,w,n1,n2,n3,hw,g,gs,h1,h2,h3,h4,h5,h6,h7,hk]
theorem dd7(d:Int)(S0 S1 SE:LB)(v0:Nd)(h0:rP 274 [ii d] S0 v0.av S1)(f0:rW 46 cdt S1 false S1)(f1:rW 46 cd2 S1 false S1)(f2:rW 46 cjq S1 false S1)(f3:rW 46 cj2 S1 false S1)(f4:rW 46 cp1 S1 false S1)(f5:rW 46 cs6 S1 false S1)(S1p:LB)(c1 c2 c3:Bool)(A:LA)(i:Nat)(bad:Bool)(w:rW 46 c0c S1 false S1)(n1:rP 97 [ii 0,.str wb8] S1 (.bool c1) S1)(n2:rP 97 [ii 1,.str cd0] S1 (.bool c2) S1)(n3:rP 97 [ii 1,.str cd1] S1 (.bool c3) S1)(hw:IntKind.i64.wrap ((i:Int)+1)=(i:Int)+1)(g:S1[0]? = some {cells:=[.slice 3 A,ii (i:Int),.bool bad]})(gs:S1.set 0 {cells:=[.slice 3 A,ii ((i:Int)+1),.bool bad]}=S1p)(S3 S4 S5 S6:LB)(l:List Nd)(hl:l.length≤9001)(h1:rW 46 cd0 (if(c1&&(c2||c3))=true then S1p else S1) true S3)(h2:rP 92 [.str wb0] S3 (.tuple []) S4)(h3:rP 97 [ii 0,.str cp0] S4 (.bool false) S4)(h4:rP 97 [ii 0,.str cjp] S4 (.bool false) S4)(h5:rP 212 [ii d] S4 (ii (d+1)) S5)(h6:bbf 213 [.ptr 0 0,ii (d+1)] S5=some (.ret (.slice 7 (xd l)) (some 118),S6))(h7:rP 92 [.str wb2] S6 (.tuple []) SE)(hk:∀e,xr 0 S0 SE e=some (e,SE)):rP 272 [ii d] S0 (Nd.mk 15 [] 0 (c1&&(c2||c3)) false (v0::l) []).av SE:=by
 refine xh rfl ?_;obtain⟨opv0,t_0,n_0,nov0,d_0,a_0,u_0⟩:=v0;have hlA:(xd l).length=l.length:=bdh l;have b1:(1+l.length)*88≤140737488355328:=by omega
 simp only[Nd.av,Qr.av,Bd.av,Bd.cells,bhb,xd,zb,rZd,cg,AV.cells]at *;cases c1<;>cases c2<;>cases c3<;>simp only[kf,sf,jh,ph,px,jj,mq,ck,if_true,if_false] at*<;> simp[-getElem?_pos,rZa,-List.drop_one,-List.drop_drop,rZb,bc2,rZf,bmp,wn1,wn2,wn3,wn4,wn5,wn6,dvx,b19,h0,f0,f1,f2,f3,f4,f5,w,n1,n2,n3,hw,g,gs,h1,h2,h3,h4,h5,h6,h7,hlA,b1,hk]
theorem cfb(d:Int)(S0 S1 SE:LB)(v0:Nd)(h0:rP 274 [ii d] S0 v0.av S1)(f0:rW 46 cdt S1 false S1)(f1:rW 46 cd2 S1 false S1)(f2:rW 46 cjq S1 false S1)(f3:rW 46 cj2 S1 false S1)(f4:rW 46 cp1 S1 false S1)(f5:rW 46 cs6 S1 false S1)(S1p:LB)(c1 c2 c3:Bool)(A:LA)(i:Nat)(bad:Bool)(w:rW 46 c0c S1 false S1)(n1:rP 97 [ii 0,.str wb8] S1 (.bool c1) S1)(n2:rP 97 [ii 1,.str cd0] S1 (.bool c2) S1)(n3:rP 97 [ii 1,.str cd1] S1 (.bool c3) S1)(hw:IntKind.i64.wrap ((i:Int)+1)=(i:Int)+1)(g:S1[0]? = some {cells:=[.slice 3 A,ii (i:Int),.bool bad]})(gs:S1.set 0 {cells:=[.slice 3 A,ii ((i:Int)+1),.bool bad]}=S1p)(S3 S4 S5:LB)(v1 v2:Nd)(h1:rW 46 cd0 (if(c1&&(c2||c3))=true then S1p else S1) false (if(c1&&(c2||c3))=true then S1p else S1))(h2:rW 46 cd1 (if(c1&&(c2||c3))=true then S1p else S1) true S3)(h3:rP 274 [ii d] S3 v1.av S4)(h4:rP 92 [.str cj1] S4 (.tuple []) S5)(h5:rP 274 [ii d] S5 v2.av SE)(hk:∀e,xr 0 S0 SE e=some (e,SE)):rP 272 [ii d] S0 (Nd.mk 16 [] 0 (c1&&(c2||c3)) false [v0,v1,v2] []).av SE:=by
 refine xh rfl ?_;obtain⟨opv0,t_0,n_0,nov0,d_0,a_0,u_0⟩:=v0;obtain⟨opv1,t_1,n_1,nov1,d_1,a_1,u_1⟩:=v1;obtain⟨opv2,t_2,n_2,nov2,d_2,a_2,u_2⟩:=v2;simp only[Nd.av,Qr.av,Bd.av,Bd.cells,bhb,xd,zb,rZd,cg,AV.cells]at *;cases c1<;>cases c2<;>cases c3<;>simp only[kf,sf,jh,ph,px,jj,mq,ck,if_true,if_false] at*<;> simp[-getElem?_pos,rZa,-List.drop_one,-List.drop_drop,rZb,bc2,rZf,bmp,wn1,wn2,wn3,wn4,wn5,wn6,dvx,b19,h0,f0,f1,f2,f3,f4,f5,w,n1,n2,n3,hw,g,gs,h1,h2,h3,h4,h5,hk]
theorem cd9(d:Int)(S0 S1:LB)(v0:Nd)(h0:rP 274 [ii d] S0 v0.av S1)(f0:rW 46 cdt S1 false S1)(f1:rW 46 cd2 S1 false S1)(f2:rW 46 cjq S1 false S1)(f3:rW 46 cj2 S1 false S1)(f4:rW 46 cp1 S1 false S1)(f5:rW 46 cs6 S1 false S1)(S1p:LB)(c1 c2 c3:Bool)(A:LA)(i:Nat)(bad:Bool)(w:rW 46 c0c S1 false S1)(n1:rP 97 [ii 0,.str wb8] S1 (.bool c1) S1)(n2:rP 97 [ii 1,.str cd0] S1 (.bool c2) S1)(n3:rP 97 [ii 1,.str cd1] S1 (.bool c3) S1)(hw:IntKind.i64.wrap ((i:Int)+1)=(i:Int)+1)(g:S1[0]? = some {cells:=[.slice 3 A,ii (i:Int),.bool bad]})(gs:S1.set 0 {cells:=[.slice 3 A,ii ((i:Int)+1),.bool bad]}=S1p)(h1:rW 46 cd0 (if(c1&&(c2||c3))=true then S1p else S1) false (if(c1&&(c2||c3))=true then S1p else S1))(h2:rW 46 cd1 (if(c1&&(c2||c3))=true then S1p else S1) false (if(c1&&(c2||c3))=true then S1p else S1))(hk:∀e,xr 0 S0 (if(c1&&(c2||c3))=true then S1p else S1) e=some (e,(if(c1&&(c2||c3))=true then S1p else S1))):rP 272 [ii d] S0 v0.av (if(c1&&(c2||c3))=true then S1p else S1):=by
 refine xh rfl ?_;obtain⟨opv0,t_0,n_0,nov0,d_0,a_0,u_0⟩:=v0;simp only[Nd.av,Qr.av,Bd.av,Bd.cells,bhb,xd,zb,rZd,cg,AV.cells]at *;cases c1<;>cases c2<;>cases c3<;>simp only[kf,sf,jh,ph,px,jj,mq,ck,if_true,if_false] at*<;> simp[-getElem?_pos,rZa,-List.drop_one,-List.drop_drop,rZb,bc2,rZf,bmp,wn1,wn2,wn3,wn4,wn5,wn6,dvx,b19,h0,f0,f1,f2,f3,f4,f5,w,n1,n2,n3,hw,g,gs,h1,h2,hk]
theorem D_is(w:LU)(hw:w≠[]){L0:LT}(hL:L0.length≤9000){S:LB}{o:Option (LT)}(hS:bb4 L0 S o)(hs:∀M,o=some M→M<:+L0):∃b,rP 97 [ii 0,.str (bs w)] S (.bool b) S∧∀M,o=some M→b=decide (pk M=w):=by
 cases o with
 | none=>
  obtain⟨a,ha,rfl⟩:=hS;exact⟨_,b5b L0 hL a (by omega) true w hw,fun M h=>by cases h⟩
 | some M=>
  obtain rfl:=hS;refine⟨_,b5b L0 hL (L0.length - M.length) (by omega) false w hw,fun N h=>?_⟩;obtain rfl:=bf h;rw[bhf (hs M rfl)]
theorem must1{w:LU}{L N:LT}(h:xm [w] L=some N):pk L=w∧N=L.drop 1:=by
 simp only[xm]at h;split at h
 ·rename_i hh;exact⟨hh,(bf h).symm⟩
 ·cases h
theorem must2(w u:LU)(L:LT):xm [w,u] L=(xm [w] L).bind (xm [u]):=by
 simp only[xm];split<;>rfl
theorem c4t(p:Rdr Nd)(d:Int)(M:LT):bf6 (bbc p) d M=(bf6 (b7r p) d M).map fun x=>(x.1.1,x.2):=by
 unfold bf6 bbj;by_cases hd:24<d+1
 ·rw[if_pos hd,if_pos hd];rfl
 ·rw[if_neg hd,if_neg hd,cgq p (d+1) M];cases b7r p (d+1) M with
  | none=>rfl
  | some x=>
   simp only[bc,bb];cases xm [brp] x.2 with
   | none=>rfl
   | some N=>rfl
theorem db8(L0:LT)(a:Nat)(d:Int):bbf 213 [.ptr 0 0,ii d] (Rst L0 a true)=some (.ret (.slice 7 (xd (⟨[],by simp⟩:SL).1)) (some 118),Rst L0 a true):=cdj L0 a d
theorem bfr.map{α β:Type}{L0:LT}{S:LB}{v:α}{o:Option (α×LT)}(f:α→β)(h:bfr L0 S v o):bfr L0 S (f v) (o.bind fun x=>some (f x.1,x.2)):=by
 cases o with
 | none=>exact h
 | some x=>obtain⟨rfl,rfl⟩:=h;exact⟨rfl,rfl⟩
theorem d_test(hR:PRD R n):RcD 272 Nd.av none (b7c R) (n+1):=by
 intro L0 M d F;have hM:=F.sfx;have hl0:=F.len;obtain⟨v0,S1,h0,e0⟩:=bc4 (bt7 hR) zN bt9 (show bb4 L0 (RG L0 M) (some M) from rfl) d (fun N h=>by obtain rfl:=bf h;exact F);simp only[bb]at e0;unfold b7c;cases g:b3t R d M with
 | none=>
  rw[g]at e0;obtain⟨a,ha,rfl⟩:=e0;simp only[bh];have i1:=b5b L0 hl0 a (by omega) true bpk (by simp);have i2:=dvj L0 hl0 a (by omega) true 1 (by omega) win (by simp);have i3:=dvj L0 hl0 a (by omega) true 1 (by omega) bbs (by simp);have hc:decide (pk (L0.drop a)=bpk)=true→a+1≤L0.length:=by
   intro h;obtain⟨x,r,hx⟩:=bm7 (of_decide_eq_true h) (by simp);have:=congrArg List.length hx;simp only[fb,cm]at this;omega
  generalize decide (pk (L0.drop a)=bpk)=c1 at *;generalize decide (pk (L0.drop (a+1))=win)=c2 at *;generalize decide (pk (L0.drop (a+1))=bbs)=c3 at *;have q:=cd9 d (RG L0 M) (Rst L0 a true) v0 h0 (bd2 L0 a _) (bd2 L0 a _) (bd2 L0 a _) (bd2 L0 a _) (bd2 L0 a _) (bd2 L0 a _) (Rst L0 (a+1) true) c1 c2 c3 (L0.map Tok.av) a true (bd2 L0 a _) i1 i2 i3 (by have:=bp7 (n:=a) (by omega);simpa using this) rfl rfl (by split<;>exact bd2 L0 _ _) (by split<;>exact bd2 L0 _ _) (fun e=>by split<;>exact bgp L0 M _ true e);by_cases hno:(c1&&(c2||c3))=true
  ·rw[if_pos hno]at q;have h1:c1=true:=by revert hno;cases c1<;>simp
   exact⟨v0,a+1,hc h1,q⟩
  ·rw[if_neg hno]at q;exact⟨v0,a,ha,q⟩
 | some x=>
  obtain⟨x1,M1⟩:=x;rw[g]at e0;obtain⟨rfl,rfl⟩:=e0;simp only[bb];have t1:M1<:+M:=bh7 hR.sfx d M M (br _) _ g;have F1:=F.sub t1;have hM1:=F1.sfx;have hle1:=t1.length_le;have no:∀w:LU,w≠[]→¬ pk M1=w→rW 46 (bs w) (RG L0 M1) false (RG L0 M1):=fun w hw h=>by
   have q:=bcq hl0 hM1 w hw
   rwa [xk h]at q
  have yes:∀{N:LT},N<:+L0→∀w:LU,w≠[]→pk N=w→rW 46 (bs w) (RG L0 N) true (RG L0 (N.drop 1)):=fun hN w hw h=>by
   have q:=bcq hl0 hN w hw
   rwa [xx h]at q
  have td:M1.drop 1<:+M1:=xp M1;by_cases p0:pk M1=weq
  ·rw[if_pos (by rw[p0];simp)];obtain⟨v1,SE,h2,e2⟩:=bc4 (bt7 hR) zN bt9 (show bb4 L0 (RG L0 (M1.drop 1)) (some _) from rfl) d (fun N h=>by obtain rfl:=bf h;exact F1.sub td);simp only[bb]at e2;refine b0h (dps d _ _ _ _ v0 v1 h0  (yes hM1 _ (by simp) p0) h2 (fun e=>e2.leave e)) ?_;rw[p0];exact e2.map (fun y=>bhb weq v0 y)
  have n0:=no _ (by simp) p0;by_cases p1:pk M1=wne
  ·rw[if_pos (by rw[p1];simp)];obtain⟨v1,SE,h2,e2⟩:=bc4 (bt7 hR) zN bt9 (show bb4 L0 (RG L0 (M1.drop 1)) (some _) from rfl) d (fun N h=>by obtain rfl:=bf h;exact F1.sub td);simp only[bb]at e2;refine b0h (dpr d _ _ _ _ v0 v1 h0 n0 (yes hM1 _ (by simp) p1) h2 (fun e=>e2.leave e)) ?_;rw[p1];exact e2.map (fun y=>bhb wne v0 y)
  have n1:=no _ (by simp) p1;by_cases p2:pk M1=wlt
  ·rw[if_pos (by rw[p2];simp)];obtain⟨v1,SE,h2,e2⟩:=bc4 (bt7 hR) zN bt9 (show bb4 L0 (RG L0 (M1.drop 1)) (some _) from rfl) d (fun N h=>by obtain rfl:=bf h;exact F1.sub td);simp only[bb]at e2;refine b0h (dpq d _ _ _ _ v0 v1 h0 n0 n1 (yes hM1 _ (by simp) p2) h2 (fun e=>e2.leave e)) ?_;rw[p2];exact e2.map (fun y=>bhb wlt v0 y)
  have n2:=no _ (by simp) p2;by_cases p3:pk M1=wle
  ·rw[if_pos (by rw[p3];simp)];obtain⟨v1,SE,h2,e2⟩:=bc4 (bt7 hR) zN bt9 (show bb4 L0 (RG L0 (M1.drop 1)) (some _) from rfl) d (fun N h=>by obtain rfl:=bf h;exact F1.sub td);simp only[bb]at e2;refine b0h (dpp d _ _ _ _ v0 v1 h0 n0 n1 n2 (yes hM1 _ (by simp) p3) h2 (fun e=>e2.leave e)) ?_;rw[p3];exact e2.map (fun y=>bhb wle v0 y)
  have n3:=no _ (by simp) p3;by_cases p4:pk M1=wgt
  ·rw[if_pos (by rw[p4];simp)];obtain⟨v1,SE,h2,e2⟩:=bc4 (bt7 hR) zN bt9 (show bb4 L0 (RG L0 (M1.drop 1)) (some _) from rfl) d (fun N h=>by obtain rfl:=bf h;exact F1.sub td);simp only[bb]at e2;refine b0h (dpm d _ _ _ _ v0 v1 h0 n0 n1 n2 n3 (yes hM1 _ (by simp) p4) h2 (fun e=>e2.leave e)) ?_;rw[p4];exact e2.map (fun y=>bhb wgt v0 y)
  have n4:=no _ (by simp) p4;by_cases p5:pk M1=wge
  ·rw[if_pos (by rw[p5];simp)];obtain⟨v1,SE,h2,e2⟩:=bc4 (bt7 hR) zN bt9 (show bb4 L0 (RG L0 (M1.drop 1)) (some _) from rfl) d (fun N h=>by obtain rfl:=bf h;exact F1.sub td);simp only[bb]at e2;refine b0h (dpk d _ _ _ _ v0 v1 h0 n0 n1 n2 n3 n4 (yes hM1 _ (by simp) p5) h2 (fun e=>e2.leave e)) ?_;rw[p5];exact e2.map (fun y=>bhb wge v0 y)
  have n5:=no _ (by simp) p5;rw[if_neg (by simp[p0,p1,p2,p3,p4,p5])];by_cases p6:pk M1=wis
  ·rw[if_pos p6];have hn:=bcq hl0 (td.trans hM1) bpk (by simp);have ts:=bb5 bpk (M1.drop 1);generalize isG bpk (M1.drop 1)=N at *;obtain⟨nb,N⟩:=N;dsimp only at *;have hN:N<:+L0:=(ts.trans td).trans hM1;by_cases q1:pk N=b0m
   ·rw[if_pos q1];exact c1t d _ _ _ v0 h0 n0 n1 n2 n3 n4 n5 _ _ nb (yes hM1 _ (by simp) p6) hn (yes hN _ (by simp) q1) (fun e=>bff L0 _ _ e)
   rw[if_neg q1];have m1:rW 46 (bs b0m) (RG L0 N) false (RG L0 N):=by
    have q:=bcq hl0 hN b0m (by simp)
    rwa [xk q1]at q
   by_cases q2:pk N=bxf
   ·rw[if_pos q2];exact c1s d _ _ _ v0 h0 n0 n1 n2 n3 n4 n5 _ _ nb (yes hM1 _ (by simp) p6) hn m1 (yes hN _ (by simp) q2) (fun e=>bff L0 _ _ e)
   rw[if_neg q2];have m2:rW 46 (bs bxf) (RG L0 N) false (RG L0 N):=by
    have q:=bcq hl0 hN bxf (by simp)
    rwa [xk q2]at q
   obtain⟨S4,r4,e4⟩:=bd5 zx (by simp) hl0 (show bb4 L0 (RG L0 N) (some N) from rfl) (fun M' h=>by obtain rfl:=bf h;exact hN);obtain⟨S5,r5,e5⟩:=bd5 btm (by simp) hl0 e4 (fun M' h=>(xj h).trans hN);obtain⟨v1,SE,r6,e6⟩:=bc4 (bt7 hR) zN bt9 e5 d (fun M' h=>by
    obtain⟨A,h1,h2⟩:=bg.1 h;exact F1.sub ((xj h2).trans ((xj h1).trans (ts.trans td))))
   refine b0h (c1x d _ _ _ v0 h0 n0 n1 n2 n3 n4 n5 _ _ S4 S5 nb v1 (yes hM1 _ (by simp) p6) hn m1 m2 r4 r5 r6 (fun e=>e6.leave e)) ?_;rw[must2];have:=e6.map (fun y=>Nd.mk 14 [] 0 nb false [v0,y] []);simp only[bb,j2]at this ⊢;exact this
  rw[if_neg p6];have n6:=no _ (by simp) p6;have i1:=b5b L0 hl0 (L0.length - M1.length) (by omega) false bpk (by simp);have i2:=dvj L0 hl0 (L0.length - M1.length) (by omega) false 1 (by omega) win (by simp);have i3:=dvj L0 hl0 (L0.length - M1.length) (by omega) false 1 (by omega) bbs (by simp);rw[← fz,bhf hM1]at i2 i3;rw[bhf hM1]at i1;have eN:decide (pk M1=bpk)=true→Rst L0 (L0.length - M1.length+1) false=RG L0 (M1.drop 1):=fun h=>by
   obtain⟨x,r,rfl⟩:=bm7 (of_decide_eq_true h) (by simp);exact(bsr hM1).symm
  have hc2:decide (pk (M1.drop 1)=win)=true→pk (M1.drop 1)=win:=of_decide_eq_true;have hc3:decide (pk (M1.drop 1)=bbs)=true→pk (M1.drop 1)=bbs:=of_decide_eq_true;generalize decide (pk M1=bpk)=c1 at *;generalize decide (pk (M1.drop 1)=win)=c2 at *;generalize decide (pk (M1.drop 1)=bbs)=c3 at *;have eS:(if(c1&&(c2||c3))=true then Rst L0 (L0.length - M1.length+1) false else RG L0 M1)=RG L0 (if(c1&&(c2||c3))=true then M1.drop 1 else M1):=by
   by_cases hno:(c1&&(c2||c3))=true
   ·rw[if_pos hno,if_pos hno];exact eN (by revert hno;cases c1<;>simp)
   ·rw[if_neg hno,if_neg hno]
  have t2:(if(c1&&(c2||c3))=true then M1.drop 1 else M1)<:+M1:=by split;exact td;exact br _
  have hw:IntKind.i64.wrap (((L0.length - M1.length:Nat):Int)+1)=((L0.length - M1.length:Nat):Int)+1:=by have:=bp7 (n:=L0.length - M1.length) (by omega);simpa using this
  generalize eL:(if(c1&&(c2||c3))=true then M1.drop 1 else M1)=L2 at *;have F2:=F1.sub t2;have hL2:=F2.sfx;have hle2:=t2.length_le;by_cases r1:pk L2=win
  ·rw[if_neg (by rw[r1];simp),if_pos r1];have y1:rW 46 (bs win) (RG L0 L2) true (RG L0 (L2.drop 1)):=yes hL2 _ (by simp) r1;have lt:=bgh r1 (by simp);have tk:L2.drop 1<:+L2:=xp L2;obtain⟨S4,r4,e4⟩:=bd5 bh6 (by simp) hl0 (show bb4 L0 (RG L0 (L2.drop 1)) (some _) from rfl) (fun M' h=>by obtain rfl:=bf h;exact tk.trans hL2);simp only[bb]at e4;have tm:∀N,xm [bh6] (L2.drop 1)=some N→N<:+M∧N.length<M.length:=fun N h=>⟨(xj h).trans (tk.trans (t2.trans t1)),by have:=(xj h).length_le;omega⟩
   obtain⟨b1,s1,k1⟩:=D_is bft (by simp) hl0 e4 (fun N h=>(tm N h).1.trans hM);obtain⟨b2,s2,k2⟩:=D_is bgj (by simp) hl0 e4 (fun N h=>(tm N h).1.trans hM);have eo:∀N,xm [bh6] (L2.drop 1)=some N→bt2 (L2.drop 1)=(b1||b2):=fun N h=>by
    obtain⟨z1,z2⟩:=must1 h;unfold bt2;rw[k1 N h,k2 N h,z2,decide_eq_true z1,kf]
   have ei:∀{α:Type} (p:Rdr α),bbz p d (L2.drop 1)=(xm [bh6] (L2.drop 1)).bind (bf6 p d):=fun p=>rfl
   by_cases hb:(b1||b2)=true
   ·obtain⟨v,S5,S6,SE,p1',p2',p3',p4'⟩:=cps hR.sfx.query hR.query zQ btj hl0 e4 d F.fit.h0 F.fit.d3 (fun N h=>⟨(tm N h).1.trans hM,fun hd=>F.deep (tm N h).1 (tm N h).2 hd⟩);refine b0h (dd6 d _ (RG L0 M1) SE v0 h0 n0 n1 n2 n3 n4 n5 (Rst L0 (L0.length - M1.length+1) false) c1 c2 c3 (L0.map Tok.av) (L0.length - M1.length) false n6 i1 i2 i3 hw rfl rfl (RG L0 (L2.drop 1)) S4 S5 S6 b1 b2 hb v (by rw[eS];exact y1) r4 s1 s2 p1' p2' p3' (fun e=>p4'.leave e)) ?_;rw[ei R.query];cases gm:xm [bh6] (L2.drop 1) with
    | none=>
     rw[gm]at p4';rw[ei (bbc R.expr),gm];simp only[bh,ite_self];exact p4'
    | some N=>
     rw[if_pos ((eo N gm).trans hb),← gm];exact p4'.map (fun y=>Nd.mk 15 [] 0 (c1&&(c2||c3)) false [v0] [y])
   ·have hb1:b1=false:=by revert hb;cases b1<;>simp
    have hb2:b2=false:=by revert hb;cases b2<;>simp
    obtain⟨v,S5,S6,SE,p1',p2',p3',p4'⟩:=cps (c6q hR.sfx.expr.list) (djv R.expr hR.sfx.expr hR.expr) ⟨[],by simp⟩ db8 hl0 e4 d F.fit.h0 F.fit.d3 (fun N h=>⟨(tm N h).1.trans hM,fun hd=>F.deep (tm N h).1 (tm N h).2 hd⟩);rw[hb1]at s1;rw[hb2]at s2;refine b0h (dd7 d _ (RG L0 M1) SE v0 h0 n0 n1 n2 n3 n4 n5 (Rst L0 (L0.length - M1.length+1) false) c1 c2 c3 (L0.map Tok.av) (L0.length - M1.length) false n6 i1 i2 i3 hw rfl rfl (RG L0 (L2.drop 1)) S4 S5 S6 v.1 v.2 (by rw[eS];exact y1) r4 s1 s2 p1' p2' p3' (fun e=>p4'.leave e)) ?_;rw[ei (bbc R.expr)];cases gm:xm [bh6] (L2.drop 1) with
    | none=>
     rw[gm]at p4';rw[ei R.query,gm];simp only[bh,ite_self];exact p4'
    | some N=>
     rw[gm]at p4';simp only[bb]at p4' ⊢;rw[if_neg (by rw[eo N gm];exact hb),c4t];cases gp:bf6 (b7r R.expr) d N with
     | none=>rw[gp]at p4';exact p4'
     | some y=>rw[gp]at p4';obtain⟨rfl,rfl⟩:=p4';exact⟨rfl,rfl⟩
  have y1:rW 46 (bs win) (RG L0 L2) false (RG L0 L2):=by
   have q:=bcq hl0 hL2 win (by simp)
   rwa [xk r1]at q
  by_cases r2:pk L2=bbs
  ·rw[if_pos r2];have y2:rW 46 (bs bbs) (RG L0 L2) true (RG L0 (L2.drop 1)):=yes hL2 _ (by simp) r2;have tk:L2.drop 1<:+L2:=xp L2;obtain⟨v1,S4,r4,e4⟩:=bc4 (bt7 hR) zN bt9 (show bb4 L0 (RG L0 (L2.drop 1)) (some _) from rfl) d (fun N h=>by obtain rfl:=bf h;exact F2.sub tk);simp only[bb]at e4;have ts:∀y,b3t R d (L2.drop 1)=some y→y.2<:+L2:=fun y h=>(bh7 hR.sfx d _ _ (br _) _ h).trans tk
   obtain⟨S5,r5,e5⟩:=bd5 b69 (by simp) hl0 e4.ends (fun N h=>by
    obtain⟨y,h1,rfl⟩:=bv.1 h;exact(ts y h1).trans hL2)
   obtain⟨v2,SE,r6,e6⟩:=bc4 (bt7 hR) zN bt9 e5 d (fun N h=>by
    obtain⟨A,h1,h2⟩:=bg.1 h;obtain⟨y,h3,h4⟩:=bv.1 h1;subst h4;exact F2.sub ((xj h2).trans (ts y h3)))
   refine b0h (cfb d _ (RG L0 M1) SE v0 h0 n0 n1 n2 n3 n4 n5 (Rst L0 (L0.length - M1.length+1) false) c1 c2 c3 (L0.map Tok.av) (L0.length - M1.length) false n6 i1 i2 i3 hw rfl rfl (RG L0 (L2.drop 1)) S4 S5 v1 v2 (by rw[eS];exact y1) (by rw[eS];exact y2) r4 r5 r6 (fun e=>e6.leave e)) ?_;cases gs:b3t R d (L2.drop 1) with
   | none=>
    rw[gs]at e6;exact e6
   | some y=>
    rw[gs]at e4 e6;obtain⟨rfl,-⟩:=e4;simp only[bc,bb]at e6 ⊢;cases gm:xm [b69] y.2 with
    | none=>rw[gm]at e6;exact e6
    | some N=>
     rw[gm]at e6;have h:=e6.map (fun z=>Nd.mk 16 [] 0 (c1&&(c2||c3)) false [v0,y.1,z] []);simpa only[bb] using h
  rw[if_neg r2,if_neg r1];have y2:rW 46 (bs bbs) (RG L0 L2) false (RG L0 L2):=by
   have q:=bcq hl0 hL2 bbs (by simp)
   rwa [xk r2]at q
  have q:=cd9 d (RG L0 M) (RG L0 M1) v0 h0 n0 n1 n2 n3 n4 n5 (Rst L0 (L0.length - M1.length+1) false) c1 c2 c3 (L0.map Tok.av) (L0.length - M1.length) false n6 i1 i2 i3 hw rfl rfl (by rw[eS];exact y1) (by rw[eS];exact y2) (fun e=>by rw[eS];exact bff L0 _ _ e);rw[eS]at q;by_cases hno:(c1&&(c2||c3))=true
  ·exfalso;rw[if_pos hno]at eL;subst eL;have h:c2=true∨c3=true:=by revert hno;cases c1<;>cases c2<;>cases c3<;>simp
   rcases h with h | h
   ·exact r1 (hc2 h)
   ·exact r2 (hc3 h)
  ·rw[if_neg hno]at eL;subst eL;exact q
theorem dms(hR:PRD R n):RcD 266 Nd.av none (dgt R) (n+1):=d_neg hR (b7c R) (d_test hR)
theorem ds2(hR:PRD R n):RcD 256 Nd.av none (cmx R) (n+1):=d_conj (dgt R) (b3x hR.sfx) (dms hR)
theorem ds0(hR:PRD R n):RcD 241 Nd.av none (c9f R) (n+1):=d_expr (cmx R) (b6b hR.sfx) (ds2 hR)
end Go.Av
