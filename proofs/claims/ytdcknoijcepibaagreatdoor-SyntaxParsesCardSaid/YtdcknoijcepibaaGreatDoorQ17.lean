/- Part of syntax_parses. -/
import Derived.Test.YtdcknoijcepibaaGreatDoorQ10
import Derived.Test.YtdcknoijcepibaaGreatDoorQ16
import Derived.Test.YtdcknoijcepibaaGreatDoorQ4
set_option linter.unusedSimpArgs false
set_option linter.unusedVariables false
set_option maxRecDepth 100000
set_option maxHeartbeats 16000000
namespace Go.Av
open Go Go.Proofs Go.RowKit
def dq0(b:LU):Bool:=match bhk b with
 | some v=>decide (0≤v)
 | none=>false
theorem czd{n:Int}(h:0≤n):∃c r,bc9 n=c::r∧cc9 c=true:=by
 obtain⟨h1,h2⟩:=bkg n.toNat;rw[bk4 h];cases hd:Lib.decDigits n.toNat with
 | nil=>exact absurd hd h1
 | cons c r=>
  rw[hd]at h2;have:=h2 c (.head _);refine⟨c,r,rfl,?_⟩;unfold b7x at this;simp only[cc9,bp,decide_eq_true_eq];exact this
theorem ccj(b:LU):dq0 b=bj9 b:=by
 rw[rm];constructor
 ·intro h;unfold dq0 at h;cases hn:bhk b with
  | none=>rw[hn]at h;cases h
  | some v=>
   rw[hn]at h;simp only[decide_eq_true_eq]at h;have he:=b8s hn;have hv:v≤9223372036854775807:=by
    unfold bhk at hn;have hr:=bmv b 0 (by omega);change -9223372036854775808≤bc0 b∧bc0 b≤9223372036854775807 at hr;split at hn
    ·cases hn
    ·split at hn
     ·simp only[bd]at hn;omega
     ·split at hn
      ·simp only[bd]at hn;omega
      ·cases hn
   obtain⟨c,r,e1,e2⟩:=czd h;have ha:=ch1 h hv;rw[he]at e1 ha;subst e1;show(cc9 c&&dgf (c::r))=true;unfold dgf;rw[ha,e2];simp[he]
 ·intro h;cases b with
  | nil=>simp[bj9]at h
  | cons c r=>
   change (cc9 c&&dgf (c::r))=true at h;unfold dgf at h;simp only[bp]at h;obtain⟨hd,h⟩:=h;cases ha:Lib.atoiAll (c::r) with
   | ok v=>
    rw[ha]at h;simp only[decide_eq_true_eq]at h;have hb:=Lib.atoiAll_bounds ha;have hv:0≤v:=by
     rcases Int.lt_or_le v 0 with hneg | hge
     ·exfalso;unfold bc9 at h;rw[if_pos hneg]at h;simp only[gr]at h;rw[← h.1]at hd
      revert hd;decide
     ·exact hge
    have:=cvq hv hb.2;rw[h]at this;unfold dq0;rw[this];simpa using hv
   | _=>rw[ha]at h;cases h
theorem c85(c:UInt8)(S:LB):bpg 85 [.int .u8 (c.toNat:Int)] S=some (.ret (.int .u8 ((bbd c).toNat:Int)) none,S):=by
 refine b9g rfl ?_;have h:=c.toNat_lt;rw[b8f];generalize c.toNat=n at *;by_cases h1:65≤n
 ·by_cases h2:n≤90
  ·have h1':(65:Int)≤(n:Int):=by omega
   have h2':(n:Int)≤90:=by omega
   have e1:IntKind.wrap .u8 ((n:Int)+32)=(n:Int)+32:=wr8' (by omega) (by omega);simp[a85,h1,h2,h1',h2',e1]
  ·have h1':(65:Int)≤(n:Int):=by omega
   have h2':¬ (n:Int)≤90:=by omega
   simp[a85,h1,h2,h1',h2']
 ·have h1':¬ (65:Int)≤(n:Int):=by omega
  simp[a85,h1,h1']
def dk3(s:LU)(S:LB)(n:Nat):St:={σ:=[(0,.v (.str (bs s))),(3,.v (ii (n:Int)))],own:=[],loc:=[],S:=S}
end Go.Av
namespace Go.Av
open Go Go.Proofs Go.RowKit
theorem loop82(s:LU)(S:LB)(hs:s.length≤1000000):∀(k n:Nat),s.length≤n+k→n≤1000001→zc (xf bpg b28) (dk3 s S n)=qEnd S (qGo n (s.drop n)):=by
 have hsz:(bs s).size=s.length:=zj s;intro k
 induction k with
 | zero=>
  intro n h hn;have e:s.drop n=[]:=fj (by omega);have h1:¬ (n:Int)<(s.length:Int):=by omega
  rw[e];refine xc (r:=(.exit 0,{σ:=[],own:=[],loc:=[],S:=S})) ?_ (by simp);rw[xb];simp[b28,dk3,hsz,h1]
 | succ k ih=>
  intro n h hn;by_cases hlt:n<s.length
  ·obtain⟨c,hc⟩:∃c,s[n]? = some c:=⟨s[n],cz hlt⟩;have h1:(n:Int)<(s.length:Int):=by omega
   have w:=bp7 (n:=n) (by omega);have g:(bs s)[n]? = some c:=by rw[bc6];exact hc
   rw[bjr hc];by_cases h39:c=39
   ·subst h39;by_cases hlt2:n+1<s.length
    ·obtain⟨d,hd⟩:∃d,s[n+1]? = some d:=⟨s[n+1],cz hlt2⟩;have h2:(n:Int)+1<(s.length:Int):=by omega
     have h2':¬ (s.length:Int)≤(n:Int)+1:=by omega
     have w4:IntKind.wrap .i64 ((n:Int)+2)=((n+2:Nat):Int):=by rw[b72 (by omega) (by omega)];omega
     have g2:(bs s)[n+1]? = some d:=by rw[bc6];exact hd
     have w2:IntKind.wrap .i64 ((n:Int)+1+1)=((n+2:Nat):Int):=by rw[b72 (by omega) (by omega)];omega
     have tn:((n:Int)+1).toNat=n+1:=by omega
     have n0:(0:Int)≤(n:Int)+1:=by omega
     rw[bjr hd];by_cases d39:d=39
     ·subst d39;have e:qGo n (39::39::s.drop (n+1+1))=qGo (n+2) (s.drop (n+2)):=by simp[qGo]
      rw[e,← ih (n+2) (by omega) (by omega)];refine xq ?_;rw[xb];simp[-getElem?_pos,rZa,b28,dk3,hsz,h1,h2,h2',g,g2,w,w2,w4,tn,n0]
     ·have e:qGo n (39::d::s.drop (n+1+1))=n+1:=by simp[qGo,d39]
      have d39':¬ d.toNat=39:=fun e=>d39 (UInt8.toNat_inj.1 e)
      have d39i:¬ (d.toNat:Int)=39:=by omega
      rw[e];refine xc (r:=(.ret,{σ:=[(2,.v (ii ((n:Int)+1)))],own:=[],loc:=[],S:=S})) ?_ (by simp);rw[xb];simp[-getElem?_pos,rZa,b28,dk3,hsz,h1,h2,h2',g,g2,w,w2,w4,tn,n0,d39,d39',d39i]
    ·have h2:¬ (n:Int)+1<(s.length:Int):=by omega
     have h2':(s.length:Int)≤(n:Int)+1:=by omega
     have e0:s.drop (n+1)=[]:=fj (by omega);have e:qGo n (39::s.drop (n+1))=n+1:=by rw[e0];simp[qGo]
     rw[e];refine xc (r:=(.ret,{σ:=[(2,.v (ii ((n:Int)+1)))],own:=[],loc:=[],S:=S})) ?_ (by simp);rw[xb];simp[-getElem?_pos,rZa,b28,dk3,hsz,h1,h2,h2',g,w]
   ·have e:∀x,qGo n (c::x)=qGo (n+1) x:=fun x=>by cases x<;>simp[qGo,h39]
    have c39':¬ c.toNat=39:=fun e=>h39 (UInt8.toNat_inj.1 e)
    have c39i:¬ (c.toNat:Int)=39:=by omega
    rw[e,← ih (n+1) (by omega) (by omega)];refine xq ?_;rw[xb];simp[-getElem?_pos,rZa,b28,dk3,hsz,h1,g,w,h39,c39',c39i]
  ·have e:s.drop n=[]:=fj (by omega);have h1:¬ (n:Int)<(s.length:Int):=by omega
   rw[e];refine xc (r:=(.exit 0,{σ:=[],own:=[],loc:=[],S:=S})) ?_ (by simp);rw[xb];simp[b28,dk3,hsz,h1]
theorem c82(s:LU)(S:LB)(hs:s.length≤1000000):bpg 82 [.str (bs s)] S=some (.ret (ii (bdr s:Int)) none,S):=by
 refine b9g rfl ?_;have h:=loop82 s S hs s.length 1 (by omega) (by omega);simp only[dk3,pq,qk,qEnd]at h;unfold bdr;generalize qGo 1 (s.drop 1)=q at *;by_cases h0:q=0
 ·subst h0;simp at h;simp[a82,h]
 ·rw[if_neg h0]at h;simp[a82,h]
end Go.Av
namespace Go.Av
open Go Go.Proofs Go.RowKit
def ctq(s:LU)(S:LB)(i:Nat):St:={σ:=[(0,.v (.str (bs s))),(3,.v (ii (i:Int)))],own:=[],loc:=[],S:=S}
theorem c178(s:LU)(S:LB)(hs:s.length≤1000000):bpg 178 [.str (bs s)] S=some (.ret (.bool (s.all prB)) none,S):=by
 refine b9g rfl ?_;have h:=bzc (f:=xf bpg b2d) s prB (ctq s S) (bad:=(.ret,{σ:=[(2,.v (.bool false))],own:=[],loc:=[],S:=S})) (good:=(.exit 0,{σ:=[],own:=[],loc:=[],S:=S})) (by simp) (by simp)
  (fun i c hx=>by
   have h1:=ilt hx;have hlt:=(cf.1 hx).1;have w:=bp7 (n:=i) (by omega);have g:(bs s)[i]? = some c:=by rw[bc6];exact hx
   have hz:(bs s).size=s.length:=zj s;rw[xb];unfold prB;by_cases c1:32≤c.toNat
   ·have c1':¬ (c.toNat:Int)<32:=by omega
    by_cases c2:c.toNat≤126
    ·have c2':¬ (126:Int)<(c.toNat:Int):=by omega
     simp[-getElem?_pos,rZa,b2d,ctq,hz,g,h1,w,c1,c2,c1',c2']
    ·have c2':(126:Int)<(c.toNat:Int):=by omega
     simp[-getElem?_pos,rZa,b2d,ctq,hz,g,h1,w,c1,c2,c1',c2']
   ·have c1':(c.toNat:Int)<32:=by omega
    simp[-getElem?_pos,rZa,b2d,ctq,hz,g,h1,w,c1,c1'])
  (by
   rw[xb];have hz:(bs s).size=s.length:=zj s;simp[b2d,ctq,hz])
 have hz:(bs s).size=s.length:=zj s;simp only[ctq,cx,dd]at h;generalize s.all prB=b at *;cases b
 ·simp at h;simp[a178,hz,h]
 ·simp at h;simp[a178,hz,h]
theorem c141T(t:LU)(S:LB)(hs:t.length≤1000000):bpg 141 [bgt t] S=some (.ret (.bool (decide (t.length≤200)&&t.all prB)) none,S):=by
 refine b9g rfl ?_;have q:=c178 t S hs;have hz:(bs t).size=t.length:=zj t;unfold bgt;generalize t.all prB=b at *;by_cases h1:t.length≤200
 ·have h1':(t.length:Int)≤200:=by omega
  simp[a141,hz,h1,h1',q]
 ·have h1':¬ (t.length:Int)≤200:=by omega
  simp[a141,hz,h1,h1']
theorem c140(t:LU)(S:LB):bpg 140 [.str (bs t)] S=some (.ret (bgt t) none,S):=by
 refine b9g rfl ?_;unfold bgt;simp[a140]
def stX(t:LU)(S:LB)(acc:LU)(i:Nat):St:={σ:=[(1,.l 1 0),(3,.v (.str (bs acc))),(4,.v (ii (i:Int)))],own:=[],loc:=[(1,{cells:=[ii 3,ii 0,.str (bs t)]})],S:=S}
theorem djr(l:LU)(c:UInt8):dbl (l++[c])=dbl l++(if c=39 then [39,39] else [c]):=by
 induction l with
 | nil=>simp[dbl]
 | cons d l ih=>
  simp only[dv,dbl,ih];split<;>simp
theorem c142T(t:LU)(S:LB)(hs:t.length≤100000):bpg 142 [bgt t] S=some (.ret (.str (bs (39::(dbl t++[39])))) none,S):=by
 refine b9g rfl ?_;have hz:(bs t).size=t.length:=zj t;have h:=bzb (f:=xf bpg b61) (st:=fun i=>stX t S (39::dbl (t.take i)) i) (r:=(.exit 1,{σ:=[(3,.v (.str (bs (39::dbl t))))],own:=[],loc:=[],S:=S})) (by simp) t.length 0
  (fun i _ hi=>by
   have hi:i<t.length:=by omega
   obtain⟨c,hc⟩:∃c,t[i]? = some c:=⟨t[i],cz hi⟩;have h1:(i:Int)<(t.length:Int):=by omega
   have h2:(i:Int)+1≤(t.length:Int):=by omega
   have w:=bp7 (n:=i) (by omega);have g:(bs t)[i]? = some c:=by rw[bc6];exact hc
   have ht:t.take (i+1)=t.take i++[c]:=by rw[qg,hc];rfl
   have ex:(bs t).extract i (i+1)=bs [c]:=by rw[bct,ht,rz (by rw[dp];omega),sd];simp
   have hl:=cdd (t.take i);have hl2:(t.take i).length≤t.length:=by rw[dp];omega
   show xf bpg _ (stX t S (39::dbl (t.take i)) i)=some (.normal,stX t S (39::dbl (t.take (i+1))) (i+1));rw[ht,djr];generalize dbl (t.take i)=D at *;have e39:(⟨#[39]⟩:ByteArray)=bs [39]:=rfl;have n0:(0:Int)≤(i:Int)+1:=by omega
   have tn:((i:Int)+1).toNat=i+1:=by omega
   have b1:D.length+1+1≤9223372036854775807:=by omega
   have b2:D.length+1+1+1≤9223372036854775807:=by omega
   rw[xb];by_cases h39:c=39
   ·subst h39;simp[-getElem?_pos,rZa,b61,stX,hz,h1,h2,w,g,ex,n0,tn,e39,bdm,zj,b1,b2];omega
   ·have c39':¬ c.toNat=39:=fun e=>h39 (UInt8.toNat_inj.1 e)
    have c39i:¬ (c.toNat:Int)=39:=by omega
    simp[-getElem?_pos,rZa,b61,stX,hz,h1,h2,w,g,ex,n0,tn,e39,bdm,zj,b1,b2,h39,c39',c39i];omega)
  (by
   rw[dt,List.take_length];rw[xb];simp[b61,stX,hz])
 have e0:dbl (t.take 0)=[]:=rfl;have e39:(⟨#[39]⟩:ByteArray)=bs [39]:=rfl;have hl:=cdd t;simp only[e0,stX,cx,dd]at h;unfold bgt;have b1:(dbl t).length+1+1≤9223372036854775807:=by omega
 simp[a142,e39,h,bdm,zj,b1]
end Go.Av
namespace Go.Av
open Go Go.Proofs Go.RowKit
def dpb:Bx:={cells:=[ii 0,ii 0,.str ⟨#[]⟩]}
def stP(s:LU)(S:LB)(acc:LU)(i:Nat):St:={σ:=[(0,.v (.str (bs s))),(2,.l 2 0),(4,.v (.str (bs acc))),(5,.v (ii (i:Int)))],own:=[],loc:=[(2,dpb)],S:=S}
def stPe(s:LU)(S:LB)(t:LU):St:={σ:=[(0,.v (.str (bs s))),(2,.l 2 0),(4,.v (.str (bs t)))],own:=[],loc:=[(2,dpb)],S:=S}
theorem loop83(s:LU)(S:LB)(hs:s.length≤100000):∀(k:Nat) (r acc:LU) (i:Nat),r.length≤k→bd9 r=true→s.drop i=r++[39]→acc.length≤i→i+r.length+1=s.length →
  ∃t,zc (xf bpg b6s) (stP s S acc i)=some (.exit 0,stPe s S t)∧((acc++und r).length≤200→t=acc++und r)∧(200<(acc++und r).length→200<t.length)∧t.length≤s.length:=by
 have hz:(bs s).size=s.length:=zj s;have stop:∀(acc:LU) (i:Nat),¬ ((i:Int)<(s.length:Int) - 1∧acc.length≤200)→1≤s.length→zc (xf bpg b6s) (stP s S acc i)=some (.exit 0,stPe s S acc):=by
  intro acc i hn h1;have w:IntKind.wrap .i64 ((s.length:Int) - 1)=(s.length:Int) - 1:=b72 (by omega) (by omega);have az:(bs acc).size=acc.length:=zj acc;refine xc ?_ (by simp);rw[xb];by_cases c1:(i:Int)<(s.length:Int) - 1
  ·have c2:¬ acc.length≤200:=fun h=>hn ⟨c1,h⟩
   have c2':¬ (acc.length:Int)≤200:=by omega
   simp[b6s,stP,stPe,dpb,hz,az,w,c1,c2,c2']
  ·simp[b6s,stP,stPe,dpb,hz,az,w,c1]
 intro k
 induction k with
 | zero=>
  intro r acc i hk hp hd ha hi;obtain rfl:r=[]:=fh.1 (by omega);refine⟨acc,stop acc i (fun h=>by simp at hi;omega) (by omega),fun _=>by simp[und],fun h=>by simpa[und] using h,by omega⟩
 | succ k ih=>
  intro r acc i hk hp hd ha hi;cases r with
  | nil=>exact⟨acc,stop acc i (fun h=>by simp at hi;omega) (by omega),fun _=>by simp[und],fun h=>by simpa[und] using h,by omega⟩
  | cons c r'=>
   simp only[cm]at hk hi;by_cases hbig:200<acc.length
   ·refine⟨acc,stop acc i (fun h=>by omega) (by omega),fun h=>?_,fun _=>hbig,by omega⟩;rw[dh]at h;omega
   ·have hc:s[i]? = some c:=by
     have:=congrArg (fun z=>z[0]?) hd;simpa[fd] using this
    have h1:(i:Int)<(s.length:Int) - 1:=by omega
    have h2:acc.length≤200:=by omega
    have h2':(acc.length:Int)≤200:=by omega
    have w:IntKind.wrap .i64 ((s.length:Int) - 1)=(s.length:Int) - 1:=b72 (by omega) (by omega);have w1:=bp7 (n:=i) (by omega);have w2:IntKind.wrap .i64 ((i:Int)+1+1)=((i+2:Nat):Int):=by rw[b72 (by omega) (by omega)];omega
    have az:(bs acc).size=acc.length:=zj acc;have g:(bs s)[i]? = some c:=by rw[bc6];exact hc
    have ht:s.take (i+1)=s.take i++[c]:=by rw[qg,hc];rfl
    have ex:(bs s).extract i (i+1)=bs [c]:=by rw[bct,ht,rz (by rw[dp];omega),sd];simp
    have n0:(0:Int)≤(i:Int)+1:=by omega
    have tn:((i:Int)+1).toNat=i+1:=by omega
    have n2:(i:Int)+1≤(s.length:Int):=by omega
    have b1:acc.length+1≤9223372036854775807:=by omega
    by_cases h39:c=39
    ·subst h39;cases r' with
     | nil=>simp[bd9]at hp
     | cons d r2=>
      simp only[bd9,if_true,bp,decide_eq_true_eq]at hp;obtain⟨rfl,hp2⟩:=hp;have hd2:s.drop (i+2)=r2++[39]:=by
       have:s.drop (i+2)=(s.drop i).drop 2:=by rw[fz]
       rw[this,hd];rfl
      simp only[cm]at hk hi;obtain⟨t,q1,q2,q3⟩:=ih r2 (acc++[39]) (i+2) (by omega) hp2 hd2 (by simp;omega) (by omega);have eu:acc++und (39::39::r2)=(acc++[39])++und r2:=by simp[und]
      rw[eu];refine⟨t,?_,q2,q3⟩;rw[← q1];refine xq ?_;rw[xb];simp[-getElem?_pos,rZa,b6s,stP,dpb,hz,az,w,w1,w2,h1,h2,h2',g,ex,n0,tn,n2,bdm,zj,b1];omega
    ·have c39':¬ c.toNat=39:=fun e=>h39 (UInt8.toNat_inj.1 e)
     have c39i:¬ (c.toNat:Int)=39:=by omega
     have hp2:bd9 r'=true:=by
      cases r' with
      | nil=>rfl
      | cons d r2=>simpa[bd9,h39] using hp
     have hd2:s.drop (i+1)=r'++[39]:=by
      have:s.drop (i+1)=(s.drop i).drop 1:=by rw[fz]
      rw[this,hd];rfl
     obtain⟨t,q1,q2,q3⟩:=ih r' (acc++[c]) (i+1) (by omega) hp2 hd2 (by simp;omega) (by omega);have eu:acc++und (c::r')=(acc++[c])++und r':=by
      cases r' with
      | nil=>simp[und]
      | cons d r2=>simp[und,h39]
     rw[eu];refine⟨t,?_,q2,q3⟩;rw[← q1];refine xq ?_;rw[xb];simp[-getElem?_pos,rZa,b6s,stP,dpb,hz,az,w,w1,h1,h2,h2',g,ex,n0,tn,n2,bdm,zj,b1,h39,c39',c39i];omega
theorem c83Q'(m:LU)(S:LB)(hs:m.length≤90000)(hp:bd9 m=true):∃t,bpg 83 [.str (bs (39::(m++[39])))] S=some (.ret (.tuple [bgt t,.bool (bf7 m)]) none,S)∧(bf7 m=true→t=und m):=by
 have hl:(39::(m++[39])).length=m.length+2:=by simp
 obtain⟨t,q1,q2,q3,q4⟩:=loop83 (39::(m++[39])) S (by omega) m.length m [] 1 (cj _) hp rfl (by simp) (by rw[hl];omega);have hu:=cbj m;rw[hl]at q4;obtain⟨n1,n2,n3⟩:=c1r (m:=m);have hz:(bs (39::(m++[39]))).size=m.length+2:=by rw[zj,hl]
 have g0:(bs (39::(m++[39])))[0]? = some 39:=by rw[bc6];rfl
 have p1:=c140 t S;have i1:(0:Int)<((m.length+2:Nat):Int):=by omega
 have i2:0<m.length+2:=by omega
 have i3:m.length+2≠0:=by omega
 have e0:bs []=(⟨#[]⟩:ByteArray):=rfl;simp only[stP,stPe,dpb,pq,qk,e0]at q1;simp only[gj]at q2 q3;have eo:bf7 m=(decide ((und m).length≤200)&&(und m).all prB):=rfl;unfold bgt at p1 ⊢;by_cases hsm:(und m).length≤200
 ·have e:=q2 hsm;subst e;refine⟨und m,b9g rfl ?_,fun _=>rfl⟩;have p2:=c141T (und m) S (by omega);have p3:=c142T (und m) S (by omega);rw[cdc m hp]at p3;rw[← eo]at p2;unfold bgt at p2 p3;generalize bf7 m=ok at *;generalize bs (und m)=U at *;generalize bs (39::(m++[39]))=B at *;generalize m.length+2=N at *;cases ok
  ·simp[-getElem?_pos,a83,n1,n2,n3,hz,g0,i1,i2,i3,q1,p1,p2,p3]
  ·simp[-getElem?_pos,a83,n1,n2,n3,hz,g0,i1,i2,i3,q1,p1,p2,p3]
 ·have hb:=q3 (by omega);have hno:bf7 m=false:=by rw[eo];simp[hsm]
  refine⟨t,b9g rfl ?_,fun h=>by rw[hno]at h;cases h⟩;have p2:=c141T t S (by omega);have hr:(decide (t.length≤200)&&t.all prB)=false:=by
   rw[decide_eq_false (by omega)];rfl
  rw[hr]at p2;rw[hno];unfold bgt at p2;generalize bs t=U at *;generalize bs (39::(m++[39]))=B at *;generalize m.length+2=N at *;simp[-getElem?_pos,a83,n1,n2,n3,hz,g0,i1,i2,i3,q1,p1,p2]
theorem c83Q(m:LU)(S:LB)(hs:m.length≤90000)(hp:bd9 m=true):∃t,bpg 83 [.str (bs (39::(m++[39])))] S=some (.ret (.tuple [bgt t,.bool (bf7 m)]) none,S):=by
 obtain⟨t,h,_⟩:=c83Q' m S hs hp;exact⟨t,h⟩
theorem c143(n:Int)(S:LB):bpg 143 [ii n] S=some (.ret (.agg [ii 1,ii n,.str ⟨#[]⟩]) none,S):=by
 refine b9g rfl ?_;simp[a143]
theorem c83N(S:LB):bpg 83 [.str (bs [])] S=some (.ret (.tuple [.agg [ii 1,ii 0,.str ⟨#[]⟩],.bool false]) none,S):=by
 refine b9g rfl ?_;have q:=lift (c88 [] S (by simp));have e:numE []=.tuple [ii 0,.bool false]:=by rfl
 rw[e]at q;have q2:=c143 0 S;have z:bs []=⟨#[]⟩:=rfl;rw[z]at q ⊢;have e0:(⟨#[]⟩:ByteArray).size=0:=rfl;have e1:(⟨#[]⟩:ByteArray).toList=[]:=zm [];simp[a83,q,q2,e0,e1]
end Go.Av
namespace Go.Av
open Go Go.Proofs Go.RowKit
theorem c89(S:LB):bpg 89 [] S=some (.ret (.slice 1 (brg bcj)) (some 9),S):=by
 refine b9g rfl ?_;simp[a89];rfl
def stB(s b:LU)(S:LB):St:={σ:=[(0,.v (.str (bs s))),(2,.l 2 0),(7,.v (.slice 1 (bmb b)))],own:=[(7,5)],loc:=[(2,bts)],S:=S}
theorem drr(s:LU)(S:LB)(hs:s.length≤1000000):∀(k n:Nat),s.length≤n+k→n≤s.length →
  zc (xf bpg b93) (stB s ((s.take n).map bbd) S)=some (.exit 0,stB s ((s.take (n+((s.drop n).takeWhile nmB).length)).map bbd) S):=by
 have hsz:(bs s).size=s.length:=zj s;have bl:∀b:LU,(bmb b).length=b.length:=fun b=>by simp[bmb]
 have stop:zc (xf bpg b93) (stB s ((s.take s.length).map bbd) S)=some (.exit 0,stB s ((s.take s.length).map bbd) S):=by
  have hb:(bmb ((s.take s.length).map bbd)).length=s.length:=by rw[bl];simp
  refine xc ?_ (by simp);rw[xb];unfold stB;generalize hX:bmb ((s.take s.length).map bbd)=X at *;simp[b93,bts,hsz,hb]
 intro k
 induction k with
 | zero=>
  intro n h hn;obtain rfl:n=s.length:=by omega
  have e:s.drop s.length=[]:=mh;rw[e];exact stop
 | succ k ih=>
  intro n h hn;by_cases hlt:n<s.length
  ·obtain⟨c,hc⟩:∃c,s[n]? = some c:=⟨s[n],cz hlt⟩;have h1:(n:Int)<(s.length:Int):=by omega
   have g:(bs s)[n]? = some c:=by rw[bc6];exact hc
   have q1:=c85 c S;have q2:=c84 (bbd c) S;have hb:(bmb ((s.take n).map bbd)).length=n:=by rw[bl];simp;omega
   have ht:s.take (n+1)=s.take n++[c]:=by rw[qg,hc];rfl
   have al:n+1≤140737488355328:=by omega
   rw[bjr hc,sb];unfold nmB;cases hbn:b31 (bbd c)
   ·rw[hbn]at q2;simp only[ck,if_false,ct,jt];refine xc ?_ (by simp);rw[xb];unfold stB;generalize hX:bmb ((s.take n).map bbd)=X at *;simp[-getElem?_pos,rZa,b93,bts,hsz,hb,h1,g,q1,q2,hlt]
   ·rw[hbn]at q2;have e:n+(c::(s.drop (n+1)).takeWhile nmB).length=(n+1)+((s.drop (n+1)).takeWhile nmB).length:=by simp;omega
    simp only[if_true];change _=some (AEx.exit 0,stB s ((s.take (n+(c::(s.drop (n+1)).takeWhile nmB).length)).map bbd) S);rw[e,← ih (n+1) (by omega) (by omega)];refine xq ?_;have eb:bmb ((s.take (n+1)).map bbd)=bmb ((s.take n).map bbd)++[.int .u8 ((bbd c).toNat:Int)]:=by rw[ht];simp[bmb]
    rw[xb];unfold stB;rw[eb];generalize hX:bmb ((s.take n).map bbd)=X at *;simp[-getElem?_pos,rZa,b93,bts,hsz,hb,h1,g,q1,q2,hlt,al,bqb]
  ·obtain rfl:n=s.length:=by omega
   have e:s.drop s.length=[]:=mh;rw[e];exact stop
def stG(s:LU)(S:LB)(i:Nat):St:={σ:=[(0,.v (.str (bs s))),(2,.l 2 0),(11,.v (.slice 1 (brg bcj))),(12,.v (ii (i:Int)))],own:=[(11,9)],loc:=[(2,bts)],S:=S}
theorem drk(s:LU)(S:LB)(hs:s.length≤1000000) :
  zc (xf bpg b6x) (stG s S 0)=some ((bcj.find? fun x=>x.isPrefixOf s).elim
   (.exit 3,{σ:=[(2,.l 2 0)],own:=[],loc:=[(2,bts)],S:=S})
   (fun x=>(.ret,{σ:=[(2,.l 2 0),(3,.v (ii (x.length:Int)))],own:=[],loc:=[(2,{cells:=[ii 5,.str (bs x),ii 0]})],S:=S}))):=by
 have hlen:(brg bcj).length=bcj.length:=by simp[brg]
 have h17:bcj.length=17:=by rfl
 have hz:(bs s).size=s.length:=zj s;have h:=b5v (f:=xf bpg b6x) bcj (fun(_:Unit) i=>stG s S i)
  (fun _ x=>if x.isPrefixOf s then .inr (.ret,{σ:=[(2,.l 2 0),(3,.v (ii (x.length:Int)))],own:=[],loc:=[(2,{cells:=[ii 5,.str (bs x),ii 0]})],S:=S}) else .inl ())
  (fun _=>(.exit 3,{σ:=[(2,.l 2 0)],own:=[],loc:=[(2,bts)],S:=S})) (fun _ _=>True) (b0:=()) trivial
  (fun i _ x _ hx=>by
   have hlt:=(cf.1 hx).1;have h1:=ilt hx;have w:=bp7 (n:=i) (by omega);have g:(brg bcj)[i]? = some (.str (bs x)):=by unfold brg;rw[d4,hx];rfl
   have xz:(bs x).size=x.length:=zj x;have ex:(bs s).extract 0 x.length=bs (s.take x.length):=by rw[bct];simp
   cases hb:x.isPrefixOf s
   ·left;refine⟨(),by simp[hb],?_,trivial⟩;rw[xb];generalize hX:brg bcj=X at *;by_cases hle:x.length≤s.length
    ·have hle':(x.length:Int)≤(s.length:Int):=by omega
     have hne:¬ s.take x.length=x:=fun e=>by
      have:x.isPrefixOf s=true:=f9.2 (e▸vb _ _);rw[hb]at this;cases this
     have hne2:¬ (bs (s.take x.length)).toList=(bs x).toList:=by rw[zm,zm];exact hne
     simp[-getElem?_pos,rZa,b6x,stG,bts,hlen,hX,hz,h1,w,g,xz,ex,hle,hle',hne,hne2]
    ·have hle':¬ (x.length:Int)≤(s.length:Int):=by omega
     simp[-getElem?_pos,rZa,b6x,stG,bts,hlen,hX,hz,h1,w,g,xz,ex,hle,hle']
   ·right;refine⟨_,if_pos rfl,?_,by simp⟩;have hp:=f9.1 hb;have hle:=hp.length_le;have hle':(x.length:Int)≤(s.length:Int):=by omega
    have he:s.take x.length=x:=(p9.1 hp).symm;rw[he]at ex;rw[xb];generalize hX:brg bcj=X at *;simp[-getElem?_pos,rZa,b6x,stG,bts,hlen,hX,hz,h1,w,g,xz,ex,hle,hle'])
  (fun _ _=>by
   refine⟨?_,by simp⟩;rw[xb];generalize hX:brg bcj=X at *;simp[b6x,stG,bts,hlen,hX])
 rw[b0q]at h;exact h
end Go.Av
namespace Go.Av
open Go Go.Proofs Go.RowKit
theorem dqx(r:LU)(S:LB)(hs:r.length≤80000)(hq:bdr (39::r)=0) :
  bpg 44 [.str (bs (39::r))] S=some (.ret (.tuple [bcr,ii 0]) none,S):=by
 refine b9g rfl ?_;have q:=c82 (39::r) S (by simp;omega);rw[hq]at q;have q2:=c83N S;have g:(bs (39::r))[0]? = some 39:=by rw[bc6];rfl
 have z:bs []=ByteArray.empty:=rfl;rw[z]at q2;generalize bs (39::r)=B at *;unfold bcr;simp (maxSteps:=1000000) [-getElem?_pos,rZa,a44,q,q2,g]
theorem dqv(s mid:LU)(S:LB)(hs:s.length≤80000)(h0:s[0]? = some 39)(hq:bdr s=mid.length+2)(hm:bd9 mid=true)
  (ht:s.take (mid.length+2)=39::(mid++[39])) :
  bpg 44 [.str (bs s)] S=some (.ret (if bf7 mid then .tuple [brr 4 (39::(mid++[39])),ii ((mid.length+2:Nat):Int)] else .tuple [bcr,ii 0]) none,S):=by
 refine b9g rfl ?_;have hl:mid.length+2≤s.length:=by
  have:=congrArg List.length ht;simp only[dp,cm,dh,ct]at this;omega
 have hz:(bs s).size=s.length:=zj s;have q:=c82 s S (by omega);rw[hq]at q;obtain⟨t,q2⟩:=c83Q mid S (by omega) hm;have g:(bs s)[0]? = some 39:=by rw[bc6];exact h0
 have ex:(bs s).extract 0 (mid.length+2)=bs (39::(mid++[39])):=by rw[bct,ht];rfl
 unfold bgt at q2;unfold bcr brr;generalize bs (39::(mid++[39]))=T at *;generalize bs s=B at *;generalize bs t=U at *;have i1:((mid.length+2:Nat):Int)≤(s.length:Int):=by omega
 have i2:¬ ((mid.length+2:Nat):Int)=0:=by omega
 generalize hN:mid.length+2=N at *;have i3:N≠0:=by omega
 cases hok:bf7 mid<;>rw[hok]at q2<;>simp only[ck,if_false,if_true]at q2 ⊢
 ·simp (maxSteps:=1000000) [-getElem?_pos,rZa,a44,q,q2,g,ex,i1,i2,i3,hz]
 ·simp (maxSteps:=1000000) [-getElem?_pos,rZa,a44,q,q2,g,ex,i1,i2,i3,hz]
theorem one44C(s:LU)(S:LB)(hs:s.length≤80000)(c0:UInt8)(h0:s[0]? = some c0)(hc:c0≠39)(b:LU)(hb:(s.takeWhile nmB).map bbd=b) :
  bpg 44 [.str (bs s)] S=some (.ret (match (if b=[] then(bcj.find? fun x=>x.isPrefixOf s).map fun x=>((5:Int),x) else if b∈bdd then some (1,b) else if bfg b then some (2,b) else if dq0 b then some (3,b) else none) with
   | some (k,t)=>.tuple [brr k t,.int .i64 (t.length:Int)]
   | none=>.tuple [bcr,.int .i64 0]) none,S):=by
 refine b9g rfl ?_;have hl:=drr s S (by omega) s.length 0 (by omega) (by omega);rw[List.take_zero,dj,dt,b0x,hb]at hl;have g:(bs s)[0]? = some c0:=by rw[bc6];exact h0
 have c39:¬ c0.toNat=39:=fun e=>hc (UInt8.toNat_inj.1 e)
 have c39i:¬ (c0.toNat:Int)=39:=by omega
 have hbl:b.length≤s.length:=by
  rw[← hb,mc];exact(pc _).length_le
 have ba:=cr3 b;have e0:bmb []=[]:=rfl;have eb:(⟨b.toArray⟩:ByteArray)=bs b:=rfl;simp only[stB,bts,cg,e0]at hl;by_cases hbe:b=[]
 ·subst hbe;rw[if_pos rfl];have l1:=drk s S (by omega);have qs:=c89 S;simp only[stG,bts,cx,dd]at l1;have z:bs []=(⟨#[]⟩:ByteArray):=rfl;have z2:(⟨#[]⟩:ByteArray).toList=[]:=zm [];rw[e0]at hl ba;generalize brg bcj=X at *;cases hf:bcj.find? fun x=>x.isPrefixOf s with
  | none=>
   rw[hf]at l1;simp only[mj,bm]at l1 ⊢;unfold bcr;generalize bs s=B at *;simp (maxSteps:=1000000) [-getElem?_pos,rZa,a44,hl,g,hc,c39,c39i,ba,l1,qs,z2]
  | some x=>
   rw[hf]at l1;simp only[Option.elim_some,bc]at l1 ⊢;unfold brr;generalize bs s=B at *;simp (maxSteps:=1000000) [-getElem?_pos,rZa,a44,hl,g,hc,c39,c39i,ba,l1,qs,z2]
 ·rw[if_neg hbe];have bz:(bs b).size=b.length:=zj b;have bt:(bs b).toList=b:=zm b;have qw:=c86 b S;have qf:=c87 b S (by omega);have qn:=lift (c88 b S (by omega));unfold numE at qn;unfold brr bcr;generalize hBL:bmb b=BL at *;generalize hBB:bs b=BB at *;generalize bs s=B at *;by_cases hw:b∈bdd
  ·simp only[hw,decide_true,if_true]at qw ⊢;simp (maxSteps:=1000000) [-getElem?_pos,rZa,a44,hl,g,hc,c39,c39i,ba,eb,hBB,bz,bt,hbe,qw]
  ·simp only[hw,decide_false,if_false]at qw ⊢;cases hf:bfg b
   ·rw[hf]at qf;simp only[ck,if_false];unfold dq0;cases hn:bhk b with
    | none=>
     rw[hn]at qn;simp (maxSteps:=1000000) [-getElem?_pos,rZa,a44,hl,g,hc,c39,c39i,ba,eb,hBB,bz,bt,hbe,qw,qf,qn]
    | some v=>
     rw[hn]at qn;by_cases hv:0≤v
     ·have hv':¬ v<0:=by omega
      simp (maxSteps:=1000000) [-getElem?_pos,rZa,a44,hl,g,hc,c39,c39i,ba,eb,hBB,bz,bt,hbe,qw,qf,qn,hv,hv']
     ·have hv':v<0:=by omega
      simp (maxSteps:=1000000) [-getElem?_pos,rZa,a44,hl,g,hc,c39,c39i,ba,eb,hBB,bz,bt,hbe,qw,qf,qn,hv,hv']
   ·rw[hf]at qf;simp only[if_true];simp (maxSteps:=1000000) [-getElem?_pos,rZa,a44,hl,g,hc,c39,c39i,ba,eb,hBB,bz,bt,hbe,qw,qf]
end Go.Av
namespace Go.Av
open Go Go.Proofs Go.RowKit
def bxj(l:LT):AV:=.slice 3 (l.map Tok.av)
theorem c44(s:LU)(S:LB)(hs:s.length≤80000)(h0:s≠[]):bpg 44 [.str (bs s)] S=some (.ret (bx5 s) none,S):=by
 obtain⟨c0,r,rfl⟩:∃c r,s=c::r:=by cases s with | nil=>exact absurd rfl h0 | cons c r=>exact⟨c,r,rfl⟩
 by_cases hc:c0=39
 ·subst hc;by_cases hq:bdr (39::r)=0
  ·rw[dqx r _ (by simp at hs;omega) hq];have ho:bvj bj9 (39::r)=none:=by
    unfold bvj;rw[if_pos (show(39::r).head? = some 39 from rfl),if_pos hq]
   unfold bx5;rw[ho]
  ·obtain⟨mid,z,h1,h2,h3⟩:=bkp r.length 1 r (cj _) hq;have hq2:bdr (39::r)=mid.length+2:=by unfold bdr;simp only[vx,vm];omega
   have ht:(39::r).take (mid.length+2)=39::(mid++[39]):=by
    rw[jd,h1];have e:mid++39::z=(mid++[39])++z:=by simp
    rw[e,kg (by simp),dm (by simp)]
   rw[dqv _ mid _ (by omega) rfl hq2 h2 ht];have hm:dgv (39::(mid++[39]))=mid:=by unfold dgv;simp
   have ho:bvj bj9 (39::r)=if bf7 mid then some (4,39::(mid++[39])) else none:=by
    unfold bvj;rw[if_pos (show(39::r).head? = some 39 from rfl),if_neg hq,hq2,ht,hm]
   unfold bx5;rw[ho];cases bf7 mid
   ·simp
   ·simp;omega
 ·have hh:¬ (c0::r).head? = some 39:=by simp[hc]
  rw[one44C _ S hs c0 rfl hc _ rfl,ccj];have ho:bvj bj9 (c0::r)=(if((c0::r).takeWhile nmB).map bbd=[] then(bcj.find? fun x=>x.isPrefixOf (c0::r)).map fun x=>((5:Int),x) else if((c0::r).takeWhile nmB).map bbd∈bdd then some (1,((c0::r).takeWhile nmB).map bbd) else if bfg (((c0::r).takeWhile nmB).map bbd) then some (2,((c0::r).takeWhile nmB).map bbd) else if bj9 (((c0::r).takeWhile nmB).map bbd) then some (3,((c0::r).takeWhile nmB).map bbd) else none):=by
   unfold bvj;rw[if_neg hh];rfl
  rw[← ho];unfold bx5;rcases bvj bj9 (c0::r) with _ | ⟨k,t⟩<;>rfl
def stK(s:LU)(acc:LT)(i:Nat):St:={σ:=[(0,.v (.str (bs s))),(4,.v (bxj acc)),(5,.v (ii (i:Int)))],own:=[(4,110)],loc:=[],S:=[]}
theorem loop22(s:LU)(hs:s.length≤4000):∀(f i:Nat) (acc:LT),s.length<i+f→i≤s.length→acc.length≤i →
  zc (xf bpg bz7) (stK s acc i)=(match b66 bj9 f (s.drop i) i with
   | some l=>some (.exit 0,{σ:=[(4,.v (bxj (acc++l)))],own:=[(4,110)],loc:=[],S:=[]})
   | none=>some (.ret,{σ:=[(2,.v (.slice 3 [])),(3,.v (.bool false))],own:=[(2,110)],loc:=[],S:=[]})):=by
 have hz:(bs s).size=s.length:=zj s;intro f
 induction f with
 | zero=>intro i acc h1 h2 h3;omega
 | succ f ih=>
  intro i acc h1 h2 h3;by_cases hlt:i<s.length
  ·obtain⟨c,hc⟩:∃c,s[i]? = some c:=⟨s[i],cz hlt⟩;have hd:=bjr hc;have b1:(i:Int)<(s.length:Int):=by omega
   have w:=bp7 (n:=i) (by omega);have g:(bs s)[i]? = some c:=by rw[bc6];exact hc
   cases hb:chv c with
   | true=>
    have e:b66 bj9 (f+1) (s.drop i) i=b66 bj9 f (s.drop (i+1)) (i+1):=by
     rw[hd,b66,if_pos hb]
    rw[e,← ih (i+1) acc (by omega) (by omega) (by omega)];refine xq ?_;rw[xb];have hbn:c.toNat=32∨c.toNat=10:=by
     simp only[chv,d8,decide_eq_true_eq]at hb;rcases hb with rfl | rfl
     ·left;rfl
     ·right;rfl
    generalize hB:bs s=B at *;rcases hbn with e | e
    ·have e':(c.toNat:Int)=32:=by omega
     simp[-getElem?_pos,rZa,bz7,stK,hB,hz,b1,w,g,e,e']
    ·have e':(c.toNat:Int)=10:=by omega
     simp[-getElem?_pos,rZa,bz7,stK,hB,hz,b1,w,g,e,e']
   | false=>
    have c32:¬ c.toNat=32:=fun e=>by
     have:c=32:=UInt8.toNat_inj.1 e;subst this;revert hb;decide
    have c10:¬ c.toNat=10:=fun e=>by
     have:c=10:=UInt8.toNat_inj.1 e;subst this;revert hb;decide
    have c32i:¬ (c.toNat:Int)=32:=by omega
    have c10i:¬ (c.toNat:Int)=10:=by omega
    have q:=c44 (s.drop i) [] (by rw[fb];omega) (by rw[hd];simp);have ex:(bs s).extract i s.length=bs (s.drop i):=by rw[bct];simp
    have htf:b66 bj9 (f+1) (s.drop i) i=match bvj bj9 (s.drop i) with
      | some (k,t)=>(b66 bj9 f ((s.drop i).drop t.length) (i+t.length)).map fun l=>⟨k,t,i⟩::l
      | none=>none:=by
     conv=>lhs;rw[hd,b66,if_neg (by rw[hb];simp)]
     rw[hd];rcases bvj bj9 (c::s.drop (i+1)) with _ | ⟨k,t⟩<;>rfl
    rw[htf];unfold bx5 at q;have b2:(i:Int)≤(s.length:Int):=by omega
    cases ho:bvj bj9 (s.drop i) with
    | none=>
     rw[ho]at q;simp only at q ⊢;refine xc ?_ (by simp);unfold bcr at q;rw[xb];generalize bs (s.drop i)=BD at *;generalize hB:bs s=B at *;simp[-getElem?_pos,rZa,bz7,stK,hB,hz,b1,b2,w,g,c32,c10,c32i,c10i,q,ex]
    | some p=>
     obtain⟨k,t⟩:=p;rw[ho]at q;simp only at q ⊢;obtain⟨l1,l2⟩:=bx3 ho;rw[fb]at l2;have w2:IntKind.wrap .i64 ((i:Int)+(t.length:Int))=((i+t.length:Nat):Int):=by rw[b72 (by omega) (by omega)];omega
     have hn:¬ (t.length:Int)=0:=by omega
     have hn2:t.length≠0:=by omega
     have al:(acc.length+1)*32≤140737488355328:=by omega
     have ih':=ih (i+t.length) (acc++[⟨k,t,i⟩]) (by omega) (by omega) (by rw[dh,List.length_singleton];omega);have step:zc (xf bpg bz7) (stK s acc i)=zc (xf bpg bz7) (stK s (acc++[⟨k,t,i⟩]) (i+t.length)):=by
      refine xq ?_;unfold brr at q;have ea:bxj (acc++[⟨k,t,i⟩])=.slice 3 (acc.map Tok.av++[.agg [ii k,.str (bs t),ii (i:Int)]]):=by
       unfold bxj;rw[gt];rfl
      have hla:(acc.map Tok.av).length=acc.length:=by simp
      unfold stK;rw[ea];unfold bxj;rw[xb];generalize acc.map Tok.av=A at *;generalize bs t=T at *;generalize bs (s.drop i)=BD at *;generalize bs s=B at *;simp[-getElem?_pos,rZa,bz7,hz,b1,b2,w,w2,g,c32,c10,c32i,c10i,q,ex,hn,hn2,hla,al,bqb]
     rw[step,ih',fz];cases b66 bj9 f (s.drop (i+t.length)) (i+t.length)<;>simp
  ·have e:s.drop i=[]:=fj (by omega);have b1:¬ (i:Int)<(s.length:Int):=by omega
   rw[e,b66];simp only[mb];refine xc ?_ (by simp);rw[xb];simp[bz7,stK,hz,b1]
theorem c22(s:LU)(hs:s.length≤4000):bpg 22 [.str (bs s)] []=some (.ret (match brq s with
  | some l=>.tuple [bxj l,.bool true]
  | none=>.tuple [.slice 3 [],.bool false]) none,[]):=by
 refine b9g rfl ?_;have h:=loop22 s hs (s.length+1) 0 [] (by omega) (sg _) (cj _);have e:bxj []=.slice 3 []:=rfl;rw[dj]at h;simp only[stK,e,cx,dd,gj]at h;change _=(match brq s with | some l=>_ | none=>_) at h;cases ht:brq s with
 | none=>
  rw[ht]at h;simp only at h ⊢;simp[a22,h]
 | some l=>
  rw[ht]at h;simp only at h ⊢;generalize bxj l=L at *;simp[a22,h]
end Go.Av
namespace Go.Av
open Go
structure Ky where
 name:LU
 at':Int
 desc:Bool
mutual
inductive Nd where
 | mk (op:Int) (text:LU) (num:Int) (no dis:Bool) (args:List Nd) (query:List Qr)
inductive It where
 | mk (star:Bool) (table:LU) (expr:List Nd) (as':LU)
inductive Sr where
 | mk (op:Int) (name as':LU) (query:List Qr) (ins:List Sr) (on:List Nd)
inductive Bd where
 | mk (op:Int) (all dis:Bool) (items:List It) (frm:List Sr) (whr group having:List Nd) (rows:List (List Nd)) (ins:List Qr)
inductive Qr where
 | mk (body:Bd) (keys:List Ky) (limit offset:Int)
end
def Ky.av(k:Ky):AV:=.agg [.str (bs k.name),ii k.at',.bool k.desc]
mutual
def Nd.av:Nd→AV
 | .mk op text num no dis args query=>.agg [.int .i64 op,.str (bs text),.int .i64 num,.bool no,.bool dis,.slice 7 (xd args),.slice 13 (zb query)]
def xd:List Nd→LA
 | []=>[]
 | n::r=>n.av::xd r
def It.av:It→AV
 | .mk star table expr as'=>.agg [.bool star,.str (bs table),.slice 7 (xd expr),.str (bs as')]
def bbg:List It→LA
 | []=>[]
 | n::r=>n.av::bbg r
def Sr.av:Sr→AV
 | .mk op name as' query ins on=>.agg [.int .i64 op,.str (bs name),.str (bs as'),.slice 13 (zb query),.slice 6 (zt ins),.slice 7 (xd on)]
def zt:List Sr→LA
 | []=>[]
 | n::r=>n.av::zt r
def zr:List (List Nd)→LA
 | []=>[]
 | n::r=>.slice 7 (xd n)::zr r
def Bd.cells:Bd→LA
 | .mk op all dis items frm whr group having rows ins=>[.int .i64 op,.bool all,.bool dis,.slice 4 (bbg items),.slice 6 (zt frm),.slice 7 (xd whr),.slice 7 (xd group),.slice 7 (xd having),.slice 1 (zr rows),.slice 13 (zb ins)]
def Qr.av:Qr→AV
 | .mk body keys limit offset=>.agg (body.cells++[.slice 3 (keys.map Ky.av),.int .i64 limit,.int .i64 offset])
def zb:List Qr→LA
 | []=>[]
 | n::r=>n.av::zb r
end
def Bd.av(b:Bd):AV:=.agg b.cells
theorem bhp:∀l:List Nd,xd l=l.map Nd.av
 | []=>rfl
 | n::r=>by simp[xd,bhp r]
theorem bxz:∀l:List Qr,zb l=l.map Qr.av
 | []=>rfl
 | n::r=>by simp[zb,bxz r]
theorem bpz:∀l:List It,bbg l=l.map It.av
 | []=>rfl
 | n::r=>by simp[bbg,bpz r]
theorem bpp:∀l:List Sr,zt l=l.map Sr.av
 | []=>rfl
 | n::r=>by simp[zt,bpp r]
theorem bh1:∀l:List (List Nd),zr l=l.map fun r=>.slice 7 (xd r)
 | []=>rfl
 | n::r=>by simp[zr,bh1 r]
theorem bdh(l:List Nd):(xd l).length=l.length:=by rw[bhp];simp
theorem bx0(l:List Qr):(zb l).length=l.length:=by rw[bxz];simp
theorem bg0(l:List It):(bbg l).length=l.length:=by rw[bpz];simp
theorem bjj(l:List Sr):(zt l).length=l.length:=by rw[bpp];simp
theorem bg8(l:List (List Nd)):(zr l).length=l.length:=by rw[bh1];simp
theorem bpv(l r:List Nd):xd (l++r)=xd l++xd r:=by simp[bhp]
theorem c3x(l r:List Qr):zb (l++r)=zb l++zb r:=by simp[bxz]
theorem c8c(l r:List It):bbg (l++r)=bbg l++bbg r:=by simp[bpz]
theorem c2m(l r:List Sr):zt (l++r)=zt l++zt r:=by simp[bpp]
theorem ct4(l r:List (List Nd)):zr (l++r)=zr l++zr r:=by simp[bh1]
theorem b5q{l:List Nd}{i:Nat}{n:Nd}(h:l[i]? = some n):(xd l)[i]? = some n.av:=by rw[bhp,d4,h];rfl
theorem b5c{l:List Qr}{i:Nat}{n:Qr}(h:l[i]? = some n):(zb l)[i]? = some n.av:=by rw[bxz,d4,h];rfl
theorem b50{l:List It}{i:Nat}{n:It}(h:l[i]? = some n):(bbg l)[i]? = some n.av:=by rw[bpz,d4,h];rfl
theorem b42{l:List Sr}{i:Nat}{n:Sr}(h:l[i]? = some n):(zt l)[i]? = some n.av:=by rw[bpp,d4,h];rfl
theorem b05{l:List (List Nd)}{i:Nat}{n:List Nd}(h:l[i]? = some n):(zr l)[i]? = some (.slice 7 (xd n)):=by rw[bh1,d4,h];rfl
def Bd.zero:Bd:=.mk 0 false false [] [] [] [] [] [] []
def Qr.zero:Qr:=.mk .zero [] 0 0
end Go.Av
namespace Go.Av
open Go
def ms(L:Int):Int:=IntKind.wrap .i64 (L - 1)
def sh(s:LU):LU:=s.take 210
def ctc:List Ky→Int→List Ky×Int
 | [],L=>([],L)
 | k::r,L=>if 0≤ms L then
   let q:=ctc r (ms L)
   (⟨sh k.name,k.at',k.desc⟩::q.1,q.2) else([],ms L)
mutual
def thN:Nd→Int→Nd×Int
 | .mk op text num no dis args query,L=>
  let a:=btv args L
  let q:=cbs query a.2
  (.mk op (sh text) num no dis a.1 q.1,q.2)
def btv:List Nd→Int→List Nd×Int
 | [],L=>([],L)
 | n::r,L=>if 0≤ms L then
   let p:=thN n (ms L)
   let q:=btv r p.2
   (p.1::q.1,q.2) else([],ms L)
def thI:It→Int→It×Int
 | .mk star table expr as',L=>
  let p:=btv expr L
  (.mk star (sh table) p.1 (sh as'),p.2)
def cp4:List It→Int→List It×Int
 | [],L=>([],L)
 | n::r,L=>if 0≤ms L then
   let p:=thI n (ms L)
   let q:=cp4 r p.2
   (p.1::q.1,q.2) else([],ms L)
def thS:Sr→Int→Sr×Int
 | .mk op name as' query ins on,L=>
  let a:=cbs query L
  let b:=cd5 ins a.2
  let c:=btv on b.2
  (.mk op (sh name) (sh as') a.1 b.1 c.1,c.2)
def cd5:List Sr→Int→List Sr×Int
 | [],L=>([],L)
 | n::r,L=>if 0≤ms L then
   let p:=thS n (ms L)
   let q:=cd5 r p.2
   (p.1::q.1,q.2) else([],ms L)
def cp3:List (List Nd)→Int→List (List Nd)×Int
 | [],L=>([],L)
 | n::r,L=>if 0≤ms L then
   let p:=btv n (ms L)
   let q:=cp3 r p.2
   (p.1::q.1,q.2) else([],ms L)
def thB:Bd→Int→Bd×Int
 | .mk op all dis items frm whr group having rows ins,L=>
  let a:=cp4 items L
  let b:=cd5 frm a.2
  let c:=btv whr b.2
  let d:=btv group c.2
  let e:=btv having d.2
  let f:=cp3 rows e.2
  let g:=cbs ins f.2
  (.mk op all dis a.1 b.1 c.1 d.1 e.1 f.1 g.1,g.2)
def thQ:Qr→Int→Qr×Int
 | .mk body keys limit offset,L=>
  let b:=thB body L
  let k:=ctc keys b.2
  (.mk b.1 k.1 limit offset,k.2)
def cbs:List Qr→Int→List Qr×Int
 | [],L=>([],L)
 | n::r,L=>if 0≤ms L then
   let p:=thQ n (ms L)
   let q:=cbs r p.2
   (p.1::q.1,q.2) else([],ms L)
end
def bv0{α β:Type}(g:α→Int→β×Int):List α→Int→List β×Int
 | [],L=>([],L)
 | x::r,L=>if 0≤ms L then
   let p:=g x (ms L)
   let q:=bv0 g r p.2
   (p.1::q.1,q.2) else([],ms L)
theorem bj7:∀(l:List Nd) (L:Int),btv l L=bv0 thN l L
 | [],L=>rfl
 | n::r,L=>by simp only[btv,bv0];split<;>simp[bj7 r]
theorem cbt:∀(l:List It) (L:Int),cp4 l L=bv0 thI l L
 | [],L=>rfl
 | n::r,L=>by simp only[cp4,bv0];split<;>simp[cbt r]
theorem b3r:∀(l:List Sr) (L:Int),cd5 l L=bv0 thS l L
 | [],L=>rfl
 | n::r,L=>by simp only[cd5,bv0];split<;>simp[b3r r]
theorem cbp:∀(l:List (List Nd)) (L:Int),cp3 l L=bv0 btv l L
 | [],L=>rfl
 | n::r,L=>by simp only[cp3,bv0];split<;>simp[cbp r]
theorem bxk:∀(l:List Qr) (L:Int),cbs l L=bv0 thQ l L
 | [],L=>rfl
 | n::r,L=>by simp only[cbs,bv0];split<;>simp[bxk r]
theorem b3s:∀(l:List Ky) (L:Int),ctc l L=bv0 (fun k L=>(⟨sh k.name,k.at',k.desc⟩,L)) l L
 | [],L=>rfl
 | n::r,L=>by simp only[ctc,bv0];split<;>simp[b3s r]
theorem bs8{f:St→Option (AEx×St)}{α β:Type}(g:α→Int→β×Int)(Inv:List β→Int→Prop)(st:List β→Int→Nat→St)(fin:List β→Int→AEx×St)(hfin:∀a L,(fin a L).1≠.normal)(l:List α)
  (hround:∀acc L (i:Nat) x,Inv acc L→l[i]? = some x→0≤ms L→f (st acc L i)=some (.normal,st (acc++[(g x (ms L)).1]) (g x (ms L)).2 (i+1))∧Inv (acc++[(g x (ms L)).1]) (g x (ms L)).2)
  (hstop:∀acc L (i:Nat) x,Inv acc L→l[i]? = some x→¬ 0≤ms L→f (st acc L i)=some (fin acc (ms L)))
  (hend:∀acc L,Inv acc L→f (st acc L l.length)=some (fin acc L)) (L:Int) (h0:Inv [] L):zc f (st [] L 0)=some (fin (bv0 g l L).1 (bv0 g l L).2):=by
 have key:∀(m pre:List α) (acc:List β) (L:Int),Inv acc L→l=pre++m→zc f (st acc L pre.length)=some (fin (acc++(bv0 g m L).1) (bv0 g m L).2):=by
  intro m
  induction m with
  | nil=>
   intro pre acc L hI e;simp only[mb]at e;subst e;rw[xc (hend acc L hI) (hfin _ _)];simp[bv0]
  | cons x m ih=>
   intro pre acc L hI e;have hx:l[pre.length]? = some x:=by rw[e];simp
   by_cases h0:0≤ms L
   ·obtain⟨h1,h2⟩:=hround acc L pre.length x hI hx h0;rw[xq h1];have:=ih (pre++[x]) (acc++[(g x (ms L)).1]) (g x (ms L)).2 h2 (by rw[e];simp);simp only[dh,cm,ct,dt]at this;rw[this];simp[bv0,h0]
   ·rw[xc (hstop acc L pre.length x hI hx h0) (hfin _ _)];simp[bv0,h0]
 have:=key l [] [] L h0 rfl;simpa using this
def Po(L:Int):Int:=if 0≤L then -10*L else L
def Bd1(c L L':Int):Prop:=L'≤L∧Po L - c≤Po L'
def Ok1(c L:Int):Prop:=L≤20000∧-1000000000000+c≤Po L
theorem ccm{c L:Int}(h:Ok1 c L)(hc:0≤c):ms L=L - 1:=by
 obtain⟨h1,h2⟩:=h;unfold ms;refine b72 ?_ ?_
 ·unfold Po at h2;split at h2<;>omega
 ·omega
theorem Ok1.step{c L L':Int}(h:Ok1 c L){d e:Int}(hb:Bd1 d L L')(he:e+d≤c):Ok1 e L':=by
 obtain⟨h1,h2⟩:=h;obtain⟨h3,h4⟩:=hb;exact⟨by omega,by omega⟩
theorem Bd1.trans{c d L L' L'':Int}(h:Bd1 c L L')(k:Bd1 d L' L''):Bd1 (c+d) L L'':=⟨by have:=h.1;have:=k.1;omega,by have:=h.2;have:=k.2;omega⟩
theorem Bd1.refl(L:Int):Bd1 0 L L:=⟨mv _,by omega⟩
theorem bq8{L:Int}(h:0≤L - 1):Po (L - 1)=Po L+10:=by unfold Po;rw[if_pos h,if_pos (by omega)];omega
theorem dt3{L:Int}(h:¬ 0≤L - 1):Po L - 1≤Po (L - 1):=by
 unfold Po;rw[if_neg h];split<;>omega
theorem b56{α β:Type}{g:α→Int→β×Int}{c:Int}(hc:0≤c)(hc9:c≤9):∀(l:List α) (L:Int),(∀x∈l,∀L,Ok1 c L→Bd1 c L (g x L).2)→Ok1 1 L→Bd1 1 L (bv0 g l L).2
 | [],L,_,h=>⟨mv _,by show Po L - 1≤Po L;omega⟩
 | x::r,L,hg,h=>by
  simp only[bv0];have e:=ccm h (by omega);by_cases h0:0≤ms L
  ·rw[if_pos h0];simp only;rw[e]at h0 ⊢;have p1:=bq8 h0;obtain⟨h1,h2⟩:=h;have ok1:Ok1 c (L - 1):=⟨by omega,by omega⟩;have b1:=hg x (.head _) (L - 1) ok1;have b1':=b1;obtain⟨b2,b3⟩:=b1';have ok2:Ok1 1 (g x (L - 1)).2:=⟨by omega,by omega⟩;have b4:=b56 hc hc9 r (g x (L - 1)).2 (fun y hy=>hg y (.tail _ hy)) ok2;obtain⟨b5,b6⟩:=b4;exact⟨by omega,by omega⟩
  ·rw[if_neg h0];simp only;rw[e]at h0 ⊢;exact⟨by omega,by have:=dt3 h0;omega⟩
mutual
theorem btx:∀(n:Nd) (L:Int),Ok1 2 L→Bd1 2 L (thN n L).2
 | .mk op text num no dis args query,L,h=>by
  simp only[thN];have b1:=bfd args L (h.step (Bd1.refl L) (by omega));have b2:=b0v query _ (h.step b1 (by omega));exact b1.trans b2
theorem bfd:∀(l:List Nd) (L:Int),Ok1 1 L→Bd1 1 L (btv l L).2
 | [],L,_=>⟨mv _,by show Po L - 1≤Po L;omega⟩
 | n::r,L,h=>by
  have hn:=btx n;have hr:=bfd r;have:=b56 (g:=thN) (c:=2) (by omega) (by omega) [n] L (fun x hx=>by
   simp only[ff]at hx;subst hx;exact hn) h
  simp only[bv0,btv]at this ⊢;by_cases h0:0≤ms L
  ·rw[if_pos h0]at this ⊢;simp only at this ⊢;have e:=ccm h (by omega);rw[e]at h0 this ⊢;have p1:=bq8 h0;obtain⟨h1,h2⟩:=h;obtain⟨b2,b3⟩:=hn (L - 1) ⟨by omega,by omega⟩;obtain⟨b5,b6⟩:=hr (thN n (L - 1)).2 ⟨by omega,by omega⟩;exact⟨by omega,by omega⟩
  ·rw[if_neg h0]at this ⊢;exact this
theorem cp5:∀(n:It) (L:Int),Ok1 1 L→Bd1 1 L (thI n L).2
 | .mk star table expr as',L,h=>by
  simp only[thI];exact bfd expr L h
theorem cbv:∀(l:List It) (L:Int),Ok1 1 L→Bd1 1 L (cp4 l L).2
 | [],L,_=>⟨mv _,by show Po L - 1≤Po L;omega⟩
 | n::r,L,h=>by
  have hn:=cp5 n;have hr:=cbv r;have:=b56 (g:=thI) (c:=1) (by omega) (by omega) [n] L (fun x hx=>by
   simp only[ff]at hx;subst hx;exact hn) h
  simp only[bv0,cp4]at this ⊢;by_cases h0:0≤ms L
  ·rw[if_pos h0]at this ⊢;simp only at this ⊢;have e:=ccm h (by omega);rw[e]at h0 this ⊢;have p1:=bq8 h0;obtain⟨h1,h2⟩:=h;obtain⟨b2,b3⟩:=hn (L - 1) ⟨by omega,by omega⟩;obtain⟨b5,b6⟩:=hr (thI n (L - 1)).2 ⟨by omega,by omega⟩;exact⟨by omega,by omega⟩
  ·rw[if_neg h0]at this ⊢;exact this
theorem cd6:∀(n:Sr) (L:Int),Ok1 3 L→Bd1 3 L (thS n L).2
 | .mk op name as' query ins on,L,h=>by
  simp only[thS];have b1:=b0v query L (h.step (Bd1.refl L) (by omega));have b2:=bvc ins _ (h.step b1 (by omega));have b3:=bfd on _ (h.step (b1.trans b2) (by omega));exact(b1.trans b2).trans b3
theorem bvc:∀(l:List Sr) (L:Int),Ok1 1 L→Bd1 1 L (cd5 l L).2
 | [],L,_=>⟨mv _,by show Po L - 1≤Po L;omega⟩
 | n::r,L,h=>by
  have hn:=cd6 n;have hr:=bvc r;have:=b56 (g:=thS) (c:=3) (by omega) (by omega) [n] L (fun x hx=>by
   simp only[ff]at hx;subst hx;exact hn) h
  simp only[bv0,cd5]at this ⊢;by_cases h0:0≤ms L
  ·rw[if_pos h0]at this ⊢;simp only at this ⊢;have e:=ccm h (by omega);rw[e]at h0 this ⊢;have p1:=bq8 h0;obtain⟨h1,h2⟩:=h;obtain⟨b2,b3⟩:=hn (L - 1) ⟨by omega,by omega⟩;obtain⟨b5,b6⟩:=hr (thS n (L - 1)).2 ⟨by omega,by omega⟩;exact⟨by omega,by omega⟩
  ·rw[if_neg h0]at this ⊢;exact this
theorem cbq:∀(l:List (List Nd)) (L:Int),Ok1 1 L→Bd1 1 L (cp3 l L).2
 | [],L,_=>⟨mv _,by show Po L - 1≤Po L;omega⟩
 | n::r,L,h=>by
  have hn:=bfd n;have hr:=cbq r;have:=b56 (g:=btv) (c:=1) (by omega) (by omega) [n] L (fun x hx=>by
   simp only[ff]at hx;subst hx;exact hn) h
  simp only[bv0,cp3]at this ⊢;by_cases h0:0≤ms L
  ·rw[if_pos h0]at this ⊢;simp only at this ⊢;have e:=ccm h (by omega);rw[e]at h0 this ⊢;have p1:=bq8 h0;obtain⟨h1,h2⟩:=h;obtain⟨b2,b3⟩:=hn (L - 1) ⟨by omega,by omega⟩;obtain⟨b5,b6⟩:=hr (btv n (L - 1)).2 ⟨by omega,by omega⟩;exact⟨by omega,by omega⟩
  ·rw[if_neg h0]at this ⊢;exact this
theorem c1q:∀(b:Bd) (L:Int),Ok1 7 L→Bd1 7 L (thB b L).2
 | .mk op all dis items frm whr group having rows ins,L,h=>by
  simp only[thB];have b1:=cbv items L (h.step (Bd1.refl L) (by omega));have b2:=b1.trans (bvc frm _ (h.step b1 (by omega)));have b3:=b2.trans (bfd whr _ (h.step b2 (by omega)));have b4:=b3.trans (bfd group _ (h.step b3 (by omega)));have b5:=b4.trans (bfd having _ (h.step b4 (by omega)));have b6:=b5.trans (cbq rows _ (h.step b5 (by omega)));exact b6.trans (b0v ins _ (h.step b6 (by omega)))
theorem b77:∀(q:Qr) (L:Int),Ok1 8 L→Bd1 8 L (thQ q L).2
 | .mk body keys limit offset,L,h=>by
  simp only[thQ];have b1:=c1q body L (h.step (Bd1.refl L) (by omega));have b2:Bd1 1 (thB body L).2 (ctc keys (thB body L).2).2:=by
   rw[b3s];exact b56 (c:=0) (by omega) (by omega) keys _ (fun x _ L _=>Bd1.refl L) (h.step b1 (by omega))
  exact b1.trans b2
theorem b0v:∀(l:List Qr) (L:Int),Ok1 1 L→Bd1 1 L (cbs l L).2
 | [],L,_=>⟨mv _,by show Po L - 1≤Po L;omega⟩
 | n::r,L,h=>by
  have hn:=b77 n;have hr:=b0v r;have:=b56 (g:=thQ) (c:=8) (by omega) (by omega) [n] L (fun x hx=>by
   simp only[ff]at hx;subst hx;exact hn) h
  simp only[bv0,cbs]at this ⊢;by_cases h0:0≤ms L
  ·rw[if_pos h0]at this ⊢;simp only at this ⊢;have e:=ccm h (by omega);rw[e]at h0 this ⊢;have p1:=bq8 h0;obtain⟨h1,h2⟩:=h;obtain⟨b2,b3⟩:=hn (L - 1) ⟨by omega,by omega⟩;obtain⟨b5,b6⟩:=hr (thQ n (L - 1)).2 ⟨by omega,by omega⟩;exact⟨by omega,by omega⟩
  ·rw[if_neg h0]at this ⊢;exact this
end
def cjm{β:Type}(acc:List β)(L:Int):Prop:=Ok1 1 L∧L+acc.length≤20000∧acc.length≤20000
theorem cjm.start{β:Type}{L:Int}(h:Ok1 1 L):cjm ([]:List β) L:=⟨h,by have:=h.1;simp;omega,by simp⟩
theorem cjm.next{β:Type}{acc:List β}{L L' c:Int}{x:β}(h:cjm acc L)(h0:0≤ms L)(hb:Ok1 c (ms L)→Bd1 c (ms L) L')(hc:0≤c)(hc9:c≤9):Ok1 c (ms L)∧cjm (acc++[x]) L':=by
 obtain⟨⟨h1,h2⟩,h3,h4⟩:=h;have e:=ccm (c:=1) ⟨h1,h2⟩ (by omega);rw[e]at h0 hb ⊢;have p1:=bq8 h0;have ok:Ok1 c (L - 1):=⟨by omega,by omega⟩;obtain⟨b1,b2⟩:=hb ok;refine⟨ok,⟨by omega,by omega⟩,?_,?_⟩
 ·simp;omega
 ·simp;omega
def bph:Nat:=9223372036854775807
mutual
def Nd.fit:Nd→Prop
 | .mk _ text _ _ _ args query=>text.length≤bph∧args.length≤bph∧query.length≤bph∧bj6 args∧brx query
def bj6:List Nd→Prop
 | []=>True
 | n::r=>n.fit∧bj6 r
def It.fit:It→Prop
 | .mk _ table expr as'=>table.length≤bph∧expr.length≤bph∧as'.length≤bph∧bj6 expr
def bzj:List It→Prop
 | []=>True
 | n::r=>n.fit∧bzj r
def Sr.fit:Sr→Prop
 | .mk _ name as' query ins on=>name.length≤bph∧as'.length≤bph∧query.length≤bph∧ins.length≤bph∧on.length≤bph∧brx query∧bt0 ins∧bj6 on
def bt0:List Sr→Prop
 | []=>True
 | n::r=>n.fit∧bt0 r
def bqg:List (List Nd)→Prop
 | []=>True
 | n::r=>(n.length≤bph∧bj6 n)∧bqg r
def Bd.fit:Bd→Prop
 | .mk _ _ _ items frm whr group having rows ins=>(items.length≤bph∧frm.length≤bph∧whr.length≤bph∧group.length≤bph∧having.length≤bph∧rows.length≤bph∧ins.length≤bph) ∧
   bzj items∧bt0 frm∧bj6 whr∧bj6 group∧bj6 having∧bqg rows∧brx ins
def Qr.fit:Qr→Prop
 | .mk body keys _ _=>body.fit∧keys.length≤bph∧∀k∈keys,k.name.length≤bph
def brx:List Qr→Prop
 | []=>True
 | n::r=>n.fit∧brx r
end
theorem b80:∀l:List Nd,bj6 l↔∀n∈l,n.fit
 | []=>by simp[bj6]
 | n::r=>by simp[bj6,b80 r]
theorem b87:∀l:List It,bzj l↔∀n∈l,n.fit
 | []=>by simp[bzj]
 | n::r=>by simp[bzj,b87 r]
theorem b8d:∀l:List Sr,bt0 l↔∀n∈l,n.fit
 | []=>by simp[bt0]
 | n::r=>by simp[bt0,b8d r]
theorem b8p:∀l:List Qr,brx l↔∀n∈l,n.fit
 | []=>by simp[brx]
 | n::r=>by simp[brx,b8p r]
theorem b46:∀l:List (List Nd),bqg l↔∀n∈l,n.length≤bph∧bj6 n
 | []=>by simp[bqg]
 | n::r=>by simp[bqg,b46 r]
end Go.Av
