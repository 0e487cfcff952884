/- Part of syntax_parses. -/
import Derived.Test.YtdcknoijcepibaaGreatDoorQ9
import Derived.Test.YtdcknoijcepibaaGreatDoorQ8
import Derived.Lib.ReplaceLaws
import Derived.Lib.AtoiAllCases
set_option linter.unusedSimpArgs false
set_option linter.unusedVariables false
set_option maxRecDepth 100000
set_option maxHeartbeats 16000000
namespace Go.Av
open Go Go.Proofs
theorem c120(c:UInt8)(S:LB):run 120 [.int .u8 (c.toNat:Int)] S=some (.ret (.bool (b31 c)) none,S):=by
 refine eqn rfl ?_;have h:=c.toNat_lt;unfold b31 c6f cc9;generalize c.toNat=n at *;by_cases h1:97≤n<;>by_cases h2:n≤122<;>by_cases h3:48≤n<;>by_cases h4:n≤57<;>by_cases h5:n=95<;>first | (exfalso;omega;done) |
  (have h1':(97≤(n:Int))↔(97≤n):=by omega
   have h2':((n:Int)≤122)↔(n≤122):=by omega
   have h3':(48≤(n:Int))↔(48≤n):=by omega
   have h4':((n:Int)≤57)↔(n≤57):=by omega
   have h5':((n:Int)=95)↔(n=95):=by omega
   simp[a120,h1',h2',h3',h4',h5',h1,h2,h3,h4,h5])
theorem wr8'{x:Int}(h0:0≤x)(h1:x≤255):IntKind.wrap .u8 x=x:=by
 simp[IntKind.wrap,IntKind.bits,IntKind.signed];omega
theorem b8f(c:UInt8):((bbd c).toNat:Int)=if 65≤c.toNat∧c.toNat≤90 then(c.toNat:Int)+32 else(c.toNat:Int):=by
 rw[b02];unfold upB;simp only[bp,decide_eq_true_eq];split<;>simp
theorem c121(c:UInt8)(S:LB):run 121 [.int .u8 (c.toNat:Int)] S=some (.ret (.int .u8 ((bbd c).toNat:Int)) none,S):=by
 refine eqn rfl ?_;have h:=c.toNat_lt;rw[b8f];generalize c.toNat=n at *;by_cases h1:65≤n
 ·by_cases h2:n≤90
  ·have h1':(65:Int)≤(n:Int):=by omega
   have h2':(n:Int)≤90:=by omega
   have e1:IntKind.wrap .u8 ((n:Int)+97)=(n:Int)+97:=wr8' (by omega) (by omega);have e2:IntKind.wrap .u8 ((n:Int)+97 - 65)=(n:Int)+32:=by rw[wr8' (by omega) (by omega)];omega
   simp[dtv,h1,h2,h1',h2',e1,e2]
  ·have h1':(65:Int)≤(n:Int):=by omega
   have h2':¬ (n:Int)≤90:=by omega
   simp[dtv,h1,h2,h1',h2']
 ·have h1':¬ (65:Int)≤(n:Int):=by omega
  simp[dtv,h1,h1']
theorem c124(c:UInt8)(S:LB):run 124 [.int .u8 (c.toNat:Int)] S=some (.ret (.bool (cc9 c)) none,S):=by
 refine eqn rfl ?_;have h:=c.toNat_lt;unfold cc9;generalize c.toNat=n at *;by_cases h3:48≤n<;>by_cases h4:n≤57<;>first | (exfalso;omega;done) |
  (have h3':(48≤(n:Int))↔(48≤n):=by omega
   have h4':((n:Int)≤57)↔(n≤57):=by omega
   simp[a124,h3',h4',h3,h4])
def cts(s:LU)(S:LB)(i:Nat):St:={σ:=[(0,.v (.str (bs s))),(22,.v (ii (s.length:Int))),(23,.v (ii (i:Int)))],own:=[],loc:=[],S:=S}
theorem drm(s:LU)(S:LB)(hs:s.length≤1000000) :
  zc (xf run b2f) (cts s S 0)=(if s.all b31 then some (.exit 0,{σ:=[],own:=[],loc:=[],S:=S}) else some (.ret,{σ:=[(2,.v (.bool false))],own:=[],loc:=[],S:=S})):=by
 have h:=bzc (f:=xf run b2f) s b31 (cts s S) (bad:=(.ret,{σ:=[(2,.v (.bool false))],own:=[],loc:=[],S:=S})) (good:=(.exit 0,{σ:=[],own:=[],loc:=[],S:=S})) (by simp) (by simp)
  (fun i c hx=>by
   have h1:=ilt hx;have hlt:=(cf.1 hx).1;have w:=bp7 (n:=i) (by omega);have q:=c120 c S;rw[xb];cases hb:b31 c
   ·rw[hb]at q;simp[-getElem?_pos,rZa,b2f,cts,bc6,hx,h1,w,q]
   ·rw[hb]at q;simp[-getElem?_pos,rZa,b2f,cts,bc6,hx,h1,w,q])
  (by
   rw[xb];simp[b2f,cts])
 exact h
theorem c127(s:LU)(S:LB)(hs:s.length≤1000000):run 127 [.str (bs s)] S=some (.ret (.bool (bfg s)) none,S):=by
 refine eqn rfl ?_;have h:=drm s S hs;cases s with
 | nil=>
  have e:bs []=⟨#[]⟩:=rfl;simp[dtt,e,bfg]
 | cons c r=>
  have hc:=c.toNat_lt;have hne:¬ bs (c::r)=⟨#[]⟩:=fun e=>by simp[bs]at e
  have g0:(bs (c::r))[0]? = some c:=by rw[bc6];rfl
  unfold bfg c6f;simp only[cts,cx,dd]at h;have hne2:¬ (bs (c::r)).toList=[]:=by rw[zm];simp
  by_cases hl:(c::r).length≤20
  ·have hl':¬ (20:Int)<((c::r).length:Int):=by omega
   have hz:(bs (c::r)).size=(c::r).length:=zj _;generalize (c::r).length=n at *;generalize (c::r).all b31=b at *;generalize bs (c::r)=B at *;by_cases h1:97≤c.toNat
   ·by_cases h2:c.toNat≤122
    ·have h1':¬ (c.toNat:Int)<97:=by omega
     have h2':¬ (122:Int)<(c.toNat:Int):=by omega
     cases b
     ·simp[-getElem?_pos,dtt,hne,hne2,hz,hl,hl',g0,h1,h2,h1',h2',h]
     ·simp[-getElem?_pos,dtt,hne,hne2,hz,hl,hl',g0,h1,h2,h1',h2',h]
    ·have h1':¬ (c.toNat:Int)<97:=by omega
     have h2':(122:Int)<(c.toNat:Int):=by omega
     simp[-getElem?_pos,dtt,hne,hne2,hz,hl,hl',g0,h1,h2,h1',h2']
   ·have h1':(c.toNat:Int)<97:=by omega
    simp[-getElem?_pos,dtt,hne,hne2,hz,hl,hl',g0,h1,h1']
  ·have hl':(20:Int)<((c::r).length:Int):=by omega
   have hz:(bs (c::r)).size=(c::r).length:=zj _;generalize (c::r).length=n at *;generalize (c::r).all b31=b at *;generalize bs (c::r)=B at *;simp[dtt,hne,hne2,hz,hl,hl']
def cfq(s:LU)(S:LB)(n:Nat):St:={σ:=[(0,.v (.str (bs s))),(3,.v (ii (n:Int)))],own:=[],loc:=[],S:=S}
def qEnd(S:LB)(q:Nat):Option (AEx×St):=if q=0 then some (.exit 0,{σ:=[],own:=[],loc:=[],S:=S}) else some (.ret,{σ:=[(2,.v (ii (q:Int)))],own:=[],loc:=[],S:=S})
theorem bjr{s:LU}{n:Nat}{c:UInt8}(h:s[n]? = some c):s.drop n=c::s.drop (n+1):=by
 obtain⟨hlt,e⟩:=cf.1 h;rw[mf hlt,e]
theorem drp(s:LU)(S:LB)(hs:s.length≤1000000):∀(k n:Nat),s.length≤n+k→n≤1000001→zc (xf run bsm) (cfq s S n)=qEnd S (qGo n (s.drop n)):=by
 have hsz:(bs s).size=s.length:=zj s;intro k
 induction k with
 | zero=>
  intro n h hn;have e:s.drop n=[]:=fj (by omega);have h1:¬ (n:Int)<(s.length:Int):=by omega
  rw[e];refine xc (r:=(.exit 0,{σ:=[],own:=[],loc:=[],S:=S})) ?_ (by simp);rw[xb];simp[bsm,cfq,hsz,h1]
 | succ k ih=>
  intro n h hn;by_cases hlt:n<s.length
  ·obtain⟨c,hc⟩:∃c,s[n]? = some c:=⟨s[n],cz hlt⟩;have h1:(n:Int)<(s.length:Int):=by omega
   have w:=bp7 (n:=n) (by omega);have g:(bs s)[n]? = some c:=by rw[bc6];exact hc
   rw[bjr hc];by_cases h39:c=39
   ·subst h39;by_cases hlt2:n+1<s.length
    ·obtain⟨d,hd⟩:∃d,s[n+1]? = some d:=⟨s[n+1],cz hlt2⟩;have h2:(n:Int)+1<(s.length:Int):=by omega
     have g2:(bs s)[n+1]? = some d:=by rw[bc6];exact hd
     have w2:IntKind.wrap .i64 ((n:Int)+1+1)=((n+2:Nat):Int):=by rw[b72 (by omega) (by omega)];omega
     have tn:((n:Int)+1).toNat=n+1:=by omega
     have n0:(0:Int)≤(n:Int)+1:=by omega
     rw[bjr hd];by_cases d39:d=39
     ·subst d39;have e:qGo n (39::39::s.drop (n+1+1))=qGo (n+2) (s.drop (n+2)):=by simp[qGo]
      rw[e,← ih (n+2) (by omega) (by omega)];refine xq ?_;rw[xb];simp[-getElem?_pos,rZa,bsm,cfq,hsz,h1,h2,g,g2,w,w2,tn,n0]
     ·have e:qGo n (39::d::s.drop (n+1+1))=n+1:=by simp[qGo,d39]
      have d39':¬ d.toNat=39:=fun e=>d39 (UInt8.toNat_inj.1 e)
      have d39i:¬ (d.toNat:Int)=39:=by omega
      rw[e];refine xc (r:=(.ret,{σ:=[(2,.v (ii ((n:Int)+1)))],own:=[],loc:=[],S:=S})) ?_ (by simp);rw[xb];simp[-getElem?_pos,rZa,bsm,cfq,hsz,h1,h2,g,g2,w,w2,tn,n0,d39,d39',d39i]
    ·have h2:¬ (n:Int)+1<(s.length:Int):=by omega
     have e0:s.drop (n+1)=[]:=fj (by omega);have e:qGo n (39::s.drop (n+1))=n+1:=by rw[e0];simp[qGo]
     rw[e];refine xc (r:=(.ret,{σ:=[(2,.v (ii ((n:Int)+1)))],own:=[],loc:=[],S:=S})) ?_ (by simp);rw[xb];simp[-getElem?_pos,rZa,bsm,cfq,hsz,h1,h2,g,w]
   ·have e:∀x,qGo n (c::x)=qGo (n+1) x:=fun x=>by cases x<;>simp[qGo,h39]
    have c39':¬ c.toNat=39:=fun e=>h39 (UInt8.toNat_inj.1 e)
    have c39i:¬ (c.toNat:Int)=39:=by omega
    rw[e,← ih (n+1) (by omega) (by omega)];refine xq ?_;rw[xb];simp[-getElem?_pos,rZa,bsm,cfq,hsz,h1,g,w,h39,c39',c39i]
  ·have e:s.drop n=[]:=fj (by omega);have h1:¬ (n:Int)<(s.length:Int):=by omega
   rw[e];refine xc (r:=(.exit 0,{σ:=[],own:=[],loc:=[],S:=S})) ?_ (by simp);rw[xb];simp[bsm,cfq,hsz,h1]
theorem c118(s:LU)(S:LB)(hs:s.length≤1000000):run 118 [.str (bs s)] S=some (.ret (ii (bdr s:Int)) none,S):=by
 refine eqn rfl ?_;have h:=drp s S hs s.length 1 (by omega) (by omega);simp only[cfq,pq,qk,qEnd]at h;unfold bdr;generalize qGo 1 (s.drop 1)=q at *;by_cases h0:q=0
 ·subst h0;simp at h;simp[a118,h]
 ·rw[if_neg h0]at h;simp[a118,h]
end Go.Av
namespace Go.Av
open Go Go.Proofs
theorem ckv{old new:LU}(h:old≠[]):Lib.replaceAll [] old new=[]:=by
 unfold Lib.replaceAll Lib.replace;split
 ·rfl
 ·have e:Lib.index [] old=-1:=by cases old with | nil=>exact absurd rfl h | cons=>rfl
  have c:=Lib.count_miss e;unfold Lib.replaceNum;rw[if_pos (.inl (by omega)),c,Lib.replaceK]
theorem cqm{old new s:LU}(h:(old==new)=false):Lib.replaceAll s old new=Lib.replaceK old new (Lib.count s old) s:=by
 unfold Lib.replaceAll Lib.replace;rw[h];simp only[ck,if_false];unfold Lib.replaceNum;rw[if_pos (.inl (by omega))]
theorem c3q{old new r:LU}(h:(old==new)=false)(ho:old≠[]):Lib.replaceAll (old++r) old new=new++Lib.replaceAll r old new:=by
 have e:Lib.index (old++r) old=((0:Nat):Int):=by
  cases old with
  | nil=>exact absurd rfl ho
  | cons a l=>
   have:(a::l).isPrefixOf (a::l++r)=true:=by simp[f9]
   rw[dv]at this ⊢;unfold Lib.index;rw[if_pos this];rfl
 rw[cqm h,cqm h,Lib.count_hit ho e,jg,Lib.replaceK_hit _ _ _ _ _ e];simp
theorem cb5{old new:LU}{b:UInt8}{l:LU}(h:(old==new)=false)(ho:old≠[])(hp:old.isPrefixOf (b::l)=false):Lib.replaceAll (b::l) old new=b::Lib.replaceAll l old new:=by
 rw[cqm h,cqm h];have e:Lib.index (b::l) old=if Lib.index l old==-1 then -1 else Lib.index l old+1:=by
  conv=>lhs;unfold Lib.index
  rw[if_neg (by rw[hp];simp)]
 by_cases hm:Lib.index l old=-1
 ·rw[hm]at e;have e':Lib.index (b::l) old=-1:=e;rw[Lib.count_miss hm,Lib.count_miss e',Lib.replaceK,Lib.replaceK]
 ·have hge:=Lib.index_ge l old;obtain⟨i,hi⟩:∃i:Nat,Lib.index l old=i:=⟨(Lib.index l old).toNat,by omega⟩;have e':Lib.index (b::l) old=((i+1:Nat):Int):=by
   rw[e,hi];have:((i:Int)==-1)=false:=by rw[beq_eq_false_iff_ne];omega
   rw[this];simp
  rw[Lib.count_hit ho e',Lib.count_hit ho hi,jg 1,jg 1,Lib.replaceK_hit _ _ _ _ _ e',Lib.replaceK_hit _ _ _ _ _ hi,show i+1+old.length=i+old.length+1 by omega];simp
def dbl:LU→LU
 | []=>[]
 | c::l=>if c=39 then 39::39::dbl l else c::dbl l
theorem c3r:∀(l:LU),Lib.replaceAll l [39] [39,39]=dbl l
 | []=>ckv (by simp)
 | c::l=>by
  have ih:=c3r l;unfold dbl;split
  ·rename_i h;subst h;have:=c3q (old:=[39]) (new:=[39,39]) (r:=l) (by decide) (by simp);simp only[pg]at this;rw[this,ih];rfl
  ·rename_i h;rw[cb5 (by decide) (by simp) (by simp[List.isPrefixOf];exact fun e=>h e.symm),ih]
theorem cdd:∀(l:LU),(dbl l).length≤2*l.length
 | []=>by simp[dbl]
 | c::l=>by
  have:=cdd l;unfold dbl;split<;>simp<;>omega
theorem ckt:∀(l:LU),Lib.replaceAll l [39,39] [39]=und l
 | []=>ckv (by simp)
 | [c]=>by
  rw[cb5 (by decide) (by simp) (by simp[List.isPrefixOf]),ckv (by simp)];rfl
 | c::d::r=>by
  unfold und;split
  ·rename_i h;obtain⟨rfl,rfl⟩:=h;have:=c3q (old:=[39,39]) (new:=[39]) (r:=r) (by decide) (by simp);simp only[rZd]at this;rw[this,ckt r]
  ·rename_i h;rw[cb5 (by decide) (by simp) (by
    simp only[List.isPrefixOf,rc,beq_eq_false_iff_ne,ne_eq];by_cases h1:c=39
    ·right;left;intro e;exact h ⟨h1,e.symm⟩
    ·left;exact fun e=>h1 e.symm),ckt (d::r)]
theorem cbj:∀(l:LU),(und l).length≤l.length
 | []=>by simp[und]
 | [c]=>by simp[und]
 | c::d::r=>by
  have h1:=cbj r;have h2:=cbj (d::r);unfold und;split<;>simp at*<;> omega
def bd9:LU→Bool
 | []=>true
 | [c]=>decide (c≠39)
 | c::d::r=>if c=39 then decide (d=39)&&bd9 r else bd9 (d::r)
theorem cdc:∀(l:LU),bd9 l=true→dbl (und l)=l
 | [],_=>rfl
 | [c],h=>by
  simp only[bd9,decide_eq_true_eq]at h;simp[und,dbl,h]
 | c::d::r,h=>by
  by_cases hc:c=39
  ·simp only[bd9,hc,if_true,bp,decide_eq_true_eq]at h;obtain⟨rfl,h2⟩:=h;simp[und,hc,dbl,cdc r h2]
  ·simp only[bd9,hc,if_false]at h;simp[und,hc,dbl,cdc (d::r) h]
theorem bkp:∀(k n:Nat) (r:LU),r.length≤k→qGo n r≠0→∃mid z,r=mid++39::z∧bd9 mid=true∧qGo n r=n+mid.length+1
 | k,n,[],_,h=>absurd rfl h
 | 0,n,c::r,h,_=>by simp at h
 | k+1,n,[c],hk,h=>by
  by_cases hc:c=39
  ·subst hc;exact⟨[],[],rfl,rfl,by simp[qGo]⟩
  ·simp[qGo,hc]at h
 | k+1,n,c::d::r,hk,h=>by
  simp only[cm]at hk;by_cases hc:c=39
  ·subst hc;by_cases hd:d=39
   ·subst hd;have e:qGo n (39::39::r)=qGo (n+2) r:=by simp[qGo]
    rw[e]at h ⊢;obtain⟨mid,z,h1,h2,h3⟩:=bkp k (n+2) r (by omega) h;exact⟨39::39::mid,z,by rw[h1];rfl,by simp[bd9,h2],by rw[h3];simp;omega⟩
   ·exact⟨[],d::r,rfl,rfl,by simp[qGo,hd]⟩
  ·have e:qGo n (c::d::r)=qGo (n+1) (d::r):=by simp[qGo,hc]
   rw[e]at h ⊢;obtain⟨mid,z,h1,h2,h3⟩:=bkp k (n+1) (d::r) (by simp;omega) h;refine⟨c::mid,z,by rw[h1];rfl,?_,by rw[h3];simp;omega⟩;cases mid with
   | nil=>simp[bd9,hc]
   | cons m0 mr=>simp[bd9,hc];exact h2
def prB(b:UInt8):Bool:=decide (32≤b.toNat)&&decide (b.toNat≤126)
def ctm(s:LU)(S:LB)(i:Nat):St:={σ:=[(0,.v (.str (bs s))),(5,.v (ii (s.length:Int))),(6,.v (ii (i:Int)))],own:=[],loc:=[],S:=S}
theorem c195(s:LU)(S:LB)(hs:s.length≤1000000):run 195 [.str (bs s)] S=some (.ret (.bool (s.all prB)) none,S):=by
 refine eqn rfl ?_;have h:=bzc (f:=xf run b2c) s prB (ctm s S) (bad:=(.ret,{σ:=[(2,.v (.bool false))],own:=[],loc:=[],S:=S})) (good:=(.exit 0,{σ:=[],own:=[],loc:=[],S:=S})) (by simp) (by simp)
  (fun i c hx=>by
   have h1:=ilt hx;have hlt:=(cf.1 hx).1;have w:=bp7 (n:=i) (by omega);have g:(bs s)[i]? = some c:=by rw[bc6];exact hx
   rw[xb];unfold prB;by_cases c1:32≤c.toNat
   ·have c1':¬ (c.toNat:Int)<32:=by omega
    by_cases c2:c.toNat≤126
    ·have c2':¬ (126:Int)<(c.toNat:Int):=by omega
     simp[-getElem?_pos,rZa,b2c,ctm,g,h1,w,c1,c2,c1',c2']
    ·have c2':(126:Int)<(c.toNat:Int):=by omega
     simp[-getElem?_pos,rZa,b2c,ctm,g,h1,w,c1,c2,c1',c2']
   ·have c1':(c.toNat:Int)<32:=by omega
    simp[-getElem?_pos,rZa,b2c,ctm,g,h1,w,c1,c1'])
  (by
   rw[xb];simp[b2c,ctm])
 have hz:(bs s).size=s.length:=zj s;simp only[ctm,cx,dd]at h;generalize s.all prB=b at *;cases b
 ·simp at h;simp[a195,hz,h]
 ·simp at h;simp[a195,hz,h]
def bgt(t:LU):AV:=.agg [ii 3,ii 0,.str (bs t)]
theorem c162T(t:LU)(S:LB)(hs:t.length≤1000000):run 162 [bgt t] S=some (.ret (.bool (decide (t.length≤200)&&t.all prB)) none,S):=by
 refine eqn rfl ?_;have q:=c195 t S hs;have hz:(bs t).size=t.length:=zj t;unfold bgt;generalize t.all prB=b at *;by_cases h1:t.length≤200
 ·have h1':(t.length:Int)≤200:=by omega
  simp[a162,hz,h1,h1',q]
 ·have h1':¬ (t.length:Int)≤200:=by omega
  simp[a162,hz,h1,h1']
theorem c161(l:LU)(hl:l.length≤100000)(S:LB):run 161 [.str (bs l),.str ⟨#[39]⟩,.str ⟨#[39,39]⟩] S=some (.ret (.str (bs (dbl l))) none,S):=by
 refine bqh (hh:=bf5) rfl ?_;have e1:(⟨#[39]⟩:ByteArray).size=1:=rfl;have e2:(⟨#[39,39]⟩:ByteArray).size=2:=rfl;have e3:repB (bs l) ⟨#[39]⟩ ⟨#[39,39]⟩=bs (dbl l):=by
  unfold repB;rw[bpc,← c3r];rfl
 simp only[bf5,e1,e2,zj,e3];rw[if_pos ⟨by omega,by omega,by omega⟩]
theorem c161U(l:LU)(hl:l.length≤100000)(S:LB):run 161 [.str (bs l),.str ⟨#[39,39]⟩,.str ⟨#[39]⟩] S=some (.ret (.str (bs (und l))) none,S):=by
 refine bqh (hh:=bf5) rfl ?_;have e1:(⟨#[39]⟩:ByteArray).size=1:=rfl;have e2:(⟨#[39,39]⟩:ByteArray).size=2:=rfl;have e3:repB (bs l) ⟨#[39,39]⟩ ⟨#[39]⟩=bs (und l):=by
  unfold repB;rw[bpc,← ckt];rfl
 simp only[bf5,e1,e2,zj,e3];rw[if_pos ⟨by omega,by omega,by omega⟩]
theorem c163T(t:LU)(S:LB)(hs:t.length≤100000):run 163 [bgt t] S=some (.ret (.str (bs (39::(dbl t++[39])))) none,S):=by
 refine eqn rfl ?_;have q:=c161 t hs S;have e:(⟨#[39]⟩:ByteArray)++bs (dbl t)++(⟨#[39]⟩:ByteArray)=bs (39::(dbl t++[39])):=by
  change bs [39]++bs (dbl t)++bs [39]=_;rw[bdm,bdm];rfl
 unfold bgt;have e1:(⟨#[39]⟩:ByteArray).size=1:=rfl;have e2:=cdd t;simp[a163,q,e,e1,zj];omega
theorem c1r{m:LU}:¬ (bs (39::(m++[39]))).toList=[110,117,108,108]∧¬ (bs (39::(m++[39]))).toList=[116,114,117,101]∧¬ (bs (39::(m++[39]))).toList=[102,97,108,115,101]:=by
 rw[zm];refine⟨?_,?_,?_⟩<;>(intro h;simp at h)
def cst:AV:=.agg [ii 0,ii 0,.str ⟨#[]⟩]
def df1(m:LU):AV:=.tuple [if bf7 m then bgt (und m) else cst,.bool (bf7 m)]
theorem c119Q(m:LU)(S:LB)(hs:m.length≤100000)(hp:bd9 m=true):run 119 [.str (bs (39::(m++[39])))] S=some (.ret (df1 m) none,S):=by
 refine eqn rfl ?_;have hu:=cbj m;have q1:=c161U m hs S;have q2:=c162T (und m) S (by omega);have q3:=c163T (und m) S (by omega);rw[cdc m hp]at q3;obtain⟨n1,n2,n3⟩:=c1r (m:=m);have hz:(bs (39::(m++[39]))).size=m.length+2:=by rw[zj];simp
 have g0:(bs (39::(m++[39])))[0]? = some 39:=by rw[bc6];rfl
 have g1:(bs (39::(m++[39])))[m.length+1]? = some 39:=by rw[bc6];simp
 have ex:(bs (39::(m++[39]))).extract 1 (m.length+1)=bs m:=by rw[bct];simp
 have eo:bf7 m=(decide ((und m).length≤200)&&(und m).all prB):=rfl;unfold df1 bgt cst;unfold bgt at q2 q3;rw[← eo]at q2;generalize bf7 m=ok at *;generalize und m=u at *;generalize bs (39::(m++[39]))=B at *;have i1:(1:Int)<((m.length+2:Nat):Int):=by omega
 have i2:IntKind.wrap .i64 (((m.length+2:Nat):Int) - 1)=((m.length+1:Nat):Int):=by rw[b72 (by omega) (by omega)];omega
 generalize hN:m.length+2=N at *;cases ok
 ·simp[-getElem?_pos,a119,n1,n2,n3,hz,g0,g1,ex,q1,q2,q3,i1,i2];omega
 ·simp[-getElem?_pos,a119,n1,n2,n3,hz,g0,g1,ex,q1,q2,q3,i1,i2];omega
end Go.Av
namespace Go.Av
open Go Go.Proofs
theorem c125(s:LU)(S:LB)(hs:s.length≤1000000):run 125 [.str (bs s),ii 10,ii 64] S=some (.ret (bz2 259 (bs s)) none,S):=by
 refine bqh (hh:=bpj 259) rfl ?_;simp only[bpj,zj];rw[if_pos ⟨by omega,trivial,trivial⟩]
theorem c126(n:Int)(h0:-9223372036854775808≤n)(h1:n≤9223372036854775807)(S:LB):run 126 [ii n,ii 10] S=some (.ret (.str (bs (bc9 n))) none,S):=by
 refine bqh (hh:=bkk) rfl ?_;simp[bkk,h0,h1,dr7]
theorem c119N(S:LB):run 119 [.str (bs [])] S=some (.ret (.tuple [cst,.bool false]) none,S):=by
 refine eqn rfl ?_;have q:=c125 [] S (by simp);have e:bz2 259 (bs [])=.tuple [ii 0,.iface 259 (.sptr [])]:=by rfl
 rw[e]at q;have z:bs []=⟨#[]⟩:=rfl;rw[z]at q ⊢;have e0:(⟨#[]⟩:ByteArray).size=0:=rfl;have e1:(⟨#[]⟩:ByteArray).toList=[]:=zm [];unfold cst;simp[a119,q,e0,e1]
theorem c158(s p:LU)(S:LB)(hs:s.length≤1000000)(hp:p.length≤1000000):run 158 [.str (bs s),.str (bs p)] S=some (.ret (.bool (p.isPrefixOf s)) none,S):=by
 refine eqn rfl ?_;have z1:(bs s).size=s.length:=zj s;have z2:(bs p).size=p.length:=zj p;have ex:(bs s).extract 0 p.length=bs (s.take p.length):=by rw[bct];simp
 by_cases h:p.length≤s.length
 ·have h':(p.length:Int)≤(s.length:Int):=by omega
  have e:p.isPrefixOf s=decide (s.take p.length=p):=by
   rw[rm,f9,decide_eq_true_eq];exact⟨fun h=>(p9.1 h).symm,fun h=>h▸vb _ _⟩
  rw[e];by_cases hq:s.take p.length=p
  ·simp[a158,z1,z2,h,h',ex,hq,zm]
  ·simp[a158,z1,z2,h,h',ex,hq,zm]
 ·have h':¬ (p.length:Int)≤(s.length:Int):=by omega
  have e:p.isPrefixOf s=false:=by
   cases hb:p.isPrefixOf s with
   | false=>rfl
   | true=>exact absurd (f9.1 hb).length_le h
  rw[e];simp[a158,z1,z2,h,h']
theorem c117(s p:LU)(S:LB)(hs:s.length≤1000000)(hp:p.length≤1000000):run 117 [.str (bs s),.str (bs p)] S=some (.ret (.bool (p.isPrefixOf s)) none,S):=by
 refine eqn rfl ?_;have q:=c158 s p S hs hp;simp[a117,q]
end Go.Av
namespace Go.Av
open Go Go.Proofs
def bc1:Bx:={cells:=(bdd.map fun w=>[AV.str (bs w),AV.bool true]).flatten,own:=[],map:=true}
theorem c66:run 66 [] []=some (.ret (.mapp 0) none,[bc1]):=bxv (n:=60) (by kernel_rfl)
theorem b81(t:LU):∀(l:LV),b7q none (l.map fun w=>[AV.str (bs w),AV.bool true]).flatten (.str (bs t))=some (if t∈l then some (.bool true) else none)
 | []=>by simp[b7q]
 | w::l=>by
  have ih:=b81 t l;simp only[cr,jm,rZd,b7q];by_cases h:t=w
  ·subst h;simp[bd1,bg4]
  ·have h':¬ bs t=bs w:=fun e=>h (chs e)
   simp[bd1,bg4,h,h',zm,ih]
def dgf(b:LU):Bool:=match Lib.atoiAll b with
 | .ok n=>decide (bc9 n=b)
 | _=>false
def bj9:LU→Bool
 | []=>false
 | c::r=>cc9 c&&dgf (c::r)
def bcr:AV:=.agg [ii 0,.str ⟨#[]⟩,ii 0]
def brr(k:Int)(t:LU):AV:=.agg [ii k,.str (bs t),ii 0]
def bx5(s:LU):AV:=match bvj bj9 s with
 | some (k,t)=>.tuple [brr k t,.int .i64 (t.length:Int)]
 | none=>.tuple [bcr,.int .i64 0]
theorem c3h{x s:LU}(hx:x∈bcj)(h:x.isPrefixOf s=true):s.head?≠some 39∧(s.takeWhile fun c=>b31 (bbd c))=[]:=by
 obtain⟨z,rfl⟩:=f9.1 h;unfold bcj at hx;simp only[dc,fp,or_false]at hx;rcases hx with rfl | rfl | rfl | rfl | rfl | rfl | rfl | rfl | rfl | rfl | rfl | rfl | rfl | rfl | rfl | rfl | rfl<;>
 exact⟨by simp,by rfl⟩
theorem c4x{s x:LU}{p:LU→Bool}(h:(bcj.find? fun x=>x.isPrefixOf s)=some x):bvj p s=some (5,x):=by
 have hm:=t7 h;have hp:=List.find?_some h;obtain⟨h1,h2⟩:=c3h hm hp;unfold bvj;rw[if_neg h1,h2];simp only[cg,if_true];rw[h];rfl
theorem b0q{α γ:Type}(p:α→Bool)(g:α→γ)(e:γ):∀(l:List α),cbh (fun(_:Unit) x=>if p x then .inr (g x) else .inl ()) (fun _=>e) l ()=(l.find? p).elim e g
 | []=>rfl
 | x::l=>by
  unfold cbh;cases h:p x
  ·simp[h,b0q p g e l]
  ·simp[h]
def bts:Bx:={cells:=[ii 0,.str ⟨#[]⟩,ii 0]}
def bm6:LA:=[.str ⟨#[60,61]⟩,.str ⟨#[62,61]⟩,.str ⟨#[60,62]⟩,.str ⟨#[124,124]⟩,.str ⟨#[40]⟩,.str ⟨#[41]⟩,.str ⟨#[44]⟩,.str ⟨#[46]⟩,.str ⟨#[42]⟩,.str ⟨#[43]⟩,.str ⟨#[45]⟩,.str ⟨#[47]⟩,.str ⟨#[37]⟩,.str ⟨#[61]⟩,.str ⟨#[60]⟩,.str ⟨#[62]⟩,.str ⟨#[59]⟩]
theorem ckk(i:Nat)(x:LU)(h:bcj[i]? = some x):bm6[i]? = some (.str (bs x)):=by
 have e:bm6=bcj.map fun x=>AV.str (bs x):=by rfl
 rw[e,d4,h];rfl
def stS(s:LU)(S:LB)(i:Nat):St:={σ:=[(0,.v (.str (bs s))),(1,.v (.mapp 0)),(4,.l 4 0),(17,.v (.agg bm6)),(18,.v (ii (i:Int)))],own:=[],loc:=[(4,bts)],S:=S}
theorem b1f(s:LU)(S:LB)(hs:s.length≤1000000) :
  zc (xf run b90) (stS s S 0)=some ((bcj.find? fun x=>x.isPrefixOf s).elim
   (.exit 0,{σ:=[(0,.v (.str (bs s))),(1,.v (.mapp 0)),(4,.l 4 0)],own:=[],loc:=[(4,bts)],S:=S})
   (fun x=>(.ret,{σ:=[(4,.l 4 0),(5,.v (ii (x.length:Int)))],own:=[],loc:=[(4,{cells:=[ii 5,.str (bs x),ii 0]})],S:=S}))):=by
 have h:=b5v (f:=xf run b90) bcj (fun(_:Unit) i=>stS s S i)
  (fun _ x=>if x.isPrefixOf s then .inr (.ret,{σ:=[(4,.l 4 0),(5,.v (ii (x.length:Int)))],own:=[],loc:=[(4,{cells:=[ii 5,.str (bs x),ii 0]})],S:=S}) else .inl ())
  (fun _=>(.exit 0,{σ:=[(0,.v (.str (bs s))),(1,.v (.mapp 0)),(4,.l 4 0)],own:=[],loc:=[(4,bts)],S:=S})) (fun _ _=>True) (b0:=()) trivial
  (fun i _ x _ hx=>by
   have hlt:=(cf.1 hx).1;have h17:bcj.length=17:=by rfl
   have h1:(i:Int)<17:=by omega
   have w:=bp7 (n:=i) (by omega);have hxl:x.length≤1000000:=by
    have:∀y∈bcj,y.length≤1000000:=by decide
    exact this x (cp hx)
   have q:=c117 s x S hs hxl;have g:=ckk i x hx;have hz:(bs x).size=x.length:=zj x;have hl:bm6.length=17:=rfl;cases hb:x.isPrefixOf s
   ·rw[hb]at q;left;refine⟨(),by simp[hb],?_,trivial⟩;rw[xb];simp[-getElem?_pos,rZa,b90,stS,bts,h1,w,q,g,hl]
   ·rw[hb]at q;right;refine⟨_,if_pos rfl,?_,by simp⟩;rw[xb];simp[-getElem?_pos,rZa,b90,stS,bts,h1,w,q,g,hl,hz])
  (fun _ _=>by
   refine⟨?_,by simp⟩;rw[xb];have:bcj.length=17:=rfl;simp[b90,stS,bts,this])
 rw[b0q]at h;exact h
def stN(s:LU)(S:LB)(i:Nat):St:={σ:=[(0,.v (.str (bs s))),(1,.v (.mapp 0)),(4,.l 4 0),(12,.v (ii (i:Int)))],own:=[],loc:=[(4,bts)],S:=S}
def nmB(c:UInt8):Bool:=b31 (bbd c)
theorem ck4(s:LU)(S:LB)(hs:s.length≤1000000):∀(k n:Nat),s.length≤n+k→n≤s.length →
  zc (xf run b9z) (stN s S n)=some (.exit 2,stN s S (n+((s.drop n).takeWhile nmB).length)):=by
 have hsz:(bs s).size=s.length:=zj s;have stop:zc (xf run b9z) (stN s S s.length)=some (.exit 2,stN s S s.length):=by
  refine xc ?_ (by simp);rw[xb];simp[b9z,stN,bts,hsz]
 intro k
 induction k with
 | zero=>
  intro n h hn;obtain rfl:n=s.length:=by omega
  have e:s.drop s.length=[]:=mh;rw[e];exact stop
 | succ k ih=>
  intro n h hn;by_cases hlt:n<s.length
  ·obtain⟨c,hc⟩:∃c,s[n]? = some c:=⟨s[n],cz hlt⟩;have h1:(n:Int)<(s.length:Int):=by omega
   have w:=bp7 (n:=n) (by omega);have g:(bs s)[n]? = some c:=by rw[bc6];exact hc
   have q1:=c121 c S;have q2:=c120 (bbd c) S;rw[bjr hc,sb];unfold nmB;cases hb:b31 (bbd c)
   ·rw[hb]at q2;refine xc (r:=(.exit 2,stN s S n)) ?_ (by simp);rw[xb];simp[-getElem?_pos,rZa,b9z,stN,bts,hsz,h1,g,q1,q2]
   ·rw[hb]at q2;have e:n+(c::(s.drop (n+1)).takeWhile nmB).length=(n+1)+((s.drop (n+1)).takeWhile nmB).length:=by simp;omega
    simp only[if_true];change _=some (AEx.exit 2,stN s S (n+(c::(s.drop (n+1)).takeWhile nmB).length));rw[e,← ih (n+1) (by omega) (by omega)];refine xq ?_;rw[xb];simp[-getElem?_pos,rZa,b9z,stN,bts,hsz,h1,g,q1,q2,w]
  ·obtain rfl:n=s.length:=by omega
   have e:s.drop s.length=[]:=mh;rw[e];exact stop
end Go.Av
namespace Go.Av
open Go Go.Proofs
theorem dq4(s:LU)(S:LB)(hs:s.length≤1000000){x:LU}(hx:(bcj.find? fun x=>x.isPrefixOf s)=some x) :
  run 67 [.str (bs s),.mapp 0] S=some (.ret (.tuple [brr 5 x,ii (x.length:Int)]) none,S):=by
 refine eqn rfl ?_;have h:=b1f s S hs;rw[hx]at h;simp only[stS,bm6,bts,cx,dd,Option.elim_some]at h;generalize bs s=B at *;unfold brr;simp (maxSteps:=1000000) [a67,h]
theorem dgr(r:LU)(S:LB)(hs:r.length≤100000)(hx:(bcj.find? fun x=>x.isPrefixOf (39::r))=none)(hq:bdr (39::r)=0) :
  run 67 [.str (bs (39::r)),.mapp 0] S=some (.ret (.tuple [bcr,ii 0]) none,S):=by
 refine eqn rfl ?_;have h:=b1f (39::r) S (by simp;omega);rw[hx]at h;simp only[stS,bm6,bts,cx,dd,mj]at h;have q:=c118 (39::r) S (by simp;omega);rw[hq]at q;have q2:=c119N S;have g:(bs (39::r))[0]? = some 39:=by rw[bc6];rfl
 have z:bs []=ByteArray.empty:=rfl;rw[z]at q2;generalize bs (39::r)=B at *;unfold bcr;unfold cst at q2;simp (maxSteps:=1000000) [-getElem?_pos,rZa,a67,h,q,q2,g]
theorem dgq(s mid:LU)(S:LB)(hs:s.length≤100000)(h0:s[0]? = some 39)(hx:(bcj.find? fun x=>x.isPrefixOf s)=none)(hq:bdr s=mid.length+2)(hm:bd9 mid=true)
  (ht:s.take (mid.length+2)=39::(mid++[39])) :
  run 67 [.str (bs s),.mapp 0] S=some (.ret (if bf7 mid then .tuple [brr 4 (39::(mid++[39])),ii ((mid.length+2:Nat):Int)] else .tuple [bcr,ii 0]) none,S):=by
 refine eqn rfl ?_;have h:=b1f s S (by omega);rw[hx]at h;simp only[stS,bm6,bts,cx,dd,mj]at h;have hl:mid.length+2≤s.length:=by
  have:=congrArg List.length ht;simp only[dp,cm,dh,ct]at this;omega
 have hz:(bs s).size=s.length:=zj s;have q:=c118 s S (by omega);rw[hq]at q;have q2:=c119Q mid S (by omega) hm;have g:(bs s)[0]? = some 39:=by rw[bc6];exact h0
 have ex:(bs s).extract 0 (mid.length+2)=bs (39::(mid++[39])):=by rw[bct,ht];rfl
 unfold df1 bgt cst at q2;unfold bcr brr;generalize bs (39::(mid++[39]))=T at *;generalize bs s=B at *;generalize bs (und mid)=U at *;have i1:((mid.length+2:Nat):Int)≤(s.length:Int):=by omega
 have i2:¬ ((mid.length+2:Nat):Int)=0:=by omega
 generalize hN:mid.length+2=N at *;have i3:N≠0:=by omega
 cases hok:bf7 mid<;>rw[hok]at q2<;>simp only[ck,if_false,if_true]at q2 ⊢
 ·simp (maxSteps:=1000000) [-getElem?_pos,rZa,a67,h,q,q2,g,ex,i1,i2,i3,hz]
 ·simp (maxSteps:=1000000) [-getElem?_pos,rZa,a67,h,q,q2,g,ex,i1,i2,i3,hz]
theorem cv3(c:UInt8):ddh c=bbd c:=by
 unfold ddh bbd upB;simp only[bp,decide_eq_true_eq]
theorem c122(l:LU)(S:LB)(hl:l.length≤1000000)(ha:∀b∈l,b.toNat<128):run 122 [.clos (.func 123) [] [],.str (bs l)] S=some (.ret (.str (bs (l.map bbd))) none,S):=by
 refine bqh (hh:=csv 123) rfl ?_;have e:l.map ddh=l.map bbd:=List.map_congr_left fun c _=>cv3 c
 simp only[csv,zj,bpc];rw[if_pos ⟨trivial,hl,cq.2 fun b hb=>by simpa using ha b hb⟩,e];rfl
theorem cq3{c:UInt8}(h:nmB c=true):c.toNat<128:=by
 unfold nmB at h;have:=b02 c;simp only[b31,c6f,cc9,upB,d8,bp,decide_eq_true_eq]at h this;split at this<;>omega
theorem b0x(s:LU)(p:UInt8→Bool):s.take (s.takeWhile p).length=s.takeWhile p:=by
 have h:=List.takeWhile_prefix (l:=s) p;exact(p9.1 h).symm
theorem dgp(s:LU)(S:LB)(hs:s.length≤100000)(c0:UInt8)(h0:s[0]? = some c0)(hc:c0≠39)(hx:(bcj.find? fun x=>x.isPrefixOf s)=none)(hn:s.takeWhile nmB=[]) :
  run 67 [.str (bs s),.mapp 0] S=some (.ret (.tuple [bcr,ii 0]) none,S):=by
 refine eqn rfl ?_;have h:=b1f s S (by omega);rw[hx]at h;simp only[stS,bm6,bts,cx,dd,mj]at h;have hl:=ck4 s S (by omega) s.length 0 (by omega) (by omega);rw[dj,hn]at hl;simp only[stN,bts,cx,dd,ct,jt]at hl;have q:=c122 [] S (by simp) (by simp);have g:(bs s)[0]? = some c0:=by rw[bc6];exact h0
 have z:bs []=ByteArray.empty:=rfl;simp only[cg]at q;rw[z]at q;have c39:¬ c0.toNat=39:=fun e=>hc (UInt8.toNat_inj.1 e)
 have c39i:¬ (c0.toNat:Int)=39:=by omega
 generalize bs s=B at *;unfold bcr;simp (maxSteps:=1000000) [-getElem?_pos,rZa,a67,h,hl,q,g,hc,c39,c39i]
def dq5(b:LU):AV:=if b∈bdd then .tuple [brr 1 b,ii (b.length:Int)] else if bfg b then .tuple [brr 2 b,ii (b.length:Int)] else .tuple [bcr,ii 0]
theorem dgk(s:LU)(hs:s.length≤100000)(c0:UInt8)(h0:s[0]? = some c0)(hc:c0≠39)(hd:cc9 c0=false)(hx:(bcj.find? fun x=>x.isPrefixOf s)=none)(n:Nat)(hn:(s.takeWhile nmB).length=n)(hn0:0<n) :
  run 67 [.str (bs s),.mapp 0] [bc1]=some (.ret (dq5 ((s.takeWhile nmB).map bbd)) none,[bc1]):=by
 refine eqn rfl ?_;have h:=b1f s [bc1] (by omega);rw[hx]at h;simp only[stS,bm6,bts,cx,dd,mj]at h;have hl:=ck4 s [bc1] (by omega) s.length 0 (by omega) (by omega);rw[dj,hn]at hl;simp only[stN,bts,cx,dd,dt]at hl;have hle:n≤s.length:=by rw[← hn];exact(pc _).length_le
 have q:=c122 (s.takeWhile nmB) [bc1] (by omega) (fun b hb=>cq3 (by
  have:=List.all_takeWhile (p:=nmB) (l:=s);rw[cq]at this;exact this b hb))
 have g:(bs s)[0]? = some c0:=by rw[bc6];exact h0
 have hz:(bs s).size=s.length:=zj s;have ex:(bs s).extract 0 n=bs (s.takeWhile nmB):=by rw[bct,dj,← hn,b0x]
 have c39:¬ c0.toNat=39:=fun e=>hc (UInt8.toNat_inj.1 e)
 have c39i:¬ (c0.toNat:Int)=39:=by omega
 have qd:=c124 c0 [bc1];rw[hd]at qd;have hb:((s.takeWhile nmB).map bbd).length=n:=by rw[mc];exact hn
 have qm:=b81 ((s.takeWhile nmB).map bbd) bdd;have qs:=c127 ((s.takeWhile nmB).map bbd) [bc1] (by omega);change b7q none bc1.cells _=_ at qm;have hm:bc1.map=true:=rfl;have i1:(n:Int)≤(s.length:Int):=by omega
 have i2:¬ (n:Int)=0:=by omega
 have i3:¬ n=0:=by omega
 unfold dq5;rw[hb];unfold bcr brr;generalize bs (s.takeWhile nmB)=X at *;generalize (s.takeWhile nmB).map bbd=b at *;generalize bs b=T at *;generalize bs s=B at *;generalize bc1=wb at *;by_cases hw:b∈bdd
 ·rw[if_pos hw]at qm ⊢;simp (maxSteps:=1000000) [-getElem?_pos,rZa,a67,h,hl,q,g,hc,c39,c39i,hz,ex,qd,qm,hm,i1,i2,i3,bd1,bvm]
 ·rw[if_neg hw]at qm ⊢;cases hf:bfg b
  ·rw[hf]at qs;simp (maxSteps:=1000000) [-getElem?_pos,rZa,a67,h,hl,q,g,hc,c39,c39i,hz,ex,qd,qm,qs,hm,i1,i2,i3,bd1,bvm]
  ·rw[hf]at qs;simp (maxSteps:=1000000) [-getElem?_pos,rZa,a67,h,hl,q,g,hc,c39,c39i,hz,ex,qd,qm,qs,hm,i1,i2,i3,bd1,bvm]
theorem dgm(s:LU)(S:LB)(hs:s.length≤100000)(c0:UInt8)(h0:s[0]? = some c0)(hc:c0≠39)(hd:cc9 c0=true)(hx:(bcj.find? fun x=>x.isPrefixOf s)=none)(n:Nat)(hn:(s.takeWhile nmB).length=n)(hn0:0<n)(b:LU)(hbb:(s.takeWhile nmB).map bbd=b) :
  run 67 [.str (bs s),.mapp 0] S=some (.ret (if dgf b then .tuple [brr 3 b,ii (n:Int)] else .tuple [bcr,ii 0]) none,S):=by
 refine eqn rfl ?_;have h:=b1f s S (by omega);rw[hx]at h;simp only[stS,bm6,bts,cx,dd,mj]at h;have hl:=ck4 s S (by omega) s.length 0 (by omega) (by omega);rw[dj,hn]at hl;simp only[stN,bts,cx,dd,dt]at hl;have hle:n≤s.length:=by rw[← hn];exact(pc _).length_le
 have q:=c122 (s.takeWhile nmB) S (by omega) (fun b hb=>cq3 (by
  have:=List.all_takeWhile (p:=nmB) (l:=s);rw[cq]at this;exact this b hb))
 have g:(bs s)[0]? = some c0:=by rw[bc6];exact h0
 have hz:(bs s).size=s.length:=zj s;have ex:(bs s).extract 0 n=bs (s.takeWhile nmB):=by rw[bct,dj,← hn,b0x]
 have c39:¬ c0.toNat=39:=fun e=>hc (UInt8.toNat_inj.1 e)
 have c39i:¬ (c0.toNat:Int)=39:=by omega
 have qd:=c124 c0 S;rw[hd]at qd;have hb:b.length=n:=by rw[← hbb,mc];exact hn
 rw[hbb]at q;have qp:=c125 b S (by omega);have i1:(n:Int)≤(s.length:Int):=by omega
 have i2:¬ (n:Int)=0:=by omega
 have i3:¬ n=0:=by omega
 unfold bcr brr dgf;rcases hr:Lib.atoiAll b with v | _ | _
 ·obtain⟨v0,v1⟩:=Lib.atoiAll_bounds hr;have qf:=c126 v v0 v1 S;have ea:bz2 259 (bs b)=.tuple [ii v,.niliface]:=by unfold bz2;rw[bpc,hr]
  rw[ea]at qp;by_cases hi:bc9 v=b
  ·rw[hi]at qf;generalize bs (s.takeWhile nmB)=X at *;generalize bs b=T at *;generalize bs s=B at *;simp (maxSteps:=1000000) [-getElem?_pos,rZa,a67,h,hl,q,g,hc,c39,c39i,hz,ex,qd,i1,i2,i3,qp,qf,hi]
  ·have tne:¬ (bs (bc9 v)).toList=(bs b).toList:=by rw[zm,zm];exact hi
   generalize bs (s.takeWhile nmB)=X at *;generalize bs (bc9 v)=I at *;generalize bs b=T at *;generalize bs s=B at *;simp (maxSteps:=1000000) [-getElem?_pos,rZa,a67,h,hl,q,g,hc,c39,c39i,hz,ex,qd,i1,i2,i3,qp,qf,hi,tne]
 ·have ea:bz2 259 (bs b)=.tuple [ii 0,.iface 259 (.sptr [])]:=by unfold bz2;rw[bpc,hr]
  rw[ea]at qp;generalize bs (s.takeWhile nmB)=X at *;generalize bs b=T at *;generalize bs s=B at *;simp (maxSteps:=1000000) [-getElem?_pos,rZa,a67,h,hl,q,g,hc,c39,c39i,hz,ex,qd,i1,i2,i3,qp]
 ·have ea:bz2 259 (bs b)=.tuple [ii (Lib.atoiSat b),.iface 259 (.sptr [])]:=by unfold bz2;rw[bpc,hr]
  rw[ea]at qp;generalize bs (s.takeWhile nmB)=X at *;generalize bs b=T at *;generalize bs s=B at *;simp (maxSteps:=1000000) [-getElem?_pos,rZa,a67,h,hl,q,g,hc,c39,c39i,hz,ex,qd,i1,i2,i3,qp]
theorem c0t:∀w∈bdd,∃c r,w=c::r∧c6f c=true:=by
 have h:bdd.all (fun w=>match w with | []=>false | c::_=>c6f c)=true:=by decide
 intro w hw;have:=cq.1 h w hw;cases w with
 | nil=>simp at this
 | cons c r=>exact⟨c,r,rfl,this⟩
theorem c9t{c:UInt8}(h:cc9 c=true):bbd c=c∧c6f c=false∧c≠39:=by
 simp only[cc9,bp,decide_eq_true_eq]at h;have hu:upB c=false:=by simp[upB];omega
 refine⟨by unfold bbd;rw[hu];rfl,by simp[c6f];omega,fun e=>?_⟩;have:=congrArg UInt8.toNat e;simp at this;omega
theorem c2z{c:UInt8}(h:cc9 c=false):cc9 (bbd c)=false:=by
 have hn:=b02 c;simp only[cc9,rc,decide_eq_false_iff_not]at h ⊢;split at hn
 ·rename_i hu;simp only[upB,bp,decide_eq_true_eq]at hu;omega
 ·omega
theorem cf9{p:LU→Bool}{s b:LU}(hh:¬ s.head? = some 39)(hb:(s.takeWhile nmB).map bbd=b)(hne:b≠[]) :
  bvj p s=if b∈bdd then some (1,b) else if bfg b then some (2,b) else if p b then some (3,b) else none:=by
 unfold bvj;rw[if_neg hh];have hb':(s.takeWhile fun c=>b31 (bbd c)).map bbd=b:=hb;simp only[hb'];rw[if_neg hne]
theorem c67(s:LU)(hs:s.length≤100000)(h0:s≠[]):run 67 [.str (bs s),.mapp 0] [bc1]=some (.ret (bx5 s) none,[bc1]):=by
 cases hx:bcj.find? fun x=>x.isPrefixOf s with
 | some x=>
  rw[dq4 s _ (by omega) hx];unfold bx5;rw[c4x hx]
 | none=>
  obtain⟨c0,r,rfl⟩:∃c r,s=c::r:=by cases s with | nil=>exact absurd rfl h0 | cons c r=>exact⟨c,r,rfl⟩
  by_cases hc:c0=39
  ·subst hc;by_cases hq:bdr (39::r)=0
   ·rw[dgr r _ (by simp at hs;omega) hx hq];have ho:bvj bj9 (39::r)=none:=by
     unfold bvj;rw[if_pos (show(39::r).head? = some 39 from rfl),if_pos hq]
    unfold bx5;rw[ho]
   ·obtain⟨mid,z,h1,h2,h3⟩:=bkp r.length 1 r (cj _) hq;have hq2:bdr (39::r)=mid.length+2:=by unfold bdr;simp only[vx,vm];omega
    have ht:(39::r).take (mid.length+2)=39::(mid++[39]):=by
     rw[jd,h1];have e:mid++39::z=(mid++[39])++z:=by simp
     rw[e,kg (by simp),dm (by simp)]
    rw[dgq _ mid _ (by omega) rfl hx hq2 h2 ht];have hm:dgv (39::(mid++[39]))=mid:=by unfold dgv;simp
    have ho:bvj bj9 (39::r)=if bf7 mid then some (4,39::(mid++[39])) else none:=by
     unfold bvj;rw[if_pos (show(39::r).head? = some 39 from rfl),if_neg hq,hq2,ht,hm]
    unfold bx5;rw[ho];cases bf7 mid
    ·simp
    ·simp;omega
  ·have hh:¬ (c0::r).head? = some 39:=by simp[hc]
   have e1:((c0::r).takeWhile fun c=>b31 (bbd c))=(c0::r).takeWhile nmB:=rfl;by_cases hn:(c0::r).takeWhile nmB=[]
   ·rw[dgp _ _ (by omega) c0 rfl hc hx hn];unfold bx5 bvj;rw[if_neg hh,e1,hn];simp only[cg,if_true];rw[hx];rfl
   ·obtain⟨t,ht⟩:∃t,(c0::r).takeWhile nmB=c0::t:=by
     rw[sb]at hn ⊢;split at hn
     ·rename_i h;rw[if_pos h];exact⟨_,rfl⟩
     ·exact absurd rfl hn
    have hne:((c0::r).takeWhile nmB).map bbd≠[]:=by rw[ht];simp
    have hpos:0<((c0::r).takeWhile nmB).length:=kj.2 hn;cases hd:cc9 c0 with
    | true=>
     obtain⟨d1,d2,d3⟩:=c9t hd;have hb:((c0::r).takeWhile nmB).map bbd=c0::t.map bbd:=by rw[ht,cr,d1]
     rw[dgm _ _ (by omega) c0 rfl hc hd hx _ rfl hpos _ hb];have hw:¬ (c0::t.map bbd)∈bdd:=fun hw=>by
      obtain⟨c,r',e,hl⟩:=c0t _ hw;simp only[gr]at e;rw[← e.1,d2]at hl;cases hl
     have hf:bfg (c0::t.map bbd)=false:=by simp[bfg,d2]
     have ho:=cf9 (p:=bj9) hh hb (by simp);rw[if_neg hw,hf]at ho;have hlen:((c0::r).takeWhile nmB).length=(c0::t.map bbd).length:=by rw[ht];simp
     unfold bx5;rw[ho,hlen];simp only[ck,if_false,bj9,hd,kf];cases dgf (c0::t.map bbd)<;>simp
    | false=>
     rw[dgk _ (by omega) c0 rfl hc hd hx _ rfl hpos];have hb:((c0::r).takeWhile nmB).map bbd=bbd c0::t.map bbd:=by rw[ht,cr]
     have hp:bj9 (bbd c0::t.map bbd)=false:=by simp[bj9,c2z hd]
     have ho:=cf9 (p:=bj9) hh hb (by simp);rw[hp]at ho;unfold bx5 dq5;rw[ho,hb];generalize bbd c0::t.map bbd=b;by_cases hw:b∈bdd
     ·rw[if_pos hw,if_pos hw]
     ·rw[if_neg hw,if_neg hw];cases bfg b<;>simp
end Go.Av
