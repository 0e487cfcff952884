/- Part of syntax_parses. -/
import Derived.Test.YtdcknoijcepibaaGreatDoorQ9
import Derived.Test.YtdcknoijcepibaaGreatDoorQ8
set_option linter.unusedSimpArgs false
set_option linter.unusedVariables false
set_option maxRecDepth 100000
set_option maxHeartbeats 16000000
namespace Go.Av
open Go Go.Proofs
theorem cmm{n:Int}(h:0≤n)(h1:n<10):bc9 n=[UInt8.ofNat (48+n.toNat)]:=by
 rw[bk4 h,Lib.decDigits,dif_pos (by omega)]
theorem c8f{n:Int}(h:10≤n):bc9 n=bc9 (n / 10)++[UInt8.ofNat (48+n.toNat % 10)]:=by
 rw[bk4 (by omega),bk4 (by omega),Lib.decDigits,dif_neg (by omega)];rw[show(n / 10).toNat=n.toNat / 10 by omega]
theorem b51{m:Nat}(h:1≤m):bc9 (-(m:Int))=45::Lib.decDigits m:=by
 unfold bc9;rw[if_pos (by omega)];simp
theorem chq{v:Int}(h0:0≤v)(h1:v<256):bsf [.int .u8 v]=some [UInt8.ofNat v.toNat]:=by
 simp[bsf,h0,h1]
theorem wr8{v:Int}(h0:0≤v)(h1:v<256):IntKind.wrap .u8 v=v:=by
 simp[IntKind.wrap,IntKind.bits,IntKind.signed];omega
theorem c57:∀(k:Nat) (n:Int) (S:LB),n.natAbs≤k→n.natAbs≤9223372036854775808→n≤9223372036854775807→run 57 [ii n] S=some (.ret (.str (bs (bc9 n))) none,S):=by
 intro k
 induction k using Nat.strongRecOn with
 | _ k ih=>
  intro n S hk hn hn1;refine eqn rfl ?_;have e45:(⟨#[45]⟩:ByteArray)=bs [45]:=rfl;by_cases h0:n<0
  ·obtain⟨m,rfl⟩:∃m:Nat,n=-(m:Int):=⟨n.natAbs,by omega⟩;have hm:1≤m:=by omega
   have e1:(-(m:Int)).tmod 10=-((m % 10:Nat):Int):=by rw[Int.neg_tmod];rfl
   have e2:IntKind.wrap .i64 (48 - -((m % 10:Nat):Int))=((48+m % 10:Nat):Int):=by rw[b72 (by omega) (by omega)];omega
   have e3:IntKind.wrap .u8 ((48+m % 10:Nat):Int)=((48+m % 10:Nat):Int):=wr8 (by omega) (by omega);have e4:=chq (v:=((48+m % 10:Nat):Int)) (by omega) (by omega);rw[Int.toNat_natCast]at e4;have e4':(⟨([UInt8.ofNat (48+m % 10)]:LU).toArray⟩:ByteArray)=bs [UInt8.ofNat (48+m % 10)]:=rfl;have hlen1:(2:Nat)≤9223372036854775807:=by omega
   by_cases h10:m<10
   ·have hi:bc9 (-(m:Int))=[45,UInt8.ofNat (48+m % 10)]:=by
     rw[b51 hm,Lib.decDigits,dif_pos h10,Nat.mod_eq_of_lt h10]
    have g1:(-(m:Int)) > -10:=by omega
    have g1':(-10:Int) < -(m:Int):=by omega
    rw[hi];generalize (-((m % 10:Nat):Int))=t at *;generalize UInt8.ofNat (48+m % 10)=c at *;generalize ((48+m % 10:Nat):Int)=v at *;generalize (-(m:Int))=n at *;simp[a57,h0,e1,e2,e3,e4,g1,g1',e45,e4',bdm,zj]
   ·have hi:bc9 (-(m:Int))=bc9 (-((m / 10:Nat):Int))++[UInt8.ofNat (48+m % 10)]:=by
     rw[b51 hm,b51 (by omega),Lib.decDigits,dif_neg h10];rfl
    have g1':¬ (-10:Int) < -(m:Int):=by omega
    have e5:(-(m:Int)).tdiv 10=-((m / 10:Nat):Int):=by rw[Int.neg_tdiv];rfl
    have e6:IntKind.wrap .i64 (-((m / 10:Nat):Int))=-((m / 10:Nat):Int):=b72 (by omega) (by omega);have q:=ih (m / 10) (by omega) (-((m / 10:Nat):Int)) S (by omega) (by omega) (by omega);have hl:=cg7 (n:=-((m / 10:Nat):Int)) (by omega) (by omega);rw[hi];generalize bc9 (-((m / 10:Nat):Int))=L at *;generalize (-((m / 10:Nat):Int))=n2 at *;generalize (-((m % 10:Nat):Int))=t at *;generalize UInt8.ofNat (48+m % 10)=c at *;generalize ((48+m % 10:Nat):Int)=v at *;generalize (-(m:Int))=n at *;have s1:L.length+1≤9223372036854775807:=by omega
    simp[a57,h0,e1,e2,e3,e4,e4',e5,e6,g1',q,bdm,zj,s1]
  ·have e1:n.tmod 10=n % 10:=Int.tmod_eq_emod_of_nonneg (by omega);have e2:IntKind.wrap .i64 (48+n % 10)=48+n % 10:=b72 (by omega) (by omega);have e3:IntKind.wrap .u8 (48+n % 10)=48+n % 10:=wr8 (by omega) (by omega);have e4:=chq (v:=48+n % 10) (by omega) (by omega);have e4':(⟨([UInt8.ofNat (48+n % 10).toNat]:LU).toArray⟩:ByteArray)=bs [UInt8.ofNat (48+n % 10).toNat]:=rfl;by_cases h10:n<10
   ·have hi:bc9 n=[UInt8.ofNat (48+n % 10).toNat]:=by
     rw[cmm (by omega) h10];congr 2;omega
    rw[hi];generalize UInt8.ofNat (48+n % 10).toNat=c at *;generalize hv:48+n % 10=v at *;generalize hu:n % 10=u at *;simp[a57,h0,h10,e1,hv,e2,e3,e4,e4']
   ·have hi:bc9 n=bc9 (n / 10)++[UInt8.ofNat (48+n % 10).toNat]:=by
     rw[c8f (by omega)];congr 3;omega
    have e5:n.tdiv 10=n / 10:=Int.tdiv_eq_ediv_of_nonneg (by omega);have e6:IntKind.wrap .i64 (n / 10)=n / 10:=b72 (by omega) (by omega);have q:=ih (n / 10).natAbs (by omega) (n / 10) S (by omega) (by omega) (by omega);have hl:=cg7 (n:=n / 10) (by omega) (by omega);rw[hi];generalize bc9 (n / 10)=L at *;generalize UInt8.ofNat (48+n % 10).toNat=c at *;generalize hv:48+n % 10=v at *;generalize hu:n % 10=u at *;generalize n / 10=n2 at *;have s1:L.length+1≤9223372036854775807:=by omega
    simp[a57,h0,h10,e1,hv,e2,e3,e4,e4',e5,e6,q,bdm,zj,s1]
end Go.Av
namespace Go.Av
open Go Go.Proofs
def cjz(n:Int):Int:=IntKind.wrap .i64 n
theorem cjx(n:Int):-9223372036854775808≤cjz n∧cjz n≤9223372036854775807:=by
 unfold cjz;constructor<;>(simp[IntKind.wrap,IntKind.bits,IntKind.signed];omega)
def bk1(n:Int)(c:UInt8):Int:=if 48≤c.toNat∧c.toNat≤57 then cjz (cjz (n*10) - ((c.toNat:Int) - 48)) else n
def bc0(s:LU):Int:=s.foldl bk1 0
theorem cck{n:Int}(h:-9223372036854775808≤n∧n≤9223372036854775807)(c:UInt8):-9223372036854775808≤bk1 n c∧bk1 n c≤9223372036854775807:=by
 unfold bk1;split
 ·exact cjx _
 ·exact h
theorem bmv:∀(s:LU) (n:Int),(-9223372036854775808≤n∧n≤9223372036854775807)→-9223372036854775808≤s.foldl bk1 n∧s.foldl bk1 n≤9223372036854775807
 | [],n,h=>h
 | c::s,n,h=>bmv s _ (cck h c)
def bhk(s:LU):Option Int:=
 if s.length=0∨20<s.length then none
 else if bc9 (bc0 s)=s then some (bc0 s)
 else if bc0 s≠-9223372036854775808∧bc9 (-bc0 s)=s then some (-bc0 s)
 else none
def dp7(s:LU)(S:LB)(n:Int)(i:Nat):St:={σ:=[(0,.v (.str (bs s))),(4,.v (ii n)),(5,.v (ii i))],own:=[],loc:=[],S:=S}
def numE(s:LU):AV:=match bhk s with
 | some n=>.tuple [.int .i64 n,.bool true]
 | none=>.tuple [.int .i64 0,.bool false]
theorem c88(s:LU)(S:LB)(hs:s.length≤1000000):run 88 [.str (bs s)] S=some (.ret (numE s) none,S):=by
 refine eqn rfl ?_;unfold numE bhk;by_cases h0:s.length=0∨20<s.length
 ·rw[if_pos h0];rcases h0 with h0 | h0
  ·simp[a88,zj,h0]
  ·have h0':¬ s.length=0:=by omega
   have h0z:¬ (s.length:Int)=0:=by omega
   have h1:(20:Int)<(s.length:Int):=by omega
   simp[a88,zj,h0,h0',h0z,h1]
 ·rw[if_neg h0];have h0':¬ s.length=0:=by omega
  have h0z:¬ (s.length:Int)=0:=by omega
  have h1':¬ 20<s.length:=by omega
  have h1:¬ (20:Int)<(s.length:Int):=by omega
  have h:=c6g (f:=xf run b6r) s (fun n i=>dp7 s S n i) bk1 (fun n=>(.exit 0,{σ:=[(0,.v (.str (bs s))),(4,.v (ii n))],own:=[],loc:=[],S:=S})) (fun _ _=>True) (b0:=0) trivial
   (fun i n c _ hx=>by
    have hlt:=(cf.1 hx).1;have h2:=ilt hx;have w:=bp7 (n:=i) (by omega);have hc:=c.toNat_lt;refine⟨?_,trivial⟩;unfold bk1;by_cases c1:48≤c.toNat
    ·by_cases c2:c.toNat≤57
     ·have c1':(48:Int)≤c.toNat:=by omega
      have c2':(c.toNat:Int)≤57:=by omega
      have e1:IntKind.wrap .u8 ((c.toNat:Int) - 48)=(c.toNat:Int) - 48:=wr8 (by omega) (by omega);have e2:IntKind.wrap .i64 ((c.toNat:Int) - 48)=(c.toNat:Int) - 48:=b72 (by omega) (by omega);rw[if_pos ⟨c1,c2⟩,xb];simp[-getElem?_pos,b6r,dp7,zj,bc6,hx,h2,c1',c2',e1,e2,cjz,w]
     ·have c1':(48:Int)≤c.toNat:=by omega
      have c2':¬ (c.toNat:Int)≤57:=by omega
      rw[if_neg (by omega),xb];simp[-getElem?_pos,b6r,dp7,zj,bc6,hx,h2,c1',c2',w]
    ·have c1':¬ (48:Int)≤c.toNat:=by omega
     rw[if_neg (by omega),xb];simp[-getElem?_pos,b6r,dp7,zj,bc6,hx,h2,c1',w])
   (fun n _=>by
    rw[xb];simp[b6r,dp7,zj])
   (fun _=>by simp)
  have hr:=bmv s 0 (by omega);change zc (xf run b6r) (dp7 s S 0 0)=some (.exit 0,{σ:=[(0,.v (.str (bs s))),(4,.v (ii (bc0 s)))],own:=[],loc:=[],S:=S}) at h;change -9223372036854775808≤bc0 s∧bc0 s≤9223372036854775807 at hr;have q1:=c57 (bc0 s).natAbs (bc0 s) S (cj _) (by omega) (by omega);simp only[dp7,cx,dd]at h;by_cases e1:bc9 (bc0 s)=s
  ·rw[if_pos e1];rw[e1]at q1;generalize bc0 s=n at *;simp[a88,zj,zm,h0',h0z,h1,h1',h,q1]
  ·rw[if_neg e1];by_cases e2:bc0 s=-9223372036854775808
   ·rw[if_neg (fun h=>h.1 e2)];generalize bc9 (bc0 s)=I at *;rw[e2]at q1 h;simp[a88,zj,zm,h0',h0z,h1,h1',h,q1,e1]
   ·have q2:=c57 (-bc0 s).natAbs (-bc0 s) S (cj _) (by omega) (by omega);have w2:IntKind.wrap .i64 (-bc0 s)=-bc0 s:=b72 (by omega) (by omega);have w3:IntKind.wrap .i64 (0 - bc0 s)=-bc0 s:=by rw[b72 (by omega) (by omega)];omega
    generalize bc9 (bc0 s)=I at *;by_cases e3:bc9 (-bc0 s)=s
    ·rw[if_pos ⟨e2,e3⟩];rw[e3]at q2;generalize hm:-bc0 s=m at *;generalize bc0 s=n at *;simp[a88,zj,zm,h0',h0z,h1,h1',h,q1,q2,w2,w3,e1,e2,hm]
    ·rw[if_neg (fun h=>e3 h.2)];generalize bc9 (-bc0 s)=I2 at *;generalize hm:-bc0 s=m at *;generalize bc0 s=n at *;simp[a88,zj,zm,h0',h0z,h1,h1',h,q1,q2,w2,w3,e1,e2,e3,hm]
theorem b8t:∀(l:LU) (a:Nat),(∀c∈l,b7x c)→l.foldl (fun a c=>a*10+(c.toNat - 48)) a<9223372036854775808→l.foldl bk1 (-(a:Int))=-((l.foldl (fun a c=>a*10+(c.toNat - 48)) a:Nat):Int)
 | [],a,_,_=>rfl
 | c::l,a,hd,hv=>by
  have hc:=hd c (.head _);unfold b7x at hc;have grow:∀(l:LU) (a:Nat),a≤l.foldl (fun a c=>a*10+(c.toNat - 48)) a:=by
   intro l
   induction l with
   | nil=>intro a;exact cj _
   | cons c l ih=>intro a;rw[jv];exact dg (by omega) (ih _)
  rw[jv]at hv;rw[jv,jv];have:=grow l (a*10+(c.toNat - 48));have e:bk1 (-(a:Int)) c=-((a*10+(c.toNat - 48):Nat):Int):=by
   unfold bk1 cjz;have w1:IntKind.wrap .i64 (-(a:Int)*10)=-(a:Int)*10:=b72 (by omega) (by omega);rw[if_pos hc,w1,b72 (by omega) (by omega)];omega
  rw[e];exact b8t l _ (fun c hc=>hd c (.tail _ hc)) hv
theorem cvq{n:Int}(h0:0≤n)(h1:n≤9223372036854775807):bhk (bc9 n)=some n:=by
 obtain⟨hne,hd⟩:=bkg n.toNat;have hv:=btb n.toNat;have hl:=bkf 19 n.toNat (by omega);have hnv:bc0 (bc9 n)=-n:=by
  rw[bk4 h0];have:=b8t (Lib.decDigits n.toNat) 0 hd (by unfold bzs at hv;rw[hv];omega);unfold bzs at hv;rw[hv]at this;unfold bc0;simp at this;rw[this];omega
 have hlen:(bc9 n).length≠0∧(bc9 n).length≤20:=by
  rw[bk4 h0];exact⟨by simpa using hne,hl⟩
 unfold bhk;rw[if_neg (by omega),hnv];by_cases hz:n=0
 ·subst hz;simp
 ·rw[if_neg (fun e=>by have:=c8d e;omega),if_pos ⟨by omega,by rw[Int.neg_neg]⟩];simp
theorem b8s{s:LU}{n:Int}(h:bhk s=some n):bc9 n=s:=by
 unfold bhk at h;split at h
 ·cases h
 ·split at h
  ·rename_i e;obtain rfl:=bf h;exact e
  ·split at h
   ·rename_i e;obtain rfl:=bf h;exact e.2
   ·cases h
end Go.Av
