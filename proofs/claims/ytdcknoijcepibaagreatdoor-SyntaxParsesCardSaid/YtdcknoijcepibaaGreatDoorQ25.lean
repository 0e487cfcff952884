/- Part of syntax_parses. -/
import Derived.Test.YtdcknoijcepibaaGreatDoorQ19
import Derived.Test.YtdcknoijcepibaaGreatDoorQ20
import Derived.Test.YtdcknoijcepibaaGreatDoorQ24
set_option linter.unusedSimpArgs false
set_option linter.unusedVariables false
set_option maxRecDepth 1000000
set_option maxHeartbeats 16000000
namespace Go.Av
open Go Go.Proofs Go.RowKit
theorem dfs{W:World}(hL:LaidV W)(f:Nat):bb0 Tryz.prog W f (bbf f):=cf2.1 (bs0 (ct3 hL)) f
mutual
theorem Nd.fit_of:∀n:Nd,n.small→n.fit
 | .mk _ text _ _ _ args query=>fun h=>by
  simp only[Nd.small]at h;simp only[Nd.fit,bph];exact⟨by omega,by omega,by omega,bjp args h.2.2.2.1,bxx query h.2.2.2.2⟩
theorem bjp:∀l:List Nd,bdg l→bj6 l
 | []=>fun _=>by simp only[bj6]
 | n::r=>fun h=>by
  simp only[bdg]at h;simp only[bj6];exact⟨Nd.fit_of n h.1,bjp r h.2⟩
theorem It.fit_of:∀n:It,n.small→n.fit
 | .mk _ table expr as'=>fun h=>by
  simp only[It.small]at h;simp only[It.fit,bph];exact⟨by omega,by omega,by omega,bjp expr h.2.2.2⟩
theorem cg6:∀l:List It,bh9 l→bzj l
 | []=>fun _=>by simp only[bzj]
 | n::r=>fun h=>by
  simp only[bh9]at h;simp only[bzj];exact⟨It.fit_of n h.1,cg6 r h.2⟩
theorem Sr.fit_of:∀n:Sr,n.small→n.fit
 | .mk _ name as' query ins on=>fun h=>by
  simp only[Sr.small]at h;simp only[Sr.fit,bph];exact⟨by omega,by omega,by omega,by omega,by omega,bxx query h.2.2.2.2.2.1,b41 ins h.2.2.2.2.2.2.1,bjp on h.2.2.2.2.2.2.2⟩
theorem b41:∀l:List Sr,bhd l→bt0 l
 | []=>fun _=>by simp only[bt0]
 | n::r=>fun h=>by
  simp only[bhd]at h;simp only[bt0];exact⟨Sr.fit_of n h.1,b41 r h.2⟩
theorem b8h:∀l:List (List Nd),bgv l→bqg l
 | []=>fun _=>by simp only[bqg]
 | n::r=>fun h=>by
  simp only[bgv]at h;simp only[bqg,bph];exact⟨⟨by omega,bjp n h.1.2⟩,b8h r h.2⟩
theorem Bd.fit_of:∀b:Bd,b.small→b.fit
 | .mk _ _ _ items frm whr group having rows ins=>fun h=>by
  simp only[Bd.small]at h;obtain⟨⟨h1,h2,h3,h4,h5,h6,h7⟩,k1,k2,k3,k4,k5,k6,k7⟩:=h;simp only[Bd.fit,bph];exact⟨⟨by omega,by omega,by omega,by omega,by omega,by omega,by omega⟩,cg6 items k1,b41 frm k2,bjp whr k3,bjp group k4,bjp having k5,b8h rows k6,bxx ins k7⟩
theorem Qr.fit_of:∀q:Qr,q.small→q.fit
 | .mk body keys _ _=>fun h=>by
  simp only[Qr.small]at h;simp only[Qr.fit,bph];exact⟨Bd.fit_of body h.1,by omega,fun k hk=>by have:=h.2.2 k hk;omega⟩
theorem bxx:∀l:List Qr,bg2 l→brx l
 | []=>fun _=>by simp only[brx]
 | n::r=>fun h=>by
  simp only[bg2]at h;simp only[brx];exact⟨Qr.fit_of n h.1,bxx r h.2⟩
end
theorem b0s{q:Qr}(hs:q.sht)(h:szQ q≤20000):rH 14 [q.av] [] q.av []∧q.small:=by
 have e:=dd5 hs h;have s:=cj4 q;rw[e]at s;have t:=c14 q (Qr.fit_of q s);rw[e]at t;exact⟨t,s⟩
theorem bxd:Qr.zero.sht∧szQ Qr.zero≤20000:=by
 simp[Qr.zero,Bd.zero,Qr.sht,Bd.sht,szQ,szB,c0j,cfh,bhz,c0h,brf,br4,bj5,bbp,bkv,bck]
theorem cvg{s:LU}(hs:s.length≤4002):(bk0 s).1.sht∧szQ (bk0 s).1≤20000:=by
 unfold bk0;split
 ·exact bxd
 ·rename_i hb;cases ht:brq s with
  | none=>exact bxd
  | some l=>
   obtain⟨G,hl⟩:=bvb (by omega) ht;dsimp only;cases hr:b49 l with
   | none=>exact bxd
   | some q=>
    obtain⟨h1,h2⟩:=c3t G hr;exact⟨h1,by dsimp only;omega⟩
theorem lf91{p:Prop}(h:p:=by simp[-getElem?_pos,a8, *]):p:=h
theorem c8(s:LU)(hs:s.length≤9223372036854775807):rH 8 [.str (bs s)] [] (.str (bs (s.take 4002))) []:=by
 have hsz:(bs s).size=s.length:=zj s;refine xh rfl ?_;by_cases h:s.length≤4002
 ·have h1:(s.length:Int)≤4002:=by omega
  have h2:min (s.length:Int) 4002=(s.length:Int):=by omega
  have e:s.take 4002=s:=dm h;rw[e];have e2:(bs s).extract 0 s.length=bs s:=by rw[bct];simp
  exact lf91
 ·have h1:¬ (s.length:Int)≤4002:=by omega
  have h2:min (s.length:Int) 4002=4002:=by omega
  have h3:(4002:Int)≤(s.length:Int):=by omega
  have h4:4002≤s.length:=by omega
  have e2:(bs s).extract 0 4002=bs (s.take 4002):=by rw[bct];simp
  exact lf91
theorem css:Qr.zero.small:=(b0s bxd.1 bxd.2).2
theorem c11(q:Qr)(hs:q.sht)(h:szQ q≤20000):rH 11 [q.av] [] (.bool (eqQ q Qr.zero)) []:=by
 obtain⟨t,sm⟩:=b0s hs h;have e:=c13 q Qr.zero sm css [];generalize eqQ q Qr.zero=E at *;refine xh rfl ?_;obtain⟨⟨c0,c1,c2,i3,i4,i5,i6,i7,i8,i9⟩,ks,l,o⟩:=q;simp only[Qr.av,Bd.cells,rZd,Qr.zero,Bd.zero,bbg,zt,xd,zr,zb,cg]at *;simp[-getElem?_pos,rZa,a11,t,e,xg]
theorem cvf(s:LU):(bk0 s).2=0∨(bk0 s).1=Qr.zero∧(bk0 s).2≠0:=by
 unfold bk0;split
 ·exact .inr ⟨rfl,by decide⟩
 ·cases brq s with
  | none=>exact .inr ⟨rfl,by decide⟩
  | some l=>
   dsimp only;cases b49 l with
   | none=>exact .inr ⟨rfl,by decide⟩
   | some q=>exact .inl rfl
theorem lf92{p:Prop}(h:p:=by simp[-getElem?_pos,rZa,a3,xg, *]):p:=h
theorem c3(s:LU)(hs:s.length≤9223372036854775807):rH 3 [.str (bs s)] [] (.bool true) []:=by
 have k:=c8 s hs;have hl:(s.take 4002).length≤4002:=by simp;omega
 generalize s.take 4002=t at *;have p:=c9 t;have r:=c10 t;obtain⟨b1,b2⟩:=cvg hl;obtain⟨th,sm⟩:=b0s b1 b2;have nn:=c11 _ b1 b2;have sa:=c13 _ _ sm sm [];rw[cc6]at sa;have aw:=awake2;rcases cvf t with h0 | ⟨h1,h2⟩
 ·rw[h0]at p r;clear nn h0;generalize (bk0 t).1=q at *;refine xh rfl ?_;obtain⟨⟨c0,c1,c2,i3,i4,i5,i6,i7,i8,i9⟩,ks,l,o⟩:=q;simp only[Qr.av,Bd.cells,rZd]at *;clear b1 b2 sm;exact lf92
 ·rw[h1]at p r nn;rw[cc6]at nn;generalize (bk0 t).2=E at *;refine xh rfl ?_;simp only[Qr.av,Bd.cells,rZd,Qr.zero,Bd.zero,bbg,zt,xd,zr,zb,cg]at *;clear b1 b2 sm th sa;exact lf92
theorem law3:cpr Tryz.prog 3 Tryz.f3.params.toList LaidV:=
 cv7 fun W hW=>⟨_,dfs hW 3,fun args hl hty=>by
  rw[Tryz.params3]at hl hty
  match args,hl with
  | [a],_=>
   obtain⟨s,rfl,hs⟩:=(hty 0 _ a rfl rfl).str_inv Tryz.underlying9;refine⟨[],none,?_⟩;rw[dtb s];exact c3 s.data.toList (by have:s.data.toList.length=s.size:=rfl;simp only[maxLen]at hs;omega)⟩
end Go.Av
