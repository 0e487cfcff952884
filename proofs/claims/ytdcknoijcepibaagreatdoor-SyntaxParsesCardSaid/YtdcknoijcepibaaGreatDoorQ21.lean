/- Part of syntax_parses. -/
import Derived.Test.YtdcknoijcepibaaGreatDoorQ19
set_option linter.unusedVariables false
set_option maxHeartbeats 16000000
namespace Go.Av
open Go
mutual
def szN:Nd→Nat
 | .mk op text num no dis args query=>bhz args+brf query
def bhz:List Nd→Nat
 | []=>0
 | n::r=>1+szN n+bhz r
def szI:It→Nat
 | .mk star table expr as'=>bhz expr
def c0j:List It→Nat
 | []=>0
 | n::r=>1+szI n+c0j r
def szS:Sr→Nat
 | .mk op name as' query ins on=>brf query+cfh ins+bhz on
def cfh:List Sr→Nat
 | []=>0
 | n::r=>1+szS n+cfh r
def c0h:List (List Nd)→Nat
 | []=>0
 | n::r=>1+bhz n+c0h r
def szB:Bd→Nat
 | .mk op all dis items frm whr group having rows ins=>c0j items+cfh frm+bhz whr+bhz group+bhz having+c0h rows+brf ins
def szQ:Qr→Nat
 | .mk body keys limit offset=>szB body+keys.length
def brf:List Qr→Nat
 | []=>0
 | n::r=>1+szQ n+brf r
end
mutual
def Nd.sht:Nd→Prop
 | .mk op text num no dis args query=>text.length≤210∧bbp args∧bck query
def bbp:List Nd→Prop
 | []=>True
 | n::r=>n.sht∧bbp r
def It.sht:It→Prop
 | .mk star table expr as'=>table.length≤210∧bbp expr∧as'.length≤210
def br4:List It→Prop
 | []=>True
 | n::r=>n.sht∧br4 r
def Sr.sht:Sr→Prop
 | .mk op name as' query ins on=>name.length≤210∧as'.length≤210∧bck query∧bj5 ins∧bbp on
def bj5:List Sr→Prop
 | []=>True
 | n::r=>n.sht∧bj5 r
def bkv:List (List Nd)→Prop
 | []=>True
 | n::r=>bbp n∧bkv r
def Bd.sht:Bd→Prop
 | .mk op all dis items frm whr group having rows ins=>br4 items∧bj5 frm∧bbp whr∧bbp group∧bbp having∧bkv rows∧bck ins
def Qr.sht:Qr→Prop
 | .mk body keys limit offset=>body.sht∧∀k∈keys,k.name.length≤210
def bck:List Qr→Prop
 | []=>True
 | n::r=>n.sht∧bck r
end
theorem ct2{s:LU}(h:s.length≤210):sh s=s:=dm h
theorem cvz{L:Int}{k:Nat}(h1:(k:Int)+1≤L)(h2:L≤20000):0≤ms L∧ms L=L - 1:=by
 have e:ms L=L - 1:=by
  unfold ms;have:=bp7 (n:=(L - 2).toNat) (by omega);rcases Int.lt_or_le L 2 with h | h
  ·have:L=1:=by omega
   subst this;decide
  ·have e:((L - 2).toNat:Int)+1=L - 1:=by omega
   rwa [e]at this
 exact⟨by omega,e⟩
theorem c1j:∀(l:List Ky) (L:Int),(∀k∈l,k.name.length≤210)→(l.length:Int)≤L→L≤20000→ctc l L=(l,L - l.length)
 | [],L,_,_,_=>by simp[ctc]
 | k::r,L,hs,hl,h2=>by
  have hl':(r.length:Int)+1≤L:=by simpa using hl
  obtain⟨h0,e⟩:=cvz hl' h2;rw[ctc,if_pos h0,e,c1j r (L - 1) (fun k hk=>hs k (.tail _ hk)) (by omega) (by omega),ct2 (hs k (.head _))];have:L - 1 - (r.length:Int)=L - ((k::r).length:Int):=by simp;omega
  simp[this]
mutual
theorem thN_id:∀(n:Nd) (L:Int),n.sht→(szN n:Int)≤L→L≤20000→thN n L=(n,L - szN n)
 | .mk op text num no dis args query,L,hs,hl,h2=>by
  simp only[Nd.sht]at hs;simp only[szN]at hl ⊢;obtain⟨h1,h3,h4⟩:=hs;simp only[thN];rw[brs args L h3 (by omega) h2];simp only;rw[cbr query _ h4 (by omega) (by omega),ct2 h1];simp only[bq,true_and];omega
theorem brs:∀(l:List Nd) (L:Int),bbp l→(bhz l:Int)≤L→L≤20000→btv l L=(l,L - bhz l)
 | [],L,_,_,_=>by simp[btv,bhz]
 | n::r,L,hs,hl,h2=>by
  simp only[bbp]at hs;simp only[bhz]at hl ⊢;obtain⟨h0,e⟩:=cvz (k:=0) (L:=L) (by omega) h2;rw[btv,if_pos h0,e];simp only;rw[thN_id n (L - 1) hs.1 (by omega) (by omega)];simp only;rw[brs r _ hs.2 (by omega) (by omega)];simp only[bq,true_and];omega
theorem thI_id:∀(n:It) (L:Int),n.sht→(szI n:Int)≤L→L≤20000→thI n L=(n,L - szI n)
 | .mk star table expr as',L,hs,hl,h2=>by
  simp only[It.sht]at hs;simp only[szI]at hl ⊢;obtain⟨h1,h3,h4⟩:=hs;simp only[thI];rw[brs expr L h3 (by omega) h2,ct2 h1,ct2 h4]
theorem c1k:∀(l:List It) (L:Int),br4 l→(c0j l:Int)≤L→L≤20000→cp4 l L=(l,L - c0j l)
 | [],L,_,_,_=>by simp[cp4,c0j]
 | n::r,L,hs,hl,h2=>by
  simp only[br4]at hs;simp only[c0j]at hl ⊢;obtain⟨h0,e⟩:=cvz (k:=0) (L:=L) (by omega) h2;rw[cp4,if_pos h0,e];simp only;rw[thI_id n (L - 1) hs.1 (by omega) (by omega)];simp only;rw[c1k r _ hs.2 (by omega) (by omega)];simp only[bq,true_and];omega
theorem thS_id:∀(n:Sr) (L:Int),n.sht→(szS n:Int)≤L→L≤20000→thS n L=(n,L - szS n)
 | .mk op name as' query ins on,L,hs,hl,h2=>by
  simp only[Sr.sht]at hs;simp only[szS]at hl ⊢;obtain⟨h1,h3,h4,h5,h6⟩:=hs;simp only[thS];rw[cbr query L h4 (by omega) h2];simp only;rw[cj5 ins _ h5 (by omega) (by omega)];simp only;rw[brs on _ h6 (by omega) (by omega),ct2 h1,ct2 h3];simp only[bq,true_and];omega
theorem cj5:∀(l:List Sr) (L:Int),bj5 l→(cfh l:Int)≤L→L≤20000→cd5 l L=(l,L - cfh l)
 | [],L,_,_,_=>by simp[cd5,cfh]
 | n::r,L,hs,hl,h2=>by
  simp only[bj5]at hs;simp only[cfh]at hl ⊢;obtain⟨h0,e⟩:=cvz (k:=0) (L:=L) (by omega) h2;rw[cd5,if_pos h0,e];simp only;rw[thS_id n (L - 1) hs.1 (by omega) (by omega)];simp only;rw[cj5 r _ hs.2 (by omega) (by omega)];simp only[bq,true_and];omega
theorem c1g:∀(l:List (List Nd)) (L:Int),bkv l→(c0h l:Int)≤L→L≤20000→cp3 l L=(l,L - c0h l)
 | [],L,_,_,_=>by simp[cp3,c0h]
 | n::r,L,hs,hl,h2=>by
  simp only[bkv]at hs;simp only[c0h]at hl ⊢;obtain⟨h0,e⟩:=cvz (k:=0) (L:=L) (by omega) h2;rw[cp3,if_pos h0,e];simp only;rw[brs n (L - 1) hs.1 (by omega) (by omega)];simp only;rw[c1g r _ hs.2 (by omega) (by omega)];simp only[bq,true_and];omega
theorem thB_id:∀(b:Bd) (L:Int),b.sht→(szB b:Int)≤L→L≤20000→thB b L=(b,L - szB b)
 | .mk op all dis items frm whr group having rows ins,L,hs,hl,h2=>by
  simp only[Bd.sht]at hs;simp only[szB]at hl ⊢;obtain⟨h1,h3,h4,h5,h6,h7,h8⟩:=hs;simp only[thB];rw[c1k items L h1 (by omega) h2];simp only;rw[cj5 frm _ h3 (by omega) (by omega)];simp only;rw[brs whr _ h4 (by omega) (by omega)];simp only;rw[brs group _ h5 (by omega) (by omega)];simp only;rw[brs having _ h6 (by omega) (by omega)];simp only;rw[c1g rows _ h7 (by omega) (by omega)];simp only;rw[cbr ins _ h8 (by omega) (by omega)];simp only[bq,true_and];omega
theorem dk1:∀(q:Qr) (L:Int),q.sht→(szQ q:Int)≤L→L≤20000→thQ q L=(q,L - szQ q)
 | .mk body keys limit offset,L,hs,hl,h2=>by
  simp only[Qr.sht]at hs;simp only[szQ]at hl ⊢;simp only[thQ];rw[thB_id body L hs.1 (by omega) h2];simp only;rw[c1j keys _ hs.2 (by omega) (by omega)];simp only[bq,true_and];omega
theorem cbr:∀(l:List Qr) (L:Int),bck l→(brf l:Int)≤L→L≤20000→cbs l L=(l,L - brf l)
 | [],L,_,_,_=>by simp[cbs,brf]
 | n::r,L,hs,hl,h2=>by
  simp only[bck]at hs;simp only[brf]at hl ⊢;obtain⟨h0,e⟩:=cvz (k:=0) (L:=L) (by omega) h2;rw[cbs,if_pos h0,e];simp only;rw[dk1 n (L - 1) hs.1 (by omega) (by omega)];simp only;rw[cbr r _ hs.2 (by omega) (by omega)];simp only[bq,true_and];omega
end
theorem dd5{q:Qr}(hs:q.sht)(h:szQ q≤20000):c1d q=q:=by
 unfold c1d;rw[dk1 q 20000 hs (by omega) (by omega)]
end Go.Av
