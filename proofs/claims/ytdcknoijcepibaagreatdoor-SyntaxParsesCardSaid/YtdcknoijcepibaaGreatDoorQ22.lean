/- Part of syntax_parses. -/
import Derived.Test.YtdcknoijcepibaaGreatDoorQ21
import Derived.Test.YtdcknoijcepibaaGreatDoorQ19
set_option linter.unusedVariables false
set_option maxHeartbeats 16000000
namespace Go.Av
open Go
def Bn{α:Type}(m:α→Nat)(s:α→Prop)(c:Nat)(L:LT)(o:Option (α×LT)):Prop:=∀x,o=some x→s x.1∧m x.1+c+4*x.2.length≤4*L.length∧x.2<:+L
def Bnd{α:Type}(m:α→Nat)(s:α→Prop)(c:Nat)(p:Rdr α):Prop:=∀d L,cbb L→Bn m s c L (p d L)
structure Rd.Bnd(R:Rd):Prop where
 query:Go.Av.Bnd szQ Qr.sht 4 R.query
 expr:Go.Av.Bnd szN Nd.sht 2 R.expr
 neg:Go.Av.Bnd szN Nd.sht 2 R.neg
 sign:Go.Av.Bnd szN Nd.sht 2 R.sign
theorem bf0{ws:LV}:∀{L M:LT},(∀w∈ws,w≠[])→xm ws L=some M→M<:+L∧M.length+ws.length=L.length:=by
 induction ws with
 | nil=>intro L M _ h;obtain rfl:L=M:=by simpa[xm] using h
        exact⟨br _,by simp⟩
 | cons w ws ih=>
  intro L M hw h;simp only[xm]at h;split at h
  ·rename_i e;obtain⟨h1,h2⟩:=ih (fun w hw'=>hw w (.tail _ hw')) h;have:=zk e (hw w (.head _));exact⟨h1.trans (xp L),by simp;omega⟩
  ·cases h
theorem b8b{k:Int}{L:LT}{x:LU×LT}(h:bcc k L=some x):∃a,L=a::x.2∧a.k=k∧a.t=x.1:=by
 cases L with
 | nil=>cases h
 | cons a r=>
  simp only[bcc]at h;split at h
  ·rename_i hk;obtain rfl:=bf h;exact⟨a,rfl,hk,rfl⟩
  ·cases h
theorem bs9{s:LU}(h:bfg s=true):s.length≤20:=by
 cases s with
 | nil=>cases h
 | cons c r=>simp only[bfg,bp,decide_eq_true_eq]at h;exact h.1.1
theorem bjg{L:LT}{x:LU×LT}(G:cbb L)(h:bcc 2 L=some x):x.2<:+L∧x.2.length+1=L.length∧x.1.length≤20:=by
 obtain⟨a,rfl,hk,ht⟩:=b8b h;refine⟨fq _ _,by simp,?_⟩;rw[← ht];exact bs9 ((G a (.head _)).name hk)
theorem b1p(w:LU)(L:LT):(isG w L).2<:+L∧(isG w L).2.length≤L.length:=⟨bb5 w L,(bb5 w L).length_le⟩
theorem Bnd.deeper{α:Type}{m:α→Nat}{s:α→Prop}{c:Nat}{p:Rdr α}(h:Bnd m s c p):Bnd m s c (bbj p):=fun d L G x e=>by
 unfold bbj at e;split at e
 ·cases e
 ·exact h _ L G x e
theorem Bnd.inPar{α:Type}{m:α→Nat}{s:α→Prop}{c:Nat}{p:Rdr α}(h:Bnd m s c p):Bnd m s (c+8) (bbz p):=fun d L G x e=>by
 unfold bbz at e;obtain⟨L1,e1,e⟩:=bg.1 e;obtain⟨y,e2,e⟩:=bg.1 e;obtain⟨L3,e3,e⟩:=bg.1 e;obtain rfl:=bf e;obtain⟨s1,l1⟩:=bf0 (by simp) e1;obtain⟨a1,a2,a3⟩:=h.deeper d L1 (G.sfx s1) y e2;obtain⟨s3,l3⟩:=bf0 (by simp) e3;simp only[cm,ct]at l1 l3;exact⟨a1,by dsimp only;omega,(s3.trans a3).trans s1⟩
def b7f{α:Type}(m:α→Nat):List α→Nat
 | []=>0
 | x::r=>1+m x+b7f m r
theorem bxq{α:Type}(m:α→Nat)(x:α):∀l:List α,b7f m (l++[x])=b7f m l+1+m x
 | []=>by simp[b7f]
 | y::r=>by simp only[dv,b7f,bxq m x r];omega
theorem b5z{α:Type}{m:α→Nat}{s:α→Prop}{c:Nat}{p:Rdr α}(hc:1≤c)(h:Bnd m s c p)(d:Int)(L0:LT):∀(f:Nat) (acc:List α) (L:LT),cbb L→L<:+L0→(∀x∈acc,s x)→b7f m acc+4*L.length≤4*L0.length →
  Bn (b7f m) (fun l=>∀x∈l,s x) 0 L0 (bbm p d f acc L)
 | 0,acc,L,G,hs,ha,hb=>fun x e=>by cases e
 | f+1,acc,L,G,hs,ha,hb=>fun x e=>by
  unfold bbm at e;split at e
  ·rename_i hp;have:=zk hp (by simp);obtain⟨y,e1,e⟩:=bg.1 e;obtain⟨a1,a2,a3⟩:=h d _ (G.sfx (xp L)) y e1;exact b5z hc h d L0 f _ _ (G.sfx (a3.trans (xp L))) ((a3.trans (xp L)).trans hs) (fun z hz=>by
    rcases d7.1 hz with hz | hz
    ·exact ha z hz
    ·obtain rfl:=ff.1 hz;exact a1) (by rw[bxq];omega) x e
  ·obtain rfl:=bf e;exact⟨ha,by dsimp only;omega,hs⟩
theorem Bnd.list{α:Type}{m:α→Nat}{s:α→Prop}{c:Nat}{p:Rdr α}(hc:1≤c)(h:Bnd m s c p):Bnd (b7f m) (fun l=>∀x∈l,s x) 0 (bbc p):=fun d L G x e=>by
 unfold bbc at e;obtain⟨y,e1,e⟩:=bg.1 e;obtain⟨z,e2,e⟩:=bg.1 e;split at e
 ·cases e
 ·obtain rfl:=bf e;obtain⟨a1,a2,a3⟩:=h d L G y e1;exact b5z hc h d L _ [y.1] y.2 (G.sfx a3) a3 (fun z hz=>by obtain rfl:=ff.1 hz;exact a1) (by simp only[b7f];omega) _ e2
theorem b4v(l:List Nd):bhz l=b7f szN l:=by induction l with
 | nil=>rfl
 | cons n r ih=>simp only[bhz,b7f,ih]
theorem dp6(l:List It):c0j l=b7f szI l:=by induction l with
 | nil=>rfl
 | cons n r ih=>simp only[c0j,b7f,ih]
theorem dp4(l:List Sr):cfh l=b7f szS l:=by induction l with
 | nil=>rfl
 | cons n r ih=>simp only[cfh,b7f,ih]
theorem dp5(l:List (List Nd)):c0h l=b7f bhz l:=by induction l with
 | nil=>rfl
 | cons n r ih=>simp only[c0h,b7f,ih]
theorem b1b(l:List Nd):bbp l↔∀x∈l,x.sht:=by induction l with
 | nil=>simp[bbp]
 | cons n r ih=>simp[bbp,ih]
theorem czc(l:List It):br4 l↔∀x∈l,x.sht:=by induction l with
 | nil=>simp[br4]
 | cons n r ih=>simp[br4,ih]
theorem ctv(l:List Sr):bj5 l↔∀x∈l,x.sht:=by induction l with
 | nil=>simp[bj5]
 | cons n r ih=>simp[bj5,ih]
theorem ckq(l:List (List Nd)):bkv l↔∀x∈l,bbp x:=by induction l with
 | nil=>simp[bkv]
 | cons n r ih=>simp[bkv,ih]
theorem Bnd.nodes{p:Rdr Nd}(h:Bnd szN Nd.sht 2 p):Bnd bhz bbp 0 (bbc p):=fun d L G x e=>by
 obtain⟨a1,a2,a3⟩:=h.list (by omega) d L G x e;exact⟨(b1b _).2 a1,by rw[b4v];exact a2,a3⟩
theorem b8j{p:Rdr Nd}(h:Bnd szN Nd.sht 2 p){ws:LV}(hw:∀w∈ws,w≠[]∧w.length≤210)(d:Int)(L0:LT):∀(f:Nat) (a:Nd) (L:LT),cbb L→L<:+L0→a.sht→szN a+2+4*L.length≤4*L0.length →
  Bn szN Nd.sht 2 L0 (bdz p ws d f a L)
 | 0,a,L,G,hs,ha,hb=>fun x e=>by cases e
 | f+1,a,L,G,hs,ha,hb=>fun x e=>by
  unfold bdz at e;split at e
  ·rename_i hp;have:=zk rfl (hw _ hp).1;obtain⟨y,e1,e⟩:=bg.1 e;obtain⟨a1,a2,a3⟩:=h d _ (G.sfx (xp L)) y e1;exact b8j h hw d L0 f _ _ (G.sfx (a3.trans (xp L))) ((a3.trans (xp L)).trans hs) (by simp only[bhb,Nd.sht,bbp,bck];exact⟨(hw _ hp).2,⟨ha,a1,trivial⟩,trivial⟩)
    (by simp only[bhb,szN,bhz,brf];omega) x e
  ·obtain rfl:=bf e;exact⟨ha,by dsimp only;omega,hs⟩
theorem Bnd.row{p:Rdr Nd}(h:Bnd szN Nd.sht 2 p){ws:LV}(hw:∀w∈ws,w≠[]∧w.length≤210):Bnd szN Nd.sht 2 (bxt p ws):=fun d L G x e=>by
 unfold bxt at e;obtain⟨y,e1,e⟩:=bg.1 e;obtain⟨a1,a2,a3⟩:=h d L G y e1;exact b8j h hw d L _ _ _ (G.sfx a3) a3 a1 (by omega) x e
variable{R:Rd}(hR:R.Bnd)
include hR
theorem cvj:Bnd szN Nd.sht 2 (bx2 R):=fun d L G x e=>by
 unfold bx2 at e;split at e
 ·obtain⟨y,e1,e⟩:=bg.1 e;obtain rfl:=bf e;obtain⟨a1,a2,a3⟩:=hR.query.inPar d L G y e1;exact⟨by simp only[Nd.sht,bbp,bck];exact⟨by simp,trivial,a1,trivial⟩,by simp only[szN,bhz,brf];omega,a3⟩
 ·obtain⟨y,e1,e⟩:=bg.1 e;obtain⟨a1,a2,a3⟩:=hR.expr.nodes.inPar d L G y e1;split at e
  ·rename_i a ha;obtain rfl:=bf e;rw[ha]at a1 a2;simp only[bbp,bhz]at a1 a2;exact⟨a1.1,by dsimp only;omega,a3⟩
  ·obtain rfl:=bf e;exact⟨by simp only[Nd.sht,bck];exact⟨by simp,a1,trivial⟩,by simp only[szN,brf];omega,a3⟩
theorem b25(d:Int)(L0:LT):∀(f:Nat) (acc:List Nd) (L:LT),cbb L→L<:+L0→bbp acc→bhz acc+4*L.length≤4*L0.length→Bn bhz bbp 0 L0 (bcf R d f acc L)
 | 0,acc,L,G,hs,ha,hb=>fun x e=>by cases e
 | f+1,acc,L,G,hs,ha,hb=>fun x e=>by
  unfold bcf at e;obtain⟨L1,e1,e⟩:=bg.1 e;obtain⟨y,e2,e⟩:=bg.1 e;obtain⟨L2,e3,e⟩:=bg.1 e;obtain⟨z,e4,e⟩:=bg.1 e;obtain⟨s1,l1⟩:=bf0 (by simp) e1;obtain⟨a1,a2,a3⟩:=hR.expr d L1 (G.sfx s1) y e2;obtain⟨s2,l2⟩:=bf0 (by simp) e3;have t2:=(s2.trans a3).trans s1;obtain⟨b1,b2,b3⟩:=hR.expr d L2 (G.sfx t2) z e4;have t3:=b3.trans t2;simp only[cm,ct]at l1 l2;have hS:bbp (acc++[y.1,z.1]):=by
   rw[b1b]at ha ⊢;intro w hw;rcases d7.1 hw with hw | hw
   ·exact ha w hw
   ·rcases dc.1 hw with rfl | hw
    ·exact a1
    ·obtain rfl:=ff.1 hw;exact b1
  have hZ:bhz (acc++[y.1,z.1])=bhz acc+2+szN y.1+szN z.1:=by
   have:acc++[y.1,z.1]=(acc++[y.1])++[z.1]:=by simp
   rw[this,b4v,bxq,bxq,b4v];omega
  split at e
  ·exact b25 d L0 f _ _ (G.sfx t3) (t3.trans hs) hS (by omega) x e
  ·obtain rfl:=bf e;exact⟨hS,by dsimp only;omega,t3.trans hs⟩
theorem cz0:Bnd szN Nd.sht 2 (bm0 R):=fun d L G x e=>by
 unfold bm0 at e;obtain⟨y,e1,e⟩:=bg.1 e;obtain⟨a1,a2,a3⟩:=b25 hR d L _ [] L G (br _) trivial (by simp[bhz]) y e1;split at e
 ·rename_i hp;have l0:=zk hp (by simp);obtain⟨z,e2,e⟩:=bg.1 e;obtain⟨L2,e3,e⟩:=bg.1 e;obtain rfl:=bf e;have t1:=(xp y.2).trans a3;obtain⟨b1,b2,b3⟩:=hR.expr d _ (G.sfx t1) z e2;obtain⟨s2,l2⟩:=bf0 (by simp) e3;simp only[cm,ct]at l2;refine⟨?_,?_,(s2.trans b3).trans t1⟩
  ·simp only[Nd.sht,bck];refine⟨by simp,?_,trivial⟩;rw[b1b]at a1 ⊢;intro w hw;rcases d7.1 hw with hw | hw
   ·exact a1 w hw
   ·obtain rfl:=ff.1 hw;exact b1
  ·simp only[szN,brf];rw[b4v,bxq,← b4v];omega
 ·obtain⟨L2,e3,e⟩:=bg.1 e;obtain rfl:=bf e;obtain⟨s2,l2⟩:=bf0 (by simp) e3;simp only[cm,ct]at l2;exact⟨by simp only[Nd.sht,bck];exact⟨by simp,a1,trivial⟩,by simp only[szN,brf];omega,s2.trans a3⟩
theorem dbs:Bnd (fun x=>bhz x.2) (fun x=>bbp x.2) 0 (chk R):=fun d L G x e=>by
 unfold chk at e;obtain⟨y,e1,e⟩:=bg.1 e;obtain rfl:=bf e;obtain⟨s0,l0⟩:=b1p zx L;obtain⟨a1,a2,a3⟩:=hR.expr.nodes d _ (G.sfx s0) y e1;exact⟨a1,by dsimp only;omega,a3.trans s0⟩
theorem cvx(t:LU)(ht:t.length≤20)(d:Int)(L:LT)(G:cbb L)(x:Nd×LT)(e:bx6 R t d L=some x):x.1.sht∧szN x.1+4*x.2.length≤4*L.length+2∧x.2<:+L:=by
 unfold bx6 at e;split at e
 ·rename_i hp;have l0:=zk hp (by simp);obtain⟨y,e1,e⟩:=bg.1 e;obtain rfl:=bf e;obtain⟨s1,l1,n1⟩:=bjg (G.sfx (xp L)) e1;exact⟨by simp only[Nd.sht,bbp,bck];exact⟨by simp;omega,trivial,trivial⟩,by simp only[szN,bhz,brf];omega,s1.trans (xp L)⟩
 ·split at e
  ·obtain rfl:=bf e;exact⟨by simp only[Nd.sht,bbp,bck];exact⟨by omega,trivial,trivial⟩,by simp only[szN,bhz,brf];omega,br _⟩
  ·split at e
   ·obtain⟨M,e1,e⟩:=bg.1 e;obtain rfl:=bf e;obtain⟨s1,l1⟩:=bf0 (by simp) e1;exact⟨by simp only[Nd.sht,bbp,bck];exact⟨by omega,trivial,trivial⟩,by simp only[szN,bhz,brf];omega,s1⟩
   ·obtain⟨y,e1,e⟩:=bg.1 e;obtain rfl:=bf e;obtain⟨a1,a2,a3⟩:=(dbs hR).inPar d L G y e1;dsimp only at a2;exact⟨by simp only[Nd.sht,bck];exact⟨by omega,a1,trivial⟩,by simp only[szN,brf];omega,a3⟩
omit hR in
theorem cvm{t:LU}(h:bf7 t=true):(und t).length≤200:=by
 simp only[bf7,bp,decide_eq_true_eq]at h;exact h.1
omit hR in
theorem dg5{op num:Int}{t:LU}(ht:t.length≤210):(Nd.mk op t num false false [] []).sht∧szN (Nd.mk op t num false false [] [])=0:=by
 simp[Nd.sht,bbp,bck,szN,bhz,brf,ht]
theorem c4g:Bnd szN Nd.sht 2 (b5d R):=fun d L G x e=>by
 unfold b5d at e;have leaf:∀(op num:Int) (t:LU) (M:LT),t.length≤210→M<:+L→M.length+1=L.length→(Nd.mk op t num false false [] []).sht∧szN (Nd.mk op t num false false [] [])+2+4*M.length≤4*L.length∧M<:+L:=fun op num t M h1 h2 h3=>by
  obtain⟨h4,h5⟩:=dg5 (op:=op) (num:=num) h1;exact⟨h4,by rw[h5];omega,h2⟩
 split at e
 ·rename_i hp;obtain rfl:=bf e;exact leaf _ _ _ _ (by simp) (xp L) (zk hp (by simp))
 split at e
 ·rename_i hp;obtain rfl:=bf e;exact leaf _ _ _ _ (by simp) (xp L) (zk hp (by simp))
 split at e
 ·rename_i hp;obtain rfl:=bf e;exact leaf _ _ _ _ (by simp) (xp L) (zk hp (by simp))
 split at e
 ·rename_i hp;obtain⟨y,e1,e⟩:=bg.1 e;obtain rfl:=bf e;obtain⟨a1,a2,a3⟩:=hR.query.inPar d _ (G.sfx (xp L)) y e1;have:=zk hp (by simp);exact⟨by simp only[Nd.sht,bbp,bck];exact⟨by simp,trivial,a1,trivial⟩,by simp only[szN,bhz,brf];omega,a3.trans (xp L)⟩
 split at e
 ·rename_i hp;obtain⟨a1,a2,a3⟩:=(cz0 hR).deeper d _ (G.sfx (xp L)) x e;have:=zk hp (by simp);exact⟨a1,by omega,a3.trans (xp L)⟩
 split at e
 ·exact cvj hR d L G x e
 cases L with
 | nil=>cases e
 | cons a r=>
  have ok:=G a (.head _);have sr:=fq a r;simp only at e;split at e
  ·obtain rfl:=bf e;exact leaf _ _ _ _ (by simp) sr (by simp)
  split at e
  ·rename_i hk;obtain rfl:=bf e;exact leaf _ _ _ _ (by have:=cvm (ok.txt hk).2.2;unfold cd8;omega) sr (by simp)
  split at e
  ·rename_i hk;obtain⟨a1,a2,a3⟩:=cvx hR a.t (bs9 (ok.name hk)) d r (G.sfx sr) x e;exact⟨a1,by simp;omega,a3.trans sr⟩
  ·cases e
theorem cfz:Bnd szN Nd.sht 2 (cb0 R):=fun d L G x e=>by
 unfold cb0 at e;split at e
 ·rename_i hp;obtain⟨y,e1,e⟩:=bg.1 e;obtain rfl:=bf e;obtain⟨a1,a2,a3⟩:=hR.sign.deeper d _ (G.sfx (xp L)) y e1;have:=zk hp (by simp);exact⟨by simp only[Nd.sht,bbp,bck];exact⟨by simp,⟨a1,trivial⟩,trivial⟩,by simp only[szN,bhz,brf];omega,a3.trans (xp L)⟩
 ·exact c4g hR d L G x e
theorem c2f:Bnd szN Nd.sht 2 (cj6 R):=(cfz hR).row (by simp)
theorem bxr:Bnd szN Nd.sht 2 (b3t R):=(c2f hR).row (by simp)
theorem c2c:Bnd szN Nd.sht 2 (b7c R):=fun d L G x e=>by
 unfold b7c at e;obtain⟨y,e1,e⟩:=bg.1 e;obtain⟨a1,a2,a3⟩:=bxr hR d L G y e1;have td:=(xp y.2).trans a3;split at e
 ·rename_i hp;obtain⟨z,e2,e⟩:=bg.1 e;obtain rfl:=bf e;obtain⟨b1,b2,b3⟩:=bxr hR d _ (G.sfx td) z e2;have l0:=zk (L:=y.2) rfl (fun e=>by rw[e]at hp;simp at hp);have hw:(pk y.2).length≤210:=by
   rcases dc.1 hp with h | h
   ·rw[h];simp
   ·simp only[dc,fp,or_false]at h;rcases h with h | h | h | h | h<;>rw[h]<;>simp
  exact⟨by simp only[bhb,Nd.sht,bbp,bck];exact⟨hw,⟨a1,b1,trivial⟩,trivial⟩,by simp only[bhb,szN,bhz,brf];omega,b3.trans td⟩
 split at e
 ·rename_i hp;have l0:=zk hp (by simp);obtain⟨sn,ln⟩:=b1p bpk (y.2.drop 1);have tn:=sn.trans td;simp only at e;split at e
  ·rename_i hq;obtain rfl:=bf e;have:=zk hq (by simp);exact⟨by simp only[Nd.sht,bbp,bck];exact⟨by simp,⟨a1,trivial⟩,trivial⟩,by simp only[szN,bhz,brf];omega,(xp _).trans tn⟩
  split at e
  ·rename_i hq;obtain rfl:=bf e;have:=zk hq (by simp);exact⟨by simp only[Nd.sht,bbp,bck];exact⟨by simp,⟨a1,trivial⟩,trivial⟩,by simp only[szN,bhz,brf];omega,(xp _).trans tn⟩
  ·obtain⟨L2,e2,e⟩:=bg.1 e;obtain⟨z,e3,e⟩:=bg.1 e;obtain rfl:=bf e;obtain⟨s2,l2⟩:=bf0 (by simp) e2;obtain⟨b1,b2,b3⟩:=bxr hR d _ (G.sfx (s2.trans tn)) z e3;simp only[cm,ct]at l2;exact⟨by simp only[Nd.sht,bbp,bck];exact⟨by simp,⟨a1,b1,trivial⟩,trivial⟩,by simp only[szN,bhz,brf];omega,b3.trans (s2.trans tn)⟩
 ·simp only at e;generalize (decide (pk y.2=bpk)&&(decide (pk (y.2.drop 1)=win)||decide (pk (y.2.drop 1)=bbs)))=no at e;generalize hL2:(if no=true then y.2.drop 1 else y.2)=L2 at e;have t2:L2<:+L:=by
   rw[← hL2];split
   ·exact td
   ·exact a3
  have l2:L2.length≤y.2.length:=by
   rw[← hL2];split
   ·simp
   ·exact cj _
  split at e
  ·rename_i hq;have l0:=zk hq (by simp);obtain⟨z,e3,e⟩:=bg.1 e;obtain⟨L3,e4,e⟩:=bg.1 e;obtain⟨w,e5,e⟩:=bg.1 e;obtain rfl:=bf e;have t3:=(xp L2).trans t2;obtain⟨b1,b2,b3⟩:=bxr hR d _ (G.sfx t3) z e3;obtain⟨s4,l4⟩:=bf0 (by simp) e4;have t4:=(s4.trans b3).trans t3;obtain⟨c1,c2,c3⟩:=bxr hR d _ (G.sfx t4) w e5;simp only[cm,ct]at l4;exact⟨by simp only[Nd.sht,bbp,bck];exact⟨by simp,⟨a1,b1,c1,trivial⟩,trivial⟩,by simp only[szN,bhz,brf];omega,c3.trans t4⟩
  split at e
  ·rename_i hq;have l0:=zk hq (by simp);have t3:=(xp L2).trans t2;split at e
   ·obtain⟨z,e3,e⟩:=bg.1 e;obtain rfl:=bf e;obtain⟨b1,b2,b3⟩:=hR.query.inPar d _ (G.sfx t3) z e3;exact⟨by simp only[Nd.sht,bbp,bck];exact⟨by simp,⟨a1,trivial⟩,b1,trivial⟩,by simp only[szN,bhz,brf];omega,b3.trans t3⟩
   ·obtain⟨z,e3,e⟩:=bg.1 e;obtain rfl:=bf e;obtain⟨b1,b2,b3⟩:=hR.expr.nodes.inPar d _ (G.sfx t3) z e3;exact⟨by simp only[Nd.sht,bbp,bck];exact⟨by simp,⟨a1,b1⟩,trivial⟩,by simp only[szN,bhz,brf];omega,b3.trans t3⟩
  ·obtain rfl:=bf e;exact⟨a1,a2,a3⟩
theorem cq4:Bnd szN Nd.sht 2 (dgt R):=fun d L G x e=>by
 unfold dgt at e;split at e
 ·rename_i hp;obtain⟨y,e1,e⟩:=bg.1 e;obtain rfl:=bf e;obtain⟨a1,a2,a3⟩:=hR.neg.deeper d _ (G.sfx (xp L)) y e1;have:=zk hp (by simp);exact⟨by simp only[Nd.sht,bbp,bck];exact⟨by simp,⟨a1,trivial⟩,trivial⟩,by simp only[szN,bhz,brf];omega,a3.trans (xp L)⟩
 ·exact c2c hR d L G x e
theorem dbd:Bnd szN Nd.sht 2 (cmx R):=(cq4 hR).row (by simp)
theorem c9d:Bnd szN Nd.sht 2 (c9f R):=(dbd hR).row (by simp)
omit hR in
theorem ch5{L:LT}(G:cbb L){x:LU×LT}(e:bf2 L=some x):x.1.length≤20∧x.2.length≤L.length∧x.2<:+L:=by
 unfold bf2 at e;split at e
 ·obtain⟨s1,l1,n1⟩:=bjg (G.sfx (xp L)) e;exact⟨n1,by have:=(xp L).length_le;omega,s1.trans (xp L)⟩
 split at e
 ·obtain⟨s1,l1,n1⟩:=bjg G e;exact⟨n1,by omega,s1⟩
 ·obtain rfl:=bf e;exact⟨by simp,cj _,br _⟩
theorem c8h:Bnd szI It.sht 1 (bkc R):=fun d L G x e=>by
 have he:∀x,((R.expr d L).bind fun e=>(bf2 e.2).bind fun a=>some (It.mk false [] [e.1] a.1,a.2))=some x→x.1.sht∧szI x.1+1+4*x.2.length≤4*L.length∧x.2<:+L:=fun x e=>by
  obtain⟨y,e1,e⟩:=bg.1 e;obtain⟨a,e2,e⟩:=bg.1 e;obtain rfl:=bf e;obtain⟨a1,a2,a3⟩:=hR.expr d L G y e1;obtain⟨b1,b2,b3⟩:=ch5 (G.sfx a3) e2;exact⟨by simp only[It.sht,bbp];exact⟨by simp,⟨a1,trivial⟩,by omega⟩,by simp only[szI,bhz];omega,b3.trans a3⟩
 unfold bkc at e;split at e
 ·rename_i hp;obtain rfl:=bf e;have:=zk hp (by simp);exact⟨by simp only[It.sht,bbp];exact⟨by simp,trivial,by simp⟩,by simp only[szI,bhz];omega,xp L⟩
 split at e
 ·rename_i a y z r _;split at e
  ·rename_i hc;obtain rfl:=bf e;have:=bs9 ((G a (.head _)).name hc.1);exact⟨by simp only[It.sht,bbp];exact⟨by omega,trivial,by simp⟩,by simp only[szI,bhz,cm];omega,((fq z r).trans (fq y _)).trans (fq a _)⟩
  ·exact he x e
 ·exact he x e
theorem b0z:Bnd szS Sr.sht 2 (bc5 R):=fun d L G x e=>by
 unfold bc5 at e;split at e
 ·obtain⟨y,e1,e⟩:=bg.1 e;obtain⟨a,e2,e⟩:=bg.1 e;obtain rfl:=bf e;obtain⟨a1,a2,a3⟩:=hR.query.inPar d L G y e1;obtain⟨s1,l1⟩:=b1p was y.2;obtain⟨s2,l2,n2⟩:=bjg (G.sfx (s1.trans a3)) e2;exact⟨by simp only[Sr.sht,bbp,bck,bj5];exact⟨by simp,by omega,⟨a1,trivial⟩,trivial,trivial⟩,by simp only[szS,bhz,brf,cfh];omega,(s2.trans s1).trans a3⟩
 ·obtain⟨y,e1,e⟩:=bg.1 e;obtain⟨a,e2,e⟩:=bg.1 e;obtain rfl:=bf e;obtain⟨s1,l1,n1⟩:=bjg G e1;obtain⟨b1,b2,b3⟩:=ch5 (G.sfx s1) e2;exact⟨by simp only[Sr.sht,bbp,bck,bj5];exact⟨by omega,by omega,trivial,trivial,trivial⟩,by simp only[szS,bhz,brf,cfh];omega,b3.trans s1⟩
theorem bqc(d:Int)(L0:LT):∀(f:Nat) (s:Sr) (L:LT),cbb L→L<:+L0→s.sht→szS s+2+4*L.length≤4*L0.length→Bn szS Sr.sht 2 L0 (bbq R d f s L)
 | 0,s,L,G,hs,ha,hb=>fun x e=>by cases e
 | f+1,s,L,G,hs,ha,hb=>fun x e=>by
  unfold bbq at e;split at e
  ·obtain⟨L1,e1,e⟩:=bg.1 e;obtain⟨y,e2,e⟩:=bg.1 e;obtain⟨s1,l1⟩:=bf0 (by simp) e1;obtain⟨a1,a2,a3⟩:=b0z hR d L1 (G.sfx s1) y e2;simp only[cm,ct]at l1;exact bqc d L0 f _ _ (G.sfx (a3.trans s1)) ((a3.trans s1).trans hs) (by simp only[Sr.sht,bbp,bck,bj5];exact⟨by simp,by simp,trivial,⟨ha,a1,trivial⟩,trivial⟩)
    (by simp only[szS,bhz,brf,cfh];omega) x e
  split at e
  ·obtain rfl:=bf e;exact⟨ha,hb,hs⟩
  ·simp only at e;generalize hL1:(if pk L=bcz then L else if pk L=bmr then L.drop 1 else(isG bc3 (L.drop 1)).2)=L1 at e;have t1:L1<:+L:=by
    rw[← hL1];split
    ·exact br _
    ·split
     ·exact xp L
     ·exact(bb5 _ _).trans (xp L)
   have l1:=t1.length_le;obtain⟨L2,e1,e⟩:=bg.1 e;obtain⟨y,e2,e⟩:=bg.1 e;obtain⟨L3,e3,e⟩:=bg.1 e;obtain⟨z,e4,e⟩:=bg.1 e;obtain⟨s2,l2⟩:=bf0 (by simp) e1;have t2:=s2.trans t1;obtain⟨a1,a2,a3⟩:=b0z hR d L2 (G.sfx t2) y e2;have t3:=a3.trans t2;obtain⟨s4,l4⟩:=bf0 (by simp) e3;have t4:=s4.trans t3;obtain⟨b1,b2,b3⟩:=hR.expr d L3 (G.sfx t4) z e4;have t5:=b3.trans t4;simp only[cm,ct]at l2 l4;exact bqc d L0 f _ _ (G.sfx t5) (t5.trans hs) (by simp only[Sr.sht,bbp,bck,bj5];exact⟨by simp,by simp,trivial,⟨ha,a1,trivial⟩,b1,trivial⟩)
    (by simp only[szS,bhz,brf,cfh];omega) x e
theorem ckf:Bnd szS Sr.sht 2 (bgk R):=fun d L G x e=>by
 unfold bgk at e;obtain⟨y,e1,e⟩:=bg.1 e;obtain⟨a1,a2,a3⟩:=b0z hR d L G y e1;exact bqc hR d L _ _ _ (G.sfx a3) a3 a1 (by omega) x e
omit hR in
theorem c5h{L:LT}{x:Int×LT}(e:bs4 L=some x):x.2.length+1=L.length∧x.2<:+L:=by
 unfold bs4 at e;obtain⟨y,e1,e2⟩:=bg.1 e;obtain⟨a,rfl,_,_⟩:=b8b e1;split at e2
 ·cases e2
 ·obtain rfl:=bf e2;exact⟨by simp,fq _ _⟩
omit hR in
theorem dhx:Bnd (fun _=>0) (fun k:Ky=>k.name.length≤210) 1 cdv:=fun d L G x e=>by
 unfold cdv at e;obtain⟨y,e1,e⟩:=bg.1 e;have h1:y.1.1.length≤20∧y.2.length+1=L.length∧y.2<:+L:=by
  split at e1
  ·obtain⟨z,e2,e1⟩:=bg.1 e1;obtain⟨l1,s1⟩:=c5h e2;split at e1
   ·cases e1
   ·obtain rfl:=bf e1;exact⟨by simp,l1,s1⟩
  ·obtain⟨z,e2,e1⟩:=bg.1 e1;obtain rfl:=bf e1;obtain⟨s1,l1,n1⟩:=bjg G e2;exact⟨n1,l1,s1⟩
 obtain⟨n1,l1,s1⟩:=h1;split at e
 ·obtain rfl:=bf e;have:=(xp y.2).length_le;exact⟨by dsimp only;omega,by dsimp only;omega,(xp _).trans s1⟩
 ·obtain rfl:=bf e;obtain⟨s2,l2⟩:=b1p c0x y.2;exact⟨by dsimp only;omega,by dsimp only;omega,s2.trans s1⟩
omit hR in
theorem bvh{α:Type}{m:α→Nat}{s:α→Prop}{p:Rdr α}{w:LU}(hw:w≠[]){z:α}(hz:s z)(mz:m z=0)(h:Bnd m s 0 p):Bnd m s 0 (bj0 w p z):=fun d L G x e=>by
 unfold bj0 at e;split at e
 ·rename_i hp;have:=zk hp hw;obtain⟨a1,a2,a3⟩:=h d _ (G.sfx (xp L)) x e;exact⟨a1,by omega,a3.trans (xp L)⟩
 ·obtain rfl:=bf e;exact⟨hz,by dsimp only;omega,br _⟩
omit hR in
theorem Bnd.by'{α:Type}{m:α→Nat}{s:α→Prop}{p:Rdr α}(h:Bnd m s 0 p):Bnd m s 0 (byG p):=fun d L G x e=>by
 unfold byG at e;obtain⟨M,e1,e⟩:=bg.1 e;obtain⟨s1,l1⟩:=bf0 (by simp) e1;obtain⟨a1,a2,a3⟩:=h d _ (G.sfx s1) x e;exact⟨a1,by omega,a3.trans s1⟩
omit hR in
theorem Bnd.one'{p:Rdr Nd}(h:Bnd szN Nd.sht 2 p):Bnd bhz bbp 0 (one p):=fun d L G x e=>by
 unfold one at e;obtain⟨y,e1,e⟩:=bg.1 e;obtain rfl:=bf e;obtain⟨a1,a2,a3⟩:=h d L G y e1;exact⟨⟨a1,trivial⟩,by simp only[bhz];omega,a3⟩
theorem cb3:Bnd szB Bd.sht 4 (bjk R):=fun d L G x e=>by
 unfold bjk at e;obtain⟨L0,e0,e⟩:=bg.1 e;obtain⟨y1,e1,e⟩:=bg.1 e;obtain⟨y2,e2,e⟩:=bg.1 e;obtain⟨y3,e3,e⟩:=bg.1 e;obtain⟨y4,e4,e⟩:=bg.1 e;obtain⟨y5,e5,e⟩:=bg.1 e;obtain rfl:=bf e;obtain⟨s0,l0⟩:=bf0 (by simp) e0;obtain⟨si,li⟩:=b1p zx L0;have t0:=si.trans s0;obtain⟨a1,b1,c1⟩:=(c8h hR).list (by omega) d _ (G.sfx t0) y1 e1;have t1:=c1.trans t0;obtain⟨a2,b2,c2⟩:=bvh (m:=b7f szS) (s:=fun l=>∀x∈l,x.sht) (z:=[]) (by simp) (by simp) rfl ((ckf hR).list (by omega)) d _ (G.sfx t1) y2 e2;have t2:=c2.trans t1;obtain⟨a3,b3,c3⟩:=bvh (m:=bhz) (s:=bbp) (z:=[]) (by simp) (by trivial) rfl hR.expr.one' d _ (G.sfx t2) y3 e3;have t3:=c3.trans t2;obtain⟨a4,b4,c4⟩:=bvh (m:=bhz) (s:=bbp) (z:=[]) (by simp) (by trivial) rfl hR.expr.nodes.by' d _ (G.sfx t3) y4 e4
 have t4:=c4.trans t3;obtain⟨a5,b5,c5⟩:=bvh (m:=bhz) (s:=bbp) (z:=[]) (by simp) (by trivial) rfl hR.expr.one' d _ (G.sfx t4) y5 e5;simp only[cm,ct]at l0;refine⟨?_,?_,c5.trans t4⟩
 ·simp only[Bd.sht,bkv,bck];exact⟨(czc _).2 a1,(ctv _).2 a2,a3,a4,a5,trivial,trivial⟩
 ·simp only[szB,c0h,brf];rw[dp6,dp4];omega
theorem ckj:Bnd szB Bd.sht 4 (bjz R):=fun d L G x e=>by
 unfold bjz at e;split at e
 ·rename_i hp;obtain⟨y,e1,e⟩:=bg.1 e;obtain rfl:=bf e;obtain⟨a1,a2,a3⟩:=hR.expr.nodes.inPar.list (by omega) d _ (G.sfx (xp L)) y e1;have:=zk hp (by simp);exact⟨by simp only[Bd.sht,br4,bj5,bbp,bck];exact⟨trivial,trivial,trivial,trivial,trivial,(ckq _).2 a1,trivial⟩,
   by simp only[szB,c0j,cfh,bhz,brf];rw[dp5];omega,a3.trans (xp L)⟩
 split at e
 ·obtain⟨y,e1,e⟩:=bg.1 e;obtain rfl:=bf e;obtain⟨a1,a2,a3⟩:=hR.query.inPar d L G y e1;exact⟨by simp only[Bd.sht,br4,bj5,bbp,bck,bkv];exact⟨trivial,trivial,trivial,trivial,trivial,trivial,a1,trivial⟩,
   by simp only[szB,c0j,cfh,bhz,brf,c0h];omega,a3⟩
 ·exact cb3 hR d L G x e
omit hR in
theorem b44{p:Rdr Bd}(h:Bnd szB Bd.sht 4 p){ws:LV}(hw:∀w∈ws,w≠[])(d:Int)(L0:LT):∀(f:Nat) (a:Bd) (L:LT),cbb L→L<:+L0→a.sht→szB a+4+4*L.length≤4*L0.length →
  Bn szB Bd.sht 4 L0 (bg1 p ws d f a L)
 | 0,a,L,G,hs,ha,hb=>fun x e=>by cases e
 | f+1,a,L,G,hs,ha,hb=>fun x e=>by
  unfold bg1 at e;split at e
  ·rename_i hp;have:=zk rfl (hw _ hp);obtain⟨y,e1,e⟩:=bg.1 e;obtain⟨si,li⟩:=b1p b0f (L.drop 1);have t1:=si.trans (xp L);obtain⟨a1,a2,a3⟩:=h d _ (G.sfx t1) y e1;have t2:=a3.trans t1;exact b44 h hw d L0 f _ _ (G.sfx t2) (t2.trans hs) (by simp only[Bd.sht,br4,bj5,bbp,bck,bkv,bj2,Qr.sht];exact⟨trivial,trivial,trivial,trivial,trivial,trivial,⟨ha,by simp⟩,⟨a1,by simp⟩,trivial⟩)
    (by simp only[szB,c0j,cfh,bhz,brf,c0h,bj2,szQ,ct];omega) x e
  ·obtain rfl:=bf e;exact⟨ha,hb,hs⟩
omit hR in
theorem Bnd.sets{p:Rdr Bd}(h:Bnd szB Bd.sht 4 p){ws:LV}(hw:∀w∈ws,w≠[]):Bnd szB Bd.sht 4 (cb1 p ws):=fun d L G x e=>by
 unfold cb1 at e;obtain⟨y,e1,e⟩:=bg.1 e;obtain⟨a1,a2,a3⟩:=h d L G y e1;exact b44 h hw d L _ _ _ (G.sfx a3) a3 a1 (by omega) x e
theorem c4r:Bnd szB Bd.sht 4 (b3m R):=(ckj hR).sets (by simp)
theorem db1:Bnd szB Bd.sht 4 (b6f R):=(c4r hR).sets (by simp)
omit hR in
theorem c5d:Bnd (fun _:Int=>0) (fun _=>True) 0 (fun _=>bs4):=fun d L G x e=>by
 obtain⟨l,s⟩:=c5h e;exact⟨trivial,by dsimp only;omega,s⟩
theorem ct8:Bnd szQ Qr.sht 4 (b2p R):=fun d L G x e=>by
 unfold b2p at e;obtain⟨y1,e1,e⟩:=bg.1 e;obtain⟨y2,e2,e⟩:=bg.1 e;obtain⟨y3,e3,e⟩:=bg.1 e;obtain⟨y4,e4,e⟩:=bg.1 e;obtain rfl:=bf e;obtain⟨a1,b1,c1⟩:=db1 hR d L G y1 e1;obtain⟨a2,b2,c2⟩:=bvh (m:=b7f fun _=>0) (s:=fun l=>∀k∈l,k.name.length≤210) (z:=[]) (by simp) (by simp) rfl ((dhx.list (by omega)).by') d _ (G.sfx c1) y2 e2;have t2:=c2.trans c1;obtain⟨a3,b3,c3⟩:=bvh (m:=fun _=>0) (s:=fun _=>True) (z:=-1) (by simp) (by trivial) rfl c5d d _ (G.sfx t2) y3 e3;have t3:=c3.trans t2;obtain⟨a4,b4,c4⟩:=bvh (m:=fun _=>0) (s:=fun _=>True) (z:=-1) (by simp) (by trivial) rfl c5d d _ (G.sfx t3) y4 e4;have hk:∀l:List Ky,b7f (fun _=>0) l=l.length:=by
  intro l
  induction l with
  | nil=>rfl
  | cons k r ih=>simp only[b7f,ih,cm];omega
 rw[hk]at b2;exact⟨by simp only[Qr.sht];exact⟨a1,a2⟩,by simp only[szQ];omega,c4.trans t3⟩
theorem c2j:(dfd R).Bnd:=⟨ct8 hR,c9d hR,cq4 hR,cfz hR⟩
omit hR in
theorem c3v:∀n,(rdG n).Bnd
 | 0=>by
  refine⟨?_,?_,?_,?_⟩<;>(intro d L G x e;cases e)
 | n+1=>c2j (c3v n)
omit hR in
theorem c3t{L:LT}(G:cbb L){q:Qr}(h:b49 L=some q):q.sht∧szQ q≤4*L.length:=by
 unfold b49 at h;obtain⟨x,e1,e⟩:=bg.1 h;split at e
 ·obtain rfl:=bf e;obtain⟨a1,a2,a3⟩:=(c3v _).query 0 L G x e1;exact⟨a1,by omega⟩
 ·cases e
end Go.Av
