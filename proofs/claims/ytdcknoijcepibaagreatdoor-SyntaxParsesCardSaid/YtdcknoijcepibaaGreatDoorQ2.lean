/- Part of syntax_parses. -/
import Derived.Test.YtdcknoijcepibaaGreatDoorQ1
import Derived.Orders
import Derived.LoopN
import Derived.Scope
import Derived.Laws.Sem
import Derived.Recover
import Derived.OpenShut
import Derived.ChangeArms
import Derived.WideShapes
import Derived.ChangeStays
import Derived.ChangeSame
import Derived.RowKit
import Derived.ChangeCalls
import Derived.Below
import Derived.Lib.Join
import Derived.Lib.ItoaNum
import Derived.Lib.AppendIntMem
import Derived.Lib.Replace
import Derived.Lib.AtoiAll
import Derived.Lib.SpaceU
import Derived.Lib.Fields
import Derived.Lib.MapLaws
import Derived.Lib.TrimAscii
import Derived.Lib.SplitLaws
import Derived.Lib.SliceRun
set_option linter.unusedSectionVars false
set_option linter.unusedSimpArgs false
set_option linter.unusedVariables false
set_option maxHeartbeats 16000000
namespace Go.Av
open Go
def cq8(ops:Array Oper):Option (Nat×Bool)→Option (Nat×Bool)→Bool
 | none,none=>true
 | some (k,b),some (j,b')=>b==b'&&(match ops[j]? with | some o=>o.dst==some k | none=>false)
 | _,_=>false
def ccp(P:Program)(N:Nat)(ops:Array Oper)(ao:AOper)(o:Oper):Bool:=cq8 ops ao.gd o.guard&&b1d N ao.op.dst o.dst&&mOp P ao.op o.op
section
variable{P:Program}{W0:World}{g:Gh}{W:World}{a:Act}{N:Nat}{L:Nat→Nat}{st:St}
structure Goes(W0:World)(g:Gh)(W:World)(N:Nat)(df:List Deferred)(x:AEx)(st':St)(next:Act→World→Prop)(Q:Exit→Act→World→Prop):Prop where
 normal:x=.normal→∀g' W' a' L',a'.defers=df→Ext g W g' W'→Inv g' W' a' N L' st'→next a' W'
 panic:∀v,x=.panic v→∀g' W' a' L' u,a'.defers=df→Ext g W g' W'→Inv g' W' a' N L' st'→RV g' W' v u→Q (.panic [{v:=u,recovered:=false}]) a' W'
theorem bpt(a:Act)(d:Option Nat)(v:Value):(a.put d v).defers=a.defers:=by cases d<;>rfl
theorem dch(hi:Inv g W a N L st)(hB:Base W0 g W){rec:Rec}(hrec:bbk P W0 rec)(o:Oper){ao:AOp}(hm:mOp P ao o.op=true)(hdst:b1d N ao.dst o.dst=true){x:AEx}{st':St}
  (h:aop rec st ao=some (x,st')) {next:Act→World→Prop} {Q:Exit→Act→World→Prop} (hg:Goes W0 g W N a.defers x st' next Q):o.wp P a W next Q:=by
 have ok:x=.normal∧b2g P o a g W N L st'→o.wp P a W next Q:=by
  rintro⟨rfl,nx,v,W',g',L',hrun,hnx,hE,hi'⟩;have:=hg.normal rfl g' W' _ L' (bpt a o.dst v) hE hi';unfold Oper.wp;rw[hrun];rcases hnx with rfl | ⟨rfl,rfl⟩
  ·exact this
  ·exact this
 have hd:∀d',ao.dst=some d'→d'<N:=by
  intro d' h1;rw[h1]at hdst;cases hod:o.dst with
  | none=>rw[hod]at hdst;simp[b1d]at hdst
  | some d=>rw[hod]at hdst;simp only[b1d,bp,decide_eq_true_eq]at hdst;exact hdst.2
 have hod:o.dst=ao.dst:=by
  cases h1:ao.dst with
  | none=>
   rw[h1]at hdst;cases h2:o.dst with
   | none=>rfl
   | some d=>rw[h2]at hdst;simp[b1d]at hdst
  | some d=>
   rw[h1]at hdst;cases h2:o.dst with
   | none=>rw[h2]at hdst;simp[b1d]at hdst
   | some d'=>rw[h2]at hdst;simp only[b1d,bp,beq_iff_eq]at hdst;rw[hdst.1]
 have hcf:∀{f:FuncId} {vs:Array Value},bdp P f→(callFunc f vs).run P W=.ok (.enter f vs) W:=by
  rintro f vs ⟨fn,h1,h2,h3⟩;have h3':¬ (fn.body=none):=by intro e;simp[e]at h3
  have h2' : ¬ (fn.name = "runtime.NumGoroutine") := by simpa using h2
  simp[callFunc,h1,h2',h3']
 cases ao with
 | call d f xs=>
  unfold mOp at hm;cases ho:o.op<;>rw[ho]at hm<;>try (cases hm;done)
  rename_i c;obtain⟨callee,args,ats⟩:=c;cases callee<;>try (cases hm;done)
  rename_i v0;cases v0<;>try (cases hm;done)
  rename_i f';simp only[bp,beq_iff_eq]at hm;obtain⟨rfl,hxs⟩:=hm;simp only[aop]at h;split at h
  ·rename_i as has;split at h
   ·rename_i r S' hr;have hT:=b9q hi hxs has;refine dbq hi hB hrec o hr (vs:=args.map a.eval) (by simpa using hT) (fun hc=>?_) hd hod h hg.normal hg.panic;simp[execOp,ho,resolve,Act.eval,Deferred.ofValue,invoke];exact hcf hc
   ·cases h
  ·cases h
 | callv d c xs=>
  unfold mOp at hm;cases ho:o.op<;>rw[ho]at hm<;>try (cases hm;done)
  rename_i cl;obtain⟨callee,args,ats⟩:=cl;cases callee<;>try (cases hm;done)
  rename_i v0;simp only[bp]at hm;obtain⟨hc,hxs⟩:=hm;simp only[aop]at h;split at h
  ·rename_i f first caps as hcv has
   split at h
   ·rename_i r S' hr;have hT:=b9q hi hxs has;have hRc:=bcg (bb7 hi hc hcv) rfl;simp only[R]at hRc;obtain⟨fi,ca,e,h1,h2⟩:=hRc;have e':a.eval v0=.func (.func f) fi ca:=by simpa using e
    refine dbq hi hB hrec o hr (vs:=fi++args.map a.eval++ca) ?_ (fun hcl=>?_) hd hod h hg.normal hg.panic
    ·simp only[r8,Array.toList_map];exact cjg (cjg h1 hT) h2
    ·simp[execOp,ho,resolve,e',Deferred.ofValue,invoke];exact hcf hcl
   ·cases h
  ·cases h
 | panic x0=>
  unfold mOp at hm;cases ho:o.op<;>rw[ho]at hm<;>try (cases hm;done)
  rename_i x';simp only[aop]at h;split at h
  ·rename_i t c hc;simp only[bd,bq]at h;obtain⟨rfl,rfl⟩:=h;have hR:=bb7 hi hm hc;have hR2:=bcg hR rfl;simp only[R]at hR2;obtain⟨u,e,_⟩:=hR2;have e':a.eval x'=.iface t u:=by simpa using e
   unfold Oper.wp;have hrun:(execOp a.eval o).run P W=.halt (.panic (.iface t u)) W:=by
    simp[execOp,ho,e',Instr.panic,Result.andThen]
   rw[hrun];exact hg.panic _ rfl g W a L _ rfl (Ext.refl g W) hi (by rw[e']at hR;exact hR)
  ·cases h
 | _=>exact ok (aop_ok hi o hm hdst h ⟨fun _ _ _ e=>(by cases e),fun _ _ _ e=>(by cases e),fun _ e=>(by cases e)⟩)
theorem dck(hi:Inv g W a N L st)(hB:Base W0 g W){rec:Rec}(hrec:bbk P W0 rec)(o:Oper){ao:AOper}(hm:mOp P ao.op o.op=true)(hdst:b1d N ao.op.dst o.dst=true){x:AEx}{st':St}
  (h:b27 rec st ao=some (x,st')) {next:Act→World→Prop} {Q:Exit→Act→World→Prop} (hg:Goes W0 g W N a.defers x st' next Q):o.wp P a W next Q:=by
 unfold b27 at h;split at h
 ·unfold b70 at h;split at h
  rotate_left
  ·exact dch hi hB hrec o hm hdst h hg
  split at h
  ·obtain⟨op,gd,blk⟩:=ao;simp only at h hm hdst;cases op with
   | call d f xs=>
    simp only[brd]at h;split at h
    ·rename_i as has;split at h
     ·rename_i hcl;split at h
      ·rename_i r own hr;have hd:∀d',d=some d'→d'<N:=by
        intro d' h1;subst h1;simp only[AOp.dst]at hdst;cases hod:o.dst with
        | none=>rw[hod]at hdst;simp[b1d]at hdst
        | some d=>rw[hod]at hdst;simp only[b1d,bp,decide_eq_true_eq]at hdst;exact hdst.2
       have hod:o.dst=d:=by
        simp only[AOp.dst]at hdst;cases d with
        | none=>
         cases h2:o.dst with
         | none=>rfl
         | some d=>rw[h2]at hdst;simp[b1d]at hdst
        | some d=>
         cases h2:o.dst with
         | none=>rw[h2]at hdst;simp[b1d]at hdst
         | some d'=>rw[h2]at hdst;simp only[b1d,bp,beq_iff_eq]at hdst;rw[hdst.1]
       have hcf:∀{f:FuncId} {vs:Array Value},bdp P f→(callFunc f vs).run P W=.ok (.enter f vs) W:=by
        rintro f vs ⟨fn,h1,h2,h3⟩;have h3':¬ (fn.body=none):=by intro e;simp[e]at h3
        have h2' : ¬ (fn.name = "runtime.NumGoroutine") := by simpa using h2
        simp[callFunc,h1,h2',h3']
       unfold mOp at hm;cases ho:o.op<;>rw[ho]at hm<;>try (cases hm;done)
       rename_i c;obtain⟨callee,args,ats⟩:=c;cases callee<;>try (cases hm;done)
       rename_i v0;cases v0<;>try (cases hm;done)
       rename_i f';simp only[bp,beq_iff_eq]at hm;obtain⟨rfl,hxs⟩:=hm;have hT:=b9q hi hxs has;refine dgb hi hB hrec o hr hcl (vs:=args.map a.eval) (by simpa using hT) (fun hc=>?_) hd hod h hg.normal;simp[execOp,ho,resolve,Act.eval,Deferred.ofValue,invoke];exact hcf hc
      ·cases h
     ·cases h
    ·cases h
   | _=>simp[brd]at h
  ·split at h
   ·have hn:aop rec st ao.op=some (x,st'):=by
     revert h
     cases aop rec st ao.op with
     | none=>intro h;exact h
     | some p=>
      obtain⟨y,s⟩:=p;cases y<;>intro h<;>first | exact h | cases h
    exact dch hi hB hrec o hm hdst hn hg
   ·exact dch hi hB hrec o hm hdst h hg
 ·cases h
theorem b6k(hi:Inv g W a N L st)(hB:Base W0 g W){rec:Rec}(hrec:bbk P W0 rec){ops:Array Oper}(o:Oper){ao:AOper}(hm:ccp P N ops ao o=true){x:AEx}{st':St}
  (h:bdb rec st ao=some (x,st')) {next:Act→World→Prop} {Q:Exit→Act→World→Prop} (hg:Goes W0 g W N a.defers x st' next Q) :
  if Region.wanted o (yielded ops a.tmps) then o.wp P a W next Q else next (a.put o.dst undef) W:=by
 simp only[ccp,bp]at hm;obtain⟨⟨h1,h2⟩,h3⟩:=hm;unfold bdb at h;split at h
 ·rename_i hgd;rw[hgd]at h1;have hn:o.guard=none:=by
   cases hq:o.guard with
   | none=>rfl
   | some p=>rw[hq]at h1;simp[cq8]at h1
  rw[if_pos (by simp[Region.wanted,hn])];exact(dck hi hB hrec o h3 h2 h hg)
 ·rename_i k want hgd;rw[hgd]at h1;cases hq:o.guard with
  | none=>rw[hq]at h1;simp[cq8]at h1
  | some p=>
   obtain⟨j,b'⟩:=p;rw[hq]at h1;simp only[cq8,bp,beq_iff_eq]at h1;obtain⟨rfl,h1⟩:=h1;split at h1
   ·rename_i oj hoj;have hdj:oj.dst=some k:=by simpa using h1
    split at h
    ·rename_i b hk;have hs:=hi.slot k;rw[hk]at hs;have hv:a.tmps.getD k undef=.bool b:=bgr.1 hs;have hy:yielded ops a.tmps j=some b:=by
      have:a.tmps[k]? = some (.bool b):=by
       cases ht:a.tmps[k]? with
       | none=>rw[gv,ht]at hv;simp[undef]at hv
       | some v=>rw[gv,ht]at hv;simpa using hv
      simp[yielded,hoj,hdj,this]
     by_cases hw:b=want
     ·subst hw;rw[if_pos (by simp[Region.wanted,hq,hy])];rw[if_pos rfl]at h;exact(dck hi hB hrec o h3 h2 h hg)
     ·rw[if_neg (by simp[Region.wanted,hq,hy,hw])];rw[if_neg hw]at h;cases hd:ao.op.dst with
      | none=>
       rw[hd]at h h2;simp only[normal,bd,bq]at h;obtain⟨rfl,rfl⟩:=h;have hod:o.dst=none:=by
        cases hod:o.dst with
        | none=>rfl
        | some d=>rw[hod]at h2;simp[b1d]at h2
       rw[hod];exact hg.normal rfl g W _ L rfl (Ext.refl g W) hi
      | some d=>
       rw[hd]at h h2;simp only[normal,bd,bq]at h;obtain⟨rfl,rfl⟩:=h;cases hod:o.dst with
       | none=>rw[hod]at h2;simp[b1d]at h2
       | some d'=>
        rw[hod]at h2;simp only[b1d,bp,beq_iff_eq,decide_eq_true_eq]at h2;obtain⟨rfl,hN⟩:=h2;exact hg.normal rfl g W _ L (bpt a _ _) (Ext.refl g W) (hi.put d hN .undef undef rfl)
    ·rename_i hk;have hs:=hi.slot k;rw[hk]at hs;have hv:a.tmps.getD k undef=undef:=hs;have hy:yielded ops a.tmps j=none:=by
      cases ht:a.tmps[k]? with
      | none=>simp[yielded,hoj,hdj,ht]
      | some v=>
       rw[gv,ht]at hv;have hv':v=undef:=by simpa using hv
       subst hv';simp[yielded,hoj,hdj,ht,undef]
     rw[if_neg (by simp[Region.wanted,hq,hy])];cases hd:ao.op.dst with
     | none=>
      rw[hd]at h h2;simp only[normal,bd,bq]at h;obtain⟨rfl,rfl⟩:=h;have hod:o.dst=none:=by
       cases hod:o.dst with
       | none=>rfl
       | some d=>rw[hod]at h2;simp[b1d]at h2
      rw[hod];exact hg.normal rfl g W _ L rfl (Ext.refl g W) hi
     | some d=>
      rw[hd]at h h2;simp only[normal,bd,bq]at h;obtain⟨rfl,rfl⟩:=h;cases hod:o.dst with
      | none=>rw[hod]at h2;simp[b1d]at h2
      | some d'=>
       rw[hod]at h2;simp only[b1d,bp,beq_iff_eq,decide_eq_true_eq]at h2;obtain⟨rfl,hN⟩:=h2;exact hg.normal rfl g W _ L (bpt a _ _) (Ext.refl g W) (hi.put d hN .undef undef rfl)
    ·cases h
   ·cases h1
theorem b37(hi:Inv g W a N L st)(hB:Base W0 g W){rec:Rec}(hrec:bbk P W0 rec){ops:Array Oper}(o:Oper){ao:AOper}(hm:ccp P N ops ao o=true){x:AEx}{st':St}
  (h:bdb rec st ao=some (x,st')) {next:Act→World→Prop} {Q:Exit→Act→World→Prop} (hg:Goes W0 g W N a.defers x st' next Q) :
  if Region.wanted o (yielded ops a.tmps) then o.wp P a W next Q∨(o.asks P a W∧LetsOut Q) else next (a.put o.dst undef) W:=by
 have h0:=b6k hi hB hrec (ops:=ops) o hm h hg;split
 ·rename_i hw;rw[if_pos hw]at h0;exact .inl h0
 ·rename_i hw;rw[if_neg hw]at h0;exact h0
def bfz(rec:Rec)(aos:List AOper):List Nat→St→Option (AEx×St)
 | [],st=>normal st
 | i::is,st=>match aos[i]? with
  | some o=>match bdb rec st o with
   | some (.normal,st')=>bfz rec aos is st'
   | r=>r
  | none=>none
def bpx(P:Program)(N:Nat)(ops:Array Oper):List AOper→List Oper→Bool
 | [],[]=>true
 | ao::aos,o::os=>ccp P N ops ao o&&bpx P N ops aos os
 | _,_=>false
theorem bs6{ops:Array Oper}:∀{aos:List AOper} {os:List Oper},bpx P N ops aos os=true→∀(i:Nat) {ao:AOper},aos[i]? = some ao→∃o,os[i]? = some o∧ccp P N ops ao o=true
 | [],[],_,i,ao,h=>by simp at h
 | [],_::_,hm,_,_,_=>by simp[bpx]at hm
 | _::_,[],hm,_,_,_=>by simp[bpx]at hm
 | a0::aos,o0::os,hm,i,ao,h=>by
  simp only[bpx,bp]at hm;cases i with
  | zero=>
   obtain rfl:a0=ao:=by simpa using h
   exact⟨o0,rfl,hm.1⟩
  | succ i=>exact bs6 hm.2 i (by simpa using h)
theorem bkb{ops:Array Oper}:∀{aos:List AOper} {os:List Oper},bpx P N ops aos os=true→aos.length=os.length
 | [],[],_=>rfl
 | [],_::_,hm=>by simp[bpx]at hm
 | _::_,[],hm=>by simp[bpx]at hm
 | _::_,_::_,hm=>by simp only[bpx,bp]at hm;simp[bkb hm.2]
theorem c4v{rec:Rec}(hrec:bbk P W0 rec){ops:Array Oper}{aos:List AOper}(hm:bpx P N ops aos ops.toList=true){Q:Exit→Act→World→Prop} :
  ∀ (is:List Nat) {g:Gh} {W:World} {a:Act} {L:Nat→Nat} {st:St} (hi:Inv g W a N L st) (hB:Base W0 g W) {x:AEx} {st':St} (h:bfz rec aos is st=some (x,st'))
    (hg:Goes W0 g W N a.defers x st' (Q .normal) Q),wpOps P ops Q is a W
 | [],g,W,a,L,st,hi,hB,x,st',h,hg=>by
  simp only[bfz,normal,bd,bq]at h;obtain⟨rfl,rfl⟩:=h;exact hg.normal rfl g W a L rfl (Ext.refl g W) hi
 | i::is,g,W,a,L,st,hi,hB,x,st',h,hg=>by
  simp only[bfz]at h;split at h
  ·rename_i ao hao;obtain⟨o,ho,hmo⟩:=bs6 hm i hao;have ho':ops[i]? = some o:=by simpa using ho
   simp only[wpOps,ho'];split at h
   ·rename_i st1 h1;refine b37 hi hB hrec o hmo h1 ⟨fun _ g' W' a' L' hdf hE hi'=>?_,fun v hv=>by cases hv⟩;refine c4v hrec hm is hi' (hB.ext' hE) h ⟨fun hx g2 W2 a2 L2 hd2 hE2 hi2=>?_,fun v hx g2 W2 a2 L2 u hd2 hE2 hi2 hu=>?_⟩
    ·exact hg.normal hx g2 W2 a2 L2 (hd2.trans hdf) (hE.trans hE2) hi2
    ·exact hg.panic v hx g2 W2 a2 L2 u (hd2.trans hdf) (hE.trans hE2) hi2 hu
   ·rename_i hne;refine b37 hi hB hrec o hmo h ⟨fun hx=>?_,hg.panic⟩;subst hx;exact absurd h (by intro e;exact hne _ e)
  ·cases h
end
end Go.Av
namespace Go.Av
open Go
def Opd.rd:Opd→List Nat
 | .s k=>[k]
 | .c _=>[]
def cq0:Option Opd→List Opd
 | some x=>[x]
 | none=>[]
def AOp.opds:AOp→List Opd
 | .mov _ x _ | .box _ _ x _ | .load _ _ _ x | .take _ x | .un _ _ x | .convI _ _ x | .convS _ x | .convB _ x | .extract _ x _ | .field _ _ _ _ x | .faddr _ _ x | .nilchk _ x | .mkif _ _ x | .tassert _ _ _ _ x | .len _ _ x
 | .eqnil _ _ _ x | .panic x=>[x]
 | .nils .. | .alloc .. | .makeMap ..=>[]
 | .lookup _ _ _ _ x k=>[x,k]
 | .mapUpd _ x k v=>[x,k,v]
 | .pick _ c a b=>[c,a,b]
 | .store x y _ _ _ | .bin _ _ x y | .eqb _ _ x y | .iaddrA _ _ _ x y | .iaddrS _ _ x y | .idxS _ x y | .idxA _ _ _ _ x y | .mm _ _ x y | .append _ _ _ _ x y | .make _ _ _ _ _ x y | .makeL _ _ _ _ _ x y | .cloneL _ _ _ _ _ x y | .eqagg _ _ _ x y=>[x,y]
 | .mkfn _ _ f c=>f++c
 | .slice _ _ x lo hi | .sliceS _ x lo hi | .sliceA _ _ _ _ x lo hi=>x::(cq0 lo++cq0 hi)
 | .build _ _ ps=>ps.map fun p=>p.2.2
 | .buildR _ _ ps j k=>(ps++[(j,1,Opd.s k)]).map fun(p:Nat×Nat×Opd)=>p.2.2
 | .bslice _ _ _ xs=>xs
 | .call _ _ xs=>xs
 | .callv _ c xs=>c::xs
def AOp.rd(o:AOp):List Nat:=o.opds.flatMap Opd.rd
def AOper.rd(o:AOper):List Nat:=(match o.gd with | some (k,_)=>[k] | none=>[])++o.op.rd
def AOp.used:AOp→List Nat
 | .mov _ x true=>x.rd
 | .store _ y _ true _=>y.rd
 | .append _ _ _ _ x _=>x.rd
 | .buildR _ _ _ _ k=>[k]
 | .cloneL _ _ _ _ _ x _=>x.rd
 | _=>[]
def AOp.wr(o:AOp):List Nat:=o.dst.toList++o.used
inductive Mem where
 | no
 | rd (m:Option Nat)
 | wr (m:Option Nat)
 | new (d:Nat)
 | call
 | rdS
 | lc
 | bad
 deriving DecidableEq
def AOper.mem(o:AOper):Mem:=
 match o.op with
 | .load ..=>if o.blk=some 77777 then .rdS else .rd o.blk
 | .take .. | .store ..=>if o.blk=some 77777 then .lc else .wr o.blk
 | .box d sh _ _ | .alloc d sh _ _=>if sh then .wr none else .new d
 | .makeL d ..=>.new d
 | .cloneL d ..=>.new d
 | .makeMap .. | .mapUpd ..=>.wr none
 | .lookup ..=>.rd none
 | .call .. | .callv ..=>if o.blk=some 55555 then .no else if o.blk=some 66666∨o.blk=some 66667 then .lc else .call
 | .panic _=>.bad
 | _=>.no
def ob(st:St)(k:Nat):SV×Option Nat:=(st.σ.get k,bbx st.own k)
theorem bgx(l:List (Nat×Nat))(d k:Nat):bbx (l.filter fun p=>p.1 != d) k=if d=k then none else bbx l k:=by
 induction l with
 | nil=>simp[bbx]
 | cons p r ih=>
  obtain⟨j,e⟩:=p;simp only[kp];by_cases h:j=d
  ·subst h;simp only[bne_self_eq_false,ck,if_false,ih,bbx];split
   ·rfl
   ·rfl
  ·have:(j != d)=true:=by simpa using h
   simp only[this,if_true,bbx,ih];by_cases h2:j=k
   ·subst h2;have h3:¬ d=j:=fun e=>h e.symm
    simp[h3]
   ·simp[h2]
theorem bb6(st:St)(d k:Nat)(s:SV):ob (st.put d s) k=if d=k then(s,none) else ob st k:=by
 simp only[ob,St.put,St.drop,zq.get_set,bgx];split<;>rfl
theorem bmt(st:St)(d e k:Nat):ob (st.right d e) k=if d=k then((ob st k).1,some e) else ob st k:=by
 simp only[ob,St.right,bbx];split<;>rfl
theorem brz(st:St)(d k:Nat):ob {st with own:=st.drop d} k=if d=k then((ob st k).1,none) else ob st k:=by
 simp only[ob,St.drop,bgx];split<;>rfl
structure Agree(o:AOper)(st st':St):Prop where
 sl:∀k,k∈o.rd∨k∈o.op.wr→ob st k=ob st' k
 lc:∀x d off,o.op.addr=some x→st.sv x=.l d off→(∀m,o.blk=some m→m=d)→o.mem≠.rdS→st.loc.get d=st'.loc.get d
 S:(o.mem=.rd none∨o.mem=.wr none∨o.mem=.call∨o.mem=.rdS∨o.mem=.lc)→st.S=st'.S
def AOper.may(o:AOper)(d:Nat):Prop:=
 match o.mem with
 | .wr none=>True
 | .wr (some m)=>m=d
 | .new m=>m=d
 | _=>False
def AOper.chS(o:AOper):Prop:=o.mem=.wr none∨o.mem=.lc
structure Fr(o:AOper)(st st1:St):Prop where
 sl:∀k,k∉o.op.wr→ob st1 k=ob st k
 lc:∀d,¬ o.may d→st1.loc.get d=st.loc.get d
 S:¬ o.chS→st1.S=st.S
def NoL(st:St)(d:Nat):Prop:=∀k,(st.σ.get k).aims d=false
structure LocalTo(o:AOper)(st st' st1 st1':St):Prop where
 fr:Fr o st st1
 fr':Fr o st' st1'
 sl:∀k,k∈o.op.wr→ob st1 k=ob st1' k
 lc:∀d,st1.loc.get d=st1'.loc.get d∨(st1.loc.get d=st.loc.get d∧st1'.loc.get d=st'.loc.get d)
 S:st1.S=st1'.S∨(st1.S=st.S∧st1'.S=st'.S)
 nol:∀d,NoL st d→o.mem≠.new d→NoL st1 d
section
variable{st st':St}
theorem dp2{x:Opd}(h:∀k,k∈x.rd→st.σ.get k=st'.σ.get k):st.sv x=st'.sv x:=by
 cases x with
 | s k=>exact h k (by simp[Opd.rd])
 | c a=>rfl
theorem bq1:∀{xs:List Opd},(∀x,x∈xs→st.sv x=st'.sv x)→st.avs xs=st'.avs xs
 | [],_=>rfl
 | x::xs,h=>by
  simp only[St.avs,St.av,h x (.head _)];rw[bq1 (xs:=xs) fun y hy=>h y (.tail _ hy)]
theorem bv3:∀{ps:List (Nat×Nat×Opd)} {z:LA},(∀x,x∈ps.map (fun p=>p.2.2)→st.sv x=st'.sv x)→bgd st z ps=bgd st' z ps
 | [],_,_=>rfl
 | (off,n,x)::ps,z,h=>by
  simp only[bgd,St.av,h x (by simp)];split
  ·split
   ·exact bv3 fun y hy=>h y (by simp at hy ⊢;exact .inr hy)
   ·rfl
  ·rfl
theorem bkr{o:Option Opd}{n:Nat}(h:∀x,x∈cq0 o→st.sv x=st'.sv x):bfv st n o=bfv st' n o:=by
 cases o with
 | none=>rfl
 | some x=>simp only[bfv,St.av,h x (by simp[cq0])]
theorem b9k{s:SV}(h:∀d off,s=.l d off→st.loc.get d=st'.loc.get d)(hS:st.S=st'.S):st.cellsAt s=st'.cellsAt s:=by
 unfold St.cellsAt;split
 ·rfl
 ·rename_i d off;rw[h d off rfl]
 ·simp only[St.cellBox,hS]
 ·rfl
theorem cz6{o:AOp}(h:∀x,x∈o.opds→st.sv x=st'.sv x)(hc:∀x,o.addr=some x→st.cellsAt (st.sv x)=st'.cellsAt (st.sv x)):bbb st o=bbb st' o:=by
 cases o
 case load d n ag x=>
  have hx:=h x (by simp[AOp.opds]);simp only[bbb,← hx];rw[hc x rfl]
 case mkfn d fn f c=>
  simp only[bbb];rw[bq1 (xs:=f) fun x hx=>h x (by simp[AOp.opds,hx]),bq1 (xs:=c) fun x hx=>h x (by simp[AOp.opds,hx])]
 case build d z ps=>
  simp only[bbb];rw[bv3 fun x hx=>h x (by simpa[AOp.opds] using hx)]
 case slice d sz x lo hi=>
  have hx:=h x (by simp[AOp.opds]);simp only[bbb,St.av,hx];split
  ·rw[bkr (o:=lo) fun x hx=>h x (by simp[AOp.opds,hx]),bkr (o:=hi) fun x hx=>h x (by simp[AOp.opds,hx])]
  ·rfl
 case sliceS d x lo hi=>
  have hx:=h x (by simp[AOp.opds]);simp only[bbb,St.av,hx];split
  ·rw[bkr (o:=lo) fun x hx=>h x (by simp[AOp.opds,hx]),bkr (o:=hi) fun x hx=>h x (by simp[AOp.opds,hx])]
  ·rfl
 case sliceA d len sz ag x lo hi=>
  have hx:=h x (by simp[AOp.opds]);simp only[bbb,St.av,hx];split
  ·rw[bkr (o:=lo) fun x hx=>h x (by simp[AOp.opds,hx]),bkr (o:=hi) fun x hx=>h x (by simp[AOp.opds,hx])]
  ·rfl
 all_goals simp[AOp.opds,bbb,St.av]at h ⊢
 all_goals simp[h]
def AOp.isPure:AOp→Bool
 | .mov .. | .nils .. | .box .. | .alloc .. | .take .. | .store .. | .bslice .. | .buildR .. | .append .. | .make .. | .makeL .. | .cloneL .. | .makeMap .. | .lookup .. | .mapUpd .. | .call .. | .callv .. | .panic _=>false
 | _=>true
theorem dkf{rec:Rec}{o:AOp}(h:o.isPure=true):aop rec st o=match bbb st o,o.dst with | some s,some d=>normal (st.put d s) | _,_=>none:=by
 cases o<;>first | rfl | (simp[AOp.isPure]at h)
theorem dcc{o:AOp}{s:SV}{d:Nat}(h:bbb st o=some s)(hn:NoL st d):s.aims d=false:=by
 have hsv:∀x,(st.sv x).aims d=false:=by
  intro x;cases x with
  | s k=>exact hn k
  | c a=>rfl
 have hl:∀x d' off,st.sv x=.l d' off→(d'==d)=false:=fun x d' off e=>by
  have:=hsv x;rw[e]at this;exact this
 have hls:∀x d' sz ag n,st.sv x=.ls d' sz ag n→(d'==d)=false:=fun x d' sz ag n e=>by
  have:=hsv x;rw[e]at this;exact this
 cases o<;>simp only[bbb]at h
 all_goals (repeat' split at h)
 all_goals first
  | (cases h;done)
  | (simp at h;done)
  | (obtain rfl:=bf h;rfl)
  | (simp only[bv]at h;obtain⟨_,_,rfl⟩:=h;rfl)
  | (simp only[bv]at h;obtain⟨_,_,rfl⟩:=h;split<;>rfl)
  | (obtain rfl:=bf h;exact hl _ _ _ (by assumption))
  | (obtain rfl:=bf h;exact hls _ _ _ _ _ (by assumption))
  | (obtain rfl:=bf h;exact hsv _)
  | (obtain rfl:=bf h;split<;>exact hsv _)
end
section
variable{st st' st1:St}
theorem bm8{d k:Nat}{s:SV}(h:NoL st d)(hs:s.aims d=false):NoL (st.put k s) d:=by
 intro j;simp only[St.put,zq.get_set];split
 ·exact hs
 ·exact h j
theorem dq1{d:Nat}{own:List (Nat×Nat)}(h:NoL st d):NoL {st with own:=own} d:=h
theorem dmc{d:Nat}(h:NoL st d)(x:Opd):(st.sv x).aims d=false:=by
 cases x with
 | s k=>exact h k
 | c a=>rfl
theorem ch6{d:Nat}{s:SV}(h:s.aims d=false):s.kill d=s:=by
 cases s with
 | l d' off=>
  have:d'≠d:=by simpa[SV.aims] using h
  simp[SV.kill,this]
 | ls d' sz ag n=>
  have:d'≠d:=by simpa[SV.aims] using h
  simp[SV.kill,this]
 | _=>rfl
theorem bf1{d:Nat}(h:NoL st d)(k:Nat):(st.σ.kill d).get k=st.σ.get k:=by
 rw[zq.get_kill,ch6 (h k)]
theorem Agree.opd{o:AOper}(h:Agree o st st'){x:Opd}(hx:x∈o.op.opds):st.sv x=st'.sv x:=by
 refine dp2 fun k hk=>?_
 have:=h.sl k (.inl (by simp only[AOper.rd,d7,AOp.rd,qr];exact .inr ⟨x,hx,hk⟩));simp only[ob,bq]at this;exact this.1
theorem Agree.rt{o:AOper}(h:Agree o st st'){x:Opd}(hx:x∈o.op.opds){k:Nat}(hk:k∈x.rd):bbx st.own k=bbx st'.own k:=by
 have:=h.sl k (.inl (by simp only[AOper.rd,d7,AOp.rd,qr];exact .inr ⟨x,hx,hk⟩));simp only[ob,bq]at this;exact this.2
theorem Agree.wr{o:AOper}(h:Agree o st st'){k:Nat}(hk:k∈o.op.wr):ob st k=ob st' k:=h.sl k (.inr hk)
theorem bhh{o:AOper}(h:Agree o st st'){d:Nat}(hd:o.op.dst=some d)(hu:o.op.used=[]){s:SV}(hs:∀d',NoL st d'→o.mem≠.new d'→s.aims d'=false) :
  LocalTo o st st' (st.put d s) (st'.put d s):=by
 have hw:o.op.wr=[d]:=by simp[AOp.wr,hd,hu]
 refine⟨⟨fun k hk=>?_,fun _ _=>rfl,fun _=>rfl⟩,⟨fun k hk=>?_,fun _ _=>rfl,fun _=>rfl⟩,fun k hk=>?_,fun d'=>.inr ⟨rfl,rfl⟩,.inr ⟨rfl,rfl⟩,fun d' h1 h2=>bm8 h1 (hs d' h1 h2)⟩
 ·rw[hw]at hk;simp at hk;rw[bb6,if_neg (fun e=>hk e.symm)]
 ·rw[hw]at hk;simp at hk;rw[bb6,if_neg (fun e=>hk e.symm)]
 ·rw[hw]at hk;simp at hk;subst hk;rw[bb6,bb6,if_pos rfl,if_pos rfl]
theorem bs1{o:AOper}(h:Agree o st st'){d e:Nat}(hd:o.op.dst=some d)(hu:o.op.used=[]){s:SV}(hs:∀d',NoL st d'→o.mem≠.new d'→s.aims d'=false) :
  LocalTo o st st' ((st.put d s).right d e) ((st'.put d s).right d e):=by
 obtain⟨h1,h2,h3,h4,h5,h6⟩:=bhh h hd hu hs;have hw:o.op.wr=[d]:=by simp[AOp.wr,hd,hu]
 refine⟨⟨fun k hk=>?_,h1.lc,h1.S⟩,⟨fun k hk=>?_,h2.lc,h2.S⟩,fun k hk=>?_,h4,h5,h6⟩
 ·rw[bmt,if_neg (fun e=>hk (by rw[hw,e];simp)),h1.sl k hk]
 ·rw[bmt,if_neg (fun e=>hk (by rw[hw,e];simp)),h2.sl k hk]
 ·rw[bmt,bmt,h3 k hk]
theorem b06{o:AOper}{d k0:Nat}(hw:∀k,k∈o.op.wr↔k=d∨k=k0){s:SV}(hs:∀d',NoL st d'→o.mem≠.new d'→s.aims d'=false)(hk0:st.σ.get k0=st'.σ.get k0) :
  LocalTo o st st' (St.put {st with own:=st.drop k0} d s) (St.put {st' with own:=st'.drop k0} d s):=by
 refine⟨⟨fun k hk=>?_,fun _ _=>rfl,fun _=>rfl⟩,⟨fun k hk=>?_,fun _ _=>rfl,fun _=>rfl⟩,fun k hk=>?_,fun d'=>.inr ⟨rfl,rfl⟩,.inr ⟨rfl,rfl⟩,fun d' h1 h2=>bm8 (dq1 h1) (hs d' h1 h2)⟩
 ·rw[hw]at hk;rw[bb6,if_neg (fun e=>hk (.inl e.symm)),brz,if_neg (fun e=>hk (.inr e.symm))]
 ·rw[hw]at hk;rw[bb6,if_neg (fun e=>hk (.inl e.symm)),brz,if_neg (fun e=>hk (.inr e.symm))]
 ·rw[hw]at hk;rw[bb6,bb6,brz,brz];rcases hk with rfl | rfl
  ·simp
  ·split
   ·rfl
   ·simp[ob,hk0]
theorem bkx{o:AOper}{d e:Nat}(hd:d∈o.op.wr){x x' y y':St}(h:LocalTo o x x' y y'):LocalTo o x x' (y.right d e) (y'.right d e):=by
 obtain⟨h1,h2,h3,h4,h5,h6⟩:=h;refine⟨⟨fun k hk=>?_,h1.lc,h1.S⟩,⟨fun k hk=>?_,h2.lc,h2.S⟩,fun k hk=>?_,h4,h5,h6⟩
 ·rw[bmt,if_neg (fun e=>hk (by rw[← e];exact hd)),h1.sl k hk]
 ·rw[bmt,if_neg (fun e=>hk (by rw[← e];exact hd)),h2.sl k hk]
 ·rw[bmt,bmt,h3 k hk]
structure Mem1(o:AOper)(st st' st1 st1':St):Prop where
 σ:st1.σ=st.σ
 σ':st1'.σ=st'.σ
 own:st1.own=st.own
 own':st1'.own=st'.own
 fr:∀d,¬ o.may d→st1.loc.get d=st.loc.get d
 fr':∀d,¬ o.may d→st1'.loc.get d=st'.loc.get d
 frS:¬ o.chS→st1.S=st.S
 frS':¬ o.chS→st1'.S=st'.S
 lc:∀d,st1.loc.get d=st1'.loc.get d∨(st1.loc.get d=st.loc.get d∧st1'.loc.get d=st'.loc.get d)
 S:st1.S=st1'.S∨(st1.S=st.S∧st1'.S=st'.S)
theorem cq6{o:AOper}{d:Nat}(hd:o.may d)(bx:Bx):Mem1 o st st' {st with loc:=st.loc.set d bx} {st' with loc:=st'.loc.set d bx}:=by
 refine⟨rfl,rfl,rfl,rfl,fun d' hd'=>?_,fun d' hd'=>?_,fun _=>rfl,fun _=>rfl,fun d'=>?_,.inr ⟨rfl,rfl⟩⟩
 ·have:¬ d=d':=fun e=>hd' (e▸hd)
  simp[bc8.get_set,this]
 ·have:¬ d=d':=fun e=>hd' (e▸hd)
  simp[bc8.get_set,this]
 ·by_cases e:d=d'
  ·subst e;left;simp[bc8.get_set]
  ·right;simp[bc8.get_set,e]
theorem b83{o:AOper}(ho:o.chS)(S:LB):Mem1 o st st' {st with S:=S} {st' with S:=S}:=
 ⟨rfl,rfl,rfl,rfl,fun _ _=>rfl,fun _ _=>rfl,fun h=>absurd ho h,fun h=>absurd ho h,fun _=>.inr ⟨rfl,rfl⟩,.inl rfl⟩
theorem b26{o:AOper}{x:SV}{new:LA}{e:Option (Nat×Nat)}{nl:List (Nat×Nat)}(hb:∀d off,x=.l d off→o.may d)
  (hl:∀d off,x=.l d off→st.loc.get d=st'.loc.get d) (hS:∀i off,x=.v (.ptr i off)→o.chS∧st.S=st'.S) (h:bgb st x new e nl=some st1) :
  ∃st1',bgb st' x new e nl=some st1'∧Mem1 o st st' st1 st1':=by
 unfold bgb at h ⊢;dsimp only at h ⊢;split at h
 ·rename_i d off;have he:=hl d off rfl;rw[← he];split at h
  ·rename_i bx hbx;simp only[bv]at h;obtain⟨bx',h1,rfl⟩:=h;have hmd:o.may d:=hb d off rfl;exact⟨_,by rw[h1];rfl,cq6 hmd bx'⟩
  ·cases h
 ·rename_i i off;obtain⟨hmn,he⟩:=hS i off rfl;have he':st.cellBox i=st'.cellBox i:=by unfold St.cellBox;rw[he]
  rw[← he',← he];split at h
  ·rename_i bx hbx;simp only[bv]at h;obtain⟨bx',h1,rfl⟩:=h;refine⟨{st' with S:=st.S.set i bx'},by rw[h1];simp,b83 hmn _⟩
  ·cases h
 ·cases h
theorem bkq{o:AOper}{st1':St}(h:Agree o st st')(m:Mem1 o st st' st1 st1'):LocalTo o st st' st1 st1':=by
 have q:∀k,ob st1 k=ob st k:=fun k=>by simp[ob,m.σ,m.own]
 have q':∀k,ob st1' k=ob st' k:=fun k=>by simp[ob,m.σ',m.own']
 refine⟨⟨fun k _=>q k,m.fr,m.frS⟩,⟨fun k _=>q' k,m.fr',m.frS'⟩,fun k hk=>by rw[q,q',h.wr hk],m.lc,m.S,fun d hd _ k=>by rw[m.σ];exact hd k⟩
theorem c5z{o:AOper}{k0:Nat}(hk0:k0∈o.op.wr){st1':St}(h:Agree o st st')(m:Mem1 o {st with own:=st.drop k0} {st' with own:=st'.drop k0} st1 st1'):LocalTo o st st' st1 st1':=by
 have q:∀k,ob st1 k=ob {st with own:=st.drop k0} k:=fun k=>by simp[ob,m.σ,m.own]
 have q':∀k,ob st1' k=ob {st' with own:=st'.drop k0} k:=fun k=>by simp[ob,m.σ',m.own']
 refine⟨⟨fun k hk=>?_,m.fr,m.frS⟩,⟨fun k hk=>?_,m.fr',m.frS'⟩,fun k hk=>?_,m.lc,m.S,fun d hd _ k=>by rw[m.σ];exact hd k⟩
 ·rw[q,brz,if_neg (by intro e;exact hk (e▸hk0))]
 ·rw[q',brz,if_neg (by intro e;exact hk (e▸hk0))]
 ·rw[q,q',brz,brz,h.wr hk]
theorem bx8{o:AOper}{d:Nat}(hw:o.op.wr=[d]){st1':St}{s:SV}(hs:∀d',NoL st d'→o.mem≠.new d'→s.aims d'=false)(m:Mem1 o st st' st1 st1'):LocalTo o st st' (st1.put d s) (st1'.put d s):=by
 have q:∀k,ob st1 k=ob st k:=fun k=>by simp[ob,m.σ,m.own]
 have q':∀k,ob st1' k=ob st' k:=fun k=>by simp[ob,m.σ',m.own']
 refine⟨⟨fun k hk=>?_,m.fr,m.frS⟩,⟨fun k hk=>?_,m.fr',m.frS'⟩,fun k hk=>?_,m.lc,m.S,fun d' hd hn=>bm8 (fun k=>by rw[m.σ];exact hd k) (hs d' hd hn)⟩
 ·rw[hw]at hk;simp at hk;rw[bb6,if_neg (fun e=>hk e.symm),q]
 ·rw[hw]at hk;simp at hk;rw[bb6,if_neg (fun e=>hk e.symm),q']
 ·rw[hw]at hk;simp at hk;subst hk;rw[bb6,bb6,if_pos rfl,if_pos rfl]
end
end Go.Av
namespace Go.Av
open Go
section
variable{st st' st1:St}
theorem ct6{rec:Rec}{f:Nat}{as:LA}{S S':LB}{e:AEnd}(h:rec.quiet f as S=some (e,S')):S'=S∧∃r own,e=.ret r own:=by
 unfold Rec.quiet at h;split at h
 ·split at h
  ·rename_i hS;simp only[bd,bq]at h;exact⟨h.2▸hS,_,_,h.1.symm⟩
  ·cases h
 ·cases h
theorem dqd{o:AOper}(h:o.mem=.rdS):o.blk=some 77777:=by
 unfold AOper.mem at h;split at h<;>first
  | (split at h<;>first | assumption | cases h)
  | (split at h<;>first | cases h | (split at h<;>cases h))
  | cases h
theorem bx7{o:AOper}(st st':St):Mem1 o st st' st st':=⟨rfl,rfl,rfl,rfl,fun _ _=>rfl,fun _ _=>rfl,fun _=>rfl,fun _=>rfl,fun _=>.inr ⟨rfl,rfl⟩,.inr ⟨rfl,rfl⟩⟩
theorem ck6{o:AOper}{y y':St}(h:LocalTo o st st' y y')(S2 S2':LB)(hS:(S2=S2'∧o.chS)∨(S2=st.S∧S2'=st'.S)):LocalTo o st st' {y with S:=S2} {y' with S:=S2'}:=by
 refine⟨⟨h.fr.sl,h.fr.lc,fun hc=>?_⟩,⟨h.fr'.sl,h.fr'.lc,fun hc=>?_⟩,h.sl,h.lc,?_,h.nol⟩
 ·rcases hS with⟨_,h1⟩ | ⟨h1,_⟩
  ·exact absurd h1 hc
  ·exact h1
 ·rcases hS with⟨_,h1⟩ | ⟨_,h1⟩
  ·exact absurd h1 hc
  ·exact h1
 ·rcases hS with⟨h1,_⟩ | ⟨h1,h2⟩
  ·exact .inl h1
  ·exact .inr ⟨h1,h2⟩
theorem br7{o:AOper}(h:Agree o st st'){d:Option Nat}(hd:o.op.dst=d)(hu:o.op.used=[]){r:AV}{own:Option Nat}{S2 S2':LB}(hS:(S2=S2'∧o.chS)∨(S2=st.S∧S2'=st'.S)){x:AEx}
  (hx:bch d st (.ret r own) S2=some (x,st1)):x=.normal∧∃st1',bch d st' (.ret r own) S2'=some (.normal,st1')∧LocalTo o st st' st1 st1':=by
 unfold bch at hx ⊢;cases d with
 | none=>
  simp only[normal,bd,bq]at hx;obtain⟨rfl,rfl⟩:=hx;exact⟨rfl,_,rfl,ck6 (bkq h (bx7 st st')) S2 S2' hS⟩
 | some d=>
  cases own with
  | none=>
   simp only[normal,bd,bq]at hx;obtain⟨rfl,rfl⟩:=hx;exact⟨rfl,_,rfl,ck6 (bhh h hd hu (s:=.v r) fun _ _ _=>rfl) S2 S2' hS⟩
  | some te=>
   simp only[normal,bd,bq]at hx;obtain⟨rfl,rfl⟩:=hx;exact⟨rfl,_,rfl,ck6 (bs1 h hd hu (s:=cks r te) (e:=retE r te) fun _ _ _=>by cases r<;>rfl) S2 S2' hS⟩
def cdr(R:Rec):Prop:=∀f as S r S',R f as S=some (r,S')→S'=S∧∃a own,r=.ret a own
theorem cf3(rec:Rec):cdr rec.quiet:=fun f as S r S' h=>ct6 h
def csm(R:Rec)(f:St→AOper→Option (AEx×St))(o:AOper)(st st':St)(x:AEx)(st1:St):Prop:=
 (x=.normal∧∃st1',f st' o=some (.normal,st1')∧LocalTo o st st' st1 st1') ∨
 (∃v,x=.panic v∧o.blk=some 66666∧o.mem=.lc∧st1={st with S:=st1.S}∧f st' o=some (.panic v,{st' with S:=st1.S}))
theorem cz4{o:AOper}(h:Agree o st st'):bqz st o=bqz st' o:=by
 unfold bqz;split
 ·rename_i m x hm hx;have:x∈o.op.opds:=by
   revert hx
   cases o.op<;>simp[AOp.addr,AOp.opds]<;>intro h<;>simp[h]
  rw[h.opd this]
 ·rfl
theorem cfk{o:AOper}(hop:(∃d y,o.op=.take d y)∨∃y z n tk nl,o.op=.store y z n tk nl)(h:Agree o st st')(hb:bqz st o=true){y:Opd}(hy:o.op.addr=some y) :
  (∀d off,st.sv y=.l d off→o.may d)∧∀i off,st.sv y=.v (.ptr i off)→o.chS∧st.S=st'.S:=by
 have hm:o.mem=if o.blk=some 77777 then .lc else .wr o.blk:=by
  unfold AOper.mem;rcases hop with⟨d,y,e⟩ | ⟨y,z,n,tk,nl,e⟩<;>rw[e]
 refine⟨fun d off hsv=>?_,fun i off hsv=>?_⟩
 ·unfold AOper.may;cases hq:o.blk with
  | none=>rw[hm,hq];simp
  | some m=>
   rcases bmc hb hq hy with⟨off',q,h7⟩ | ⟨cs,q⟩ | ⟨_,i,off',q⟩<;>rw[hsv]at q
   ·simp only[SV.l.injEq]at q;have:¬ o.blk=some 77777:=by rw[hq];simpa using h7
    rw[hm,if_neg this,hq];exact q.1.symm
   ·cases q
   ·cases q
 ·cases hq:o.blk with
  | none=>
   have h1:o.mem=.wr none:=by rw[hm,hq];simp
   exact⟨.inl h1,h.S (.inr (.inl h1))⟩
  | some m=>
   rcases bmc hb hq hy with⟨off',q,h7⟩ | ⟨cs,q⟩ | ⟨h7,i',off',q⟩
   ·rw[hsv]at q;cases q
   ·rw[hsv]at q;cases q
   ·subst h7;have h1:o.mem=.lc:=by rw[hm,hq];simp
    exact⟨.inr h1,h.S (.inr (.inr (.inr (.inr h1))))⟩
theorem cpd{R:Rec}{o:AOper}(hnc:o.op.isCall=false)(h:Agree o st st')(hbad:o.mem≠.bad)(hnew:∀d,o.mem=.new d→NoL st d∧NoL st' d){x:AEx}(hx:b27 R st o=some (x,st1)) :
  x=.normal∧∃st1',b27 R st' o=some (.normal,st1')∧LocalTo o st st' st1 st1':=by
 unfold b27 at hx ⊢;simp only[b70,hnc,ck,if_false]at hx ⊢;have hbo:bqz st o=bqz st' o:=by
  unfold bqz;split
  ·rename_i m x hm hx;have:x∈o.op.opds:=by
    revert hx
    cases o.op<;>simp[AOp.addr,AOp.opds]<;>intro h<;>simp[h]
   rw[h.opd this]
  ·rfl
 rw[← hbo];split at hx
 rotate_left
 ·cases hx
 rename_i hb;rw[if_pos hb];have haddr:∀x,o.op.addr=some x→∀d off,st.sv x=.l d off→st.loc.get d=st'.loc.get d:=by
  intro x hxa d off hsv;refine h.lc x d off hxa hsv (fun m hm=>?_) (fun hrs=>?_)
  ·rcases bmc hb hm hxa with⟨off',q,_⟩ | ⟨cs,q⟩ | ⟨_,i,off',q⟩<;>rw[hsv]at q
   ·simp only[SV.l.injEq]at q;exact q.1.symm
   ·cases q
   ·cases q
  ·rcases bmc hb (dqd hrs) hxa with⟨off',_,q⟩ | ⟨cs,q⟩ | ⟨_,i,off',q⟩
   ·exact q rfl
   ·rw[hsv]at q;cases q
   ·rw[hsv]at q;cases q
 by_cases hp:o.op.isPure=true
 ·rw[dkf hp]at hx ⊢;have hc:∀x,o.op.addr=some x→st.cellsAt (st.sv x)=st'.cellsAt (st.sv x):=by
   intro x hxa;cases hq:o.blk with
   | none=>
    have hmem:o.mem=.rd none:=by
     revert hp hxa
     unfold AOper.mem;cases o.op<;>simp[AOp.isPure,AOp.addr,hq]
    exact b9k (fun d off e=>haddr x hxa d off e) (h.S (.inl hmem))
   | some m=>
    rcases bmc hb hq hxa with⟨off,hsv,_⟩ | ⟨cs,hsv⟩ | ⟨h7,i,off,hsv⟩
    ·rw[hsv];simp only[St.cellsAt,haddr x hxa m off hsv]
    ·rw[hsv];rfl
    ·have hmem:o.mem=.rdS:=by
      subst h7
      revert hp hxa
      unfold AOper.mem;cases o.op<;>simp[AOp.isPure,AOp.addr,hq]
     exact b9k (fun d off e=>haddr x hxa d off e) (h.S (.inr (.inr (.inr (.inl hmem)))))
  have he:=cz6 (o:=o.op) (fun x hx=>h.opd hx) hc;rw[← he];split at hx
  ·rename_i s d hs hd;simp only[normal,bd,bq]at hx;obtain⟨rfl,rfl⟩:=hx;have hu:o.op.used=[]:=by
    revert hp
    cases o.op<;>simp[AOp.isPure,AOp.used]
   refine⟨rfl,_,rfl,bhh h hd hu fun d' hn _=>dcc hs hn⟩
  ·cases hx
 ·obtain⟨op,gd,blk⟩:=o;simp only at hx hp haddr hbad hnew ⊢;have sv:∀{x:Opd},x∈op.opds→st.sv x=st'.sv x:=fun hx=>h.opd hx
  cases op
  all_goals first
   | (simp[AOp.isPure]at hp;done)
   | skip
  case mov d y tk=>
   have hy:=sv (x:=y) (by simp[AOp.opds]);cases tk with
   | false=>
    simp only[aop,ck,if_false,normal,bd,bq]at hx ⊢;obtain⟨rfl,rfl⟩:=hx;rw[← hy];exact⟨rfl,_,⟨trivial,rfl⟩,bhh h rfl rfl fun d' hn _=>dmc hn y⟩
   | true=>
    simp only[aop,if_true,normal,bd,bq]at hx ⊢;obtain⟨rfl,rfl⟩:=hx;refine⟨rfl,_,⟨trivial,rfl⟩,?_⟩;cases y with
    | c a=>exact bhh h rfl rfl fun d' hn _=>rfl
    | s k=>
     have hr:=h.rt (x:=.s k) (by simp[AOp.opds]) (k:=k) (by simp[Opd.rd]);have hy':st.σ.get k=st'.σ.get k:=hy;unfold St.move;simp only;rw[← hr,← hy'];have hw:∀j,j∈AOp.wr (.mov d (.s k) true)↔j=d∨j=k:=by intro j;simp[AOp.wr,AOp.dst,AOp.used,Opd.rd]
     cases hro:bbx st.own k with
     | none=>
      simp only;have hp:LocalTo {op:=.mov d (.s k) true,gd:=gd,blk:=blk} st st' (st.put d (st.σ.get k)) (st'.put d (st.σ.get k)):=by
       refine⟨⟨fun j hj=>?_,fun _ _=>rfl,fun _=>rfl⟩,⟨fun j hj=>?_,fun _ _=>rfl,fun _=>rfl⟩,fun j hj=>?_,fun _=>.inr ⟨rfl,rfl⟩,.inr ⟨rfl,rfl⟩,fun d' hn _=>bm8 hn (hn k)⟩
       ·rw[bb6,if_neg (by intro e;exact hj ((hw j).2 (.inl e.symm)))]
       ·rw[bb6,if_neg (by intro e;exact hj ((hw j).2 (.inl e.symm)))]
       ·rw[bb6,bb6,h.wr hj]
      exact hp
     | some e=>
      simp only;by_cases hkd:k=d
      ·rw[if_pos hkd,if_pos hkd];exact bkq h (bx7 st st')
      ·rw[if_neg hkd,if_neg hkd];exact bkx (by simp[hw]) (b06 (k0:=k) hw (fun d' hn _=>hn k) hy')
  case nils d sz e=>
   simp only[aop,normal,bd,bq]at hx ⊢;obtain⟨rfl,rfl⟩:=hx;exact⟨rfl,_,⟨trivial,rfl⟩,bs1 h rfl rfl fun d' hn _=>rfl⟩
  case box d sh y nl=>
   have hy:=sv (x:=y) (by simp[AOp.opds]);cases sh with
   | true=>
    have hm:AOper.mem {op:=.box d true y nl,gd:=gd,blk:=blk}=.wr none:=by simp[AOper.mem]
    have hS:=h.S (.inr (.inl hm));simp only[aop,St.av,← hy,← hS]at hx ⊢;split at hx
    ·rename_i a ha;split at hx
     ·rename_i hda;simp only[if_true,normal,bd,bq]at hx;obtain⟨rfl,rfl⟩:=hx;exact⟨rfl,_,by simp only[if_true,if_pos hda];rfl,bx8 rfl (fun _ _ _=>rfl) (b83 (.inl hm) _)⟩
     ·cases hx
    ·cases hx
   | false=>
    have hm:AOper.mem {op:=.box d false y nl,gd:=gd,blk:=blk}=.new d:=by simp[AOper.mem]
    obtain⟨n1,n2⟩:=hnew d hm;simp only[aop,St.av,← hy]at hx ⊢;split at hx
    ·rename_i a ha;split at hx
     ·rename_i hda;simp only[ck,if_false,normal,bd,bq]at hx;obtain⟨rfl,rfl⟩:=hx;refine⟨rfl,_,by simp only[ck,if_false,if_pos hda];rfl,?_⟩;refine⟨⟨fun k hk=>?_,fun d' hd'=>?_,fun _=>rfl⟩,⟨fun k hk=>?_,fun d' hd'=>?_,fun _=>rfl⟩,fun k hk=>?_,fun d'=>?_,.inr ⟨rfl,rfl⟩,fun d' hn hne=>?_⟩
      ·have hk':¬ d=k:=by intro e;exact hk (by simp[AOp.wr,AOp.dst,AOp.used,e])
       rw[bb6,if_neg hk'];simp[ob,bf1 n1]
      ·have:¬ d=d':=by intro e;exact hd' (by unfold AOper.may;rw[hm];exact e)
       simp[St.put,bc8.get_set,this]
      ·have hk':¬ d=k:=by intro e;exact hk (by simp[AOp.wr,AOp.dst,AOp.used,e])
       rw[bb6,if_neg hk'];simp[ob,bf1 n2]
      ·have:¬ d=d':=by intro e;exact hd' (by unfold AOper.may;rw[hm];exact e)
       simp[St.put,bc8.get_set,this]
      ·have hk':k=d:=by simpa[AOp.wr,AOp.dst,AOp.used] using hk
       subst hk';rw[bb6,bb6,if_pos rfl,if_pos rfl]
      ·by_cases e:d=d'
       ·left;simp[St.put,bc8.get_set,e]
       ·right;simp[St.put,bc8.get_set,e]
      ·have hdd:d≠d':=by intro e;exact hne (by rw[hm,e])
       exact bm8 (fun k=>by simp only[bf1 n1];exact hn k) (by simp only[SV.aims,beq_eq_false_iff_ne];exact hdd)
     ·cases hx
    ·cases hx
  case alloc d sh z own=>
   cases sh with
   | true=>
    have hm:AOper.mem {op:=.alloc d true z own,gd:=gd,blk:=blk}=.wr none:=by simp[AOper.mem]
    have hS:=h.S (.inr (.inl hm));simp only[aop,← hS,if_true,normal,bd,bq]at hx ⊢;obtain⟨rfl,rfl⟩:=hx;exact⟨rfl,_,⟨trivial,rfl⟩,bx8 rfl (fun _ _ _=>rfl) (b83 (.inl hm) _)⟩
   | false=>
    have hm:AOper.mem {op:=.alloc d false z own,gd:=gd,blk:=blk}=.new d:=by simp[AOper.mem]
    obtain⟨n1,n2⟩:=hnew d hm;simp only[aop,ck,if_false,normal,bd,bq]at hx ⊢;obtain⟨rfl,rfl⟩:=hx;refine⟨rfl,_,⟨trivial,rfl⟩,?_⟩;refine⟨⟨fun k hk=>?_,fun d' hd'=>?_,fun _=>rfl⟩,⟨fun k hk=>?_,fun d' hd'=>?_,fun _=>rfl⟩,fun k hk=>?_,fun d'=>?_,.inr ⟨rfl,rfl⟩,fun d' hn hne=>?_⟩
    ·have hk':¬ d=k:=by intro e;exact hk (by simp[AOp.wr,AOp.dst,AOp.used,e])
     rw[bb6,if_neg hk'];simp[ob,bf1 n1]
    ·have:¬ d=d':=by intro e;exact hd' (by unfold AOper.may;rw[hm];exact e)
     simp[St.put,bc8.get_set,this]
    ·have hk':¬ d=k:=by intro e;exact hk (by simp[AOp.wr,AOp.dst,AOp.used,e])
     rw[bb6,if_neg hk'];simp[ob,bf1 n2]
    ·have:¬ d=d':=by intro e;exact hd' (by unfold AOper.may;rw[hm];exact e)
     simp[St.put,bc8.get_set,this]
    ·have hk':k=d:=by simpa[AOp.wr,AOp.dst,AOp.used] using hk
     subst hk';rw[bb6,bb6,if_pos rfl,if_pos rfl]
    ·by_cases e:d=d'
     ·left;simp[St.put,bc8.get_set,e]
     ·right;simp[St.put,bc8.get_set,e]
    ·have hdd:d≠d':=by intro e;exact hne (by rw[hm,e])
     exact bm8 (fun k=>by simp only[bf1 n1];exact hn k) (by simp only[SV.aims,beq_eq_false_iff_ne];exact hdd)
  case take d y=>
   have hy:=sv (x:=y) (by simp[AOp.opds]);have hw:AOp.wr (.take d y)=[d]:=rfl;obtain⟨hm1,hm2⟩:=cfk (.inl ⟨d,y,rfl⟩) h hb rfl;simp only[aop,← hy]at hx ⊢;split at hx
   ·rename_i b off hsv;have hl:=haddr y rfl b off hsv;have hmay:=hm1 b off hsv;rw[← hl];split at hx
    ·rename_i bx hbx;split at hx
     ·rename_i a e ha he;simp only[normal,bd,bq]at hx;obtain⟨rfl,rfl⟩:=hx;exact⟨rfl,_,rfl,bkx (by simp[hw]) (bx8 hw (fun _ _ _=>rfl) (cq6 hmay _))⟩
     ·rename_i a ha he;simp only[normal,bd,bq]at hx;obtain⟨rfl,rfl⟩:=hx;exact⟨rfl,_,rfl,bhh h rfl rfl fun _ _ _=>rfl⟩
     ·cases hx
    ·cases hx
   ·rename_i i off hsv;obtain⟨hm,hS⟩:=hm2 i off hsv;have hS':st.cellBox i=st'.cellBox i:=by simp only[St.cellBox,hS]
    rw[← hS',← hS];split at hx
    ·rename_i bx hbx;split at hx
     ·rename_i a e ha he;simp only[normal,bd,bq]at hx;obtain⟨rfl,rfl⟩:=hx;exact⟨rfl,_,rfl,bkx (by simp[hw]) (bx8 hw (fun _ _ _=>rfl) (b83 hm _))⟩
     ·rename_i a ha he;simp only[normal,bd,bq]at hx;obtain⟨rfl,rfl⟩:=hx;exact⟨rfl,_,rfl,bhh h rfl rfl fun _ _ _=>rfl⟩
     ·cases hx
    ·cases hx
   ·cases hx
  case store y z n tk nl=>
   have hy:=sv (x:=y) (by simp[AOp.opds]);have hz:=sv (x:=z) (by simp[AOp.opds]);obtain⟨hbk,hS⟩:=cfk (.inr ⟨y,z,n,tk,nl,rfl⟩) h hb rfl;have hl:=haddr y rfl;simp only[aop,St.av,← hz,← hy]at hx ⊢;split at hx
   ·rename_i a ha;split at hx
    ·rename_i hda;rw[if_pos hda];have plain:∀{st1:St} {x:AEx},(bgb st (st.sv y) a.cells none nl).bind normal=some (x,st1) →
       x=.normal∧∃st1',(bgb st' (st.sv y) a.cells none nl).bind normal=some (.normal,st1')∧LocalTo {op:=.store y z n tk nl,gd:=gd,blk:=blk} st st' st1 st1':=by
      intro st1 x hx;cases hs:bgb st (st.sv y) a.cells none nl with
      | none=>rw[hs]at hx;cases hx
      | some s1=>
       rw[hs]at hx;simp only[bb,normal,bd,bq]at hx;obtain⟨rfl,rfl⟩:=hx;obtain⟨s1',q1,q2⟩:=b26 (o:={op:=.store y z n tk nl,gd:=gd,blk:=blk}) (st':=st') hbk hl hS hs;exact⟨rfl,s1',by rw[q1];rfl,bkq h q2⟩
     cases tk with
     | false=>exact plain hx
     | true=>
      cases z with
      | c c=>exact plain hx
      | s k=>
       have hr:=h.rt (x:=.s k) (by simp[AOp.opds]) (k:=k) (by simp[Opd.rd]);simp only at hx ⊢;rw[← hr];cases hro:bbx st.own k with
       | none=>rw[hro]at hx;exact plain hx
       | some e=>
        rw[hro]at hx;simp only at hx ⊢;have hsl:st.σ.get k=st'.σ.get k:=sv (x:=.s k) (by simp[AOp.opds]);rw[← hsl];have fin:∀(q:Option (Nat×Nat)) {st1:St} {x:AEx},(bgb {st with own:=st.drop k} (st.sv y) a.cells q nl).bind normal=some (x,st1) →
          x=.normal∧∃st1',(bgb {st' with own:=st'.drop k} (st.sv y) a.cells q nl).bind normal=some (.normal,st1')∧LocalTo {op:=.store y (.s k) n true nl,gd:=gd,blk:=blk} st st' st1 st1':=by
         intro q st1 x hx;cases hs:bgb {st with own:=st.drop k} (st.sv y) a.cells q nl with
         | none=>rw[hs]at hx;cases hx
         | some s1=>
          rw[hs]at hx;simp only[bb,normal,bd,bq]at hx;obtain⟨rfl,rfl⟩:=hx;obtain⟨s1',q1,q2⟩:=b26 (o:={op:=.store y (.s k) n true nl,gd:=gd,blk:=blk}) (st:={st with own:=st.drop k}) (st':={st' with own:=st'.drop k}) hbk hl hS hs;exact⟨rfl,s1',by rw[q1];rfl,c5z (k0:=k) (by simp[AOp.wr,AOp.used,Opd.rd]) h q2⟩
        split at hx
        ·rename_i hag;rw[if_pos hag];split at hx
         ·exact fin _ hx
         ·cases hx
        ·rename_i hag;rw[if_neg hag];exact fin _ hx
    ·cases hx
   ·cases hx
  case bslice d sz e xs=>
   simp only[aop]at hx ⊢;rw[← bq1 (st:=st) (st':=st') (xs:=xs) fun x hx=>sv (by simpa[AOp.opds] using hx)];split at hx
   ·rename_i as has;split at hx
    ·rename_i hall;simp only[normal,bd,bq]at hx;obtain⟨rfl,rfl⟩:=hx;exact⟨rfl,_,by rw[if_pos hall];rfl,bs1 h rfl rfl fun d' hn _=>rfl⟩
    ·cases hx
   ·cases hx
  case buildR d z ps j k=>
   have hk:st.σ.get k=st'.σ.get k:=sv (x:=.s k) (by simp[AOp.opds]);have hr:=h.rt (x:=.s k) (by simp[AOp.opds]) (k:=k) (by simp[Opd.rd]);have hb:bgd st z (ps++[(j,1,.s k)])=bgd st' z (ps++[(j,1,.s k)]):=bv3 fun x hx=>sv (x:=x) hx
   simp only[aop]at hx ⊢;rw[← hk,← hr,← hb];split at hx
   ·simp only[normal,bd,bq]at hx;obtain⟨rfl,rfl⟩:=hx;refine⟨rfl,_,rfl,?_⟩;exact bkx (by simp[AOp.wr,AOp.dst]) (b06 (k0:=k) (by intro j;simp[AOp.wr,AOp.dst,AOp.used]) (fun d' hn _=>rfl) hk)
   ·cases hx
  case append d sz e bytes y z=>
   have hy:=sv (x:=y) (by simp[AOp.opds]);have hz:=sv (x:=z) (by simp[AOp.opds]);simp only[aop,St.av,← hy,← hz]at hx ⊢;split at hx
   ·rename_i k sz1 as sz2 bs h1 h2;have hr:=h.rt (x:=.s k) (by simp[AOp.opds]) (k:=k) (by simp[Opd.rd]);rw[← hr];split at hx
    ·rename_i e' he;split at hx
     ·rename_i hc;simp only[normal,bd,bq]at hx;obtain⟨rfl,rfl⟩:=hx;refine⟨rfl,_,by rw[if_pos hc];rfl,?_⟩;exact bkx (by simp[AOp.wr,AOp.dst]) (b06 (k0:=k) (by intro j;simp[AOp.wr,AOp.dst,AOp.used,Opd.rd]) (fun d' hn _=>rfl) hy)
     ·cases hx
    ·cases hx
   ·cases hx
  case make d sz e bytes z n c=>
   have hn:=sv (x:=n) (by simp[AOp.opds]);have hc:=sv (x:=c) (by simp[AOp.opds]);simp only[aop,St.av,← hn,← hc]at hx ⊢;split at hx
   ·split at hx
    ·rename_i hcc;simp only[normal,bd,bq]at hx;obtain⟨rfl,rfl⟩:=hx;exact⟨rfl,_,by rw[if_pos hcc];rfl,bs1 h rfl rfl fun d' hn _=>rfl⟩
    ·cases hx
   ·cases hx
  case makeL d sz bytes ag z n c=>
   have hn':=sv (x:=n) (by simp[AOp.opds]);have hc:=sv (x:=c) (by simp[AOp.opds]);have hm:AOper.mem {op:=.makeL d sz bytes ag z n c,gd:=gd,blk:=blk}=.new d:=by simp[AOper.mem]
   obtain⟨n1,n2⟩:=hnew d hm;simp only[aop,St.av,← hn',← hc]at hx ⊢;split at hx
   ·split at hx
    ·rename_i hcc;simp only[normal,bd,bq]at hx;obtain⟨rfl,rfl⟩:=hx;refine⟨rfl,_,by rw[if_pos hcc];rfl,?_⟩;refine⟨⟨fun k hk=>?_,fun d' hd'=>?_,fun _=>rfl⟩,⟨fun k hk=>?_,fun d' hd'=>?_,fun _=>rfl⟩,fun k hk=>?_,fun d'=>?_,.inr ⟨rfl,rfl⟩,fun d' hn hne=>?_⟩
     ·have hk':¬ d=k:=by intro e;exact hk (by simp[AOp.wr,AOp.dst,AOp.used,e])
      rw[bb6,if_neg hk'];simp[ob,bf1 n1]
     ·have:¬ d=d':=by intro e;exact hd' (by unfold AOper.may;rw[hm];exact e)
      simp[St.put,bc8.get_set,this]
     ·have hk':¬ d=k:=by intro e;exact hk (by simp[AOp.wr,AOp.dst,AOp.used,e])
      rw[bb6,if_neg hk'];simp[ob,bf1 n2]
     ·have:¬ d=d':=by intro e;exact hd' (by unfold AOper.may;rw[hm];exact e)
      simp[St.put,bc8.get_set,this]
     ·have hk':k=d:=by simpa[AOp.wr,AOp.dst,AOp.used] using hk
      subst hk';rw[bb6,bb6,if_pos rfl,if_pos rfl]
     ·by_cases e:d=d'
      ·left;simp[St.put,bc8.get_set,e]
      ·right;simp[St.put,bc8.get_set,e]
     ·have hdd:d≠d':=by intro e;exact hne (by rw[hm,e])
      exact bm8 (fun k=>by simp only[bf1 n1];exact hn k) (by simp only[SV.aims,beq_eq_false_iff_ne];exact hdd)
    ·cases hx
   ·cases hx
  case cloneL d sz e bytes ag y z=>
   have hy:=sv (x:=y) (by simp[AOp.opds]);have hz:=sv (x:=z) (by simp[AOp.opds]);have hm:AOper.mem {op:=.cloneL d sz e bytes ag y z,gd:=gd,blk:=blk}=.new d:=by simp[AOper.mem]
   obtain⟨n1,n2⟩:=hnew d hm;simp only[aop,St.av,← hy,← hz]at hx ⊢;split at hx
   ·rename_i k0 sz1 as sz2 bs h1 h2;have hr:=h.rt (x:=.s k0) (by simp[AOp.opds]) (k:=k0) (by simp[Opd.rd]);rw[← hr];split at hx
    ·rename_i e' he;split at hx
     ·rename_i hc;simp only[normal,bd,bq]at hx;obtain⟨rfl,rfl⟩:=hx;have hy':st.σ.get k0=st'.σ.get k0:=hy;refine⟨rfl,_,by rw[if_pos hc];rfl,?_⟩;refine⟨⟨fun k hk=>?_,fun d' hd'=>?_,fun _=>rfl⟩,⟨fun k hk=>?_,fun d' hd'=>?_,fun _=>rfl⟩,fun k hk=>?_,fun d'=>?_,.inr ⟨rfl,rfl⟩,fun d' hn hne=>?_⟩
      ·have hk':¬ d=k:=by intro e;exact hk (by simp[AOp.wr,AOp.dst,AOp.used,e])
       have hk2:¬ k0=k:=by intro e;exact hk (by simp[AOp.wr,AOp.dst,AOp.used,Opd.rd,e])
       rw[bb6,if_neg hk'];simp[ob,bf1 n1,St.drop,bgx,hk2]
      ·have:¬ d=d':=by intro e;exact hd' (by unfold AOper.may;rw[hm];exact e)
       simp[St.put,bc8.get_set,this]
      ·have hk':¬ d=k:=by intro e;exact hk (by simp[AOp.wr,AOp.dst,AOp.used,e])
       have hk2:¬ k0=k:=by intro e;exact hk (by simp[AOp.wr,AOp.dst,AOp.used,Opd.rd,e])
       rw[bb6,if_neg hk'];simp[ob,bf1 n2,St.drop,bgx,hk2]
      ·have:¬ d=d':=by intro e;exact hd' (by unfold AOper.may;rw[hm];exact e)
       simp[St.put,bc8.get_set,this]
      ·have hk':k=d∨k=k0:=by simpa[AOp.wr,AOp.dst,AOp.used,Opd.rd] using hk
       rw[bb6,bb6];by_cases e:d=k
       ·rw[if_pos e,if_pos e]
       ·rw[if_neg e,if_neg e];obtain rfl:k=k0:=hk'.resolve_left fun q=>e q.symm
        simp[ob,bf1 n1,bf1 n2,St.drop,bgx,hy']
      ·by_cases e:d=d'
       ·left;simp[St.put,bc8.get_set,e]
       ·right;simp[St.put,bc8.get_set,e]
      ·have hdd:d≠d':=by intro e;exact hne (by rw[hm,e])
       exact bm8 (fun k=>by simp only[bf1 n1];exact hn k) (by simp only[SV.aims,beq_eq_false_iff_ne];exact hdd)
     ·cases hx
    ·cases hx
   ·cases hx
  case makeMap d=>
   have hm:AOper.mem {op:=.makeMap d,gd:=gd,blk:=blk}=.wr none:=by simp[AOper.mem]
   have hS:=h.S (.inr (.inl hm));simp only[aop,← hS,normal,bd,bq]at hx ⊢;obtain⟨rfl,rfl⟩:=hx;exact⟨rfl,_,⟨trivial,rfl⟩,bx8 rfl (fun _ _ _=>rfl) (b83 (.inl hm) _)⟩
  case lookup d ok kd z y k=>
   have hy:=sv (x:=y) (by simp[AOp.opds]);have hk:=sv (x:=k) (by simp[AOp.opds]);have hm:AOper.mem {op:=.lookup d ok kd z y k,gd:=gd,blk:=blk}=.rd none:=by simp[AOper.mem]
   have hS:=h.S (.inl hm);simp only[aop,St.av,← hy,← hk,← hS]at hx ⊢;split at hx
   ·split at hx
    ·rename_i hkk;simp only[normal,bd,bq]at hx;obtain⟨rfl,rfl⟩:=hx;exact⟨rfl,_,by rw[if_pos hkk];rfl,bhh h rfl rfl fun _ _ _=>rfl⟩
    ·cases hx
   ·split at hx
    ·rename_i hkk;split at hx
     ·rename_i bx hbx;split at hx
      ·rename_i hmap;split at hx
       ·rename_i r hr;simp only[normal,bd,bq]at hx;obtain⟨rfl,rfl⟩:=hx;exact⟨rfl,_,by rw[if_pos hkk];simp only[if_pos hmap];rfl,bhh h rfl rfl fun _ _ _=>rfl⟩
       ·cases hx
      ·cases hx
     ·cases hx
    ·cases hx
   ·cases hx
  case mapUpd kd y k v=>
   have hy:=sv (x:=y) (by simp[AOp.opds]);have hk:=sv (x:=k) (by simp[AOp.opds]);have hv:=sv (x:=v) (by simp[AOp.opds]);have hm:AOper.mem {op:=.mapUpd kd y k v,gd:=gd,blk:=blk}=.wr none:=by simp[AOper.mem]
   have hS:=h.S (.inr (.inl hm));simp only[aop,St.av,← hy,← hk,← hv,← hS]at hx ⊢;split at hx
   ·split at hx
    ·rename_i hkk;split at hx
     ·rename_i bx hbx;split at hx
      ·rename_i hmap;split at hx
       ·rename_i cs hcs;simp only[normal,bd,bq]at hx;obtain⟨rfl,rfl⟩:=hx;exact⟨rfl,_,by rw[if_pos hkk];simp only[if_pos hmap];rfl,bkq h (b83 (.inl hm) _)⟩
       ·cases hx
      ·cases hx
     ·cases hx
    ·cases hx
   ·cases hx
  case call d f xs=>simp[AOp.isCall]at hnc
  case callv d c xs=>simp[AOp.isCall]at hnc
  case panic y=>exact absurd rfl hbad
def bsd(d:Option Nat)(st:St)(o:Option (AEnd×LB)):Option (AEx×St):=match o with
 | some (r,S')=>bch d st r S'
 | none=>none
theorem cr9(R:Rec)(st:St)(d:Option Nat)(f:Nat)(xs:List Opd):aop R st (.call d f xs)=match st.avs xs with | some as=>bsd d st (R f as st.S) | none=>none:=by
 simp only[aop];cases st.avs xs with
 | none=>rfl
 | some as=>
  simp only;cases R f as st.S with
  | none=>rfl
  | some p=>rfl
theorem ch4(R:Rec)(st:St)(d:Option Nat)(c:Opd)(xs:List Opd):aop R st (.callv d c xs)=match st.av c,st.avs xs with | some (.clos (.func f) first caps),some as=>bsd d st (R f (first++as++caps) st.S) | _,_=>none:=by
 simp only[aop];split
 ·rename_i f first caps as h1 h2
  rw[h1,h2];simp only;cases R f (first++as++caps) st.S with
  | none=>rfl
  | some p=>rfl
 ·rename_i hn;split
  ·rename_i f first caps as h1 h2
   exact absurd h2 (hn f first caps as h1)
  ·rfl
theorem b9s{R:Rec}{o:AOper}(hR:o.mem=.call→cdr R)(h:Agree o st st')(hbad:o.mem≠.bad)(hnew:∀d,o.mem=.new d→NoL st d∧NoL st' d){x:AEx}(hx:b27 R st o=some (x,st1)) :
  csm R (b27 R) o st st' x st1:=by
 by_cases hnc:o.op.isCall=false
 ·exact .inl (cpd hnc h hbad hnew hx)
 have hcall:o.op.isCall=true:=by simpa using hnc
 have hbo:=cz4 h;unfold csm;unfold b27 at hx ⊢;rw[← hbo];split at hx
 rotate_left
 ·cases hx
 rename_i hb;rw[if_pos hb];simp only[b70,hcall,if_true]at hx ⊢;have fin:∀{d:Option Nat} {rr:Option (AEnd×LB)} {rr':Option (AEnd×LB)} {y:AEx},o.op.dst=d→o.op.used=[]→o.mem=.call∨o.mem=.lc→(o.mem=.call→∀r S',rr=some (r,S')→S'=st.S∧∃a own,r=.ret a own)→st.S=st'.S→rr=rr' →
   bsd d st rr=some (y,st1) →
   (y=.normal∧∃st1',bsd d st' rr'=some (.normal,st1')∧LocalTo o st st' st1 st1') ∨
   (∃v,y=.panic v∧o.mem=.lc∧st1={st with S:=st1.S}∧bsd d st' rr'=some (.panic v,{st' with S:=st1.S})):=by
  intro d rr rr' y hd hu hm hq hS hrr hy;subst hrr;cases rr with
  | none=>cases hy
  | some p=>
   obtain⟨r,S2⟩:=p;simp only[bsd]at hy ⊢;rcases hm with hm | hm
   ·obtain⟨rfl,a,own,rfl⟩:=hq hm _ _ rfl;exact .inl (br7 h hd hu (.inr ⟨rfl,hS⟩) hy)
   ·cases r with
    | ret a own=>exact .inl (br7 h hd hu (.inl ⟨rfl,.inr hm⟩) hy)
    | panic v=>
     simp only[bch,bd,bq]at hy ⊢;obtain⟨rfl,rfl⟩:=hy;exact .inr ⟨v,rfl,hm,rfl,rfl,rfl⟩
 have hdst:∀{d:Option Nat},o.op.dst=d→True:=fun _=>trivial
 have core:∀{y:AEx},o.mem=.call∨o.mem=.lc→aop R st o.op=some (y,st1) →
   (y=.normal∧∃st1',aop R st' o.op=some (.normal,st1')∧LocalTo o st st' st1 st1') ∨
   (∃v,y=.panic v∧o.mem=.lc∧st1={st with S:=st1.S}∧aop R st' o.op=some (.panic v,{st' with S:=st1.S})):=by
  intro y hm hy;have hS:st.S=st'.S:=h.S (by rcases hm with h | h<;>simp[h]);have hq:=hR;obtain⟨op,gd,blk⟩:=o;simp only at hcall hy hm ⊢;cases op<;>simp[AOp.isCall]at hcall
  case call d f xs=>
   simp only[cr9]at hy ⊢;rw[← bq1 (st:=st) (st':=st') (xs:=xs) fun x hx=>h.opd (by simpa[AOp.opds] using hx),← hS];cases ha:st.avs xs with
   | none=>rw[ha]at hy;cases hy
   | some as=>
    rw[ha]at hy;exact fin rfl rfl hm (fun hc r S' hr=>hq hc _ _ _ _ _ hr) hS rfl hy
  case callv d c xs=>
   have hc:=h.opd (x:=c) (by simp[AOp.opds]);simp only[ch4,St.av,← hc]at hy ⊢;rw[← bq1 (st:=st) (st':=st') (xs:=xs) fun x hx=>h.opd (by simp[AOp.opds,hx]),← hS];split at hy
   ·rename_i f first caps as h1 h2
    exact fin rfl rfl hm (fun hc r S' hr=>hq hc _ _ _ _ _ hr) hS rfl hy
   ·cases hy
 split at hx
 ·
  rename_i hblk;left;obtain⟨op,gd,blk⟩:=o;simp only at hcall hx hblk ⊢;subst hblk;cases op<;>simp[AOp.isCall]at hcall
  case call d f xs=>
   simp only[brd,if_true]at hx ⊢;rw[← bq1 (st:=st) (st':=st') (xs:=xs) fun x hx=>h.opd (by simpa[AOp.opds] using hx)];split at hx
   ·split at hx
    ·rename_i hcl;rw[if_pos hcl];split at hx
     ·exact br7 h rfl rfl (.inr ⟨rfl,rfl⟩) hx
     ·cases hx
    ·cases hx
   ·cases hx
  case callv d c xs=>simp[brd]at hx
 ·rename_i hb1;rw[if_neg hb1];have hmem:o.mem=.call∨o.mem=.lc:=by
   unfold AOper.mem
   revert hcall
   cases o.op<;>simp only[AOp.isCall,ck,false_implies,true_implies,if_neg hb1]<;>split<;>first | exact .inl rfl | exact .inr rfl
  split at hx
  ·rename_i hb2;rw[if_pos hb2];left;cases ha:aop R st o.op with
   | none=>rw[ha]at hx;cases hx
   | some p=>
    obtain⟨y,s⟩:=p;rw[ha]at hx;cases y with
    | panic v=>cases hx
    | normal=>
     simp only[cvr,bd,bq]at hx;obtain⟨rfl,rfl⟩:=hx;rcases core hmem ha with⟨_,st1',q1,q2⟩ | ⟨v,q,_⟩
     ·exact⟨rfl,st1',by rw[q1];rfl,q2⟩
     ·cases q
    | exit id=>
     simp only[cvr,bd,bq]at hx;obtain⟨rfl,rfl⟩:=hx;rcases core hmem ha with⟨q,_⟩ | ⟨v,q,_⟩<;>cases q
    | ret=>
     simp only[cvr,bd,bq]at hx;obtain⟨rfl,rfl⟩:=hx;rcases core hmem ha with⟨q,_⟩ | ⟨v,q,_⟩<;>cases q
  ·rename_i hb2;rw[if_neg hb2];rcases core hmem hx with q | ⟨v,q1,q2,q3,q4⟩
   ·exact .inl q
   ·right;refine⟨v,q1,?_,q2,q3,q4⟩;unfold AOper.mem at q2
    revert q2 hcall
    cases o.op<;>simp[AOp.isCall,hb1,hb2]<;>by_cases h1:o.blk=some 66666<;>simp[h1]
end
theorem bfk{st st' st1:St}{R:Rec}{o:AOper}(hR:o.mem=.call→cdr R)(h:Agree o st st')(hbad:o.mem≠.bad)(hnew:∀d,o.mem=.new d→NoL st d∧NoL st' d){x:AEx}(hx:bdb R st o=some (x,st1)) :
  csm R (bdb R) o st st' x st1:=by
 unfold csm;unfold bdb at hx ⊢;split at hx
 ·exact b9s hR h hbad hnew hx
 ·rename_i k want hg;have hk:=h.sl k (.inl (by simp[AOper.rd,hg]));simp only[ob,bq]at hk;rw[← hk.1];split at hx
  ·split at hx
   ·rename_i hw;rw[if_pos hw];exact b9s hR h hbad hnew hx
   ·rename_i hw;rw[if_neg hw];cases hd:o.op.dst with
    | none=>
     rw[hd]at hx;simp only[normal,bd,bq]at hx;obtain⟨rfl,rfl⟩:=hx;exact .inl ⟨rfl,st',rfl,bkq h (bx7 _ _)⟩
    | some d=>
     rw[hd]at hx;simp only[normal,bd,bq]at hx;obtain⟨rfl,rfl⟩:=hx;refine .inl ⟨rfl,_,rfl,?_⟩;have hdw:d∈o.op.wr:=by simp[AOp.wr,hd]
     refine⟨⟨fun j hj=>?_,fun _ _=>rfl,fun _=>rfl⟩,⟨fun j hj=>?_,fun _ _=>rfl,fun _=>rfl⟩,fun j hj=>?_,fun _=>.inr ⟨rfl,rfl⟩,.inr ⟨rfl,rfl⟩,fun d' hn _=>bm8 hn rfl⟩
     ·rw[bb6,if_neg (by intro e;exact hj (e▸hdw))]
     ·rw[bb6,if_neg (by intro e;exact hj (e▸hdw))]
     ·rw[bb6,bb6,h.wr hj]
  ·cases hd:o.op.dst with
   | none=>
    rw[hd]at hx;simp only[normal,bd,bq]at hx;obtain⟨rfl,rfl⟩:=hx;exact .inl ⟨rfl,st',rfl,bkq h (bx7 _ _)⟩
   | some d=>
    rw[hd]at hx;simp only[normal,bd,bq]at hx;obtain⟨rfl,rfl⟩:=hx;refine .inl ⟨rfl,_,rfl,?_⟩;have hdw:d∈o.op.wr:=by simp[AOp.wr,hd]
    refine⟨⟨fun j hj=>?_,fun _ _=>rfl,fun _=>rfl⟩,⟨fun j hj=>?_,fun _ _=>rfl,fun _=>rfl⟩,fun j hj=>?_,fun _=>.inr ⟨rfl,rfl⟩,.inr ⟨rfl,rfl⟩,fun d' hn _=>bm8 hn rfl⟩
    ·rw[bb6,if_neg (by intro e;exact hj (e▸hdw))]
    ·rw[bb6,if_neg (by intro e;exact hj (e▸hdw))]
    ·rw[bb6,bb6,h.wr hj]
  ·cases hx
end Go.Av
namespace Go.Av
open Go
structure Eqv(a b:St):Prop where
 sl:∀k,ob a k=ob b k
 lc:∀d,a.loc.get d=b.loc.get d
 S:a.S=b.S
theorem Eqv.refl(a:St):Eqv a a:=⟨fun _=>rfl,fun _=>rfl,rfl⟩
theorem Eqv.symm{a b:St}(h:Eqv a b):Eqv b a:=⟨fun k=>(h.sl k).symm,fun d=>(h.lc d).symm,h.S.symm⟩
theorem Eqv.trans{a b c:St}(h:Eqv a b)(k:Eqv b c):Eqv a c:=⟨fun i=>(h.sl i).trans (k.sl i),fun d=>(h.lc d).trans (k.lc d),h.S.trans k.S⟩
theorem Eqv.nol{a b:St}(h:Eqv a b){d:Nat}(n:NoL a d):NoL b d:=fun k=>by
 have:=h.sl k;simp only[ob,bq]at this;rw[← this.1];exact n k
theorem Eqv.agree{a b:St}(h:Eqv a b)(o:AOper):Agree o a b:=⟨fun k _=>h.sl k,fun _ d _ _ _ _ _=>h.lc d,fun _=>h.S⟩
theorem Eqv.keep{a b:St}(h:Eqv a b)(live locs:List Nat):a.keep live locs=b.keep live locs:=by
 have h1:∀k,a.σ.get k=b.σ.get k:=fun k=>by have:=h.sl k;simp only[ob,bq]at this;exact this.1
 have h2:∀k,bbx a.own k=bbx b.own k:=fun k=>by have:=h.sl k;simp only[ob,bq]at this;exact this.2
 have e1:a.σ.keep live=b.σ.keep live:=by simp only[zq.keep];exact List.map_congr_left fun k _=>by rw[h1]
 have e3:a.loc.keep locs=b.loc.keep locs:=by simp only[bc8.keep];congr 1;funext k;rw[h.lc]
 simp only[St.keep,e1,e3,h.S];congr 2
 funext k
 rw[h2]
theorem b6m{a b a1:St}{R:Rec}{o:AOper}(hR:o.mem=.call→cdr R)(h:Eqv a b)(hbad:o.mem≠.bad)(hnew:∀d,o.mem=.new d→NoL a d){x:AEx}(hx:bdb R a o=some (x,a1)) :
  (x=.normal∧∃b1,bdb R b o=some (.normal,b1)∧Eqv a1 b1)∨(∃v,x=.panic v∧o.blk=some 66666∧o.mem=.lc∧a1={a with S:=a1.S}∧bdb R b o=some (.panic v,{b with S:=a1.S})):=by
 rcases bfk hR (h.agree o) hbad (fun d hd=>⟨hnew d hd,h.nol (hnew d hd)⟩) hx with⟨rfl,b1,h1,h2⟩ | ⟨v,q⟩
 rotate_left
 ·exact .inr ⟨v,q⟩
 refine .inl ⟨rfl,b1,h1,fun k=>?_,fun d=>?_,?_⟩
 ·by_cases hk:k∈o.op.wr
  ·exact h2.sl k hk
  ·rw[h2.fr.sl k hk,h2.fr'.sl k hk,h.sl k]
 ·rcases h2.lc d with q | ⟨q1,q2⟩
  ·exact q
  ·rw[q1,q2,h.lc d]
 ·rcases h2.S with q | ⟨q1,q2⟩
  ·exact q
  ·rw[q1,q2,h.S]
def bqj:Mem→Mem→Bool
 | .bad,_=>false
 | _,.bad=>false
 | .no,_=>true
 | _,.no=>true
 | .rd _,.rd _=>true
 | .rd _,.call=>true
 | .call,.rd _=>true
 | .call,.call=>true
 | .rd _,.new _=>true
 | .new _,.rd _=>true
 | .call,.new _=>true
 | .new _,.call=>true
 | .new d,.new d'=>d != d'
 | .rd (some m),.wr (some m')=>m != m'
 | .wr (some m),.rd (some m')=>m != m'
 | .wr (some m),.wr (some m')=>m != m'
 | .wr (some _),.call=>true
 | .call,.wr (some _)=>true
 | .wr (some m),.new d=>m != d
 | .new d,.wr (some m)=>m != d
 | .rdS,.rd _=>true
 | .rd _,.rdS=>true
 | .rdS,.rdS=>true
 | .rdS,.call=>true
 | .call,.rdS=>true
 | .rdS,.new _=>true
 | .new _,.rdS=>true
 | .rdS,.wr (some _)=>true
 | .wr (some _),.rdS=>true
 | .lc,.rd (some _)=>true
 | .rd (some _),.lc=>true
 | .lc,.wr (some _)=>true
 | .wr (some _),.lc=>true
 | .lc,.new _=>true
 | .new _,.lc=>true
 | _,_=>false
def bv2(j i:AOper):Bool:=
 bqj j.mem i.mem&&(j.op.wr.all fun k=>!(i.rd.contains k)&&!(i.op.wr.contains k))&&(i.op.wr.all fun k=>!(j.rd.contains k))
theorem c5x{j i:AOper}(h:bqj j.mem i.mem=true)(d:Nat):¬ (j.may d∧i.may d):=by
 unfold AOper.may;rcases hj:j.mem with _ | (_ | m) | (_ | m) | d1 | _ | _ | _ | _<;>rcases hi:i.mem with _ | (_ | m') | (_ | m') | d2 | _ | _ | _ | _<;>rw[hj,hi]at h<;>simp_all [bqj]<;>(intro e1 e2;apply h;rw[e1,e2])
section
variable{st s1 s2:St}{rec:Rec}{j i:AOper}
theorem wr_ne{o:AOper}{m:Nat}(h:o.mem=.wr (some m)):m≠77777:=by
 rintro rfl;unfold AOper.mem at h;split at h<;>first
  | cases h;done
  | (split at h<;>first | (cases h;done) | (simp only[Mem.wr.injEq]at h;contradiction) | (split at h<;>cases h))
theorem b18(hap:bqj j.mem i.mem=true)(hsl:∀k,k∈i.rd∨k∈i.op.wr→k∉j.op.wr)(hn:∀d,j.mem=.new d→NoL st d)(hf:Fr j st s1):Agree i s1 st:=by
 refine⟨fun k hk=>hf.sl k (hsl k hk),fun x d off hx hsv hb hrs=>hf.lc d fun hmay=>?_,fun hi=>hf.S fun hj=>?_⟩
 ·
  have hxs:st.sv x=.l d off:=by
   rw[← hsv];cases x with
   | c a=>rfl
   | s k=>
    have:k∉j.op.wr:=by
     refine hsl k (.inl ?_);simp only[AOper.rd,d7,AOp.rd,qr];right;refine⟨.s k,?_,by simp[Opd.rd]⟩
     revert hx
     cases i.op<;>simp[AOp.addr,AOp.opds]<;>intro h<;>simp[h]
    have:=hf.sl k this;simp only[ob,bq]at this;exact this.1.symm
  have him:i.mem=.rd i.blk∨i.mem=.wr i.blk∨(i.mem=.lc∧i.blk=some 77777):=by
   revert hx hrs
   unfold AOper.mem;cases i.op<;>simp[AOp.addr]
   ·intro h1 h2;by_cases h7:i.blk=some 77777
    ·first | exact absurd h7 h1 | exact absurd h7 h2
    ·simp[h7]
   ·intro _;by_cases h7:i.blk=some 77777<;>simp[h7]
   ·intro _;by_cases h7:i.blk=some 77777<;>simp[h7]
  unfold AOper.may at hmay;cases hjm:j.mem with
  | new d'=>
   rw[hjm]at hmay;have:d'=d:=hmay;subst this;have hq:=dmc (hn d' hjm) x;rw[hxs]at hq;simp[SV.aims]at hq
  | wr m=>
   cases m with
   | none=>
    rw[hjm]at hap;rcases him with h | h | ⟨h,_⟩<;>rw[h]at hap<;>cases i.blk<;>simp[bqj]at hap
   | some m=>
    rw[hjm]at hmay;have:m=d:=hmay;subst this;rw[hjm]at hap;cases hb2:i.blk with
    | none=>rw[hb2]at him;rcases him with h | h | ⟨_,h⟩<;>first | (rw[h]at hap;simp[bqj]at hap;done) | cases h
    | some m'=>
     have:=hb m' hb2;subst this;rw[hb2]at him;rcases him with h | h | ⟨_,h⟩
     ·rw[h]at hap;simp[bqj]at hap
     ·rw[h]at hap;simp[bqj]at hap
     ·exact wr_ne hjm (by simpa using h)
  | no=>rw[hjm]at hmay;exact hmay
  | rd m=>rw[hjm]at hmay;exact hmay
  | call=>rw[hjm]at hmay;exact hmay
  | bad=>rw[hjm]at hmay;exact hmay
  | rdS=>rw[hjm]at hmay;exact hmay
  | lc=>rw[hjm]at hmay;exact hmay
 ·rcases hj with hj | hj<;>rcases hi with h | h | h | h | h<;>rw[hj,h]at hap<;>simp[bqj]at hap
theorem cgf(h:bqj j.mem i.mem=true):j.mem≠.bad∧i.mem≠.bad:=by
 rcases hj:j.mem with _ | (_ | m) | (_ | m) | d1 | _ | _ | _ | _<;>rcases hi:i.mem with _ | (_ | m') | (_ | m') | d2 | _ | _ | _ | _<;>rw[hj,hi]at h<;>simp_all [bqj]
theorem cv0(h:bqj j.mem i.mem=true):bqj i.mem j.mem=true:=by
 rcases hj:j.mem with _ | (_ | m) | (_ | m) | d1 | _ | _ | _ | _<;>rcases hi:i.mem with _ | (_ | m') | (_ | m') | d2 | _ | _ | _ | _<;>rw[hj,hi]at h<;>simp_all [bqj]<;>(intro e;exact h e.symm)
theorem dbj(h:bqj j.mem i.mem=true):¬ (j.chS∧i.chS):=by
 rintro⟨h1,h2⟩;rcases h1 with h1 | h1<;>rcases h2 with h2 | h2<;>rw[h1,h2]at h<;>simp[bqj]at h
theorem swap{R:Rec}(hRj:j.mem=.call→cdr R)(hRi:i.mem=.call→cdr R)(hap:bv2 j i=true)(hnj:∀d,j.mem=.new d→NoL st d)(hni:∀d,i.mem=.new d→NoL st d)(h1:bdb R st j=some (.normal,s1))(h2:bdb R s1 i=some (.normal,s2)) :
  ∃t1 t2,bdb R st i=some (.normal,t1)∧bdb R t1 j=some (.normal,t2)∧Eqv s2 t2:=by
 simp only[bv2,bp,cq,dr,fc,decide_eq_false_iff_not]at hap;obtain⟨⟨hm,hw⟩,hw'⟩:=hap;obtain⟨bj,bi⟩:=cgf hm;have hch:=dbj hm;have L1:=bfk hRj (Eqv.refl st |>.agree j) bj (fun d hd=>⟨hnj d hd,hnj d hd⟩) h1;obtain⟨_,s1',e1,l1⟩:=L1.resolve_right (by rintro⟨v,q,_⟩;cases q);have hni1:∀d,i.mem=.new d→NoL s1 d:=fun d hd=>l1.nol d (hni d hd) (by
  intro hj;rw[hj,hd]at hm;simp[bqj]at hm)
 have A1:Agree i s1 st:=b18 hm (fun k hk hkj=>by
  have:=hw k hkj;rcases hk with h | h
  ·exact this.1 h
  ·exact this.2 h) hnj l1.fr
 have L2:=bfk hRi A1 bi (fun d hd=>⟨hni1 d hd,hni d hd⟩) h2;obtain⟨_,t1,e2,l2⟩:=L2.resolve_right (by rintro⟨v,q,_⟩;cases q);have A2:Agree j t1 st:=b18 (cv0 hm) (fun k hk hki=>by
  rcases hk with h | h
  ·exact hw' k hki h
  ·exact(hw k h).2 hki) hni l2.fr'
 have A2':Agree j st t1:=⟨fun k hk=>(A2.sl k hk).symm,fun x d off hx hsv hb hrs=>by
  refine(A2.lc x d off hx ?_ hb hrs).symm;rw[← hsv];refine A2.opd ?_
  revert hx
  cases j.op<;>simp[AOp.addr,AOp.opds]<;>intro h<;>simp[h],fun hh=>(A2.S hh).symm⟩
 have hnt:∀d,j.mem=.new d→NoL t1 d:=by
  intro d hd k;have:=bfk hRi (Eqv.refl st |>.agree i) bi (fun d hd=>⟨hni d hd,hni d hd⟩) e2;obtain⟨_,t1',q1,q2⟩:=this.resolve_right (by rintro⟨v,q,_⟩;cases q);exact q2.nol d (hnj d hd) (by intro e;rw[hd,e]at hm;simp[bqj]at hm) k
 have L3:=bfk hRj A2' bj (fun d hd=>⟨hnj d hd,hnt d hd⟩) h1;obtain⟨_,t2,e3,l3⟩:=L3.resolve_right (by rintro⟨v,q,_⟩;cases q);refine⟨t1,t2,e2,e3,fun k=>?_,fun d=>?_,?_⟩
 ·by_cases hk:k∈i.op.wr
  ·have hkj:k∉j.op.wr:=fun h=>(hw k h).2 hk
   rw[l2.sl k hk,l3.fr'.sl k hkj]
  ·by_cases hkj:k∈j.op.wr
   ·rw[l2.fr.sl k hk,l3.sl k hkj]
   ·rw[l2.fr.sl k hk,l3.fr.sl k hkj,l3.fr'.sl k hkj,l2.fr'.sl k hk]
 ·by_cases hi:i.may d
  ·have hj:¬ j.may d:=fun h=>c5x hm d ⟨h,hi⟩
   rcases l2.lc d with q | ⟨q1,q2⟩
   ·rw[q,l3.fr'.lc d hj]
   ·rw[q1,l3.fr.lc d hj,l3.fr'.lc d hj,q2]
  ·rw[l2.fr.lc d hi];rcases l3.lc d with q | ⟨q1,q2⟩
   ·exact q
   ·rw[q1,q2,l2.fr'.lc d hi]
 ·by_cases hi:i.chS
  ·have hj:¬ j.chS:=fun h=>hch ⟨h,hi⟩
   rcases l2.S with q | ⟨q1,q2⟩
   ·rw[q,l3.fr'.S hj]
   ·rw[q1,l3.fr.S hj,l3.fr'.S hj,q2]
  ·rw[l2.fr.S hi];rcases l3.S with q | ⟨q1,q2⟩
   ·exact q
   ·rw[q1,q2,l2.fr'.S hi]
theorem ctg{R:Rec}(hRj:j.mem=.call→cdr R)(hRi:i.mem=.call→cdr R)(hap:bv2 j i=true)(hnj:∀d,j.mem=.new d→NoL st d)(hni:∀d,i.mem=.new d→NoL st d)(h1:bdb R st j=some (.normal,s1)){v:AV}(h2:bdb R s1 i=some (.panic v,s2)) :
  bdb R st i=some (.panic v,{st with S:=s2.S}):=by
 simp only[bv2,bp,cq,dr,fc,decide_eq_false_iff_not]at hap;obtain⟨⟨hm,hw⟩,hw'⟩:=hap;obtain⟨bj,bi⟩:=cgf hm;have L1:=bfk hRj (Eqv.refl st |>.agree j) bj (fun d hd=>⟨hnj d hd,hnj d hd⟩) h1;obtain⟨_,s1',e1,l1⟩:=L1.resolve_right (by rintro⟨v,q,_⟩;cases q);have hni1:∀d,i.mem=.new d→NoL s1 d:=fun d hd=>l1.nol d (hni d hd) (by
  intro hj;rw[hj,hd]at hm;simp[bqj]at hm)
 have A1:Agree i s1 st:=b18 hm (fun k hk hkj=>by
  have:=hw k hkj;rcases hk with h | h
  ·exact this.1 h
  ·exact this.2 h) hnj l1.fr
 have L2:=bfk hRi A1 bi (fun d hd=>⟨hni1 d hd,hni d hd⟩) h2;rcases L2 with⟨q,_⟩ | ⟨v',q,_,_,_,q2⟩
 ·cases q
 ·cases q;exact q2
end
end Go.Av
namespace Go.Av
open Go
def bt6(o:Oper):List Nat:=(o.after.toList.filter fun e=>Region.binds .any e).map (·.on)
def bAt(bs:List Nat)(i j:Nat):Bool:=(bs.getD i 0).testBit j
def bt8(bs:List Nat)(o:Oper)(i:Nat):Bool:=
 (bt6 o).all (fun e=>decide (e<i))&&(List.range i).all fun j=>!bAt bs i j||(bt6 o).any fun e=>e==j||(decide (j<e)&&bAt bs e j)
def ddm(bs:List Nat):List Oper→Nat→Bool
 | [],_=>true
 | o::os,i=>bt8 bs o i&&ddm bs os (i+1)
theorem bkj{bs:List Nat}:∀{os:List Oper} {n:Nat},ddm bs os n=true→∀(i:Nat) {o:Oper},os[i]? = some o→bt8 bs o (n+i)=true
 | [],_,_,i,o,h=>by simp at h
 | o0::os,n,hb,i,o,h=>by
  simp only[ddm,bp]at hb;cases i with
  | zero=>obtain rfl:o0=o:=by simpa using h
          exact hb.1
  | succ i=>
   have:=bkj hb.2 i (by simpa using h)
   rwa [show n+1+i=n+(i+1) by omega]at this
def b03(j i:AOper):Bool:=match j.mem,i.mem with
 | .new d,.new d'=>d==d'
 | _,_=>false
def ccg(f:Nat→Nat→AOper→AOper→Bool)(i:Nat)(o:AOper):List AOper→Nat→Bool
 | [],_=>true
 | p::ps,j=>(decide (i≤j)||f j i p o)&&ccg f i o ps (j+1)
def bs3(f:Nat→Nat→AOper→AOper→Bool)(all:List AOper):List AOper→Nat→Bool
 | [],_=>true
 | o::os,i=>ccg f i o all 0&&bs3 f all os (i+1)
theorem b5j{f:Nat→Nat→AOper→AOper→Bool}{i:Nat}{o:AOper}:∀{ps:List AOper} {n:Nat},ccg f i o ps n=true→∀(j:Nat) {p:AOper},ps[j]? = some p→n+j<i→f (n+j) i p o=true
 | [],_,_,j,p,h,_=>by simp at h
 | p0::ps,n,hb,j,p,h,hj=>by
  simp only[ccg,bp,d8,decide_eq_true_eq]at hb;cases j with
  | zero=>obtain rfl:p0=p:=by simpa using h
          rcases hb.1 with h1 | h1
          ·omega
          ·exact h1
  | succ j=>
   have:=b5j hb.2 j (by simpa using h) (by omega)
   rwa [show n+1+j=n+(j+1) by omega]at this
theorem bms{f:Nat→Nat→AOper→AOper→Bool}{all:List AOper}:∀{os:List AOper} {n:Nat},bs3 f all os n=true→∀(i j:Nat) {o p:AOper},os[i]? = some o→all[j]? = some p→j<n+i→f j (n+i) p o=true
 | [],_,_,i,j,o,p,h,_,_=>by simp at h
 | o0::os,n,hb,i,j,o,p,h,hp,hj=>by
  simp only[bs3,bp]at hb;cases i with
  | zero=>obtain rfl:o0=o:=by simpa using h
          have:=b5j hb.1 j hp (by omega);simpa using this
  | succ i=>
   have:=bms hb.2 i j (by simpa using h) hp (by omega)
   rwa [show n+1+i=n+(i+1) by omega]at this
def cqz(bs:List Nat)(j i:Nat)(p o:AOper):Bool:=(bAt bs i j||bv2 p o)&&!b03 p o
def b5g(bs:List Nat)(j i:Nat)(p o:AOper):Bool:=!(p.blk==some 66666)||bAt bs i j
def c9r(quiet:Bool)(aos:List AOper)(bs:List Nat):Bool:=
 bs3 (fun j i _ _=>bAt bs i j) aos aos 0||((quiet||aos.all (fun o=>decide (o.mem≠.call)))&&aos.all (fun o=>decide (o.mem≠.bad))&&bs3 (cqz bs) aos aos 0&&bs3 (b5g bs) aos aos 0)
section
variable{aos:List AOper}{R:Rec}
def b0d(aos:List AOper)(is:List Nat)(st:St):Prop:=∀k∈is,∀(o:AOper) (d:Nat),aos[k]? = some o→o.mem=.new d→NoL st d
structure GoodA(R:Rec)(aos:List AOper):Prop where
 q:∀(k:Nat) (o:AOper),aos[k]? = some o→o.mem=.call→cdr R
 bad:∀(k:Nat) (o:AOper),aos[k]? = some o→o.mem≠.bad
 dn:∀(k k':Nat) (o o':AOper) (d:Nat),k≠k'→aos[k]? = some o→aos[k']? = some o'→o.mem=.new d→o'.mem≠.new d
theorem b0d.step{k:Nat}{is:List Nat}{st st1:St}{o:AOper}(hG:GoodA R aos)(h:b0d aos (k::is) st)(hk:k∉is)(ho:aos[k]? = some o)(h1:bdb R st o=some (.normal,st1)):b0d aos is st1:=by
 intro k' hk' o' d ho' hd;have L:=bfk (hG.q k o ho) ((Eqv.refl st).agree o) (hG.bad k o ho) (fun d hd=>⟨h k (.head _) o d ho hd,h k (.head _) o d ho hd⟩) h1;obtain⟨_,s',_,l⟩:=L.resolve_right (by rintro⟨v,q,_⟩;cases q);have hne:k'≠k:=fun e=>hk (e▸hk')
 exact l.nol d (h k' (.tail _ hk') o' d ho' hd) (hG.dn k' k o' o d hne ho' ho hd)
def b71(aos:List AOper)(x:AEx)(s s':St):Prop:=Eqv s s'∨((∃v,x=.panic v)∧s'.S=s.S∧∀k,(∀o∈aos,k∉o.op.wr)→ob s' k=ob s k)
theorem b71.trans{x:AEx}{a b c:St}(h:b71 aos x a b)(k:b71 aos x b c):b71 aos x a c:=by
 rcases h with h | ⟨h1,h2,h3⟩
 ·rcases k with k | ⟨k1,k2,k3⟩
  ·exact .inl (h.trans k)
  ·exact .inr ⟨k1,k2.trans h.S.symm,fun j hj=>(k3 j hj).trans (h.sl j).symm⟩
 ·rcases k with k | ⟨k1,k2,k3⟩
  ·exact .inr ⟨h1,k.S.symm.trans h2,fun j hj=>(k.sl j).symm.trans (h3 j hj)⟩
  ·exact .inr ⟨h1,k2.trans h2,fun j hj=>(k3 j hj).trans (h3 j hj)⟩
theorem ch3(hG:GoodA R aos):∀(is:List Nat) {a b s:St} {x:AEx},is.Nodup→Eqv a b→b0d aos is a→bfz R aos is a=some (x,s) →
  (x=.normal∨∃v,x=.panic v)∧∃s',bfz R aos is b=some (x,s')∧Eqv s s'
 | [],a,b,s,x,_,e,_,h=>by
  simp only[bfz,normal,bd,bq]at h;obtain⟨rfl,rfl⟩:=h;exact⟨.inl rfl,b,rfl,e⟩
 | k::is,a,b,s,x,hN,e,hF,h=>by
  simp only[bfz]at h ⊢;rw[pp]at hN;split at h
  ·rename_i o ho;cases h1:bdb R a o with
   | none=>rw[h1]at h;cases h
   | some p=>
    obtain⟨y,a1⟩:=p;rcases b6m (hG.q k o ho) e (hG.bad k o ho) (fun d hd=>hF k (.head _) o d ho hd) h1 with⟨rfl,b1,q1,q2⟩ | ⟨v,rfl,_,_,q3,q4⟩
    ·rw[h1]at h;simp only at h;rw[q1];exact ch3 hG is hN.2 q2 (hF.step hG hN.1 ho h1) h
    ·rw[h1]at h;simp only[bd,bq]at h;obtain⟨rfl,rfl⟩:=h;refine⟨.inr ⟨v,rfl⟩,{b with S:=a1.S},by rw[q4],fun j=>?_,fun d=>?_,rfl⟩
     ·rw[q3];exact e.sl j
     ·rw[q3];exact e.lc d
  ·cases h
theorem front(hG:GoodA R aos){i:Nat}{oi:AOper}(hoi:aos[i]? = some oi)(post:List Nat):∀(pre:List Nat) {st s:St} {x:AEx},(pre++i::post).Nodup→b0d aos (pre++i::post) st →
  (∀j∈pre,∀oj,aos[j]? = some oj→bv2 oj oi=true∧oj.blk≠some 66666)→bfz R aos (pre++i::post) st=some (x,s) →
  (∃st1 s',bdb R st oi=some (.normal,st1)∧bfz R aos (pre++post) st1=some (x,s')∧Eqv s s')∨(∃v st1,x=.panic v∧bdb R st oi=some (.panic v,st1)∧st1.S=s.S∧∀k,ob st1 k=ob st k)
 | [],st,s,x,hN,hF,_,h=>by
  simp only[gj]at h hN hF ⊢;simp only[bfz,hoi]at h;cases h1:bdb R st oi with
  | none=>rw[h1]at h;cases h
  | some p=>
   obtain⟨y,s1⟩:=p;rw[h1]at h;rcases b6m (hG.q i oi hoi) (Eqv.refl st) (hG.bad i oi hoi) (fun d hd=>hF i (.head _) oi d hoi hd) h1 with⟨rfl,b1,q1,q2⟩ | ⟨v,rfl,_,_,q3,q4⟩
   ·exact .inl ⟨s1,s,rfl,h,Eqv.refl s⟩
   ·simp only[bd,bq]at h;obtain⟨rfl,rfl⟩:=h;exact .inr ⟨v,s1,rfl,rfl,rfl,fun k=>by rw[q3];rfl⟩
 | j::pre,st,s,x,hN,hF,hap,h=>by
  simp only[dv]at h hN hF;have hN':=hN;rw[pp]at hN;simp only[bfz]at h;split at h
  ·rename_i oj hoj;cases h1:bdb R st oj with
   | none=>rw[h1]at h;cases h
   | some p=>
    obtain⟨y,s1⟩:=p;obtain⟨hapj,hbj⟩:=hap j (.head _) oj hoj;rcases b6m (hG.q j oj hoj) (Eqv.refl st) (hG.bad j oj hoj) (fun d hd=>hF j (.head _) oj d hoj hd) h1 with⟨rfl,_⟩ | ⟨v,rfl,q,_⟩
    rotate_left
    ·exact absurd q hbj
    rw[h1]at h;simp only at h;have hF1:=hF.step hG hN.1 hoj h1;have hni:∀d,oi.mem=.new d→NoL st d:=fun d hd=>hF i (by simp) oi d hoi hd
    rcases front hG hoi post pre hN.2 hF1 (fun k hk ok hok=>hap k (.tail _ hk) ok hok) h with⟨s2,s',h3,h2,e2⟩ | ⟨v,s2,rfl,h3,hS,hob⟩
    ·obtain⟨t1,t2,q1,q2,q3⟩:=swap (hG.q j oj hoj) (hG.q i oi hoi) hapj (fun d hd=>hF j (.head _) oj d hoj hd) hni h1 h3;have hmem:∀k,k∈pre++post→k∈pre++i::post:=by
      intro k hk;simp only[d7,dc]at hk ⊢;rcases hk with h | h
      ·exact .inl h
      ·exact .inr (.inr h)
     have hNp:(pre++post).Nodup:=by
      refine List.Nodup.sublist ?_ hN.2;exact List.Sublist.append (List.Sublist.refl _) (vh _ _)
     have hin:i∉pre++post:=by
      have:=hN.2;rw[List.nodup_append]at this;obtain⟨a1,a2,a3⟩:=this;rw[pp]at a2;simp only[d7,not_or];refine⟨fun hi=>a3 i hi i (by simp) rfl,a2.1⟩
     have hF2:b0d aos (pre++post) s2:=by
      refine b0d.step (k:=i) (is:=pre++post) hG (fun k hk=>hF1 k ?_) hin hoi h3;simp only[dc]at hk;rcases hk with rfl | hk
      ·simp
      ·exact hmem k hk
     obtain⟨_,s'',h4,e4⟩:=ch3 hG _ hNp q3 hF2 h2;refine .inl ⟨t1,s'',q1,?_,e2.trans e4⟩;simp only[dv,bfz,hoj,q2];exact h4
    ·have q:=ctg (hG.q j oj hoj) (hG.q i oi hoi) hapj (fun d hd=>hF j (.head _) oj d hoj hd) hni h1 h3;exact .inr ⟨v,_,rfl,q,hS,fun k=>rfl⟩
  ·cases h
theorem cr7(hG:GoodA R aos){k0:Nat}(hk0:∀o∈aos,k0∉o.op.wr):∀(is:List Nat) {a s:St} {x:AEx},is.Nodup→b0d aos is a→bfz R aos is a=some (x,s)→ob s k0=ob a k0
 | [],a,s,x,_,_,h=>by
  simp only[bfz,normal,bd,bq]at h;obtain⟨rfl,rfl⟩:=h;rfl
 | k::is,a,s,x,hN,hF,h=>by
  simp only[bfz]at h;rw[pp]at hN;split at h
  ·rename_i o ho;cases h1:bdb R a o with
   | none=>rw[h1]at h;cases h
   | some p=>
    obtain⟨y,a1⟩:=p;rw[h1]at h;rcases bfk (hG.q k o ho) ((Eqv.refl a).agree o) (hG.bad k o ho) (fun d hd=>⟨hF k (.head _) o d ho hd,hF k (.head _) o d ho hd⟩) h1 with⟨rfl,b1,q1,q2⟩ | ⟨v,rfl,_,_,q3,q4⟩
    ·simp only at h;rw[cr7 hG hk0 is hN.2 (hF.step hG hN.1 ho h1) h];exact q2.fr.sl k0 (hk0 o (cp ho))
    ·simp only[bd,bq]at h;obtain⟨rfl,rfl⟩:=h;rw[q3];rfl
  ·cases h
end
structure Pend(r:Nat→Nat→Prop)(n:Nat)(ops:Array Oper)(pend:List Nat)(listed:Array Bool):Prop where
 size:listed.size=n
 sorted:pend.Pairwise r
 lt:∀k∈pend,k<n
 at':∀k,k<n→(listed.getD k true=true↔k∉pend)
 closed:∀k o,k<n→k∉pend→ops[k]? = some o→∀e∈bt6 o,e∉pend
theorem Pend.before{r:Nat→Nat→Prop}{n:Nat}{ops:Array Oper}{pend:List Nat}{listed:Array Bool}(h:Pend r n ops pend listed)(hn:n=ops.size){bs:List Nat}(hb:ddm bs ops.toList 0=true) :
  ∀(k:Nat),k<n→k∉pend→∀j,j<k→bAt bs k j=true→j∉pend:=by
 intro k
 induction k using Nat.strongRecOn with
 | _ k ih=>
  intro hk hkp j hj hB;have hks:k<ops.size:=by omega
  have ho:ops.toList[k]? = some ops[k]:=by simp[hks]
  have:=bkj hb k ho;simp only[dt,bt8,bp,cq,decide_eq_true_eq,jr,d8,dr,t8,beq_iff_eq]at this;obtain⟨h1,h2⟩:=this;have ho':ops[k]? = some ops[k]:=by simp[hks]
  rcases h2 j hj with h3 | ⟨e,he,h3⟩
  ·rw[hB]at h3;cases h3
  ·have hep:=h.closed k _ hk hkp ho' e he;rcases h3 with rfl | ⟨hje,h3⟩
   ·exact hep
   ·have hek:=h1 e he;exact ih e hek (by omega) hep j hje h3
theorem Pend.ready{r:Nat→Nat→Prop}{n:Nat}{ops:Array Oper}{pend:List Nat}{listed:Array Bool}(h:Pend r n ops pend listed)(hn:n=ops.size){bs:List Nat}(hb:ddm bs ops.toList 0=true)(i:Nat) :
  i∈Region.ready .any ops listed↔i∈pend∧∀o,ops[i]? = some o→∀e∈bt6 o,e∉pend:=by
 simp only[Region.ready,jp,jr,bp,dr];constructor
 ·rintro⟨hi,hl,ha⟩;have hin:i<n:=by omega
  have hip:i∈pend:=by
   refine Classical.byContradiction fun hc=>?_
   rw[(h.at' i hin).2 hc]at hl;cases hl
  refine⟨hip,fun o ho e he=>?_⟩;have ho':ops.toList[i]? = some o:=by simpa using ho
  have hb1:=bkj hb i ho';simp only[dt,bt8,bp,cq,decide_eq_true_eq]at hb1;have hei:=hb1.1 e he;simp only[ho,bc,Option.getD_some,qz,d8,dr]at ha;simp only[bt6,mg,jp,Array.mem_toList_iff]at he;obtain⟨ed,⟨h1,h2⟩,rfl⟩:=he;rcases ha ed h1 with h3 | h3
  ·rw[h2]at h3;cases h3
  ·refine(h.at' _ (by omega)).1 ?_;have hsz:ed.on<listed.size:=by rw[h.size];omega
   simp only[Array.getD,hsz,dif_pos]at h3 ⊢;exact h3
 ·rintro⟨hip,ha⟩;have hin:=h.lt i hip;have his:i<ops.size:=by omega
  refine⟨by omega,?_,?_⟩
  ·cases hl:listed.getD i true with
   | false=>rfl
   | true=>exact absurd hip ((h.at' i hin).1 hl)
  ·have ho:ops[i]? = some ops[i]:=by simp[his]
   have ho':ops.toList[i]? = some ops[i]:=by simp[his]
   have hb1:=bkj hb i ho';simp only[dt,bt8,bp,cq,decide_eq_true_eq]at hb1;simp only[ho,bc,Option.getD_some,qz,d8,dr];intro ed hed;by_cases hbi:Region.binds .any ed=true
   ·right;have he:ed.on∈bt6 ops[i]:=by
     simp only[bt6,mg,jp,Array.mem_toList_iff];exact⟨ed,⟨hed,hbi⟩,rfl⟩
    have h1:=ha _ ho _ he;have h2:=hb1.1 _ he;have h3:=(h.at' ed.on (by omega)).2 h1;have hsz:ed.on<listed.size:=by rw[h.size];omega
    simp only[Array.getD,hsz,dif_pos]at h3 ⊢;exact h3
   ·left;simpa using hbi
theorem Pend.take{r:Nat→Nat→Prop}(hne:∀a b,r a b→a≠b){n:Nat}{ops:Array Oper}{pre post:List Nat}{i:Nat}{listed:Array Bool}(h:Pend r n ops (pre++i::post) listed)(hi:∀o,ops[i]? = some o→∀e∈bt6 o,e∉pre++i::post) :
  Pend r n ops (pre++post) (listed.setIfInBounds i true):=by
 have hs:=h.sorted;have hmem:∀k,k∈pre++post→k∈pre++i::post:=by
  intro k hk;simp only[d7,dc]at hk ⊢;rcases hk with h | h
  ·exact .inl h
  ·exact .inr (.inr h)
 have hin:i∉pre++post:=by
  rw[rp,pt]at hs;obtain⟨_,⟨h2,_⟩,h3⟩:=hs;simp only[d7,not_or];exact⟨fun hi=>hne _ _ (h3 i hi i (by simp)) rfl,fun hi=>hne _ _ (h2 i hi) rfl⟩
 have hiff:∀k,k≠i→(k∈pre++i::post↔k∈pre++post):=by
  intro k hk;simp only[d7,dc,hk,false_or]
 have hilt:i<n:=h.lt i (by simp);refine⟨by simp[h.size],?_,fun k hk=>h.lt k (hmem k hk),fun k hk=>?_,fun k o hk hkp ho e he=>?_⟩
 ·exact hs.sublist (List.Sublist.append (List.Sublist.refl _) (vh _ _))
 ·by_cases hki:k=i
  ·subst hki;have:k<listed.size:=by rw[h.size];exact hk
   simp[Array.getD,this,hin]
  ·rw[← hiff k hki,← h.at' k hk];have hik:¬ i=k:=fun e=>hki e.symm
   simp[gv,sc,hik]
 ·intro hm;by_cases hki:k=i
  ·subst hki;exact hi o ho e he (hmem e hm)
  ·exact h.closed k o hk (fun hc=>hkp ((hiff k hki).1 hc)) ho e he (hmem e hm)
section
variable{aos:List AOper}{R:Rec}{ops:Array Oper}{bs:List Nat}
theorem c4k(hG:GoodA R aos)(hn:aos.length=ops.size)(hb:ddm bs ops.toList 0=true)
  {r:Nat→Nat→Prop} (hne:∀a b,r a b→a≠b) (hext:∀a b o,r a b→ops[a]? = some o→b∉bt6 o)
  (hp:∀(i j:Nat) {o p:AOper},aos[i]? = some o→aos[j]? = some p→r j i→(j<i∧bAt bs i j=true)∨(bv2 p o=true∧p.blk≠some 66666)) :
  ∀ (fuel:Nat) (pend:List Nat) (listed:Array Bool) (t:Nat) {st s:St} {x:AEx},pend.length≤fuel→Pend r aos.length ops pend listed→b0d aos pend st→bfz R aos pend st=some (x,s) →
    ∃s',bfz R aos (Region.linearise.go .any ops fuel t listed []) st=some (x,s')∧b71 aos x s s':=by
 intro fuel
 induction fuel with
 | zero=>
  intro pend listed t st s x hl hP hF h;have:pend=[]:=ft (by omega);subst this;exact⟨s,by simpa[Region.linearise.go] using h,.inl (Eqv.refl s)⟩
 | succ fuel ih=>
  intro pend listed t st s x hl hP hF h;simp only[Region.linearise.go];change ∃s',bfz R aos (match (Region.ready .any ops listed)[t % (Region.ready .any ops listed).length]? with
   | some i=>Region.linearise.go .any ops fuel (t / (Region.ready .any ops listed).length) (listed.setIfInBounds i true) [i]
   | none=>[].reverse) st=some (x,s')∧b71 aos x s s'
  cases hr:(Region.ready .any ops listed)[t % (Region.ready .any ops listed).length]? with
  | none=>
   have hnil:Region.ready .any ops listed=[]:=by
    cases hr2:Region.ready .any ops listed with
    | nil=>rfl
    | cons a l=>
     rw[hr2]at hr;have hlt:t % (a::l).length<(a::l).length:=vt _ (by simp);rw[tz]at hr;omega
   have:pend=[]:=by
    cases pend with
    | nil=>rfl
    | cons i0 r=>
     have:i0∈Region.ready .any ops listed:=by
      rw[hP.ready hn hb];refine⟨.head _,fun o ho e he hm=>?_⟩;have ho':ops.toList[i0]? = some o:=by simpa using ho
      have hb1:=bkj hb i0 ho';simp only[dt,bt8,bp,cq,decide_eq_true_eq]at hb1;have hlt:=hb1.1 e he;simp only[dc]at hm;rcases hm with rfl | hm
      ·omega
      ·have:=hP.sorted;rw[pt]at this;exact hext _ _ _ (this.1 e hm) ho he
     rw[hnil]at this;cases this
   subst this;exact⟨s,by simpa using h,.inl (Eqv.refl s)⟩
  | some i=>
   simp only;have hir:i∈Region.ready .any ops listed:=cp hr;rw[hP.ready hn hb]at hir;obtain⟨hip,hie⟩:=hir;obtain⟨pre,post,rfl⟩:=List.append_of_mem hip;have hilt:=hP.lt i hip;have hoi:aos[i]? = some aos[i]:=by simp[hilt]
   have hN:(pre++i::post).Nodup:=hP.sorted.imp (fun h=>hne _ _ h);have hpre:∀j∈pre,∀oj,aos[j]? = some oj→bv2 oj aos[i]=true∧oj.blk≠some 66666:=by
    intro j hj oj hoj;have hjr:r j i:=by
     have:=hP.sorted;rw[rp]at this;exact this.2.2 j hj i (by simp)
    rcases hp i j hoi hoj hjr with⟨hji,h1⟩ | h1
    ·exfalso;have hios:i<ops.size:=by omega
     have ho:ops[i]? = some ops[i]:=by simp[hios]
     have ho':ops.toList[i]? = some ops[i]:=by simp[hios]
     have hb1:=bkj hb i ho';simp only[dt,bt8,bp,cq,decide_eq_true_eq,jr,d8,dr,t8,beq_iff_eq]at hb1;obtain⟨q1,q2⟩:=hb1;have hjp:j∈pre++i::post:=by simp[hj]
     rcases q2 j hji with h3 | ⟨e,he,h3⟩
     ·rw[h1]at h3;cases h3
     ·have hep:=hie _ ho e he;rcases h3 with rfl | ⟨hje,h3⟩
      ·exact hep hjp
      ·exact hP.before hn hb e (by have:=q1 e he;omega) hep j hje h3 hjp
    ·exact h1
   rcases front hG hoi post pre hN hF hpre h with⟨st1,s1,h2,h1,e1⟩ | ⟨v,st1,rfl,h2,hS,hob⟩
   ·have hP':=hP.take hne hie;have hin:i∉pre++post:=by
     rw[List.nodup_append]at hN;obtain⟨a1,a2,a3⟩:=hN;rw[pp]at a2;simp only[d7,not_or];exact⟨fun hi=>a3 i hi i (by simp) rfl,a2.1⟩
    have hF':b0d aos (pre++post) st1:=by
     refine b0d.step (k:=i) (is:=pre++post) hG (fun k hk=>hF k ?_) hin hoi h2;simp only[d7,dc]at hk ⊢;rcases hk with rfl | hk | hk
     ·exact .inr (.inl rfl)
     ·exact .inl hk
     ·exact .inr (.inr hk)
    obtain⟨s2,h3,e3⟩:=ih (pre++post) (listed.setIfInBounds i true) (t / (Region.ready .any ops listed).length) (by simp at hl ⊢;omega) hP' hF' h1;refine⟨s2,?_,(show b71 aos x s s1 from .inl e1).trans e3⟩;rw[linearise_go_acc];simp only[vj,pg,bfz,hoi,h2];exact h3
   ·refine⟨st1,?_,.inr ⟨⟨v,rfl⟩,hS,fun k hk=>?_⟩⟩
    ·rw[linearise_go_acc];simp only[vj,pg,bfz,hoi,h2]
    ·rw[hob k];exact(cr7 hG hk _ hN hF h).symm
theorem dd4(hn:aos.length=ops.size)(hb:ddm bs ops.toList 0=true)(hp:∀(i j:Nat),i<aos.length→j<i→bAt bs i j=true) :
  ∀(fuel:Nat) (pend:List Nat) (listed:Array Bool) (t:Nat),pend.length≤fuel→Pend (·<·) aos.length ops pend listed→Region.linearise.go .any ops fuel t listed []=pend:=by
 intro fuel
 induction fuel with
 | zero=>
  intro pend listed t hl hP;have:pend=[]:=ft (by omega);subst this;simp[Region.linearise.go]
 | succ fuel ih=>
  intro pend listed t hl hP;simp only[Region.linearise.go];change (match (Region.ready .any ops listed)[t % (Region.ready .any ops listed).length]? with
   | some i=>Region.linearise.go .any ops fuel (t / (Region.ready .any ops listed).length) (listed.setIfInBounds i true) [i]
   | none=>[].reverse)=pend
  cases hr:(Region.ready .any ops listed)[t % (Region.ready .any ops listed).length]? with
  | none=>
   have hnil:Region.ready .any ops listed=[]:=by
    cases hr2:Region.ready .any ops listed with
    | nil=>rfl
    | cons a l=>
     rw[hr2]at hr;have hlt:t % (a::l).length<(a::l).length:=vt _ (by simp);rw[tz]at hr;omega
   cases pend with
   | nil=>rfl
   | cons i0 r=>
    have:i0∈Region.ready .any ops listed:=by
     rw[hP.ready hn hb];refine⟨.head _,fun o ho e he hm=>?_⟩;have ho':ops.toList[i0]? = some o:=by simpa using ho
     have hb1:=bkj hb i0 ho';simp only[dt,bt8,bp,cq,decide_eq_true_eq]at hb1;have hlt:=hb1.1 e he;simp only[dc]at hm;rcases hm with rfl | hm
     ·omega
     ·have:=hP.sorted;rw[pt]at this;have:=this.1 e hm;omega
    rw[hnil]at this;cases this
  | some i=>
   simp only;have hir:i∈Region.ready .any ops listed:=cp hr;rw[hP.ready hn hb]at hir;obtain⟨hip,hie⟩:=hir;obtain⟨pre,post,rfl⟩:=List.append_of_mem hip;have hilt:=hP.lt i hip;have hpre:pre=[]:=by
    cases pre with
    | nil=>rfl
    | cons j pre=>
     exfalso;have hji:j<i:=by
      have:=hP.sorted;rw[rp]at this;exact this.2.2 j (.head _) i (by simp)
     have h1:=hp i j hilt hji;have hios:i<ops.size:=by omega
     have ho:ops[i]? = some ops[i]:=by simp[hios]
     have ho':ops.toList[i]? = some ops[i]:=by simp[hios]
     have hb1:=bkj hb i ho';simp only[dt,bt8,bp,cq,decide_eq_true_eq,jr,d8,dr,t8,beq_iff_eq]at hb1;obtain⟨q1,q2⟩:=hb1;have hjp:j∈(j::pre)++i::post:=by simp
     rcases q2 j hji with h3 | ⟨e,he,h3⟩
     ·rw[h1]at h3;cases h3
     ·have hep:=hie _ ho e he;rcases h3 with rfl | ⟨hje,h3⟩
      ·exact hep hjp
      ·exact hP.before hn hb e (by have:=q1 e he;omega) hep j hje h3 hjp
   subst hpre;have hP':=hP.take (fun a b h=>by omega) hie;rw[linearise_go_acc,ih ([]++post) _ _ (by simp at hl ⊢;omega) hP'];simp
theorem b8q{n:Nat}:Pend (·<·) n ops (List.range n) (Array.replicate n false):=
 ⟨by simp,List.pairwise_lt_range,fun k hk=>by simpa using hk,fun k hk=>by simp[Array.getD,hk],fun k o hk hkp _=>absurd (by simpa using hk) hkp⟩
theorem b6j(rec:Rec)(aos:List AOper):∀(l:List AOper) (k:Nat) (st:St),(∀j,l[j]? = aos[k+j]?)→bfz rec aos (List.range' k l.length) st=bp2 rec l st
 | [],k,st,_=>rfl
 | o::l,k,st,h=>by
  have h0:aos[k]? = some o:=by simpa using(h 0).symm
  have ih:∀st',bfz rec aos (List.range' (k+1) l.length) st'=bp2 rec l st':=fun st'=>b6j rec aos l (k+1) st' fun j=>by have:=h (j+1);simpa[tf,jg 1 j] using this
  simp only[cm,List.range'_succ,bfz,h0,bp2,ih]<;>rfl
theorem bz3(rec:Rec)(aos:List AOper)(st:St):bfz rec aos (List.range aos.length) st=bp2 rec aos st:=by
 rw[List.range_eq_range'];exact b6j rec aos aos 0 st fun j=>by simp
theorem cms{rec:Rec}{quiet:Bool}(hn:aos.length=ops.size)(hb:ddm bs ops.toList 0=true)(hd:c9r quiet aos bs=true){st s:St}{x:AEx}(hF:b0d aos (List.range aos.length) st)
  (h:bp2 (if quiet then rec.quiet else rec) aos st=some (x,s)) (t:Nat) :
  ∃s',bfz (if quiet then rec.quiet else rec) aos (Region.linearise .any ops t) st=some (x,s')∧b71 aos x s s':=by
 unfold Region.linearise;simp only[c9r,d8,bp,cq,decide_eq_true_eq]at hd;rw[← bz3]at h;rw[← hn];rcases hd with hd | ⟨⟨⟨hq,hbad⟩,hd⟩,hps⟩
 ·rw[dd4 hn hb (fun i j hi hj=>by
   have hi':aos[i]? = some aos[i]:=by simp[hi]
   have hj':aos[j]? = some (aos[j]'(by omega)):=by rw[cz]
   have:=bms hd i j hi' hj' (by omega);simpa using this) aos.length (List.range aos.length) _ t (by simp) b8q]
  exact⟨s,h,.inl (Eqv.refl s)⟩
 ·have hpair:∀(i j:Nat) {o p:AOper},aos[i]? = some o→aos[j]? = some p→j<i→cqz bs j i p o=true:=by
   intro i j o p ho hp hj;have:=bms hd i j ho hp (by omega);simpa using this
  have hsafe:∀(i j:Nat) {o p:AOper},aos[i]? = some o→aos[j]? = some p→j<i→b5g bs j i p o=true:=by
   intro i j o p ho hp hj;have:=bms hps i j ho hp (by omega);simpa using this
  have hsn:∀(i j:Nat) {o p:AOper} (d:Nat),aos[i]? = some o→aos[j]? = some p→j<i→p.mem=.new d→o.mem≠.new d:=by
   intro i j o p d ho hp hj h1 h2;have:=hpair i j ho hp hj;simp[cqz,b03,h1,h2]at this
  have hG:GoodA (if quiet then rec.quiet else rec) aos:=⟨fun k o ho hm=>by
   rcases hq with rfl | hq
   ·exact cf3 rec
   ·exact absurd hm (hq o (cp ho)),fun k o ho=>hbad o (cp ho),fun k k' o o' d hne ho ho' h1 h2=>by
   rcases Nat.lt_or_gt_of_ne hne with hlt | hlt
   ·exact hsn k' k d ho' ho hlt h1 h2
   ·exact hsn k k' d ho ho' hlt h2 h1⟩
  exact c4k hG hn hb (r:=(·<·)) (fun a b h=>by omega) (fun a b o h ho he=>by
   have hb1:=bkj hb a (by simpa using ho);simp only[dt,bt8,bp,cq,decide_eq_true_eq]at hb1;have:=hb1.1 b he;omega) (fun i j o p ho hp hj=>by
   have h1:=hpair i j ho hp hj;have h2:=hsafe i j ho hp hj;simp only[cqz,b5g,bp,d8,dr,beq_eq_false_iff_ne,ne_eq]at h1 h2;rcases h2 with h2 | h2
   ·rcases h1.1 with h1 | h1
    ·exact .inl ⟨hj,h1⟩
    ·exact .inr ⟨h1,h2⟩
   ·exact .inl ⟨hj,h2⟩) aos.length (List.range aos.length) _ t (by simp) b8q hF h
def prs(f:Nat→Nat→Bool):List Nat→Bool
 | []=>true
 | a::l=>l.all (fun b=>f a b)&&prs f l
theorem b2q{f:Nat→Nat→Bool}:∀{l:List Nat},prs f l=true→l.Pairwise (fun a b=>f a b=true)
 | [],_=>.nil
 | a::l,h=>by
  simp only[prs,bp,cq]at h;exact .cons h.1 (b2q h.2)
theorem b5h{r:Nat→Nat→Prop}:∀{l:List Nat},l.Pairwise r→∀a b,a∈l→b∈l→a≠b→r a b∨r b a
 | [],_,a,b,h,_,_=>by cases h
 | x::l,h,a,b,ha,hb,hn=>by
  rw[pt]at h;rcases dc.1 ha with e | ha'
  ·rcases dc.1 hb with e' | hb'
   ·exact absurd (e.trans e'.symm) hn
   ·subst e;exact .inl (h.1 b hb')
  ·rcases dc.1 hb with e' | hb'
   ·subst e';exact .inr (h.1 a ha')
   ·exact b5h h.2 a b ha' hb' hn
def ck1(bs:List Nat)(aos:List AOper)(os:List Oper)(a b:Nat):Bool:=
 a != b&&(match os[a]?,aos[a]?,aos[b]? with
  | some o,some p,some q=>!((bt6 o).contains b)&&!b03 p q&&!b03 q p&&((decide (a<b)&&bAt bs b a)||(bv2 p q&&!(p.blk==some 66666)))
  | _,_,_=>false)
def cmt(quiet:Bool)(aos:List AOper)(bs:List Nat)(os:List Oper):Bool:=match bs with
 | (k+1)::_=>
  let l:=b7m k (List.range aos.length)
  decide (l.length=aos.length)&&l.all (fun i=>decide (i<aos.length))&&(List.range aos.length).all (fun i=>l.contains i)&&(quiet||aos.all (fun o=>decide (o.mem≠.call)))&&aos.all (fun o=>decide (o.mem≠.bad))&&prs (ck1 bs aos os) l
 | _=>c9r quiet aos bs
theorem c4m{α β:Type}(f:α→β)(k:Nat)(l:List α):b7m k (l.map f)=(b7m k l).map f:=by
 simp[b7m,List.map_take,List.map_drop]
theorem ch2(rec:Rec)(aos:List AOper):∀(is:List Nat) (st:St),(∀i∈is,i<aos.length)→bfz rec aos is st=bp2 rec (is.map fun i=>aos.getD i {op:=.nils 0 0 0}) st
 | [],st,_=>rfl
 | i::is,st,h=>by
  have hi:=h i (.head _);have h0:aos[i]? = some aos[i]:=by simp[hi]
  have ih:∀st',bfz rec aos is st'=bp2 rec (is.map fun i=>aos.getD i {op:=.nils 0 0 0}) st':=fun st'=>ch2 rec aos is st' fun j hj=>h j (.tail _ hj)
  have hg:aos.getD i {op:=.nils 0 0 0}=aos[i]:=by simp[List.getD,h0]
  simp only[cr,bfz,h0,bp2,ih,hg]<;>rfl
theorem ct5(aos:List AOper):(List.range aos.length).map (fun i=>aos.getD i {op:=.nils 0 0 0})=aos:=by
 apply tt;intro i;rw[d4];by_cases h:i<aos.length
 ·simp[h]
 ·simp[fg (Nat.le_of_not_lt h),h]
theorem czq{rec:Rec}{quiet:Bool}(hn:aos.length=ops.size)(hb:ddm bs ops.toList 0=true)(hd:cmt quiet aos bs ops.toList=true){st s:St}{x:AEx}(hF:∀is,b0d aos is st)
  (h:bp2 (if quiet then rec.quiet else rec) (bkz (some bs) aos) st=some (x,s)) (t:Nat) :
  ∃s',bfz (if quiet then rec.quiet else rec) aos (Region.linearise .any ops t) st=some (x,s')∧b71 aos x s s':=by
 unfold cmt at hd;split at hd
 ·rename_i k b;rw[b5f]at h;simp only[bp,decide_eq_true_eq,cq,jr,List.contains_iff_mem,d8]at hd;obtain⟨⟨⟨⟨⟨d1,d2⟩,d3⟩,hq⟩,hbad⟩,d6⟩:=hd;have hpw:=b2q d6;have e:b7m k aos=(b7m k (List.range aos.length)).map fun i=>aos.getD i {op:=.nils 0 0 0}:=by
   rw[← c4m,ct5]
  generalize b7m k (List.range aos.length)=l at *;rw[e,← ch2 _ _ _ _ d2]at h;have hG:GoodA (if quiet then rec.quiet else rec) aos:=⟨fun k o ho hm=>by
   rcases hq with rfl | hq
   ·exact cf3 rec
   ·exact absurd hm (hq o (cp ho)),fun k o ho=>hbad o (cp ho),fun i j o o' d hne ho ho' h1 h2=>by
   have hi:i<aos.length:=(cf.1 ho).1;have hj:j<aos.length:=(cf.1 ho').1;rcases b5h hpw i j (d3 i hi) (d3 j hj) hne with hh | hh
   ·simp only[ck1,ho,ho']at hh;simp only[bp]at hh;obtain⟨_,hh⟩:=hh;split at hh
    ·rename_i q1 q2 q3;obtain rfl:=bf q2;obtain rfl:=bf q3;simp[b03,h1,h2]at hh
    ·cases hh
   ·simp only[ck1,ho,ho']at hh;simp only[bp]at hh;obtain⟨_,hh⟩:=hh;split at hh
    ·rename_i q1 q2 q3;obtain rfl:=bf q2;obtain rfl:=bf q3;simp[b03,h1,h2]at hh
    ·cases hh⟩
  unfold Region.linearise;rw[← hn];refine c4k hG hn hb (r:=fun a c=>ck1 ((k+1)::b) aos ops.toList a c=true) (fun a c hh=>?_) (fun a c o hh ho he=>?_) (fun i j o p ho hp hh=>?_) aos.length l _ t (by omega) ⟨by simp,hpw,d2,fun i hi=>by simp[Array.getD,hi,d3 i hi],fun i o hi hip _=>absurd (d3 i hi) hip⟩ (hF _) h
  ·simp only[ck1,bp,bne_iff_ne,ne_eq]at hh;exact hh.1
  ·have ho':ops.toList[a]? = some o:=by simpa using ho
   simp only[ck1,bp,ho']at hh;obtain⟨_,hh⟩:=hh;split at hh
   ·rename_i q1 q2 q3;obtain rfl:=bf q1;simp only[bp,dr,fc,decide_eq_false_iff_not]at hh;exact hh.1.1.1 he
   ·cases hh
  ·simp only[ck1,bp,ho,hp]at hh;obtain⟨_,hh⟩:=hh;split at hh
   ·rename_i q1 q2 q3;obtain rfl:=bf q2;obtain rfl:=bf q3;simp only[bp,d8,decide_eq_true_eq,dr,beq_eq_false_iff_ne,ne_eq]at hh;rcases hh.2 with h1 | h1
    ·exact .inl h1
    ·exact .inr h1
   ·cases hh
 ·have h':bp2 (if quiet then rec.quiet else rec) aos st=some (x,s):=by
   have e:bkz (some bs) aos=aos:=by
    cases bs with
    | nil=>rfl
    | cons k b=>
     cases k with
     | zero=>rfl
     | succ k=>rename_i hh;exact absurd rfl (hh k b)
   rwa [e]at h
  exact cms hn hb hd (hF _) h' t
theorem bvp:∀(ds:List Nat) (σ:zq) (k:Nat),(σ.killAll ds).get k=.junk∨((σ.killAll ds).get k=σ.get k∧∀d∈ds,(σ.get k).aims d=false)
 | [],σ,k=>.inr ⟨rfl,fun d hd=>by cases hd⟩
 | d::ds,σ,k=>by
  simp only[zq.killAll];rcases bvp ds (σ.kill d) k with h | ⟨h1,h2⟩
  ·exact .inl h
  ·rw[zq.get_kill]at h1 h2;cases hk:(σ.get k).aims d with
   | true=>
    left;rw[h1];cases hg:σ.get k with
    | l d' off=>rw[hg]at hk;simp[SV.aims]at hk;simp[SV.kill,hk]
    | ls d' sz ag n=>rw[hg]at hk;simp[SV.aims]at hk;simp[SV.kill,hk]
    | _=>rw[hg]at hk;simp[SV.aims]at hk
   | false=>
    have e:(σ.get k).kill d=σ.get k:=ch6 hk;right;rw[e]at h1 h2;refine⟨h1,fun d' hd'=>?_⟩;simp only[dc]at hd';rcases hd' with rfl | hd'
    ·exact hk
    ·exact h2 d' hd'
theorem cvb(aos:List AOper)(is:List Nat)(st:St):b0d aos is (st.prep aos):=by
 intro k _ o d ho hm k';have hd:d∈b8z aos:=by
  simp only[b8z,qr];refine⟨o,cp ho,?_⟩
  revert hm
  unfold AOper.mem AOp.news;cases o.op<;>simp
  case box d' sh x nl=>cases sh<;>simp<;>(intro e;exact e.symm)
  case alloc d' sh z own=>cases sh<;>simp<;>(intro e;exact e.symm)
  case makeL=>intro e;exact e.symm
  case cloneL=>intro e;exact e.symm
  case load=>split<;>simp
  case take=>split<;>simp
  case store=>split<;>simp
  case call=>split<;>(try split)<;>simp
  case callv=>split<;>(try split)<;>simp
 simp only[St.prep];rcases bvp (b8z aos) st.σ k' with h | ⟨h1,h2⟩
 ·rw[h];rfl
 ·rw[h1];exact h2 d hd
theorem Inv.prep{g:Gh}{W:World}{a:Act}{N:Nat}{L:Nat→Nat}{st:St}(hi:Inv g W a N L st)(aos:List AOper):Inv g W a N L (st.prep aos):=by
 refine⟨hi.size,fun k=>?_,fun k e hk=>?_,hi.loc,hi.sh⟩
 ·simp only[St.prep];rcases bvp (b8z aos) st.σ k with h | ⟨h1,h2⟩
  ·rw[h];trivial
  ·rw[h1];exact hi.slot k
 ·obtain⟨x,w,h1,h2⟩:=hi.own k e hk;refine⟨x,w,?_,h2⟩;simp only[St.prep];have:∀(ds:List Nat) (σ:zq),(σ.get k).part (a.tmps.getD k undef)=some (x,w)→((σ.killAll ds).get k).part (a.tmps.getD k undef)=some (x,w):=by
   intro ds
   induction ds with
   | nil=>intro σ h;exact h
   | cons d ds ih=>intro σ h;exact ih _ (by rw[zq.get_kill,SV.part_kill h];exact h)
  exact this _ _ h1
end
end Go.Av
namespace Go.Av
open Go
def bgz(P:Program)(N:Nat):ACode→Code→Bool
 | .skip _ _,.skip=>true
 | .region aos bs quiet _ _,.region _ ops draw=>bpx P N ops aos ops.toList &&
   (match bs with | none=>!draw | some bs=>draw&&ddm bs ops.toList 0&&cmt quiet aos bs ops.toList)
 | .seq a b,.seq c d=>bgz P N a c&&bgz P N b d
 | .cond x a b,.cond y c d=>bb1 x y&&bgz P N a c&&bgz P N b d
 | .block i a,.block j c=>i==j&&bgz P N a c
 | .loop a,.loop c=>bgz P N a c
 | .exit i _ _,.exit j=>i==j
 | .ret,.ret=>true
 | .freeze _ a,c=>bgz P N a c
 | .scope a,.scope c=>bgz P N a c
 | .label,.label _=>true
 | _,_=>false
section
variable{P:Program}{W0:World}{N:Nat}
theorem Inv.keep'{g:Gh}{W:World}{a:Act}{L:Nat→Nat}{st:St}(h:Inv g W a N L st)(live locs:List Nat):Inv g W a N L (st.keep live locs):=by
 refine⟨h.size,fun k=>?_,fun k e hk=>?_,fun d x hx=>h.loc d x (bc8.get_keep _ _ _ hx),h.sh⟩
 ·simp only[St.keep,zq.get_keep];split
  ·exact h.slot k
  ·trivial
 ·simp only[St.keep,List.mem_filterMap,bv]at hk;obtain⟨j,hj,e',he,h2⟩:=hk;simp only[bq]at h2;obtain⟨rfl,rfl⟩:=h2;obtain⟨x,w,q1,q2⟩:=h.own _ _ (bdq he);refine⟨x,w,?_,q2⟩;simp only[St.keep,zq.get_keep,hj,if_true];exact q1
theorem b89(σ:zq)(d:Nat)(cs:LA)(k:Nat):(σ.freeze d cs).get k=(σ.get k).frozen d cs:=by
 induction σ with
 | nil=>rfl
 | cons p r ih=>
  obtain⟨j,x⟩:=p;simp only[zq.freeze,zq.get];split
  ·rfl
  ·exact ih
theorem Inv.freeze{g:Gh}{W:World}{a:Act}{L:Nat→Nat}{st st':St}(h:Inv g W a N L st){d:Nat}(hf:st.freeze d=some st'):∃g',Ext g W g' W∧Inv g' W a N L st':=by
 unfold St.freeze at hf;split at hf
 ·rename_i bx hbx;simp only[bd]at hf;subst hf;obtain⟨cs,ty,hb,hl,ho,hT,hr⟩:=h.loc d bx hbx;have hlt:=bd0 hb
  let g':Gh:={g with T:=upd g.T (L d) bx.cells.length,O:=upd g.O (L d) .free}
  have hne:g.O (L d)≠.ext:=by rw[ho];simp
  have hK:Keeps g W g' W:=⟨fun c=>by
   show g.T c≤upd g.T (L d) bx.cells.length c;by_cases e:c=L d
   ·subst e;rw[bb2,hT];omega
   ·rw[bbh _ _ _ _ e];exact cj _,fun _ _ _=>rfl,fun _ _ h=>h⟩
  have hX:Ext g W g' W:=⟨hK,cj _,rfl,rfl,rfl,fun c hc=>by
   have e:c≠L d:=fun e=>by subst e;exact hne hc
   exact⟨by show upd g.O (L d) .free c=_;rw[bbh _ _ _ _ e];exact hc,rfl,by show upd g.T (L d) bx.cells.length c=_;rw[bbh _ _ _ _ e]⟩⟩
  have h0:Inv g W a N L {st with loc:=st.loc.del d}:=h.sub rfl (fun _ h=>h) (fun d' x' hx=>by
   simp only[bc8.get_del]at hx;split at hx
   ·cases hx
   ·exact⟨x',hx,x'.le_refl⟩) rfl (fun _ x hx=>⟨x,hx,x.le_refl⟩)
  have h1:Inv g' W a N L {st with loc:=st.loc.del d}:=h0.keepX hK rfl (.loc d) (fun c hc hco=>by
   have e:c≠L d:=fun e=>by subst e;exact hco ho
   exact⟨rfl,by show upd g.O (L d) .free c=_;rw[bbh _ _ _ _ e],by show upd g.T (L d) bx.cells.length c=_;rw[bbh _ _ _ _ e]⟩) (fun c hc=>by
   have e:c≠L d:=by omega
   have:=h.sh.fresh c hc;exact⟨by show upd g.T (L d) bx.cells.length c=_;rw[bbh _ _ _ _ e];exact this.1,by show upd g.O (L d) .free c=_;rw[bbh _ _ _ _ e];exact this.2⟩) (b73 (by simp[bc8.get_del]))
  refine⟨g',hX,h1.size,fun k=>?_,fun k e hk=>?_,h1.loc,h1.sh⟩
  ·have:=h1.slot k;simp only at this;simp only[b89];cases hs:st.σ.get k with
   | v x=>rw[hs]at this;exact this
   | vn x ns=>rw[hs]at this;exact⟨bdx (Keeps.refl g' W) this.1,this.2⟩
   | vr x ns j=>rw[hs]at this;exact⟨bdx (Keeps.refl g' W) this.1,this.2⟩
   | junk=>trivial
   | undef=>rw[hs]at this;exact this
   | ls d' sz ag n=>
    rw[hs]at this;simp only[SV.frozen];split
    ·rename_i e;subst e;split
     ·rename_i es hes;simp only[SVR]at this;obtain⟨hag,cap,hcap,hv⟩:=this;rw[hv];obtain⟨q1,q2,q3⟩:=cdh hag hl hes;have q:=bgf (g:=g') (W:=W) (sz:=sz) (es:=es) (p:=some ⟨L d',0,none⟩) (cap:=cap) (by omega) (.inr ⟨L d',0,(cs.toList.take bx.cells.length).take (n*sz),rfl,?_,?_,btk hK _ _ _ q3⟩)
      ·rw[q1]at q;exact q
      ·have:=bk3 hb bx.cells.length 0;exact bs5 this _
      ·show 0+((cs.toList.take bx.cells.length).take (n*sz)).length≤upd g.T (L d') bx.cells.length (L d');rw[bb2];simp;omega
     ·trivial
    ·exact this
   | l d' off=>
    rw[hs]at this;simp only[SV.frozen];split
    ·rename_i e;subst e;split
     ·rename_i hoff;simp only[SVR]at this;rw[this];refine⟨?_,rfl⟩;have hlen:=bbv hl;simp only[R];refine⟨L d',off,(cs.toList.take bx.cells.length).drop off,rfl,bk3 hb bx.cells.length off,?_,bg3 hK _ _ (bq6 hl off)⟩;show off+((cs.toList.take bx.cells.length).drop off).length≤upd g.T (L d') bx.cells.length (L d');rw[bb2];simp at hlen ⊢;omega
     ·trivial
    ·exact this
  ·obtain⟨x,w,q1,q2⟩:=h1.own k e hk;refine⟨x,w,?_,q2⟩;simp only at q1;simp only[b89];rw[SV.part_frozen q1 _ _];exact q1
 ·cases hf
inductive Ends(g:Gh)(W:World):AEx→Exit→Prop where
 | normal:Ends g W .normal .normal
 | exit (id:Nat):Ends g W (.exit id) (.exit id)
 | ret:Ends g W .ret .ret
 | panic (v:AV) (u:Value) (h:RV g W v u):Ends g W (.panic v) (.panic [{v:=u,recovered:=false}])
def AEx.isPanic:AEx→Bool
 | .panic _=>true
 | _=>false
def c8v(F:List Nat)(aos:List AOper):Bool:=F.all fun k=>aos.all fun o=>!(o.op.wr.contains k)
def ACode.fix(F:List Nat):ACode→Bool
 | .region aos (some _) _ _ _=>c8v F aos
 | .seq a b | .cond _ a b=>a.fix F&&b.fix F
 | .block _ c | .loop c | .freeze _ c | .scope c=>c.fix F
 | _=>true
theorem dsk:∀c:ACode,c.fix []=true:=by
 intro c
 induction c with
 | region aos bs quiet live locs=>cases bs<;>rfl
 | seq a b iha ihb=>simp[ACode.fix,iha,ihb]
 | cond o a b iha ihb=>simp[ACode.fix,iha,ihb]
 | block id c ih=>simp[ACode.fix,ih]
 | loop c ih=>simp[ACode.fix,ih]
 | freeze d c ih=>simp[ACode.fix,ih]
 | scope c ih=>simp[ACode.fix,ih]
 | _=>rfl
def GoesF(F:List Nat)(g:Gh)(W:World)(N:Nat)(df:List Deferred)(x:AEx)(st':St)(Q:Exit→Act→World→Prop):Prop:=
 ∀g' W' a' L' st2 e,a'.defers=df→Ext g W g' W'→Inv g' W' a' N L' st2→(st2=st'∨(x.isPanic=true∧st2.S=st'.S∧∀k∈F,ob st2 k=ob st' k))→Ends g' W' x e→Q e a' W'
def GoesC(g:Gh)(W:World)(N:Nat)(df:List Deferred)(x:AEx)(st':St)(Q:Exit→Act→World→Prop):Prop:=
 ∀g' W' a' L' st2 e,a'.defers=df→Ext g W g' W'→Inv g' W' a' N L' st2→(st2=st'∨(x.isPanic=true∧st2.S=st'.S))→Ends g' W' x e→Q e a' W'
theorem ops_wp{F:List Nat}(hm:P.follows .mixedOrders=true){rec:Rec}(hrec:bbk P W0 rec){aos:List AOper}{bs:Option (List Nat)}{quiet:Bool}{live locs:List Nat}{id:Nat}{ops:Array Oper}{draw:Bool}
  (hc:bgz P N (.region aos bs quiet live locs) (.region id ops draw)=true) (hfx:(ACode.region aos bs quiet live locs).fix F=true) {g:Gh} {W:World} {a:Act} {L:Nat→Nat} {st:St} (hi:Inv g W a N L st) (hB:Base W0 g W) {x:AEx} {st':St}
  (h:xf rec (.region aos bs quiet live locs) st=some (x,st')) {Q:Exit→Act→World→Prop} (hg:GoesF F g W N a.defers x st' Q):(Code.region id ops draw).wp P Q a W:=by
 simp only[bgz,bp]at hc;obtain⟨hmo,hc⟩:=hc;have hrec':bbk P W0 (if quiet then rec.quiet else rec):=by
  split
  ·exact hrec.quiet
  ·exact hrec
 simp only[xf]at h;cases hao:bp2 (if quiet then rec.quiet else rec) (bkz bs aos) (if bs.isSome then st.prep aos else st) with
 | none=>rw[hao]at h;cases h
 | some p=>
  obtain⟨y,s⟩:=p;rw[hao]at h;have go:∀(is:List Nat) {g0:Gh} {W1:World} {s1 st1:St},Inv g0 W1 a N L st1→Base W0 g0 W1→Ext g W g0 W1→bfz (if quiet then rec.quiet else rec) aos is st1=some (y,s1)→(s1=s∨(b71 aos y s s1∧c8v F aos=true))→wpOps P ops Q is a W1:=by
   intro is g0 W1 s1 st1 hi1 hB1 hE1 h1 he;refine c4v hrec' hmo is hi1 hB1 h1 ⟨fun hy g' W' a' L' hdf hE hi'=>?_,fun v hy g' W' a' L' u hdf hE hi' hu=>?_⟩
   ·subst hy;simp only[normal,bd,bq]at h;obtain⟨rfl,hk⟩:=h;have hk':st'=s.keep live locs:=hk.symm;refine hg g' W' a' L' _ .normal hdf (hE1.trans hE) (hi'.keep' live locs) (.inl ?_) .normal;rw[hk'];rcases he with rfl | ⟨he,_⟩
    ·rfl
    ·rcases he with he | ⟨⟨v,q⟩,_⟩
     ·exact he.keep live locs |>.symm
     ·cases q
   ·subst hy;simp only[bd,bq]at h;obtain⟨rfl,hk⟩:=h;have hk':st'=s:=hk.symm;refine hg g' W' a' L' s1 _ hdf (hE1.trans hE) hi' ?_ (.panic v u hu);rcases he with rfl | ⟨he,hfo⟩
    ·exact .inl hk'.symm
    ·rcases he with he | ⟨_,hS,hob⟩
     ·exact .inr ⟨rfl,by rw[hk'];exact he.S.symm,fun k _=>by rw[hk'];exact(he.sl k).symm⟩
     ·refine .inr ⟨rfl,by rw[hk'];exact hS,fun k hk=>?_⟩;rw[hk'];refine hob k fun o ho=>?_
      simp only[c8v,cq]at hfo;have:=hfo k hk o ho;simpa using this
  have hlen:aos.length=ops.size:=by have:=bkb hmo;simpa using this
  cases bs with
  | none=>
   simp only[dr]at hc;subst hc;simp only[ss,ck,if_false,bvg]at hao;refine wp_region (go _ hi hB (Ext.refl g W) (s1:=s) ?_ (.inl rfl));rw[← hlen,bz3];exact hao
  | some bs=>
   simp only[bp]at hc;obtain⟨⟨rfl,hbs⟩,hd⟩:=hc;simp only[Option.isSome_some,if_true]at hao;refine wp_region_draw fun t=>?_
   simp only[Region.schedule,hm,jh,if_true];obtain⟨s',h1,he⟩:=czq hlen hbs hd (fun is=>cvb aos is st) hao t;exact go _ (hi.prep aos).drew (hB.ext' (bqt g W)) (bqt g W) h1 (.inr ⟨he,hfx⟩)
theorem cr1{F:List Nat}(hm:P.follows .mixedOrders=true){rec:Rec}(hrec:bbk P W0 rec):∀(ac:ACode) {c:Code},bgz P N ac c=true→ac.fix F=true→∀{g:Gh} {W:World} {a:Act} {L:Nat→Nat} {st:St},Inv g W a N L st→Base W0 g W →
  ∀{x:AEx} {st':St},xf rec ac st=some (x,st')→∀{Q:Exit→Act→World→Prop},GoesF F g W N a.defers x st' Q→c.wp P Q a W:=by
 intro ac
 induction ac with
 | skip live locs=>
  intro c hc hfx g W a L st hi hB x st' h Q hg;cases c<;>try (simp[bgz]at hc;done)
  simp only[xf,normal,bd,bq]at h;obtain⟨rfl,rfl⟩:=h;exact wp_skip (hg g W a L _ _ rfl (Ext.refl g W) (hi.keep' live locs) (.inl rfl) .normal)
 | region aos bs quiet live locs=>
  intro c hc hfx g W a L st hi hB x st' h Q hg;cases c<;>try (simp[bgz]at hc;done)
  exact ops_wp hm hrec hc hfx hi hB h hg
 | seq ca cb iha ihb=>
  intro c hc hfx g W a L st hi hB x st' h Q hg;cases c<;>try (simp[bgz]at hc;done)
  rename_i c d;simp only[bgz,bp]at hc;refine wp_seq ?_;simp only[xf]at h;cases h1:xf rec ca st with
  | none=>rw[h1]at h;cases h
  | some p=>
   obtain⟨y,s1⟩:=p;rw[h1]at h;simp only[ACode.fix,bp]at hfx;refine iha hc.1 hfx.1 hi hB h1 fun g' W' a' L' st2 e hdf hE hi' hst he=>?_
   cases he with
   | normal=>
    have hst2:st2=s1:=by
     rcases hst with h | ⟨h,_⟩
     ·exact h
     ·cases h
    subst hst2;refine ihb hc.2 hfx.2 hi' (hB.ext' hE) h fun g2 W2 a2 L2 st3 e2 hdf2 hE2 hi2 hst2 he2=>?_
    exact hg g2 W2 a2 L2 st3 e2 (hdf2.trans hdf) (hE.trans hE2) hi2 hst2 he2
   | exit id=>
    simp only[bd,bq]at h;obtain⟨rfl,rfl⟩:=h;exact hg g' W' a' L' st2 _ hdf hE hi' hst (.exit id)
   | ret=>
    simp only[bd,bq]at h;obtain⟨rfl,rfl⟩:=h;exact hg g' W' a' L' st2 _ hdf hE hi' hst .ret
   | panic v u hu=>
    simp only[bd,bq]at h;obtain⟨rfl,rfl⟩:=h;exact hg g' W' a' L' st2 _ hdf hE hi' hst (.panic v u hu)
 | cond o ca cb iha ihb=>
  intro c hc hfx g W a L st hi hB x st' h Q hg;cases c<;>try (simp[bgz]at hc;done)
  rename_i o' c d;simp only[bgz,bp]at hc;simp only[xf]at h;split at h
  ·rename_i t ht;have hv:=bgr.1 (bb7 hi hc.1.1 ht);refine wp_cond hv ?_;simp only[ACode.fix,bp]at hfx;cases t with
   | true=>exact iha hc.1.2 hfx.1 hi hB (by simpa using h) hg
   | false=>exact ihb hc.2 hfx.2 hi hB (by simpa using h) hg
  ·cases h
 | block id ca iha=>
  intro c hc hfx g W a L st hi hB x st' h Q hg;cases c<;>try (simp[bgz]at hc;done)
  rename_i id' c;simp only[bgz,bp,beq_iff_eq]at hc;obtain⟨rfl,hc⟩:=hc;refine wp_block ?_;simp only[xf]at h;cases h1:xf rec ca st with
  | none=>rw[h1]at h;cases h
  | some p=>
   obtain⟨y,s1⟩:=p;rw[h1]at h;refine iha hc hfx hi hB h1 fun g' W' a' L' st2 e hdf hE hi' hst he=>?_
   cases he with
   | normal=>
    simp only[bd,bq]at h;obtain⟨rfl,rfl⟩:=h;exact hg g' W' a' L' st2 _ hdf hE hi' hst .normal
   | exit id2=>
    simp only at h;have hst2:st2=s1:=by
     rcases hst with h | ⟨h,_⟩
     ·exact h
     ·cases h
    subst hst2;by_cases hid:id2=id
    ·rw[if_pos hid]at h;simp only[normal,bd,bq]at h;obtain⟨rfl,rfl⟩:=h;simp only[Exit.inBlock,hid,if_true];exact hg g' W' a' L' _ _ hdf hE hi' (.inl rfl) .normal
    ·rw[if_neg hid]at h;simp only[bd,bq]at h;obtain⟨rfl,rfl⟩:=h;simp only[Exit.inBlock,hid,if_false];exact hg g' W' a' L' _ _ hdf hE hi' (.inl rfl) (.exit id2)
   | ret=>
    simp only[bd,bq]at h;obtain⟨rfl,rfl⟩:=h;exact hg g' W' a' L' st2 _ hdf hE hi' hst .ret
   | panic v u hu=>
    simp only[bd,bq]at h;obtain⟨rfl,rfl⟩:=h;exact hg g' W' a' L' st2 _ hdf hE hi' hst (.panic v u hu)
 | loop ca iha=>
  intro c hc hfx g W a L st hi hB x st' h Q hg;cases c<;>try (simp[bgz]at hc;done)
  rename_i c;simp only[bgz]at hc;simp only[xf]at h;obtain⟨n,hn⟩:=bfm.1 h;refine wp_loop_rounds n ?_;clear h
  induction n generalizing g W a L st with
  | zero=>simp[bjx]at hn
  | succ n ih=>
   rw[rounds_succ];simp only[bjx]at hn;cases h1:xf rec ca st with
   | none=>rw[h1]at hn;cases hn
   | some p=>
    obtain⟨y,s1⟩:=p;rw[h1]at hn;refine iha hc hfx hi hB h1 fun g' W' a' L' st2 e hdf hE hi' hst he=>?_
    cases he with
    | normal=>
     have hst2:st2=s1:=by
      rcases hst with h | ⟨h,_⟩
      ·exact h
      ·cases h
     subst hst2;refine ih hi' (hB.ext' hE) ?_ hn;intro g2 W2 a2 L2 st3 e2 hdf2 hE2 hi2 hst2 he2;exact hg g2 W2 a2 L2 st3 e2 (hdf2.trans hdf) (hE.trans hE2) hi2 hst2 he2
    | exit id2=>
     simp only[bd,bq]at hn;obtain⟨rfl,rfl⟩:=hn;exact hg g' W' a' L' st2 _ hdf hE hi' hst (.exit id2)
    | ret=>
     simp only[bd,bq]at hn;obtain⟨rfl,rfl⟩:=hn;exact hg g' W' a' L' st2 _ hdf hE hi' hst .ret
    | panic v u hu=>
     simp only[bd,bq]at hn;obtain⟨rfl,rfl⟩:=hn;exact hg g' W' a' L' st2 _ hdf hE hi' hst (.panic v u hu)
 | exit id live locs=>
  intro c hc hfx g W a L st hi hB x st' h Q hg;cases c<;>try (simp[bgz]at hc;done)
  simp only[bgz,beq_iff_eq]at hc;subst hc;simp only[xf,bd,bq]at h;obtain⟨rfl,rfl⟩:=h;exact wp_exit (hg g W a L _ _ rfl (Ext.refl g W) (hi.keep' live locs) (.inl rfl) (.exit id))
 | ret=>
  intro c hc hfx g W a L st hi hB x st' h Q hg;cases c<;>try (simp[bgz]at hc;done)
  simp only[xf,bd,bq]at h;obtain⟨rfl,rfl⟩:=h;exact wp_ret (hg g W a L _ _ rfl (Ext.refl g W) hi (.inl rfl) .ret)
 | freeze d ca iha=>
  intro c hc hfx g W a L st hi hB x st' h Q hg;simp only[bgz]at hc;simp only[xf]at h;split at h
  ·rename_i s1 h1;obtain⟨g',hE,hi'⟩:=hi.freeze h1;refine iha hc hfx hi' (hB.ext' hE) h fun g2 W2 a2 L2 st3 e2 hdf2 hE2 hi2 hst2 he2=>?_
   exact hg g2 W2 a2 L2 st3 e2 hdf2 (hE.trans hE2) hi2 hst2 he2
  ·cases h
 | scope ca iha=>
  intro c hc hfx g W a L st hi hB x st' h Q hg;cases c<;>try (simp[bgz]at hc;done)
  simp only[bgz]at hc;simp only[xf]at h;refine wp_scope_straight ?_;refine iha hc hfx hi hB h fun g2 W2 a2 L2 st3 e2 hdf2 hE2 hi2 hst2 he2=>?_
  have:=hg g2 W2 a2 L2 st3 e2 hdf2 hE2 hi2 hst2 he2;cases he2<;>exact this
 | label=>
  intro c hc hfx g W a L st hi hB x st' h Q hg;cases c<;>try (simp[bgz]at hc;done)
  simp only[xf,normal,bd,bq]at h;obtain⟨rfl,rfl⟩:=h;exact wp_label (hg g W a L _ _ rfl (Ext.refl g W) hi (.inl rfl) .normal)
theorem dbf(hm:P.follows .mixedOrders=true){rec:Rec}(hrec:bbk P W0 rec)(ac:ACode){c:Code}(hc:bgz P N ac c=true){g:Gh}{W:World}{a:Act}{L:Nat→Nat}{st:St}(hi:Inv g W a N L st)(hB:Base W0 g W)
  {x:AEx} {st':St} (h:xf rec ac st=some (x,st')) {Q:Exit→Act→World→Prop} (hg:GoesC g W N a.defers x st' Q):c.wp P Q a W:=
 cr1 (F:=[]) hm hrec ac hc (dsk ac) hi hB h fun g' W' a' L' st2 e hdf hE hi' hst he=>hg g' W' a' L' st2 e hdf hE hi' (hst.imp id fun h=>⟨h.1,h.2.1⟩) he
end
end Go.Av
namespace Go.Av
open Go
def bb0(P:Program)(W0:World)(f:FuncId)(h:LA→LB→Option (AEnd×LB)):Prop:=
 ∀ args S e S',h args S=some (e,S')→bdp P f ∧
   ∀g W (vs:Array Value),Base W0 g W→RT g W args vs.toList→SInv g W S→(∀b,(g.O b).calm)→Calls P f vs W (b99 g W e S')
theorem cf2{P:Program}{W0:World}{rec:Rec}:bbk P W0 rec↔∀f,bb0 P W0 f (rec f):=
 ⟨fun h f args S e S' hr=>h f args S e S' hr,fun h f args S e S' hr=>h f args S e S' hr⟩
def bx9(P:Program):List ARes→List ResultVar→Bool
 | [],[]=>true
 | .tmp t::r,.tmp u::l=>t==u&&bx9 P r l
 | .cell a n ag::r,.cell b t::l=>a==b&&b0g P t==some ag&&bxg P t==some n&&bx9 P r l
 | .cellR a n _ _::r,.cell b t::l=>a==b&&b0g P t==some true&&bxg P t==some n&&bx9 P r l
 | _,_=>false
def dmj(P:Program)(f:FuncId)(fn:AFun):Bool:=
 match P.funcs[f]? with
 | some F=>(match F.body with
  | some c => bgz P fn.N fn.body c && F.ntmps == fn.N && decide (fn.n ≤ fn.N) && !(F.name == "runtime.NumGoroutine") && bx9 P fn.res F.results.toList
  | none=>false)
 | none=>false
mutual
theorem bm1{g:Gh}{W:World}:∀{a:AV} {l:List Value},R g W a l→a.closed g.B.length=true
 | .bool _,l,h=>by simp[AV.closed]
 | .int _ _,l,h=>by simp[AV.closed]
 | .str _,l,h=>by simp[AV.closed]
 | .agg cs,l,h=>by simp only[R]at h;simp only[AV.closed];exact b0c h
 | .tuple vs,l,h=>by
  simp only[R]at h;obtain⟨a,_,h⟩:=h;simp only[AV.closed];exact b0b h
 | .slice sz es,l,h=>by
  simp only[R]at h;obtain⟨p,cap,_,_,h⟩:=h;simp only[AV.closed];rcases h with rfl | ⟨b,o,ms,_,_,_,h⟩
  ·simp[zd]
  ·exact cjh h
 | .sptr cs,l,h=>by
  simp only[R]at h;obtain⟨b,o,ms,_,_,_,h⟩:=h;simp only[AV.closed];exact b0c h
 | .nilptr,l,h=>by simp[AV.closed]
 | .ptr i off,l,h=>by
  simp only[R]at h;obtain⟨b,h,_⟩:=h;simp only[AV.closed,decide_eq_true_eq];exact(cf.1 h).1
 | .clos fn first caps,l,h=>by
  simp only[R]at h;obtain⟨f,c,_,h1,h2⟩:=h;simp only[AV.closed,bp];exact⟨b0b h1,b0b h2⟩
 | .nilfn,l,h=>by simp[AV.closed]
 | .iface t v,l,h=>by
  simp only[R]at h;obtain⟨u,_,h,_⟩:=h;simp only[AV.closed];exact bm1 h
 | .niliface,l,h=>by simp[AV.closed]
 | .mapp i,l,h=>by
  simp only[R]at h;obtain⟨b,h,_⟩:=h;simp only[AV.closed,decide_eq_true_eq];exact(cf.1 h).1
 | .nilmap,l,h=>by simp[AV.closed]
theorem b0c{g:Gh}{W:World}:∀{cs:LA} {l:List Value},RL g W cs l→zd g.B.length cs=true
 | [],l,h=>by simp[zd]
 | c::cs,l,h=>by
  simp only[RL]at h;obtain⟨v,r,_,⟨_,h1⟩,h2⟩:=h;simp only[zd,bp];exact⟨bm1 h1,b0c h2⟩
theorem cjh{g:Gh}{W:World}{sz:Nat}:∀{cs:LA} {l:List Value},RE g W sz cs l→zd g.B.length cs=true
 | [],l,h=>by simp[zd]
 | c::cs,l,h=>by
  simp only[RE]at h;obtain⟨x,r,_,_,⟨_,h1⟩,h2⟩:=h;simp only[zd,bp];exact⟨bm1 h1,cjh h2⟩
theorem b0b{g:Gh}{W:World}:∀{cs:LA} {l:List Value},RT g W cs l→zd g.B.length cs=true
 | [],l,h=>by simp[zd]
 | c::cs,l,h=>by
  simp only[RT]at h;obtain⟨v,r,_,⟨h1,_⟩,h2⟩:=h;simp only[zd,bp];exact⟨bm1 h1,b0b h2⟩
end
def Own.leave(k:Option Nat):Own→Own
 | .slot j=>if k=some j then .res 0 else .free
 | .loc _ | .lcell _ _ | .res _=>.free
 | o=>o
def Gh.leave(g:Gh)(k:Option Nat)(n:Nat):Gh:={g with O:=fun b=>(g.O b).leave k,B:=g.B.take n}
theorem bh3(g:Gh)(k:Option Nat)(n:Nat):Trunc n g (g.leave k n):=⟨rfl,rfl⟩
section
variable{P:Program}{W0:World}{N:Nat}{g g':Gh}{W W':World}{a':Act}{L':Nat→Nat}{st2:St}{S:LB}
theorem cjj{g:Gh}{W:World}:∀{cs:LA} {es:List MapEntry},MR g W cs es→zd g.B.length cs=true
 | [],[],_=>by simp[zd]
 | [],_::_,h=>by simp[MR]at h
 | [_],[],h=>by simp[MR]at h
 | [_],_::_,h=>by simp[MR]at h
 | _::_::_,[],h=>by simp[MR]at h
 | k::v::r,e::es,h=>by
  obtain⟨⟨h1,h2⟩,h3⟩:=h;simp only[zd,bp];exact⟨bm1 h1.1,bm1 h2.1,cjj h3⟩
theorem csk{n:Nat}{g g':Gh}{W:World}(t:Trunc n g g'):∀{cs:LA} {es:List MapEntry},zd n cs=true→MR g W cs es→MR g' W cs es
 | [],[],_,_=>trivial
 | [],_::_,_,h=>by simp[MR]at h
 | [_],[],_,h=>by simp[MR]at h
 | [_],_::_,_,h=>by simp[MR]at h
 | _::_::_,[],_,h=>by simp[MR]at h
 | k::v::r,e::es,c,h=>by
  obtain⟨⟨h1,h2⟩,h3⟩:=h;simp only[zd,bp]at c;exact⟨⟨⟨bsp t c.1 h1.1,h1.2⟩,bsp t c.2.1 h2.1,h2.2⟩,csk t c.2.2 h3⟩
theorem cbc{g:Gh}{W:World}{b i:Nat}{x:Bx}(h:BxS g W b i x):zd g.B.length x.cells=true:=by
 unfold BxS at h;split at h
 ·obtain⟨_,es,clock,_,hM,_⟩:=h;exact cjj hM
 ·obtain⟨cs,ty,_,h2,_⟩:=h;exact b0c h2
theorem crb(hE:Ext g W g' W')(hi:Inv g' W' a' N L' st2)(hS:SInv g W S){n:Nat}(hn:S.length≤n)(k:Option Nat)
  (hcl:∀(i:Nat) x,i<n→st2.S[i]? = some x→zd n x.cells=true) :
  Ext g W (g'.leave k n) W'∧SInv (g'.leave k n) W' (st2.S.take n)∧∀b,((g'.leave k n).O b).calmR:=by
 refine⟨⟨⟨hE.T,hE.cell,fun i b hb=>?_⟩,hE.size,hE.os,hE.tape,hE.output,fun b hb=>?_⟩,⟨?_,fun i x hx=>?_,fun b hb=>?_⟩,fun b=>?_⟩
 ·have hlt:=(cf.1 hb).1;rw[hS.len]at hlt;exact(bh3 g' k n).get (by omega) (hE.B i b hb)
 ·obtain⟨h1,h2,h3⟩:=hE.ext b hb;exact⟨by simp[Gh.leave,h1,Own.leave],h2,h3⟩
 ·simp[Gh.leave,hi.sh.len]
 ·rw[dz]at hx;split at hx
  ·rename_i hlt;obtain⟨b,hb,hbs⟩:=hi.sh.box i x hx;refine⟨b,(bh3 g' k n).get hlt hb,?_⟩;unfold BxS at hbs ⊢;split at hbs
   ·rename_i hmap;rw[if_pos hmap];obtain⟨q0,es,clock,q1,q2,q3,q4⟩:=hbs;exact⟨q0,es,clock,q1,csk (bh3 g' k n) (hcl i x hlt hx) q2,by simp[Gh.leave,q3,Own.leave],q4⟩
   rename_i hmap;rw[if_neg hmap];obtain⟨cs,ty,h1,h2,h3,h4,h5⟩:=hbs;refine⟨cs,ty,h1,b38 (bh3 g' k n) (hcl i x hlt hx) h2,by simp[Gh.leave,h3,Own.leave],h4,fun j e hj=>?_⟩;obtain⟨y,v,q1,q2,q3⟩:=h5 j e hj;refine⟨y,v,q1,q2,?_⟩;obtain⟨sz,es,rfl,q3⟩:=q3;refine⟨sz,es,rfl,q3.imp id ?_⟩;rintro⟨b,cap,cur,p1,p2,p3,p4,p5,p6,p7⟩;exact⟨b,cap,cur,p1,p2,p3,p4,p5,by simp[Gh.leave,p6,Own.leave],p7⟩
  ·cases hx
 ·obtain⟨h1,h2⟩:=hi.sh.fresh b hb;exact⟨h1,by simp[Gh.leave,h2,Own.leave]⟩
 ·simp only[Gh.leave];have:∀o:Own,(o.leave k).calmR:=by
   intro o;cases o with
   | slot j=>
    simp only[Own.leave];by_cases hk:k=some j
    ·rw[if_pos hk];trivial
    ·rw[if_neg hk];trivial
   | _=>trivial
  exact this _
theorem b6p{kb:Nat}{S S2 S':LB}{e e':AEnd}(h:xr kb S S2 e=some (e',S')) :
  e'=e∧∃n,S.length≤n∧S'=S2.take n∧((S2.length≤n)∨(bq4 S S2 n∧e.closed n=true)):=by
 unfold xr at h;by_cases hl:S2.length≤S.length+kb
 ·rw[if_pos hl]at h;simp only[bd,bq]at h;exact⟨h.1.symm,_,t9 _ _,by rw[dm hl];exact h.2.symm,.inl hl⟩
 ·rw[if_neg hl]at h;by_cases hc:bq4 S S2 (S.length+kb)∧e.closed (S.length+kb)=true
  ·rw[if_pos hc]at h;simp only[bd,bq]at h;exact⟨h.1.symm,_,t9 _ _,h.2.symm,.inr hc⟩
  ·rw[if_neg hc]at h;cases h
mutual
theorem bqx{m n:Nat}(h:m≤n):∀{a:AV},a.closed m=true→a.closed n=true
 | .bool _,_=>by simp[AV.closed]
 | .int _ _,_=>by simp[AV.closed]
 | .str _,_=>by simp[AV.closed]
 | .agg cs,c=>by simp only[AV.closed]at c ⊢;exact bdk h c
 | .tuple cs,c=>by simp only[AV.closed]at c ⊢;exact bdk h c
 | .slice _ cs,c=>by simp only[AV.closed]at c ⊢;exact bdk h c
 | .sptr cs,c=>by simp only[AV.closed]at c ⊢;exact bdk h c
 | .nilptr,_=>by simp[AV.closed]
 | .ptr i off,c=>by simp only[AV.closed,decide_eq_true_eq]at c ⊢;omega
 | .clos fn f d,c=>by simp only[AV.closed,bp]at c ⊢;exact⟨bdk h c.1,bdk h c.2⟩
 | .nilfn,_=>by simp[AV.closed]
 | .iface t v,c=>by simp only[AV.closed]at c ⊢;exact bqx h c
 | .niliface,_=>by simp[AV.closed]
 | .mapp i,c=>by simp only[AV.closed,decide_eq_true_eq]at c ⊢;omega
 | .nilmap,_=>by simp[AV.closed]
theorem bdk{m n:Nat}(h:m≤n):∀{cs:LA},zd m cs=true→zd n cs=true
 | [],_=>by simp[zd]
 | c::cs,q=>by simp only[zd,bp]at q ⊢;exact⟨bqx h q.1,bdk h q.2⟩
end
theorem b23(hi:Inv g' W' a' N L' st2)(hS:SInv g W S){n:Nat}(hn:S.length≤n)(h:(st2.S.length≤n)∨bq4 S st2.S n) :
  ∀(i:Nat) x,i<n→st2.S[i]? = some x→zd n x.cells=true:=by
 intro i x hlt hx;rcases h with h | h
 ·obtain⟨b,hb,hbs⟩:=hi.sh.box i x hx;have:=cbc hbs;rw[hi.sh.len]at this;exact bdk h this
 ·rcases h i x hlt hx with h | h
  ·obtain⟨b,hb,hbs⟩:=hS.box i x h;have:=cbc hbs;rw[hS.len]at this;exact bdk hn this
  ·exact h
theorem bz8.map{g g2:Gh}{W W2:World}{o o2:Own}{te:Nat}{r:AV}{v:Value}(h:bz8 g W o te r v)(f:∀e x w,bj4 g W o e x w→bj4 g2 W2 o2 e x w):bz8 g2 W2 o2 te r v:=by
 cases r with
 | agg cs=>
  obtain⟨x,w,h1,h2,h3⟩:=h;exact⟨x,w,h1,h2,f _ _ _ h3⟩
 | _=>exact f _ _ _ h
theorem bj4.toA{g:Gh}{W:World}{o:Own}{te:Nat}{r:AV}{v:Value}(h:bj4 g W o te r v):bz8 g W o te r v:=by
 cases r with
 | agg cs=>obtain⟨sz,es,h,_⟩:=h;cases h
 | _=>exact h
theorem ccb{kb:Nat}(hE:Ext g W g' W')(hi:Inv g' W' a' N L' st2)(hS:SInv g W S){r:AV}{own:Option Nat}{v:Value}{e:AEnd}{S':LB}(hl:xr kb S st2.S (.ret r own)=some (e,S'))
  (hv:RV g' W' r v) (ho:∀te,own=some te→∃k,bz8 g' W' (.slot k) te r v):b99 g W e S' (.returned v) W':=by
 obtain⟨rfl,n,hn,rfl,hc⟩:=b6p hl;have hk:∃k:Option Nat,∀te,own=some te→∃j,k=some j∧bz8 g' W' (.slot j) te r v:=by
  cases own with
  | none=>exact⟨none,fun te h=>by cases h⟩
  | some te=>
   obtain⟨j,hj⟩:=ho te rfl;exact⟨some j,fun te' h=>by cases h;exact⟨j,rfl,hj⟩⟩
 obtain⟨k,hk⟩:=hk;obtain⟨h1,h2,h3⟩:=crb hE hi hS hn k (b23 hi hS hn (hc.imp id fun h=>h.1));have hcr:r.closed n=true:=by
  rcases hc with h | h
  ·have:=bm1 hv.1;rw[hi.sh.len]at this;exact bqx h this
  ·exact h.2
 refine⟨_,h1,h2,h3,v,rfl,⟨bsp (bh3 g' k n) hcr hv.1,hv.2⟩,fun te hte=>?_⟩;obtain⟨j,rfl,q⟩:=hk te hte;exact q.map fun e x w h=>by
  obtain⟨sz,es,rfl,q⟩:=h;refine⟨sz,es,rfl,q.imp id ?_⟩;rintro⟨b,cap,cur,p1,p2,p3,p4,p5,p6,p7⟩;exact⟨b,cap,cur,p1,p2,p3,p4,p5,by simp[Gh.leave,p6,Own.leave],p7⟩
theorem b09{kb:Nat}(hE:Ext g W g' W')(hi:Inv g' W' a' N L' st2)(hS:SInv g W S){x:AV}{u:Value}{e:AEnd}{S':LB}(hl:xr kb S st2.S (.panic x)=some (e,S'))(hv:RV g' W' x u) :
  b99 g W e S' (.panicked [{v:=u,recovered:=false}]) W':=by
 obtain⟨rfl,n,hn,rfl,hc⟩:=b6p hl;obtain⟨h1,h2,h3⟩:=crb hE hi hS hn none (b23 hi hS hn (hc.imp id fun h=>h.1));have hcr:x.closed n=true:=by
  rcases hc with h | h
  ·have:=bm1 hv.1;rw[hi.sh.len]at this;exact bqx h this
  ·exact h.2
 exact⟨_,h1,h2,h3,u,rfl,bsp (bh3 g' none n) hcr hv.1,hv.2⟩
def b3k(a':Act):ResultVar→Sem Value
 | .tmp t=>pure (a'.tmps.getD t undef)
 | .cell c t=>do loadVar t (← asAddr (a'.tmps.getD c undef))
theorem dcb(hi:Inv g' W' a' N L' st2){r:ARes}{rv:ResultVar}{x:AV}(hm:bx9 P [r] [rv]=true)(h:cdk st2 r=some x) :
  ∃v,(b3k a' rv).run P W'=.ok v W'∧RV g' W' x v:=by
 cases r with
 | tmp t=>
  cases rv with
  | cell c t=>simp[bx9]at hm
  | tmp u=>
   simp only[bx9,pj,beq_iff_eq]at hm;subst hm;refine⟨a'.tmps.getD t undef,by simp[b3k],?_⟩;have:=hi.slot t;simp only[cdk,St.av,St.sv]at h;cases hs:st2.σ.get t with
   | v y=>
    rw[hs]at h this;simp only[SV.av,bd]at h;subst h;exact this
   | vn y ns=>
    rw[hs]at h this;simp only[SV.av,bd]at h;subst h;exact this.1
   | vr y ns j=>
    rw[hs]at h this;simp only[SV.av,bd]at h;subst h;exact this.1
   | l d off=>rw[hs]at h;simp[SV.av]at h
   | junk=>rw[hs]at h;simp[SV.av]at h
   | undef=>rw[hs]at h;simp[SV.av]at h
   | ls d sz ag n=>rw[hs]at h;simp[SV.av]at h
 | cell c n ag=>
  cases rv with
  | tmp u=>simp[bx9]at hm
  | cell c' t=>
   simp only[bx9,pj,bp,beq_iff_eq]at hm;obtain⟨⟨rfl,hag⟩,hsz⟩:=hm;simp only[cdk]at h;split at h
   ·rename_i cs off hc;obtain⟨b,off',ms,he,hmm,hl⟩:=b1v hi (hi.slot c) hc;obtain⟨v,hr,hv⟩:=cdm (P:=P) hag hsz hmm hl h;exact⟨v,by simp[b3k,he,asAddr,hr],hv⟩
   ·cases h
 | cellR c n j e=>
  cases rv with
  | tmp u=>simp[bx9]at hm
  | cell c' t=>
   simp only[bx9,pj,bp,beq_iff_eq]at hm;obtain⟨⟨rfl,hag⟩,hsz⟩:=hm;simp only[cdk]at h;split at h
   ·rename_i cs off hc;obtain⟨b,off',ms,he,hmm,hl⟩:=b1v hi (hi.slot c) hc;obtain⟨v,hr,hv⟩:=cdm (P:=P) hag hsz hmm hl h;exact⟨v,by simp[b3k,he,asAddr,hr],hv⟩
   ·cases h
theorem b9r(hi:Inv g' W' a' N L' st2):∀{rs:List ARes} {rvs:List ResultVar} {xs:LA},bx9 P rs rvs=true→bfx st2 rs=some xs →
  ∃vs:List Value,(rvs.mapM (b3k a')).run P W'=.ok vs W'∧RT g' W' xs vs
 | [],[],xs,_,h=>by
  simp only[bfx,bd]at h;subst h;exact⟨[],by simp,by simp[RT]⟩
 | [],_::_,_,hm,_=>by simp[bx9]at hm
 | r::rs,[],_,hm,_=>by cases r<;>simp[bx9]at hm
 | r::rs,rv::rvs,xs,hm,h=>by
  have hm1:bx9 P [r] [rv]=true∧bx9 P rs rvs=true:=by
   cases r<;>cases rv<;>simp_all [bx9]
  simp only[bfx]at h;split at h
  ·rename_i x ys hx hys;simp only[bd]at h;subst h;obtain⟨v,h1,h2⟩:=dcb (P:=P) hi hm1.1 hx;obtain⟨vs,h3,h4⟩:=b9r hi hm1.2 hys;refine⟨v::vs,?_,?_⟩
   ·simp only[List.mapM_cons];simp only[Sem.run_bind,h1,h3,Result.andThen];simp
   ·simp only[RT];exact⟨v,vs,rfl,h2,h4⟩
  ·cases h
theorem bvf{F:Func}{tmps:Array Value}{a':Act}(ha:a'.tmps=tmps){vs:List Value}(h:(F.results.toList.mapM (b3k a')).run P W'=.ok vs W') :
  (results F tmps).run P W'=.ok (if h:vs.length=1 then vs[0] else .tuple vs.toArray) W':=by
 subst ha;have e0:results F a'.tmps=F.results.mapM (b3k a') >>= fun vs=>pure (if h:vs.size=1 then vs[0] else .tuple vs):=by
  unfold results;congr 1
 have e1:F.results.mapM (b3k a')=List.toArray <$> F.results.toList.mapM (b3k a'):=by
  conv=>lhs;rw[← Array.toArray_toList (xs:=F.results)]
  rw[List.mapM_toArray]
 rw[e0,e1];simp only[Sem.run_bind,Sem.run_map,h,Result.andThen_ok,Sem.run_pure];simp
theorem b17(hi:Inv g' W' a' N L' st2){F:Func}{rs:List ARes}(hm:bx9 P rs F.results.toList=true){r:AV}{own:Option Nat}(h:bcp st2 rs=some (r,own)) :
  ∃v g3 st3,(results F a'.tmps).run P W'=.ok v W'∧Ext g' W' g3 W'∧Inv g3 W' a' N L' st3∧st3.S=st2.S∧RV g3 W' r v∧∀te,own=some te→∃k,bz8 g3 W' (.slot k) te r v:=by
 have all:∀{xs:LA},bfx st2 rs=some xs→xs.length≠1→∃v,(results F a'.tmps).run P W'=.ok v W'∧RV g' W' (.tuple xs) v:=by
  intro xs hx hl;obtain⟨vs,h1,h2⟩:=b9r (P:=P) hi hm hx;have h3:=bvf (F:=F) rfl h1;have hlen:=bp5 h2;rw[dif_neg (by omega)]at h3;exact⟨_,h3,by simp only[R];exact⟨vs.toArray,rfl,by simpa using h2⟩,rfl⟩
 have one:∀{x:ARes} {y:AV},rs=[x]→cdk st2 x=some y→∃v,(results F a'.tmps).run P W'=.ok v W'∧RV g' W' y v∧∃rv,F.results.toList=[rv]∧(b3k a' rv).run P W'=.ok v W':=by
  intro x y hx hy;subst hx;cases hl:F.results.toList with
  | nil=>rw[hl]at hm;cases x<;>simp[bx9]at hm
  | cons rv l=>
   have hl0:l=[]:=by
    rw[hl]at hm;cases l with
    | nil=>rfl
    | cons a b=>cases x<;>cases rv<;>simp[bx9]at hm
   subst hl0;rw[hl]at hm;obtain⟨v,h1,h2⟩:=dcb (P:=P) hi hm hy;have h3:=bvf (P:=P) (W':=W') (F:=F) (a':=a') (vs:=[v]) rfl (by rw[hl];simp[h1]);exact⟨v,by simpa using h3,h2,rv,rfl,h1⟩
 unfold bcp at h;split at h
 ·rename_i t;split at h
  ·rename_i x hx;simp only[bd,bq]at h;obtain⟨rfl,rfl⟩:=h;obtain⟨v,h1,h2,rv,h3,h4⟩:=one (x:=.tmp t) rfl (by simpa[cdk] using hx);refine⟨v,g',st2,h1,Ext.refl g' W',hi,rfl,h2,fun te hte=>⟨t,?_⟩⟩;have hnv:¬ (st2.σ.get t).isVr=true:=by
    intro q;rw[if_pos q]at hte;cases hte
   rw[if_neg hnv]at hte;obtain⟨y,w,q1,q2⟩:=hi.own t te (bdq hte);have hyw:y=x∧w=a'.tmps.getD t undef:=by
    rcases SV.part_agg q1 with⟨x0,p1,p2⟩ | ⟨cs,ns',j1,x1,w1,p1,p2,p3,p4⟩
    ·simp only[bq]at p2;obtain⟨rfl,rfl⟩:=p2;simp only[St.av,St.sv,p1,SV.av,bd]at hx;exact⟨hx,rfl⟩
    ·rw[p1]at hnv;exact absurd rfl hnv
   obtain⟨rfl,rfl⟩:=hyw;have:v=a'.tmps.getD t undef:=by
    rw[h3]at hm;cases rv with
    | cell c n=>simp[bx9]at hm
    | tmp u=>
     simp only[bx9,pj,beq_iff_eq]at hm;subst hm;simpa[b3k] using h4.symm
   rw[this];exact bj4.toA q2
  ·cases h
 ·rename_i c n j e;split at h
  ·rename_i d hσ;split at h
   ·rename_i bx hbx;split at h
    ·rename_i hcond;obtain⟨⟨hro,he⟩,hj,hn⟩:=hcond;simp only[bd,bq]at h;obtain⟨rfl,rfl⟩:=h;obtain⟨cs,ty,hb,hl,hO,hT,hr⟩:=hi.loc d bx hbx;obtain⟨x,w,h1,h2,h3⟩:=hr j e (bdq hro);have hlen:=bbv hl;simp only[dp,d5]at hlen;have hptr:a'.tmps.getD c undef=.pointer (some ⟨L' d,0,none⟩):=by
      have:=hi.slot c;rw[hσ]at this;exact this
     cases hlr:F.results.toList with
     | nil=>rw[hlr]at hm;simp[bx9]at hm
     | cons rv l=>
      have hl0:l=[]:=by
       rw[hlr]at hm;cases l with
       | nil=>rfl
       | cons a b=>cases rv<;>simp[bx9]at hm
      subst hl0;rw[hlr]at hm;cases rv with
      | tmp u=>simp[bx9]at hm
      | cell c' t=>
       simp only[bx9,pj,bp,beq_iff_eq]at hm;obtain⟨⟨rfl,hag⟩,hsz⟩:=hm;have hmem:mem W' (L' d) 0 (cs.toList.take bx.cells.length):=bk3 hb _ 0;have hrun:=(b45 (P:=P) hag hsz hmem).1 rfl (by simp only[dp,d5];omega);have hv:RV g' W' (.agg (bx.cells.take n)) (.agg ((cs.toList.take bx.cells.length).take n).toArray):=dcs (bv9 hl n);have h4:=bvf (P:=P) (W':=W') (F:=F) (a':=a') (vs:=[.agg ((cs.toList.take bx.cells.length).take n).toArray]) rfl (by rw[hlr];simp[b3k,hptr,asAddr,hrun])
       let st3:St:={st2 with loc:=st2.loc.set d {bx with own:=bx.own.filter fun p=>p.1 != j}}
       have hi3:Inv g' W' a' N L' st3:=hi.sub rfl (fun _ h=>h) (fun d' x' hx'=>by
        simp only[st3,bc8.get_set]at hx';split at hx'
        ·rename_i hd;subst hd;simp only[bd]at hx';subst hx';exact⟨bx,hbx,rfl,fun p hp=>(jp.1 hp).1,rfl⟩
        ·exact⟨x',hx',x'.le_refl⟩) rfl (fun _ x hx=>⟨x,hx,x.le_refl⟩)
       obtain⟨g3,hE3,_,hi4,hr4⟩:=hi3.giveRight (o:=.lcell d j) (b2h (by
        intro x' hx' e' he';simp only[st3,bc8.get_set,if_true,bd]at hx';subst hx';simp at he')) (by simp) h3 (.slot 0)
       refine⟨_,g3,st3,by simpa using h4,hE3,hi4,rfl,bdx hE3.toKeeps hv,fun te hte=>⟨0,?_⟩⟩;simp only[bd]at hte;subst hte;have hdiv:(100000*j+e) / 100000=j:=by omega
       have hmod:(100000*j+e) % 100000=e:=by omega
       refine⟨x,w,?_,?_,by rw[hmod];exact hr4⟩
       ·rw[hdiv,dz,if_pos hj];exact h1
       ·rw[hdiv];show(((cs.toList.take bx.cells.length).take n).toArray)[j]? = some w;rw[kz,dz,if_pos hj,dz,if_pos (by omega)];simpa using h2
    ·cases h
   ·cases h
  ·cases h
 ·rename_i x hx;simp only[bv,bq]at h;obtain⟨y,hy,rfl,rfl⟩:=h;obtain⟨v,h1,h2,_⟩:=one rfl hy;exact⟨v,g',st2,h1,Ext.refl g' W',hi,rfl,h2,fun te hte=>by cases hte⟩
 ·rename_i hn1 hn3 hn2;simp only[bv,bq]at h;obtain⟨xs,hy,rfl,rfl⟩:=h;have hlen:∀{rs:List ARes} {xs:LA},bfx st2 rs=some xs→xs.length=rs.length:=by
   intro rs
   induction rs with
   | nil=>intro xs h;simp only[bfx,bd]at h;subst h;rfl
   | cons r rs ih=>
    intro xs h;simp only[bfx]at h;split at h
    ·rename_i hys;simp only[bd]at h;subst h;simp[ih hys]
    ·cases h
  have h1:xs.length≠1:=by
   rw[hlen hy];intro h1;obtain⟨x,hx⟩:=List.length_eq_one_iff.1 h1;exact hn2 x hx
  obtain⟨v,h2,h3⟩:=all hy h1;exact⟨v,g',st2,h2,Ext.refl g' W',hi,rfl,h3,fun te hte=>by cases hte⟩
theorem dm9(args:LA)(n k:Nat):zq.get ((args.zipIdx n).map fun p=>(p.2,SV.v p.1)) (n+k)=(match args[k]? with | some x=>.v x | none=>.junk):=by
 induction args generalizing n k with
 | nil=>simp[zq.get]
 | cons a args ih=>
  simp only[List.zipIdx_cons,cr,zq.get];cases k with
  | zero=>simp
  | succ k=>
   have h1:¬ n=n+(k+1):=by omega
   rw[if_neg h1];have:=ih (n+1) k;rw[show n+1+k=n+(k+1) by omega]at this;rw[this];simp
theorem cc7{args:LA}{vs:Array Value}(hT:RT g W args vs.toList)(hS:SInv g W S)(hN:args.length≤N) :
  Inv g W {tmps:=vs++Array.replicate (N - vs.size) undef,defers:=[]} N (fun _=>0) (bgc args S):=by
 have hl:=bp5 hT;simp at hl;refine⟨by simp;omega,fun k=>?_,fun k e hk=>(by cases hk),fun d x hx=>(by cases hx),hS⟩;have:=dm9 args 0 k;simp only[dt]at this;simp only[bgc,this];cases hk:args[k]? with
 | none=>trivial
 | some x=>
  obtain⟨v,h1,h2⟩:=dct hT hk;have hv:vs[k]? = some v:=by simpa using h1
  have hks:k<vs.size:=(db.1 hv).1;show RV g W x _;have:(vs++Array.replicate (N - vs.size) undef).getD k undef=v:=by
   rw[gv,Array.getElem?_append,if_pos hks,hv];rfl
  simp only[this];exact h2
theorem crm(hP:P.follows .mixedOrders=true){rec:Rec}(hrec:bbk P W0 rec){f:FuncId}{fn:AFun}(hm:dmj P f fn=true){args:LA}{S:LB}{e:AEnd}{S':LB}(h:b9v rec fn args S=some (e,S')) :
  ∃ F c, P.funcs[f]? = some F ∧ F.body = some c ∧ (F.name == "runtime.NumGoroutine") = false ∧ ∀ g W (vs : Array Value), Base W0 g W → RT g W args vs.toList → SInv g W S →
    c.wp P (bodyPost P F (b99 g W e S')) {tmps:=vs++Array.replicate (F.ntmps - vs.size) undef,defers:=[]} W:=by
 unfold dmj at hm;split at hm
 ·rename_i F hF;split at hm
  ·rename_i c hc;simp only[bp,beq_iff_eq,decide_eq_true_eq,dr]at hm;obtain⟨⟨⟨⟨hm,hN⟩,hn⟩,hname⟩,hres⟩:=hm;refine⟨F,c,hF,hc,hname,fun g W vs hB hT hS=>?_⟩;unfold b9v at h;split at h
   ·rename_i hlen;cases hcode:xf rec fn.body (bgc args S) with
    | none=>rw[hcode]at h;cases h
    | some p=>
     obtain⟨x,st⟩:=p;rw[hcode]at h;have hl:=bp5 hT;simp at hl;rw[hN];have hi:=cc7 (N:=fn.N) hT hS (by omega);refine dbf hP hrec fn.body hm hi hB hcode ?_;intro g' W' a' L' st2 e2 hdf hE hi' hst he;have hfin:∀{st3:St},st2=st3→(match bcp st3 fn.res with | some (r,own)=>xr fn.keepB S st3.S (.ret r own) | none=>none)=some (e,S') →
       a'.defers=[]∧∃v,(results F a'.tmps).run P W'=.ok v W'∧b99 g W e S' (.returned v) W':=by
      intro st3 h3 h4;subst h3;split at h4
      ·rename_i r own hr;obtain⟨v,g3,st3,q1,qE,qi,qS,q2,q3⟩:=b17 hi' hres hr;exact⟨hdf,v,q1,ccb (hE.trans qE) qi hS (by rw[qS];exact h4) q2 q3⟩
      ·cases h4
     cases he with
     | normal=>
      have h2:st2=st:=by
       rcases hst with h | ⟨h,_⟩
       ·exact h
       ·cases h
      exact hfin h2 h
     | ret=>
      have h2:st2=st:=by
       rcases hst with h | ⟨h,_⟩
       ·exact h
       ·cases h
      exact hfin h2 h
     | exit id=>cases h
     | panic v u hu=>
      have h2:st2.S=st.S:=by
       rcases hst with h | ⟨_,h⟩
       ·rw[h]
       ·exact h
      refine⟨hdf,?_⟩;simp only at h;rw[← h2]at h;exact b09 hE hi' hS h hu
   ·cases h
  ·cases hm
 ·cases hm
theorem c8t(hP:P.follows .mixedOrders=true){rec:Rec}(hrec:bbk P W0 rec){f:FuncId}{fn:AFun}(hm:dmj P f fn=true):bb0 P W0 f (b9v rec fn):=by
 intro args S e S' h;obtain⟨F,c,hF,hc,hname,hb⟩:=crm hP hrec hm h;exact⟨⟨F,hF,hname,by simp[hc]⟩,fun g W vs hB hT hS _=>calls_of_wp hF hc (hb g W vs hB hT hS)⟩
end
end Go.Av
namespace Go.Av
open Go
inductive DCode where
 | code (c:ACode)
 | seq (a b:DCode)
 | cond (c:Opd) (a b:DCode)
 | dfr (ops:List AOper) (c:Opd) (xs:List Opd) (live locs:List Nat)
 deriving Inhabited
abbrev DA:=Nat×LA
inductive HFun where
 | ord (fn:AFun)
 | rcv (fn:AFun) (d:Nat)
structure DFun where
 n:Nat
 N:Nat
 body:DCode
 res:List ARes
 keepB:Nat:=0
 hs:List (Nat×HFun)
structure Ev where
 code:ACode→St→Option (AEx×St)
 ops:List AOper→St→Option (AEx×St)
 leave:Nat→LB→LB→AEnd→Option (AEnd×LB)
def bcb(E:Ev):DCode→St→List DA→Option (AEx×St×List DA)
 | .code c,st,ds=>match E.code c st with
  | some (x,st')=>some (x,st',ds)
  | none=>none
 | .seq a b,st,ds=>match bcb E a st ds with
  | some (.normal,st',ds')=>bcb E b st' ds'
  | r=>r
 | .cond c a b,st,ds=>match st.av c with
  | some (.bool t)=>if t then bcb E a st ds else bcb E b st ds
  | _=>none
 | .dfr ops c xs live locs,st,ds=>match E.ops ops st with
  | some (.normal,st')=>(match st'.av c,st'.avs xs with
   | some (.clos (.func f) first caps),some as=>some (.normal,st'.keep live locs,(f,first++as++caps)::ds)
   | _,_=>none)
  | some (x,st')=>some (x,st',ds)
  | none=>none
def bvv(E:Ev)(res:List ARes)(kb:Nat)(S:LB):AEx×St→Option (AEnd×LB)
 | (.normal,st) | (.ret,st)=>match bcp st res with
  | some (r,own)=>E.leave kb S st.S (.ret r own)
  | none=>none
 | (.panic v,st)=>E.leave kb S st.S (.panic v)
 | _=>none
def br6(E:Ev)(h:HFun)(args:LA)(m:Option AV)(S:LB):Option (AEnd×Bool×LB):=
 match h with
 | .ord fn=>if args.length=fn.n then(match E.code fn.body (bgc args S) with
   | some p=>(match bvv E fn.res fn.keepB S p with
    | some (e,S')=>some (e,false,S')
    | none=>none)
   | none=>none) else none
 | .rcv fn d=>if args.length=fn.n then(match E.code fn.body ((bgc args S).put d (.v (m.getD .niliface))) with
   | some p=>(match bvv E fn.res fn.keepB S p with
    | some (e,S')=>some (e,m.isSome,S')
    | none=>none)
   | none=>none) else none
def cgk:List (Nat×HFun)→Nat→Option HFun
 | [],_=>none
 | (k,d)::r,f=>if k=f then some d else cgk r f
def bcd(E:Ev)(hs:List (Nat×HFun)):List DA→Option AV→LB→Option (Option AV×LB)
 | [],m,S=>some (m,S)
 | d::ds,m,S=>match cgk hs d.1 with
  | some h=>(match br6 E h d.2 m S with
   | some (.ret _ _,r,S')=>bcd E hs ds (if r then none else m) S'
   | _=>none)
  | none=>none
def bqv(E:Ev)(fn:DFun)(S:LB)(st:St):Option (Option AV×LB)→Option (AEnd×LB)
 | some (none,S')=>(match bcp {st with S:=S'} fn.res with
  | some (r,own)=>E.leave fn.keepB S S' (.ret r own)
  | none=>none)
 | some (some w,S')=>E.leave fn.keepB S S' (.panic w)
 | none=>none
def bdv:List ARes→List Nat
 | []=>[]
 | .tmp t::r=>t::bdv r
 | .cell a _ _::r=>a::bdv r
 | .cellR a _ _ _::r=>a::bdv r
def isV:SV→Bool
 | .v _=>true
 | _=>false
def bzp(E:Ev)(fn:DFun)(args:LA)(S:LB):Option (AEnd×LB):=
 if args.length=fn.n then
  match bcb E fn.body (bgc args S) [] with
  | some (.normal,st,ds) | some (.ret,st,ds)=>bqv E fn S st (bcd E fn.hs ds none st.S)
  | some (.panic v,st,ds)=>if(bdv fn.res).all (fun k=>isV (st.σ.get k))=true then bqv E fn S st (bcd E fn.hs ds (some v) st.S) else none
  | _=>none
 else none
noncomputable def evA(rec:Rec):Ev:=⟨xf rec,bp2 rec,xr⟩
noncomputable def cdp(rec:Rec)(fn:DFun)(args:LA)(S:LB):Option (AEnd×LB):=bzp (evA rec) fn args S
def c8j(c:Opd)(xs:List Opd)(o:Oper):Bool:=
 o.dst.isNone&&o.guard.isNone&&(match o.op with
  | .defer cl=>(match cl.callee with
   | .value f=>bb1 c f&&b3p xs cl.args.toList
   | _=>false)
  | _=>false)
def mD(P:Program)(N:Nat):DCode→Code→Bool
 | .code c,d=>bgz P N c d
 | .seq a b,.seq c d=>mD P N a c&&mD P N b d
 | .cond x a b,.cond y c d=>bb1 x y&&mD P N a c&&mD P N b d
 | .dfr aos c xs _ _,.region _ ops draw=>!draw&&bpx P N ops aos ops.toList.dropLast&&(match ops.toList.getLast? with
  | some o=>c8j c xs o
  | none=>false)
 | _,_=>false
def DCode.fix(F:List Nat):DCode→Bool
 | .code c=>c.fix F
 | .seq a b | .cond _ a b=>a.fix F&&b.fix F
 | .dfr ..=>true
def isRec(N d:Nat)(o:Oper):Bool:=
 o.dst==some d&&decide (d<N)&&o.guard.isNone&&(match o.op with
  | .call cl=>(match cl.callee with
   | .builtin .recover=>true
   | _=>false)
  | _=>false)
def mR(P:Program)(N d:Nat):ACode→Code→Bool
 | .seq a b,.seq c e=>mR P N d a c&&bgz P N b e
 | .region aos none false _ _,.region _ ops draw=>!draw&&(match ops.toList with
  | o::os=>isRec N d o&&bpx P N ops aos os
  | []=>false)
 | _,_=>false
def mFunR(P:Program)(f:FuncId)(fn:AFun)(d:Nat):Bool:=
 match P.funcs[f]? with
 | some F=>(match F.body with
  | some c => mR P fn.N d fn.body c && F.ntmps == fn.N && decide (fn.n ≤ fn.N) && !(F.name == "runtime.NumGoroutine") && bx9 P fn.res F.results.toList
  | none=>false)
 | none=>false
def cv2(P:Program)(f:FuncId):HFun→Bool
 | .ord fn=>dmj P f fn
 | .rcv fn d=>mFunR P f fn d
def c6b(P:Program)(f:FuncId)(fn:DFun):Bool:=
 match P.funcs[f]? with
 | some F=>(match F.body with
  | some c => mD P fn.N fn.body c && F.ntmps == fn.N && decide (fn.n ≤ fn.N) && !(F.name == "runtime.NumGoroutine") && bx9 P fn.res F.results.toList && fn.hs.all (fun p => cv2 P p.1 p.2) && fn.body.fix (bdv fn.res)
  | none=>false)
 | none=>false
section
variable{P:Program}{W0:World}{N:Nat}
def id'(n:Nat):Nat:=n
theorem cq1{rec:Rec}(hrec:bbk P W0 rec){ops:Array Oper}{aos:List AOper}(ix:Nat→Nat)(hm:∀i ao,aos[i]? = some ao→∃o,ops[ix i]? = some o∧ccp P N ops ao o=true)
  {Q:Exit→Act→World→Prop} (js:List Nat) :
  ∀ (is:List Nat) {g:Gh} {W:World} {a:Act} {L:Nat→Nat} {st:St} (hi:Inv g W a N L st) (hB:Base W0 g W) {x:AEx} {st':St} (h:bfz rec aos is st=some (x,st'))
    (hg:Goes W0 g W N a.defers x st' (wpOps P ops Q js) Q),wpOps P ops Q (is.map ix++js) a W
 | [],g,W,a,L,st,hi,hB,x,st',h,hg=>by
  simp only[bfz,normal,bd,bq]at h;obtain⟨rfl,rfl⟩:=h;exact hg.normal rfl g W a L rfl (Ext.refl g W) hi
 | i::is,g,W,a,L,st,hi,hB,x,st',h,hg=>by
  simp only[bfz]at h;split at h
  ·rename_i ao hao;obtain⟨o,ho',hmo⟩:=hm i ao hao;simp only[cr,dv,wpOps,ho'];split at h
   ·rename_i st1 h1;refine b37 hi hB hrec o hmo h1 ⟨fun _ g' W' a' L' hdf hE hi'=>?_,fun v hv=>by cases hv⟩;refine cq1 hrec ix hm js is hi' (hB.ext' hE) h ⟨fun hx g2 W2 a2 L2 hd2 hE2 hi2=>?_,fun v hx g2 W2 a2 L2 u hd2 hE2 hi2 hu=>?_⟩
    ·exact hg.normal hx g2 W2 a2 L2 (hd2.trans hdf) (hE.trans hE2) hi2
    ·exact hg.panic v hx g2 W2 a2 L2 u (hd2.trans hdf) (hE.trans hE2) hi2 hu
   ·rename_i hne;refine b37 hi hB hrec o hmo h ⟨fun hx=>?_,hg.panic⟩;subst hx;exact absurd h (by intro e;exact hne _ e)
  ·cases h
theorem cq2{rec:Rec}(hrec:bbk P W0 rec){ops:Array Oper}{aos:List AOper}(ix:Nat→Nat)(hm:∀i ao,aos[i]? = some ao→∃o,ops[ix i]? = some o∧ccp P N ops ao o=true)
  {Q:Exit→Act→List Frame→World→Prop} (cs:List Frame) (js:List Nat) :
  ∀ (is:List Nat) {g:Gh} {W:World} {a:Act} {L:Nat→Nat} {st:St} (hi:Inv g W a N L st) (hB:Base W0 g W) {x:AEx} {st':St} (h:bfz rec aos is st=some (x,st'))
    (hg:Goes W0 g W N a.defers x st' (fun a w=>wpOpsS P ops Q js a cs w) (fun e a w=>Q e a cs w)),wpOpsS P ops Q (is.map ix++js) a cs W
 | [],g,W,a,L,st,hi,hB,x,st',h,hg=>by
  simp only[bfz,normal,bd,bq]at h;obtain⟨rfl,rfl⟩:=h;exact hg.normal rfl g W a L rfl (Ext.refl g W) hi
 | i::is,g,W,a,L,st,hi,hB,x,st',h,hg=>by
  simp only[bfz]at h;split at h
  ·rename_i ao hao;obtain⟨o,ho',hmo⟩:=hm i ao hao;have turn:(if Region.wanted o (yielded ops a.tmps) then o.wp P a W (fun a w=>wpOpsS P ops Q (is.map ix++js) a cs w) (fun e a w=>Q e a cs w) else(fun a w=>wpOpsS P ops Q (is.map ix++js) a cs w) (a.put o.dst undef) W) →
     wpOpsS P ops Q ((i::is).map ix++js) a cs W:=by
    intro h0;simp only[cr,dv,wpOpsS,ho'];split at h0
    ·rename_i hw;rw[if_pos hw];unfold Oper.wp at h0;split
     ·rename_i w' hr;rw[hr]at h0;exact h0.elim
     ·exact h0
    ·rename_i hw;rw[if_neg hw];exact h0
   split at h
   ·rename_i st1 h1;refine turn (b6k hi hB hrec o hmo h1 ⟨fun _ g' W' a' L' hdf hE hi'=>?_,fun v hv=>by cases hv⟩);refine cq2 hrec ix hm cs js is hi' (hB.ext' hE) h ⟨fun hx g2 W2 a2 L2 hd2 hE2 hi2=>?_,fun v hx g2 W2 a2 L2 u hd2 hE2 hi2 hu=>?_⟩
    ·exact hg.normal hx g2 W2 a2 L2 (hd2.trans hdf) (hE.trans hE2) hi2
    ·exact hg.panic v hx g2 W2 a2 L2 u (hd2.trans hdf) (hE.trans hE2) hi2 hu
   ·rename_i hne;refine turn (b6k hi hB hrec o hmo h ⟨fun hx=>?_,hg.panic⟩);subst hx;exact absurd h (by intro e;exact hne _ e)
  ·cases h
def DR(g:Gh)(W:World)(d:DA)(x:Deferred):Prop:=∃cap:Array Value,x.target=.fn (.func d.1) cap∧RT g W d.2 (x.args++cap).toList
def DfR(g:Gh)(W:World):List DA→List Deferred→Prop
 | [],[]=>True
 | d::ds,x::xs=>DR g W d x∧DfR g W ds xs
 | _,_=>False
theorem DfR.keep{g g':Gh}{W W':World}(k:Keeps g W g' W'):∀{ds:List DA} {xs:List Deferred},DfR g W ds xs→DfR g' W' ds xs
 | [],[],_=>trivial
 | [],_::_,h=>h.elim
 | _::_,[],h=>h.elim
 | d::ds,x::xs,h=>by
  obtain⟨⟨cap,h1,h2⟩,h3⟩:=h;exact⟨⟨cap,h1,bq5 k _ _ h2⟩,DfR.keep k h3⟩
theorem Inv.defers{g:Gh}{W:World}{a:Act}{L:Nat→Nat}{st:St}(h:Inv g W a N L st)(x:List Deferred):Inv g W {a with defers:=x} N L st:=⟨h.size,h.slot,h.own,h.loc,h.sh⟩
def GoesD(F:List Nat)(g:Gh)(W:World)(N:Nat)(x:AEx)(st':St)(ds':List DA)(Q:Exit→Act→World→Prop):Prop:=
 ∀g' W' a' L' st2 e,DfR g' W' ds' a'.defers→Ext g W g' W'→Inv g' W' a' N L' st2→(st2=st'∨(x.isPanic=true∧st2.S=st'.S∧∀k∈F,ob st2 k=ob st' k))→Ends g' W' x e→Q e a' W'
theorem djq{F:List Nat}(hm:P.follows .mixedOrders=true){rec:Rec}(hrec:bbk P W0 rec):∀(ac:DCode) {c:Code},mD P N ac c=true→ac.fix F=true→∀{g:Gh} {W:World} {a:Act} {L:Nat→Nat} {st:St} {ds:List DA},Inv g W a N L st→Base W0 g W→DfR g W ds a.defers →
  ∀{x:AEx} {st':St} {ds':List DA},bcb (evA rec) ac st ds=some (x,st',ds')→∀{Q:Exit→Act→World→Prop},GoesD F g W N x st' ds' Q→c.wp P Q a W:=by
 intro ac
 induction ac with
 | code ca=>
  intro c hc hfx g W a L st ds hi hB hD x st' ds' h Q hg;simp only[mD]at hc;simp only[bcb,evA]at h;cases h1:xf rec ca st with
  | none=>rw[h1]at h;cases h
  | some p=>
   obtain⟨y,s⟩:=p;rw[h1]at h;simp only[bd,bq]at h;obtain⟨rfl,rfl,rfl⟩:=h;simp only[DCode.fix]at hfx;refine cr1 hm hrec ca hc hfx hi hB h1 fun g' W' a' L' st2 e hdf hE hi' hst he=>?_
   exact hg g' W' a' L' st2 e (by rw[hdf];exact hD.keep hE.toKeeps) hE hi' hst he
 | seq ca cb iha ihb=>
  intro c hc hfx g W a L st ds hi hB hD x st' ds' h Q hg;cases c<;>try (simp[mD]at hc;done)
  rename_i c d;simp only[mD,bp]at hc;refine wp_seq ?_;simp only[bcb]at h;cases h1:bcb (evA rec) ca st ds with
  | none=>rw[h1]at h;cases h
  | some p=>
   obtain⟨y,s1,ds1⟩:=p;rw[h1]at h;simp only[DCode.fix,bp]at hfx;refine iha hc.1 hfx.1 hi hB hD h1 fun g' W' a' L' st2 e hdf hE hi' hst he=>?_
   cases he with
   | normal=>
    have hst2:st2=s1:=by
     rcases hst with h | ⟨h,_⟩
     ·exact h
     ·cases h
    subst hst2;refine ihb hc.2 hfx.2 hi' (hB.ext' hE) hdf h fun g2 W2 a2 L2 st3 e2 hdf2 hE2 hi2 hst2 he2=>?_
    exact hg g2 W2 a2 L2 st3 e2 hdf2 (hE.trans hE2) hi2 hst2 he2
   | exit id=>
    simp only[bd,bq]at h;obtain⟨rfl,rfl,rfl⟩:=h;exact hg g' W' a' L' st2 _ hdf hE hi' hst (.exit id)
   | ret=>
    simp only[bd,bq]at h;obtain⟨rfl,rfl,rfl⟩:=h;exact hg g' W' a' L' st2 _ hdf hE hi' hst .ret
   | panic v u hu=>
    simp only[bd,bq]at h;obtain⟨rfl,rfl,rfl⟩:=h;exact hg g' W' a' L' st2 _ hdf hE hi' hst (.panic v u hu)
 | cond o ca cb iha ihb=>
  intro c hc hfx g W a L st ds hi hB hD x st' ds' h Q hg;cases c<;>try (simp[mD]at hc;done)
  rename_i o' c d;simp only[mD,bp]at hc;simp only[bcb]at h;split at h
  ·rename_i t ht;have hv:=bgr.1 (bb7 hi hc.1.1 ht);refine wp_cond hv ?_;simp only[DCode.fix,bp]at hfx;cases t with
   | true=>exact iha hc.1.2 hfx.1 hi hB hD (by simpa using h) hg
   | false=>exact ihb hc.2 hfx.2 hi hB hD (by simpa using h) hg
  ·cases h
 | dfr aos cl xs live locs=>
  intro c hc hfx g W a L st ds hi hB hD x st' ds' h Q hg;cases c<;>try (simp[mD]at hc;done)
  rename_i id ops draw;simp only[mD,bp,dr]at hc;obtain⟨⟨rfl,hmo⟩,hlast⟩:=hc;split at hlast
  ·rename_i o ho;simp only[c8j,bp]at hlast;obtain⟨⟨hdst,hgd⟩,hop⟩:=hlast;have hdst:o.dst=none:=by simpa using hdst
   have hgd:o.guard=none:=by simpa using hgd
   split at hop
   ·rename_i call hcall;split at hop
    ·rename_i f hf;simp only[bp]at hop;have hlen:aos.length=ops.size - 1:=by have:=bkb hmo;simpa using this
     have hne:ops.toList≠[]:=by intro e;rw[e]at ho;cases ho
     have hpos:0<ops.size:=by
      rcases tc ops.size with h0 | h0
      ·exact absurd (fh.1 (by simpa using h0)) hne
      ·exact h0
     have hon:ops[aos.length]? = some o:=by
      rw[List.getLast?_eq_getElem?]at ho;rw[hlen];simpa using ho
     have hrange:List.range ops.size=(List.range aos.length).map id'++[aos.length]:=by
      rw[show ops.size=aos.length+1 by omega,List.range_succ,show(id':Nat→Nat)=(fun x=>x) from rfl,List.map_id']
     simp only[bcb,evA]at h;refine wp_region ?_;rw[hrange];have hget:∀i ao,aos[i]? = some ao→∃o,ops[id' i]? = some o∧ccp P N ops ao o=true:=by
      intro i ao hao;obtain⟨o,h1,h2⟩:=bs6 hmo i hao;refine⟨o,?_,h2⟩;have:=List.getElem?_dropLast (xs:=ops.toList) (i:=i);rw[h1]at this;split at this
      ·simpa[id'] using this.symm
      ·cases this
     cases h1:bp2 rec aos st with
     | none=>rw[h1]at h;cases h
     | some p=>
      obtain⟨y,s1⟩:=p;rw[h1]at h;have h1':=h1;rw[← bz3]at h1';refine cq1 hrec id' hget [aos.length] _ hi hB h1' ⟨fun hy g' W' a' L' hdf hE hi'=>?_,fun v hy g' W' a' L' u hdf hE hi' hu=>?_⟩
      ·subst hy;simp only at h;split at h
       ·rename_i n first caps as hc1 hc2
        simp only[bd,bq]at h;obtain⟨rfl,rfl,rfl⟩:=h;have q1:=bcg (bb7 hi' hop.1 hc1) rfl;simp only[R]at q1;obtain⟨F,C,q2,q3,q4⟩:=q1;have q2:a'.eval f=.func (.func n) F C:=by simpa using q2
        have q5:=b9q hi' hop.2 hc2;simp only[wpOps,hon];rw[if_pos (by simp[Region.wanted,hgd])];left;unfold Oper.wp;have hrun:(execOp a'.eval o).run P W'=.ok (.defer {target:=.fn (.func n) C,args:=F++call.args.map a'.eval}) W':=by
         simp[execOp,hcall,resolve,hf,Deferred.ofValue,q2]
        rw[hrun];simp only[Oper.upon,hdst,Act.put];refine hg g' W' _ L' _ .normal ⟨⟨C,rfl,?_⟩,?_⟩ hE ((hi'.defers _).keep' live locs) (.inl rfl) .normal
        ·simp only[r8,Array.toList_map];exact cjg (cjg q3 q5) q4
        ·rw[hdf];exact hD.keep hE.toKeeps
       ·cases h
      ·subst hy;simp only[bd,bq]at h;obtain⟨rfl,rfl,rfl⟩:=h;exact hg g' W' a' L' _ _ (by rw[hdf];exact hD.keep hE.toKeeps) hE hi' (.inl rfl) (.panic v u hu)
    ·cases hop
   ·cases hop
  ·cases hlast
def c3s:FrameMode→FrameMode
 | .panicking (e::older)=>.panicking ({e with recovered:=true}::older)
 | m=>m
def cds(g:Gh)(W:World):Option AV→FrameMode→Prop
 | none,u=>u=.returning
 | some v,u=>∃uv,u=.panicking [{v:=uv,recovered:=false}]∧RV g W v uv
theorem cds.keep{g g':Gh}{W W':World}(k:Keeps g W g' W'){m:Option AV}{u:FrameMode}(h:cds g W m u):cds g' W' m u:=by
 cases m with
 | none=>exact h
 | some v=>
  obtain⟨uv,h1,h2⟩:=h;exact⟨uv,h1,bdx k h2⟩
theorem dj3(hm:P.follows .mixedOrders=true){rec:Rec}(hrec:bbk P W0 rec){d:Nat}{m:Option AV}{u:FrameMode}{c0:Frame}(hu:c0.mode=u)(cs:List Frame):∀(ac:ACode) {c:Code},mR P N d ac c=true→∀{g:Gh} {W:World} {a:Act} {L:Nat→Nat} {st:St},Inv g W a N L st→Base W0 g W→cds g W m u →
  ∀{x:AEx} {st':St},xf rec ac (st.put d (.v (m.getD .niliface)))=some (x,st')→∀{Q:Exit→Act→List Frame→World→Prop},GoesC g W N a.defers x st' (fun e a w=>Q e a ({c0 with mode:=c3s u}::cs) w)→c.wpS P Q a (c0::cs) W:=by
 intro ac
 induction ac with
 | seq ca cb iha ihb=>
  intro c hc g W a L st hi hB hM x st' h Q hg;cases c<;>try (simp[mR]at hc;done)
  rename_i c d';simp only[mR,bp]at hc;refine wpS_seq ?_;simp only[xf]at h;cases h1:xf rec ca (st.put d (.v (m.getD .niliface))) with
  | none=>rw[h1]at h;cases h
  | some p=>
   obtain⟨y,s1⟩:=p;rw[h1]at h;refine iha hc.1 hi hB hM h1 fun g' W' a' L' st2 e hdf hE hi' hst he=>?_
   cases he with
   | normal=>
    have hst2:st2=s1:=by
     rcases hst with h | ⟨h,_⟩
     ·exact h
     ·cases h
    subst hst2;refine wpS_of_wp (dbf hm hrec cb hc.2 hi' (hB.ext' hE) h fun g2 W2 a2 L2 st3 e2 hdf2 hE2 hi2 hst2 he2=>?_);exact hg g2 W2 a2 L2 st3 e2 (hdf2.trans hdf) (hE.trans hE2) hi2 hst2 he2
   | exit id=>
    simp only[bd,bq]at h;obtain⟨rfl,rfl⟩:=h;exact hg g' W' a' L' st2 _ hdf hE hi' hst (.exit id)
   | ret=>
    simp only[bd,bq]at h;obtain⟨rfl,rfl⟩:=h;exact hg g' W' a' L' st2 _ hdf hE hi' hst .ret
   | panic v u hu=>
    simp only[bd,bq]at h;obtain⟨rfl,rfl⟩:=h;exact hg g' W' a' L' st2 _ hdf hE hi' hst (.panic v u hu)
 | region aos bs quiet live locs=>
  intro c hc g W a L st hi hB hM x st' h Q hg;cases c<;>try (cases bs<;>cases quiet<;>simp[mR]at hc;done)
  rename_i id ops draw;cases bs with
  | some bs=>simp[mR]at hc
  | none=>
  cases quiet with
  | true=>simp[mR]at hc
  | false=>
  simp only[mR,bp,dr]at hc;obtain⟨rfl,hc⟩:=hc;split at hc
  ·rename_i o os hos;simp only[bp,isRec,beq_iff_eq,decide_eq_true_eq]at hc;obtain⟨⟨⟨⟨hdst,hdN⟩,hgd⟩,hop⟩,hmo⟩:=hc;have hgd:o.guard=none:=by simpa using hgd
   have hlen:=bkb hmo;have hsz:ops.size=aos.length+1:=by
    have:=congrArg List.length hos;simp only[d5,cm]at this;omega
   have ho0:ops[0]? = some o:=by
    have:ops.toList[0]? = some o:=by rw[hos];rfl
    simpa using this
   split at hop
   ·rename_i call hcall;split at hop
    ·rename_i hcallee;have hrun:(execOp a.eval o).run P W=.ok .recover W:=by
      simp[execOp,hcall,resolve,hcallee,invoke,builtin]
     refine wpS_region ?_;rw[hsz,List.range_succ_eq_map];have hget:∀i ao,aos[i]? = some ao→∃o,ops[Nat.succ i]? = some o∧ccp P N ops ao o=true:=by
      intro i ao hao;obtain⟨o',h1,h2⟩:=bs6 hmo i hao;refine⟨o',?_,h2⟩;have:ops.toList[i+1]? = some o':=by rw[hos];simpa using h1
      simpa using this
     have step:∀vv,RV g W (m.getD .niliface) vv→wpOpsS P ops Q ((List.range aos.length).map Nat.succ) (a.put (some d) vv) ({c0 with mode:=c3s u}::cs) W:=by
      intro vv hvv;have hi1:=hi.put d hdN (.v (m.getD .niliface)) vv hvv;simp only[xf,ss,ck,if_false,bvg]at h;cases h1:bp2 rec aos (st.put d (.v (m.getD .niliface))) with
      | none=>rw[h1]at h;cases h
      | some p=>
       obtain⟨y,s⟩:=p;rw[h1]at h;have h1':=h1;rw[← bz3]at h1';have:=cq2 hrec Nat.succ hget (Q:=Q) ({c0 with mode:=c3s u}::cs) [] (List.range aos.length) hi1 hB h1' ⟨fun hy g' W' a' L' hdf hE hi'=>?_,fun v hy g' W' a' L' u hdf hE hi' hu=>?_⟩
       ·simpa using this
       ·subst hy;simp only[normal,bd,bq]at h;obtain⟨rfl,rfl⟩:=h;simp only[wpOpsS];exact hg g' W' a' L' _ .normal (hdf.trans (bpt a _ _)) hE (hi'.keep' live locs) (.inl rfl) .normal
       ·subst hy;simp only[bd,bq]at h;obtain⟨rfl,rfl⟩:=h;exact hg g' W' a' L' _ _ (hdf.trans (bpt a _ _)) hE hi' (.inl rfl) (.panic v u hu)
     simp only[wpOpsS,ho0];rw[if_pos (by simp[Region.wanted,hgd]),hrun];simp only[hdst];cases m with
     | none=>
      have hM':u=.returning:=hM;subst hM';have hr:recoverD (c0::cs)=none:=by simp[recoverD,hu]
      rw[hr];have:=step .nilIface ⟨by simp[R,Value.cells],rfl⟩;have hc0:({c0 with mode:=c3s .returning}:Frame)=c0:=by simp only[c3s,← hu]
      rw[hc0]at this;exact this
     | some v=>
      obtain⟨uv,rfl,hv⟩:=hM;have hr:recoverD (c0::cs)=some (uv,{c0 with mode:=.panicking [{v:=uv,recovered:=true}]}::cs):=by simp[recoverD,hu]
      rw[hr];exact step uv hv
    ·cases hop
   ·cases hop
  ·cases hc
 | _=>
  intro c hc;cases c<;>simp[mR]at hc
theorem dsm{g g':Gh}{W W':World}{a':Act}{L':Nat→Nat}{S S':LB}{fn:AFun}{F:Func}{rec:Rec}{x:AEx}{st st2:St}{e:AEnd}{e2:Exit}(hres:bx9 P fn.res F.results.toList=true)
  (h:bvv (evA rec) fn.res fn.keepB S (x,st)=some (e,S')) (hS:SInv g W S) (hE:Ext g W g' W') (hi':Inv g' W' a' N L' st2) (hst:st2=st∨(x.isPanic=true∧st2.S=st.S)) (he:Ends g' W' x e2) (hdf:a'.defers=[]) :
  match e2 with
  | .normal | .ret=>a'.defers=[]∧∃v,(results F a'.tmps).run P W'=.ok v W'∧b99 g W e S' (.returned v) W'
  | .panic ch=>a'.defers=[]∧b99 g W e S' (.panicked ch) W'
  | _=>False:=by
 have hfin:∀{st3:St},st2=st3→(match bcp st3 fn.res with | some (r,own)=>xr fn.keepB S st3.S (.ret r own) | none=>none)=some (e,S') →
   a'.defers=[]∧∃v,(results F a'.tmps).run P W'=.ok v W'∧b99 g W e S' (.returned v) W':=by
  intro st3 h3 h4;subst h3;split at h4
  ·rename_i r own hr;obtain⟨v,g3,st3,q1,qE,qi,qS,q2,q3⟩:=b17 hi' hres hr;exact⟨hdf,v,q1,ccb (hE.trans qE) qi hS (by rw[qS];exact h4) q2 q3⟩
  ·cases h4
 cases he with
 | normal=>
  have h2:st2=st:=by
   rcases hst with h | ⟨h,_⟩
   ·exact h
   ·cases h
  exact hfin h2 h
 | ret=>
  have h2:st2=st:=by
   rcases hst with h | ⟨h,_⟩
   ·exact h
   ·cases h
  exact hfin h2 h
 | exit id=>cases h
 | panic v u hu=>
  have h2:st2.S=st.S:=by
   rcases hst with h | ⟨_,h⟩
   ·rw[h]
   ·exact h
  refine⟨hdf,?_⟩;simp only[bvv,evA]at h;rw[← h2]at h;exact b09 hE hi' hS h hu
theorem dsg(hP:P.follows .mixedOrders=true){rec:Rec}(hrec:bbk P W0 rec){f:FuncId}{hf:HFun}(hm:cv2 P f hf=true){args:LA}{m:Option AV}{S S':LB}{e:AEnd}{r:Bool}
  (h:br6 (evA rec) hf args m S=some (e,r,S')):bdp P f∧∀g W (vs:Array Value) u,Base W0 g W→RT g W args vs.toList→SInv g W S→cds g W m u →
   CallsD P f vs u W (fun en u' W'=>u'=(if r then c3s u else u)∧b99 g W e S' en W'):=by
 cases hf with
 | ord fn=>
  simp only[cv2]at hm;simp only[br6]at h;split at h
  ·rename_i hlen;split at h
   ·rename_i p hp;split at h
    ·rename_i e' S2 he;simp only[bd,bq]at h;obtain⟨rfl,rfl,rfl⟩:=h;have hfun:b9v rec fn args S=some (e',S2):=by
      unfold b9v;rw[if_pos hlen];simp only[evA]at hp;rw[hp];obtain⟨x,s⟩:=p;cases x<;>exact he
     obtain⟨F,c,hF,hc,hname,hb⟩:=crm hP hrec hm hfun;refine⟨⟨F,hF,hname,by simp[hc]⟩,fun g W vs u hB hT hS hM=>?_⟩;refine(callsD_of_wp hF hc (hb g W vs hB hT hS)).mono fun en u' W' hh=>?_
     exact⟨by simpa using hh.1,hh.2⟩
    ·cases h
   ·cases h
  ·cases h
 | rcv fn d=>
  simp only[cv2,mFunR]at hm;split at hm
  ·rename_i F hF;split at hm
   ·rename_i c hc;simp only[bp,beq_iff_eq,decide_eq_true_eq,dr]at hm;obtain⟨⟨⟨⟨hm,hN⟩,hn⟩,hname⟩,hres⟩:=hm;simp only[br6]at h;split at h
    ·rename_i hlen;split at h
     ·rename_i p hp;split at h
      ·rename_i e' S2 he;simp only[bd,bq]at h;obtain⟨rfl,rfl,rfl⟩:=h;refine⟨⟨F,hF,hname,by simp[hc]⟩,fun g W vs u hB hT hS hM=>?_⟩;refine callsD_of_wpS hF hc fun c0 cs hu=>?_
       rw[hN];have hl:=bp5 hT;simp at hl;have hi:=cc7 (N:=fn.N) hT hS (by omega);obtain⟨x,st⟩:=p;simp only[evA]at hp;refine dj3 hP hrec hu cs fn.body hm hi hB hM hp fun g' W' a' L' st2 e2 hdf hE hi' hst he2=>?_
       have hu':c3s u=if m.isSome=true then c3s u else u:=by
        cases m with
        | none=>have:u=.returning:=hM;subst this;rfl
        | some v=>rfl
       have q:=dsm (P:=P) (F:=F) hres he hS hE hi' hst he2 hdf;cases he2 with
       | normal=>
        obtain⟨q1,v,q2,q3⟩:=q;exact⟨q1,c3s u,rfl,v,q2,hu',q3⟩
       | ret=>
        obtain⟨q1,v,q2,q3⟩:=q;exact⟨q1,c3s u,rfl,v,q2,hu',q3⟩
       | exit id=>exact q.elim
       | panic v uv hv=>
        obtain⟨q1,q3⟩:=q;exact⟨q1,c3s u,rfl,hu',q3⟩
      ·cases h
     ·cases h
    ·cases h
   ·cases hm
  ·cases hm
theorem c6j{l:List (Nat×HFun)}{f:Nat}{d:HFun}(h:cgk l f=some d):(f,d)∈l:=by
 induction l with
 | nil=>simp[cgk]at h
 | cons p r ih=>
  obtain⟨k,e⟩:=p;simp only[cgk]at h;split at h
  ·rename_i hk;subst hk;obtain rfl:=bf h;exact .head _
  ·exact .tail _ (ih h)
theorem chm{f:FuncId}{vs:Array Value}{W:World}(hc:bdp P f):(callFunc f vs).run P W=.ok (.enter f vs) W:=by
 obtain⟨fn,h1,h2,h3⟩:=hc;have h3':¬ (fn.body=none):=by intro e;simp[e]at h3
 have h2' : ¬ (fn.name = "runtime.NumGoroutine") := by simpa using h2
 simp[callFunc,h1,h2',h3']
theorem cgt(hP:P.follows .mixedOrders=true){rec:Rec}(hrec:bbk P W0 rec){hs:List (Nat×HFun)}(hm:hs.all (fun p=>cv2 P p.1 p.2)=true){F:Func}{a:Act}{st:St}{R:Ending→World→Prop} :
  ∀ (ds:List DA) (xs:List Deferred) {m m':Option AV} {S S':LB} {u:FrameMode} {g:Gh} {W:World} {L:Nat→Nat},DfR g W ds xs→Inv g W a N L {st with S:=S}→Base W0 g W→cds g W m u→bcd (evA rec) hs ds m S=some (m',S') →
    (∀g' W' L' u',Ext g W g' W'→Inv g' W' a N L' {st with S:=S'}→cds g' W' m' u'→(match u' with | .returning=>∃v,(results F a.tmps).run P W'=.ok v W'∧R (.returned v) W' | .panicking ch=>R (.panicked ch) W' | .run=>False)) →
    Leaves P F a.tmps R xs u W
 | [],[],m,m',S,S',u,g,W,L,hD,hi,hB,hM,h,hfin=>by
  simp only[bcd,bd,bq]at h;obtain⟨rfl,rfl⟩:=h;have:=hfin g W L u (Ext.refl g W) hi hM;cases u with
  | run=>exact this.elim
  | returning=>exact this
  | panicking ch=>exact this
 | [],_::_,_,_,_,_,_,_,_,_,hD,_,_,_,_,_=>hD.elim
 | _::_,[],_,_,_,_,_,_,_,_,hD,_,_,_,_,_=>hD.elim
 | d::ds,x::xs,m,m',S,S',u,g,W,L,hD,hi,hB,hM,h,hfin=>by
  obtain⟨⟨cap,ht,hT⟩,hD⟩:=hD;simp only[bcd]at h;split at h
  ·rename_i hf hlook;split at h
   ·rename_i r own rr S2 hh;have hmf:cv2 P d.1 hf=true:=cq.1 hm _ (c6j hlook);obtain⟨hcall,hC⟩:=dsg hP hrec hmf hh;have hur:u≠.run:=by
     cases m with
     | none=>have:u=.returning:=hM;rw[this];simp
     | some v=>obtain⟨uv,h1,_⟩:=hM;rw[h1];simp
    have hi0:Inv g W a N L {st with S:=S}:=hi;have hk:=b1r g W;refine⟨hur,.func d.1,cap,d.1,x.args++cap,ht,?_,?_⟩
    ·rw[ht];simp only[invoke];exact chm hcall
    ·refine(hC g.hide W (x.args++cap) u hB.hide (bq5 hk _ _ hT) (SInv.hide hi0.sh) (hM.keep hk)).mono fun en u' W' hp=>?_
     obtain⟨hu',g',hE,hS2,_,hend⟩:=hp;obtain⟨v,rfl,_,_⟩:=hend;obtain⟨hX,hi',_,_,_⟩:=hi0.back hE hS2 none;simp only;have hM':cds (g.back g' none) W' (if rr then none else m) (settle u'):=by
      subst hu';cases rr with
      | true=>
       simp only[if_true];cases m with
       | none=>have:u=.returning:=hM;rw[this];rfl
       | some v=>obtain⟨uv,h1,_⟩:=hM;rw[h1];rfl
      | false=>
       simp only[ck,if_false];cases m with
       | none=>have:u=.returning:=hM;rw[this];rfl
       | some v=>
        obtain⟨uv,h1,h2⟩:=hM;rw[h1];exact⟨uv,rfl,bdx hX.toKeeps h2⟩
     exact cgt hP hrec hm ds xs (hD.keep hX.toKeeps) hi' (hB.ext' hX) hM' h fun g2 W2 L2 u2 hE2 hi2 hM2=>hfin g2 W2 L2 u2 (hX.trans hE2) hi2 hM2
   ·cases h
  ·cases h
theorem cmp{s:SV}(h:isV s=true):∃a,s=.v a:=by
 cases s<;>first | exact⟨_,rfl⟩ | cases h
theorem cr6{a b:St}(S:LB){x:ARes}(h:∀k∈bdv [x],ob b k=ob a k)(hv:∀k∈bdv [x],isV (a.σ.get k)=true):cdk {a with S:=S} x=cdk {b with S:=S} x:=by
 cases x with
 | tmp t=>
  have h1:=h t (by simp[bdv]);simp only[ob,bq]at h1;simp only[cdk,St.av,St.sv,h1.1]
 | cell c n ag=>
  have h1:=h c (by simp[bdv]);simp only[ob,bq]at h1;obtain⟨y,hy⟩:=cmp (hv c (by simp[bdv]));simp only[cdk,h1.1,hy];cases y<;>rfl
 | cellR c n j e=>
  have h1:=h c (by simp[bdv]);simp only[ob,bq]at h1;obtain⟨y,hy⟩:=cmp (hv c (by simp[bdv]));simp only[cdk,h1.1,hy];cases y<;>rfl
theorem cmr(x:ARes)(r:List ARes):bdv (x::r)=bdv [x]++bdv r:=by cases x<;>rfl
theorem cpb{a b:St}(S:LB){rs:List ARes}(h:∀k∈bdv rs,ob b k=ob a k)(hv:∀k∈bdv rs,isV (a.σ.get k)=true):bcp {a with S:=S} rs=bcp {b with S:=S} rs:=by
 have h3:∀rs:List ARes,(∀k∈bdv rs,ob b k=ob a k)→(∀k∈bdv rs,isV (a.σ.get k)=true)→bfx {a with S:=S} rs=bfx {b with S:=S} rs:=by
  intro rs
  induction rs with
  | nil=>intro _ _;rfl
  | cons r rs ih=>
   intro h hv;rw[cmr]at h hv;simp only[bfx,cr6 S (fun k hk=>h k (List.mem_append_left _ hk)) (fun k hk=>hv k (List.mem_append_left _ hk)),ih (fun k hk=>h k (rf _ hk)) (fun k hk=>hv k (rf _ hk))]
 match rs,h,hv with
 | [],h,hv=>simp only[bcp,h3 [] h hv]
 | [.tmp t],h,hv=>
  have h1:=h t (by simp[bdv]);simp only[ob,bq]at h1;simp only[bcp,St.av,St.sv,h1.1,h1.2]
 | [.cell c n ag],h,hv=>simp only[bcp,cr6 S h hv]
 | [.cellR c n j e],h,hv=>
  have h1:=h c (by simp[bdv]);simp only[ob,bq]at h1;obtain⟨y,hy⟩:=cmp (hv c (by simp[bdv]));simp only[bcp,h1.1,hy]
 | x::y::r,h,hv=>simp only[bcp,h3 _ h hv]
theorem czg(hP:P.follows .mixedOrders=true){rec:Rec}(hrec:bbk P W0 rec){f:FuncId}{fn:DFun}(hm:c6b P f fn=true):bb0 P W0 f (cdp rec fn):=by
 intro args S e S' h;unfold c6b at hm;split at hm
 ·rename_i F hF;split at hm
  ·rename_i c hc;simp only[bp,beq_iff_eq,decide_eq_true_eq,dr]at hm;obtain⟨⟨⟨⟨⟨⟨hm,hN⟩,hn⟩,hname⟩,hres⟩,hhs⟩,hfx⟩:=hm;refine⟨⟨F,hF,hname,by simp[hc]⟩,fun g W vs hB hT hS hcalm=>?_⟩;unfold cdp bzp at h;split at h
   ·rename_i hlen;have hl:=bp5 hT;simp at hl;refine calls_of_wp_defers hF hc ?_;rw[hN];have hi:=cc7 (N:=fn.N) hT hS (by omega);have ret:∀{g':Gh} {W':World} {a':Act} {L':Nat→Nat} {st2:St} {r:AV} {own:Option Nat} ,Ext g W g' W'→Inv g' W' a' fn.N L' st2→bcp st2 fn.res=some (r,own)→xr fn.keepB S st2.S (.ret r own)=some (e,S') →
      ∃v,(results F a'.tmps).run P W'=.ok v W'∧b99 g W e S' (.returned v) W':=by
     intro g' W' a' L' st2 r own hE hi' hr hl;obtain⟨v,g3,st3,q1,qE,qi,qS,q2,q3⟩:=b17 hi' hres hr;exact⟨v,q1,ccb (hE.trans qE) qi hS (by rw[qS];exact hl) q2 q3⟩
    have dend:∀{g':Gh} {W':World} {a':Act} {L':Nat→Nat} {st st2:St} {ds:List DA} {xs:List Deferred} {m:Option AV} {u:FrameMode},Ext g W g' W'→Inv g' W' a' fn.N L' st2→(st2=st∨(st2.S=st.S∧(∀k∈bdv fn.res,ob st2 k=ob st k)∧(∀k∈bdv fn.res,isV (st.σ.get k)=true)))→DfR g' W' ds xs→cds g' W' m u →
      bqv (evA rec) fn S st (bcd (evA rec) fn.hs ds m st.S)=some (e,S')→Leaves P F a'.tmps (b99 g W e S') xs u W':=by
     intro g' W' a' L' st st2 ds xs m u hE hi' hv hD hM h;cases hlv:bcd (evA rec) fn.hs ds m st.S with
     | none=>rw[hlv]at h;cases h
     | some p=>
      obtain⟨m',S2⟩:=p;rw[hlv]at h;have hS':st.S=st2.S:=by
       rcases hv with h | h
       ·rw[h]
       ·exact h.1.symm
      rw[hS']at hlv;refine cgt hP hrec hhs (st:=st2) ds xs hD hi' (hB.ext' hE) hM hlv fun g2 W2 L2 u2 hE2 hi2 hM2=>?_
      cases m' with
      | none=>
       have:u2=.returning:=hM2;subst this;simp only[bqv]at h;split at h
       ·rename_i r own hr;have hr2:bcp {st2 with S:=S2} fn.res=some (r,own):=by
         rcases hv with h | ⟨_,h1,h2⟩
         ·rw[h];exact hr
         ·rw[← cpb S2 h1 h2];exact hr
        exact ret (hE.trans hE2) hi2 hr2 h
       ·cases h
      | some w=>
       obtain⟨uw,rfl,hw⟩:=hM2;exact b09 (hE.trans hE2) hi2 hS h hw
    have go:∀{x:AEx} {st:St} {ds:List DA},bcb (evA rec) fn.body (bgc args S) []=some (x,st,ds) →
      (match x with | .normal | .ret=>bqv (evA rec) fn S st (bcd (evA rec) fn.hs ds none st.S) | .panic v=>if(bdv fn.res).all (fun k=>isV (st.σ.get k))=true then bqv (evA rec) fn S st (bcd (evA rec) fn.hs ds (some v) st.S) else none | _=>none)=some (e,S') →
      c.wp P (bodyPostD P F (b99 g W e S')) {tmps:=vs++Array.replicate (fn.N - vs.size) undef,defers:=[]} W:=by
     intro x st ds hcode h;refine djq hP hrec fn.body hm hfx hi hB (ds:=[]) (by trivial) hcode fun g' W' a' L' st2 e2 hdf hE hi' hst he=>?_
     cases he with
     | normal=>
      have hv:st2=st:=by
       rcases hst with h | ⟨h,_⟩
       ·exact h
       ·cases h
      exact dend hE hi' (.inl hv) hdf (m:=none) rfl h
     | ret=>
      have hv:st2=st:=by
       rcases hst with h | ⟨h,_⟩
       ·exact h
       ·cases h
      exact dend hE hi' (.inl hv) hdf (m:=none) rfl h
     | exit id=>cases h
     | panic v u hu=>
      simp only at h;split at h
      ·rename_i hall;simp only[cq]at hall;exact dend hE hi' (hst.imp id fun h=>⟨h.2.1,h.2.2,hall⟩) hdf (m:=some v) ⟨u,rfl,hu⟩ h
      ·cases h
    split at h
    ·rename_i st ds hcode;exact go hcode h
    ·rename_i st ds hcode;exact go hcode h
    ·rename_i v st ds hcode;exact go hcode h
    ·cases h
   ·cases h
  ·cases hm
 ·cases hm
end
end Go.Av
namespace Go.Av
open Go
def bmm(r1 r2:Rec):Prop:=∀f as S x,r1 f as S=some x→r2 f as S=some x
theorem bmm.refl(r:Rec):bmm r r:=fun _ _ _ _ h=>h
theorem bmm.quiet{r1 r2:Rec}(h:bmm r1 r2):bmm r1.quiet r2.quiet:=by
 intro f as S x hx;unfold Rec.quiet at hx ⊢;split at hx
 ·rename_i r own S' hr;rw[h _ _ _ _ hr];exact hx
 ·cases hx
section
variable{r1 r2:Rec}(h:bmm r1 r2)
include h
theorem dcj{st:St}{o:AOp}{x:AEx×St}(hx:aop r1 st o=some x):aop r2 st o=some x:=by
 cases o with
 | call d f xs=>
  simp only[aop]at hx ⊢;split at hx
  ·split at hx
   ·rename_i hr;rw[h _ _ _ _ hr];exact hx
   ·cases hx
  ·cases hx
 | callv d c xs=>
  simp only[aop]at hx ⊢;split at hx
  ·split at hx
   ·rename_i hr;rw[h _ _ _ _ hr];exact hx
   ·cases hx
  ·cases hx
 | _=>exact hx
theorem dcf{st:St}{o:AOp}{x:AEx×St}(hx:brd r1 st o=some x):brd r2 st o=some x:=by
 cases o with
 | call d f xs=>
  simp only[brd]at hx ⊢;split at hx
  ·split at hx
   ·rename_i hc;rw[if_pos hc];split at hx
    ·rename_i hr;rw[h _ _ _ _ hr];exact hx
    ·cases hx
   ·cases hx
  ·cases hx
 | _=>cases hx
theorem dtg{st:St}{blk:Option Nat}{o:AOp}{x:AEx×St}(hx:b70 r1 st blk o=some x):b70 r2 st blk o=some x:=by
 unfold b70 at hx ⊢;split at hx
 ·rename_i hc;rw[if_pos hc];split at hx
  ·rename_i hb;rw[if_pos hb];exact dcf h hx
  ·rename_i hb;rw[if_neg hb];split at hx
   ·rename_i hb2;rw[if_pos hb2];cases ha:aop r1 st o with
    | none=>rw[ha]at hx;cases hx
    | some p=>rw[ha]at hx;rw[dcj h ha];exact hx
   ·rename_i hb2;rw[if_neg hb2];exact dcj h hx
 ·rename_i hc;rw[if_neg hc];exact dcj h hx
theorem cr8{st:St}{o:AOper}{x:AEx×St}(hx:bdb r1 st o=some x):bdb r2 st o=some x:=by
 have hb:∀{x:AEx×St},b27 r1 st o=some x→b27 r2 st o=some x:=by
  intro x hx;unfold b27 at hx ⊢;split at hx
  ·rename_i hb;rw[if_pos hb];exact dtg h hx
  ·cases hx
 unfold bdb at hx ⊢;split at hx
 ·exact hb hx
 ·split at hx
  ·split at hx
   ·rename_i hw;rw[if_pos hw];exact hb hx
   ·rename_i hw;rw[if_neg hw];exact hx
  ·exact hx
  ·cases hx
theorem b6h:∀{ops:List AOper} {st:St} {x:AEx×St},bp2 r1 ops st=some x→bp2 r2 ops st=some x
 | [],st,x,hx=>hx
 | o::ops,st,x,hx=>by
  simp only[bp2]at hx ⊢;cases h1:bdb r1 st o with
  | none=>rw[h1]at hx;cases hx
  | some p=>
   rw[h1]at hx;rw[cr8 h h1];obtain⟨y,s⟩:=p;cases y with
   | normal=>exact b6h hx
   | _=>exact hx
omit h in
theorem bz4{f1 f2:St→Option (AEx×St)}(hf:∀st x,f1 st=some x→f2 st=some x):∀{n:Nat} {st:St} {x:AEx×St},bjx f1 n st=some x→bjx f2 n st=some x
 | 0,st,x,hx=>by simp[bjx]at hx
 | n+1,st,x,hx=>by
  simp only[bjx]at hx ⊢;cases h1:f1 st with
  | none=>rw[h1]at hx;cases hx
  | some p=>
   rw[h1]at hx;rw[hf _ _ h1];obtain⟨y,s⟩:=p;cases y with
   | normal=>exact bz4 hf hx
   | _=>exact hx
end
mutual
def AV.beq:AV→AV→Bool
 | .bool a,.bool b=>a==b
 | .int k a,.int j b=>decide (k=j)&&a==b
 | .str a,.str b=>decide (a=b)
 | .agg a,.agg b=>cm5 a b
 | .tuple a,.tuple b=>cm5 a b
 | .slice n a,.slice m b=>n==m&&cm5 a b
 | .sptr a,.sptr b=>cm5 a b
 | .nilptr,.nilptr=>true
 | .ptr i o,.ptr j p=>i==j&&o==p
 | .clos f a b,.clos g c d=>decide (f=g)&&cm5 a c&&cm5 b d
 | .nilfn,.nilfn=>true
 | .iface t a,.iface u b=>t==u&&a.beq b
 | .niliface,.niliface=>true
 | .mapp i,.mapp j=>i==j
 | .nilmap,.nilmap=>true
 | _,_=>false
def cm5:LA→LA→Bool
 | [],[]=>true
 | a::as,b::bs=>a.beq b&&cm5 as bs
 | _,_=>false
end
mutual
theorem dm0:∀{a b:AV},a.beq b=true→a=b
 | .bool a,b,h=>by cases b<;>simp_all [AV.beq]
 | .int k a,b,h=>by cases b<;>simp_all [AV.beq]
 | .str a,b,h=>by cases b<;>simp_all [AV.beq]
 | .agg a,b,h=>by cases b<;>simp only[AV.beq]at h<;>first | (rw[bsg h]) | (cases h)
 | .tuple a,b,h=>by cases b<;>simp only[AV.beq]at h<;>first | (rw[bsg h]) | (cases h)
 | .slice n a,b,h=>by
  cases b<;>simp only[AV.beq,bp,beq_iff_eq]at h<;>first | (rw[h.1,bsg h.2]) | (cases h)
 | .sptr a,b,h=>by cases b<;>simp only[AV.beq]at h<;>first | (rw[bsg h]) | (cases h)
 | .nilptr,b,h=>by cases b<;>simp_all [AV.beq]
 | .ptr i o,b,h=>by cases b<;>simp_all [AV.beq]
 | .clos f a c,b,h=>by
  cases b<;>simp only[AV.beq,bp,decide_eq_true_eq]at h<;>first | (rw[h.1.1,bsg h.1.2,bsg h.2]) | (cases h)
 | .nilfn,b,h=>by cases b<;>simp_all [AV.beq]
 | .iface t a,b,h=>by
  cases b<;>simp only[AV.beq,bp,beq_iff_eq]at h<;>first | (rw[h.1,dm0 h.2]) | (cases h)
 | .niliface,b,h=>by cases b<;>simp_all [AV.beq]
 | .mapp i,b,h=>by cases b<;>simp_all [AV.beq]
 | .nilmap,b,h=>by cases b<;>simp_all [AV.beq]
theorem bsg:∀{as bs:LA},cm5 as bs=true→as=bs
 | [],[],_=>rfl
 | a::as,b::bs,h=>by
  simp only[cm5,bp]at h;rw[dm0 h.1,bsg h.2]
 | [],_::_,h=>by simp[cm5]at h
 | _::_,[],h=>by simp[cm5]at h
end
def dvv(a b:Bx):Bool:=(cm5 a.cells b.cells&&decide (a.own=b.own))&&a.map==b.map
theorem db3{a b:Bx}(h:dvv a b=true):a=b:=by
 simp only[dvv,bp,decide_eq_true_eq,beq_iff_eq]at h;cases a;cases b;simp only at h;rw[bsg h.1.1,h.1.2,h.2]
def dm1:LB→LB→Bool
 | [],[]=>true
 | a::as,b::bs=>dvv a b&&dm1 as bs
 | _,_=>false
theorem db2:∀{as bs:LB},dm1 as bs=true→as=bs
 | [],[],_=>rfl
 | a::as,b::bs,h=>by
  simp only[dm1,bp]at h;rw[db3 h.1,db2 h.2]
 | [],_::_,h=>by simp[dm1]at h
 | _::_,[],h=>by simp[dm1]at h
def bk6(rec:Rec):Rec:=fun f args S=>
 match rec f args S with
 | some (.ret r own,S')=>if dm1 S' S then some (.ret r own,S') else none
 | _=>none
theorem dbb(rec:Rec):bmm (bk6 rec) rec.quiet:=by
 intro f as S x hx;unfold bk6 at hx;unfold Rec.quiet;split at hx
 ·rename_i r own S' hr;split at hx
  ·rename_i hb;rw[hr];simp only[if_pos (db2 hb)];exact hx
  ·cases hx
 ·cases hx
def bb3(rec:Rec)(k:Nat):ACode→St→Option (AEx×St)
 | .skip live locs,st=>normal (st.keep live locs)
 | .region ops bs quiet live locs,st=>match bp2 (if quiet then bk6 rec else rec) (bkz bs ops) (if bs.isSome then st.prep ops else st) with
  | some (.normal,st')=>normal (st'.keep live locs)
  | r=>r
 | .seq a b,st=>match bb3 rec k a st with
  | some (.normal,st')=>bb3 rec k b st'
  | r=>r
 | .cond c a b,st=>match st.av c with
  | some (.bool t)=>if t then bb3 rec k a st else bb3 rec k b st
  | _=>none
 | .block id c,st=>match bb3 rec k c st with
  | some (.exit id',st')=>if id'=id then normal st' else some (.exit id',st')
  | r=>r
 | .loop c,st=>bjx (bb3 rec k c) k st
 | .exit id live locs,st=>some (.exit id,st.keep live locs)
 | .ret,st=>some (.ret,st)
 | .freeze d c,st=>match st.freeze d with
  | some st'=>bb3 rec k c st'
  | none=>none
 | .scope c,st=>bb3 rec k c st
 | .label,st=>normal st
theorem chp{rec:Rec}{k:Nat}:∀{c:ACode} {st:St} {x:AEx×St},bb3 rec k c st=some x→xf rec c st=some x:=by
 intro c
 induction c with
 | skip live locs=>intro st x hx;exact hx
 | region ops bs quiet live locs=>
  intro st x hx;simp only[xf,bb3]at hx ⊢;have hq:bmm (if quiet then bk6 rec else rec) (if quiet then rec.quiet else rec):=by
   cases quiet
   ·exact bmm.refl _
   ·exact dbb rec
  cases h1:bp2 (if quiet then bk6 rec else rec) (bkz bs ops) (if bs.isSome then st.prep ops else st) with
  | none=>rw[h1]at hx;cases hx
  | some p=>rw[h1]at hx;rw[b6h hq h1];exact hx
 | seq a b iha ihb=>
  intro st x hx;simp only[xf,bb3]at hx ⊢;cases h1:bb3 rec k a st with
  | none=>rw[h1]at hx;cases hx
  | some p=>
   rw[h1]at hx;rw[iha h1];obtain⟨y,s⟩:=p;cases y with
   | normal=>exact ihb hx
   | _=>exact hx
 | cond o a b iha ihb=>
  intro st x hx;simp only[xf,bb3]at hx ⊢;split at hx
  ·rename_i t ht;rw[ht];cases t with
   | true=>exact iha (by simpa using hx)
   | false=>exact ihb (by simpa using hx)
  ·cases hx
 | block id a iha=>
  intro st x hx;simp only[xf,bb3]at hx ⊢;cases h1:bb3 rec k a st with
  | none=>rw[h1]at hx;cases hx
  | some p=>rw[h1]at hx;rw[iha h1];exact hx
 | loop a iha=>
  intro st x hx;simp only[xf,bb3]at hx ⊢;exact bfm.2 ⟨k,bz4 (fun st x hx=>iha hx) hx⟩
 | exit id live locs=>intro st x hx;exact hx
 | ret=>intro st x hx;exact hx
 | freeze d a iha=>
  intro st x hx;simp only[xf,bb3]at hx ⊢;split at hx
  ·rename_i hf;rw[hf];exact iha hx
  ·cases hx
 | scope a iha=>intro st x hx;exact iha hx
 | label=>intro st x hx;exact hx
def chg(S S':LB)(m:Nat):Bool:=(List.range m).all fun i=>match S'[i]?,S[i]? with
 | some x,some y=>dvv x y||zd m x.cells
 | some x,none=>zd m x.cells
 | none,_=>true
theorem c9z{S S':LB}{m:Nat}(h:chg S S' m=true):bq4 S S' m:=by
 intro i x hi hx;simp only[chg,cq,jr]at h;have:=h i hi;rw[hx]at this;cases hS:S[i]? with
 | none=>rw[hS]at this;exact .inr this
 | some y=>
  rw[hS]at this;simp only[d8]at this;rcases this with h1 | h1
  ·left;rw[db3 h1]
  ·exact .inr h1
def bv1(keepB:Nat)(S S':LB)(e:AEnd):Option (AEnd×LB):=
 if S'.length≤S.length+keepB then some (e,S')
 else if chg S S' (S.length+keepB)&&e.closed (S.length+keepB) then some (e,S'.take (S.length+keepB)) else none
theorem btf{kb:Nat}{S S':LB}{e:AEnd}{x:AEnd×LB}(h:bv1 kb S S' e=some x):xr kb S S' e=some x:=by
 unfold bv1 at h;unfold xr;by_cases hl:S'.length≤S.length+kb
 ·rw[if_pos hl]at h ⊢;exact h
 ·rw[if_neg hl]at h ⊢;split at h
  ·rename_i hc;simp only[bp]at hc;rw[if_pos ⟨c9z hc.1,hc.2⟩];exact h
  ·cases h
def cm2(rec:Rec)(k:Nat)(fn:AFun)(args:LA)(S:LB):Option (AEnd×LB):=
 if args.length=fn.n then
  match bb3 rec k fn.body (bgc args S) with
  | some (.normal,st) | some (.ret,st)=>match bcp st fn.res with
   | some (r,own)=>bv1 fn.keepB S st.S (.ret r own)
   | none=>none
  | some (.panic v,st)=>bv1 fn.keepB S st.S (.panic v)
  | _=>none
 else none
theorem dj7{rec:Rec}{k:Nat}{fn:AFun}{args:LA}{S:LB}{x:AEnd×LB}(h:cm2 rec k fn args S=some x):b9v rec fn args S=some x:=by
 unfold cm2 at h;unfold b9v;split at h
 ·rename_i hl;rw[if_pos hl];cases hc:bb3 rec k fn.body (bgc args S) with
  | none=>rw[hc]at h;cases h
  | some p=>
   rw[hc]at h;rw[chp hc];obtain⟨y,s⟩:=p;cases y with
   | normal=>
    simp only at h ⊢;split at h
    ·rename_i hr;rw[hr];exact btf h
    ·cases h
   | ret=>
    simp only at h ⊢;split at h
    ·rename_i hr;rw[hr];exact btf h
    ·cases h
   | panic v=>exact btf h
   | exit id=>cases h
 ·cases h
structure Ev.Le(E1 E2:Ev):Prop where
 code:∀c st x,E1.code c st=some x→E2.code c st=some x
 ops:∀o st x,E1.ops o st=some x→E2.ops o st=some x
 leave:∀k S S' e x,E1.leave k S S' e=some x→E2.leave k S S' e=some x
theorem bzv{E1 E2:Ev}(h:Ev.Le E1 E2):∀{c:DCode} {st:St} {ds:List DA} {x:AEx×St×List DA},bcb E1 c st ds=some x→bcb E2 c st ds=some x:=by
 intro c
 induction c with
 | code c=>
  intro st ds x hx;simp only[bcb]at hx ⊢;split at hx
  ·rename_i y st' h1;rw[h.code _ _ _ h1];exact hx
  ·cases hx
 | seq a b iha ihb=>
  intro st ds x hx;simp only[bcb]at hx ⊢;cases h1:bcb E1 a st ds with
  | none=>rw[h1]at hx;cases hx
  | some p=>
   rw[h1]at hx;rw[iha h1];obtain⟨y,s,ds'⟩:=p;cases y with
   | normal=>exact ihb hx
   | _=>exact hx
 | cond o a b iha ihb=>
  intro st ds x hx;simp only[bcb]at hx ⊢;split at hx
  ·rename_i t ht;cases t with
   | true=>exact iha (by simpa using hx)
   | false=>exact ihb (by simpa using hx)
  ·cases hx
 | dfr ops c xs live locs=>
  intro st ds x hx;simp only[bcb]at hx ⊢;cases h1:E1.ops ops st with
  | none=>rw[h1]at hx;cases hx
  | some p=>rw[h1]at hx;rw[h.ops _ _ _ h1];exact hx
theorem crp{E1 E2:Ev}(h:Ev.Le E1 E2){res:List ARes}{kb:Nat}{S:LB}{p:AEx×St}{x:AEnd×LB}(hx:bvv E1 res kb S p=some x):bvv E2 res kb S p=some x:=by
 obtain⟨y,st⟩:=p;cases y with
 | normal=>
  simp only[bvv]at hx ⊢;split at hx
  ·exact h.leave _ _ _ _ _ hx
  ·cases hx
 | ret=>
  simp only[bvv]at hx ⊢;split at hx
  ·exact h.leave _ _ _ _ _ hx
  ·cases hx
 | panic v=>exact h.leave _ _ _ _ _ hx
 | exit id=>cases hx
theorem crh{E1 E2:Ev}(h:Ev.Le E1 E2){hf:HFun}{args:LA}{m:Option AV}{S:LB}{x:AEnd×Bool×LB}(hx:br6 E1 hf args m S=some x):br6 E2 hf args m S=some x:=by
 cases hf with
 | ord fn=>
  simp only[br6]at hx ⊢;split at hx
  ·rename_i hl;rw[if_pos hl];split at hx
   ·rename_i p hp;rw[h.code _ _ _ hp];simp only;split at hx
    ·rename_i e S' he;rw[crp h he];exact hx
    ·cases hx
   ·cases hx
  ·cases hx
 | rcv fn d=>
  simp only[br6]at hx ⊢;split at hx
  ·rename_i hl;rw[if_pos hl];split at hx
   ·rename_i p hp;rw[h.code _ _ _ hp];simp only;split at hx
    ·rename_i e S' he;rw[crp h he];exact hx
    ·cases hx
   ·cases hx
  ·cases hx
theorem b1h{E1 E2:Ev}(h:Ev.Le E1 E2){hs:List (Nat×HFun)}:∀{ds:List DA} {m:Option AV} {S:LB} {x:Option AV×LB},bcd E1 hs ds m S=some x→bcd E2 hs ds m S=some x
 | [],m,S,x,hx=>hx
 | d::ds,m,S,x,hx=>by
  simp only[bcd]at hx ⊢;split at hx
  ·rename_i hf hl;split at hx
   ·rename_i r own rr S' hh;rw[crh h hh];exact b1h h hx
   ·cases hx
  ·cases hx
theorem djp{E1 E2:Ev}(h:Ev.Le E1 E2){fn:DFun}{S:LB}{st:St}{o:Option (Option AV×LB)}{x:AEnd×LB}(hx:bqv E1 fn S st o=some x):bqv E2 fn S st o=some x:=by
 unfold bqv at hx ⊢;split at hx
 ·split at hx
  ·exact h.leave _ _ _ _ _ hx
  ·cases hx
 ·exact h.leave _ _ _ _ _ hx
 ·cases hx
theorem bjd{E1 E2:Ev}(h:Ev.Le E1 E2){fn:DFun}{S:LB}{st:St}{ds:List DA}{m:Option AV}{S2:LB}{x:AEnd×LB}(hx:bqv E1 fn S st (bcd E1 fn.hs ds m S2)=some x) :
  bqv E2 fn S st (bcd E2 fn.hs ds m S2)=some x:=by
 cases hl:bcd E1 fn.hs ds m S2 with
 | none=>rw[hl]at hx;cases hx
 | some p=>rw[hl]at hx;rw[b1h h hl];exact djp h hx
theorem cc1{E1 E2:Ev}(h:Ev.Le E1 E2){fn:DFun}{args:LA}{S:LB}{x:AEnd×LB}(hx:bzp E1 fn args S=some x):bzp E2 fn args S=some x:=by
 unfold bzp at hx ⊢;split at hx
 ·rename_i hl;rw[if_pos hl];cases hc:bcb E1 fn.body (bgc args S) [] with
  | none=>rw[hc]at hx;cases hx
  | some p=>
   rw[hc]at hx;rw[bzv h hc];obtain⟨y,st,ds⟩:=p;cases y with
   | normal=>exact bjd h hx
   | ret=>exact bjd h hx
   | panic v=>
    simp only at hx ⊢;split at hx
    ·rename_i hv;rw[if_pos hv];exact bjd h hx
    ·cases hx
   | exit id=>cases hx
 ·cases hx
def evC(rec:Rec)(k:Nat):Ev:=⟨bb3 rec k,bp2 rec,bv1⟩
theorem evC_le(rec:Rec)(k:Nat):Ev.Le (evC rec k) (evA rec):=⟨fun _ _ _ h=>chp h,fun _ _ _ h=>h,fun _ _ _ _ _ h=>btf h⟩
def dbv(rec:Rec)(k:Nat)(fn:DFun)(args:LA)(S:LB):Option (AEnd×LB):=bzp (evC rec k) fn args S
theorem dbt{rec:Rec}{k:Nat}{fn:DFun}{args:LA}{S:LB}{x:AEnd×LB}(h:dbv rec k fn args S=some x):cdp rec fn args S=some x:=cc1 (evC_le rec k) h
inductive Def where
 | air (fn:AFun)
 | ext (h:LA→LB→Option (AEnd×LB))
 | dfr (fn:DFun)
def btd(T:Nat→Option Def):Nat→Rec
 | 0=>fun _ _ _=>none
 | n+1=>fun f args S=>match T f with
  | some (.air fn)=>cm2 (btd T n) n fn args S
  | some (.ext h)=>h args S
  | some (.dfr fn)=>dbv (btd T n) n fn args S
  | none=>none
theorem btc{P:Program}{W0:World}(hP:P.follows .mixedOrders=true){T:Nat→Option Def}(ha:∀f fn,T f=some (.air fn)→dmj P f fn=true)(he:∀f h,T f=some (.ext h)→bb0 P W0 f h)
  (hd:∀f fn,T f=some (.dfr fn)→c6b P f fn=true):∀n,bbk P W0 (btd T n)
 | 0=>fun f args S e S' h=>by simp[btd]at h
 | n+1=>by
  intro f args S e S' h;simp only[btd]at h;split at h
  ·rename_i fn hT;exact c8t hP (btc hP ha he hd n) (ha f fn hT) args S e S' (dj7 h)
  ·rename_i h' hT;exact he f h' hT args S e S' h
  ·rename_i fn hT;exact czg hP (btc hP ha he hd n) (hd f fn hT) args S e S' (dbt h)
  ·cases h
end Go.Av
namespace Go.Av
open Go
mutual
theorem cr5:∀(a:AV),a.beq a=true
 | .bool a=>by simp[AV.beq]
 | .int k a=>by simp[AV.beq]
 | .str a=>by simp[AV.beq]
 | .agg a=>by simp[AV.beq,bjs a]
 | .tuple a=>by simp[AV.beq,bjs a]
 | .slice n a=>by simp[AV.beq,bjs a]
 | .sptr a=>by simp[AV.beq,bjs a]
 | .nilptr=>by simp[AV.beq]
 | .ptr i o=>by simp[AV.beq]
 | .clos f a b=>by simp[AV.beq,bjs a,bjs b]
 | .nilfn=>by simp[AV.beq]
 | .iface t a=>by simp[AV.beq,cr5 a]
 | .niliface=>by simp[AV.beq]
 | .mapp i=>by simp[AV.beq]
 | .nilmap=>by simp[AV.beq]
theorem bjs:∀(a:LA),cm5 a a=true
 | []=>by simp[cm5]
 | a::as=>by simp[cm5,cr5 a,bjs as]
end
theorem chz(a:Bx):dvv a a=true:=by simp[dvv,bjs]
theorem chx:∀(a:LB),dm1 a a=true
 | []=>rfl
 | a::as=>by simp[dm1,chz,chx as]
theorem b59{r1 r2:Rec}(h:bmm r1 r2):bmm (bk6 r1) (bk6 r2):=by
 intro f as S x hx;unfold bk6 at hx ⊢;split at hx
 ·rename_i r own S' hr;rw[h _ _ _ _ hr];exact hx
 ·cases hx
theorem bk9{r1 r2:Rec}(h:bmm r1 r2){k1 k2:Nat}(hk:k1≤k2):∀{c:ACode} {st:St} {x:AEx×St},bb3 r1 k1 c st=some x→bb3 r2 k2 c st=some x:=by
 intro c
 induction c with
 | skip live locs=>intro st x hx;exact hx
 | region ops bs quiet live locs=>
  intro st x hx;simp only[bb3]at hx ⊢;have hq:bmm (if quiet then bk6 r1 else r1) (if quiet then bk6 r2 else r2):=by
   cases quiet
   ·exact h
   ·exact b59 h
  cases h1:bp2 (if quiet then bk6 r1 else r1) (bkz bs ops) (if bs.isSome then st.prep ops else st) with
  | none=>rw[h1]at hx;cases hx
  | some p=>rw[h1]at hx;rw[b6h hq h1];exact hx
 | seq a b iha ihb=>
  intro st x hx;simp only[bb3]at hx ⊢;cases h1:bb3 r1 k1 a st with
  | none=>rw[h1]at hx;cases hx
  | some p=>
   rw[h1]at hx;rw[iha h1];obtain⟨y,s⟩:=p;cases y with
   | normal=>exact ihb hx
   | _=>exact hx
 | cond o a b iha ihb=>
  intro st x hx;simp only[bb3]at hx ⊢;split at hx
  ·rename_i t ht;cases t with
   | true=>exact iha (by simpa using hx)
   | false=>exact ihb (by simpa using hx)
  ·cases hx
 | block id a iha=>
  intro st x hx;simp only[bb3]at hx ⊢;cases h1:bb3 r1 k1 a st with
  | none=>rw[h1]at hx;cases hx
  | some p=>rw[h1]at hx;rw[iha h1];exact hx
 | loop a iha=>
  intro st x hx;simp only[bb3]at hx ⊢;exact bp3 (bz4 (fun st x hx=>iha hx) hx) k2 hk
 | exit id live locs=>intro st x hx;exact hx
 | ret=>intro st x hx;exact hx
 | freeze d a iha=>
  intro st x hx;simp only[bb3]at hx ⊢;split at hx
  ·exact iha hx
  ·cases hx
 | scope a iha=>intro st x hx;exact iha hx
 | label=>intro st x hx;exact hx
theorem cr2{r1 r2:Rec}(h:bmm r1 r2){k1 k2:Nat}(hk:k1≤k2){fn:AFun}{args:LA}{S:LB}{x:AEnd×LB}(hx:cm2 r1 k1 fn args S=some x):cm2 r2 k2 fn args S=some x:=by
 unfold cm2 at hx ⊢;split at hx
 ·rename_i hl;rw[if_pos hl];cases h1:bb3 r1 k1 fn.body (bgc args S) with
  | none=>rw[h1]at hx;cases hx
  | some p=>rw[h1]at hx;rw[bk9 h hk h1];exact hx
 ·cases hx
theorem cc5{r1 r2:Rec}(h:bmm r1 r2){k1 k2:Nat}(hk:k1≤k2):Ev.Le (evC r1 k1) (evC r2 k2):=⟨fun _ _ _ q=>bk9 h hk q,fun _ _ _ q=>b6h h q,fun _ _ _ _ _ q=>q⟩
variable{T:Nat→Option Def}
theorem b57(n:Nat):bmm (btd T n) (btd T (n+1)):=by
 induction n with
 | zero=>intro f as S x hx;simp[btd]at hx
 | succ n ih=>
  intro f as S x hx;simp only[btd]at hx ⊢;split at hx
  ·rename_i fn hT;exact cr2 ih (Nat.le_succ n) hx
  ·exact hx
  ·exact cc1 (cc5 ih (Nat.le_succ n)) hx
  ·cases hx
theorem bsb{n m:Nat}(h:n≤m):bmm (btd T n) (btd T m):=by
 induction h with
 | refl=>exact bmm.refl _
 | step _ ih=>exact fun f as S x hx=>b57 _ f as S x (ih f as S x hx)
open Classical in
noncomputable def bpr(T:Nat→Option Def):Rec:=fun f args S=>if h:∃n r,btd T n f args S=some r then some h.choose_spec.choose else none
theorem bhg{f:Nat}{args:LA}{S:LB}{r:AEnd×LB}:bpr T f args S=some r↔∃n,btd T n f args S=some r:=by
 unfold bpr;constructor
 ·intro h;split at h
  ·rename_i hx;have:=hx.choose_spec.choose_spec;obtain rfl:=bf h;exact⟨_,this⟩
  ·cases h
 ·rintro⟨n,hn⟩;have hx:∃n r,btd T n f args S=some r:=⟨n,r,hn⟩;rw[dif_pos hx];have h1:=bsb (gc hx.choose n) _ _ _ _ hx.choose_spec.choose_spec;have h2:=bsb (gk hx.choose n) _ _ _ _ hn;rw[h2]at h1;exact h1.symm▸rfl
theorem bs0{P:Program}{W0:World}(h:∀n,bbk P W0 (btd T n)):bbk P W0 (bpr T):=by
 intro f args S e S' hr;obtain⟨n,hn⟩:=bhg.1 hr;exact h n f args S e S' hn
def dcp(R:Rec)(Rc:Nat→Rec):Prop:=(∀n,bmm (Rc n) (Rc (n+1)))∧∀f as S x,R f as S=some x→∃n,Rc n f as S=some x
theorem dcp.le{R:Rec}{Rc:Nat→Rec}(h:dcp R Rc){n m:Nat}(hn:n≤m):bmm (Rc n) (Rc m):=by
 induction hn with
 | refl=>exact bmm.refl _
 | step _ ih=>exact fun f as S x hx=>h.1 _ f as S x (ih f as S x hx)
theorem cfc:dcp (bpr T) (btd T):=⟨b57,fun f as S x h=>bhg.1 h⟩
theorem cj7:dcp (bpr T).quiet (fun n=>bk6 (btd T n)):=by
 refine⟨fun n=>b59 (b57 n),fun f as S x hx=>?_⟩;unfold Rec.quiet at hx;split at hx
 ·rename_i r own S' hr;split at hx
  ·rename_i hS;obtain⟨n,hn⟩:=bhg.1 hr;refine⟨n,?_⟩;show bk6 (btd T n) f as S=some x;unfold bk6;rw[hn];subst hS;simp only[chx,if_true];exact hx
  ·cases hx
 ·cases hx
section
variable{R:Rec}{Rc:Nat→Rec}(h:dcp R Rc)
include h
theorem cpc{st:St}{o:AOp}{x:AEx×St}(hx:aop R st o=some x):∃n,aop (Rc n) st o=some x:=by
 cases o with
 | call d f xs=>
  simp only[aop]at hx ⊢;split at hx
  ·split at hx
   ·rename_i hr;obtain⟨n,hn⟩:=h.2 _ _ _ _ hr;exact⟨n,by rw[hn];exact hx⟩
   ·cases hx
  ·cases hx
 | callv d c xs=>
  simp only[aop]at hx ⊢;split at hx
  ·split at hx
   ·rename_i hr;obtain⟨n,hn⟩:=h.2 _ _ _ _ hr;exact⟨n,by rw[hn];exact hx⟩
   ·cases hx
  ·cases hx
 | _=>exact⟨0,hx⟩
theorem cz7{st:St}{o:AOp}{x:AEx×St}(hx:brd R st o=some x):∃n,brd (Rc n) st o=some x:=by
 cases o with
 | call d f xs=>
  simp only[brd]at hx ⊢;split at hx
  ·split at hx
   ·rename_i hc;split at hx
    ·rename_i hr;obtain⟨n,hn⟩:=h.2 _ _ _ _ hr;exact⟨n,by rw[if_pos hc,hn];exact hx⟩
    ·cases hx
   ·cases hx
  ·cases hx
 | _=>cases hx
theorem dkg{st:St}{blk:Option Nat}{o:AOp}{x:AEx×St}(hx:b70 R st blk o=some x):∃n,b70 (Rc n) st blk o=some x:=by
 unfold b70 at hx ⊢;split at hx
 ·rename_i hc;simp only[if_pos hc];split at hx
  ·rename_i hb;simp only[if_pos hb];exact cz7 h hx
  ·rename_i hb;simp only[if_neg hb];split at hx
   ·rename_i hb2;simp only[if_pos hb2];cases ha:aop R st o with
    | none=>rw[ha]at hx;cases hx
    | some p=>
     rw[ha]at hx;obtain⟨n,hn⟩:=cpc h ha;exact⟨n,by rw[hn];exact hx⟩
   ·rename_i hb2;simp only[if_neg hb2];exact cpc h hx
 ·rename_i hc;simp only[if_neg hc];exact cpc h hx
theorem dcg{st:St}{o:AOper}{x:AEx×St}(hx:bdb R st o=some x):∃n,bdb (Rc n) st o=some x:=by
 have hb:∀{x:AEx×St},b27 R st o=some x→∃n,b27 (Rc n) st o=some x:=by
  intro x hx;unfold b27 at hx ⊢;split at hx
  ·rename_i hb;simp only[if_pos hb];exact dkg h hx
  ·cases hx
 unfold bdb at hx ⊢;split at hx
 ·exact hb hx
 ·split at hx
  ·split at hx
   ·rename_i hw;simp only[if_pos hw];exact hb hx
   ·rename_i hw;simp only[if_neg hw];exact⟨0,hx⟩
  ·exact⟨0,hx⟩
  ·cases hx
theorem b36:∀{ops:List AOper} {st:St} {x:AEx×St},bp2 R ops st=some x→∃n,bp2 (Rc n) ops st=some x
 | [],st,x,hx=>⟨0,hx⟩
 | o::ops,st,x,hx=>by
  simp only[bp2]at hx;cases h1:bdb R st o with
  | none=>rw[h1]at hx;cases hx
  | some p=>
   rw[h1]at hx;obtain⟨n,hn⟩:=dcg h h1;obtain⟨y,s⟩:=p;cases y with
   | normal=>
    obtain⟨m,hm⟩:=b36 hx;refine⟨max n m,?_⟩;simp only[bp2];rw[cr8 (h.le (gc n m)) hn];exact b6h (h.le (gk n m)) hm
   | _=>exact⟨n,by simp only[bp2];rw[hn];exact hx⟩
end
theorem ch8:∀{c:ACode} {st:St} {x:AEx×St},xf (bpr T) c st=some x→∃n,bb3 (btd T n) n c st=some x:=by
 intro c
 induction c with
 | skip live locs=>intro st x hx;exact⟨0,hx⟩
 | region ops bs quiet live locs=>
  intro st x hx;simp only[xf]at hx;cases h1:bp2 (if quiet then(bpr T).quiet else bpr T) (bkz bs ops) (if bs.isSome then st.prep ops else st) with
  | none=>rw[h1]at hx;cases hx
  | some p=>
   rw[h1]at hx;have:∃n,bp2 (if quiet then bk6 (btd T n) else btd T n) (bkz bs ops) (if bs.isSome then st.prep ops else st)=some p:=by
    cases quiet
    ·exact b36 cfc h1
    ·exact b36 cj7 h1
   obtain⟨n,hn⟩:=this;exact⟨n,by simp only[bb3];rw[hn];exact hx⟩
 | seq a b iha ihb=>
  intro st x hx;simp only[xf]at hx;cases h1:xf (bpr T) a st with
  | none=>rw[h1]at hx;cases hx
  | some p=>
   rw[h1]at hx;obtain⟨n,hn⟩:=iha h1;obtain⟨y,s⟩:=p;cases y with
   | normal=>
    obtain⟨m,hm⟩:=ihb hx;refine⟨max n m,?_⟩;simp only[bb3];rw[bk9 (bsb (gc n m)) (gc n m) hn];exact bk9 (bsb (gk n m)) (gk n m) hm
   | _=>exact⟨n,by simp only[bb3];rw[hn];exact hx⟩
 | cond o a b iha ihb=>
  intro st x hx;simp only[xf]at hx;split at hx
  ·rename_i t ht;cases t with
   | true=>
    obtain⟨n,hn⟩:=iha (by simpa using hx);exact⟨n,by simp only[bb3,ht];simpa using hn⟩
   | false=>
    obtain⟨n,hn⟩:=ihb (by simpa using hx);exact⟨n,by simp only[bb3,ht];simpa using hn⟩
  ·cases hx
 | block id a iha=>
  intro st x hx;simp only[xf]at hx;cases h1:xf (bpr T) a st with
  | none=>rw[h1]at hx;cases hx
  | some p=>
   rw[h1]at hx;obtain⟨n,hn⟩:=iha h1;exact⟨n,by simp only[bb3];rw[hn];exact hx⟩
 | loop a iha=>
  intro st x hx;simp only[xf]at hx;obtain⟨m,hm⟩:=bfm.1 hx;have key:∀(m:Nat) {st:St} {x:AEx×St},bjx (xf (bpr T) a) m st=some x→∃n,bjx (bb3 (btd T n) n a) m st=some x:=by
   intro m
   induction m with
   | zero=>intro st x hx;simp[bjx]at hx
   | succ m ih=>
    intro st x hx;simp only[bjx]at hx;cases h1:xf (bpr T) a st with
    | none=>rw[h1]at hx;cases hx
    | some p=>
     rw[h1]at hx;obtain⟨n,hn⟩:=iha h1;obtain⟨y,s⟩:=p;cases y with
     | normal=>
      obtain⟨n2,hn2⟩:=ih hx;refine⟨max n n2,?_⟩;simp only[bjx];rw[bk9 (bsb (gc n n2)) (gc n n2) hn];exact bz4 (fun st x hx=>bk9 (bsb (gk n n2)) (gk n n2) hx) hn2
     | _=>exact⟨n,by simp only[bjx];rw[hn];exact hx⟩
  obtain⟨n,hn⟩:=key m hm;refine⟨max n m,?_⟩;simp only[bb3];exact bp3 (bz4 (fun st x hx=>bk9 (bsb (gc n m)) (gc n m) hx) hn) _ (gk n m)
 | exit id live locs=>intro st x hx;exact⟨0,hx⟩
 | ret=>intro st x hx;exact⟨0,hx⟩
 | freeze d a iha=>
  intro st x hx;simp only[xf]at hx;split at hx
  ·rename_i s hs;obtain⟨n,hn⟩:=iha hx;exact⟨n,by simp only[bb3,hs];exact hn⟩
  ·cases hx
 | scope a iha=>intro st x hx;exact iha hx
 | label=>intro st x hx;exact⟨0,hx⟩
theorem btg{kb:Nat}{S S':LB}{e:AEnd}{x:AEnd×LB}(h:xr kb S S' e=some x):bv1 kb S S' e=some x:=by
 unfold xr at h;unfold bv1;by_cases hl:S'.length≤S.length+kb
 ·rw[if_pos hl]at h ⊢;exact h
 ·rw[if_neg hl]at h ⊢;by_cases hc:bq4 S S' (S.length+kb)∧e.closed (S.length+kb)=true
  ·rw[if_pos hc]at h;have:chg S S' (S.length+kb)=true:=by
    simp only[chg,cq,jr];intro i hi;cases hx:S'[i]? with
    | none=>rfl
    | some x=>
     have:=hc.1 i x hi hx;cases hy:S[i]? with
     | none=>
      rcases this with h1 | h1
      ·rw[hy]at h1;cases h1
      ·exact h1
     | some y=>
      simp only[d8];rcases this with h1 | h1
      ·rw[hy]at h1;obtain rfl:=bf h1;exact .inl (chz _)
      ·exact .inr h1
   rw[this,hc.2];exact h
  ·rw[if_neg hc]at h;cases h
theorem b3v{f:Nat}{fn:AFun}(hT:T f=some (.air fn)){args:LA}{S:LB}{r:AEnd×LB}(h:b9v (bpr T) fn args S=some r):bpr T f args S=some r:=by
 unfold b9v at h;split at h
 ·rename_i hl;cases hc:xf (bpr T) fn.body (bgc args S) with
  | none=>rw[hc]at h;cases h
  | some p=>
   rw[hc]at h;obtain⟨n,hn⟩:=ch8 hc;refine bhg.2 ⟨n+1,?_⟩;simp only[btd,hT,cm2,if_pos hl,hn];obtain⟨y,s⟩:=p;cases y with
   | normal=>
    simp only at h ⊢;split at h
    ·rename_i hr;rw[hr];exact btg h
    ·cases h
   | ret=>
    simp only at h ⊢;split at h
    ·rename_i hr;rw[hr];exact btg h
    ·cases h
   | panic v=>exact btg h
   | exit id=>cases h
 ·cases h
def evN(T:Nat→Option Def)(n:Nat):Ev:=evC (btd T n) n
theorem b9f{n m:Nat}(h:n≤m):Ev.Le (evN T n) (evN T m):=cc5 (bsb h) h
theorem ds5{c:ACode}{st:St}{x:AEx×St}(h:(evA (bpr T)).code c st=some x):∃n,(evN T n).code c st=some x:=ch8 h
theorem opsN{o:List AOper}{st:St}{x:AEx×St}(h:(evA (bpr T)).ops o st=some x):∃n,(evN T n).ops o st=some x:=b36 cfc h
theorem cgv{k:Nat}{S S':LB}{e:AEnd}{x:AEnd×LB}(h:(evA (bpr T)).leave k S S' e=some x)(n:Nat):(evN T n).leave k S S' e=some x:=btg h
theorem dcodeN:∀{c:DCode} {st:St} {ds:List DA} {x:AEx×St×List DA},bcb (evA (bpr T)) c st ds=some x→∃n,bcb (evN T n) c st ds=some x:=by
 intro c
 induction c with
 | code c=>
  intro st ds x hx;simp only[bcb]at hx;split at hx
  ·rename_i y st' h1;obtain⟨n,hn⟩:=ds5 h1;exact⟨n,by simp only[bcb];rw[hn];exact hx⟩
  ·cases hx
 | seq a b iha ihb=>
  intro st ds x hx;simp only[bcb]at hx;cases h1:bcb (evA (bpr T)) a st ds with
  | none=>rw[h1]at hx;cases hx
  | some p=>
   rw[h1]at hx;obtain⟨n,hn⟩:=iha h1;obtain⟨y,s,ds'⟩:=p;cases y with
   | normal=>
    obtain⟨m,hm⟩:=ihb hx;refine⟨max n m,?_⟩;simp only[bcb];rw[bzv (b9f (gc n m)) hn];exact bzv (b9f (gk n m)) hm
   | _=>exact⟨n,by simp only[bcb];rw[hn];exact hx⟩
 | cond o a b iha ihb=>
  intro st ds x hx;simp only[bcb]at hx;split at hx
  ·rename_i t ht;cases t with
   | true=>
    obtain⟨n,hn⟩:=iha (by simpa using hx);exact⟨n,by simp only[bcb,ht];simpa using hn⟩
   | false=>
    obtain⟨n,hn⟩:=ihb (by simpa using hx);exact⟨n,by simp only[bcb,ht];simpa using hn⟩
  ·cases hx
 | dfr ops c xs live locs=>
  intro st ds x hx;simp only[bcb]at hx;cases h1:(evA (bpr T)).ops ops st with
  | none=>rw[h1]at hx;cases hx
  | some p=>
   rw[h1]at hx;obtain⟨n,hn⟩:=opsN h1;exact⟨n,by simp only[bcb];rw[hn];exact hx⟩
theorem fendN{res:List ARes}{kb:Nat}{S:LB}{p:AEx×St}{x:AEnd×LB}(hx:bvv (evA (bpr T)) res kb S p=some x)(n:Nat):bvv (evN T n) res kb S p=some x:=by
 obtain⟨y,st⟩:=p;cases y with
 | normal=>
  simp only[bvv]at hx ⊢;split at hx
  ·exact cgv hx n
  ·cases hx
 | ret=>
  simp only[bvv]at hx ⊢;split at hx
  ·exact cgv hx n
  ·cases hx
 | panic v=>exact cgv hx n
 | exit id=>cases hx
theorem handN{hf:HFun}{args:LA}{m:Option AV}{S:LB}{x:AEnd×Bool×LB}(hx:br6 (evA (bpr T)) hf args m S=some x):∃n,br6 (evN T n) hf args m S=some x:=by
 cases hf with
 | ord fn=>
  simp only[br6]at hx;split at hx
  ·rename_i hl;split at hx
   ·rename_i p hp;split at hx
    ·rename_i e S' he;obtain⟨n,hn⟩:=ds5 hp;exact⟨n,by simp only[br6];rw[if_pos hl,hn];simp only;rw[fendN he n];exact hx⟩
    ·cases hx
   ·cases hx
  ·cases hx
 | rcv fn d=>
  simp only[br6]at hx;split at hx
  ·rename_i hl;split at hx
   ·rename_i p hp;split at hx
    ·rename_i e S' he;obtain⟨n,hn⟩:=ds5 hp;exact⟨n,by simp only[br6];rw[if_pos hl,hn];simp only;rw[fendN he n];exact hx⟩
    ·cases hx
   ·cases hx
  ·cases hx
theorem c6r{hs:List (Nat×HFun)}:∀{ds:List DA} {m:Option AV} {S:LB} {x:Option AV×LB},bcd (evA (bpr T)) hs ds m S=some x→∃n,bcd (evN T n) hs ds m S=some x
 | [],m,S,x,hx=>⟨0,hx⟩
 | d::ds,m,S,x,hx=>by
  simp only[bcd]at hx;split at hx
  ·rename_i hf hl;split at hx
   ·rename_i r own rr S' hh;obtain⟨n,hn⟩:=handN hh;obtain⟨k,hk⟩:=c6r hx;refine⟨max n k,?_⟩;simp only[bcd,hl];rw[crh (b9f (gc n k)) hn];exact b1h (b9f (gk n k)) hk
   ·cases hx
  ·cases hx
theorem dendN{fn:DFun}{S:LB}{st:St}{ds:List DA}{m:Option AV}{S2:LB}{x:AEnd×LB}(hx:bqv (evA (bpr T)) fn S st (bcd (evA (bpr T)) fn.hs ds m S2)=some x) :
  ∃n,bqv (evN T n) fn S st (bcd (evN T n) fn.hs ds m S2)=some x:=by
 cases hl:bcd (evA (bpr T)) fn.hs ds m S2 with
 | none=>rw[hl]at hx;cases hx
 | some p=>
  rw[hl]at hx;obtain⟨n,hn⟩:=c6r hl;refine⟨n,?_⟩;rw[hn];unfold bqv at hx ⊢;split at hx
  ·split at hx
   ·exact cgv hx n
   ·cases hx
  ·exact cgv hx n
  ·cases hx
theorem df0{f:Nat}{fn:DFun}(hT:T f=some (.dfr fn)){args:LA}{S:LB}{r:AEnd×LB}(h:cdp (bpr T) fn args S=some r):bpr T f args S=some r:=by
 have key:∃n,bzp (evN T n) fn args S=some r:=by
  unfold cdp bzp at h;split at h
  ·rename_i hl;cases hc:bcb (evA (bpr T)) fn.body (bgc args S) [] with
   | none=>rw[hc]at h;cases h
   | some p=>
    rw[hc]at h;obtain⟨n,hn⟩:=dcodeN hc;obtain⟨y,st,ds⟩:=p;have go:∀{m:Option AV},bqv (evA (bpr T)) fn S st (bcd (evA (bpr T)) fn.hs ds m st.S)=some r→∃k,bcb (evN T k) fn.body (bgc args S) []=some (y,st,ds)∧bqv (evN T k) fn S st (bcd (evN T k) fn.hs ds m st.S)=some r:=by
     intro m hh;obtain⟨k,hk⟩:=dendN hh;exact⟨max n k,bzv (b9f (gc n k)) hn,bjd (b9f (gk n k)) hk⟩
    cases y with
    | normal=>obtain⟨k,h1,h2⟩:=go h;exact⟨k,by unfold bzp;rw[if_pos hl,h1];exact h2⟩
    | ret=>obtain⟨k,h1,h2⟩:=go h;exact⟨k,by unfold bzp;rw[if_pos hl,h1];exact h2⟩
    | panic v=>
     simp only at h;split at h
     ·rename_i hv;obtain⟨k,h1,h2⟩:=go h;exact⟨k,by unfold bzp;rw[if_pos hl,h1];simp only;rw[if_pos hv];exact h2⟩
     ·cases h
    | exit id=>cases h
  ·cases h
 obtain⟨n,hn⟩:=key;exact bhg.2 ⟨n+1,by simp only[btd,hT,dbv];exact hn⟩
theorem b58{T T2:Nat→Option Def}(h:∀f d,T f=some d→T2 f=some d):∀n,bmm (btd T n) (btd T2 n)
 | 0=>fun f args S x h=>by cases h
 | n+1=>fun f args S x hx=>by
  simp only[btd]at hx ⊢;split at hx
  ·rename_i fn hf;rw[h f _ hf];exact cr2 (b58 h n) (cj _) hx
  ·rename_i hh hf;rw[h f _ hf];exact hx
  ·rename_i fn hf;rw[h f _ hf];exact cc1 (cc5 (b58 h n) (cj _)) hx
  ·cases hx
theorem cqp{T T2:Nat→Option Def}(h:∀f d,T f=some d→T2 f=some d):bmm (bpr T) (bpr T2):=by
 intro f args S x hx;obtain⟨n,hn⟩:=bhg.1 hx;exact bhg.2 ⟨n,b58 h n _ _ _ _ hn⟩
theorem bqh{f:Nat}{hh:LA→LB→Option (AEnd×LB)}(hT:T f=some (.ext hh)){args:LA}{S:LB}{r:AEnd×LB}(h:hh args S=some r):bpr T f args S=some r:=
 bhg.2 ⟨1,by simp only[btd,hT];exact h⟩
theorem bxv{f n:Nat}{args:LA}{S:LB}{r:AEnd×LB}(h:btd T n f args S=some r):bpr T f args S=some r:=bhg.2 ⟨n,h⟩
end Go.Av
namespace Go.Av
open Go
def bhj(P:Program)(t:TypeId)(cells:LA)(off:Nat):AV:=
 if b0g P t=some true then .agg ((cells.drop off).take (P.cellsOf t)) else cells.getD off .niliface
inductive HasTy(P:Program):TypeId→AV→Prop where
 | bool {t:TypeId} (b:Bool) (h:P.underlying t=some .bool):HasTy P t (.bool b)
 | int {t:TypeId} (k:IntKind) (n:Int) (h:P.underlying t=some (.int k)) (hw:(Lit.int k n).wf=true):HasTy P t (.int k n)
 | str {t:TypeId} (s:ByteArray) (h:P.underlying t=some .string) (hs:s.size≤maxLen):HasTy P t (.str s)
 | slice {t e:TypeId} (es:LA) (h:P.underlying t=some (.slice e)) (hl:es.length≤maxLen) (he:∀a∈es,HasTy P e a):HasTy P t (.slice (P.cellsOf e) es)
 | struct {t:TypeId} {fs:Array Field} (cs:LA) (h:P.underlying t=some (.struct fs)) (hl:cs.length=P.cellsOf t) (hf:∀f∈fs.toList,HasTy P f.type (bhj P f.type cs f.offset)):HasTy P t (.agg cs)
 | array {t e:TypeId} {n:Nat} (cs:LA) (h:P.underlying t=some (.array n e)) (hl:cs.length=P.cellsOf t) (hf:∀i,i<n→HasTy P e (bhj P e cs (i*P.cellsOf e))):HasTy P t (.agg cs)
def cbm(P:Program):List (TypeId×Nat)→Nat→Nat→Bool
 | [],o,n=>o==n
 | (t,off)::r,o,n=>off==o&&cbm P r (o+P.cellsOf t) n
def bgm(P:Program)(T:List TypeId)(t:TypeId):Bool:=
 match P.underlying t with
 | some .bool=>P.cellsOf t==1
 | some (.int _)=>P.cellsOf t==1
 | some .string=>P.cellsOf t==1
 | some (.slice e)=>P.cellsOf t==1&&T.contains e&&decide (0<P.cellsOf e)
 | some (.struct fs)=>fs.toList.all (fun f=>T.contains f.type)&&cbm P (fs.toList.map fun f=>(f.type,f.offset)) 0 (P.cellsOf t)
 | some (.array n e)=>T.contains e&&cbm P ((List.range n).map fun i=>(e,i*P.cellsOf e)) 0 (P.cellsOf t)
 | _=>false
def gOf(W:World):Gh:={T:=fun b=>match W.heap[b]? with | some (.cells cs _ _)=>cs.size | _=>0,B:=[],O:=fun b=>if b<W.heap.size then .ext else .free}
theorem crk(W:World):Base W (gOf W) W:=⟨cj _,rfl,rfl,rfl,fun b hb=>⟨by simp[gOf,hb],rfl⟩⟩
theorem dh5(W:World):SInv (gOf W) W []:=⟨rfl,fun i x hx=>by simp at hx,fun b hb=>by
 have h1:W.heap[b]? = none:=jq hb;have h2:¬ b<W.heap.size:=by omega
 simp[gOf,h1,h2]⟩
theorem b35(W:World):∀b,((gOf W).O b).calm:=by
 intro b;simp only[gOf];split<;>trivial
section
variable{H:Type}{enc:TypeId×Value→H}{P:Program}{W:World}{base:Nat}{spare:Nat→Bool}{held:Bool}{T:List TypeId}
def cdb:TypeDesc→Bool
 | .struct _=>true
 | .array _ _=>true
 | _=>false
theorem cbk{t:TypeId}{d:TypeDesc}(h:P.underlying t=some d):b0g P t=some (cdb d):=by
 unfold b0g;rw[h];cases d<;>rfl
theorem c4j{t:TypeId}{d:TypeDesc}(h:P.underlying t=some d)(hd:cdb d=false)(cells:LA)(off:Nat):bhj P t cells off=cells.getD off .niliface:=by
 simp[bhj,cbk h,hd]
theorem cqs{t:TypeId}{d:TypeDesc}(h:P.underlying t=some d)(hd:cdb d=true)(cells:LA)(off:Nat):bhj P t cells off=.agg ((cells.drop off).take (P.cellsOf t)):=by
 simp[bhj,cbk h,hd]
theorem cell_T{b o:Nat}{v:Value}(h:W.cell? ⟨b,o,none⟩=some v):o<(gOf W).T b:=by
 unfold World.cell? at h;simp only at h;simp only[gOf];split at h
 ·rename_i c e f hb;rw[hb];simp only[ss,ck,if_false]at h;exact(db.1 h).1
 ·cases h
theorem chj{a:Addr}{n:Nat}{cs:List Value}(h:W.cells? base a n=some cs)(hn:0<n):a.spot=none∧cs.length=n∧mem W a.block a.off cs:=by
 unfold World.cells? at h;split at h
 ·have hlen:=mapM_some_length h;simp at hlen;have hg:∀i,i<n→W.cell? (a.add i)=cs[i]?:=fun i hi=>mapM_some_get h i i (by simp[hi])
  have h0:=hg 0 hn;have hs:a.spot=none:=by
   have hc:cs[0]? = some cs[0]:=by simp
   rw[hc]at h0;have ha:a.add 0=a:=by simp[Addr.add]
   rw[ha]at h0;unfold World.cell? at h0;split at h0
   ·cases hs:a.spot with
    | none=>rfl
    | some x=>rw[hs]at h0;simp at h0
   ·cases h0
  refine⟨hs,hlen,fun j v hj=>?_⟩;have hjn:j<n:=by
   have:=(cf.1 hj).1;omega
  have:=hg j hjn;rw[hj]at this;have e:a.add j=⟨a.block,a.off+j,none⟩:=by
   unfold Addr.add;split
   ·rename_i h0;subst h0;cases a;simp at hs;simp[hs]
   ·rfl
  rwa [e]at this
 ·cases h
theorem mem_T{b o:Nat}{ms:List Value}(h:mem W b o ms)(hn:0<ms.length):o+ms.length≤(gOf W).T b:=by
 have hj:ms[ms.length - 1]? = some (ms[ms.length - 1]'(by omega)):=by rw[cz]
 have:=cell_T (h _ _ hj);omega
structure Reads(P:Program)(W:World)(t:TypeId)(cs:List Value):Prop where
 len:cs.length=P.cellsOf t
 one:b0g P t=some false→P.cellsOf t=1
 ag:(b0g P t).isSome=true
 ex:∃cells,RL (gOf W) W cells cs∧HasTy P t (bhj P t cells 0)∧cells.length=P.cellsOf t
theorem Reads.val{t:TypeId}{cs:List Value}(hr:Reads P W t cs):∃a,HasTy P t a∧a.isDat=true∧R (gOf W) W a cs∧a.isAgg=(b0g P t==some true):=by
 obtain⟨hl,h1,hag,cells,hR,hT,hn⟩:=hr;cases hq:b0g P t with
 | none=>rw[hq]at hag;cases hag
 | some b=>
  cases b with
  | true=>
   have e:bhj P t cells 0=.agg cells:=by simp only[bhj,if_pos hq,dj];rw[dm (by omega)]
   rw[e]at hT;exact⟨_,hT,rfl,by simpa[R] using hR,rfl⟩
  | false=>
   have h1':=h1 hq;rw[h1']at hn
   match cells,hn,hR,hT with
   | [c],_,hR,hT=>
    simp only[RL]at hR;obtain⟨v,r,rfl,⟨hc,hv⟩,rfl⟩:=hR;have e:bhj P t [c] 0=c:=by simp[bhj,hq]
    rw[e]at hT;exact⟨c,hT,bqp hc,hv,by rw[bqq hc];rfl⟩
theorem ccd{cs:List Value}:∀(l:List (TypeId×Nat)) (o:Nat),cbm P l o cs.length=true→(∀p∈l,Reads P W p.1 ((cs.drop p.2).take (P.cellsOf p.1))) →
  ∃cells,RL (gOf W) W cells (cs.drop o)∧∀p∈l,o≤p.2∧HasTy P p.1 (bhj P p.1 cells (p.2 - o))
 | [],o,ht,_=>by
  simp only[cbm,beq_iff_eq]at ht;subst ht;exact⟨[],by simp[RL],fun p hp=>by cases hp⟩
 | (t,off)::r,o,ht,hr=>by
  simp only[cbm,bp,beq_iff_eq]at ht;obtain⟨rfl,ht⟩:=ht;obtain⟨cells2,h2,h3⟩:=ccd r _ ht (fun p hp=>hr p (.tail _ hp));obtain⟨hl,h1,hag,cells1,h4,h5,h6⟩:=hr (t,off) (.head _);simp only at hl h1 hag h4 h5 h6;refine⟨cells1++cells2,?_,fun p hp=>?_⟩
  ·have e:cs.drop off=(cs.drop off).take (P.cellsOf t)++cs.drop (off+P.cellsOf t):=by
    rw[← fz,List.take_append_drop]
   rw[e];exact b3d h4 h2
  ·cases hp with
   | head=>
    refine⟨cj _,?_⟩;simp only[Nat.sub_self];have:bhj P t (cells1++cells2) 0=bhj P t cells1 0:=by
     by_cases hq:b0g P t=some true
     ·simp only[bhj,if_pos hq,dj];rw[kg (by omega)]
     ·have hq':b0g P t=some false:=by
       cases hx:b0g P t with
       | none=>rw[hx]at hag;cases hag
       | some b=>cases b<;>simp_all
      have:=h1 hq';have hlt:0<cells1.length:=by omega
      simp[bhj,hq',dk hlt]
    rw[this];exact h5
   | tail _ hp=>
    obtain⟨h7,h8⟩:=h3 p hp;refine⟨by omega,?_⟩;have:bhj P p.1 (cells1++cells2) (p.2 - off)=bhj P p.1 cells2 (p.2 - (off+P.cellsOf t)):=by
     have e:p.2 - off=cells1.length+(p.2 - (off+P.cellsOf t)):=by omega
     simp only[bhj,e,List.drop_append,fj (t9 _ _),gj,vd];simp[d9]
    rw[this];exact h8
theorem mem_append{b o:Nat}{ms ns:List Value}(h:mem W b o ms)(k:mem W b (o+ms.length) ns):mem W b o (ms++ns):=by
 intro j v hj;rw[rj]at hj;split at hj
 ·exact h j v hj
 ·rename_i hlt;have:=k _ v hj
  rwa [show o+ms.length+(j - ms.length)=o+j by omega]at this
theorem dth(a:Addr)(hs:a.spot=none)(k:Nat):a.add k=⟨a.block,a.off+k,none⟩:=by
 unfold Addr.add;split
 ·rename_i h0;subst h0;cases a;simp at hs;simp[hs]
 ·rfl
theorem crv{a:Addr}{e:TypeId}(hz:0<P.cellsOf e):∀(k:Nat),(∀i,i<k→∃cs,W.cells? base (a.add (i*P.cellsOf e)) (P.cellsOf e)=some cs∧Reads P W e cs) →
  ∃es ms,es.length=k∧RE (gOf W) W (P.cellsOf e) es ms∧mem W a.block a.off ms∧(∀x∈es,HasTy P e x)∧(0<k→a.spot=none)
 | 0,_=>⟨[],[],rfl,by simp[RE],fun j v hj=>by simp at hj,fun x hx=>(by cases hx),fun h=>by omega⟩
 | k+1,h=>by
  obtain⟨es,ms,h1,h2,h3,h4,h5⟩:=crv hz k (fun i hi=>h i (by omega));obtain⟨cs,hc,hr⟩:=h k (by omega);have hs:a.spot=none:=by
   obtain⟨cs0,hc0,_⟩:=h 0 (by omega);have:=(chj hc0 hz).1;simpa[Addr.add] using this
  obtain⟨_,hl,hm⟩:=chj hc hz;obtain⟨x,hx,hd,hR,_⟩:=hr.val;have hml:=bd3 h2;refine⟨es++[x],ms++cs,by simp[h1],csj h2 ?_,mem_append h3 ?_,fun y hy=>?_,fun _=>hs⟩
  ·simp only[RE];exact⟨cs,[],by simp,hl,⟨hd,hR⟩,rfl⟩
  ·rw[dth a hs]at hm;simp only at hm;rw[hml,h1];exact hm
  ·simp only[d7,ff]at hy;rcases hy with hy | rfl
   ·exact h4 y hy
   ·exact hx
theorem cs9(hT:∀t∈T,bgm P T t=true):∀(fuel:Nat) (t:TypeId) (cs:List Value) (x:DataW H×List MemPlace),t∈T→DataW.trod enc P W base spare held fuel t cs=some x→Reads P W t cs:=by
 intro fuel
 induction fuel with
 | zero=>intro t cs x _ h;simp[DataW.trod]at h
 | succ fuel ih=>
  intro t cs x ht h;have hp:=hT t ht;unfold bgm at hp;cases hu:P.underlying t with
  | none=>rw[hu]at hp;cases hp
  | some d=>
   rw[hu]at hp;have hag:=cbk hu;have single:∀{v:Value} {c:AV},cdb d=false→P.cellsOf t=1→cs=[v]→c.isCell=true→R (gOf W) W c [v]→HasTy P t c→Reads P W t cs:=by
    rintro v c hd h1 rfl hc hR hTy;refine⟨by simp[h1],fun _=>h1,by rw[hag];rfl,[c],by simp only[RL];exact⟨v,[],rfl,⟨hc,hR⟩,rfl⟩,?_,by simp[h1]⟩;rw[c4j hu hd];exact hTy
   cases d with
   | bool=>
    obtain⟨b,rfl,_⟩:=DataW.trod_bool hu h;exact single (c:=.bool b) rfl (by simpa using hp) rfl rfl (by simp[R]) (.bool b hu)
   | int k=>
    obtain⟨n,rfl,_,hw⟩:=DataW.trod_int hu h;exact single (c:=.int k n) rfl (by simpa using hp) rfl rfl (by simp[R]) (.int k n hu hw)
   | string=>
    obtain⟨s,rfl,_,hs⟩:=DataW.trod_string hu h;exact single (c:=.str s) rfl (by simpa using hp) rfl rfl (by simp[R]) (.str s hu hs)
   | slice e=>
    simp only[bp,beq_iff_eq,decide_eq_true_eq,fc]at hp;obtain⟨⟨h1,heT⟩,hz⟩:=hp;rcases DataW.trod_slice hu h with⟨rfl,_⟩ | ⟨a,len,cap,elems,rest,n,hn,rfl,_,_,hlc,hcap,hel,hread,_⟩
    ·exact single (c:=.slice (P.cellsOf e) []) rfl h1 rfl rfl (by simp only[R];exact⟨none,0,rfl,cj _,.inl trivial⟩) (.slice [] hu (by simp) (fun a ha=>by cases ha))
    ·obtain rfl:fuel=n:=by omega
     obtain⟨es,ms,q1,q2,q3,q4,q5⟩:=crv (base:=base) (a:=a) hz len (fun i hi=>by
      have:=hread i hi;have hi':elems[i]? = some (elems[i]'(by omega)):=by rw[cz]
      rw[hi']at this;cases hc:W.cells? base (a.add (i*P.cellsOf e)) (P.cellsOf e) with
      | none=>rw[hc]at this;cases this
      | some cs=>rw[hc]at this;exact⟨cs,rfl,ih e cs _ heT this⟩)
     have hml:=bd3 q2;refine single (c:=.slice (P.cellsOf e) es) rfl h1 rfl rfl ?_ (.slice es hu (by omega) q4);simp only[R];refine⟨some a,cap,by rw[q1],by omega,?_⟩;rcases tc len with h0 | h0
     ·left;exact ft (by omega)
     ·right;have hs:=q5 h0;refine⟨a.block,a.off,ms,by cases a;simp at hs;simp[hs],q3,mem_T q3 ?_,q2⟩;rw[hml,q1];exact Nat.mul_pos h0 hz
   | struct fs=>
    simp only[bp,cq,fc,decide_eq_true_eq]at hp;obtain⟨hfT,htile⟩:=hp;obtain⟨xs,n,hn,_,hl,hxl,hread⟩:=DataW.trod_struct hu h;obtain rfl:fuel=n:=by omega
    obtain⟨cells,h1,h2⟩:=ccd (P:=P) (W:=W) (cs:=cs) _ 0 (by rw[hl];exact htile) (fun p hp=>by
     simp only[mg]at hp;obtain⟨f,hf,rfl⟩:=hp;obtain⟨i,hi⟩:=List.getElem?_of_mem hf;have hi':fs[i]? = some f:=by simpa using hi
     have hlt:i<fs.size:=(db.1 hi').1;have:=hread i f hi';have hx:xs[i]? = some (xs[i]'(by omega)):=by rw[cz]
     rw[hx]at this;exact ih f.type _ _ (hfT f hf) this)
    simp only[dj]at h1;have hcl:=bbv h1;refine⟨hl,fun hq=>(by rw[hag]at hq;cases hq),by rw[hag];rfl,cells,h1,?_,by omega⟩;rw[cqs hu rfl,dj,dm (by omega)];refine .struct cells hu (by omega) fun f hf=>?_
    have:=h2 (f.type,f.offset) (mg.2 ⟨f,hf,rfl⟩);simpa using this.2
   | array n e=>
    simp only[bp,fc,decide_eq_true_eq]at hp;obtain⟨heT,htile⟩:=hp;obtain⟨xs,m,hm,_,hl,hxl,hread⟩:=DataW.trod_array hu h;obtain rfl:fuel=m:=by omega
    obtain⟨cells,h1,h2⟩:=ccd (P:=P) (W:=W) (cs:=cs) _ 0 (by rw[hl];exact htile) (fun p hp=>by
     simp only[mg,jr]at hp;obtain⟨i,hi,rfl⟩:=hp;have:=hread i hi;have hx:xs[i]? = some (xs[i]'(by omega)):=by rw[cz]
     rw[hx]at this;exact ih e _ _ heT this)
    simp only[dj]at h1;have hcl:=bbv h1;refine⟨hl,fun hq=>(by rw[hag]at hq;cases hq),by rw[hag];rfl,cells,h1,?_,by omega⟩;rw[cqs hu rfl,dj,dm (by omega)];refine .array cells hu (by omega) fun i hi=>?_
    have:=h2 (e,i*P.cellsOf e) (mg.2 ⟨i,jr.2 hi,rfl⟩);simpa using this.2
   | _=>cases hp
theorem dd3(hT:∀t∈T,bgm P T t=true){t:TypeId}(ht:t∈T){r:Reach}{b0:Nat}{v:Value}(hval:Value.okWide P W r b0 t v){d:DataW H}{ps:List MemPlace}(hd:DataW.Trod enc P W base spare held t v d ps) :
  ∃a,HasTy P t a∧RV (gOf W) W a v:=by
 obtain⟨fuel,hd⟩:=hd;have hr:=cs9 hT fuel t _ _ ht hd;obtain⟨a,h1,h2,h3,h4⟩:=hr.val;refine⟨a,h1,h3,?_⟩;rw[h4];have hp:=hT t ht;unfold bgm at hp;cases hu:P.underlying t with
 | none=>rw[hu]at hp;cases hp
 | some d=>
  rw[hu]at hp;have hag:=cbk hu;cases d with
  | bool=>obtain⟨b,rfl⟩:=WideShapes.okWide_bool hu hval;rw[hag];rfl
  | int k=>obtain⟨b,rfl⟩:=WideShapes.okWide_int hu hval;rw[hag];rfl
  | string=>obtain⟨b,rfl⟩:=WideShapes.okWide_string hu hval;rw[hag];rfl
  | slice e=>obtain⟨b,l,c,rfl⟩:=WideShapes.okWide_slice hu hval;rw[hag];rfl
  | struct fs=>
   unfold Value.okWide at hval;rw[hu]at hval;obtain⟨cs,rfl,_⟩:=hval;rw[hag];rfl
  | array n e=>
   unfold Value.okWide at hval;rw[hu]at hval;obtain⟨cs,rfl,_⟩:=hval;rw[hag];rfl
  | _=>cases hp
theorem b75(hT:∀t∈T,bgm P T t=true){r:Reach}{b0:Nat}:∀{ts:List TypeId} {vs:List Value} {ds:List (DataW H)} {ps:List MemPlace},(∀t∈ts,t∈T)→(∀(j:Nat) t v,ts[j]? = some t→vs[j]? = some v→Value.okWide P W r b0 t v) →
  DataW.TrodAll enc P W base spare held ts vs ds ps→∃as,RT (gOf W) W as vs∧as.length=ts.length∧∀(j:Nat) t a,ts[j]? = some t→as[j]? = some a→HasTy P t a
 | [],[],[],ps,_,_,_=>⟨[],by simp[RT],rfl,fun j t a h=>by simp at h⟩
 | t::ts,v::vs,d::ds,ps,h1,h2,h=>by
  simp only[DataW.TrodAll]at h;obtain⟨p,q,h3,h4,_⟩:=h;obtain⟨a,h5,h6⟩:=dd3 hT (h1 t (.head _)) (h2 0 t v rfl rfl) h3;obtain⟨as,h7,h8,h9⟩:=b75 hT (fun t ht=>h1 t (.tail _ ht)) (fun j t v h3 h4=>h2 (j+1) t v (by simpa using h3) (by simpa using h4)) h4;refine⟨a::as,by simp only[RT];exact⟨v,vs,rfl,h6,h7⟩,by simp[h8],fun j t' a' hj ha=>?_⟩;cases j with
  | zero=>
   obtain rfl:t=t':=by simpa using hj
   obtain rfl:a=a':=by simpa using ha
   exact h5
  | succ j=>exact h9 j t' a' (by simpa using hj) (by simpa using ha)
 | [],_::_,_,_,_,_,h=>by simp[DataW.TrodAll]at h
 | [],[],_::_,_,_,_,h=>by simp[DataW.TrodAll]at h
 | _::_,[],_,_,_,_,h=>by simp[DataW.TrodAll]at h
 | _::_,_::_,[],_,_,_,h=>by simp[DataW.TrodAll]at h
end
end Go.Av
namespace Go.Av
open Go Go.ChangeShapes Go.WideShapes Go.RowKit
theorem b4r{P:Program}:∀{l:List (TypeId×Nat)} {o n:Nat},cbm P l o n=true→n=o+(l.map fun p=>P.cellsOf p.1).sum∧∀(j:Nat) p,l[j]? = some p→p.2=o+((l.take j).map fun p=>P.cellsOf p.1).sum
 | [],o,n,h=>by
  simp only[cbm,beq_iff_eq]at h;exact⟨by simp[h],fun j p hj=>by simp at hj⟩
 | (t,off)::r,o,n,h=>by
  simp only[cbm,bp,beq_iff_eq]at h;obtain⟨rfl,h⟩:=h;obtain⟨h1,h2⟩:=b4r h;refine⟨by simp;omega,fun j p hj=>?_⟩;cases j with
  | zero=>
   obtain rfl:(t,off)=p:=by simpa using hj
   simp
  | succ j=>
   have:=h2 j p (by simpa using hj);simp only[jd,cr,List.sum_cons];omega
section
variable{P:Program}{T:List TypeId}
theorem cx2(hT:∀t∈T,bgm P T t=true):Kids P (·∈T):=by
 refine⟨fun {t e} ht hu=>?_,fun {t e} ht hu=>?_,fun {t e n} ht hu=>?_,fun {t fs} ht hu=>?_,fun {t k e} ht hu=>?_⟩
 ·have:=hT t ht;simp[bgm,hu]at this
 ·have:=hT t ht;simp[bgm,hu]at this;exact this.1.2
 ·have:=hT t ht;simp only[bgm,hu,bp,fc,decide_eq_true_eq]at this;refine⟨this.1,?_⟩;have h2:=(b4r this.2).1;rw[h2];simp only[vc];have:(List.range n).map ((fun p:TypeId×Nat=>P.cellsOf p.1) ∘ fun i=>(e,i*P.cellsOf e))=List.replicate n (P.cellsOf e):=by
   rw[List.eq_replicate_iff];refine⟨by simp,fun x hx=>?_⟩;simp at hx;exact hx.2.symm
  rw[this];simp
 ·have:=hT t ht;simp only[bgm,hu,bp,cq,fc,decide_eq_true_eq]at this;obtain⟨h1,h2⟩:=this;obtain⟨h3,h4⟩:=b4r h2;refine⟨h1,?_,fun j f hj=>?_⟩
  ·rw[h3];simp[vc,Function.comp_def]
  ·have:=h4 j (f.type,f.offset) (by simp only[d4,hj,bc]);simp only[dt]at this;rw[this];rw[← List.map_take];simp[vc,Function.comp_def]
 ·have:=hT t ht;simp[bgm,hu]at this
theorem cx1(hT:∀t∈T,bgm P T t=true):∀{t e:TypeId},t∈T→P.underlying t=some (.slice e)→0<P.cellsOf e:=by
 intro t e ht hu;have:=hT t ht;simp[bgm,hu]at this;exact this.2
variable{H:Type}{enc:TypeId×Value→H}{W W':World}
theorem bxh(hT:∀t∈T,bgm P T t=true)(hW:∀b,b<W.heap.size→W'.heap[b]? = W.heap[b]?){sp:Nat→Bool}:∀{ts:List TypeId} {vs:List Value} {ds:List (DataW H)} {ps:List MemPlace},(∀t∈ts,t∈T) →
  DataW.TrodAll enc P W 0 (fun _=>true) true ts vs ds ps→(∀p∈ps,sp p.block=true)→DataW.TrodAll enc P W' 0 sp true ts vs ds ps
 | [],[],[],ps,_,h,_=>h
 | t::ts,v::vs,d::ds,ps,h1,h,hs=>by
  simp only[DataW.TrodAll]at h ⊢;obtain⟨p,q,⟨n,h3⟩,h4,rfl⟩:=h;refine⟨p,q,⟨n,?_⟩,bxh hT hW (fun t ht=>h1 t (.tail _ ht)) h4 (fun x hx=>hs x (by simp[hx])),rfl⟩;have hlt:=DataW.trod_lt n t _ _ h3;refine DataW.trod_stays (cx2 hT) (cx1 hT) (fun h=>by cases h) (h1 t (.head _)) h3 (fun x hx=>?_) (fun x hx=>hs x (by simp only[d7];exact .inl hx));have hb:=hlt x hx;cases x with
  | cell b off=>
   simp only[World.sameAt,World.cell?];rw[hW b hb]
  | map b=>exact hW b hb
 | [],_::_,_,_,_,h,_=>by simp[DataW.TrodAll]at h
 | [],[],_::_,_,_,h,_=>by simp[DataW.TrodAll]at h
 | _::_,[],_,_,_,h,_=>by simp[DataW.TrodAll]at h
 | _::_,_::_,[],_,_,h,_=>by simp[DataW.TrodAll]at h
theorem cg2(hos:W'.os=W.os)(hout:W'.output=W.output)(hW:∀b,b<W.heap.size→W'.heap[b]? = W.heap[b]?)(may:MemPlace→Prop):W.keptBut W' may:=by
 refine⟨hos,hout,fun i hi=>?_⟩;rw[hW i hi];cases hh:W.heap[i]? with
 | none=>simp
 | some o=>cases o<;>simp
theorem c4h{fn:Func}{s:ChangeSpec}{bv2 fresh handsOn again:Bool}{args:Array Value}{ds gs:List (DataW H)}{before:List MemPlace}{tb:TypeId}
  (hT:∀t∈T,bgm P T t=true) (hp:∀t∈fn.params.toList,t∈T) (hr:fn.resultTypes=#[tb]) (hb:P.underlying tb=some .bool)
  (hv:s.vars=[]) (hs:(s.fn H (ds++gs)).results=[.lit (.bool true)]∧(s.fn H (ds++gs)).args=ds∧(s.fn H (ds++gs)).vars=[])
  (hw:DataW.Whole enc P fn.params.toList s.vars bv2 W args.toList ds gs before) (hos:W'.os=W.os) (hout:W'.output=W.output) (hsz:W.heap.size≤W'.heap.size) (hW:∀b,b<W.heap.size→W'.heap[b]? = W.heap[b]?) :
  s.post enc P fn bv2 fresh handsOn again W args (.bool true) W':=by
 have hw':=hw;obtain⟨pa,pv,h1,h2,rfl,hz,hn⟩:=hw;obtain⟨s1,s2,s3⟩:=hs;have hlt:=h1.lt;rw[hv]at h2;obtain⟨rfl,rfl⟩:gs=[]∧pv=[]:=by
  cases gs with
  | nil=>exact⟨rfl,by simpa[DataW.TrodVars] using h2⟩
  | cons a b=>simp[DataW.TrodVars]at h2
 have hold:∀p∈pa,(fun b=>decide (b<W.heap.size)) p.block=true:=fun p hp=>by simpa using hlt p hp
 have hres:∀(b:Nat) (sp:Nat→Bool) (hd:Bool),DataW.TrodAll enc P W' b sp hd fn.resultTypes.toList ((Value.bool true).resultList fn.resultTypes.size) (s.fn H (ds++[])).results []:=by
  intro b sp hd;rw[hr,s1];exact trodAll_mk1 (shut_bool hb _)
 have hargs:∀sp:Nat→Bool,(∀p∈pa,sp p.block=true)→DataW.TrodAll enc P W' 0 sp true fn.params.toList args.toList (s.fn H (ds++[])).args pa:=by
  intro sp hsp;rw[s2];exact bxh hT hW hp h1 hsp
 have hvars:∀sp,DataW.TrodVars enc P W' sp s.vars (s.fn H (ds++[])).vars []:=by
  intro sp;rw[hv,s3];rfl
 refine⟨ds,[],pa++[],[],pa,[],hw',hres _ _ _,hargs _ hold,hvars _,cg2 hos hout hW _,fun _=>⟨?_,_,_,([]++pa)++[],⟨[]++pa,[],trodAll_append (hargs _ (fun _ _=>rfl)) (hres _ _ _),hvars _,rfl,?_,?_⟩,?_⟩⟩
 ·exact ok_one hr rfl (okWide_bool_mk hb _)
 ·intro b off hp;have hbl:b<W.heap.size:=by
   exact hlt (.cell b off) (by simpa using hp)
  have:=hz b off (by simpa using hp);simp only[World.frozen?]at this ⊢;rw[hW b hbl];exact this
 ·intro ha;simpa using hn ha
 ·intro p hp _;simpa using hp
def cpr(P:Program)(f:FuncId)(params:List TypeId)(X:World→Prop):Prop:=
 ∀ W,X W→∀as:LA,as.length=params.length→(∀(j:Nat) t a,params[j]? = some t→as[j]? = some a→HasTy P t a) →
   ∃S' own,∀vs:Array Value,RT (gOf W) W as vs.toList→Calls P f vs W (b99 (gOf W) W (.ret (.bool true) own) S')
theorem cv7{f:FuncId}{params:List TypeId}{X:World→Prop}(h:∀W,X W→∃h,bb0 P W f h∧∀as:LA,as.length=params.length→(∀(j:Nat) t a,params[j]? = some t→as[j]? = some a→HasTy P t a)→∃S' own,h as []=some (.ret (.bool true) own,S')) :
  cpr P f params X:=by
 intro W hX as hl hty;obtain⟨h,hs,hr⟩:=h W hX;obtain⟨S',own,hr⟩:=hr as hl hty;exact⟨S',own,fun vs hv=>(hs as [] _ _ hr).2 (gOf W) W vs (crk W) hv (dh5 W) (b35 W)⟩
theorem dk6{fn:Func}{f:FuncId}{s:ChangeSpec}{bv2 fresh handsOn again:Bool}{X:World→Prop}{tb:TypeId}
  (hT:∀t∈T,bgm P T t=true) (hp:∀t∈fn.params.toList,t∈T) (hr:fn.resultTypes=#[tb]) (hb:P.underlying tb=some .bool) (hv:s.vars=[])
  (hs:∀ds:List (DataW H),ds.length=fn.params.toList.length→(s.fn H ds).results=[.lit (.bool true)]∧(s.fn H ds).args=ds∧(s.fn H ds).vars=[])
  (hlaw:cpr P f fn.params.toList X) {W:World} {base:Nat} {args:Array Value} {ds gs:List (DataW H)} {before:List MemPlace}
  (hval:∀(j:Nat) t v,fn.params[j]? = some t→args[j]? = some v→Value.okWide P W .any base t v) (hw:DataW.Whole enc P fn.params.toList s.vars bv2 W args.toList ds gs before) (hX:X W) :
  Calls P f args W fun e W'=>∃v,e=.returned v∧s.post enc P fn bv2 fresh handsOn again W args v W':=by
 have hw':=hw;obtain⟨pa,pv,h1,h2,h3,hz,hn⟩:=hw;rw[hv]at h2;obtain rfl:gs=[]:=by
  cases gs with
  | nil=>rfl
  | cons a b=>simp[DataW.TrodVars]at h2
 obtain⟨as,q1,q2,q3⟩:=b75 hT hp (fun j t v ht hvv=>hval j t v (by simpa using ht) (by simpa using hvv)) h1;obtain⟨S',own,hc⟩:=hlaw W hX as q2 q3;refine(hc args q1).mono fun e W' hpost=>?_
 obtain⟨g',hE,_,_,v,rfl,hRV,_⟩:=hpost;obtain rfl:=bgr.1 hRV;have hlen:ds.length=fn.params.toList.length:=(trodAll_length h1).2;refine⟨_,rfl,c4h hT hp hr hb hv (by simpa using hs ds hlen) hw' hE.os hE.output hE.size fun b hbb=>?_⟩;exact(hE.ext b (by simp[gOf,hbb])).2.1
end
end Go.Av
namespace Go.Av
open Go Go.RowKit
section
variable{P:Program}{W0:World}{g:Gh}{W W':World}{S:LB}
theorem br8(hS:SInv g W S)(hB:Below W.heap.size W W'):Ext g W g W':=by
 have lt:∀b,(g.T b≠0∨g.O b≠.free)→b<W.heap.size:=by
  intro b h;rcases fk b W.heap.size with h1 | h1
  ·exact h1
  ·have:=hS.fresh b h1;rcases h with h | h
   ·exact absurd this.1 h
   ·exact absurd this.2 h
 refine⟨⟨fun _=>cj _,fun b o ho=>?_,fun _ _ h=>h⟩,hB.size,hB.os,hB.tape,hB.output,fun b hb=>⟨hb,hB.block b (lt b (.inr (by rw[hb];simp))),rfl⟩⟩;exact World.cell?_of_block (w:=W) (hB.block b (lt b (.inl (by omega))))
theorem ctz(hS:SInv g W S)(hB:Below W.heap.size W W'):SInv g W' S:=by
 refine⟨hS.len,fun i x hx=>?_,fun b hb=>hS.fresh b (dg hB.size hb)⟩;obtain⟨b,h1,h2⟩:=hS.box i x hx;exact⟨b,h1,h2.keep (br8 hS hB).toKeeps fun b hb _=>⟨hB.block b hb,rfl,rfl⟩⟩
theorem b1x{o:Own}(h:o.calm):o.calmR:=by cases o<;>simp_all [Own.calm,Own.calmR]
theorem bh2(hS:SInv g W S)(hc:∀b,(g.O b).calm)(hB:Below W.heap.size W W'){r:AV}{v:Value}(hv:RV g W r v):b99 g W (.ret r none) S (.returned v) W':=
 ⟨g,br8 hS hB,ctz hS hB,fun b=>b1x (hc b),v,rfl,bdx (br8 hS hB).toKeeps hv,fun te h=>by cases h⟩
theorem bs2(hS:SInv g W S)(hc:∀b,(g.O b).calm)(hB:Below W.heap.size W W')(s:ByteArray):b99 g W (.ret (.str s) none) S (.returned (.string s)) W':=
 bh2 hS hc hB (bfb.2 rfl)
end
def b8c:LA→Option (List ByteArray)
 | []=>some []
 | .str s::r=>(b8c r).map fun l=>s::l
 | _=>none
def dh2(xs:List ByteArray)(sep:ByteArray):ByteArray:=
 match xs with
 | []=>⟨#[]⟩
 | x::r=>⟨(x.data.toList++Lib.joinTail sep.data.toList (r.map (·.data.toList))).toArray⟩
def ddq(args:LA)(S:LB):Option (AEnd×LB):=
 match args with
 | [.slice 1 es,.str sep]=>match b8c es with
  | some xs=>if xs.length≤140737488355328∧(dh2 xs sep).size≤140737488355328 then some (.ret (.str (dh2 xs sep)) none,S) else none
  | none=>none
 | _=>none
theorem crf(xs:List ByteArray)(sep:ByteArray):dh2 xs sep=⟨(Lib.join (xs.map (·.data.toList)) sep.data.toList).toArray⟩:=by
 cases xs with
 | nil=>rfl
 | cons x r=>simp only[dh2,cr,Lib.join_cons]
theorem b2j{g:Gh}{W:World}:∀{es:LA} {xs:List ByteArray} {ms:List Value},b8c es=some xs→RE g W 1 es ms→ms=xs.map Value.string∧xs.length=es.length
 | [],xs,ms,h,hE=>by
  simp only[b8c,bd]at h;subst h;simp only[RE]at hE;simp[hE]
 | e::es,xs,ms,h,hE=>by
  cases e<;>simp only[b8c]at h<;>try (cases h;done)
  rename_i s;simp only[bv]at h;obtain⟨ys,hy,rfl⟩:=h;simp only[RE]at hE;obtain⟨x,r,rfl,hx,⟨_,hR⟩,hE⟩:=hE;obtain⟨h1,h2⟩:=b2j hy hE;simp only[R]at hR;subst hR;simp[h1,h2]
theorem dh8{P:Program}{W0:World}{f:FuncId}(hc:bdp P f)
  (hN:∀(a:Option Addr) (c:Nat) (sep:ByteArray) (w:World),Calls P f #[.slice a 0 c,.string sep] w fun e w'=>e=.returned (.string ⟨#[]⟩)∧w'=w)
  (hJ:∀(bk o c:Nat) (xs:List ByteArray) (sep:ByteArray) (w:World),(∀(j:Nat) x,xs[j]? = some x→w.cell? ⟨bk,o+j,none⟩=some (.string x))→bk<w.heap.size→xs.length≤140737488355328→xs.length≤c →
   (Lib.join (xs.map (·.data.toList)) sep.data.toList).length≤140737488355328 →
   Calls P f #[.slice (some ⟨bk,o,none⟩) xs.length c,.string sep] w fun e w'=>e=.returned (.string ⟨(Lib.join (xs.map (·.data.toList)) sep.data.toList).toArray⟩)∧Below w.heap.size w w') :
  bb0 P W0 f ddq:=by
 intro args S e S' h;refine⟨hc,fun g W vs hB hT hS hcalm=>?_⟩;unfold ddq at h;split at h
 ·rename_i es sep;split at h
  ·rename_i xs hxs;split at h
   ·rename_i hb;simp only[bd,bq]at h;obtain⟨rfl,rfl⟩:=h;obtain⟨l⟩:=vs;simp only[RT]at hT;obtain⟨v1,r1,hl,hv1,v2,r2,rfl,hv2,rfl⟩:=hT;subst hl;obtain rfl:=bfb.1 hv2;obtain⟨p,cap,rfl,hcap,hes⟩:=bm2 hv1;cases es with
    | nil=>
     simp only[b8c,bd]at hxs;subst hxs;refine(hN p cap sep W).mono fun e w' hh=>?_
     obtain⟨rfl,rfl⟩:=hh;exact bs2 hS hcalm (Below.refl _ _) _
    | cons e0 es0=>
     rcases hes with hes | ⟨b,o,ms,rfl,hm,hTb,hE⟩
     ·cases hes
     obtain⟨rfl,hlen⟩:=b2j hxs hE;have hcell:∀(j:Nat) x,xs[j]? = some x→W.cell? ⟨b,o+j,none⟩=some (.string x):=fun j x hj=>hm j _ (by simp[hj])
     have hbl:b<W.heap.size:=by
      have hx0:xs[0]? = some (xs[0]'(by rw[hlen];simp)):=by rw[cz]
      have:=hcell 0 _ hx0;unfold World.cell? at this;simp only at this;rcases fk b W.heap.size with h1 | h1
      ·exact h1
      ·rw[jq h1]at this;cases this
     rw[← hlen];have hsz:(Lib.join (xs.map (·.data.toList)) sep.data.toList).length≤140737488355328:=by
      have:=hb.2;rw[crf]at this;simpa[ByteArray.size] using this
     refine(hJ b o cap xs sep W hcell hbl hb.1 (by omega) hsz).mono fun e w' hh=>?_
     obtain⟨rfl,hbel⟩:=hh;rw[crf];exact bs2 hS hcalm hbel _
   ·cases h
  ·cases h
 ·cases h
def dvt:Nat→Nat→LU→LU
 | 0,_,acc=>acc
 | k+1,n,acc=>if n<10 then UInt8.ofNat (48+n)::acc else dvt k (n / 10) (UInt8.ofNat (48+n % 10)::acc)
theorem c9s:∀(k n:Nat) (acc:LU),n<10 ^ k→0<k→dvt k n acc=Lib.decDigits n++acc
 | 0,n,acc,_,h=>by omega
 | k+1,n,acc,h,_=>by
  unfold dvt;rw[Lib.decDigits];by_cases h10:n<10
  ·simp[h10]
  ·have h2:n / 10<10 ^ k:=by
    rw[Nat.pow_succ]at h;omega
   have hk:0<k:=by
    rcases tc k with rfl | hk
    ·simp at h;omega
    ·exact hk
   simp only[h10,if_false,dif_neg,not_false_eq_true,gq,pg];exact c9s k (n / 10) _ h2 hk
def dh3(n:Int):ByteArray:=⟨(if n<0 then 45::dvt 20 n.natAbs [] else dvt 20 n.toNat []).toArray⟩
theorem crg{n:Int}(h0:-9223372036854775808≤n)(h1:n≤9223372036854775807):dh3 n=⟨(Lib.itoa n).toArray⟩:=by
 unfold dh3 Lib.itoa;have e1:∀u:Nat,u≤9223372036854775808→dvt 20 u []=Lib.decDigits u:=fun u hu=>by
  rw[c9s 20 u [] (by omega) (by omega)];simp
 split
 ·rw[e1 _ (by omega)]
 ·rw[e1 _ (by omega)]
end Go.Av
namespace Go.Av
open Go Go.RowKit
def bkk(args:LA)(S:LB):Option (AEnd×LB):=
 match args with
 | [.int .i64 n,.int .i64 b]=>if(-9223372036854775808≤n∧n≤9223372036854775807)∧b=10 then some (.ret (.str (dh3 n)) none,S) else none
 | _=>none
theorem cc4{P:Program}{W0:World}{f:FuncId}(hc:bdp P f)
  (hI:∀(n:Int) (w:World),-9223372036854775808≤n→n≤9223372036854775807→(∀b,b<W0.heap.size→w.heap[b]? = W0.heap[b]?)→Calls P f #[.int .i64 n,.int .i64 10] w fun e w'=>e=.returned (.string ⟨(Lib.itoa n).toArray⟩)∧Below w.heap.size w w') :
  bb0 P W0 f bkk:=by
 intro args S e S' h;refine⟨hc,fun g W vs hB hT hS hcalm=>?_⟩;unfold bkk at h;split at h
 ·rename_i n b;split at h
  ·rename_i hb;obtain⟨hb,rfl⟩:=hb;simp only[bd,bq]at h;obtain⟨rfl,rfl⟩:=h;obtain⟨l⟩:=vs;simp only[RT]at hT;obtain⟨v1,r1,hl,hv1,v2,r2,rfl,hv2,rfl⟩:=hT;subst hl;obtain rfl:=bcv.1 hv1;obtain rfl:=bcv.1 hv2;refine(hI n W hb.1 hb.2 fun b hbb=>(hB.ext b hbb).2).mono fun e w' hh=>?_
   obtain⟨rfl,hbel⟩:=hh;rw[crg hb.1 hb.2];exact bs2 hS hcalm hbel _
  ·cases h
 ·cases h
def repB(s old new:ByteArray):ByteArray:=⟨(Lib.replaceAll s.data.toList old.data.toList new.data.toList).toArray⟩
def bf5(args:LA)(S:LB):Option (AEnd×LB):=
 match args with
 | [.str s,.str old,.str new]=>if s.size<4294967281∧1≤old.size∧s.size+s.size*new.size≤140737488355328 then some (.ret (.str (repB s old new)) none,S) else none
 | _=>none
theorem b7z{P:Program}{W0:World}{f:FuncId}(hc:bdp P f)
  (hI:∀(s old new:ByteArray) (w:World),s.size<4294967281→1≤old.size→s.size+s.size*new.size≤140737488355328→(∀b,b<W0.heap.size→w.heap[b]? = W0.heap[b]?) →
   Calls P f #[.string s,.string old,.string new] w fun e w'=>e=.returned (.string ⟨(Lib.replaceAll s.data.toList old.data.toList new.data.toList).toArray⟩)∧Below w.heap.size w w') :
  bb0 P W0 f bf5:=by
 intro args S e S' h;refine⟨hc,fun g W vs hB hT hS hcalm=>?_⟩;unfold bf5 at h;split at h
 ·rename_i s old new;split at h
  ·rename_i hb;simp only[bd,bq]at h;obtain⟨rfl,rfl⟩:=h;obtain⟨l⟩:=vs;simp only[RT]at hT;obtain⟨v1,r1,hl,hv1,v2,r2,rfl,hv2,v3,r3,rfl,hv3,rfl⟩:=hT;subst hl;obtain rfl:=bfb.1 hv1;obtain rfl:=bfb.1 hv2;obtain rfl:=bfb.1 hv3;refine(hI s old new W hb.1 hb.2.1 hb.2.2 fun b hbb=>(hB.ext b hbb).2).mono fun e w' hh=>?_
   obtain⟨rfl,hbel⟩:=hh;exact bs2 hS hcalm hbel _
  ·cases h
 ·cases h
section
variable{P:Program}{W0:World}{g:Gh}{W W':World}{S:LB}
theorem cqq(hS:SInv g W S)(hc:∀b,(g.O b).calm)(hB:Below W.heap.size W W'){A:Nat}(hA:W.heap.size≤A){cur:Array Value}{ty:TypeId}(hr:W'.heap[A]? = some (.cells cur ty (0,0)))
  {sz:Nat} {es:LA} {cap:Nat} (hcap:es.length≤cap) {ms:List Value} (hms:∀(j:Nat) v,ms[j]? = some v→cur[j]? = some v) (hE:∀g' W',RE g' W' sz es ms) :
  b99 g W (.ret (.slice sz es) none) S (.returned (.slice (some ⟨A,0,none⟩) es.length cap)) W':=by
 have h0:=hS.fresh A hA;have hlt:A<W'.heap.size:=bd0 hr;have hE1:=br8 hS hB;have hne:∀b,b<W.heap.size→b≠A:=fun b hb e=>by omega
 have ext:Ext g W {g with T:=upd g.T A ms.length} W':=by
  refine⟨⟨fun b=>?_,fun b o ho=>hE1.cell b o ho,fun _ _ h=>h⟩,hB.size,hB.os,hB.tape,hB.output,fun b hb=>?_⟩
  ·by_cases e:b=A
   ·subst e;simp[h0.1]
   ·simp[bbh _ _ _ _ e]
  ·have e:b≠A:=fun e=>by subst e;rw[h0.2]at hb;cases hb
   obtain⟨h1,h2,h3⟩:=hE1.ext b hb;exact⟨h1,h2,by simp[bbh _ _ _ _ e]⟩
 have hS':SInv {g with T:=upd g.T A ms.length} W' S:=by
  refine⟨hS.len,fun i x hx=>?_,fun b hb=>?_⟩
  ·obtain⟨b,h1,h2⟩:=hS.box i x hx;exact⟨b,h1,h2.keep ext.toKeeps fun b hb _=>⟨hB.block b hb,rfl,by simp[bbh _ _ _ _ (hne b hb)]⟩⟩
  ·have e:b≠A:=fun e=>by omega
   have:=hS.fresh b (dg hB.size hb);exact⟨by simp[bbh _ _ _ _ e,this.1],this.2⟩
 refine⟨_,ext,hS',fun b=>b1x (hc b),_,rfl,bgf hcap (.inr ⟨A,0,ms,rfl,?_,?_,hE _ _⟩),fun te h=>by cases h⟩
 ·intro j v hj;rw[cell_of_row W' A (0+j) cur ty (0,0) hr,dt];exact hms j v hj
 ·simp[bb2]
end
def cj9(l:LV):LA:=l.map fun x=>.str ⟨x.toArray⟩
def bvt(l:LU):LV:=if l.all (fun b=>decide (b.toNat<128)) then Lib.fields l else Lib.fieldsD l
def cbf(args:LA)(S:LB):Option (AEnd×LB):=
 match args with
 | [.str s]=>if s.size<4294967281 then some (.ret (.slice 1 (cj9 (bvt s.data.toList))) none,S) else none
 | _=>none
theorem dcz{g:Gh}{W:World}:∀(l:LV),RE g W 1 (cj9 l) (l.map fun x=>Value.string ⟨x.toArray⟩)
 | []=>by simp[cj9,RE]
 | x::l=>by
  simp only[cj9,cr,RE];exact⟨[.string ⟨x.toArray⟩],_,rfl,rfl,⟨rfl,by simp[R]⟩,dcz l⟩
theorem czj{P:Program}{W0:World}{f:FuncId}(hc:bdp P f)
  (hI:∀(s:ByteArray) (w:World),s.size<4294967281→(∀b,b<W0.heap.size→w.heap[b]? = W0.heap[b]?) →
   Calls P f #[.string s] w fun e w'=>∃A cur ty cap,e=.returned (.slice (some ⟨A,0,none⟩) (bvt s.data.toList).length cap)∧w.heap.size≤A∧(bvt s.data.toList).length≤cap∧w'.heap[A]? = some (.cells cur ty (0,0)) ∧
    (∀(j:Nat) v,((bvt s.data.toList).map fun x=>Value.string ⟨x.toArray⟩)[j]? = some v→cur[j]? = some v)∧Below w.heap.size w w') :
  bb0 P W0 f cbf:=by
 intro args S e S' h;refine⟨hc,fun g W vs hB hT hS hcalm=>?_⟩;unfold cbf at h;split at h
 ·rename_i s;split at h
  ·rename_i hb;simp only[bd,bq]at h;obtain⟨rfl,rfl⟩:=h;obtain⟨l⟩:=vs;simp only[RT]at hT;obtain⟨v1,r1,hl,hv1,rfl⟩:=hT;subst hl;obtain rfl:=bfb.1 hv1;refine(hI s W hb fun b hbb=>(hB.ext b hbb).2).mono fun e w' hh=>?_
   obtain⟨A,cur,ty,cap,rfl,hA,hcap,hrow,hms,hbel⟩:=hh;have:=cqq (sz:=1) (es:=cj9 (bvt s.data.toList)) (cap:=cap) hS hcalm hbel hA hrow (by simpa[cj9] using hcap) hms (fun _ _=>dcz _);simpa[cj9] using this
  ·cases h
 ·cases h
def bz2(t:Nat)(s:ByteArray):AV:=
 match Lib.atoiAll s.data.toList with
 | .ok v=>.tuple [.int .i64 v,.niliface]
 | Lib.NumEnd.syntax=>.tuple [.int .i64 0,.iface t (.sptr [])]
 | .range=>.tuple [.int .i64 (Lib.atoiSat s.data.toList),.iface t (.sptr [])]
def csx(t:Nat)(args:LA)(S:LB):Option (AEnd×LB):=
 match args with
 | [.str s]=>if s.size≤281474976710656 then some (.ret (bz2 t s) none,S) else none
 | _=>none
def bpj(t:Nat)(args:LA)(S:LB):Option (AEnd×LB):=
 match args with
 | [.str s,.int .i64 b,.int .i64 c]=>if s.size≤281474976710656∧b=10∧c=64 then some (.ret (bz2 t s) none,S) else none
 | _=>none
def b1z(t:Nat)(s:ByteArray)(e:Ending):Prop:=
 match Lib.atoiAll s.data.toList with
 | .ok v=>e=.returned (.tuple #[.int .i64 v,.nilIface])
 | Lib.NumEnd.syntax=>∃N,e=.returned (.tuple #[.int .i64 0,.iface t (.pointer (some ⟨N,0,none⟩))])
 | .range=>∃N,e=.returned (.tuple #[.int .i64 (Lib.atoiSat s.data.toList),.iface t (.pointer (some ⟨N,0,none⟩))])
theorem dcr{g:Gh}{W:World}(v:Int):RV g W (.tuple [.int .i64 v,.niliface]) (.tuple #[.int .i64 v,.nilIface]):=
 ⟨by simp only[Value.cells,R,RT];exact⟨_,rfl,_,_,rfl,⟨by simp[Value.cells,R],rfl⟩,_,_,rfl,⟨by simp[Value.cells,R],rfl⟩,rfl⟩,rfl⟩
theorem b97{g:Gh}{W:World}(v:Int)(t N:Nat):RV g W (.tuple [.int .i64 v,.iface t (.sptr [])]) (.tuple #[.int .i64 v,.iface t (.pointer (some ⟨N,0,none⟩))]):=by
 refine⟨?_,rfl⟩;simp only[Value.cells,R,RT];refine⟨_,rfl,_,_,rfl,⟨by simp[Value.cells,R],rfl⟩,_,_,rfl,⟨?_,rfl⟩,rfl⟩;simp only[Value.cells,R];refine⟨_,rfl,?_,rfl⟩;simp only[Value.cells,R];exact⟨N,0,[],rfl,fun j v h=>by simp at h,by simp,by simp[RL]⟩
theorem cf7{g:Gh}{W W':World}{S:LB}(hS:SInv g W S)(hc:∀b,(g.O b).calm)(hB:Below W.heap.size W W'){t:Nat}{s:ByteArray}{e:Ending}(h:b1z t s e):b99 g W (.ret (bz2 t s) none) S e W':=by
 unfold b1z at h;unfold bz2;split at h
 ·subst h;exact bh2 hS hc hB (dcr _)
 ·obtain⟨N,rfl⟩:=h;exact bh2 hS hc hB (b97 _ _ _)
 ·obtain⟨N,rfl⟩:=h;exact bh2 hS hc hB (b97 _ _ _)
theorem dh9{P:Program}{W0:World}{f:FuncId}{t:Nat}(hc:bdp P f)
  (hI:∀(s:ByteArray) (w:World),s.size≤281474976710656→(∀b,b<W0.heap.size→w.heap[b]? = W0.heap[b]?)→Calls P f #[.string s] w fun e w'=>b1z t s e∧Below w.heap.size w w') :
  bb0 P W0 f (csx t):=by
 intro args S e S' h;refine⟨hc,fun g W vs hB hT hS hcalm=>?_⟩;unfold csx at h;split at h
 ·rename_i s;split at h
  ·rename_i hb;simp only[bd,bq]at h;obtain⟨rfl,rfl⟩:=h;obtain⟨l⟩:=vs;simp only[RT]at hT;obtain⟨v1,r1,hl,hv1,rfl⟩:=hT;subst hl;obtain rfl:=bfb.1 hv1;refine(hI s W hb fun b hbb=>(hB.ext b hbb).2).mono fun e w' hh=>?_
   exact cf7 hS hcalm hh.2 hh.1
  ·cases h
 ·cases h
theorem chb{P:Program}{W0:World}{f:FuncId}{t:Nat}(hc:bdp P f)
  (hI:∀(s:ByteArray) (w:World),s.size≤281474976710656→(∀b,b<W0.heap.size→w.heap[b]? = W0.heap[b]?)→Calls P f #[.string s,.int .i64 10,.int .i64 64] w fun e w'=>b1z t s e∧Below w.heap.size w w') :
  bb0 P W0 f (bpj t):=by
 intro args S e S' h;refine⟨hc,fun g W vs hB hT hS hcalm=>?_⟩;unfold bpj at h;split at h
 ·rename_i s b c;split at h
  ·rename_i hb;obtain⟨hb,rfl,rfl⟩:=hb;simp only[bd,bq]at h;obtain⟨rfl,rfl⟩:=h;obtain⟨l⟩:=vs;simp only[RT]at hT;obtain⟨v1,r1,hl,hv1,v2,r2,rfl,hv2,v3,r3,rfl,hv3,rfl⟩:=hT;subst hl;obtain rfl:=bfb.1 hv1;obtain rfl:=bcv.1 hv2;obtain rfl:=bcv.1 hv3;refine(hI s W hb fun b hbb=>(hB.ext b hbb).2).mono fun e w' hh=>?_
   exact cf7 hS hcalm hh.2 hh.1
  ·cases h
 ·cases h
end Go.Av
namespace Go.Av
open Go Go.RowKit
def ddh(c:UInt8):UInt8:=if 65≤c.toNat∧c.toNat≤90 then UInt8.ofNat (c.toNat+32) else c
def csv(g:Nat)(args:LA)(S:LB):Option (AEnd×LB):=
 match args with
 | [.clos (.func f) [] [],.str s]=>if f=g∧s.size≤1000000∧s.data.toList.all (fun b=>decide (b.toNat<128))=true then some (.ret (.str ⟨(s.data.toList.map ddh).toArray⟩) none,S) else none
 | _=>none
theorem dsp{P:Program}{W0:World}{f g:Nat}(hc:bdp P f)
  (hI:∀(s:ByteArray) (w:World),s.size≤1000000→(∀b∈s.data.toList,b.toNat<128)→Below W0.heap.size W0 w →
   Calls P f #[.func (.func g) #[] #[],.string s] w fun e w'=>e=.returned (.string ⟨(s.data.toList.map ddh).toArray⟩)∧Below w.heap.size w w') :
  bb0 P W0 f (csv g):=by
 intro args S e S' h;refine⟨hc,fun gh W vs hB hT hS hcalm=>?_⟩;unfold csv at h;split at h
 ·rename_i f' s;split at h
  ·rename_i hb;obtain⟨rfl,h1,h2⟩:=hb;simp only[bd,bq]at h;obtain⟨rfl,rfl⟩:=h;obtain⟨l⟩:=vs;simp only[RT]at hT;obtain⟨v1,r1,hl,⟨hv1,ha1⟩,v2,r2,rfl,hv2,rfl⟩:=hT;subst hl;obtain rfl:=bfb.1 hv2;simp only[R,RT]at hv1;obtain⟨a,c,e1,e2,e3⟩:=hv1;have:v1=.func (.func f') #[] #[]:=by
    have ea:a=#[]:=vf.1 e2;have ec:c=#[]:=vf.1 e3;subst ea ec;cases v1<;>simp_all [Value.cells,AV.isAgg,cp2]
   subst this;refine(hI s W h1 (fun b hb=>?_) ⟨hB.os,hB.tape,hB.output,hB.size,fun k hk=>(hB.ext k hk).2⟩).mono fun e w' hh=>?_
   ·have:=cq.1 h2 b hb;simpa using this
   ·obtain⟨rfl,hbel⟩:=hh;exact bs2 hS hcalm hbel _
  ·cases h
 ·cases h
def c6d(x:Int):Int:=let n:=(x % 256).toNat;if 65≤n∧n≤90 then(n:Int)+32 else(n:Int)
theorem cq7:∀(l:LU),(∀b∈l,b.toNat<128)→Lib.mapD c6d l=l.map ddh
 | [],_=>rfl
 | c::l,h=>by
  have hc:=h c (.head _);have hd:=Lib.decodeL_ascii c l hc;rw[Lib.mapD_step c6d _ (by simp),hd];simp only[vx,vm,cr];rw[cq7 l fun b hb=>h b (.tail _ hb)];have e:((c.toNat:Int) % 256).toNat=c.toNat:=by omega
  have e1:c6d (c.toNat:Int)=((ddh c).toNat:Int):=by
   unfold c6d ddh;simp only[e];split
   ·have:(UInt8.ofNat (c.toNat+32)).toNat=c.toNat+32:=by simp[UInt8.toNat_ofNat'];omega
    rw[this];omega
   ·rfl
  have e2:(ddh c).toNat<128:=by
   unfold ddh;split
   ·have:(UInt8.ofNat (c.toNat+32)).toNat=c.toNat+32:=by simp[UInt8.toNat_ofNat'];omega
    omega
   ·exact hc
  rw[e1,if_pos (by omega)];unfold Lib.encodeRune;rw[Lib.encodeRuneZ_one (by omega) (by omega)];simp
theorem cv4(x:Nat):-2147483648≤c6d x∧c6d x≤2147483647:=by
 unfold c6d;simp only;split<;>omega
end Go.Av
namespace Go.Av
open Go Go.RowKit
def cfr(s sep:ByteArray):List ByteArray:=Lib.splitB sep 0 (Lib.countB s sep) s
def cpv(args:LA)(S:LB):Option (AEnd×LB):=
 match args with
 | [.str s,.str sep]=>if s.size<4294967281∧1≤sep.size then some (.ret (.slice 1 ((cfr s sep).map AV.str)) none,S) else none
 | _=>none
theorem dc0{g:Gh}{W:World}:∀(l:List ByteArray),RE g W 1 (l.map AV.str) (l.map Value.string)
 | []=>by simp[RE]
 | x::l=>by
  simp only[cr,RE];exact⟨[.string x],_,rfl,rfl,⟨rfl,by simp[R]⟩,dc0 l⟩
theorem c8z{P:Program}{W0:World}{f:FuncId}{ty:TypeId}(hc:bdp P f)
  (hI:∀(s sep:ByteArray) (w:World),s.size<4294967281→1≤sep.size→(∀b,b<W0.heap.size→w.heap[b]? = W0.heap[b]?) →
   Calls P f #[.string s,.string sep] w fun e w'=>e=.returned (.slice (some ⟨w.heap.size,0,none⟩) (Lib.countB s sep+1) (Lib.countB s sep+1))∧w'=w.alloc (.cells ((Lib.splitB sep 0 (Lib.countB s sep) s).map Value.string).toArray ty)) :
  bb0 P W0 f cpv:=by
 intro args S e S' h;refine⟨hc,fun g W vs hB hT hS hcalm=>?_⟩;unfold cpv at h;split at h
 ·rename_i s sep;split at h
  ·rename_i hb;simp only[bd,bq]at h;obtain⟨rfl,rfl⟩:=h;obtain⟨l⟩:=vs;simp only[RT]at hT;obtain⟨v1,r1,hl,hv1,v2,r2,hl2,hv2,rfl⟩:=hT;subst hl2 hl;obtain rfl:=bfb.1 hv1;obtain rfl:=bfb.1 hv2;refine(hI s sep W hb.1 hb.2 fun b hbb=>(hB.ext b hbb).2).mono fun e w' hh=>?_
   obtain⟨rfl,rfl⟩:=hh;have hlen:(cfr s sep).length=Lib.countB s sep+1:=Lib.splitB_all sep hb.2 0 _ s rfl;have hbel:Below W.heap.size W (W.alloc (.cells ((Lib.splitB sep 0 (Lib.countB s sep) s).map Value.string).toArray ty)):=
    ⟨rfl,rfl,rfl,by simp,fun b hb=>by simp only[World.alloc,pm];rw[if_neg (by omega)]⟩
   have:=cqq (sz:=1) (es:=(cfr s sep).map AV.str) (cap:=Lib.countB s sep+1) (cur:=((cfr s sep).map Value.string).toArray) (ty:=ty) hS hcalm hbel (cj _) (by simp only[World.alloc,pm,if_true];rfl) (by simp[hlen]) (ms:=(cfr s sep).map Value.string) (fun j v hj=>by simpa using hj) (fun _ _=>dc0 _);simpa[hlen] using this
  ·cases h
 ·cases h
end Go.Av
namespace Go.Av
open Go Go.RowKit
section
variable{P:Program}{W0:World}
end
abbrev dc5:=LA→LB→Option (AEnd×LB)
def ck5:List (Nat×AFun)→Nat→Option AFun
 | [],_=>none
 | (k,d)::r,f=>if k=f then some d else ck5 r f
def ccq:List (Nat×dc5)→Nat→Option dc5
 | [],_=>none
 | (k,d)::r,f=>if k=f then some d else ccq r f
theorem cgm{l:List (Nat×AFun)}{f:Nat}{d:AFun}(h:ck5 l f=some d):(f,d)∈l:=by
 induction l with
 | nil=>simp[ck5]at h
 | cons p r ih=>
  obtain⟨k,e⟩:=p;simp only[ck5]at h;split at h
  ·rename_i hk;subst hk;obtain rfl:=bf h;exact .head _
  ·exact .tail _ (ih h)
theorem cgj{l:List (Nat×dc5)}{f:Nat}{d:dc5}(h:ccq l f=some d):(f,d)∈l:=by
 induction l with
 | nil=>simp[ccq]at h
 | cons p r ih=>
  obtain⟨k,e⟩:=p;simp only[ccq]at h;split at h
  ·rename_i hk;subst hk;obtain rfl:=bf h;exact .head _
  ·exact .tail _ (ih h)
def bp9(A:List (Nat×AFun))(X:List (Nat×dc5))(f:Nat):Option Def:=
 match ccq X f with
 | some h=>some (.ext h)
 | none=>(ck5 A f).map .air
theorem b4t{P:Program}{W0:World}(hP:P.follows .mixedOrders=true){A:List (Nat×AFun)}{X:List (Nat×dc5)}(hA:A.all (fun p=>dmj P p.1 p.2)=true)(hX:∀p∈X,bb0 P W0 p.1 p.2)(n:Nat):bbk P W0 (btd (bp9 A X) n):=by
 refine btc hP (fun f fn h=>?_) (fun f h' h=>?_) (fun f fn h=>?_) n
 ·unfold bp9 at h;split at h
  ·cases h
  ·simp only[bv,Def.air.injEq]at h;obtain⟨d,h1,rfl⟩:=h;exact cq.1 hA _ (cgm h1)
 ·unfold bp9 at h;split at h
  ·rename_i h2 hx;simp only[bd,Def.ext.injEq]at h;subst h;exact hX _ (cgj hx)
  ·simp only[bv]at h;obtain⟨_,_,h⟩:=h;cases h
 ·unfold bp9 at h;split at h
  ·cases h
  ·simp only[bv]at h;obtain⟨_,_,h⟩:=h;cases h
def c6m:List (Nat×DFun)→Nat→Option DFun
 | [],_=>none
 | (k,d)::r,f=>if k=f then some d else c6m r f
theorem c6k{l:List (Nat×DFun)}{f:Nat}{d:DFun}(h:c6m l f=some d):(f,d)∈l:=by
 induction l with
 | nil=>simp[c6m]at h
 | cons p r ih=>
  obtain⟨k,e⟩:=p;simp only[c6m]at h;split at h
  ·rename_i hk;subst hk;obtain rfl:=bf h;exact .head _
  ·exact .tail _ (ih h)
def btz(A:List (Nat×AFun))(X:List (Nat×dc5))(D:List (Nat×DFun))(f:Nat):Option Def:=
 match ccq X f with
 | some h=>some (.ext h)
 | none=>match ck5 A f with
  | some d=>some (.air d)
  | none=>(c6m D f).map .dfr
theorem cff{P:Program}{W0:World}(hP:P.follows .mixedOrders=true){A:List (Nat×AFun)}{X:List (Nat×dc5)}{D:List (Nat×DFun)}(hA:A.all (fun p=>dmj P p.1 p.2)=true)(hX:∀p∈X,bb0 P W0 p.1 p.2)
  (hD:D.all (fun p=>c6b P p.1 p.2)=true) (n:Nat):bbk P W0 (btd (btz A X D) n):=by
 refine btc hP (fun f fn h=>?_) (fun f h' h=>?_) (fun f fn h=>?_) n
 ·unfold btz at h;split at h
  ·cases h
  ·split at h
   ·rename_i d hd;simp only[bd,Def.air.injEq]at h;subst h;exact cq.1 hA _ (cgm hd)
   ·simp only[bv]at h;obtain⟨_,_,h⟩:=h;cases h
 ·unfold btz at h;split at h
  ·rename_i h2 hx;simp only[bd,Def.ext.injEq]at h;subst h;exact hX _ (cgj hx)
  ·split at h
   ·cases h
   ·simp only[bv]at h;obtain⟨_,_,h⟩:=h;cases h
 ·unfold btz at h;split at h
  ·cases h
  ·split at h
   ·cases h
   ·simp only[bv,Def.dfr.injEq]at h;obtain⟨d,h1,rfl⟩:=h;exact cq.1 hD _ (c6k h1)
theorem ctf{A:List (Nat×AFun)}{X:List (Nat×dc5)}{D:List (Nat×DFun)}(f:Nat)(d:Def)(h:bp9 A X f=some d):btz A X D f=some d:=by
 unfold bp9 at h;unfold btz;split at h
 ·exact h
 ·cases hl:ck5 A f with
  | none=>rw[hl]at h;cases h
  | some d'=>rw[hl]at h;exact h
end Go.Av
