/- Part of syntax_parses. -/
import Derived.Test.YtdcknoijcepibaaGreatDoorQ7
import Derived.Test.YtdcknoijcepibaaGreatDoorQ2
set_option linter.unusedSimpArgs false
set_option linter.unusedVariables false
set_option maxRecDepth 100000
set_option maxHeartbeats 16000000
namespace Go.Av
open Go Go.Proofs
noncomputable abbrev run:Rec:=bpr (bp9 cfg ddb)
attribute [local simp] b9v xf bp2 bdb b27 bqz aop bbb bgc St.av St.avs St.sv SV.av zq.get zq.set zq.kill SV.kill St.put St.drop St.right St.move St.keep zq.keep bc8.keep bc8.get bc8.set bbx normal AV.isDat AV.cells St.cellsAt bp4 ddp aun AOp.dst AOp.addr bcp cdk bfx bch kp St.freeze zq.freeze SV.frozen bc8.del bhq bfv bgb bdf bdj bk2 bt1 br0 bmx br5
theorem bmg(k:Nat)(S:LB)(e:AEnd):xr k S S e=some (e,S):=by simp[xr]
attribute [local simp] bmg
theorem bzb{f:St→Option (AEx×St)}{st:Nat→St}{r:AEx×St}(hr:r.1≠.normal):∀(j i:Nat),(∀k,i≤k→k<i+j→f (st k)=some (.normal,st (k+1)))→f (st (i+j))=some r→zc f (st i)=some r
 | 0,i,_,h=>by
  rw[bmf];simp only[jt]at h;rw[h];obtain⟨x,s⟩:=r;cases x<;>simp_all
 | j+1,i,hs,h=>by
  rw[bmf,hs i (cj _) (by omega)];exact bzb hr j (i+1) (fun k h1 h2=>hs k (by omega) (by omega)) (by rw[show i+1+j=i+(j+1) by omega];exact h)
structure K where
 c:Int
 d:Bool
def K.av(k:K):AV:=.agg [ii k.c,.bool k.d]
theorem eqn{f:Nat}{fn:AFun}(hT:bp9 cfg ddb f=some (.air fn)){args:LA}{S:LB}{r:AEnd×LB}(h:b9v run fn args S=some r):run f args S=some r:=b3v hT h
theorem cg8{α:Type}(p:α→Bool):∀(l:List α),l.all p=true∨∃(j:Nat) (x:α),l[j]? = some x∧p x=false∧∀(k:Nat),k<j→∀y,l[k]? = some y→p y=true
 | []=>.inl rfl
 | a::l=>by
  cases ha:p a with
  | false=>exact .inr ⟨0,a,rfl,ha,fun k hk=>by omega⟩
  | true=>
   rcases cg8 p l with h | ⟨j,x,h1,h2,h3⟩
   ·left;simp[ha,h]
   ·right;refine⟨j+1,x,by simpa using h1,h2,fun k hk y hy=>?_⟩;cases k with
    | zero=>obtain rfl:a=y:=by simpa using hy
            exact ha
    | succ k=>exact h3 k (by omega) y (by simpa using hy)
end Go.Av
namespace Go.Av
open Go Go.Proofs
attribute [local simp] b9v xf bp2 bdb b27 bqz aop bbb bgc St.av St.avs St.sv SV.av zq.get zq.set zq.kill SV.kill St.put St.drop St.right St.move St.keep zq.keep bc8.keep bc8.get bc8.set bbx normal AV.isDat AV.cells St.cellsAt bp4 ddp aun AOp.dst AOp.addr bcp cdk bfx bch kp St.freeze zq.freeze SV.frozen bc8.del bhq bfv bgb bdf bdj bk2 bt1 br0 bmx br5 bmg
def idx{α:Type}(l:List α)(p:α→Bool):Int:=match l.findIdx? p with | some j=>j | none=>-1
end Go.Av
namespace Go.Av
open Go Go.Proofs
attribute [local simp] b9v xf bp2 bdb b27 bqz aop bbb bgc St.av St.avs St.sv SV.av zq.get zq.set zq.kill SV.kill St.put St.drop St.right St.move St.keep zq.keep bc8.keep bc8.get bc8.set bbx normal AV.isDat AV.cells St.cellsAt bp4 ddp aun AOp.dst AOp.addr bcp cdk bfx bch kp St.freeze zq.freeze SV.frozen bc8.del bhq bfv bgb bdf bdj bk2 bt1 br0 bmx br5 bmg
def iav(n:Int):AV:=.int .i64 n
def dmm(l:List Int):AV:=.slice 1 (l.map iav)
def pav(p:Int×Int):AV:=.agg [ii p.1,ii p.2]
def dqr(l:List (Int×Int)):AV:=.slice 2 (l.map pav)
def setsAV(l:List (List Int)):AV:=.slice 1 (l.map dmm)
end Go.Av
namespace Go.Av
open Go Go.Proofs
attribute [local simp] b9v xf bp2 bdb b27 bqz aop bbb bgc St.av St.avs St.sv SV.av zq.get zq.set zq.kill SV.kill St.put St.drop St.right St.move St.keep zq.keep bc8.keep bc8.get bc8.set bbx normal AV.isDat AV.cells St.cellsAt bp4 ddp aun AOp.dst AOp.addr bcp cdk bfx bch kp St.freeze zq.freeze SV.frozen bc8.del bhq bfv bgb bdf bdj bk2 bt1 br0 bmx br5 bmg bgd
structure Dep where
 consts:List Int
 equal:List (Int×Int)
 sets:List (List Int)
def Dep.av(d:Dep):AV:=.agg [dmm d.consts,dqr d.equal,setsAV d.sets]
end Go.Av
namespace Go.Av
open Go Go.Proofs
attribute [local simp] b9v xf bp2 bdb b27 bqz aop bbb bgc St.av St.avs St.sv SV.av zq.get zq.set zq.kill SV.kill St.put St.drop St.right St.move St.keep zq.keep bc8.keep bc8.get bc8.set bbx normal AV.isDat AV.cells St.cellsAt bp4 ddp aun AOp.dst AOp.addr bcp cdk bfx bch kp St.freeze zq.freeze SV.frozen bc8.del bhq bfv bgb bdf bdj bk2 bt1 br0 bmx br5 bmg bgd chh
theorem bzc{α:Type}{f:St→Option (AEx×St)}(l:List α)(p:α→Bool)(st:Nat→St){bad good:AEx×St}(hb:bad.1≠.normal)(hg:good.1≠.normal)
  (hround:∀(i:Nat) x,l[i]? = some x→f (st i)=if p x then some (.normal,st (i+1)) else some bad) (hend:f (st l.length)=some good) :
  zc f (st 0)=if l.all p then some good else some bad:=by
 rcases cg8 p l with h | ⟨j,x,h1,h2,h3⟩
 ·rw[h,if_pos rfl];refine bzb hg l.length 0 (fun k _ hk=>?_) (by rw[dt];exact hend);have hk':k<l.length:=by omega
  rw[hround k l[k] (by simp[hk']),cq.1 h _ (List.getElem_mem hk')];rfl
 ·have hall:l.all p=false:=by
   rw[List.all_eq_false];exact⟨x,cp h1,by simp[h2]⟩
  rw[hall];have hj:j<l.length:=(cf.1 h1).1;refine bzb hb j 0 (fun k _ hk=>?_) (by rw[dt,hround j x h1,h2];rfl);have hk':k<l.length:=by omega
  rw[hround k l[k] (by simp[hk']),h3 k (by omega) l[k] (by simp[hk'])];rfl
end Go.Av
