/- Part of syntax_parses. -/
import Derived.Test.YtdcknoijcepibaaGreatDoorQ3
set_option linter.unusedSimpArgs false
set_option linter.unusedVariables false
set_option maxHeartbeats 16000000
namespace Go.Av
open Go
theorem xq{f:St→Option (AEx×St)}{s t:St}(h:f s=some (.normal,t)):zc f s=zc f t:=by rw[bmf,h]
theorem xc{f:St→Option (AEx×St)}{s:St}{r:AEx×St}(h:f s=some r)(hr:r.1≠.normal):zc f s=some r:=by
 rw[bmf,h];obtain⟨x,t⟩:=r;cases x<;>simp_all
def cbh{α β γ:Type}(step:β→α→β ⊕ γ)(fin:β→γ):List α→β→γ
 | [],b=>fin b
 | x::l,b=>match step b x with
  | .inl b'=>cbh step fin l b'
  | .inr r=>r
theorem b5v{f:St→Option (AEx×St)}{α β:Type}(l:List α)(st:β→Nat→St)(step:β→α→β ⊕ (AEx×St))(fin:β→AEx×St)(Inv:Nat→β→Prop){b0:β}(h0:Inv 0 b0)
  (hround:∀(i:Nat) b x,Inv i b→l[i]? = some x→(∃b',step b x=.inl b'∧f (st b i)=some (.normal,st b' (i+1))∧Inv (i+1) b')∨(∃r,step b x=.inr r∧f (st b i)=some r∧r.1≠.normal))
  (hend:∀b,Inv l.length b→f (st b l.length)=some (fin b)∧(fin b).1≠.normal):zc f (st b0 0)=some (cbh step fin l b0):=by
 have key:∀(m:List α) (pre:List α) (b:β),l=pre++m→Inv pre.length b→zc f (st b pre.length)=some (cbh step fin m b):=by
  intro m
  induction m with
  | nil=>
   intro pre b e hi;simp only[mb]at e;subst e;obtain⟨h1,h2⟩:=hend b hi;rw[xc h1 h2];rfl
  | cons x m ih=>
   intro pre b e hi;have hx:l[pre.length]? = some x:=by rw[e];simp
   rcases hround pre.length b x hi hx with⟨b',h1,h2,h3⟩ | ⟨r,h1,h2,h3⟩
   ·rw[xq h2];have:=ih (pre++[x]) b' (by rw[e];simp) (by simpa using h3);simp only[dh,cm,ct,dt]at this;rw[this,cbh,h1]
   ·rw[xc h2 h3,cbh,h1]
 exact key l [] b0 rfl h0
theorem c6g{f:St→Option (AEx×St)}{α β:Type}(l:List α)(st:β→Nat→St)(g:β→α→β)(fin:β→AEx×St)(Inv:Nat→β→Prop){b0:β}(h0:Inv 0 b0)
  (hround:∀(i:Nat) b x,Inv i b→l[i]? = some x→f (st b i)=some (.normal,st (g b x) (i+1))∧Inv (i+1) (g b x))
  (hend:∀b,Inv l.length b→f (st b l.length)=some (fin b)) (hfin:∀b,(fin b).1≠.normal):zc f (st b0 0)=some (fin (l.foldl g b0)):=by
 have h:=b5v (f:=f) l st (fun b x=>.inl (g b x)) fin Inv h0 (fun i b x hi hx=>.inl ⟨g b x,rfl,hround i b x hi hx⟩) (fun b hb=>⟨hend b hb,hfin b⟩);have e:∀(l:List α) b,cbh (fun b x=>.inl (g b x)) fin l b=fin (l.foldl g b):=by
  intro l
  induction l with
  | nil=>intro b;rfl
  | cons x l ih=>intro b;simp only[cbh,jv,ih]
 rw[h,e]
theorem ilt{α:Type}{l:List α}{i:Nat}{x:α}(h:l[i]? = some x):(i:Int)<(l.length:Int):=by
 have:=(cf.1 h).1;omega
theorem b72{x:Int}(h0:-9223372036854775808≤x)(h1:x≤9223372036854775807):IntKind.wrap .i64 x=x:=by
 simp[IntKind.wrap,IntKind.bits,IntKind.signed];omega
theorem bp7{n:Nat}(h:n<9223372036854775807):IntKind.wrap .i64 ((n:Int)+1)=(n:Int)+1:=b72 (by omega) (by omega)
end Go.Av
namespace Go.Av
open Go
def bs(l:LU):ByteArray:=⟨l.toArray⟩
theorem dtb(s:ByteArray):s=bs s.data.toList:=by cases s;simp[bs]
theorem zj(l:LU):(bs l).size=l.length:=by simp[bs,ByteArray.size]
theorem bpc(l:LU):(bs l).data.toList=l:=by simp[bs]
theorem zm(l:LU):(bs l).toList=l:=by
 rw[ByteArray.toList_eq];simp[bs]
theorem bc6(l:LU)(i:Nat):(bs l)[i]? = l[i]?:=by
 by_cases h:i<l.length
 ·rw[getElem?_pos (bs l) i (by rw[zj];exact h),cz h];rfl
 ·rw[getElem?_neg (bs l) i (by rw[zj];exact h),fg (by omega)]
theorem bdm(l r:LU):bs l++bs r=bs (l++r):=by
 apply ByteArray.ext;simp[bs]
theorem bct(l:LU)(i j:Nat):(bs l).extract i j=bs ((l.take j).drop i):=by
 apply ByteArray.ext;simp[bs,sd]
theorem chs{l r:LU}(h:bs l=bs r):l=r:=by
 have:=congrArg (fun s=>s.data.toList) h;simpa[bs] using this
end Go.Av
