/- Part of syntax_parses. -/
import Derived.Test.YtdcknoijcepibaaGreatDoorQ4
import Derived.Test.YtdcknoijcepibaaGreatDoorQ8
import Derived.Lib.ItoaNum
import Derived.Lib.AtoiAll
import Derived.Lib.Fields
import Derived.Lib.ReplaceLaws
set_option linter.unusedSimpArgs false
set_option linter.unusedVariables false
set_option maxRecDepth 100000
set_option maxHeartbeats 16000000
namespace Go.Av
open Go Go.Proofs
def bc9(n:Int):LU:=if n<0 then 45::Lib.decDigits n.natAbs else Lib.decDigits n.toNat
theorem dr7{n:Int}(h0:-9223372036854775808≤n)(h1:n≤9223372036854775807):dh3 n=bs (bc9 n):=crg h0 h1
def bzs(l:LU):Nat:=l.foldl (fun a c=>a*10+(c.toNat - 48)) 0
theorem cmv(l:LU)(c:UInt8):bzs (l++[c])=bzs l*10+(c.toNat - 48):=by simp[bzs]
theorem btb(u:Nat):bzs (Lib.decDigits u)=u:=by
 induction u using Nat.strongRecOn with
 | _ u ih=>
  rw[Lib.decDigits];split
  ·rename_i h;simp[bzs,UInt8.toNat_ofNat'];omega
  ·rename_i h;rw[cmv,ih (u / 10) (by omega)];simp[UInt8.toNat_ofNat'];omega
theorem bzt{a b:Nat}(h:Lib.decDigits a=Lib.decDigits b):a=b:=by rw[← btb a,h,btb]
def b7x(c:UInt8):Prop:=48≤c.toNat∧c.toNat≤57
theorem bkg(u:Nat):Lib.decDigits u≠[]∧∀c∈Lib.decDigits u,b7x c:=by
 induction u using Nat.strongRecOn with
 | _ u ih=>
  rw[Lib.decDigits];split
  ·rename_i h;refine⟨by simp,fun c hc=>?_⟩;obtain rfl:=ff.1 hc;simp[b7x,UInt8.toNat_ofNat'];omega
  ·rename_i h;refine⟨by simp,fun c hc=>?_⟩;rcases d7.1 hc with hc | hc
   ·exact(ih (u / 10) (by omega)).2 c hc
   ·obtain rfl:=ff.1 hc;simp[b7x,UInt8.toNat_ofNat'];omega
theorem bkf:∀(k n:Nat),n<10 ^ (k+1)→(Lib.decDigits n).length≤k+1
 | 0,n,h=>by rw[Lib.decDigits];simp at h;simp[h]
 | k+1,n,h=>by
  rw[Lib.decDigits];split
  ·simp
  ·have:n / 10<10 ^ (k+1):=by rw[Nat.pow_succ]at h;omega
   have:=bkf k (n / 10) this;simp;omega
theorem cg7{n:Int}(h0:-9223372036854775808≤n)(h1:n≤9223372036854775807):(bc9 n).length≤21:=by
 unfold bc9;split
 ·have:=bkf 19 n.natAbs (by omega);simp;omega
 ·have:=bkf 19 n.toNat (by omega);omega
theorem bk4{n:Int}(h:0≤n):bc9 n=Lib.decDigits n.toNat:=by unfold bc9;rw[if_neg (by omega)]
theorem c8d{a b:Int}(h:bc9 a=bc9 b):a=b:=by
 have neg:∀(x y:Int),x<0→¬ y<0→bc9 x≠bc9 y:=by
  intro x y hx hy e;unfold bc9 at e;rw[if_pos hx,if_neg hy]at e;have:=(bkg y.toNat).2 45 (by rw[← e];simp);simp[b7x]at this
 by_cases ha:a<0
 ·by_cases hb:b<0
  ·unfold bc9 at h;rw[if_pos ha,if_pos hb]at h;have:=bzt (List.cons.inj h).2;omega
  ·exact absurd h (neg a b ha hb)
 ·by_cases hb:b<0
  ·exact absurd h.symm (neg b a hb ha)
  ·unfold bc9 at h;rw[if_neg ha,if_neg hb]at h;have:=bzt h;omega
theorem cf8:∀(l:LU) (acc:Nat),(∀c∈l,b7x c)→l.foldl (fun a c=>a*10+(c.toNat - 48)) acc<9223372036854775808→Lib.parseUint10 acc l=.ok (l.foldl (fun a c=>a*10+(c.toNat - 48)) acc)
 | [],acc,_,_=>rfl
 | c::l,acc,hd,hv=>by
  have hc:=hd c (.head _);have grow:∀(l:LU) (a:Nat),a≤l.foldl (fun a c=>a*10+(c.toNat - 48)) a:=by
   intro l
   induction l with
   | nil=>intro a;exact cj _
   | cons c l ih=>intro a;rw[jv];exact dg (by omega) (ih _)
  rw[jv]at hv ⊢;have:=grow l (acc*10+(c.toNat - 48));unfold b7x at hc;rw[Lib.parseUint10,if_pos hc,if_neg (by omega),if_neg (by omega)];exact cf8 l _ (fun c hc=>hd c (.tail _ hc)) hv
theorem ch1{n:Int}(h0:0≤n)(h1:n≤9223372036854775807):Lib.atoiAll (bc9 n)=.ok n:=by
 rw[bk4 h0];obtain⟨hne,hd⟩:=bkg n.toNat;have hv:=btb n.toNat;have hp:=cf8 (Lib.decDigits n.toNat) 0 hd (by unfold bzs at hv;rw[hv];omega);cases hl:Lib.decDigits n.toNat with
 | nil=>exact absurd hl hne
 | cons c l=>
  rw[hl]at hd hp hv;have hc:=hd c (.head _);unfold b7x at hc;unfold Lib.atoiAll;have h43:¬ c.toNat=43:=by omega
  have h45:¬ c.toNat=45:=by omega
  simp only[h43,h45,or_self,if_false];have hm:Lib.parseMag (c::l)=.ok n.toNat:=by
   unfold Lib.parseMag;rw[if_neg (by simp),hp];unfold bzs at hv;rw[hv]
  rw[hm];have hn:¬ 9223372036854775808≤n.toNat:=by omega
  simp[hn];omega
end Go.Av
namespace Go.Av
open Go Go.Proofs
def cc9(c:UInt8):Bool:=decide (48≤c.toNat)&&decide (c.toNat≤57)
def c6f(c:UInt8):Bool:=decide (97≤c.toNat)&&decide (c.toNat≤122)
def upB(c:UInt8):Bool:=decide (65≤c.toNat)&&decide (c.toNat≤90)
def b31(c:UInt8):Bool:=c6f c||cc9 c||decide (c.toNat=95)
def bbd(c:UInt8):UInt8:=if upB c then UInt8.ofNat (c.toNat+32) else c
theorem b02(c:UInt8):(bbd c).toNat=if upB c then c.toNat+32 else c.toNat:=by
 unfold bbd;split
 ·rename_i h;simp only[upB,bp,decide_eq_true_eq]at h;simp[UInt8.toNat_ofNat'];omega
 ·rfl
def qGo:Nat→LU→Nat
 | _,[]=>0
 | n,[c]=>if c=39 then n+1 else 0
 | n,c::d::r=>if c=39 then(if d=39 then qGo (n+2) r else n+1) else qGo (n+1) (d::r)
def bdr(s:LU):Nat:=qGo 1 (s.drop 1)
theorem cb8:∀(k:Nat) (n:Nat) (r:LU),r.length≤k→qGo n r=0∨(n<qGo n r∧qGo n r - n≤r.length∧r[qGo n r - n - 1]? = some 39 ∧
  ∀z:LU,z.head?≠some 39→qGo n (r.take (qGo n r - n)++z)=qGo n r)
 | k,n,[],_=>.inl rfl
 | 0,n,c::r,h=>by simp at h
 | k+1,n,c::r,h=>by
  by_cases hc:c=39
  ·subst hc
   match r,h with
   | [],_=>
    right;have e:qGo n [39]=n+1:=by simp[qGo]
    rw[e];refine⟨by omega,by simp,by simp,fun z hz=>?_⟩;have:n+1 - n=1:=by omega
    rw[this];cases z with
    | nil=>simp[qGo]
    | cons d z=>
     have:¬ d=39:=fun e=>hz (by simp[e])
     simp[qGo,this]
   | d::r,h=>
    by_cases hd:d=39
    ·subst hd;have e:qGo n (39::39::r)=qGo (n+2) r:=by simp[qGo]
     rw[e];rcases cb8 k (n+2) r (by simp at h;omega) with h0 | ⟨h1,h2,h3,h4⟩
     ·exact .inl h0
     ·right;refine⟨by omega,by simp;omega,?_,fun z hz=>?_⟩
      ·have:qGo (n+2) r - n - 1=(qGo (n+2) r - (n+2) - 1)+2:=by omega
       rw[this];simpa using h3
      ·have:qGo (n+2) r - n=(qGo (n+2) r - (n+2))+2:=by omega
       rw[this];simp only[jd,dv];have e2:∀x,qGo n (39::39::x)=qGo (n+2) x:=fun x=>by simp[qGo]
       rw[e2];exact h4 z hz
    ·right;have e:qGo n (39::d::r)=n+1:=by simp[qGo,hd]
     rw[e];refine⟨by omega,by simp,by simp,fun z hz=>?_⟩;have:n+1 - n=1:=by omega
     rw[this];cases z with
     | nil=>simp[qGo]
     | cons d z=>
      have:¬ d=39:=fun e=>hz (by simp[e])
      simp[qGo,this]
  ·have e:∀x,qGo n (c::x)=qGo (n+1) x:=fun x=>by cases x<;>simp[qGo,hc]
   rw[e];rcases cb8 k (n+1) r (by simp at h;omega) with h0 | ⟨h1,h2,h3,h4⟩
   ·exact .inl h0
   ·right;refine⟨by omega,by simp;omega,?_,fun z hz=>?_⟩
    ·have:qGo (n+1) r - n - 1=(qGo (n+1) r - (n+1) - 1)+1:=by omega
     rw[this];simpa using h3
    ·have:qGo (n+1) r - n=(qGo (n+1) r - (n+1))+1:=by omega
     rw[this];simp only[jd,dv];rw[e];exact h4 z hz
def und:LU→LU
 | []=>[]
 | [c]=>[c]
 | c::d::r=>if c=39∧d=39 then 39::und r else c::und (d::r)
def bf7(t:LU):Bool:=decide ((und t).length≤200)&&(und t).all fun b=>decide (32≤b.toNat)&&decide (b.toNat≤126)
def dgv(s:LU):LU:=(s.take (s.length - 1)).drop 1
def bdd : LV := ["all", "and", "as", "asc", "between", "by", "case", "cross", "desc", "distinct", "else", "end", "except", "exists", "false", "from", "full", "group", "having", "in", "inner", "intersect", "is", "join", "left", "limit", "not", "null", "offset", "on", "or", "order", "outer", "right", "select", "then", "true", "union", "values", "when", "where"].map fun s => s.toUTF8.data.toList
def bcj:LV:=[[60,61],[62,61],[60,62],[124,124],[40],[41],[44],[46],[42],[43],[45],[47],[37],[61],[60],[62],[59]]
def bfg(s:LU):Bool:=match s with
 | []=>false
 | c::r=>decide (s.length≤20)&&c6f c&&s.all b31
structure Tok where
 k:Int
 t:LU
 at':Nat
abbrev LT:=List Tok
def bvj(numOk:LU→Bool)(s:LU):Option (Int×LU):=
 if s.head? = some 39 then
  (if bdr s=0 then none else if bf7 (dgv (s.take (bdr s))) then some (4,s.take (bdr s)) else none)
 else
  let b:=(s.takeWhile fun c=>b31 (bbd c)).map bbd
  if b=[] then(bcj.find? fun x=>x.isPrefixOf s).map fun x=>(5,x)
  else if b∈bdd then some (1,b)
  else if bfg b then some (2,b)
  else if numOk b then some (3,b)
  else none
def chv(c:UInt8):Bool:=decide (c=32)||decide (c=10)
def b66(numOk:LU→Bool):Nat→LU→Nat→Option (LT)
 | 0,_,_=>none
 | _+1,[],_=>some []
 | f+1,c::r,n=>if chv c then b66 numOk f r (n+1) else match bvj numOk (c::r) with
  | some (k,t)=>(b66 numOk f ((c::r).drop t.length) (n+t.length)).map fun l=>⟨k,t,n⟩::l
  | none=>none
theorem bx3{numOk:LU→Bool}{s:LU}{k:Int}{t:LU}(h:bvj numOk s=some (k,t)):1≤t.length∧t.length≤s.length:=by
 unfold bvj at h;split at h
 ·rename_i hq;split at h
  ·cases h
  ·rename_i hn;split at h
   ·simp only[bd,bq]at h;obtain⟨_,rfl⟩:=h;unfold bdr at *;rcases cb8 _ 1 (s.drop 1) (cj _) with h0 | ⟨h1,h2,_⟩
    ·exact absurd h0 hn
    ·rw[fb]at h2;have hs:1≤s.length:=by cases s with | nil=>simp at hq | cons=>simp
     rw[dp];omega
   ·cases h
 ·simp only at h;have hb:∀x:LU,x=(s.takeWhile fun c=>b31 (bbd c)).map bbd→x≠[]→1≤x.length∧x.length≤s.length:=by
   rintro x rfl hne;refine⟨kj.2 hne,?_⟩;rw[mc];exact(pc _).length_le
  split at h
  ·simp only[bv,bq]at h;obtain⟨x,hx,_,rfl⟩:=h;have h1:=t7 hx;have h2:=List.find?_some hx;refine⟨?_,(f9.1 h2).length_le⟩;have:∀y∈bcj,1≤y.length:=by decide
   exact this x h1
  ·rename_i hne;split at h
   ·simp only[bd,bq]at h;exact hb t h.2.symm (h.2▸hne)
   ·split at h
    ·simp only[bd,bq]at h;exact hb t h.2.symm (h.2▸hne)
    ·split at h
     ·simp only[bd,bq]at h;exact hb t h.2.symm (h.2▸hne)
     ·cases h
end Go.Av
