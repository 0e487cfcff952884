/- Part of syntax_parses. -/
import Derived.Test.YtdcknoijcepibaaGreatDoorQ2
import Derived.Lib.LaidTab
set_option linter.unusedSimpArgs false
set_option linter.unusedVariables false
set_option maxHeartbeats 16000000
namespace Go.Av
open Go
inductive KF where
 | seq (c:ACode)
 | blk (id:Nat)
 | ops (os:List AOper) (q:Bool) (live locs:List Nat)
 | skp (q:Bool) (live locs:List Nat)
 | fin (res:List ARes) (kb:Nat) (S:LB)
noncomputable def btq(rec:Rec)(q:Bool):Rec:=if q then rec.quiet else rec
noncomputable def bhx(rec:Rec):List KF→AEx→St→Option (AEx×St)
 | [],x,s=>some (x,s)
 | .seq c::ks,x,s=>match x with
  | .normal=>(match xf rec c s with | some (y,t)=>bhx rec ks y t | none=>none)
  | x=>bhx rec ks x s
 | .blk id::ks,x,s=>match x with
  | .exit id'=>if id'=id then bhx rec ks .normal s else bhx rec ks (.exit id') s
  | x=>bhx rec ks x s
 | .ops os q live locs::ks,x,s=>match x with
  | .normal=>(match bp2 (btq rec q) os s with
   | some (.normal,t)=>bhx rec ks .normal (t.keep live locs)
   | some (y,t)=>bhx rec ks y t
   | none=>none)
  | x=>bhx rec ks x s
 | .skp q live locs::ks,x,s=>bhx rec ks x s
 | .fin res kb S::ks,x,s=>bhx rec ks x s
noncomputable def bf9(rec:Rec)(o:Option (AEx×St))(ks:List KF):Option (AEx×St):=match o with
 | some (x,s)=>bhx rec ks x s
 | none=>none
noncomputable def kgo(rec:Rec)(c:ACode)(st:St)(ks:List KF):Option (AEx×St):=bf9 rec (xf rec c st) ks
noncomputable def ddk(rec:Rec)(q:Bool)(os:List AOper)(st:St)(live locs:List Nat)(ks:List KF):Option (AEx×St):=bhx rec (.ops os q live locs::ks) .normal st
noncomputable def kop(rec:Rec)(q:Bool)(o:AOp)(st:St)(ks:List KF):Option (AEx×St):=bf9 rec (aop (btq rec q) st o) ks
noncomputable def b67(rec:Rec)(q:Bool)(blk:Option Nat)(o:AOp)(st:St)(ks:List KF):Option (AEx×St):=bf9 rec (b70 (btq rec q) st blk o) ks
noncomputable def bgq(rec:Rec)(s:Option SV)(d:Nat)(st:St)(ks:List KF):Option (AEx×St):=match s with
 | some s=>bhx rec ks .normal (st.put d s)
 | none=>none
theorem xb(rec:Rec)(c:ACode)(st:St):xf rec c st=kgo rec c st []:=by
 unfold kgo bf9;cases xf rec c st with
 | none=>rfl
 | some p=>rfl
def zq.bset:zq→Nat→Bool→zq
 | [],_,_=>[]
 | (j,x)::r,k,t=>if j=k then(j,.v (.bool t))::r else(j,x)::zq.bset r k t
section
variable(rec:Rec)(ks:List KF)(st:St)
noncomputable def kgd(q:Bool)(o:AOp)(want b:Bool)(blk:Option Nat)(os:List AOper)(l lo:List Nat):Option (AEx×St):=
 if b=want then(if bqz st {op:=o,gd:=none,blk:=blk}=true then b67 rec q blk o st (.ops os q l lo::ks) else none)
 else(match o.dst with | some d=>bhx rec (.ops os q l lo::ks) .normal (st.put d .undef) | none=>bhx rec (.ops os q l lo::ks) .normal st)
theorem dg8(x:AEx):bhx rec [] x st=some (x,st):=rfl
theorem dg6(c:ACode):bhx rec (.seq c::ks) .normal st=kgo rec c st ks:=rfl
theorem cgx(c:ACode):bhx rec (.seq c::ks) .ret st=bhx rec ks .ret st:=rfl
theorem cct(c:ACode)(i:Nat):bhx rec (.seq c::ks) (.exit i) st=bhx rec ks (.exit i) st:=rfl
theorem b7s(c:ACode)(v:AV):bhx rec (.seq c::ks) (.panic v) st=bhx rec ks (.panic v) st:=rfl
theorem dg9(i:Nat):bhx rec (.blk i::ks) .normal st=bhx rec ks .normal st:=rfl
theorem cgz(i:Nat):bhx rec (.blk i::ks) .ret st=bhx rec ks .ret st:=rfl
theorem b7v(i:Nat)(v:AV):bhx rec (.blk i::ks) (.panic v) st=bhx rec ks (.panic v) st:=rfl
theorem ccv(i j:Nat):bhx rec (.blk i::ks) (.exit j) st=if j=i then bhx rec ks .normal st else bhx rec ks (.exit j) st:=rfl
theorem dg7(os:List AOper)(q:Bool)(l lo:List Nat):bhx rec (.ops os q l lo::ks) .normal st=ddk rec q os st l lo ks:=rfl
theorem b7t(os:List AOper)(q:Bool)(l lo:List Nat)(v:AV):bhx rec (.ops os q l lo::ks) (.panic v) st=bhx rec ks (.panic v) st:=rfl
theorem dhr(l lo:List Nat):kgo rec (.skip l lo) st ks=bhx rec ks .normal (st.keep l lo):=rfl
theorem dht(i:Nat)(l lo:List Nat):kgo rec (.exit i l lo) st ks=bhx rec ks (.exit i) (st.keep l lo):=rfl
theorem dr6:kgo rec .ret st ks=bhx rec ks .ret st:=rfl
theorem c7v:kgo rec .label st ks=bhx rec ks .normal st:=rfl
theorem c7t(c:ACode):kgo rec (.scope c) st ks=kgo rec c st ks:=rfl
theorem dr5(a b:ACode):kgo rec (.seq a b) st ks=kgo rec a st (.seq b::ks):=by
 unfold kgo;simp only[xf];cases h:xf rec a st with
 | none=>rfl
 | some p=>
  obtain⟨x,s⟩:=p;cases x with
  | normal=>rfl
  | _=>rfl
theorem dhv(c:Opd)(a b:ACode):kgo rec (.cond c a b) st ks=match st.av c with
  | some (.bool t)=>if t=true then kgo rec a st ks else kgo rec b st ks
  | _=>none:=by
 unfold kgo;simp only[xf];cases h:st.av c with
 | none=>rfl
 | some a=>
  cases a with
  | bool t=>cases t<;>rfl
  | _=>rfl
theorem c7x(i:Nat)(c:ACode):kgo rec (.block i c) st ks=kgo rec c st (.blk i::ks):=by
 unfold kgo;simp only[xf];cases h:xf rec c st with
 | none=>rfl
 | some p=>
  obtain⟨x,s⟩:=p;cases x with
  | exit j=>
   simp only[bf9,bhx];by_cases hj:j=i
   ·simp only[hj,if_true,normal]
   ·simp only[hj,if_false]
  | _=>rfl
theorem dhs(c:ACode):kgo rec (.loop c) st ks=bf9 rec (zc (xf rec c) st) ks:=rfl
theorem cx4(d:Nat)(c:ACode):kgo rec (.freeze d c) st ks=match st.freeze d with
  | some st'=>kgo rec c st' ks
  | none=>none:=by
 unfold kgo;simp only[xf];cases st.freeze d<;>rfl
theorem cx3(os:List AOper)(bs:Option (List Nat))(q:Bool)(l lo:List Nat):kgo rec (.region os bs q l lo) st ks=ddk rec q (bkz bs os) (if bs.isSome=true then st.prep os else st) l lo ks:=by
 unfold kgo ddk;simp only[xf,bhx,btq,bf9];cases h:bp2 (if q=true then rec.quiet else rec) (bkz bs os) (if bs.isSome=true then st.prep os else st) with
 | none=>simp
 | some p=>
  obtain⟨x,s⟩:=p;cases x<;>rfl
theorem dhb(q:Bool)(l lo:List Nat):ddk rec q [] st l lo ks=bhx rec ks .normal (st.keep l lo):=rfl
theorem bzf(q:Bool)(o:AOper)(os:List AOper)(l lo:List Nat):ddk rec q (o::os) st l lo ks=bf9 rec (bdb (btq rec q) st o) (.ops os q l lo::ks):=by
 simp only[ddk,bhx,bp2];cases h:bdb (btq rec q) st o with
 | none=>rfl
 | some p=>
  obtain⟨x,s⟩:=p;cases x<;>rfl
theorem czb:bf9 rec none ks=none:=rfl
theorem cx9(x:AEx):bf9 rec (some (x,st)) ks=bhx rec ks x st:=rfl
theorem cg5:bf9 rec (normal st) ks=bhx rec ks .normal st:=rfl
theorem bzh(c:Prop)[Decidable c](a b:Option (AEx×St)):bf9 rec (if c then a else b) ks=if c then bf9 rec a ks else bf9 rec b ks:=by split<;>rfl
theorem cg0(q:Bool)(o:AOp)(blk:Option Nat)(os:List AOper)(l lo:List Nat):ddk rec q ({op:=o,gd:=none,blk:=blk}::os) st l lo ks =
  if bqz st {op:=o,gd:=none,blk:=blk}=true then b67 rec q blk o st (.ops os q l lo::ks) else none:=by
 rw[bzf];simp only[bdb,b27,b67];rw[bzh];rfl
theorem ck8(q:Bool)(o:AOp)(k:Nat)(want:Bool)(blk:Option Nat)(os:List AOper)(l lo:List Nat):ddk rec q ({op:=o,gd:=some (k,want),blk:=blk}::os) st l lo ks =
  match st.σ.get k with
  | .v (.bool b)=>if b=want then(if bqz st {op:=o,gd:=some (k,want),blk:=blk}=true then b67 rec q blk o st (.ops os q l lo::ks) else none)
    else(match o.dst with | some d=>bhx rec (.ops os q l lo::ks) .normal (st.put d .undef) | none=>bhx rec (.ops os q l lo::ks) .normal st)
  | .undef=>(match o.dst with | some d=>bhx rec (.ops os q l lo::ks) .normal (st.put d .undef) | none=>bhx rec (.ops os q l lo::ks) .normal st)
  | _=>none:=by
 rw[bzf];simp only[bdb];cases h:st.σ.get k with
 | v a=>
  cases a with
  | bool b=>
   simp only[];rw[bzh];by_cases hb:b=want
   ·simp only[hb,if_true,b27,b67];rw[bzh];rfl
   ·simp only[hb,if_false];cases o.dst<;>rfl
  | _=>rfl
 | undef=>
  simp only[];cases o.dst<;>rfl
 | _=>rfl
noncomputable def drx(q:Bool)(d:Option Nat)(os:List AOper)(l lo:List Nat):Option (AEx×St):=match d with
 | some d=>bhx rec (.ops os q l lo::ks) .normal (st.put d .undef)
 | none=>bhx rec (.ops os q l lo::ks) .normal st
theorem cv8(q:Bool)(d:Nat)(os:List AOper)(l lo:List Nat):drx rec ks st q (some d) os l lo=bhx rec (.ops os q l lo::ks) .normal (st.put d .undef):=rfl
theorem cv9(q:Bool)(os:List AOper)(l lo:List Nat):drx rec ks st q none os l lo=bhx rec (.ops os q l lo::ks) .normal st:=rfl
theorem zq.bset_same{t:Bool}:∀{s:zq} {k:Nat},s.get k=.v (.bool t)→s.bset k t=s
 | [],k,h=>rfl
 | (j,x)::r,k,h=>by
  simp only[zq.get]at h;simp only[zq.bset];split
  ·rename_i e;rw[if_pos e]at h;rw[h]
  ·rename_i e;rw[if_neg e]at h;rw[zq.bset_same h]
theorem drz(q:Bool)(o:AOp)(k:Nat)(want:Bool)(blk:Option Nat)(os:List AOper)(l lo:List Nat):ddk rec q ({op:=o,gd:=some (k,want),blk:=blk}::os) st l lo ks =
  match st.σ.get k with
  | .v (.bool b)=>if b=true then kgd rec ks {st with σ:=st.σ.bset k true} q o want true blk os l lo else kgd rec ks {st with σ:=st.σ.bset k false} q o want false blk os l lo
  | .undef=>drx rec ks st q o.dst os l lo
  | _=>none:=by
 rw[ck8];cases h:st.σ.get k with
 | v a=>
  cases a with
  | bool b=>
   simp only[];cases b with
   | false=>
    rw[zq.bset_same h];simp only[kgd];cases want<;>rfl
   | true=>
    rw[zq.bset_same h];simp only[kgd];cases want<;>rfl
  | _=>rfl
 | _=>rfl
theorem cxb(s:SV)(d:Nat):bgq rec (some s) d st ks=bhx rec ks .normal (st.put d s):=rfl
theorem cxc(d:Nat):bgq rec none d st ks=none:=rfl
theorem c6t(c:Prop)[Decidable c](a b:Option SV)(d:Nat):bgq rec (if c then a else b) d st ks=if c then bgq rec a d st ks else bgq rec b d st ks:=by split<;>rfl
theorem bbt{q:Bool}{o:AOp}{d:Nat}(hd:o.dst=some d) (h:aop (btq rec q) st o=match bbb st o,o.dst with
  | some s,some d=>normal (st.put d s)
  | _,_=>none):kop rec q o st ks=bgq rec (bbb st o) d st ks:=by
 unfold kop;rw[h,hd];cases bbb st o<;>rfl
theorem dhd(q:Bool){d c a b}:kop rec q (.pick d c a b) st ks=bgq rec (bbb st (.pick d c a b)) d st ks:=bbt rec ks st rfl rfl
theorem dhk(q:Bool){d n ag x}:kop rec q (.load d n ag x) st ks=bgq rec (bbb st (.load d n ag x)) d st ks:=bbt rec ks st rfl rfl
theorem dr4(q:Bool){d op x y}:kop rec q (.bin d op x y) st ks=bgq rec (bbb st (.bin d op x y)) d st ks:=bbt rec ks st rfl rfl
theorem dr2(q:Bool){d neg x y}:kop rec q (.eqb d neg x y) st ks=bgq rec (bbb st (.eqb d neg x y)) d st ks:=bbt rec ks st rfl rfl
theorem kop_un(q:Bool){d op x}:kop rec q (.un d op x) st ks=bgq rec (bbb st (.un d op x)) d st ks:=bbt rec ks st rfl rfl
theorem c7j(q:Bool){d k x}:kop rec q (.convI d k x) st ks=bgq rec (bbb st (.convI d k x)) d st ks:=bbt rec ks st rfl rfl
theorem c7k(q:Bool){d x}:kop rec q (.convB d x) st ks=bgq rec (bbb st (.convB d x)) d st ks:=bbt rec ks st rfl rfl
theorem c7h(q:Bool){d x}:kop rec q (.convS d x) st ks=bgq rec (bbb st (.convS d x)) d st ks:=bbt rec ks st rfl rfl
theorem dhh(q:Bool){d fn first caps}:kop rec q (.mkfn d fn first caps) st ks=bgq rec (bbb st (.mkfn d fn first caps)) d st ks:=bbt rec ks st rfl rfl
theorem cmc(q:Bool){d x j}:kop rec q (.extract d x j) st ks=bgq rec (bbb st (.extract d x j)) d st ks:=bbt rec ks st rfl rfl
theorem c7c(q:Bool){d off n ag x}:kop rec q (.field d off n ag x) st ks=bgq rec (bbb st (.field d off n ag x)) d st ks:=bbt rec ks st rfl rfl
theorem c7d(q:Bool){d off x}:kop rec q (.faddr d off x) st ks=bgq rec (bbb st (.faddr d off x)) d st ks:=bbt rec ks st rfl rfl
theorem cxp(q:Bool){d len sz x i}:kop rec q (.iaddrA d len sz x i) st ks=bgq rec (bbb st (.iaddrA d len sz x i)) d st ks:=bbt rec ks st rfl rfl
theorem cxm(q:Bool){d sz x i}:kop rec q (.iaddrS d sz x i) st ks=bgq rec (bbb st (.iaddrS d sz x i)) d st ks:=bbt rec ks st rfl rfl
theorem dhm(q:Bool){d x i}:kop rec q (.idxS d x i) st ks=bgq rec (bbb st (.idxS d x i)) d st ks:=bbt rec ks st rfl rfl
theorem dhp(q:Bool){d len sz ag x i}:kop rec q (.idxA d len sz ag x i) st ks=bgq rec (bbb st (.idxA d len sz ag x i)) d st ks:=bbt rec ks st rfl rfl
theorem c6x(q:Bool){d sz x lo hi}:kop rec q (.slice d sz x lo hi) st ks=bgq rec (bbb st (.slice d sz x lo hi)) d st ks:=bbt rec ks st rfl rfl
theorem cxf(q:Bool){d x lo hi}:kop rec q (.sliceS d x lo hi) st ks=bgq rec (bbb st (.sliceS d x lo hi)) d st ks:=bbt rec ks st rfl rfl
theorem cxg(q:Bool){d len sz ag x lo hi}:kop rec q (.sliceA d len sz ag x lo hi) st ks=bgq rec (bbb st (.sliceA d len sz ag x lo hi)) d st ks:=bbt rec ks st rfl rfl
theorem c7p(q:Bool){d z parts}:kop rec q (.build d z parts) st ks=bgq rec (bbb st (.build d z parts)) d st ks:=bbt rec ks st rfl rfl
theorem cxh(q:Bool){d x}:kop rec q (.nilchk d x) st ks=bgq rec (bbb st (.nilchk d x)) d st ks:=bbt rec ks st rfl rfl
theorem dhg(q:Bool){d t x}:kop rec q (.mkif d t x) st ks=bgq rec (bbb st (.mkif d t x)) d st ks:=bbt rec ks st rfl rfl
theorem ck9(q:Bool){d t ok z x}:kop rec q (.tassert d t ok z x) st ks=bgq rec (bbb st (.tassert d t ok z x)) d st ks:=bbt rec ks st rfl rfl
theorem dr1(q:Bool){d str x}:kop rec q (.len d str x) st ks=bgq rec (bbb st (.len d str x)) d st ks:=bbt rec ks st rfl rfl
theorem kop_mm(q:Bool){d mx x y}:kop rec q (.mm d mx x y) st ks=bgq rec (bbb st (.mm d mx x y)) d st ks:=bbt rec ks st rfl rfl
theorem c7f(q:Bool){d neg cls x}:kop rec q (.eqnil d neg cls x) st ks=bgq rec (bbb st (.eqnil d neg cls x)) d st ks:=bbt rec ks st rfl rfl
theorem c7g(q:Bool){d neg kk x y}:kop rec q (.eqagg d neg kk x y) st ks=bgq rec (bbb st (.eqagg d neg kk x y)) d st ks:=bbt rec ks st rfl rfl
theorem cg1(q:Bool)(o:AOp):b67 rec q none o st ks=kop rec q o st ks:=by
 unfold b67 kop b70;simp
theorem cxd(q:Bool)(o:AOp)(os:List AOper)(l lo:List Nat):ddk rec q ({op:=o,gd:=none,blk:=none}::os) st l lo ks=kop rec q o st (.ops os q l lo::ks):=by
 rw[cg0,cg1];rfl
theorem ccx(q:Bool)(blk:Option Nat)(o:AOp)(h:o.isCall=false):b67 rec q blk o st ks=kop rec q o st ks:=by
 unfold b67 kop b70;simp[h]
theorem c7s(q:Bool)(blk:Option Nat)(d n:Nat)(ag:Bool)(x:Opd):b67 rec q blk (.load d n ag x) st ks=kop rec q (.load d n ag x) st ks:=ccx rec ks st q blk _ rfl
theorem c7r(q:Bool)(blk:Option Nat)(d:Nat)(x:Opd):b67 rec q blk (.take d x) st ks=kop rec q (.take d x) st ks:=ccx rec ks st q blk _ rfl
theorem cxv(q:Bool)(blk:Option Nat)(x y:Opd)(n:Nat)(t:Bool)(nl:List (Nat×Nat)):b67 rec q blk (.store x y n t nl) st ks=kop rec q (.store x y n t nl) st ks:=ccx rec ks st q blk _ rfl
theorem cxz(q:Bool)(d:Option Nat)(f:Nat)(xs:List Opd):b67 rec q (some 66666) (.call d f xs) st ks=kop rec q (.call d f xs) st ks:=by simp[b67,kop,b70]
theorem cmf(q:Bool)(d:Option Nat)(c:Opd)(xs:List Opd):b67 rec q (some 66666) (.callv d c xs) st ks=kop rec q (.callv d c xs) st ks:=by simp[b67,kop,b70]
noncomputable def b2t(d:Option Nat)(o:Option (AEnd×LB)):Option (AEx×St):=match o with
 | some (.ret r own,S')=>bf9 rec (bch d st (.ret r own) S') ks
 | _=>none
theorem cmk(d:Option Nat)(r:AV)(own:Option Nat)(S':LB):b2t rec ks st d (some (.ret r own,S'))=bf9 rec (bch d st (.ret r own) S') ks:=rfl
theorem cpf(d:Option Nat)(r:AV)(own:Option Nat)(S':LB):∃s,bch d st (.ret r own) S'=some (.normal,s):=by
 unfold bch;cases d with
 | none=>exact⟨_,rfl⟩
 | some d=>cases own<;>exact⟨_,rfl⟩
theorem b8v(d:Option Nat)(o:Option (AEnd×LB)):bf9 rec (cvr (bsd d st o)) ks=b2t rec ks st d o:=by
 cases o with
 | none=>rfl
 | some p=>
  obtain⟨r,S'⟩:=p;cases r with
  | ret r own=>
   obtain⟨s,hs⟩:=cpf st d r own S';simp only[bsd,b2t,hs,cvr]
  | panic v=>rfl
theorem cxx(q:Bool)(d:Option Nat)(f:Nat)(xs:List Opd):b67 rec q (some 66667) (.call d f xs) st ks=match st.avs xs with
  | some as=>b2t rec ks st d (btq rec q f as st.S)
  | none=>none:=by
 have h1:¬ (some 66667:Option Nat)=some 55555:=by simp
 simp only[b67,b70,AOp.isCall,if_true,if_neg h1,cr9];cases st.avs xs with
 | none=>rfl
 | some as=>exact b8v rec ks st d (btq rec q f as st.S)
theorem cmd(q:Bool)(d:Option Nat)(c:Opd)(xs:List Opd):b67 rec q (some 66667) (.callv d c xs) st ks=match st.av c,st.avs xs with
  | some (.clos (.func f) first caps),some as=>b2t rec ks st d (btq rec q f (first++as++caps) st.S)
  | _,_=>none:=by
 have h1:¬ (some 66667:Option Nat)=some 55555:=by simp
 simp only[b67,b70,AOp.isCall,if_true,if_neg h1,ch4];split
 ·rename_i f first caps as h1 h2
  simp only[h1,h2];exact b8v rec ks st d (btq rec q f (first++as++caps) st.S)
 ·rename_i hn;split
  ·rename_i f first caps as h1 h2
   exact absurd h2 (hn f first caps as h1)
  ·rfl
noncomputable def cg3(d:Option Nat)(o:Option (AEnd×LB)):Option (AEx×St):=match o with
 | some (.ret r own,[])=>bf9 rec (bch d st (.ret r own) st.S) ks
 | _=>none
theorem cmj(d:Option Nat)(r:AV)(own:Option Nat):cg3 rec ks st d (some (.ret r own,[]))=bf9 rec (bch d st (.ret r own) st.S) ks:=rfl
theorem cx8(d:Option Nat)(c:Prop)[Decidable c](a b:Option (AEnd×LB)):b2t rec ks st d (if c then a else b)=if c then b2t rec ks st d a else b2t rec ks st d b:=by split<;>rfl
theorem cx7(d:Option Nat)(c:Prop)[Decidable c](a b:Option (AEnd×LB)):cg3 rec ks st d (if c then a else b)=if c then cg3 rec ks st d a else cg3 rec ks st d b:=by split<;>rfl
theorem cx0(q:Bool)(d:Option Nat)(f:Nat)(xs:List Opd):b67 rec q (some 55555) (.call d f xs) st ks=match st.avs xs with
  | some as=>if zd 0 as=true then cg3 rec ks st d (btq rec q f as []) else none
  | none=>none:=by
 simp only[b67,b70,AOp.isCall,if_true,brd];cases st.avs xs with
 | none=>rfl
 | some as=>
  simp only;split
  ·cases btq rec q f as [] with
   | none=>rfl
   | some p=>
    obtain⟨r,S'⟩:=p;cases r with
    | ret r own=>cases S'<;>rfl
    | panic v=>rfl
  ·rfl
noncomputable def cg4(d:Option Nat)(o:Option (AEnd×LB)):Option (AEx×St):=match o with
 | some (r,S')=>bf9 rec (bch d st r S') ks
 | none=>none
theorem cx6(d:Option Nat)(r:AEnd)(S':LB):cg4 rec ks st d (some (r,S'))=bf9 rec (bch d st r S') ks:=rfl
theorem c8b(d:Option Nat)(c:Prop)[Decidable c](a b:Option (AEnd×LB)):cg4 rec ks st d (if c then a else b)=if c then cg4 rec ks st d a else cg4 rec ks st d b:=by split<;>rfl
theorem dhq(q:Bool)(d:Option Nat)(f:Nat)(xs:List Opd):kop rec q (.call d f xs) st ks=match st.avs xs with
  | some as=>cg4 rec ks st d (btq rec q f as st.S)
  | none=>none:=by
 unfold kop cg4;simp only[aop];cases st.avs xs with
 | none=>rfl
 | some as=>
  simp only[];cases btq rec q f as st.S with
  | none=>rfl
  | some p=>rfl
theorem c7m(q:Bool)(d:Option Nat)(c:Opd)(xs:List Opd):kop rec q (.callv d c xs) st ks=match st.av c,st.avs xs with
  | some (.clos (.func f) first caps),some as=>cg4 rec ks st d (btq rec q f (first++as++caps) st.S)
  | _,_=>none:=by
 unfold kop;simp only[aop];split
 ·rename_i f first caps as h1 h2
  simp only[h1,h2];unfold cg4;cases btq rec q f (first++as++caps) st.S with
  | none=>rfl
  | some p=>rfl
 ·rename_i h;split
  ·rename_i f first caps as h1 h2
   exact absurd h2 (h f first caps as h1)
  ·rfl
open Classical in
noncomputable def dvk(o:Option (AEnd×LB))(S:LB):Option (AEnd×LB):=match o with
 | some (.ret r own,S')=>if S'=S then some (.ret r own,S') else none
 | _=>none
theorem ct9(f:Nat)(as:LA)(S:LB):btq rec false f as S=rec f as S:=rfl
theorem c4b(r:AV)(own:Option Nat)(S:LB):dvk (some (.ret r own,S)) S=some (.ret r own,S):=by simp[dvk]
theorem c3z(f:Nat)(as:LA)(S:LB):btq rec true f as S=dvk (rec f as S) S:=by
 rfl
theorem df4(c:Prop)[Decidable c](a b:Option (AEnd×LB))(S:LB):dvk (if c then a else b) S=if c then dvk a S else dvk b S:=by split<;>rfl
theorem dr0(q:Bool){d x t}:kop rec q (.mov d x t) st ks=bhx rec ks .normal (if t=true then st.move d x else st.put d (st.sv x)):=rfl
theorem dhf(q:Bool){d sz e}:kop rec q (.nils d sz e) st ks=bhx rec ks .normal ((st.put d (.v (.slice sz []))).right d e):=rfl
theorem dr3(q:Bool){d sh x nl}:kop rec q (.box d sh x nl) st ks=bf9 rec (aop (btq rec q) st (.box d sh x nl)) ks:=rfl
theorem c7q(q:Bool){d sh z own}:kop rec q (.alloc d sh z own) st ks=bf9 rec (aop (btq rec q) st (.alloc d sh z own)) ks:=rfl
theorem dhc(q:Bool){d x}:kop rec q (.take d x) st ks=bf9 rec (aop (btq rec q) st (.take d x)) ks:=rfl
theorem c6v(q:Bool){x y n t nl}:kop rec q (.store x y n t nl) st ks=bf9 rec (aop (btq rec q) st (.store x y n t nl)) ks:=rfl
theorem cxs(q:Bool){d sz e xs}:kop rec q (.bslice d sz e xs) st ks=bf9 rec (aop (btq rec q) st (.bslice d sz e xs)) ks:=rfl
theorem cxr(q:Bool){d z ps j k}:kop rec q (.buildR d z ps j k) st ks=bf9 rec (aop (btq rec q) st (.buildR d z ps j k)) ks:=rfl
theorem cxt(q:Bool){d sz e b x y}:kop rec q (.append d sz e b x y) st ks=bf9 rec (aop (btq rec q) st (.append d sz e b x y)) ks:=rfl
theorem dhj(q:Bool){d sz e b z n c}:kop rec q (.make d sz e b z n c) st ks=bf9 rec (aop (btq rec q) st (.make d sz e b z n c)) ks:=rfl
theorem c7b(q:Bool){d sz b ag z n c}:kop rec q (.makeL d sz b ag z n c) st ks=bf9 rec (aop (btq rec q) st (.makeL d sz b ag z n c)) ks:=rfl
theorem cxq(q:Bool){d sz e b ag x y}:kop rec q (.cloneL d sz e b ag x y) st ks=bf9 rec (aop (btq rec q) st (.cloneL d sz e b ag x y)) ks:=rfl
theorem cmb(q:Bool){d}:kop rec q (.makeMap d) st ks=bf9 rec (aop (btq rec q) st (.makeMap d)) ks:=rfl
theorem cxk(q:Bool){d ok kd z x k}:kop rec q (.lookup d ok kd z x k) st ks=bf9 rec (aop (btq rec q) st (.lookup d ok kd z x k)) ks:=rfl
theorem cxj(q:Bool){kd x k v}:kop rec q (.mapUpd kd x k v) st ks=bf9 rec (aop (btq rec q) st (.mapUpd kd x k v)) ks:=rfl
theorem c6z(q:Bool){x}:kop rec q (.panic x) st ks=bf9 rec (aop (btq rec q) st (.panic x)) ks:=rfl
end
noncomputable def dh1(res:List ARes)(kb:Nat)(S:LB)(o:Option (AEx×St)):Option (AEnd×LB):=match o with
 | some (.normal,st) | some (.ret,st)=>match bcp st res with
  | some (r,own)=>xr kb S st.S (.ret r own)
  | none=>none
 | some (.panic v,st)=>xr kb S st.S (.panic v)
 | _=>none
theorem afun_k(rec:Rec)(fn:AFun)(args:LA)(S:LB):b9v rec fn args S=if args.length=fn.n then dh1 fn.res fn.keepB S (kgo rec fn.body (bgc args S) []) else none:=by
 unfold b9v dh1;rw[xb];split
 ·cases kgo rec fn.body (bgc args S) [] with
  | none=>rfl
  | some p=>
   obtain⟨x,s⟩:=p;cases x<;>rfl
 ·rfl
theorem c7z(res:List ARes)(kb:Nat)(S:LB):dh1 res kb S none=none:=rfl
theorem dh0(res:List ARes)(kb:Nat)(S:LB)(c:Prop)[Decidable c](a b:Option (AEx×St)):dh1 res kb S (if c then a else b)=if c then dh1 res kb S a else dh1 res kb S b:=by split<;>rfl
noncomputable def kres(kb:Nat)(S S':LB)(o:Option (AV×Option Nat)):Option (AEnd×LB):=match o with
 | some (r,own)=>xr kb S S' (.ret r own)
 | none=>none
theorem c6s(kb:Nat)(S S':LB)(r:AV)(own:Option Nat):kres kb S S' (some (r,own))=xr kb S S' (.ret r own):=rfl
theorem cmh(res:List ARes)(kb:Nat)(S:LB)(st:St):dh1 res kb S (some (.normal,st))=kres kb S st.S (bcp st res):=rfl
theorem dhz(res:List ARes)(kb:Nat)(S:LB)(st:St):dh1 res kb S (some (.ret,st))=kres kb S st.S (bcp st res):=rfl
theorem cx5(res:List ARes)(kb:Nat)(S:LB)(st:St)(v:AV):dh1 res kb S (some (.panic v,st))=xr kb S st.S (.panic v):=rfl
theorem cmg(k:Nat)(S:LB)(e:AEnd):xr k S S e=some (e,S):=by simp[xr]
theorem dgd{α β:Type}(f:α→β)(c:Prop)[Decidable c](a b:Option α):Option.map f (if c then a else b)=if c then Option.map f a else Option.map f b:=by split<;>rfl
theorem c5b{α β:Type}(f:α→Option β)(c:Prop)[Decidable c](a b:Option α):Option.bind (if c then a else b) f=if c then Option.bind a f else Option.bind b f:=by split<;>rfl
attribute [simp] bvg cvc ckz b5f b7m afun_k c7z dh0 cmh dhz cx5 c6s cmg dgd c5b dg8 dg6 cgx cct b7s dg9 cgz b7v ccv dg7 b7t dhr dht dr6 c7v c7t dr5 dhv c7x dhs cx4 cx3 dhb czb cx9 cg5 bzh cxd cg0 cg1 c7s c7r cxv cxz cmf cxx cmd cx0 cmk cmj cx8 cx7 drz kgd cv8 cv9 zq.bset cxb cxc c6t dhd dhk dr4 dr2 kop_un c7j c7h c7k dhh cmc c7c c7d cxp cxm dhm dhp c6x cxf cxg c7p cxh dhg ck9 dr1 kop_mm c7f c7g cx6 c8b dhq c7m ct9 c3z c4b df4 dr0 dhf dr3 c7q dhc c6v cxs cxr cxt dhj c7b cxq cmb cxk cxj c6z
attribute [simp] St.cellBox bd1 bvm bqz AOp.isLoad zd AV.closed aop bbb bgc St.av St.avs St.sv SV.av zq.get zq.set zq.kill SV.kill St.put St.drop St.right St.move St.keep zq.keep bc8.keep bc8.get bc8.set bbx normal AV.isDat AV.cells St.cellsAt bp4 ddp aun AOp.dst AOp.addr bcp cdk bfx bch kp St.freeze zq.freeze SV.frozen bc8.del bhq bfv bgb bdf bdj bk2 bt1 b43 b88 br0 bmx br5 bgd chh bqb St.prep b8z zq.killAll AOp.news AV.isAgg bqs crt
end Go.Av
namespace Go.Av
open Go
theorem crc{P:Program}{W:World}{n:String}{d:DataW Unit}:∀{l:List (String×DataW Unit)} {ps:List MemPlace},DataW.LaidVars P W l ps→(n,d)∈l →
  ∃g t cs fuel p,P.globalNamed n=some g∧(P.globals[g]?).map (·.type)=some t∧W.var? P n=some cs∧DataW.trod (fun _=>()) P W 0 (fun _=>true) false fuel t cs.toList=some (d,p)
 | [],_,_,hm=>by cases hm
 | (n',d')::r,ps,h,hm=>by
  obtain⟨g,t,cs,fuel,p,q,h1,h2,h3,h4,h5,_⟩:=h;rcases dc.1 hm with e | hm
  ·obtain⟨rfl,rfl⟩:=Prod.mk.inj e;exact⟨g,t,cs,fuel,p,h1,h2,h3,h4⟩
  ·exact crc h5 hm
theorem dvq{P:Program}{W:World}{name:String}{k:IntKind}{zs:List Int}{laid:List (String×DataW Unit)}{g:Nat}{t e:TypeId}{n:Nat}
  (hg:P.globalNamed name=some g) (hty:(P.globals[g]?).map (·.type)=some t) (ht:P.underlying t=some (.array n e)) (he:P.underlying e=some (.int k)) (hce:P.cellsOf e=1) (hct:P.cellsOf t=n)
  (h:laidMet P laid W) (hm:(name,Lib.tabData k zs)∈laid):Lib.TabIs P W name k zs:=by
 obtain⟨ps,hv,_⟩:=h;obtain⟨g',t',cs,fuel,p,hg',ht',hvar,hd⟩:=crc hv hm;obtain rfl:=bf (hg.symm.trans hg');obtain rfl:=bf (hty.symm.trans ht');unfold Lib.TabIs;rw[hvar,← Lib.cells_of_tab ht he hce hct hd]
end Go.Av
