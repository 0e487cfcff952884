/- Part of syntax_parses. -/
import Derived.Test.YtdcknoijcepibaaGreatDoorQ5
import Derived.Test.YtdcknoijcepibaaGreatDoorQ12
import Derived.RangeFuncNested
import Derived.RangeFuncBound
import Derived.RangeFuncCalls
import Derived.RangeFuncLeaves
import Derived.Shelf.Abstract
import Derived.Shelf.RegionOpen
import Derived.WalkKit
import Derived.OwnWalkIn
import Derived.TacticsInMore
import Derived.LoopNIn
import Derived.LoopIn
import Derived.WalkMore
import Derived.Maps.AppendAt
set_option linter.unusedSimpArgs false
set_option linter.unusedVariables false
set_option maxRecDepth 100000
set_option maxHeartbeats 16000000
namespace Go.Av
open Go Go.Proofs Go.RowKit Go.Shelf
attribute [local go_sem] Oper.semAt_some
structure Yd where
 k:Int
 t:ByteArray
 at':Nat
 ok:Bool
def Yd.row(y:Yd):List Value:=[.int .i64 y.k,.string y.t,.int .i64 (y.at':Int)]
abbrev Yd.enc(y:Yd):Array Value:=#[.agg #[.int .i64 y.k,.string y.t,.int .i64 (y.at':Int)],.bool y.ok]
def ydL(nx:ByteArray→Int×ByteArray×Nat)(s:ByteArray):Nat→Nat→List Yd
 | 0,_=>[]
 | f+1,at'=>if at'<s.size then(if s[at']! = 32∨s[at']! = 10 then ydL nx s f (at'+1) else
   ⟨(nx (s.extract at' s.size)).1,(nx (s.extract at' s.size)).2.1,at',decide (0<(nx (s.extract at' s.size)).2.2)⟩::(if(nx (s.extract at' s.size)).2.2=0 then [] else ydL nx s f (at'+(nx (s.extract at' s.size)).2.2))) else []
section
variable(nx:ByteArray→Int×ByteArray×Nat)(W0:World)(MO:Obj→Prop)
def dcq:Prop:=∀W,Below W0.heap.size W0 W→Calls Tryz.prog 66 #[] W fun e W'=>Below W.heap.size W W'∧∃b o,e=.returned (.map (some b))∧W.heap.size≤b∧W'.heap[b]? = some o∧MO o
structure KB(b:Nat)(W W':World):Prop where
 os:W'.os=W.os
 tape:W'.tape=W.tape
 output:W'.output=W.output
 size:W.heap.size≤W'.heap.size
 block:∀k,k<W.heap.size→k≠b→W'.heap[k]? = W.heap[k]?
theorem KB.below{b B:Nat}{W W':World}(h:KB b W W')(hb:B≤b)(hB:B≤W.heap.size):Below B W W':=⟨h.os,h.tape,h.output,h.size,fun k hk=>h.block k (by omega) (by omega)⟩
def cpq:Prop:=∀W s b o,Below W0.heap.size W0 W→W0.heap.size≤b→0<s.size→s.size≤4000→W.heap[b]? = some o→MO o→Calls Tryz.prog 67 #[.string s,.map (some b)] W fun e W'=>KB b W W'∧(∃o',W'.heap[b]? = some o'∧MO o') ∧
 e=.returned (.tuple #[.agg #[.int .i64 (nx s).1,.string (nx s).2.1,.int .i64 0],.int .i64 ((nx s).2.2:Int)])
end
theorem b4f{P:Program}{n:Nat}{c:Code}{Q:Exit→Act→World→Prop}{a:Act}{w:World}(h:c.wpIn Fence.wide n P (Exit.noGoto Q) a w):(Code.scope c).wpIn Fence.wide n P Q a w:=
 wpIn_wide.2 (wp_scope_straight (wpIn_wide.1 h))
theorem ctb{nx:ByteArray→Int×ByteArray×Nat}{W0:World}{MO:Obj→Prop}(hSet:dcq W0 MO)(hNext:cpq nx W0 MO)(hnx:∀s,(nx s).2.2≤s.size)(hMO:∀o,MO o→b2v o=true)
  (n:Nat) (l Bn n₀:Nat) (s:ByteArray) (hs:s.size≤4000) (hn₀:W0.heap.size≤n₀) (J Jx:List Yd→World→Prop)
  (n₁:Nat) (hJ:∀pre A B,J pre A→KN n₁ A B→J pre B)
  (hY:∀pre x W,J pre W→pre++[x] <+: ydL nx s (s.size+1) 0→YieldAt Fence.wide (n - 1) Tryz.prog l x.enc W fun e W'=>
   (e=.returned (.bool true)∧J (pre++[x]) W'∧Below n₀ W W'∧W'.heap[Bn]? = W.heap[Bn]?∧(∀(k:Nat) (o:Obj),W.heap[k]? = some o→MO o→W'.heap[k]? = some o))∨(e=.returned (.bool false)∧Jx (pre++[x]) W'))
  (W:World) (hn₁:n₁=W.heap.size) (hn:n₀≤W.heap.size) (hW:Below W0.heap.size W0 W) (hBn:W.heap[Bn]? = some (.cells #[.string s] 9 (0,0))) (h0:J [] W) :
  CallsIn Fence.wide n Tryz.prog 65 #[.func (.yield l) #[] #[],.pointer (some ⟨Bn,0,none⟩)] W fun e W'=>(∃v,e=.returned v) ∧
   (J (ydL nx s (s.size+1) 0) W'∨∃pre,pre <+: ydL nx s (s.size+1) 0∧Jx pre W'):=by
 refine callsIn_of_wp Tryz.func65 rfl trivial ?_ rfl;simp only[Tryz.ntmps65,jk,cm,ct,Nat.reduceAdd,Nat.reduceSub,jx,jz,md,km,gj,dv];have hc0:W.cell? ⟨Bn,0,none⟩=some (.string s):=by simp[World.cell?,hBn]
 gi_wp2
 refine b4f ?_
 gi_wp2_with (refine⟨trivial,(fun h=>by cases h),?_⟩;gi_at_call 66;refine(callsIn_wide.2 (hSet _ hW)).mono ?_;rintro e w' ⟨hb',b,o,rfl,hbW,hbo,hmo⟩)
 refine wpIn_label ?_
 gi_wp2
 gi_loopw [4] (fun p wr=>∃(a:Nat) (f:Nat) (pre:List Yd),p=.int .i64 (a:Int)∧a≤s.size∧s.size - a<f∧ydL nx s (s.size+1) 0=pre++ydL nx s f a∧J pre wr∧Below W0.heap.size W0 wr∧n₀≤wr.heap.size ∧
   wr.heap[Bn]? = some (.cells #[.string s] 9 (0,0))∧n₁≤wr.heap.size∧∃o,wr.heap[b]? = some o∧MO o)
  (fun p _=>s.size - (intOf p).toNat)
 case atStart=>
  have hlt:Bn<W.heap.size:=(db.1 hBn).1;exact⟨0,s.size+1,[],rfl,sg _,by omega,rfl,hJ _ _ _ h0 (KN.of_below (by omega) hb'),hW.trans (hb'.mono hW.size),dg hn hb'.size,(hb'.block _ hlt).trans hBn,by rw[hn₁];exact hb'.size,o,hbo,hmo⟩
 case round=>
  obtain⟨a,f,pre,rfl,ha,hf,hyd,hJr,hWr,hnr,hBr,hwr,o',hbr,hmr⟩:=hrel;have hcr:wr.cell? ⟨Bn,0,none⟩=some (.string s):=by simp[World.cell?,hBr]
  obtain⟨f,rfl⟩:∃g,f=g+1:=⟨f - 1,by omega⟩;by_cases hlt:a<s.size
  rotate_left
  ·have hd:((a:Int)<(s.size:Int))=False:=by simp;omega
   gi_wp2
   simp only[Exit.noGoto]
   go_end0
   have:ydL nx s (f+1) a=[]:=by rw[ydL,if_neg hlt]
   rw[this,mb]at hyd;exact⟨⟨_,rfl⟩,.inl (by rw[hyd];exact hJr)⟩
  have hbg:s[a]! = s[a]:=getElem!_pos s a hlt;have hyn:ydL nx s (f+1) a=(if s[a]! = 32∨s[a]! = 10 then ydL nx s f (a+1) else
   ⟨(nx (s.extract a s.size)).1,(nx (s.extract a s.size)).2.1,a,decide (0<(nx (s.extract a s.size)).2.2)⟩::(if(nx (s.extract a s.size)).2.2=0 then [] else ydL nx s f (a+(nx (s.extract a s.size)).2.2))):=by
   rw[ydL,if_pos hlt]
  have hN:=hNext wr (s.extract a s.size) b o' hWr (dg hW.size hbW) (by simp[ByteArray.size_extract];omega) (by simp[ByteArray.size_extract];omega) hbr hmr;have hm:=hnx (s.extract a s.size);have hes:(s.extract a s.size).size=s.size - a:=by simp[ByteArray.size_extract]
  rw[hes]at hm;rcases hK:nx (s.extract a s.size) with⟨k,t,m⟩
  rw[hK]at hN hm hyn;simp only at hN hm hyn;have stay:∀{w3:World},Below n₀ wr w3→Below W0.heap.size W0 w3:=fun h=>hWr.trans (h.mono hn₀)
  have hbk:(((s[a].toNat:Int)==32)=true∨((s[a].toNat:Int)==10)=true)→s[a]! = 32∨s[a]! = 10:=by
   rw[hbg];rintro(h | h)
   ·left;simp only[beq_iff_eq]at h;exact UInt8.toNat_inj.1 (by simp;omega)
   ·right;simp only[beq_iff_eq]at h;exact UInt8.toNat_inj.1 (by simp;omega)
  have hbn:((s[a].toNat:Int)==32)=false→((s[a].toNat:Int)==10)=false→¬ (s[a]! = 32∨s[a]! = 10):=by
   rw[hbg];intro h1 h2;simp only[beq_eq_false_iff_ne,ne_eq]at h1 h2;rintro(h | h)<;>rw[h]at h1 h2<;>simp at h1 h2
  have blank:s[a]! = 32∨s[a]! = 10→ydL nx s (s.size+1) 0=pre++ydL nx s f (a+1):=fun h=>by rw[hyd,hyn,if_pos h]
  have other:¬ (s[a]! = 32∨s[a]! = 10)→ydL nx s (s.size+1) 0=(pre++[⟨k,t,a,decide (0<m)⟩])++(if m=0 then [] else ydL nx s f (a+m)):=fun h=>by rw[hyd,hyn,if_neg h,gq];rfl
  clear hyn hyd
  gi_wp2_with (refine⟨trivial,(fun h=>by cases h),?_⟩;gi_at_call 67;refine(callsIn_wide.2 hN).mono ?_;rintro e w2 ⟨hb2,⟨o2,hbo2,hmo2⟩,rfl⟩)
  ·rename_i h _;refine⟨⟨a+1,f,pre,by simp,by omega,by omega,blank (hbk (.inl h)),hJr,hWr,hnr,hBr,hwr,o',hbr,hmr⟩,by simp[intOf];omega⟩
  ·rename_i _ h;refine⟨⟨a+1,f,pre,by simp,by omega,by omega,blank (hbk (.inr h)),hJr,hWr,hnr,hBr,hwr,o',hbr,hmr⟩,by simp[intOf];omega⟩
  ·rename_i h1 h2 _ _ _ _ _ _;have hno:=other (hbn h1 h2);clear other blank hbk hbn;obtain⟨w3,hw3⟩:∃w3,w2.alloc (.cells #[.int .i64 k,.string t,.int .i64 (a:Int)] 98)=w3:=⟨_,rfl⟩;rw[hw3];have hb3:KB b wr w3:=by
    rw[← hw3];have h:=(Below.refl _ w2).alloc (cj _) (.cells #[.int .i64 k,.string t,.int .i64 (a:Int)] 98);exact⟨h.os.trans hb2.os,h.tape.trans hb2.tape,h.output.trans hb2.output,dg hb2.size h.size,fun q hq hne=>(h.block q (kr hq hb2.size)).trans (hb2.block q hq hne)⟩
   have hbo3:w3.heap[b]? = some o2:=by rw[← hw3];exact(Below.heap_alloc _ _ _ (db.1 hbo2).1).trans hbo2
   have hB3:Below n₁ wr w3:=hb3.below (by omega) hwr;have hkn:KN n₁ wr w3:=⟨hB3,fun q o hq ho=>by
    have e:q≠b:=fun e=>by
     subst e;rw[hbr]at hq;cases hq;rw[hMO _ hmr]at ho;cases ho
    exact(hb3.block q (db.1 hq).1 e).trans hq⟩
   have hBlt:Bn<n₁:=by rw[hn₁];exact(db.1 hBn).1
   obtain⟨fn,tmps,assign,body,hy,hR⟩:=hY pre ⟨k,t,a,decide (0<m)⟩ w3 (hJ _ _ _ hJr hkn) ⟨_,hno.symm⟩;simp only[Yd.enc]at hy;rw[hy];refine⟨(fun h=>by cases h),hR.mono ?_⟩;rintro e w4 (⟨rfl,hJ4,hb4,hB4,hM4⟩ | ⟨rfl,hJx4⟩)
   ·have hW4:Below W0.heap.size W0 w4:=hWr.trans ((hB3.mono (by have:=hW.size;omega)).trans (hb4.mono hn₀));have hn4:n₀≤w4.heap.size:=dg hnr (dg hb3.size hb4.size);have hB5:w4.heap[Bn]? = some (.cells #[.string s] 9 (0,0)):=hB4.trans ((hB3.block _ hBlt).trans hBr);have hb5:w4.heap[b]? = some o2:=hM4 b o2 hbo3 hmo2;have hn5:n₁≤w4.heap.size:=dg hwr (dg hb3.size hb4.size);by_cases hm0:m=0
    ·subst hm0;simp only[if_true,mb]at hno
     gi_wp2
     simp only[Exit.noGoto]
     go_end0
     exact⟨⟨_,rfl⟩,.inl (by rw[hno];exact hJ4)⟩
    ·have hm1:0<m:=by omega
     rw[if_neg hm0]at hno
     gi_wp2
     exact⟨⟨a+m,f,pre++[⟨k,t,a,decide (0<m)⟩],by simp,by omega,by omega,hno,hJ4,hW4,hn4,hB5,hn5,o2,hb5,hmo2⟩,by simp[intOf];omega⟩
   ·gi_wp2
    simp only[Exit.noGoto]
    go_end0
    exact⟨⟨_,rfl⟩,.inr ⟨_,⟨_,hno.symm⟩,hJx4⟩⟩
theorem c1c(s:ByteArray)(W:World):CallsIn Fence.wide 2 Tryz.prog 35 #[.string s] W fun e W'=>e=.returned (.func (.func 65) #[] #[.pointer (some ⟨W.heap.size,0,none⟩)])∧W'=W.alloc (.cells #[.string s] 9):=by
 refine callsIn_of_wp Tryz.func35 rfl trivial ?_ rfl;simp only[Tryz.ntmps35,jk,cm,ct,Nat.reduceAdd,Nat.reduceSub,jx,jz,md,km,gj,dv]
 gi_wp2
 go_ret
 exact⟨rfl,rfl⟩
def b4b(l:List Yd):List Value:=(l.map Yd.row).flatten
def c0r(l:List Yd):Bool:=l.all fun y=>y.ok
theorem b8r{B:Nat}{W W':World}{base e size n:Nat}{v:Value}{xs:List Value}(h:W.ownsRow base e size v n xs)(k:KC B W W'):W'.ownsRow base e size v n xs:=by
 refine⟨h.1,?_⟩;rcases h.2 with hn | ⟨g,cap,cur,rfl,hb,hgg,rest⟩
 ·exact .inl hn
 ·exact .inr ⟨g,cap,cur,rfl,hb,k.same _ _ hgg rfl,rest⟩
theorem bm3{B b:Nat}{W W':World}{t:TypeId}{v:Value}(h:Boxed W b t v)(k:KC B W W'):Boxed W' b t v:=k.same _ _ h rfl
def tkKp(MO:Obj→Prop)(W:World)(A B:World):Prop:=Below W.heap.size A B∧B.heap[W.heap.size+3]? = A.heap[W.heap.size+3]?∧(∀(k:Nat) (o:Obj),A.heap[k]? = some o→MO o→B.heap[k]? = some o)
def tkI(W:World)(s:ByteArray)(pre:List Yd)(A:World):Prop:=(∃v,Boxed A (W.heap.size+1+1) 65 v∧A.ownsRow W.heap.size 98 3 v pre.length (b4b pre)) ∧
 Boxed A W.heap.size 65 (.slice none 0 0)∧Boxed A (W.heap.size+1) 33 (.int .i64 0)∧c0r pre=true∧Boxed A (W.heap.size+1+1+1) 9 (.string s)∧Below W.heap.size W A
def tkX(W:World)(pre:List Yd)(A:World):Prop:=Boxed A W.heap.size 65 (.slice none 0 0)∧Boxed A (W.heap.size+1) 33 (.int .i64 80)∧(∃y∈pre,y.ok=false)∧Below W.heap.size W A
theorem dk0{W:World}{s:ByteArray}{B:Nat}(hB:W.heap.size≤B){pre:List Yd}{X Y:World}(h:tkI W s pre X)(k:KC B X Y):tkI W s pre Y:=by
 obtain⟨⟨v,h1,h2⟩,h3,h4,h5,h7,h6⟩:=h;exact⟨⟨v,bm3 h1 k,b8r h2 k⟩,bm3 h3 k,bm3 h4 k,h5,bm3 h7 k,h6.trans (k.below.mono hB)⟩
theorem tkX_KL{W:World}{B:Nat}(hB:W.heap.size≤B){pre:List Yd}{X Y:World}(h:tkX W pre X)(k:KC B X Y):tkX W pre Y:=by
 obtain⟨h3,h4,h5,h6⟩:=h;exact⟨bm3 h3 k,bm3 h4 k,h5,h6.trans (k.below.mono hB)⟩
theorem cjv(l:List Yd)(y:Yd):b4b (l++[y])=b4b l++y.row:=by simp[b4b]
theorem b0k(nx:ByteArray→Int×ByteArray×Nat)(s:ByteArray):∀(f a:Nat),(ydL nx s f a).length≤f
 | 0,_=>by simp[ydL]
 | f+1,a=>by
  rw[ydL];split
  ·split
   ·exact Nat.le_succ_of_le (b0k nx s f _)
   ·simp only[cm];split
    ·simp
    ·exact kq (b0k nx s f _)
  ·simp
theorem dsb:(Tryz.prog.info? 98).map (fun i=>(i.zero,i.size,i.bytes))=some (some (.agg #[.int .i64 0,.string ⟨#[]⟩,.int .i64 0]),3,32):=by kernel_rfl
theorem dbk(A:World)(vs:Array Value)(t:TypeId):∀j u,vs.toList[j]? = some u→(A.alloc (.cells vs t)).cell? ((⟨A.heap.size,0,none⟩:Addr).add j)=some u:=by
 intro j u hu;have hadd:(⟨A.heap.size,0,none⟩:Addr).add j=⟨A.heap.size,j,none⟩:=by unfold Addr.add;split<;>simp_all
 rw[hadd];have:=World.alloc_heap_new A (.cells vs t);simp only[World.cell?];rw[this];simpa using hu
theorem dcm{nx:ByteArray→Int×ByteArray×Nat}{W0:World}{MO:Obj→Prop}(hSet:dcq W0 MO)(hNext:cpq nx W0 MO)(hnx:∀s,(nx s).2.2≤s.size)(hMO:∀o,MO o→b2v o=true)
  (s:ByteArray) (W:World) (hW:Below W0.heap.size W0 W):Calls Tryz.prog 20 #[.string s] W fun e W'=>Below W.heap.size W W' ∧
   if 4000<s.size then e=.returned (.tuple #[.slice none 0 0,.int .i64 2]) else
   if c0r (ydL nx s (s.size+1) 0) then ∃v,e=.returned (.tuple #[v,.int .i64 0])∧W'.ownsRow W.heap.size 98 3 v (ydL nx s (s.size+1) 0).length (b4b (ydL nx s (s.size+1) 0))
   else e=.returned (.tuple #[.slice none 0 0,.int .i64 80]):=by
 refine(callsIn_wide (n:=3)).1 ?_;refine callsIn_of_wp_marks Tryz.func20 rfl trivial ?_ rfl;simp only[Tryz.ntmps20,jk,cm,ct,Nat.reduceAdd,Nat.reduceSub,jx,jz,md,km,gj,dv];by_cases hbig:4000<s.size
 ·simp only[hbig,if_true]
  gi_wp2
  have b1:=(Boxed.new W 65 (.slice none 0 0)).alloc (.cells #[.int .i64 2] 33);have b2:=Boxed.new (W.alloc (.cells #[.slice none 0 0] 65)) 33 (.int .i64 2);rw[World.size_alloc]at b2;have c1:=b1.cell;have c2:=b2.cell;refine⟨.tuple #[.slice none 0 0,.int .i64 2],by simp[results,Tryz.f20,go_sem,c1,c2],((Below.refl _ W).alloc (cj _) _).alloc (by simp) _,rfl⟩
 ·have hs:s.size≤4000:=by omega
  simp only[hbig,if_false];obtain⟨ys,hys⟩:∃ys,ydL nx s (s.size+1) 0=ys:=⟨_,rfl⟩;rw[hys]
  gi_wp2_with (refine⟨trivial,?_⟩;gi_at_call 35;refine(c1c s _).mono ?_;rintro e w' ⟨rfl,rfl⟩)
  have b1:=(((Boxed.new W 65 (.slice none 0 0)).alloc (.cells #[.int .i64 0] 33)).alloc (.cells #[.slice none 0 0] 65)).alloc (.cells #[.string s] 9);have b2:=((Boxed.new (W.alloc (.cells #[.slice none 0 0] 65)) 33 (.int .i64 0)).alloc (.cells #[.slice none 0 0] 65)).alloc (.cells #[.string s] 9);have b3:=(Boxed.new ((W.alloc (.cells #[.slice none 0 0] 65)).alloc (.cells #[.int .i64 0] 33)) 65 (.slice none 0 0)).alloc (.cells #[.string s] 9);have b4:=Boxed.new (((W.alloc (.cells #[.slice none 0 0] 65)).alloc (.cells #[.int .i64 0] 33)).alloc (.cells #[.slice none 0 0] 65)) 9 (.string s);have hB0:Below W.heap.size W ((((W.alloc (.cells #[.slice none 0 0] 65)).alloc (.cells #[.int .i64 0] 33)).alloc (.cells #[.slice none 0 0] 65)).alloc (.cells #[.string s] 9)):=
   ((((Below.refl _ W).alloc (cj _) _).alloc (by simp) _).alloc (by simp;omega) _).alloc (by simp;omega) _
  have hsz:((((W.alloc (.cells #[.slice none 0 0] 65)).alloc (.cells #[.int .i64 0] 33)).alloc (.cells #[.slice none 0 0] 65)).alloc (.cells #[.string s] 9)).heap.size=W.heap.size+4:=by simp
  simp only[World.size_alloc]at b2 b3 b4;obtain⟨Wl,hWl⟩:∃Wl,((((W.alloc (.cells #[.slice none 0 0] 65)).alloc (.cells #[.int .i64 0] 33)).alloc (.cells #[.slice none 0 0] 65)).alloc (.cells #[.string s] 9))=Wl:=⟨_,rfl⟩;rw[hWl]at b1 b2 b3 b4 hB0 hsz ⊢;clear hWl;have hseq:cpj (3 - 1) Tryz.prog 65 #[.pointer (some ⟨W.heap.size+1+1+1,0,none⟩)] Yd.enc (tkKp MO W) ys Wl:=by
   intro l J Jx X hX hJ hJx hY h0;have hx:=ctb hSet hNext hnx hMO (3 - 1) l (W.heap.size+1+1+1) W.heap.size s hs hW.size J Jx X.heap.size hJ (fun pre x A h1 h2=>hY pre x A h1 (by rw[← hys];exact h2)) X rfl (dg hB0.size hX.below.size)
    ((hW.trans (hB0.mono hW.size)).trans (hX.below.mono (by have:=hW.size;omega))) (hX.same _ _ b4 rfl) h0
   rw[hys]at hx;exact hx
  refine cdx (gf:=65) (lb:=#[.pointer (some ⟨W.heap.size+1+1+1,0,none⟩)]) rfl (enters_of Tryz.func65 (by kernel_rfl) rfl) hseq ?kt ?kb (fun _=>rfl)
   (tkI W s) (tkX W) (fun _ _ _ h k=>dk0 (by omega) h k) (fun _ _ _ h k=>tkX_KL (by omega) h k) ?h0
   (fun y a' A=>∃Bx,A.heap[Bx]? = some (.cells #[.int .i64 y.k,.string y.t,.int .i64 (y.at':Int)] 98 (0,0))∧a'={tmps:=#[.string s,undef,.pointer (some ⟨W.heap.size,0,none⟩),.pointer (some ⟨W.heap.size+1,0,none⟩),.pointer (some ⟨W.heap.size+1+1,0,none⟩),.pointer (some ⟨Bx,0,none⟩),.bool y.ok,.string s,.int .i64 (s.size:Int),.bool (decide ((4000:Int)<(s.size:Int))),.string s,.func (.func 65) #[] #[.pointer (some ⟨W.heap.size+1+1+1,0,none⟩)],.agg #[.int .i64 y.k,.string y.t,.int .i64 (y.at':Int)],.bool y.ok,undef,undef,undef,undef,undef,undef,undef],defers:=[]})
   ?ax ?assign ?body ?done ?stop
  case kt=>exact fun h k=>⟨h.1.trans k.1,k.2.1.trans h.2.1,fun i o hi hm=>k.2.2 i o (h.2.2 i o hi hm) hm⟩
  case kb=>
   intro A l r o hl hr;refine⟨(KL.putLoop hr (by omega) o).below,World.putObj_heap_other (by omega),fun i o' hi hm=>(KL.putLoop hr (cj l) o).same i o' hi (by have:=hMO o' hm;cases o'<;>simp_all [b2v,c5j])⟩
  case h0=>exact⟨⟨_,b3,World.ownsRow_nil _ _ _ _⟩,b1,b2,rfl,b4,hB0⟩
  case ax=>exact fun y a' A B h k=>by obtain⟨Bx,h1,h2⟩:=h;exact⟨Bx,k.same _ _ h1 rfl,h2⟩
  case assign=>
   intro l pre x A K hI hpre hK
   gi_wp2
   have hle:W.heap.size+1+1+1<A.heap.size:=hI.2.2.2.2.1.lt;exact hK _ _ (KeepsOthers.alloc _ _) ⟨(Below.refl _ _).alloc (by omega) _,Below.heap_alloc _ _ _ (by omega),fun i o hi hm=>(KeepsOthers.alloc A (.cells #[.int .i64 x.k,.string x.t,.int .i64 (x.at':Int)] 98)).same i o hi (by have:=hMO o hm;cases o<;>simp_all [b2v,Obj.isCells])⟩
    (dk0 (cj _) hI (KL.alloc (by omega) _).kc) ⟨A.heap.size,World.alloc_heap_new A _,rfl⟩
  case body=>
   rintro l pre x a' A hI ⟨Bx,hbx,rfl⟩ hpre;obtain⟨⟨v,hv,hrow⟩,hr1,hr2,hok,hs4,hBA⟩:=hI;have hsA:W.heap.size+1+1+1<A.heap.size:=hs4.lt;have hlen:pre.length+1≤4001:=by
    have h1:=hpre.length_le;have h2:=b0k nx s (s.size+1) 0;rw[hys]at h2;simp only[dh,cm,ct]at h1;omega
   have cv:=hv.cell;have c1:=hr1.cell;have f1:=hr1.frozen;have c2:=hr2.cell;have f2:=hr2.frozen;obtain⟨k,t,n,ok⟩:=x;cases ok with
   | false=>
    gi_wp2
    refine⟨(KeepsOthers.setCell _ _ _).trans (KeepsOthers.setCell _ _ _),(hr1.set _).other (by omega) _,(hr2.other (by omega) _).set _,⟨_,rf _ (.head _),rfl⟩,?_⟩;exact(hBA.setCell (p:=⟨W.heap.size,0,none⟩) (cj _) _).setCell (p:=⟨W.heap.size+1,0,none⟩) (by simp) _
   | true=>
    have x1:A.cell? ⟨Bx,0,none⟩=some (.int .i64 k):=by simp[World.cell?,hbx]
    have x2:A.cell? ⟨Bx,1,none⟩=some (.string t):=by simp[World.cell?,hbx]
    have x3:A.cell? ⟨Bx,2,none⟩=some (.int .i64 (n:Int)):=by simp[World.cell?,hbx]
    obtain⟨i0,hi,hz0,hz1,hz2⟩:=info_parts dsb
    gi_wp2_with (gi_at_builtin;refine wpListIn_append_own _ rfl _ _ 65 rfl W.heap.size 98 i0 (.agg #[.int .i64 0,.string ⟨#[]⟩,.int .i64 0]) 3 32 Tryz.underlying65 hi hz0 hz1 hz2 rfl (by decide) _ _ _ rfl (hrow.alloc _) ⟨A.heap.size,0,none⟩ 1 1 [.int .i64 k,.string t,.int .i64 (n:Int)] rfl rfl (dbk _ _ _) (by simp[Value.oneCell']) (by simp only[maxLen];omega) (by omega) (by simp;omega) ?_;intro v' w1 hown' hgrow _;obtain⟨g',cap',rfl⟩:=ownsRow_succ hown';obtain⟨hv1,hv2,hr3,hk2,hb2⟩:=hv.appended (by decide) hrow (by omega) (by omega) hown' hgrow;have hc1:=hv1.cell;have hf1:=hv1.frozen)
    have o1:=((hr1.alloc (.cells #[.int .i64 k,.string t,.int .i64 (n:Int)] 98)).kept hgrow (hr1.not_row (by decide) hrow)).other (B':=W.heap.size+1+1) (by omega) (.slice (some ⟨g',0,none⟩) (pre.length+1) cap');have o2:=((hr2.alloc (.cells #[.int .i64 k,.string t,.int .i64 (n:Int)] 98)).kept hgrow (hr2.not_row (by decide) hrow)).other (B':=W.heap.size+1+1) (by omega) (.slice (some ⟨g',0,none⟩) (pre.length+1) cap');have o4:=((hs4.alloc (.cells #[.int .i64 k,.string t,.int .i64 (n:Int)] 98)).kept hgrow (hs4.not_row (by decide) hrow)).other (B':=W.heap.size+1+1) (by omega) (.slice (some ⟨g',0,none⟩) (pre.length+1) cap');refine⟨hk2,⟨hb2,Eq.trans o4 hs4.symm,fun i o hi hm=>hk2.same i o hi (by have:=hMO o hm;cases o<;>simp_all [b2v,Obj.isCells])⟩,⟨_,hv2,?_⟩,o1,o2,?_,o4,hBA.trans hb2⟩
    ·rw[cjv,dh];exact hr3
    ·simp only[c0r,List.all_append,tj,List.all_nil,pj]at hok ⊢;exact hok
  case done=>
   intro D A hD hI hK;obtain⟨⟨v,hv,hrow⟩,hr1,hr2,hok,hs4,hBA⟩:=hI;obtain⟨p,m,c,rfl⟩:∃p m c,v=.slice p m c:=by
    rcases hrow.2 with⟨rfl,_⟩ | ⟨g,cap,cur,rfl,_⟩<;>exact⟨_,_,_,rfl⟩
   have cv:=hv.cell;have c1:=hr1.cell;have f1:=hr1.frozen;have c2:=hr2.cell;have f2:=hr2.frozen;simp only[Exit.inBlock,Exit.then]
   gi_wp2
   ·have s1:=(hr1.set (.slice p m c)).other (B':=W.heap.size+1) (by omega) (.int .i64 0);have s2:=(hr2.other (B':=W.heap.size) (by omega) (.slice p m c)).set (.int .i64 0);have g1:=grownBy_setCell' A W.heap.size (.slice p m c);have g2:=grownBy_setCell' (A.setCell ⟨W.heap.size,0,none⟩ (.slice p m c)) (W.heap.size+1) (.int .i64 0);have r1:=hrow.kept g1 (.inr (hr1.not_row (by decide) hrow).symm);have r2:=r1.kept g2 (.inr ((hr2.other (B':=W.heap.size) (by omega) (.slice p m c)).not_row (by decide) r1).symm);have hK2:=((KeepsOthers.setCell A ⟨W.heap.size,0,none⟩ (.slice p m c)).trans (KeepsOthers.setCell _ ⟨W.heap.size+1,0,none⟩ (.int .i64 0))).same D _ hK rfl;have hB2:=(hBA.setCell (p:=⟨W.heap.size,0,none⟩) (cj _) (.slice p m c)).setCell (p:=⟨W.heap.size+1,0,none⟩) (by simp) (.int .i64 0);obtain⟨S,hS⟩:∃S,(A.setCell ⟨W.heap.size,0,none⟩ (.slice p m c)).setCell ⟨W.heap.size+1,0,none⟩ (.int .i64 0)=S:=⟨_,rfl⟩;rw[hS]at s1 s2 r2 hK2 hB2 ⊢;refine⟨by simp,.inl ⟨_,_,rfl,run_takeDeferred hK2,?_⟩⟩;have k:=KD.put hK2 (cj D) (.deferred none);have d1:Boxed (S.putObj D (.deferred none)) W.heap.size _ _:=k.same _ _ s1 rfl;have d2:Boxed (S.putObj D (.deferred none)) (W.heap.size+1) _ _:=k.same _ _ s2 rfl;have e1:=d1.cell;have e2:=d2.cell;exact⟨.tuple #[.slice p m c,.int .i64 0],by simp[results,Tryz.f20,go_sem,e1,e2],hB2.trans (k.below.mono (by omega)),_,rfl,ownsRow_putObj r2 _ hK2 rfl⟩
  case stop=>
   intro D pre A hD hpre hX hK;obtain⟨hr1,hr2,⟨y,hy1,hy2⟩,hBA⟩:=hX;have hno:c0r ys=false:=by
    cases h:c0r ys with
    | false=>rfl
    | true=>
     rw[c0r,cq]at h;have:=h y (hpre.subset hy1);rw[hy2]at this;cases this
   have c1:=hr1.cell;have c2:=hr2.cell;simp only[Exit.inBlock,Exit.then]
   gi_wp2
   ·rename_i h;rw[hno]at h;cases h
   ·refine⟨by simp,.inl ⟨_,_,rfl,run_takeDeferred hK,?_⟩⟩;have k:=KD.put hK (cj D) (.deferred none);have d1:Boxed (A.putObj D (.deferred none)) W.heap.size _ _:=k.same _ _ hr1 rfl;have d2:Boxed (A.putObj D (.deferred none)) (W.heap.size+1) _ _:=k.same _ _ hr2 rfl;have e1:=d1.cell;have e2:=d2.cell;exact⟨.tuple #[.slice none 0 0,.int .i64 80],by simp[results,Tryz.f20,go_sem,e1,e2],hBA.trans (k.below.mono (by omega)),rfl⟩
end Go.Av
