/- Part of syntax_parses. -/
import Derived.RangeFuncNested
import Derived.RangeFuncBound
import Derived.RangeFuncCalls
import Derived.RangeFuncLeaves
import Derived.WalkKit
set_option linter.unusedSimpArgs false
set_option linter.unusedVariables false
set_option maxHeartbeats 16000000
namespace Go.Av
open Go Go.RowKit
def c5j:Obj→Bool
 | .loop _=>false
 | _=>true
structure KL(B:Nat)(W W':World):Prop where
 below:Below B W W'
 same:∀(k:Nat) (o:Obj),W.heap[k]? = some o→c5j o=true→W'.heap[k]? = some o
theorem KL.refl(B:Nat)(W:World):KL B W W:=⟨Below.refl _ _,fun _ _ h _=>h⟩
theorem KL.trans{B:Nat}{X Y Z:World}(h:KL B X Y)(k:KL B Y Z):KL B X Z:=⟨h.below.trans k.below,fun i o hi ho=>k.same i o (h.same i o hi ho) ho⟩
theorem KL.alloc{B:Nat}{W:World}(hB:B≤W.heap.size)(o:Obj):KL B W (W.alloc o):=
 ⟨(Below.refl B W).alloc hB o,fun k o' hk _=>(Below.heap_alloc W o k (Array.getElem?_eq_some_iff.1 hk).1).trans hk⟩
theorem KL.of_below{B:Nat}{W W':World}(hB:B≤W.heap.size)(h:Below W.heap.size W W'):KL B W W':=
 ⟨h.mono hB,fun k o hk _=>(h.block k (Array.getElem?_eq_some_iff.1 hk).1).trans hk⟩
theorem KL.putLoop{B l:Nat}{W:World}{r:Loop}(hl:W.heap[l]? = some (.loop r))(hB:B≤l)(o:Obj):KL B W (W.putObj l o):=
 ⟨(Below.refl B W).grown (grownBy_putObj' W l o) (by have:=(Array.getElem?_eq_some_iff.1 hl).1;omega) (fun k e=>by cases e;exact hB),fun k o' hk ho=>by
  have e:k≠l:=fun e=>by subst e;rw[hl]at hk;cases hk;cases ho
  exact(World.putObj_heap_other e).trans hk⟩
structure KD(B:Nat)(W W':World):Prop where
 below:Below B W W'
 same:∀(k:Nat) (o:Obj),W.heap[k]? = some o→o.isCells=true→W'.heap[k]? = some o
theorem KD.put{B D:Nat}{W:World}{ds:Option (List Deferred)}(hl:W.heap[D]? = some (.deferred ds))(hB:B≤D)(o:Obj):KD B W (W.putObj D o):=
 ⟨(Below.refl B W).grown (grownBy_putObj' W D o) (by have:=(Array.getElem?_eq_some_iff.1 hl).1;omega) (fun k e=>by cases e;exact hB),fun k o' hk ho=>by
  have e:k≠D:=fun e=>by subst e;rw[hl]at hk;cases hk;cases ho
  exact(World.putObj_heap_other e).trans hk⟩
structure KC(B:Nat)(W W':World):Prop where
 below:Below B W W'
 same:∀(k:Nat) (o:Obj),W.heap[k]? = some o→o.isCells=true→W'.heap[k]? = some o
theorem KL.kc{B:Nat}{W W':World}(h:KL B W W'):KC B W W':=⟨h.below,fun k o hk ho=>h.same k o hk (by cases o<;>simp_all [Obj.isCells,c5j])⟩
def b2v:Obj→Bool
 | .map _ _=>true
 | _=>false
structure KN(B:Nat)(W W':World):Prop where
 below:Below B W W'
 same:∀(k:Nat) (o:Obj),W.heap[k]? = some o→b2v o=false→W'.heap[k]? = some o
theorem KN.kc{B C:Nat}{W W':World}(h:KN B W W')(hC:C≤B):KC C W W':=⟨h.below.mono hC,fun k o hk ho=>h.same k o hk (by cases o<;>simp_all [Obj.isCells,b2v])⟩
theorem KN.of_below{B:Nat}{W W':World}(hB:B≤W.heap.size)(h:Below W.heap.size W W'):KN B W W':=
 ⟨h.mono hB,fun k o hk _=>(h.block k (Array.getElem?_eq_some_iff.1 hk).1).trans hk⟩
def dgc{α:Type}(Kp:World→World→Prop)(I Ix:List α→World→Prop)(xs:List α)(W:World):Exit→Act→World→Prop
 | .normal,_,W'=>KeepsOthers W W'∧Kp W W'∧I xs W'
 | .ret,_,W'=>KeepsOthers W W'∧Ix xs W'
 | _,_,_=>False
def cpj{α:Type}(n:Nat)(P:Program)(g:Nat)(lb:Array Value)(encs:α→Array Value)(Kp:World→World→Prop)(ys:List α)(w:World):Prop:=
 ∀ (l:Nat) (J Jx:List α→World→Prop) (W:World),KL w.heap.size w W→(∀pre A B,J pre A→KN W.heap.size A B→J pre B)→(∀pre A B,Jx pre A→KN W.heap.size A B→Jx pre B) →
   (∀pre x A,J pre A→pre++[x] <+: ys→YieldAt Fence.wide (n - 1) P l (encs x) A fun e B=>
    (e=.returned (.bool true)∧J (pre++[x]) B∧Kp A B)∨(e=.returned (.bool false)∧Jx (pre++[x]) B)) →
   J [] W →
   CallsIn Fence.wide n P g (#[.func (.yield l) #[] #[]]++lb) W fun e W'=>(∃v,e=.returned v)∧(J ys W'∨∃pre,pre <+: ys∧Jx pre W')
theorem cdx{α:Type}{n:Nat}{P:Program}{g:Operand}{ps:Array Tmp}{assign body:Code}{Q:Exit→Act→World→Prop}{a:Act}{w:World}
  {gf:Nat} {lb:Array Value} (hg:a.eval g=.func (.func gf) #[] lb) (eg:∀args w,(callFunc gf args).run P w=.ok (.enter gf args) w)
  {encs:α→Array Value} {Kp:World→World→Prop} {ys:List α} (hseq:cpj (n - 1) P gf lb encs Kp ys w)
  (hKt:∀{A B C:World},Kp A B→Kp B C→Kp A C) (hKb:∀(W:World) (l:Nat) (r:Loop) (o:Obj),w.heap.size≤l→W.heap[l]? = some (.loop r)→Kp W (W.putObj l o)) (hps:∀x,(encs x).size=ps.size)
  (I Ix:List α→World→Prop) (hI:∀pre A B,I pre A→KC w.heap.size A B→I pre B) (hIx:∀pre A B,Ix pre A→KC w.heap.size A B→Ix pre B) (h0:I [] w)
  (Ax:α→Act→World→Prop) (hAx:∀x a' A B,Ax x a' A→KC w.heap.size A B→Ax x a' B)
  (hassign:∀(l:Nat) (pre:List α) (x:α) (W:World) (K:Act→World→Prop),I pre W→pre++[x] <+: ys→(∀a' W',KeepsOthers W W'→Kp W W'→I pre W'→Ax x a' W'→K a' W') →
   assign.wpIn (Fence.wide.inRound l) (n - 1 - 1) P (Exit.then K (fun _ _ _=>False)) {tmps:=(ps.zip (encs x)).foldl (fun t (p,v)=>t.setIfInBounds p v) a.tmps,defers:=[]} W)
  (hbody:∀(l:Nat) (pre:List α) (x:α) (a':Act) (W:World),I pre W→Ax x a' W→pre++[x] <+: ys→body.wpIn (Fence.wide.inRound l) (n - 1 - 1) P (dgc Kp I Ix (pre++[x]) W) a' W)
  (hdone:∀(D:Nat) (W:World),w.heap.size≤D→I ys W→W.heap[D]? = some (.deferred (some []))→Q .normal {a with defers:={target:=.collected D,args:=#[]}::a.defers} W)
  (hstop:∀(D:Nat) (pre:List α) (W:World),w.heap.size≤D→pre <+: ys→Ix pre W→W.heap[D]? = some (.deferred (some []))→Q .ret {a with defers:={target:=.collected D,args:=#[]}::a.defers} W) :
  (Code.rangeFunc g ps assign body).wpIn Fence.wide n P Q a w:=by
 refine wpIn_rangeFunc fun fn hfn=>?_
 let D:=w.heap.size
 let l:=w.heap.size+1
 let rd:Loop:={state:=.ready,pending:=none,fn,tmps:=a.tmps,params:=ps,assign,body,defers:=D}
 let rb:Loop:={rd with state:=.busy}
 let rx:Loop:={rd with state:=.done,pending:=some .ret}
 let w1:World:=(w.alloc (.deferred (some []))).alloc (.loop rd)
 have hl1:w1.heap[l]? = some (.loop rd):=by
  have:=World.alloc_heap_new (w.alloc (.deferred (some []))) (.loop rd)
  rwa [World.size_alloc]at this
 have hd1:w1.heap[D]? = some (.deferred (some [])):=(Below.heap_alloc _ _ _ (by simp[D])).trans (World.alloc_heap_new w _);have k1:KL w.heap.size w w1:=(KL.alloc (Nat.le_refl _) _).trans (KL.alloc (by simp) _);refine⟨l,[{target:=.collected D,args:=#[]}],w1,{target:=.fn (.func gf) lb,args:=#[.func (.yield l) #[] #[]]},w1,gf,#[.func (.yield l) #[] #[]]++lb,w1,
  run_enterLoop_outer _ _ _ _ _,?_,fun _ _=>trivial,by simp[invoke,go_sem,eg],(fun h=>by cases h),?_⟩
 ·simp only[resolve,hg];simp[go_sem]
 have lt:∀{W:World} {k:Nat} {o:Obj},W.heap[k]? = some o→k<W.heap.size:=fun h=>(Array.getElem?_eq_some_iff.1 h).1
 refine(hseq l (fun pre W=>I pre W∧W.heap[l]? = some (.loop rd)∧W.heap[D]? = some (.deferred (some [])))
  (fun pre W=>Ix pre W∧W.heap[l]? = some (.loop rx)∧W.heap[D]? = some (.deferred (some []))) w1 k1
  (fun pre A B h hb=>?_) (fun pre A B h hb=>?_) ?_ ⟨hI _ _ _ h0 k1.kc,hl1,hd1⟩).mono ?_
 ·exact⟨hI _ _ _ h.1 (hb.kc k1.below.size),hb.same _ _ h.2.1 rfl,hb.same _ _ h.2.2 rfl⟩
 ·exact⟨hIx _ _ _ h.1 (hb.kc k1.below.size),hb.same _ _ h.2.1 rfl,hb.same _ _ h.2.2 rfl⟩
 ·rintro pre x A ⟨hi,hl,hd⟩ hpre;have hy:=run_yield (P:=P) (args:=encs x) hl (hps x);refine⟨fn,_,assign,body,hy,roundIn_of_wpIn hfn (hassign l pre x A _ hi hpre fun a' B kB pB iB xB=>?_)⟩;have hlB:=kB.same _ _ hl rfl;have hdB:=kB.same _ _ hd rfl;have kl:KL w.heap.size B (B.putObj l (.loop rb)):=KL.putLoop hlB (by simp only[l];omega) _;have hlC:(B.putObj l (.loop rb)).heap[l]? = some (.loop rb):=World.putObj_heap_same (lt hlB);have hdC:(B.putObj l (.loop rb)).heap[D]? = some (.deferred (some [])):=(World.putObj_heap_other (by simp only[l,D];omega)).trans hdB;refine⟨_,run_beginRound hlB rfl,wpIn_mono (hbody l pre x a' _ (hI _ _ _ iB kl.kc) (hAx _ _ _ _ xB kl.kc) hpre) ?_⟩;rintro e a3 E hp;have pC:Kp A (B.putObj l (.loop rb)):=hKt pB (hKb _ _ _ _ (by simp only[l];omega) hlB);cases e with
  | normal=>
   obtain⟨kE,pE,iE⟩:=hp;have hlE:=kE.same _ _ hlC rfl;have hdE:=kE.same _ _ hdC rfl;exact⟨_,_,run_endRound none hlE,.inl ⟨rfl,⟨hI _ _ _ iE (KL.putLoop hlE (by simp only[l];omega) _).kc,World.putObj_heap_same (lt hlE),(World.putObj_heap_other (by simp only[l,D];omega)).trans hdE⟩,
    hKt pC (hKt pE (hKb _ _ _ _ (by simp only[l];omega) hlE))⟩⟩
  | ret=>
   obtain⟨kE,iE⟩:=hp;have hlE:=kE.same _ _ hlC rfl;have hdE:=kE.same _ _ hdC rfl;exact⟨_,_,run_endRound (some .ret) hlE,.inr ⟨rfl,hIx _ _ _ iE (KL.putLoop hlE (by simp only[l];omega) _).kc,World.putObj_heap_same (lt hlE),(World.putObj_heap_other (by simp only[l,D];omega)).trans hdE⟩⟩
  | exit id=>exact hp.elim
  | goto t=>exact hp.elim
  | panic ch=>exact hp.elim
  | outgrown=>exact hp.elim
 ·rintro e W2 ⟨⟨v,rfl⟩,⟨hi,hl,hd⟩ | ⟨pre,hpre,hi,hl,hd⟩⟩
  ·exact⟨none,_,run_endLoop hl (by simp[rd]),hdone D _ (Nat.le_refl _) (hI _ _ _ hi (KL.putLoop hl (by simp only[l];omega) _).kc) ((World.putObj_heap_other (by simp only[l,D];omega)).trans hd)⟩
  ·exact⟨some .ret,_,run_endLoop hl (by simp[rx]),wpIn_ret (hstop D pre _ (Nat.le_refl _) hpre (hIx _ _ _ hi (KL.putLoop hl (by simp only[l];omega) _).kc) ((World.putObj_heap_other (by simp only[l,D];omega)).trans hd))⟩
end Go.Av
