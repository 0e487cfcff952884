/- Part of a proof of syntax_sames. -/
import Derived.Test.YtdcknoijcepibaaGreatDoorQ17
import Derived.Test.YtdcknoijcepibaaGreatDoorQ18
set_option maxRecDepth 1000000
set_option linter.unusedSimpArgs false
set_option linter.unusedVariables false
namespace Go.Av
open Go Go.Proofs
theorem fld {P : Program} {fs : Array Field} {cs : List AV} (hf : ∀ f ∈ fs.toList,HasTy P f.type (pickAV P f.type cs f.offset)) (i : Nat) (f : Field) (hi : fs.toList[i]? = some f) (hp : (tyAg P f.type == some true) = false) :
    HasTy P f.type (cs.getD f.offset .niliface):=by
  have h:=hf f (List.mem_of_getElem? hi)
  rw [pick1 hp] at h
  exact h
theorem list_under {α : Type} {P : Program} {t e : TypeId} {a : AV} {n : Nat} {f : α→AV} {Q : α→Prop} (hu : P.underlying t = some (.slice e)) (hn : P.cellsOf e = n) (hx : ∀ x,SizeOf.sizeOf x < SizeOf.sizeOf a→HasTy P e x→∃ k,x = f k∧Q k) (h : HasTy P t a) :
    ∃ ks : List α,a = .slice n (ks.map f)∧ks.length≤maxLen∧∀ k ∈ ks,Q k:=by
  obtain ⟨es,rfl,hl,he⟩:=h.slice_inv hu
  obtain ⟨ks,rfl,hq⟩:=map_of (fun x hm=>hx x (by have:=List.sizeOf_lt_of_mem hm; simp only [AV.slice.sizeOf_spec]; omega) (he x hm))
  exact ⟨ks,by rw [hn],by simpa using hl,hq⟩
theorem ty_i {P : Program} {t : TypeId} (hu : P.underlying t = some (.int .i64)) {a : AV} (h : HasTy P t a) : ∃ n,a = .int .i64 n:=by
  obtain ⟨n,e,_⟩:=h.int_inv hu
  exact ⟨n,e⟩
theorem ty_s {P : Program} {t : TypeId} (hu : P.underlying t = some .string) {a : AV} (h : HasTy P t a) : ∃ l : List UInt8,a = .str (bs l)∧l.length≤maxL:=by
  obtain ⟨s,e,hs⟩:=h.str_inv hu
  refine ⟨s.data.toList,by rw [e]; rw [← bs_of],?_⟩
  have h1 : s.data.toList.length = s.size:=rfl
  simp only [maxLen] at hs
  unfold maxL
  omega
def TyN (k : Nat) : Prop:=∀ a,SizeOf.sizeOf a < k→HasTy Tryz.prog 62 a→∃ n : Nd,a = n.av∧n.fit
def TyI (k : Nat) : Prop:=∀ a,SizeOf.sizeOf a < k→HasTy Tryz.prog 59 a→∃ n : It,a = n.av∧n.fit
def TyS (k : Nat) : Prop:=∀ a,SizeOf.sizeOf a < k→HasTy Tryz.prog 140 a→∃ n : Sr,a = n.av∧n.fit
def TyQ (k : Nat) : Prop:=∀ a,SizeOf.sizeOf a < k→HasTy Tryz.prog 32 a→∃ n : Qr,a = n.av∧n.fit
theorem tyNs {k : Nat} (hk : TyN k) {a : AV} (ha : SizeOf.sizeOf a≤k) (h : HasTy Tryz.prog 25 a) : ∃ l : List Nd,a = .slice 7 (ndsAV l)∧l.length≤maxL∧ndsFit l:=by
  obtain ⟨l,e,hl,hq⟩:=list_under Tryz.underlying25 (n:=7) (by kernel_rfl) (fun x hx hy=>hk x (by omega) hy) h
  exact ⟨l,by rw [e,ndsAV_map],hl,(ndsFit_iff l).2 hq⟩
theorem tyIs {k : Nat} (hk : TyI k) {a : AV} (ha : SizeOf.sizeOf a≤k) (h : HasTy Tryz.prog 23 a) : ∃ l : List It,a = .slice 4 (itsAV l)∧l.length≤maxL∧itsFit l:=by
  obtain ⟨l,e,hl,hq⟩:=list_under Tryz.underlying23 (n:=4) (by kernel_rfl) (fun x hx hy=>hk x (by omega) hy) h
  exact ⟨l,by rw [e,itsAV_map],hl,(itsFit_iff l).2 hq⟩
theorem tySs {k : Nat} (hk : TyS k) {a : AV} (ha : SizeOf.sizeOf a≤k) (h : HasTy Tryz.prog 24 a) : ∃ l : List Sr,a = .slice 6 (srsAV l)∧l.length≤maxL∧srsFit l:=by
  obtain ⟨l,e,hl,hq⟩:=list_under Tryz.underlying24 (n:=6) (by kernel_rfl) (fun x hx hy=>hk x (by omega) hy) h
  exact ⟨l,by rw [e,srsAV_map],hl,(srsFit_iff l).2 hq⟩
theorem tyQs {k : Nat} (hk : TyQ k) {a : AV} (ha : SizeOf.sizeOf a≤k) (h : HasTy Tryz.prog 27 a) : ∃ l : List Qr,a = .slice 13 (qrsAV l)∧l.length≤maxL∧qrsFit l:=by
  obtain ⟨l,e,hl,hq⟩:=list_under Tryz.underlying27 (n:=13) (by kernel_rfl) (fun x hx hy=>hk x (by omega) hy) h
  exact ⟨l,by rw [e,qrsAV_map],hl,(qrsFit_iff l).2 hq⟩
theorem tyRs {k : Nat} (hk : TyN k) {a : AV} (ha : SizeOf.sizeOf a≤k) (h : HasTy Tryz.prog 26 a) : ∃ l : List (List Nd),a = .slice 1 (rowsAV l)∧l.length≤maxL∧rowsFit l:=by
  obtain ⟨l,e,hl,hq⟩:=list_under (f:=fun l : List Nd=>.slice 7 (ndsAV l)) (Q:=fun l=>l.length≤maxL∧ndsFit l) Tryz.underlying26 (n:=1) (by kernel_rfl) (fun x hx hy=>tyNs hk (by omega) hy) h
  exact ⟨l,by rw [e,rowsAV_map],hl,(rowsFit_iff l).2 hq⟩
theorem tyK {a : AV} (h : HasTy Tryz.prog 64 a) : ∃ k : Ky,a = k.av∧k.name.length≤maxL:=by
  obtain ⟨cs,rfl,hl,hf⟩:=h.struct_inv Tryz.underlying64
  rw [show Tryz.prog.cellsOf 64 = 3 from by kernel_rfl] at hl
  match cs,hl with
  | [x0, x1, x2], _ =>
    obtain ⟨s,e0,h0⟩:=ty_s Tryz.underlying9 (fld hf 0 _ rfl (by kernel_rfl))
    obtain ⟨n,e1⟩:=ty_i Tryz.underlying3 (fld hf 1 _ rfl (by kernel_rfl))
    obtain ⟨b,e2⟩:=(fld hf 2 _ rfl (by kernel_rfl)).bool_inv Tryz.underlying4
    obtain rfl : x0 = _:=e0
    obtain rfl : x1 = _:=e1
    obtain rfl : x2 = _:=e2
    exact ⟨⟨s,n,b⟩,rfl,h0⟩
theorem tyKs {a : AV} (h : HasTy Tryz.prog 30 a) : ∃ l : List Ky,a = .slice 3 (l.map Ky.av)∧l.length≤maxL∧∀ k ∈ l,k.name.length≤maxL :=
  list_of Tryz.underlying30 (by kernel_rfl) (fun x hx=>tyK hx) h
theorem tyN {k : Nat} (hN : TyN k) (hI : TyI k) (hS : TyS k) (hQ : TyQ k) : TyN (k + 1):=by
  intro a ha h
  obtain ⟨cs,rfl,hl,hf⟩:=h.struct_inv Tryz.underlying62
  rw [show Tryz.prog.cellsOf 62 = 7 from by kernel_rfl] at hl
  have zz : ∀ x ∈ cs,SizeOf.sizeOf x≤k:=fun x hm=>by
    have:=List.sizeOf_lt_of_mem hm
    simp only [AV.agg.sizeOf_spec] at ha
    omega
  match cs,hl with
  | [x0, x1, x2, x3, x4, x5, x6], _ =>
    clear hl
    obtain ⟨v0,e0⟩:=ty_i Tryz.underlying3 (fld hf 0 _ rfl (by kernel_rfl))
    obtain ⟨v1,e1,l1⟩:=ty_s Tryz.underlying9 (fld hf 1 _ rfl (by kernel_rfl))
    obtain ⟨v2,e2⟩:=ty_i Tryz.underlying2 (fld hf 2 _ rfl (by kernel_rfl))
    obtain ⟨v3,e3⟩:=((fld hf 3 _ rfl (by kernel_rfl))).bool_inv Tryz.underlying4
    obtain ⟨v4,e4⟩:=((fld hf 4 _ rfl (by kernel_rfl))).bool_inv Tryz.underlying4
    obtain ⟨v5,e5,l5,f5⟩:=tyNs hN (zz x5 (by simp)) (fld hf 5 _ rfl (by kernel_rfl))
    obtain ⟨v6,e6,l6,f6⟩:=tyQs hQ (zz x6 (by simp)) (fld hf 6 _ rfl (by kernel_rfl))
    obtain rfl : x0 = _:=e0
    obtain rfl : x1 = _:=e1
    obtain rfl : x2 = _:=e2
    obtain rfl : x3 = _:=e3
    obtain rfl : x4 = _:=e4
    obtain rfl : x5 = _:=e5
    obtain rfl : x6 = _:=e6
    exact ⟨.mk v0 v1 v2 v3 v4 v5 v6,by simp only [Nd.av],by simp only [Nd.fit]; exact ⟨l1,l5,l6,f5,f6⟩⟩
theorem tyI {k : Nat} (hN : TyN k) (hI : TyI k) (hS : TyS k) (hQ : TyQ k) : TyI (k + 1):=by
  intro a ha h
  obtain ⟨cs,rfl,hl,hf⟩:=h.struct_inv Tryz.underlying59
  rw [show Tryz.prog.cellsOf 59 = 4 from by kernel_rfl] at hl
  have zz : ∀ x ∈ cs,SizeOf.sizeOf x≤k:=fun x hm=>by
    have:=List.sizeOf_lt_of_mem hm
    simp only [AV.agg.sizeOf_spec] at ha
    omega
  match cs,hl with
  | [x0, x1, x2, x3], _ =>
    clear hl
    obtain ⟨v0,e0⟩:=((fld hf 0 _ rfl (by kernel_rfl))).bool_inv Tryz.underlying4
    obtain ⟨v1,e1,l1⟩:=ty_s Tryz.underlying9 (fld hf 1 _ rfl (by kernel_rfl))
    obtain ⟨v2,e2,l2,f2⟩:=tyNs hN (zz x2 (by simp)) (fld hf 2 _ rfl (by kernel_rfl))
    obtain ⟨v3,e3,l3⟩:=ty_s Tryz.underlying9 (fld hf 3 _ rfl (by kernel_rfl))
    obtain rfl : x0 = _:=e0
    obtain rfl : x1 = _:=e1
    obtain rfl : x2 = _:=e2
    obtain rfl : x3 = _:=e3
    exact ⟨.mk v0 v1 v2 v3,by simp only [It.av],by simp only [It.fit]; exact ⟨l1,l2,l3,f2⟩⟩
theorem tyS {k : Nat} (hN : TyN k) (hI : TyI k) (hS : TyS k) (hQ : TyQ k) : TyS (k + 1):=by
  intro a ha h
  obtain ⟨cs,rfl,hl,hf⟩:=h.struct_inv Tryz.underlying140
  rw [show Tryz.prog.cellsOf 140 = 6 from by kernel_rfl] at hl
  have zz : ∀ x ∈ cs,SizeOf.sizeOf x≤k:=fun x hm=>by
    have:=List.sizeOf_lt_of_mem hm
    simp only [AV.agg.sizeOf_spec] at ha
    omega
  match cs,hl with
  | [x0, x1, x2, x3, x4, x5], _ =>
    clear hl
    obtain ⟨v0,e0⟩:=ty_i Tryz.underlying3 (fld hf 0 _ rfl (by kernel_rfl))
    obtain ⟨v1,e1,l1⟩:=ty_s Tryz.underlying9 (fld hf 1 _ rfl (by kernel_rfl))
    obtain ⟨v2,e2,l2⟩:=ty_s Tryz.underlying9 (fld hf 2 _ rfl (by kernel_rfl))
    obtain ⟨v3,e3,l3,f3⟩:=tyQs hQ (zz x3 (by simp)) (fld hf 3 _ rfl (by kernel_rfl))
    obtain ⟨v4,e4,l4,f4⟩:=tySs hS (zz x4 (by simp)) (fld hf 4 _ rfl (by kernel_rfl))
    obtain ⟨v5,e5,l5,f5⟩:=tyNs hN (zz x5 (by simp)) (fld hf 5 _ rfl (by kernel_rfl))
    obtain rfl : x0 = _:=e0
    obtain rfl : x1 = _:=e1
    obtain rfl : x2 = _:=e2
    obtain rfl : x3 = _:=e3
    obtain rfl : x4 = _:=e4
    obtain rfl : x5 = _:=e5
    exact ⟨.mk v0 v1 v2 v3 v4 v5,by simp only [Sr.av],by simp only [Sr.fit]; exact ⟨l1,l2,l3,l4,l5,f3,f4,f5⟩⟩
theorem tyQ {k : Nat} (hN : TyN k) (hI : TyI k) (hS : TyS k) (hQ : TyQ k) : TyQ (k + 1):=by
  intro a ha h
  obtain ⟨cs,rfl,hl,hf⟩:=h.struct_inv Tryz.underlying32
  rw [show Tryz.prog.cellsOf 32 = 13 from by kernel_rfl] at hl
  have zz : ∀ x ∈ cs,SizeOf.sizeOf x≤k:=fun x hm=>by
    have:=List.sizeOf_lt_of_mem hm
    simp only [AV.agg.sizeOf_spec] at ha
    omega
  match cs,hl with
  | [x0, x1, x2, x3, x4, x5, x6, x7, x8, x9, x10, x11, x12], _ =>
    clear hl
    have hB:=hf _ (List.mem_cons_self)
    unfold pickAV at hB
    rw [if_pos (by kernel_rfl)] at hB
    rw [show Tryz.prog.cellsOf 29 = 10 from by kernel_rfl] at hB
    obtain ⟨cb,eb,_,hb⟩:=hB.struct_inv Tryz.underlying29
    obtain rfl : [x0,x1,x2,x3,x4,x5,x6,x7,x8,x9] = cb:=AV.agg.inj eb
    obtain ⟨v0,e0⟩:=ty_i Tryz.underlying3 (fld hb 0 _ rfl (by kernel_rfl))
    obtain ⟨v1,e1⟩:=((fld hb 1 _ rfl (by kernel_rfl))).bool_inv Tryz.underlying4
    obtain ⟨v2,e2⟩:=((fld hb 2 _ rfl (by kernel_rfl))).bool_inv Tryz.underlying4
    obtain ⟨v3,e3,l3,f3⟩:=tyIs hI (zz x3 (by simp)) (fld hb 3 _ rfl (by kernel_rfl))
    obtain ⟨v4,e4,l4,f4⟩:=tySs hS (zz x4 (by simp)) (fld hb 4 _ rfl (by kernel_rfl))
    obtain ⟨v5,e5,l5,f5⟩:=tyNs hN (zz x5 (by simp)) (fld hb 5 _ rfl (by kernel_rfl))
    obtain ⟨v6,e6,l6,f6⟩:=tyNs hN (zz x6 (by simp)) (fld hb 6 _ rfl (by kernel_rfl))
    obtain ⟨v7,e7,l7,f7⟩:=tyNs hN (zz x7 (by simp)) (fld hb 7 _ rfl (by kernel_rfl))
    obtain ⟨v8,e8,l8,f8⟩:=tyRs hN (zz x8 (by simp)) (fld hb 8 _ rfl (by kernel_rfl))
    obtain ⟨v9,e9,l9,f9⟩:=tyQs hQ (zz x9 (by simp)) (fld hb 9 _ rfl (by kernel_rfl))
    obtain rfl : x0 = _:=e0
    obtain rfl : x1 = _:=e1
    obtain rfl : x2 = _:=e2
    obtain rfl : x3 = _:=e3
    obtain rfl : x4 = _:=e4
    obtain rfl : x5 = _:=e5
    obtain rfl : x6 = _:=e6
    obtain rfl : x7 = _:=e7
    obtain rfl : x8 = _:=e8
    obtain rfl : x9 = _:=e9
    obtain ⟨v10,e10,l10,f10⟩:=tyKs (fld hf 1 _ rfl (by kernel_rfl))
    obtain ⟨v11,e11⟩:=ty_i Tryz.underlying3 (fld hf 2 _ rfl (by kernel_rfl))
    obtain ⟨v12,e12⟩:=ty_i Tryz.underlying3 (fld hf 3 _ rfl (by kernel_rfl))
    obtain rfl : x10 = _:=e10
    obtain rfl : x11 = _:=e11
    obtain rfl : x12 = _:=e12
    exact ⟨.mk (.mk v0 v1 v2 v3 v4 v5 v6 v7 v8 v9) v10 v11 v12,by simp only [Qr.av,Bd.cells,List.cons_append,List.nil_append],by simp only [Qr.fit,Bd.fit]; exact ⟨⟨⟨l3,l4,l5,l6,l7,l8,l9⟩,f3,f4,f5,f6,f7,f8,f9⟩,l10,f10⟩⟩
theorem tyAll : ∀ k,TyN k∧TyI k∧TyS k∧TyQ k
  | 0=>⟨fun _ h=>by omega,fun _ h=>by omega,fun _ h=>by omega,fun _ h=>by omega⟩
  | k + 1 => by
    obtain ⟨h1,h2,h3,h4⟩:=tyAll k
    exact ⟨tyN h1 h2 h3 h4,tyI h1 h2 h3 h4,tyS h1 h2 h3 h4,tyQ h1 h2 h3 h4⟩
theorem ty_query {a : AV} (h : HasTy Tryz.prog 32 a) : ∃ q : Qr,a = q.av∧q.fit:=(tyAll (SizeOf.sizeOf a + 1)).2.2.2 a (by omega) h
end Go.Av
set_option maxRecDepth 1000000
set_option linter.unusedSimpArgs false
set_option linter.unusedVariables false
namespace Go.Av
open Go Go.Proofs Go.RowKit
theorem run_law2 {W : World} (hL : LaidV W) (f : Nat) : SoundFun Tryz.prog W f (run2 f):=recSound_iff.1 (recL_sound (run_sound2 hL)) f
set_option maxHeartbeats 4000000 in
theorem c5 (x y : Qr) (hx : x.fit) (hy : y.fit) : run2 5 [x.av,y.av] [] = some (.ret (.bool true) none,[]):=by
  have t1:=c14 x hx
  have t2:=c14 y hy
  have s1 : (their x).small:=their_small x
  have s2 : (their y).small:=their_small y
  generalize their x = a at *
  generalize their y = b at *
  have o1:=c15 a s1 []
  have o2:=c15 b s2 []
  have e1:=c18 a b s1 s2 []
  have e2:=c18 a a s1 s1 []
  have e3:=c13 a b s1 s2 []
  have aw:=awake2
  rw [eqQ_refl] at e2
  generalize eqQ a b = E at *
  refine eqn2 rfl ?_
  obtain ⟨⟨c0,c1,c2,i3,i4,i5,i6,i7,i8,i9⟩,ks,l,o⟩:=x
  obtain ⟨⟨d0,d1,d2,j3,j4,j5,j6,j7,j8,j9⟩,ks',l',o'⟩:=y
  obtain ⟨⟨f0,f1,f2,k3,k4,k5,k6,k7,k8,k9⟩,kf,lf,of⟩:=a
  obtain ⟨⟨g0,g1,g2,m3,m4,m5,m6,m7,m8,m9⟩,kg,lg,og⟩:=b
  simp only [Qr.av,Bd.cells,List.cons_append,List.nil_append] at *
  clear s1 s2 hx hy
  cases E <;> simp [-getElem?_pos,List.getElem?_cons_zero,List.getElem?_cons_succ,a5,t1,t2,o1,o2,e1,e2,e3,aw,kleave_le]
theorem law5 : LawTrue Tryz.prog 5 Tryz.f5.params.toList LaidV :=
  lawTrue_of fun W hW=>⟨_,run_law2 hW 5,fun args hl hty=>by
    rw [Tryz.params5] at hl hty
    match args,hl with
    | [a, b], _ =>
      obtain ⟨x,rfl,hx⟩:=ty_query (hty 0 _ a rfl rfl)
      obtain ⟨y,rfl,hy⟩:=ty_query (hty 1 _ b rfl rfl)
      exact ⟨[],none,c5 x y hx hy⟩⟩
end Go.Av
