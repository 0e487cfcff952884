/- Part of a proof of syntax_sames. -/
import Derived.Test.YtdcknoijcepibaaGreatDoorQ15
import Derived.Test.YtdcknoijcepibaaGreatDoorQ16
set_option maxRecDepth 100000
set_option linter.unusedSimpArgs false
set_option linter.unusedVariables false
namespace Go.Av
open Go Go.Proofs
theorem kleave_le {k : Nat} {S S' : List Bx} (h : S'.length≤S.length + k) (e : AEnd) : aleave k S S' e = some (e,S'):=by unfold aleave; rw [if_pos h]
def cB (L : Int) : Bx:={ cells:=[.int .i64 L] }
theorem sh_bs (s : List UInt8) : (bs s).extract 0 (min s.length 210) = bs (sh s):=by
  rw [bs_extract,List.drop_zero]
  unfold sh
  congr 1
  rcases Nat.le_total s.length 210 with h | h
  · rw [Nat.min_eq_left h,List.take_of_length_le (Nat.le_refl _),List.take_of_length_le h]
  · rw [Nat.min_eq_right h]
theorem c49 (s : List UInt8) (S : List Bx) (hs : s.length≤maxL) : run2 49 [.str (bs s)] S = some (.ret (.str (bs (sh s))) none,S):=by
  refine eqn2 rfl ?_
  have h1 : min (s.length : Int) 210 = ((min s.length 210 : Nat) : Int):=by omega
  have h2 : (0 : Int)≤((min s.length 210 : Nat) : Int):=by omega
  have h3 : ((min s.length 210 : Nat) : Int)≤(s.length : Int):=by omega
  have h4:=sh_bs s
  have hz : (bs s).size = s.length:=bs_size s
  generalize (min s.length 210 : Nat) = m at *
  generalize bs s = B at *
  simp [a49,hz,h1,h2,h3,h4]
theorem c48 (L : Int) : run2 48 [.ptr 0 0] [cB L] = some (.ret (.bool (decide (0≤ms L))) none,[cB (ms L)]):=by
  refine eqn2 rfl ?_
  simp [-getElem?_pos,List.getElem?_cons_zero,List.getElem?_cons_succ,a48,cB,ms,kleave_le]
  rfl
def PN (l : List Nd) : Prop:=ndsFit l→l.length≤maxL→∀ L,Ok1 1 L→run2 98 [.ptr 0 0,.slice 7 (ndsAV l)] [cB L] = some (.ret (.slice 7 (ndsAV (thNs l L).1)) (some 118),[cB (thNs l L).2])
def PQ (l : List Qr) : Prop:=qrsFit l→l.length≤maxL→∀ L,Ok1 1 L→run2 100 [.ptr 0 0,.slice 13 (qrsAV l)] [cB L] = some (.ret (.slice 13 (qrsAV (thQs l L).1)) (some 45),[cB (thQs l L).2])
def PS (l : List Sr) : Prop:=srsFit l→l.length≤maxL→∀ L,Ok1 1 L→run2 99 [.ptr 0 0,.slice 6 (srsAV l)] [cB L] = some (.ret (.slice 6 (srsAV (thSs l L).1)) (some 120),[cB (thSs l L).2])
def st98 (l : List AV) (acc : List AV) (L : Int) (i : Nat) : St:={ σ:=[(0,.v (.ptr 0 0)),(1,.v (.slice 7 l)),(5,.v (.slice 7 acc)),(6,.v (.int .i64 (i : Int)))],own:=[(5,118)],loc:=[],S:=[cB L] }
def en5 (sz e : Nat) (acc : List AV) (L : Int) : AEx×St:=(.exit 0,{ σ:=[(5,.v (.slice sz acc))],own:=[(5,e)],loc:=[],S:=[cB L] })
set_option maxHeartbeats 1000000 in
theorem stepN (l : List Nd) (ih : ∀ op text num no dis args query,Nd.mk op text num no dis args query ∈ l→PN args∧PQ query) : PN l:=by
  intro hf hl L hL
  refine eqn2 rfl ?_
  have hmore:=c48
  have hlen : (ndsAV l).length = l.length:=ndsAV_len l
  have hloop:=loop_cut (f:=acode run2 a98_l0) thN CutI (st:=fun acc L i=>st98 (ndsAV l) (ndsAV acc) L i) (fin:=fun acc L=>en5 7 118 (ndsAV acc) L) (fun a L=>by simp [en5]) l
    (fun acc L i x hI hx h0=>by
      obtain ⟨op,text,num,no,dis,args,query⟩:=x
      obtain ⟨ihN,ihQ⟩:=ih op text num no dis args query (List.mem_of_getElem? hx)
      obtain ⟨ok,hI'⟩:=hI.next (x:=(thN (.mk op text num no dis args query) (ms L)).1) h0 (thN_bd _ _) (by omega) (by omega)
      refine ⟨?_,hI'⟩
      have hfit:=(ndsFit_iff l).1 hf _ (List.mem_of_getElem? hx)
      simp only [Nd.fit] at hfit
      obtain ⟨f1,f2,f3,f4,f5⟩:=hfit
      have b1:=thNs_bd args (ms L) (ok.step (Bd1.refl _) (by omega))
      have q1:=ihN f4 f2 (ms L) (ok.step (Bd1.refl _) (by omega))
      have q2:=ihQ f5 f3 _ (ok.step b1 (by omega))
      have q3:=c49 text
      have g:=ndsAV_get hx
      simp only [Nd.av] at g
      have h1:=ilt hx
      have hi : i < l.length:=(List.getElem?_eq_some_iff.1 hx).1
      have w:=w64s (n:=i) (by unfold maxL at hl; omega)
      have hacc : (ndsAV acc).length = acc.length:=ndsAV_len acc
      have hb : (acc.length + 1) * 88≤140737488355328:=by have:=hI.2.2; omega
      have hm:=hmore L
      simp only [thN,ndsAV_app,ndsAV,Nd.av]
      have h0' : decide (0≤ms L) = true:=by simpa using h0
      rw [h0'] at hm
      generalize thNs args (ms L) = A at *
      generalize thQs query A.2 = Q at *
      generalize ndsAV acc = ACC at *
      generalize ndsAV l = X at *
      generalize ndsAV args = AR at *
      generalize qrsAV query = QR at *
      rw [acode_k]
      simp [-getElem?_pos,List.getElem?_cons_zero,List.getElem?_cons_succ,a98_l0,st98,hlen,h1,hi,hm,g,q1,q2,q3,f1,w,hacc,hb])
    (fun acc L i x hI hx h0=>by
      have h1:=ilt hx
      have hi : i < l.length:=(List.getElem?_eq_some_iff.1 hx).1
      have hm:=hmore L
      have h0' : decide (0≤ms L) = false:=by simpa using h0
      rw [h0'] at hm
      rw [acode_k]
      simp [-getElem?_pos,List.getElem?_cons_zero,List.getElem?_cons_succ,a98_l0,st98,en5,hlen,h1,hi,hm])
    (fun acc L hI=>by
      rw [acode_k]
      simp [-getElem?_pos,List.getElem?_cons_zero,List.getElem?_cons_succ,a98_l0,st98,en5,hlen]) L (CutI.start hL)
  rw [← thNs_cut] at hloop
  simp only [st98,ndsAV,en5,Int.natCast_zero,Int.ofNat_zero] at hloop
  generalize thNs l L = R at *
  simp [-getElem?_pos,List.getElem?_cons_zero,List.getElem?_cons_succ,a98,hloop,kleave_le]
end Go.Av
set_option maxRecDepth 100000
set_option linter.unusedSimpArgs false
set_option linter.unusedVariables false
namespace Go.Av
open Go Go.Proofs
def st99 (l : List AV) (acc : List AV) (L : Int) (i : Nat) : St:={ σ:=[(0,.v (.ptr 0 0)),(1,.v (.slice 6 l)),(5,.v (.slice 6 acc)),(6,.v (.int .i64 (i : Int)))],own:=[(5,120)],loc:=[],S:=[cB L] }
set_option maxHeartbeats 1000000 in
theorem stepS (l : List Sr) (ih : ∀ op name as' query ins on,Sr.mk op name as' query ins on ∈ l→PQ query∧PS ins∧PN on) : PS l:=by
  intro hf hl L hL
  refine eqn2 rfl ?_
  have hmore:=c48
  have hlen : (srsAV l).length = l.length:=srsAV_len l
  have hloop:=loop_cut (f:=acode run2 a99_l0) thS CutI (st:=fun acc L i=>st99 (srsAV l) (srsAV acc) L i) (fin:=fun acc L=>en5 6 120 (srsAV acc) L) (fun a L=>by simp [en5]) l
    (fun acc L i x hI hx h0=>by
      obtain ⟨op,name,as',query,ins,on⟩:=x
      obtain ⟨ihQ,ihS,ihN⟩:=ih op name as' query ins on (List.mem_of_getElem? hx)
      obtain ⟨ok,hI'⟩:=hI.next (x:=(thS (.mk op name as' query ins on) (ms L)).1) h0 (thS_bd _ _) (by omega) (by omega)
      refine ⟨?_,hI'⟩
      have hfit:=(srsFit_iff l).1 hf _ (List.mem_of_getElem? hx)
      simp only [Sr.fit] at hfit
      obtain ⟨f1,f2,f3,f4,f5,f6,f7,f8⟩:=hfit
      have b1:=thQs_bd query (ms L) (ok.step (Bd1.refl _) (by omega))
      have b2:=b1.trans (thSs_bd ins _ (ok.step b1 (by omega)))
      have q1:=ihQ f6 f3 (ms L) (ok.step (Bd1.refl _) (by omega))
      have q2:=ihS f7 f4 _ (ok.step b1 (by omega))
      have q3:=ihN f8 f5 _ (ok.step b2 (by omega))
      have q4:=c49 name
      have q5:=c49 as'
      have g:=srsAV_get hx
      simp only [Sr.av] at g
      have h1:=ilt hx
      have hi : i < l.length:=(List.getElem?_eq_some_iff.1 hx).1
      have w:=w64s (n:=i) (by unfold maxL at hl; omega)
      have hacc : (srsAV acc).length = acc.length:=srsAV_len acc
      have hb : (acc.length + 1) * 112≤140737488355328:=by have:=hI.2.2; omega
      have hm:=hmore L
      simp only [thS,srsAV_app,srsAV,Sr.av]
      have h0' : decide (0≤ms L) = true:=by simpa using h0
      rw [h0'] at hm
      generalize thQs query (ms L) = A at *
      generalize thSs ins A.2 = Q at *
      generalize thNs on Q.2 = O at *
      generalize srsAV acc = ACC at *
      generalize srsAV l = X at *
      generalize srsAV ins = AR at *
      generalize qrsAV query = QR at *
      generalize ndsAV on = NR at *
      rw [acode_k]
      simp [-getElem?_pos,List.getElem?_cons_zero,List.getElem?_cons_succ,a99_l0,st99,hlen,h1,hi,hm,g,q1,q2,q3,q4,q5,f1,f2,w,hacc,hb])
    (fun acc L i x hI hx h0=>by
      have h1:=ilt hx
      have hi : i < l.length:=(List.getElem?_eq_some_iff.1 hx).1
      have hm:=hmore L
      have h0' : decide (0≤ms L) = false:=by simpa using h0
      rw [h0'] at hm
      rw [acode_k]
      simp [-getElem?_pos,List.getElem?_cons_zero,List.getElem?_cons_succ,a99_l0,st99,en5,hlen,h1,hi,hm])
    (fun acc L hI=>by
      rw [acode_k]
      simp [-getElem?_pos,List.getElem?_cons_zero,List.getElem?_cons_succ,a99_l0,st99,en5,hlen]) L (CutI.start hL)
  rw [← thSs_cut] at hloop
  simp only [st99,srsAV,en5,Int.natCast_zero,Int.ofNat_zero] at hloop
  generalize thSs l L = R at *
  simp [-getElem?_pos,List.getElem?_cons_zero,List.getElem?_cons_succ,a99,hloop,kleave_le]
def bOwn : List (Nat×Nat):=[(3,77),(4,120),(5,118),(6,118),(7,118),(8,38),(9,45)]
def bZero : Bx:={ cells:=[.int .i64 0,.bool false,.bool false,.slice 4 [],.slice 6 [],.slice 7 [],.slice 7 [],.slice 7 [],.slice 1 [],.slice 13 []],own:=bOwn }
def st47 (b : List AV) (op : Int) (all dis : Bool) (acc : List AV) (L : Int) (i : Nat) : St :=
  { σ:=[(0,.v (.ptr 0 0)),(3,.l 3 0),(4,.l 4 0),(5,.l 5 0),(6,.v (.int .i64 (i : Int)))],own:=[],loc:=[(3,{ cells:=b }),(4,bZero),(5,{ cells:=[.int .i64 op,.bool all,.bool dis,.slice 4 acc,.slice 6 [],.slice 7 [],.slice 7 [],.slice 7 [],.slice 1 [],.slice 13 []],own:=bOwn })],S:=[cB L] }
def en47 (b : List AV) (op : Int) (all dis : Bool) (acc : List AV) (L : Int) : AEx×St:=(.exit 0,
  { σ:=[(0,.v (.ptr 0 0)),(3,.l 3 0),(4,.l 4 0),(5,.l 5 0)],own:=[],loc:=[(3,{ cells:=b }),(4,bZero),(5,{ cells:=[.int .i64 op,.bool all,.bool dis,.slice 4 acc,.slice 6 [],.slice 7 [],.slice 7 [],.slice 7 [],.slice 1 [],.slice 13 []],own:=bOwn })],S:=[cB L] })
set_option maxHeartbeats 2000000 in
theorem loop47 (op : Int) (all dis : Bool) (items : List It) (rest : List AV) (hf : itsFit items) (hl : items.length≤maxL) (ih : ∀ star table expr as',It.mk star table expr as' ∈ items→PN expr) (L : Int) (hL : Ok1 1 L) :
    aloopW (acode run2 a47_l0) (st47 (.int .i64 op :: .bool all :: .bool dis :: .slice 4 (itsAV items) :: rest) op all dis [] L 0) =
      some (en47 (.int .i64 op :: .bool all :: .bool dis :: .slice 4 (itsAV items) :: rest) op all dis (itsAV (thIs items L).1) (thIs items L).2):=by
  have hmore:=c48
  have hlen : (itsAV items).length = items.length:=itsAV_len items
  have hloop:=loop_cut (f:=acode run2 a47_l0) thI CutI (st:=fun acc L i=>st47 (.int .i64 op :: .bool all :: .bool dis :: .slice 4 (itsAV items) :: rest) op all dis (itsAV acc) L i) (fin:=fun acc L=>en47 (.int .i64 op :: .bool all :: .bool dis :: .slice 4 (itsAV items) :: rest) op all dis (itsAV acc) L) (fun a L=>by simp [en47]) items
    (fun acc L i x hI hx h0=>by
      obtain ⟨star,table,expr,as'⟩:=x
      have ihN:=ih star table expr as' (List.mem_of_getElem? hx)
      obtain ⟨ok,hI'⟩:=hI.next (x:=(thI (.mk star table expr as') (ms L)).1) h0 (thI_bd _ _) (by omega) (by omega)
      refine ⟨?_,hI'⟩
      have hfit:=(itsFit_iff items).1 hf _ (List.mem_of_getElem? hx)
      simp only [It.fit] at hfit
      obtain ⟨f1,f2,f3,f4⟩:=hfit
      have q1:=ihN f4 f2 (ms L) ok
      have q2:=c49 table
      have q3:=c49 as'
      have g:=itsAV_get hx
      simp only [It.av] at g
      have h1:=ilt hx
      have hi : i < items.length:=(List.getElem?_eq_some_iff.1 hx).1
      have w:=w64s (n:=i) (by unfold maxL at hl; omega)
      have hacc : (itsAV acc).length = acc.length:=itsAV_len acc
      have hb : (acc.length + 1) * 64≤140737488355328:=by have:=hI.2.2; omega
      have hm:=hmore L
      simp only [thI,itsAV_app,itsAV,It.av]
      have h0' : decide (0≤ms L) = true:=by simpa using h0
      rw [h0'] at hm
      generalize thNs expr (ms L) = A at *
      generalize itsAV acc = ACC at *
      generalize itsAV items = X at *
      generalize ndsAV expr = NR at *
      rw [acode_k]
      simp [-getElem?_pos,List.getElem?_cons_zero,List.getElem?_cons_succ,a47_l0,st47,bZero,bOwn,hlen,h1,hi,hm,g,q1,q2,q3,f1,f3,w,hacc,hb])
    (fun acc L i x hI hx h0=>by
      have h1:=ilt hx
      have hi : i < items.length:=(List.getElem?_eq_some_iff.1 hx).1
      have hm:=hmore L
      have h0' : decide (0≤ms L) = false:=by simpa using h0
      rw [h0'] at hm
      rw [acode_k]
      simp [-getElem?_pos,List.getElem?_cons_zero,List.getElem?_cons_succ,a47_l0,st47,en47,hlen,h1,hi,hm])
    (fun acc L hI=>by
      rw [acode_k]
      simp [-getElem?_pos,List.getElem?_cons_zero,List.getElem?_cons_succ,a47_l0,st47,en47,hlen]) L (CutI.start hL)
  rw [← thIs_cut] at hloop
  simpa only [itsAV] using hloop
end Go.Av
set_option maxRecDepth 100000
set_option linter.unusedSimpArgs false
set_option linter.unusedVariables false
namespace Go.Av
open Go Go.Proofs
def st47b (b : List AV) (o : List AV) (acc : List AV) (L : Int) (i : Nat) : St :=
  { σ:=[(0,.v (.ptr 0 0)),(3,.l 3 0),(4,.l 4 0),(5,.l 5 0),(8,.v (.int .i64 (i : Int)))],own:=[],loc:=[(3,{ cells:=b }),(4,bZero),(5,{ cells:=o++[.slice 1 acc,.slice 13 []],own:=bOwn })],S:=[cB L] }
def en47b (b : List AV) (o : List AV) (acc : List AV) (L : Int) : AEx×St:=(.exit 2,
  { σ:=[(0,.v (.ptr 0 0)),(3,.l 3 0),(4,.l 4 0),(5,.l 5 0)],own:=[],loc:=[(3,{ cells:=b }),(4,bZero),(5,{ cells:=o++[.slice 1 acc,.slice 13 []],own:=bOwn })],S:=[cB L] })
set_option maxHeartbeats 2000000 in
theorem loop47b (x0 x1 x2 x3 x4 x5 x6 x7 x9 : AV) (y0 y1 y2 y3 y4 y5 y6 y7 : AV) (rows : List (List Nd)) (hf : rowsFit rows) (hl : rows.length≤maxL) (ih : ∀ r ∈ rows,PN r) (L : Int) (hL : Ok1 1 L) :
    aloopW (acode run2 a47_l1) (st47b [x0,x1,x2,x3,x4,x5,x6,x7,.slice 1 (rowsAV rows),x9] [y0,y1,y2,y3,y4,y5,y6,y7] [] L 0) =
      some (en47b [x0,x1,x2,x3,x4,x5,x6,x7,.slice 1 (rowsAV rows),x9] [y0,y1,y2,y3,y4,y5,y6,y7] (rowsAV (thRs rows L).1) (thRs rows L).2):=by
  have hmore:=c48
  have hlen : (rowsAV rows).length = rows.length:=rowsAV_len rows
  have hloop:=loop_cut (f:=acode run2 a47_l1) thNs CutI (st:=fun acc L i=>st47b [x0,x1,x2,x3,x4,x5,x6,x7,.slice 1 (rowsAV rows),x9] [y0,y1,y2,y3,y4,y5,y6,y7] (rowsAV acc) L i) (fin:=fun acc L=>en47b [x0,x1,x2,x3,x4,x5,x6,x7,.slice 1 (rowsAV rows),x9] [y0,y1,y2,y3,y4,y5,y6,y7] (rowsAV acc) L) (fun a L=>by simp [en47b]) rows
    (fun acc L i x hI hx h0=>by
      have ihN:=ih x (List.mem_of_getElem? hx)
      obtain ⟨ok,hI'⟩:=hI.next (x:=(thNs x (ms L)).1) h0 (thNs_bd _ _) (by omega) (by omega)
      refine ⟨?_,hI'⟩
      obtain ⟨f1,f2⟩:=(rowsFit_iff rows).1 hf _ (List.mem_of_getElem? hx)
      have q1:=ihN f2 f1 (ms L) ok
      have g:=rowsAV_get hx
      have h1:=ilt hx
      have hi : i < rows.length:=(List.getElem?_eq_some_iff.1 hx).1
      have w:=w64s (n:=i) (by unfold maxL at hl; omega)
      have hacc : (rowsAV acc).length = acc.length:=rowsAV_len acc
      have hb : (acc.length + 1) * 24≤140737488355328:=by have:=hI.2.2; omega
      have hm:=hmore L
      simp only [rowsAV_app,rowsAV]
      have h0' : decide (0≤ms L) = true:=by simpa using h0
      rw [h0'] at hm
      generalize thNs x (ms L) = A at *
      generalize rowsAV acc = ACC at *
      generalize rowsAV rows = X at *
      generalize ndsAV x = NR at *
      rw [acode_k]
      simp [-getElem?_pos,List.getElem?_cons_zero,List.getElem?_cons_succ,a47_l1,st47b,bZero,bOwn,hlen,h1,hi,hm,g,q1,w,hacc,hb])
    (fun acc L i x hI hx h0=>by
      have h1:=ilt hx
      have hi : i < rows.length:=(List.getElem?_eq_some_iff.1 hx).1
      have hm:=hmore L
      have h0' : decide (0≤ms L) = false:=by simpa using h0
      rw [h0'] at hm
      rw [acode_k]
      simp [-getElem?_pos,List.getElem?_cons_zero,List.getElem?_cons_succ,a47_l1,st47b,en47b,hlen,h1,hi,hm])
    (fun acc L hI=>by
      rw [acode_k]
      simp [-getElem?_pos,List.getElem?_cons_zero,List.getElem?_cons_succ,a47_l1,st47b,en47b,hlen]) L (CutI.start hL)
  rw [← thRs_cut] at hloop
  simpa only [rowsAV] using hloop
structure PB (b : Bd) : Prop where
  items : ∀ op all dis items frm whr group having rows ins,b = .mk op all dis items frm whr group having rows ins→(∀ star table expr as',It.mk star table expr as' ∈ items→PN expr)∧PS frm∧PN whr∧PN group∧PN having∧(∀ r ∈ rows,PN r)∧PQ ins
set_option maxHeartbeats 4000000 in
theorem c47 (b : Bd) (hp : PB b) (hf : b.fit) (L : Int) (hL : Ok1 7 L) : run2 47 [.ptr 0 0,.agg b.cells] [cB L] = some (.ret (.agg (thB b L).1.cells) none,[cB (thB b L).2]):=by
  obtain ⟨op,all,dis,items,frm,whr,group,having,rows,ins⟩:=b
  obtain ⟨p1,p2,p3,p4,p5,p6,p7⟩:=hp.items _ _ _ _ _ _ _ _ _ _ rfl
  simp only [Bd.fit] at hf
  obtain ⟨⟨f1,f2,f3,f4,f5,f6,f7⟩,g1,g2,g3,g4,g5,g6,g7⟩:=hf
  have b1:=thIs_bd items L (hL.step (Bd1.refl L) (by omega))
  have o2:=hL.step (e:=1) b1 (by omega)
  have b2:=b1.trans (thSs_bd frm _ o2)
  have o3:=hL.step (e:=1) b2 (by omega)
  have b3:=b2.trans (thNs_bd whr _ o3)
  have o4:=hL.step (e:=1) b3 (by omega)
  have b4:=b3.trans (thNs_bd group _ o4)
  have o5:=hL.step (e:=1) b4 (by omega)
  have b5:=b4.trans (thNs_bd having _ o5)
  have o6:=hL.step (e:=1) b5 (by omega)
  have b6:=b5.trans (thRs_bd rows _ o6)
  have o7:=hL.step (e:=1) b6 (by omega)
  refine eqn2 rfl ?_
  simp only [thB,Bd.cells]
  have l0:=loop47 op all dis items [.slice 6 (srsAV frm),.slice 7 (ndsAV whr),.slice 7 (ndsAV group),.slice 7 (ndsAV having),.slice 1 (rowsAV rows),.slice 13 (qrsAV ins)] g1 f1 p1 L (hL.step (Bd1.refl L) (by omega))
  have q2:=p2 g2 f2 _ o2
  have q3:=p3 g3 f3 _ o3
  have q4:=p4 g4 f4 _ o4
  have q5:=p5 g5 f5 _ o5
  have q7:=p7 g7 f7 _ o7
  have l1:=fun x0 x1 x2 x3 x4 x5 x6 x7 x9 y0 y1 y2 y3 y4 y5 y6 y7=>loop47b x0 x1 x2 x3 x4 x5 x6 x7 x9 y0 y1 y2 y3 y4 y5 y6 y7 rows g6 f6 p6 _ o6
  generalize thIs items L = A at *
  generalize thSs frm A.2 = B at *
  generalize thNs whr B.2 = C at *
  generalize thNs group C.2 = D at *
  generalize thNs having D.2 = E at *
  generalize thRs rows E.2 = F at *
  generalize thQs ins F.2 = G at *
  generalize itsAV items = X3 at *
  generalize srsAV frm = X4 at *
  generalize ndsAV whr = X5 at *
  generalize ndsAV group = X6 at *
  generalize ndsAV having = X7 at *
  generalize rowsAV rows = X8 at *
  generalize qrsAV ins = X9 at *
  simp only [st47,en47,st47b,en47b,bZero,bOwn,List.cons_append,List.nil_append,Int.natCast_zero,Int.ofNat_zero] at l0 l1
  simp [-getElem?_pos,List.getElem?_cons_zero,List.getElem?_cons_succ,a47,l0,l1,q2,q3,q4,q5,q7,kleave_le]
end Go.Av
set_option maxRecDepth 100000
set_option linter.unusedSimpArgs false
set_option linter.unusedVariables false
namespace Go.Av
open Go Go.Proofs
def qOwn : List (Nat×Nat):=bOwn++[(10,75)]
def qZero : Bx:={ cells:=[.int .i64 0,.bool false,.bool false,.slice 4 [],.slice 6 [],.slice 7 [],.slice 7 [],.slice 7 [],.slice 1 [],.slice 13 [],.slice 3 [],.int .i64 0,.int .i64 0],own:=qOwn }
def st27 (q : List AV) (o0 o1 o2 o3 o4 o5 o6 o7 o8 o9 o11 o12 : AV) (acc : List AV) (L : Int) (i : Nat) : St :=
  { σ:=[(0,.v (.ptr 0 0)),(3,.l 3 0),(4,.l 4 0),(5,.l 5 0),(6,.v (.int .i64 (i : Int)))],own:=[],loc:=[(3,{ cells:=q }),(4,qZero),(5,{ cells:=[o0,o1,o2,o3,o4,o5,o6,o7,o8,o9,.slice 3 acc,o11,o12],own:=[(10,75)] })],S:=[cB L] }
def en27 (o0 o1 o2 o3 o4 o5 o6 o7 o8 o9 o11 o12 : AV) (acc : List AV) (L : Int) : AEx×St:=(.exit 0,
  { σ:=[(4,.l 4 0),(5,.l 5 0)],own:=[],loc:=[(4,qZero),(5,{ cells:=[o0,o1,o2,o3,o4,o5,o6,o7,o8,o9,.slice 3 acc,o11,o12],own:=[(10,75)] })],S:=[cB L] })
set_option maxHeartbeats 2000000 in
theorem loop27 (x0 x1 x2 x3 x4 x5 x6 x7 x8 x9 x11 x12 : AV) (o0 o1 o2 o3 o4 o5 o6 o7 o8 o9 o11 o12 : AV) (keys : List Ky) (hf : ∀ k ∈ keys,k.name.length≤maxL) (hl : keys.length≤maxL) (L : Int) (hL : Ok1 1 L) :
    aloopW (acode run2 a27_l0) (st27 [x0,x1,x2,x3,x4,x5,x6,x7,x8,x9,.slice 3 (keys.map Ky.av),x11,x12] o0 o1 o2 o3 o4 o5 o6 o7 o8 o9 o11 o12 [] L 0) =
      some (en27 o0 o1 o2 o3 o4 o5 o6 o7 o8 o9 o11 o12 ((thKs keys L).1.map Ky.av) (thKs keys L).2):=by
  have hmore:=c48
  have hlen : (keys.map Ky.av).length = keys.length:=by simp
  have hloop:=loop_cut (f:=acode run2 a27_l0) (fun (k : Ky) L=>((⟨sh k.name,k.at',k.desc⟩ : Ky),L)) CutI (st:=fun acc L i=>st27 [x0,x1,x2,x3,x4,x5,x6,x7,x8,x9,.slice 3 (keys.map Ky.av),x11,x12] o0 o1 o2 o3 o4 o5 o6 o7 o8 o9 o11 o12 (acc.map Ky.av) L i) (fin:=fun acc L=>en27 o0 o1 o2 o3 o4 o5 o6 o7 o8 o9 o11 o12 (acc.map Ky.av) L) (fun a L=>by simp [en27]) keys
    (fun acc L i x hI hx h0=>by
      obtain ⟨ok,hI'⟩:=hI.next (x:=(⟨sh x.name,x.at',x.desc⟩ : Ky)) h0 (c:=0) (L':=ms L) (fun _=>Bd1.refl _) (by omega) (by omega)
      refine ⟨?_,hI'⟩
      have f1:=hf _ (List.mem_of_getElem? hx)
      have q1:=c49 x.name
      have g : (keys.map Ky.av)[i]? = some x.av:=by rw [List.getElem?_map,hx]; rfl
      simp only [Ky.av] at g
      have h1:=ilt hx
      have hi : i < keys.length:=(List.getElem?_eq_some_iff.1 hx).1
      have w:=w64s (n:=i) (by unfold maxL at hl; omega)
      have hacc : (acc.map Ky.av).length = acc.length:=by simp
      have hb : (acc.length + 1) * 32≤140737488355328:=by have:=hI.2.2; omega
      have hm:=hmore L
      simp only [List.map_append,List.map_cons,List.map_nil,Ky.av]
      have h0' : decide (0≤ms L) = true:=by simpa using h0
      rw [h0'] at hm
      generalize acc.map Ky.av = ACC at *
      generalize keys.map Ky.av = X at *
      rw [acode_k]
      simp [-getElem?_pos,List.getElem?_cons_zero,List.getElem?_cons_succ,a27_l0,st27,qZero,qOwn,bOwn,hlen,h1,hi,hm,g,q1,f1,w,hacc,hb])
    (fun acc L i x hI hx h0=>by
      have h1:=ilt hx
      have hi : i < keys.length:=(List.getElem?_eq_some_iff.1 hx).1
      have hm:=hmore L
      have h0' : decide (0≤ms L) = false:=by simpa using h0
      rw [h0'] at hm
      generalize keys.map Ky.av = X at *
      rw [acode_k]
      simp [-getElem?_pos,List.getElem?_cons_zero,List.getElem?_cons_succ,a27_l0,st27,en27,hlen,h1,hi,hm])
    (fun acc L hI=>by
      generalize keys.map Ky.av = X at *
      rw [acode_k]
      simp [-getElem?_pos,List.getElem?_cons_zero,List.getElem?_cons_succ,a27_l0,st27,en27,hlen]) L (CutI.start hL)
  rw [← thKs_cut] at hloop
  simpa only [List.map_nil] using hloop
set_option maxHeartbeats 4000000 in
theorem c27 (q : Qr) (hp : ∀ b ks l o,q = .mk b ks l o→PB b) (hf : q.fit) (L : Int) (hL : Ok1 8 L) : run2 27 [.ptr 0 0,q.av] [cB L] = some (.ret (thQ q L).1.av none,[cB (thQ q L).2]):=by
  obtain ⟨b,keys,limit,offset⟩:=q
  have pb:=hp _ _ _ _ rfl
  simp only [Qr.fit] at hf
  obtain ⟨f1,f2,f3⟩:=hf
  have o1:=hL.step (e:=7) (Bd1.refl L) (by omega)
  have b1:=thB_bd b L o1
  have o2:=hL.step (e:=1) b1 (by omega)
  have q1:=c47 b pb f1 L o1
  have l0:=fun x0 x1 x2 x3 x4 x5 x6 x7 x8 x9 x11 x12 o0 o1 o2' o3 o4 o5 o6 o7 o8 o9 o11 o12=>loop27 x0 x1 x2 x3 x4 x5 x6 x7 x8 x9 x11 x12 o0 o1 o2' o3 o4 o5 o6 o7 o8 o9 o11 o12 keys f3 f2 _ o2
  refine eqn2 rfl ?_
  simp only [thQ,Qr.av]
  generalize thB b L = A at *
  generalize thKs keys A.2 = K at *
  obtain ⟨⟨c0,c1,c2,i3,i4,i5,i6,i7,i8,i9⟩,L1⟩:=A
  obtain ⟨d0,d1,d2,j3,j4,j5,j6,j7,j8,j9⟩:=b
  simp only [Bd.cells,List.cons_append,List.nil_append] at *
  generalize K.1.map Ky.av = KK at *
  generalize keys.map Ky.av = KS at *
  simp only [st27,en27,qZero,qOwn,bOwn,List.cons_append,List.nil_append,Int.natCast_zero,Int.ofNat_zero] at l0
  simp [-getElem?_pos,List.getElem?_cons_zero,List.getElem?_cons_succ,a27,l0,q1,kleave_le]
end Go.Av
set_option maxRecDepth 100000
set_option linter.unusedSimpArgs false
set_option linter.unusedVariables false
namespace Go.Av
open Go Go.Proofs
def st100 (l : List AV) (acc : List AV) (L : Int) (i : Nat) : St:={ σ:=[(0,.v (.ptr 0 0)),(1,.v (.slice 13 l)),(5,.v (.slice 13 acc)),(6,.v (.int .i64 (i : Int)))],own:=[(5,45)],loc:=[],S:=[cB L] }
theorem Qr.av_dat (q : Qr) : q.av.isDat = true∧q.av.cells.length = 13∧∃ cs,q.av = .agg cs∧cs.length = 13:=by
  obtain ⟨⟨c0,c1,c2,i3,i4,i5,i6,i7,i8,i9⟩,ks,l,o⟩:=q
  simp [Qr.av,Bd.cells,AV.isDat,AV.cells]
set_option maxHeartbeats 1000000 in
theorem stepQ (l : List Qr) (ih : ∀ b ks li o,Qr.mk b ks li o ∈ l→PB b) : PQ l:=by
  intro hf hl L hL
  refine eqn2 rfl ?_
  have hmore:=c48
  have hlen : (qrsAV l).length = l.length:=qrsAV_len l
  have hloop:=loop_cut (f:=acode run2 a100_l0) thQ CutI (st:=fun acc L i=>st100 (qrsAV l) (qrsAV acc) L i) (fin:=fun acc L=>en5 13 45 (qrsAV acc) L) (fun a L=>by simp [en5]) l
    (fun acc L i x hI hx h0=>by
      obtain ⟨ok,hI'⟩:=hI.next (x:=(thQ x (ms L)).1) h0 (thQ_bd _ _) (by omega) (by omega)
      refine ⟨?_,hI'⟩
      have hfit:=(qrsFit_iff l).1 hf _ (List.mem_of_getElem? hx)
      have q1:=c27 x (fun b ks li o e=>ih b ks li o (e ▸ List.mem_of_getElem? hx)) hfit (ms L) ok
      have g:=qrsAV_get hx
      have h1:=ilt hx
      have hi : i < l.length:=(List.getElem?_eq_some_iff.1 hx).1
      have w:=w64s (n:=i) (by unfold maxL at hl; omega)
      have hacc : (qrsAV acc).length = acc.length:=qrsAV_len acc
      have hb : (acc.length + 1) * 224≤140737488355328:=by have:=hI.2.2; omega
      have hm:=hmore L
      obtain ⟨_,_,cs,e1,e2⟩:=Qr.av_dat x
      obtain ⟨_,_,ds,e3,e4⟩:=Qr.av_dat (thQ x (ms L)).1
      simp only [qrsAV_app,qrsAV]
      have h0' : decide (0≤ms L) = true:=by simpa using h0
      rw [h0'] at hm
      rw [e1] at g q1
      rw [e3] at q1 ⊢
      generalize thQ x (ms L) = A at *
      generalize qrsAV acc = ACC at *
      generalize qrsAV l = X at *
      have e2' : ¬ cs.length < 13:=by omega
      rw [acode_k]
      simp [-getElem?_pos,List.getElem?_cons_zero,List.getElem?_cons_succ,a100_l0,st100,hlen,h1,hi,hm,g,q1,w,hacc,hb,e2,e4,List.take_of_length_le (Nat.le_of_eq e2)])
    (fun acc L i x hI hx h0=>by
      have h1:=ilt hx
      have hi : i < l.length:=(List.getElem?_eq_some_iff.1 hx).1
      have hm:=hmore L
      have h0' : decide (0≤ms L) = false:=by simpa using h0
      rw [h0'] at hm
      rw [acode_k]
      simp [-getElem?_pos,List.getElem?_cons_zero,List.getElem?_cons_succ,a100_l0,st100,en5,hlen,h1,hi,hm])
    (fun acc L hI=>by
      rw [acode_k]
      simp [-getElem?_pos,List.getElem?_cons_zero,List.getElem?_cons_succ,a100_l0,st100,en5,hlen]) L (CutI.start hL)
  rw [← thQs_cut] at hloop
  simp only [st100,qrsAV,en5,Int.natCast_zero,Int.ofNat_zero] at hloop
  generalize thQs l L = R at *
  simp [-getElem?_pos,List.getElem?_cons_zero,List.getElem?_cons_succ,a100,hloop,kleave_le]
theorem allCut : ∀ (k : Nat),(∀ l : List Nd,SizeOf.sizeOf l < k→PN l)∧(∀ l : List Qr,SizeOf.sizeOf l < k→PQ l)∧(∀ l : List Sr,SizeOf.sizeOf l < k→PS l)∧(∀ b : Bd,SizeOf.sizeOf b < k→PB b)
  | 0=>⟨fun _ h=>by omega,fun _ h=>by omega,fun _ h=>by omega,fun _ h=>by omega⟩
  | k + 1 => by
    obtain ⟨h1,h2,h3,h4⟩:=allCut k
    refine ⟨fun l hl=>stepN l fun op text num no dis args query hm=>?_,fun l hl=>stepQ l fun b ks li o hm=>?_,fun l hl=>stepS l fun op name as' query ins on hm=>?_,fun b hb=>⟨fun op all dis items frm whr group having rows ins e=>?_⟩⟩
    · have := List.sizeOf_lt_of_mem hm
      simp only [Nd.mk.sizeOf_spec] at this
      exact ⟨h1 args (by omega),h2 query (by omega)⟩
    · have := List.sizeOf_lt_of_mem hm
      simp only [Qr.mk.sizeOf_spec] at this
      exact h4 b (by omega)
    · have := List.sizeOf_lt_of_mem hm
      simp only [Sr.mk.sizeOf_spec] at this
      exact ⟨h2 query (by omega),h3 ins (by omega),h1 on (by omega)⟩
    · subst e
      simp only [Bd.mk.sizeOf_spec] at hb
      refine ⟨fun star table expr as' hm=>?_,h3 frm (by omega),h1 whr (by omega),h1 group (by omega),h1 having (by omega),fun r hm=>?_,h2 ins (by omega)⟩
      · have := List.sizeOf_lt_of_mem hm
        simp only [It.mk.sizeOf_spec] at this
        exact h1 expr (by omega)
      · have := List.sizeOf_lt_of_mem hm
        exact h1 r (by omega)
mutual
theorem Nd.closed (m : Nat) : ∀ n : Nd,n.av.closed m = true
  | .mk op text num no dis args query=>by simp [Nd.av,AV.closed,closedL,nds_closed m args,qrs_closed m query]
theorem nds_closed (m : Nat) : ∀ l : List Nd,closedL m (ndsAV l) = true
  | []=>rfl
  | n :: r=>by simp [ndsAV,closedL,Nd.closed m n,nds_closed m r]
theorem It.closed (m : Nat) : ∀ n : It,n.av.closed m = true
  | .mk star table expr as'=>by simp [It.av,AV.closed,closedL,nds_closed m expr]
theorem its_closed (m : Nat) : ∀ l : List It,closedL m (itsAV l) = true
  | []=>rfl
  | n :: r=>by simp [itsAV,closedL,It.closed m n,its_closed m r]
theorem Sr.closed (m : Nat) : ∀ n : Sr,n.av.closed m = true
  | .mk op name as' query ins on=>by simp [Sr.av,AV.closed,closedL,qrs_closed m query,srs_closed m ins,nds_closed m on]
theorem srs_closed (m : Nat) : ∀ l : List Sr,closedL m (srsAV l) = true
  | []=>rfl
  | n :: r=>by simp [srsAV,closedL,Sr.closed m n,srs_closed m r]
theorem rows_closed (m : Nat) : ∀ l : List (List Nd),closedL m (rowsAV l) = true
  | []=>rfl
  | n :: r=>by simp [rowsAV,closedL,AV.closed,nds_closed m n,rows_closed m r]
theorem Bd.closed (m : Nat) : ∀ n : Bd,closedL m n.cells = true
  | .mk op all dis items frm whr group having rows ins => by
    simp [Bd.cells,AV.closed,closedL,its_closed m items,srs_closed m frm,nds_closed m whr,nds_closed m group,nds_closed m having,rows_closed m rows,qrs_closed m ins]
theorem Qr.closed (m : Nat) : ∀ n : Qr,n.av.closed m = true
  | .mk body keys limit offset => by
    have h:=Bd.closed m body
    have hk : ∀ ks : List Ky,closedL m (ks.map Ky.av) = true:=by
      intro ks
      induction ks with
      | nil=>rfl
      | cons k r ih=>simp only [List.map_cons,closedL,ih,Ky.av]; simp [AV.closed,closedL]
    obtain ⟨c0,c1,c2,i3,i4,i5,i6,i7,i8,i9⟩:=body
    simp [Bd.cells,AV.closed,closedL] at h
    simp [Qr.av,Bd.cells,AV.closed,closedL,hk]
    exact h
theorem qrs_closed (m : Nat) : ∀ l : List Qr,closedL m (qrsAV l) = true
  | []=>rfl
  | n :: r=>by simp [qrsAV,closedL,Qr.closed m n,qrs_closed m r]
end
theorem keys_closed (m : Nat) : ∀ ks : List Ky,closedL m (ks.map Ky.av) = true
  | []=>rfl
  | k :: r=>by simp only [List.map_cons,closedL,keys_closed m r,Ky.av]; simp [AV.closed,closedL]
def their (q : Qr) : Qr:=(thQ q 20000).1
theorem c14 (q : Qr) (hf : q.fit) : run2 14 [q.av] [] = some (.ret (their q).av none,[]):=by
  have ok : Ok1 8 20000:=⟨by omega,by unfold Po; simp⟩
  have q1:=c27 q (fun b ks l o e=>(allCut (SizeOf.sizeOf b + 1)).2.2.2 b (by omega)) hf 20000 ok
  refine eqn2 rfl ?_
  unfold their
  obtain ⟨⟨c0,c1,c2,i3,i4,i5,i6,i7,i8,i9⟩,ks,l,o⟩:=q
  generalize thQ (.mk (.mk c0 c1 c2 i3 i4 i5 i6 i7 i8 i9) ks l o) 20000 = A at *
  obtain ⟨⟨⟨d0,d1,d2,j3,j4,j5,j6,j7,j8,j9⟩,ks',l',o'⟩,L'⟩:=A
  simp only [Qr.av,Bd.cells,List.cons_append,List.nil_append,cB] at *
  simp [-getElem?_pos,List.getElem?_cons_zero,List.getElem?_cons_succ,a14,q1,aleave]
  exact ⟨fun i x h=>by omega,by simp [AEnd.closed,AV.closed,closedL,its_closed,srs_closed,nds_closed,rows_closed,qrs_closed,keys_closed]⟩
end Go.Av
set_option maxRecDepth 100000
set_option linter.unusedSimpArgs false
set_option linter.unusedVariables false
namespace Go.Av
open Go Go.Proofs
mutual
def Nd.small : Nd→Prop
  | .mk _ text _ _ _ args query=>text.length≤210∧args.length≤20000∧query.length≤20000∧ndsSmall args∧qrsSmall query
def ndsSmall : List Nd→Prop
  | []=>True
  | n :: r=>n.small∧ndsSmall r
def It.small : It→Prop
  | .mk _ table expr as'=>table.length≤210∧expr.length≤20000∧as'.length≤210∧ndsSmall expr
def itsSmall : List It→Prop
  | []=>True
  | n :: r=>n.small∧itsSmall r
def Sr.small : Sr→Prop
  | .mk _ name as' query ins on=>name.length≤210∧as'.length≤210∧query.length≤20000∧ins.length≤20000∧on.length≤20000∧qrsSmall query∧srsSmall ins∧ndsSmall on
def srsSmall : List Sr→Prop
  | []=>True
  | n :: r=>n.small∧srsSmall r
def rowsSmall : List (List Nd)→Prop
  | []=>True
  | n :: r=>(n.length≤20000∧ndsSmall n)∧rowsSmall r
def Bd.small : Bd→Prop
  | .mk _ _ _ items frm whr group having rows ins => (items.length ≤ 20000 ∧ frm.length ≤ 20000 ∧ whr.length ≤ 20000 ∧ group.length ≤ 20000 ∧ having.length ≤ 20000 ∧ rows.length ≤ 20000 ∧ ins.length ≤ 20000) ∧
    itsSmall items∧srsSmall frm∧ndsSmall whr∧ndsSmall group∧ndsSmall having∧rowsSmall rows∧qrsSmall ins
def Qr.small : Qr→Prop
  | .mk body keys _ _=>body.small∧keys.length≤20000∧∀ k ∈ keys,k.name.length≤210
def qrsSmall : List Qr→Prop
  | []=>True
  | n :: r=>n.small∧qrsSmall r
end
theorem ndsSmall_iff : ∀ l : List Nd,ndsSmall l↔∀ n ∈ l,n.small
  | []=>by simp [ndsSmall]
  | n :: r=>by simp [ndsSmall,ndsSmall_iff r]
theorem itsSmall_iff : ∀ l : List It,itsSmall l↔∀ n ∈ l,n.small
  | []=>by simp [itsSmall]
  | n :: r=>by simp [itsSmall,itsSmall_iff r]
theorem srsSmall_iff : ∀ l : List Sr,srsSmall l↔∀ n ∈ l,n.small
  | []=>by simp [srsSmall]
  | n :: r=>by simp [srsSmall,srsSmall_iff r]
theorem qrsSmall_iff : ∀ l : List Qr,qrsSmall l↔∀ n ∈ l,n.small
  | []=>by simp [qrsSmall]
  | n :: r=>by simp [qrsSmall,qrsSmall_iff r]
theorem rowsSmall_iff : ∀ l : List (List Nd),rowsSmall l↔∀ n ∈ l,n.length≤20000∧ndsSmall n
  | []=>by simp [rowsSmall]
  | n :: r=>by simp [rowsSmall,rowsSmall_iff r]
theorem cut_len {α β : Type} {g : α→Int→β×Int} {c : Int} (hc : 0≤c) (hc9 : c≤9) : ∀ (l : List α) (L : Int),(∀ x L,Ok1 c L→Bd1 c L (g x L).2)→Ok1 1 L→((cutL g l L).1.length : Int)≤if 0≤L then L else 0
  | [],L,_,h=>by simp only [cutL]; split <;> simp; omega
  | x :: r, L, hg, h => by
    simp only [cutL]
    have e:=ms_eq h (by omega)
    by_cases h0 : 0≤ms L
    · rw [if_pos h0]
      simp only [List.length_cons]
      rw [e] at h0 ⊢
      have p1:=Po_step h0
      obtain ⟨h1,h2⟩:=h
      obtain ⟨b1,b2⟩:=hg x (L - 1) ⟨by omega,by omega⟩
      have:=cut_len hc hc9 r (g x (L - 1)).2 hg ⟨by omega,by omega⟩
      rw [if_pos (by omega)]
      split at this <;> omega
    · rw [if_neg h0]
      simp only [List.length_nil]
      split <;> omega
theorem cut_len' {α β : Type} {g : α→Int→β×Int} {c : Int} (hc : 0≤c) (hc9 : c≤9) (l : List α) {L : Int} (hg : ∀ x L,Ok1 c L→Bd1 c L (g x L).2) (h : Ok1 1 L) : (cutL g l L).1.length≤20000:=by
  have h1:=cut_len hc hc9 l L hg h
  have h2:=h.1
  split at h1 <;> omega
theorem sh_len (s : List UInt8) : (sh s).length≤210:=by unfold sh; rw [List.length_take]; omega
theorem Ok1.round {c L : Int} (h : Ok1 1 L) (h0 : 0≤ms L) (hc9 : c≤9) : Ok1 c (ms L)∧∀ L',Bd1 c (ms L) L'→Ok1 1 L':=by
  have e:=ms_eq h (by omega)
  rw [e] at h0 ⊢
  have p1:=Po_step h0
  obtain ⟨h1,h2⟩:=h
  refine ⟨⟨by omega,by omega⟩,fun L' hb=>?_⟩
  obtain ⟨b1,b2⟩:=hb
  exact ⟨by omega,by omega⟩
mutual
theorem thN_small : ∀ (n : Nd) (L : Int),Ok1 2 L→(thN n L).1.small
  | .mk op text num no dis args query, L, h => by
    have o1:=h.step (e:=1) (Bd1.refl L) (by omega)
    have b1:=thNs_bd args L o1
    have o2:=h.step (e:=1) b1 (by omega)
    simp only [thN,Nd.small]
    exact ⟨sh_len _,by rw [thNs_cut]; exact cut_len' (by omega) (by omega) _ thN_bd o1,by rw [thQs_cut]; exact cut_len' (by omega) (by omega) _ thQ_bd o2,thNs_small args L o1,thQs_small query _ o2⟩
theorem thNs_small : ∀ (l : List Nd) (L : Int),Ok1 1 L→ndsSmall (thNs l L).1
  | [],L,_=>trivial
  | n :: r, L, h => by
    simp only [thNs]
    split
    · rename_i h0
      obtain ⟨o1,o2⟩:=h.round h0 (c:=2) (by omega)
      exact ⟨thN_small n _ o1,thNs_small r _ (o2 _ (thN_bd n _ o1))⟩
    · trivial
theorem thI_small : ∀ (n : It) (L : Int),Ok1 1 L→(thI n L).1.small
  | .mk star table expr as', L, h => by
    simp only [thI,It.small]
    exact ⟨sh_len _,by rw [thNs_cut]; exact cut_len' (by omega) (by omega) _ thN_bd h,sh_len _,thNs_small expr L h⟩
theorem thIs_small : ∀ (l : List It) (L : Int),Ok1 1 L→itsSmall (thIs l L).1
  | [],L,_=>trivial
  | n :: r, L, h => by
    simp only [thIs]
    split
    · rename_i h0
      obtain ⟨o1,o2⟩:=h.round h0 (c:=1) (by omega)
      exact ⟨thI_small n _ o1,thIs_small r _ (o2 _ (thI_bd n _ o1))⟩
    · trivial
theorem thS_small : ∀ (n : Sr) (L : Int),Ok1 3 L→(thS n L).1.small
  | .mk op name as' query ins on, L, h => by
    have o1:=h.step (e:=1) (Bd1.refl L) (by omega)
    have b1:=thQs_bd query L o1
    have o2:=h.step (e:=1) b1 (by omega)
    have b2:=b1.trans (thSs_bd ins _ o2)
    have o3:=h.step (e:=1) b2 (by omega)
    simp only [thS,Sr.small]
    exact ⟨sh_len _,sh_len _,by rw [thQs_cut]; exact cut_len' (by omega) (by omega) _ thQ_bd o1,by rw [thSs_cut]; exact cut_len' (by omega) (by omega) _ thS_bd o2,by rw [thNs_cut]; exact cut_len' (by omega) (by omega) _ thN_bd o3,
      thQs_small query L o1,thSs_small ins _ o2,thNs_small on _ o3⟩
theorem thSs_small : ∀ (l : List Sr) (L : Int),Ok1 1 L→srsSmall (thSs l L).1
  | [],L,_=>trivial
  | n :: r, L, h => by
    simp only [thSs]
    split
    · rename_i h0
      obtain ⟨o1,o2⟩:=h.round h0 (c:=3) (by omega)
      exact ⟨thS_small n _ o1,thSs_small r _ (o2 _ (thS_bd n _ o1))⟩
    · trivial
theorem thRs_small : ∀ (l : List (List Nd)) (L : Int),Ok1 1 L→rowsSmall (thRs l L).1
  | [],L,_=>trivial
  | n :: r, L, h => by
    simp only [thRs]
    split
    · rename_i h0
      obtain ⟨o1,o2⟩:=h.round h0 (c:=1) (by omega)
      exact ⟨⟨by rw [thNs_cut]; exact cut_len' (by omega) (by omega) _ thN_bd o1,thNs_small n _ o1⟩,thRs_small r _ (o2 _ (thNs_bd n _ o1))⟩
    · trivial
theorem thB_small : ∀ (b : Bd) (L : Int),Ok1 7 L→(thB b L).1.small
  | .mk op all dis items frm whr group having rows ins, L, h => by
    have o1:=h.step (e:=1) (Bd1.refl L) (by omega)
    have b1:=thIs_bd items L o1
    have o2:=h.step (e:=1) b1 (by omega)
    have b2:=b1.trans (thSs_bd frm _ o2)
    have o3:=h.step (e:=1) b2 (by omega)
    have b3:=b2.trans (thNs_bd whr _ o3)
    have o4:=h.step (e:=1) b3 (by omega)
    have b4:=b3.trans (thNs_bd group _ o4)
    have o5:=h.step (e:=1) b4 (by omega)
    have b5:=b4.trans (thNs_bd having _ o5)
    have o6:=h.step (e:=1) b5 (by omega)
    have b6:=b5.trans (thRs_bd rows _ o6)
    have o7:=h.step (e:=1) b6 (by omega)
    simp only [thB,Bd.small]
    refine ⟨⟨?_,?_,?_,?_,?_,?_,?_⟩,thIs_small items L o1,thSs_small frm _ o2,thNs_small whr _ o3,thNs_small group _ o4,thNs_small having _ o5,thRs_small rows _ o6,thQs_small ins _ o7⟩
    · rw [thIs_cut]; exact cut_len' (by omega) (by omega) _ thI_bd o1
    · rw [thSs_cut]; exact cut_len' (by omega) (by omega) _ thS_bd o2
    · rw [thNs_cut]; exact cut_len' (by omega) (by omega) _ thN_bd o3
    · rw [thNs_cut]; exact cut_len' (by omega) (by omega) _ thN_bd o4
    · rw [thNs_cut]; exact cut_len' (by omega) (by omega) _ thN_bd o5
    · rw [thRs_cut]; exact cut_len' (by omega) (by omega) _ thNs_bd o6
    · rw [thQs_cut]; exact cut_len' (by omega) (by omega) _ thQ_bd o7
theorem thQ_small : ∀ (q : Qr) (L : Int),Ok1 8 L→(thQ q L).1.small
  | .mk body keys limit offset, L, h => by
    have o1:=h.step (e:=7) (Bd1.refl L) (by omega)
    have b1:=thB_bd body L o1
    have o2:=h.step (e:=1) b1 (by omega)
    simp only [thQ,Qr.small]
    refine ⟨thB_small body L o1,by rw [thKs_cut]; exact cut_len' (c:=0) (by omega) (by omega) _ (fun x L _=>Bd1.refl L) o2,?_⟩
    have : ∀ (ks : List Ky) (L : Int),∀ k ∈ (thKs ks L).1,k.name.length≤210:=by
      intro ks
      induction ks with
      | nil=>intro L k hk; cases hk
      | cons x r ih =>
        intro L k hk
        simp only [thKs] at hk
        split at hk
        · rcases List.mem_cons.1 hk with rfl | hk
          · exact sh_len _
          · exact ih _ k hk
        · cases hk
    exact this keys _
theorem thQs_small : ∀ (l : List Qr) (L : Int),Ok1 1 L→qrsSmall (thQs l L).1
  | [],L,_=>trivial
  | n :: r, L, h => by
    simp only [thQs]
    split
    · rename_i h0
      obtain ⟨o1,o2⟩:=h.round h0 (c:=8) (by omega)
      exact ⟨thQ_small n _ o1,thQs_small r _ (o2 _ (thQ_bd n _ o1))⟩
    · trivial
end
theorem their_small (q : Qr) : (their q).small:=thQ_small q 20000 ⟨by omega,by unfold Po; simp⟩
end Go.Av
set_option maxRecDepth 100000
set_option linter.unusedSimpArgs false
set_option linter.unusedVariables false
namespace Go.Av
open Go Go.Proofs
theorem loop_copy {f : St→Option (AEx×St)} (X : List AV) (st : List AV→Nat→St) {r : AEx×St} (hr : r.1≠.normal) (hround : ∀ (i : Nat) x,X[i]? = some x→f (st (X.take i) i) = some (.normal,st (X.take i++[x]) (i + 1)))
    (hend : f (st X X.length) = some r) : aloopW f (st [] 0) = some r:=by
  have:=loop_upto (f:=f) (st:=fun i=>st (X.take i) i) (r:=r) hr X.length 0 (fun i _ hi=>by
    have hi' : i < X.length:=by omega
    obtain ⟨x,hx⟩ : ∃ x,X[i]? = some x:=⟨X[i],List.getElem?_eq_getElem hi'⟩
    rw [hround i x hx,List.take_add_one,hx]; rfl) (by rw [Nat.zero_add,List.take_length]; exact hend)
  simpa using this
theorem take_le {X : List AV} {i : Nat} {x : AV} (h : X[i]? = some x) : (X.take i).length = i:=by
  have:=(List.getElem?_eq_some_iff.1 h).1
  rw [List.length_take]; omega
def CN (l : List Nd) : Prop:=ndsSmall l→l.length≤20000→∀ S,run2 50 [.slice 7 (ndsAV l)] S = some (.ret (.slice 7 (ndsAV l)) (some 62),S)
def CQ (l : List Qr) : Prop:=qrsSmall l→l.length≤20000→∀ S,run2 52 [.slice 13 (qrsAV l)] S = some (.ret (.slice 13 (qrsAV l)) (some 32),S)
def CS (l : List Sr) : Prop:=srsSmall l→l.length≤20000→∀ S,run2 51 [.slice 6 (srsAV l)] S = some (.ret (.slice 6 (srsAV l)) (some 140),S)
def st50 (sz e : Nat) (S : List Bx) (l : List AV) (acc : List AV) (i : Nat) : St:={ σ:=[(0,.v (.slice sz l)),(3,.v (.slice sz acc)),(4,.v (.int .i64 (i : Int)))],own:=[(3,e)],loc:=[],S:=S }
def en3 (sz e : Nat) (S : List Bx) (acc : List AV) : AEx×St:=(.exit 0,{ σ:=[(3,.v (.slice sz acc))],own:=[(3,e)],loc:=[],S:=S })
set_option maxHeartbeats 1000000 in
theorem copyN (l : List Nd) (ih : ∀ op text num no dis args query,Nd.mk op text num no dis args query ∈ l→CN args∧CQ query) : CN l:=by
  intro hf hl S
  refine eqn2 rfl ?_
  have hlen : (ndsAV l).length = l.length:=ndsAV_len l
  have hloop:=loop_copy (f:=acode run2 a50_l0) (ndsAV l) (st:=st50 7 62 S (ndsAV l)) (r:=en3 7 62 S (ndsAV l)) (by simp [en3])
    (fun i x hx=>by
      have hacc:=take_le hx
      have h1:=ilt hx
      rw [hlen] at h1
      have hi : i < l.length:=by omega
      have g:=hx
      rw [ndsAV_map,List.getElem?_map,Option.map_eq_some_iff] at hx
      obtain ⟨⟨op,text,num,no,dis,args,query⟩,hx,rfl⟩:=hx
      obtain ⟨ihN,ihQ⟩:=ih op text num no dis args query (List.mem_of_getElem? hx)
      have hfit:=(ndsSmall_iff l).1 hf _ (List.mem_of_getElem? hx)
      simp only [Nd.small] at hfit
      obtain ⟨f1,f2,f3,f4,f5⟩:=hfit
      have q1:=ihN f4 f2 S
      have q2:=ihQ f5 f3 S
      have w:=w64s (n:=i) (by omega)
      have hb : (i + 1) * 88≤140737488355328:=by omega
      simp only [Nd.av] at g ⊢
      generalize (ndsAV l).take i = ACC at *
      generalize ndsAV l = X at *
      generalize ndsAV args = AR at *
      generalize qrsAV query = QR at *
      rw [acode_k]
      simp [-getElem?_pos,List.getElem?_cons_zero,List.getElem?_cons_succ,a50_l0,st50,hlen,h1,hi,g,q1,q2,w,hacc,hb])
    (by
      rw [acode_k]
      simp [-getElem?_pos,List.getElem?_cons_zero,List.getElem?_cons_succ,a50_l0,st50,en3,hlen])
  simp only [st50,en3,Int.natCast_zero,Int.ofNat_zero] at hloop
  simp [-getElem?_pos,List.getElem?_cons_zero,List.getElem?_cons_succ,a50,hloop,kleave_le]
set_option maxHeartbeats 1000000 in
theorem copyS (l : List Sr) (ih : ∀ op name as' query ins on,Sr.mk op name as' query ins on ∈ l→CQ query∧CS ins∧CN on) : CS l:=by
  intro hf hl S
  refine eqn2 rfl ?_
  have hlen : (srsAV l).length = l.length:=srsAV_len l
  have hloop:=loop_copy (f:=acode run2 a51_l0) (srsAV l) (st:=st50 6 140 S (srsAV l)) (r:=en3 6 140 S (srsAV l)) (by simp [en3])
    (fun i x hx=>by
      have hacc:=take_le hx
      have h1:=ilt hx
      rw [hlen] at h1
      have hi : i < l.length:=by omega
      have g:=hx
      rw [srsAV_map,List.getElem?_map,Option.map_eq_some_iff] at hx
      obtain ⟨⟨op,name,as',query,ins,on⟩,hx,rfl⟩:=hx
      obtain ⟨ihQ,ihS,ihN⟩:=ih op name as' query ins on (List.mem_of_getElem? hx)
      have hfit:=(srsSmall_iff l).1 hf _ (List.mem_of_getElem? hx)
      simp only [Sr.small] at hfit
      obtain ⟨f1,f2,f3,f4,f5,f6,f7,f8⟩:=hfit
      have q1:=ihQ f6 f3 S
      have q2:=ihS f7 f4 S
      have q3:=ihN f8 f5 S
      have w:=w64s (n:=i) (by omega)
      have hb : (i + 1) * 112≤140737488355328:=by omega
      simp only [Sr.av] at g ⊢
      generalize (srsAV l).take i = ACC at *
      generalize srsAV l = X at *
      generalize srsAV ins = AR at *
      generalize qrsAV query = QR at *
      generalize ndsAV on = NR at *
      rw [acode_k]
      simp [-getElem?_pos,List.getElem?_cons_zero,List.getElem?_cons_succ,a51_l0,st50,hlen,h1,hi,g,q1,q2,q3,w,hacc,hb])
    (by
      rw [acode_k]
      simp [-getElem?_pos,List.getElem?_cons_zero,List.getElem?_cons_succ,a51_l0,st50,en3,hlen])
  simp only [st50,en3,Int.natCast_zero,Int.ofNat_zero] at hloop
  simp [-getElem?_pos,List.getElem?_cons_zero,List.getElem?_cons_succ,a51,hloop,kleave_le]
def cOwn : List (Nat×Nat):=[(3,59),(4,140),(5,62),(6,62),(7,62),(8,25),(9,32)]
def cZero : Bx:={ cells:=[.int .i64 0,.bool false,.bool false,.slice 4 [],.slice 6 [],.slice 7 [],.slice 7 [],.slice 7 [],.slice 1 [],.slice 13 []],own:=cOwn }
def st28 (S : List Bx) (b : List AV) (x0 x1 x2 : AV) (acc : List AV) (i : Nat) : St :=
  { σ:=[(1,.l 1 0),(2,.l 2 0),(3,.l 3 0),(4,.v (.int .i64 (i : Int)))],own:=[],loc:=[(1,{ cells:=b }),(2,cZero),(3,{ cells:=[x0,x1,x2,.slice 4 acc,.slice 6 [],.slice 7 [],.slice 7 [],.slice 7 [],.slice 1 [],.slice 13 []],own:=cOwn })],S:=S }
def en28 (S : List Bx) (b : List AV) (x0 x1 x2 : AV) (acc : List AV) : AEx×St:=(.exit 0,
  { σ:=[(1,.l 1 0),(2,.l 2 0),(3,.l 3 0)],own:=[],loc:=[(1,{ cells:=b }),(2,cZero),(3,{ cells:=[x0,x1,x2,.slice 4 acc,.slice 6 [],.slice 7 [],.slice 7 [],.slice 7 [],.slice 1 [],.slice 13 []],own:=cOwn })],S:=S })
set_option maxHeartbeats 2000000 in
theorem loop28 (S : List Bx) (x0 x1 x2 x4 x5 x6 x7 x8 x9 : AV) (items : List It) (hf : itsSmall items) (hl : items.length≤20000) (ih : ∀ star table expr as',It.mk star table expr as' ∈ items→CN expr) :
    aloopW (acode run2 a28_l0) (st28 S [x0,x1,x2,.slice 4 (itsAV items),x4,x5,x6,x7,x8,x9] x0 x1 x2 [] 0) = some (en28 S [x0,x1,x2,.slice 4 (itsAV items),x4,x5,x6,x7,x8,x9] x0 x1 x2 (itsAV items)):=by
  have hlen : (itsAV items).length = items.length:=itsAV_len items
  refine loop_copy (f:=acode run2 a28_l0) (itsAV items) (st:=st28 S [x0,x1,x2,.slice 4 (itsAV items),x4,x5,x6,x7,x8,x9] x0 x1 x2) (by simp [en28])
    (fun i x hx=>by
      have hacc:=take_le hx
      have h1:=ilt hx
      rw [hlen] at h1
      have hi : i < items.length:=by omega
      have g:=hx
      rw [itsAV_map,List.getElem?_map,Option.map_eq_some_iff] at hx
      obtain ⟨⟨star,table,expr,as'⟩,hx,rfl⟩:=hx
      have ihN:=ih star table expr as' (List.mem_of_getElem? hx)
      have hfit:=(itsSmall_iff items).1 hf _ (List.mem_of_getElem? hx)
      simp only [It.small] at hfit
      obtain ⟨f1,f2,f3,f4⟩:=hfit
      have q1:=ihN f4 f2 S
      have w:=w64s (n:=i) (by omega)
      have hb : (i + 1) * 64≤140737488355328:=by omega
      simp only [It.av] at g ⊢
      generalize (itsAV items).take i = ACC at *
      generalize itsAV items = X at *
      generalize ndsAV expr = NR at *
      rw [acode_k]
      simp [-getElem?_pos,List.getElem?_cons_zero,List.getElem?_cons_succ,a28_l0,st28,cZero,cOwn,hlen,h1,hi,g,q1,w,hacc,hb])
    (by
      rw [acode_k]
      simp [-getElem?_pos,List.getElem?_cons_zero,List.getElem?_cons_succ,a28_l0,st28,en28,hlen])
def st28b (S : List Bx) (b : List AV) (y0 y1 y2 y3 y4 y5 y6 y7 : AV) (acc : List AV) (i : Nat) : St :=
  { σ:=[(1,.l 1 0),(2,.l 2 0),(3,.l 3 0),(6,.v (.int .i64 (i : Int)))],own:=[],loc:=[(1,{ cells:=b }),(2,cZero),(3,{ cells:=[y0,y1,y2,y3,y4,y5,y6,y7,.slice 1 acc,.slice 13 []],own:=cOwn })],S:=S }
def en28b (S : List Bx) (b : List AV) (y0 y1 y2 y3 y4 y5 y6 y7 : AV) (acc : List AV) : AEx×St:=(.exit 2,
  { σ:=[(1,.l 1 0),(2,.l 2 0),(3,.l 3 0)],own:=[],loc:=[(1,{ cells:=b }),(2,cZero),(3,{ cells:=[y0,y1,y2,y3,y4,y5,y6,y7,.slice 1 acc,.slice 13 []],own:=cOwn })],S:=S })
set_option maxHeartbeats 2000000 in
theorem loop28b (S : List Bx) (x0 x1 x2 x3 x4 x5 x6 x7 x9 : AV) (y0 y1 y2 y3 y4 y5 y6 y7 : AV) (rows : List (List Nd)) (hf : rowsSmall rows) (hl : rows.length≤20000) (ih : ∀ r ∈ rows,CN r) :
    aloopW (acode run2 a28_l1) (st28b S [x0,x1,x2,x3,x4,x5,x6,x7,.slice 1 (rowsAV rows),x9] y0 y1 y2 y3 y4 y5 y6 y7 [] 0) = some (en28b S [x0,x1,x2,x3,x4,x5,x6,x7,.slice 1 (rowsAV rows),x9] y0 y1 y2 y3 y4 y5 y6 y7 (rowsAV rows)):=by
  have hlen : (rowsAV rows).length = rows.length:=rowsAV_len rows
  refine loop_copy (f:=acode run2 a28_l1) (rowsAV rows) (st:=st28b S [x0,x1,x2,x3,x4,x5,x6,x7,.slice 1 (rowsAV rows),x9] y0 y1 y2 y3 y4 y5 y6 y7) (by simp [en28b])
    (fun i x hx=>by
      have hacc:=take_le hx
      have h1:=ilt hx
      rw [hlen] at h1
      have hi : i < rows.length:=by omega
      have g:=hx
      rw [rowsAV_map,List.getElem?_map,Option.map_eq_some_iff] at hx
      obtain ⟨r,hx,rfl⟩:=hx
      have ihN:=ih r (List.mem_of_getElem? hx)
      obtain ⟨f1,f2⟩:=(rowsSmall_iff rows).1 hf _ (List.mem_of_getElem? hx)
      have q1:=ihN f2 f1 S
      have w:=w64s (n:=i) (by omega)
      have hb : (i + 1) * 24≤140737488355328:=by omega
      generalize (rowsAV rows).take i = ACC at *
      generalize rowsAV rows = X at *
      generalize ndsAV r = NR at *
      rw [acode_k]
      simp [-getElem?_pos,List.getElem?_cons_zero,List.getElem?_cons_succ,a28_l1,st28b,cZero,cOwn,hlen,h1,hi,g,q1,w,hacc,hb])
    (by
      rw [acode_k]
      simp [-getElem?_pos,List.getElem?_cons_zero,List.getElem?_cons_succ,a28_l1,st28b,en28b,hlen])
structure CB (b : Bd) : Prop where
  items : ∀ op all dis items frm whr group having rows ins,b = .mk op all dis items frm whr group having rows ins→(∀ star table expr as',It.mk star table expr as' ∈ items→CN expr)∧CS frm∧CN whr∧CN group∧CN having∧(∀ r ∈ rows,CN r)∧CQ ins
set_option maxHeartbeats 4000000 in
theorem c28 (b : Bd) (hp : CB b) (hf : b.small) (S : List Bx) : run2 28 [.agg b.cells] S = some (.ret (.agg b.cells) none,S):=by
  obtain ⟨op,all,dis,items,frm,whr,group,having,rows,ins⟩:=b
  obtain ⟨p1,p2,p3,p4,p5,p6,p7⟩:=hp.items _ _ _ _ _ _ _ _ _ _ rfl
  simp only [Bd.small] at hf
  obtain ⟨⟨f1,f2,f3,f4,f5,f6,f7⟩,g1,g2,g3,g4,g5,g6,g7⟩:=hf
  refine eqn2 rfl ?_
  have l0:=fun x0 x1 x2 x4 x5 x6 x7 x8 x9=>loop28 S x0 x1 x2 x4 x5 x6 x7 x8 x9 items g1 f1 p1
  have l1:=fun x0 x1 x2 x3 x4 x5 x6 x7 x9 y0 y1 y2 y3 y4 y5 y6 y7=>loop28b S x0 x1 x2 x3 x4 x5 x6 x7 x9 y0 y1 y2 y3 y4 y5 y6 y7 rows g6 f6 p6
  have q2:=p2 g2 f2 S
  have q3:=p3 g3 f3 S
  have q4:=p4 g4 f4 S
  have q5:=p5 g5 f5 S
  have q7:=p7 g7 f7 S
  simp only [Bd.cells]
  generalize itsAV items = X3 at *
  generalize srsAV frm = X4 at *
  generalize ndsAV whr = X5 at *
  generalize ndsAV group = X6 at *
  generalize ndsAV having = X7 at *
  generalize rowsAV rows = X8 at *
  generalize qrsAV ins = X9 at *
  simp only [st28,en28,st28b,en28b,cZero,cOwn,Int.natCast_zero,Int.ofNat_zero] at l0 l1
  simp [-getElem?_pos,List.getElem?_cons_zero,List.getElem?_cons_succ,a28,l0,l1,q2,q3,q4,q5,q7,kleave_le]
end Go.Av
set_option maxRecDepth 100000
set_option linter.unusedSimpArgs false
set_option linter.unusedVariables false
namespace Go.Av
open Go Go.Proofs
def rOwn : List (Nat×Nat):=cOwn++[(10,64)]
def rZero : Bx:={ cells:=[.int .i64 0,.bool false,.bool false,.slice 4 [],.slice 6 [],.slice 7 [],.slice 7 [],.slice 7 [],.slice 1 [],.slice 13 [],.slice 3 [],.int .i64 0,.int .i64 0],own:=rOwn }
def st15 (S : List Bx) (q : List AV) (o0 o1 o2 o3 o4 o5 o6 o7 o8 o9 o11 o12 : AV) (acc : List AV) (i : Nat) : St :=
  { σ:=[(1,.l 1 0),(2,.l 2 0),(3,.l 3 0),(4,.v (.int .i64 (i : Int)))],own:=[],loc:=[(1,{ cells:=q }),(2,rZero),(3,{ cells:=[o0,o1,o2,o3,o4,o5,o6,o7,o8,o9,.slice 3 acc,o11,o12],own:=[(10,64)] })],S:=S }
def en15 (S : List Bx) (o0 o1 o2 o3 o4 o5 o6 o7 o8 o9 o11 o12 : AV) (acc : List AV) : AEx×St:=(.exit 0,
  { σ:=[(2,.l 2 0),(3,.l 3 0)],own:=[],loc:=[(2,rZero),(3,{ cells:=[o0,o1,o2,o3,o4,o5,o6,o7,o8,o9,.slice 3 acc,o11,o12],own:=[(10,64)] })],S:=S })
set_option maxHeartbeats 2000000 in
theorem loop15 (S : List Bx) (x0 x1 x2 x3 x4 x5 x6 x7 x8 x9 x11 x12 : AV) (o0 o1 o2 o3 o4 o5 o6 o7 o8 o9 o11 o12 : AV) (keys : List Ky) (hl : keys.length≤20000) :
    aloopW (acode run2 a15_l0) (st15 S [x0,x1,x2,x3,x4,x5,x6,x7,x8,x9,.slice 3 (keys.map Ky.av),x11,x12] o0 o1 o2 o3 o4 o5 o6 o7 o8 o9 o11 o12 [] 0) =
      some (en15 S o0 o1 o2 o3 o4 o5 o6 o7 o8 o9 o11 o12 (keys.map Ky.av)):=by
  have hlen : (keys.map Ky.av).length = keys.length:=by simp
  refine loop_copy (f:=acode run2 a15_l0) (keys.map Ky.av) (st:=st15 S [x0,x1,x2,x3,x4,x5,x6,x7,x8,x9,.slice 3 (keys.map Ky.av),x11,x12] o0 o1 o2 o3 o4 o5 o6 o7 o8 o9 o11 o12) (by simp [en15])
    (fun i x hx=>by
      have hacc:=take_le hx
      have h1:=ilt hx
      rw [hlen] at h1
      have hi : i < keys.length:=by omega
      have g:=hx
      rw [List.getElem?_map,Option.map_eq_some_iff] at hx
      obtain ⟨⟨nm,at',de⟩,hx,rfl⟩:=hx
      have w:=w64s (n:=i) (by omega)
      have hb : (i + 1) * 32≤140737488355328:=by omega
      simp only [Ky.av] at g ⊢
      have hlen' : (keys.map fun k=>AV.agg [.str (bs k.name),.int .i64 k.at',.bool k.desc]).length = keys.length:=by simp
      generalize List.take i _ = ACC at *
      generalize (keys.map fun k=>AV.agg [.str (bs k.name),.int .i64 k.at',.bool k.desc]) = X at *
      generalize List.map Ky.av keys = X2 at *
      rw [acode_k]
      simp [-getElem?_pos,List.getElem?_cons_zero,List.getElem?_cons_succ,a15_l0,st15,rZero,rOwn,cOwn,hlen,hlen',h1,hi,g,w,hacc,hb])
    (by
      generalize keys.map Ky.av = X at *
      rw [acode_k]
      simp [-getElem?_pos,List.getElem?_cons_zero,List.getElem?_cons_succ,a15_l0,st15,en15,hlen])
set_option maxHeartbeats 4000000 in
theorem c15' (q : Qr) (hp : ∀ b ks l o,q = .mk b ks l o→CB b) (hf : q.small) (S : List Bx) : run2 15 [q.av] S = some (.ret q.av none,S):=by
  obtain ⟨b,keys,limit,offset⟩:=q
  have pb:=hp _ _ _ _ rfl
  simp only [Qr.small] at hf
  obtain ⟨f1,f2,f3⟩:=hf
  have q1:=c28 b pb f1 S
  have l0:=fun x0 x1 x2 x3 x4 x5 x6 x7 x8 x9 x11 x12 o0 o1 o2' o3 o4 o5 o6 o7 o8 o9 o11 o12=>loop15 S x0 x1 x2 x3 x4 x5 x6 x7 x8 x9 x11 x12 o0 o1 o2' o3 o4 o5 o6 o7 o8 o9 o11 o12 keys f2
  refine eqn2 rfl ?_
  simp only [Qr.av]
  obtain ⟨d0,d1,d2,j3,j4,j5,j6,j7,j8,j9⟩:=b
  simp only [Bd.cells,List.cons_append,List.nil_append] at *
  generalize keys.map Ky.av = KS at *
  simp only [st15,en15,rZero,rOwn,cOwn,List.cons_append,List.nil_append,Int.natCast_zero,Int.ofNat_zero] at l0
  simp [-getElem?_pos,List.getElem?_cons_zero,List.getElem?_cons_succ,a15,l0,q1,kleave_le]
set_option maxHeartbeats 1000000 in
theorem copyQ (l : List Qr) (ih : ∀ b ks li o,Qr.mk b ks li o ∈ l→CB b) : CQ l:=by
  intro hf hl S
  refine eqn2 rfl ?_
  have hlen : (qrsAV l).length = l.length:=qrsAV_len l
  have hloop:=loop_copy (f:=acode run2 a52_l0) (qrsAV l) (st:=st50 13 32 S (qrsAV l)) (r:=en3 13 32 S (qrsAV l)) (by simp [en3])
    (fun i x hx=>by
      have hacc:=take_le hx
      have h1:=ilt hx
      rw [hlen] at h1
      have hi : i < l.length:=by omega
      have g:=hx
      rw [qrsAV_map,List.getElem?_map,Option.map_eq_some_iff] at hx
      obtain ⟨q,hx,rfl⟩:=hx
      have hfit:=(qrsSmall_iff l).1 hf _ (List.mem_of_getElem? hx)
      have q1:=c15' q (fun b ks li o e=>ih b ks li o (e ▸ List.mem_of_getElem? hx)) hfit S
      have w:=w64s (n:=i) (by omega)
      have hb : (i + 1) * 224≤140737488355328:=by omega
      obtain ⟨_,_,cs,e1,e2⟩:=Qr.av_dat q
      rw [e1] at g q1 ⊢
      generalize (qrsAV l).take i = ACC at *
      generalize qrsAV l = X at *
      have e2' : ¬ cs.length < 13:=by omega
      rw [acode_k]
      simp [-getElem?_pos,List.getElem?_cons_zero,List.getElem?_cons_succ,a52_l0,st50,hlen,h1,hi,g,q1,w,hacc,hb,e2,List.take_of_length_le (Nat.le_of_eq e2)])
    (by
      rw [acode_k]
      simp [-getElem?_pos,List.getElem?_cons_zero,List.getElem?_cons_succ,a52_l0,st50,en3,hlen])
  simp only [st50,en3,Int.natCast_zero,Int.ofNat_zero] at hloop
  simp [-getElem?_pos,List.getElem?_cons_zero,List.getElem?_cons_succ,a52,hloop,kleave_le]
theorem allCopy : ∀ (k : Nat),(∀ l : List Nd,SizeOf.sizeOf l < k→CN l)∧(∀ l : List Qr,SizeOf.sizeOf l < k→CQ l)∧(∀ l : List Sr,SizeOf.sizeOf l < k→CS l)∧(∀ b : Bd,SizeOf.sizeOf b < k→CB b)
  | 0=>⟨fun _ h=>by omega,fun _ h=>by omega,fun _ h=>by omega,fun _ h=>by omega⟩
  | k + 1 => by
    obtain ⟨h1,h2,h3,h4⟩:=allCopy k
    refine ⟨fun l hl=>copyN l fun op text num no dis args query hm=>?_,fun l hl=>copyQ l fun b ks li o hm=>?_,fun l hl=>copyS l fun op name as' query ins on hm=>?_,fun b hb=>⟨fun op all dis items frm whr group having rows ins e=>?_⟩⟩
    · have := List.sizeOf_lt_of_mem hm
      simp only [Nd.mk.sizeOf_spec] at this
      exact ⟨h1 args (by omega),h2 query (by omega)⟩
    · have := List.sizeOf_lt_of_mem hm
      simp only [Qr.mk.sizeOf_spec] at this
      exact h4 b (by omega)
    · have := List.sizeOf_lt_of_mem hm
      simp only [Sr.mk.sizeOf_spec] at this
      exact ⟨h2 query (by omega),h3 ins (by omega),h1 on (by omega)⟩
    · subst e
      simp only [Bd.mk.sizeOf_spec] at hb
      refine ⟨fun star table expr as' hm=>?_,h3 frm (by omega),h1 whr (by omega),h1 group (by omega),h1 having (by omega),fun r hm=>?_,h2 ins (by omega)⟩
      · have := List.sizeOf_lt_of_mem hm
        simp only [It.mk.sizeOf_spec] at this
        exact h1 expr (by omega)
      · have := List.sizeOf_lt_of_mem hm
        exact h1 r (by omega)
theorem c15 (q : Qr) (hf : q.small) (S : List Bx) : run2 15 [q.av] S = some (.ret q.av none,S) :=
  c15' q (fun b ks l o e=>(allCopy (SizeOf.sizeOf b + 1)).2.2.2 b (by omega)) hf S
end Go.Av
set_option maxRecDepth 100000
set_option linter.unusedSimpArgs false
set_option linter.unusedVariables false
namespace Go.Av
open Go Go.Proofs
def eqL {α : Type} (eq : α→α→Bool) : List α→List α→Bool
  | [],[]=>true
  | x :: l,y :: r=>eq x y && eqL eq l r
  | _,_=>false
def eqK (a b : Ky) : Bool:=(a.name == b.name) && ((a.at' == b.at') && (a.desc == b.desc))
mutual
def eqN : Nd→Nd→Bool
  | .mk op text num no dis args query, .mk op' text' num' no' dis' args' query' =>
    (op == op') && ((text == text') && ((num == num') && ((no == no') && ((dis == dis') && (eqNs args args' && eqQs query query')))))
def eqNs : List Nd→List Nd→Bool
  | [],[]=>true
  | x :: l,y :: r=>eqN x y && eqNs l r
  | _,_=>false
def eqI : It→It→Bool
  | .mk star table expr as',.mk star' table' expr' as''=>(star == star') && ((table == table') && ((as' == as'') && eqNs expr expr'))
def eqIs : List It→List It→Bool
  | [],[]=>true
  | x :: l,y :: r=>eqI x y && eqIs l r
  | _,_=>false
def eqS : Sr→Sr→Bool
  | .mk op name as' query ins on,.mk op' name' as'' query' ins' on'=>(op == op') && ((name == name') && ((as' == as'') && (eqQs query query' && (eqSs ins ins' && eqNs on on'))))
def eqSs : List Sr→List Sr→Bool
  | [],[]=>true
  | x :: l,y :: r=>eqS x y && eqSs l r
  | _,_=>false
def eqRs : List (List Nd)→List (List Nd)→Bool
  | [],[]=>true
  | x :: l,y :: r=>eqNs x y && eqRs l r
  | _,_=>false
def eqB : Bd→Bd→Bool
  | .mk op all dis items frm whr group having rows ins, .mk op' all' dis' items' frm' whr' group' having' rows' ins' =>
    (op == op') && ((all == all') && ((dis == dis') && (eqIs items items' && (eqSs frm frm' && (eqNs whr whr' && (eqNs group group' && (eqNs having having' && (eqRs rows rows' && eqQs ins ins'))))))))
def eqQ : Qr→Qr→Bool
  | .mk body keys limit offset,.mk body' keys' limit' offset'=>eqL eqK keys keys' && ((limit == limit') && ((offset == offset') && eqB body body'))
def eqQs : List Qr→List Qr→Bool
  | [],[]=>true
  | x :: l,y :: r=>eqQ x y && eqQs l r
  | _,_=>false
end
theorem eqNs_L : ∀ l r : List Nd,eqNs l r = eqL eqN l r
  | [],[]=>by simp [eqNs,eqL]
  | [],_ :: _=>by simp [eqNs,eqL]
  | _ :: _,[]=>by simp [eqNs,eqL]
  | x :: l,y :: r=>by simp only [eqNs,eqL,eqNs_L l r]
theorem eqIs_L : ∀ l r : List It,eqIs l r = eqL eqI l r
  | [],[]=>by simp [eqIs,eqL]
  | [],_ :: _=>by simp [eqIs,eqL]
  | _ :: _,[]=>by simp [eqIs,eqL]
  | x :: l,y :: r=>by simp only [eqIs,eqL,eqIs_L l r]
theorem eqSs_L : ∀ l r : List Sr,eqSs l r = eqL eqS l r
  | [],[]=>by simp [eqSs,eqL]
  | [],_ :: _=>by simp [eqSs,eqL]
  | _ :: _,[]=>by simp [eqSs,eqL]
  | x :: l,y :: r=>by simp only [eqSs,eqL,eqSs_L l r]
theorem eqRs_L : ∀ l r : List (List Nd),eqRs l r = eqL eqNs l r
  | [],[]=>by simp [eqRs,eqL]
  | [],_ :: _=>by simp [eqRs,eqL]
  | _ :: _,[]=>by simp [eqRs,eqL]
  | x :: l,y :: r=>by simp only [eqRs,eqL,eqRs_L l r]
theorem eqQs_L : ∀ l r : List Qr,eqQs l r = eqL eqQ l r
  | [],[]=>by simp [eqQs,eqL]
  | [],_ :: _=>by simp [eqQs,eqL]
  | _ :: _,[]=>by simp [eqQs,eqL]
  | x :: l,y :: r=>by simp only [eqQs,eqL,eqQs_L l r]
theorem eqL_len {α : Type} {eq : α→α→Bool} : ∀ {l r : List α},l.length≠r.length→eqL eq l r = false
  | [],[],h=>absurd rfl h
  | [],_ :: _,_=>rfl
  | _ :: _,[],_=>rfl
  | x :: l, y :: r, h => by
    simp only [eqL,eqL_len (l:=l) (r:=r) (by simpa using h),Bool.and_false]
theorem eqK_refl (k : Ky) : eqK k k = true:=by simp [eqK]
theorem eqL_refl {α : Type} {eq : α→α→Bool} : ∀ (l : List α),(∀ x ∈ l,eq x x = true)→eqL eq l l = true
  | [],_=>rfl
  | x :: l,h=>by simp [eqL,h x (.head _),eqL_refl l fun y hy=>h y (.tail _ hy)]
mutual
theorem eqN_refl : ∀ n : Nd,eqN n n = true
  | .mk op text num no dis args query=>by simp [eqN,eqNs_refl args,eqQs_refl query]
theorem eqNs_refl : ∀ l : List Nd,eqNs l l = true
  | []=>by simp [eqNs]
  | x :: l=>by simp [eqNs,eqN_refl x,eqNs_refl l]
theorem eqI_refl : ∀ n : It,eqI n n = true
  | .mk star table expr as'=>by simp [eqI,eqNs_refl expr]
theorem eqIs_refl : ∀ l : List It,eqIs l l = true
  | []=>by simp [eqIs]
  | x :: l=>by simp [eqIs,eqI_refl x,eqIs_refl l]
theorem eqS_refl : ∀ n : Sr,eqS n n = true
  | .mk op name as' query ins on=>by simp [eqS,eqQs_refl query,eqSs_refl ins,eqNs_refl on]
theorem eqSs_refl : ∀ l : List Sr,eqSs l l = true
  | []=>by simp [eqSs]
  | x :: l=>by simp [eqSs,eqS_refl x,eqSs_refl l]
theorem eqRs_refl : ∀ l : List (List Nd),eqRs l l = true
  | []=>by simp [eqRs]
  | x :: l=>by simp [eqRs,eqNs_refl x,eqRs_refl l]
theorem eqB_refl : ∀ n : Bd,eqB n n = true
  | .mk op all dis items frm whr group having rows ins=>by simp [eqB,eqIs_refl items,eqSs_refl frm,eqNs_refl whr,eqNs_refl group,eqNs_refl having,eqRs_refl rows,eqQs_refl ins]
theorem eqQ_refl : ∀ n : Qr,eqQ n n = true
  | .mk body keys limit offset=>by simp [eqQ,eqB_refl body,eqL_refl keys fun k _=>eqK_refl k]
theorem eqQs_refl : ∀ l : List Qr,eqQs l l = true
  | []=>by simp [eqQs]
  | x :: l=>by simp [eqQs,eqQ_refl x,eqQs_refl l]
end
theorem loop_two {f : St→Option (AEx×St)} {α : Type} (eq : α→α→Bool) (st : Nat→St) {bad good : AEx×St} (hb : bad.1≠.normal) (hg : good.1≠.normal) (l r : List α) (hlen : l.length = r.length)
    (hround : ∀ (i : Nat) x y,l[i]? = some x→r[i]? = some y→f (st i) = if eq x y = true then some (.normal,st (i + 1)) else some bad) (hend : f (st l.length) = some good) :
    aloopW f (st 0) = some (if eqL eq l r = true then good else bad):=by
  have key : ∀ (m n pre pre' : List α),l = pre++m→r = pre'++n→pre.length = pre'.length→m.length = n.length→aloopW f (st pre.length) = some (if eqL eq m n = true then good else bad):=by
    intro m
    induction m with
    | nil =>
      intro n pre pre' e1 e2 e3 e4
      have : n = []:=List.length_eq_zero_iff.1 e4.symm
      subst this
      simp only [List.append_nil] at e1
      subst e1
      rw [aloopW_stop hend hg]
      simp [eqL]
    | cons x m ih =>
      intro n pre pre' e1 e2 e3 e4
      cases n with
      | nil=>simp at e4
      | cons y n =>
        have h1 : l[pre.length]? = some x:=by rw [e1]; simp
        have h2 : r[pre.length]? = some y:=by rw [e2,e3]; simp
        have h3:=hround _ x y h1 h2
        by_cases hq : eq x y = true
        · rw [if_pos hq] at h3
          rw [aloopW_step h3]
          have:=ih n (pre++[x]) (pre'++[y]) (by rw [e1]; simp) (by rw [e2]; simp) (by simp [e3]) (by simpa using e4)
          simp only [List.length_append,List.length_cons,List.length_nil,Nat.zero_add] at this
          rw [this]
          simp [eqL,hq]
        · rw [if_neg hq] at h3
          rw [aloopW_stop h3 hb]
          simp [eqL,hq]
  exact key l r [] [] rfl rfl rfl hlen
end Go.Av
set_option maxRecDepth 100000
set_option linter.unusedSimpArgs false
set_option linter.unusedVariables false
namespace Go.Av
open Go Go.Proofs
def st114 (S : List Bx) (X Y : List AV) (c : AV) (n i : Nat) : St:={ σ:=[(1,.v (.slice 7 Y)),(2,.v c),(15,.v (.slice 7 X)),(16,.v (.int .i64 (n : Int))),(17,.v (.int .i64 (i : Int)))],own:=[],loc:=[],S:=S }
set_option maxHeartbeats 1000000 in
theorem c114 (fn : Nat) (S : List Bx) (l r : List Nd) (hl : l.length≤1000000) (hr : r.length≤1000000) (hq : ∀ x ∈ l,∀ y ∈ r,run2 fn [x.av,y.av] S = some (.ret (.bool (eqN x y)) none,S)) :
    run2 114 [.slice 7 (ndsAV l),.slice 7 (ndsAV r),.clos (.func fn) [] []] S = some (.ret (.bool (eqL eqN l r)) none,S):=by
  refine eqn2 rfl ?_
  have h1 : (ndsAV l).length = l.length:=ndsAV_len l
  have h2 : (ndsAV r).length = r.length:=ndsAV_len r
  by_cases hlen : l.length = r.length
  · have hloop:=loop_two (f:=acode run2 a114_l0) eqN (st:=st114 S (ndsAV l) (ndsAV r) (.clos (.func fn) [] []) l.length) (bad:=(.ret,{ σ:=[(6,.v (.bool false))],own:=[],loc:=[],S:=S })) (good:=(.exit 0,{ σ:=[],own:=[],loc:=[],S:=S })) (by simp) (by simp) l r hlen
      (fun i x y hx hy=>by
        have q:=hq x (List.mem_of_getElem? hx) y (List.mem_of_getElem? hy)
        have g1:=ndsAV_get hx
        have g2:=ndsAV_get hy
        have hi : i < l.length:=(List.getElem?_eq_some_iff.1 hx).1
        have hi' : (i : Int) < (l.length : Int):=by omega
        have w:=w64s (n:=i) (by omega)
        generalize eqN x y = e at *
        obtain ⟨op,text,num,no,dis,args,query⟩:=x
        obtain ⟨op',text',num',no',dis',args',query'⟩:=y
        simp only [Nd.av] at g1 g2 q
        generalize ndsAV l = X at *
        generalize ndsAV r = Y at *
        rw [acode_k]
        cases e <;> simp [-getElem?_pos,List.getElem?_cons_zero,List.getElem?_cons_succ,a114_l0,st114,hi,hi',g1,g2,q,w])
      (by
        rw [acode_k]
        simp [-getElem?_pos,List.getElem?_cons_zero,List.getElem?_cons_succ,a114_l0,st114])
    simp only [st114,Int.natCast_zero,Int.ofNat_zero] at hloop
    generalize eqL eqN l r = e at *
    generalize ndsAV l = X at *
    generalize ndsAV r = Y at *
    have hlen' : (l.length : Int) = (r.length : Int):=by omega
    cases e <;> simp [-getElem?_pos,List.getElem?_cons_zero,List.getElem?_cons_succ,a114,h1,h2,hlen,hlen'] <;> simp [hlen] at hloop <;> simp [hloop]
  · rw [eqL_len hlen]
    have hlen' : ¬ (l.length : Int) = (r.length : Int):=by omega
    generalize ndsAV l = X at *
    generalize ndsAV r = Y at *
    simp [-getElem?_pos,List.getElem?_cons_zero,List.getElem?_cons_succ,a114,h1,h2,hlen,hlen']
def st58 (S : List Bx) (X Y : List AV) (c : AV) (n i : Nat) : St:={ σ:=[(1,.v (.slice 4 Y)),(2,.v c),(15,.v (.slice 4 X)),(16,.v (.int .i64 (n : Int))),(17,.v (.int .i64 (i : Int)))],own:=[],loc:=[],S:=S }
set_option maxHeartbeats 1000000 in
theorem c58 (fn : Nat) (S : List Bx) (l r : List It) (hl : l.length≤1000000) (hr : r.length≤1000000) (hq : ∀ x ∈ l,∀ y ∈ r,run2 fn [x.av,y.av] S = some (.ret (.bool (eqI x y)) none,S)) :
    run2 58 [.slice 4 (itsAV l),.slice 4 (itsAV r),.clos (.func fn) [] []] S = some (.ret (.bool (eqL eqI l r)) none,S):=by
  refine eqn2 rfl ?_
  have h1 : (itsAV l).length = l.length:=itsAV_len l
  have h2 : (itsAV r).length = r.length:=itsAV_len r
  by_cases hlen : l.length = r.length
  · have hloop:=loop_two (f:=acode run2 a58_l0) eqI (st:=st58 S (itsAV l) (itsAV r) (.clos (.func fn) [] []) l.length) (bad:=(.ret,{ σ:=[(6,.v (.bool false))],own:=[],loc:=[],S:=S })) (good:=(.exit 0,{ σ:=[],own:=[],loc:=[],S:=S })) (by simp) (by simp) l r hlen
      (fun i x y hx hy=>by
        have q:=hq x (List.mem_of_getElem? hx) y (List.mem_of_getElem? hy)
        have g1:=itsAV_get hx
        have g2:=itsAV_get hy
        have hi : i < l.length:=(List.getElem?_eq_some_iff.1 hx).1
        have hi' : (i : Int) < (l.length : Int):=by omega
        have w:=w64s (n:=i) (by omega)
        generalize eqI x y = e at *
        obtain ⟨star,table,expr,as'⟩:=x
        obtain ⟨star',table',expr',as''⟩:=y
        simp only [It.av] at g1 g2 q
        generalize itsAV l = X at *
        generalize itsAV r = Y at *
        rw [acode_k]
        cases e <;> simp [-getElem?_pos,List.getElem?_cons_zero,List.getElem?_cons_succ,a58_l0,st58,hi,hi',g1,g2,q,w])
      (by
        rw [acode_k]
        simp [-getElem?_pos,List.getElem?_cons_zero,List.getElem?_cons_succ,a58_l0,st58])
    simp only [st58,Int.natCast_zero,Int.ofNat_zero] at hloop
    generalize eqL eqI l r = e at *
    generalize itsAV l = X at *
    generalize itsAV r = Y at *
    have hlen' : (l.length : Int) = (r.length : Int):=by omega
    cases e <;> simp [-getElem?_pos,List.getElem?_cons_zero,List.getElem?_cons_succ,a58,h1,h2,hlen,hlen'] <;> simp [hlen] at hloop <;> simp [hloop]
  · rw [eqL_len hlen]
    have hlen' : ¬ (l.length : Int) = (r.length : Int):=by omega
    generalize itsAV l = X at *
    generalize itsAV r = Y at *
    simp [-getElem?_pos,List.getElem?_cons_zero,List.getElem?_cons_succ,a58,h1,h2,hlen,hlen']
def st60 (S : List Bx) (X Y : List AV) (c : AV) (n i : Nat) : St:={ σ:=[(1,.v (.slice 6 Y)),(2,.v c),(15,.v (.slice 6 X)),(16,.v (.int .i64 (n : Int))),(17,.v (.int .i64 (i : Int)))],own:=[],loc:=[],S:=S }
set_option maxHeartbeats 1000000 in
theorem c60 (fn : Nat) (S : List Bx) (l r : List Sr) (hl : l.length≤1000000) (hr : r.length≤1000000) (hq : ∀ x ∈ l,∀ y ∈ r,run2 fn [x.av,y.av] S = some (.ret (.bool (eqS x y)) none,S)) :
    run2 60 [.slice 6 (srsAV l),.slice 6 (srsAV r),.clos (.func fn) [] []] S = some (.ret (.bool (eqL eqS l r)) none,S):=by
  refine eqn2 rfl ?_
  have h1 : (srsAV l).length = l.length:=srsAV_len l
  have h2 : (srsAV r).length = r.length:=srsAV_len r
  by_cases hlen : l.length = r.length
  · have hloop:=loop_two (f:=acode run2 a60_l0) eqS (st:=st60 S (srsAV l) (srsAV r) (.clos (.func fn) [] []) l.length) (bad:=(.ret,{ σ:=[(6,.v (.bool false))],own:=[],loc:=[],S:=S })) (good:=(.exit 0,{ σ:=[],own:=[],loc:=[],S:=S })) (by simp) (by simp) l r hlen
      (fun i x y hx hy=>by
        have q:=hq x (List.mem_of_getElem? hx) y (List.mem_of_getElem? hy)
        have g1:=srsAV_get hx
        have g2:=srsAV_get hy
        have hi : i < l.length:=(List.getElem?_eq_some_iff.1 hx).1
        have hi' : (i : Int) < (l.length : Int):=by omega
        have w:=w64s (n:=i) (by omega)
        generalize eqS x y = e at *
        obtain ⟨op,name,as',query,ins,on⟩:=x
        obtain ⟨op',name',as'',query',ins',on'⟩:=y
        simp only [Sr.av] at g1 g2 q
        generalize srsAV l = X at *
        generalize srsAV r = Y at *
        rw [acode_k]
        cases e <;> simp [-getElem?_pos,List.getElem?_cons_zero,List.getElem?_cons_succ,a60_l0,st60,hi,hi',g1,g2,q,w])
      (by
        rw [acode_k]
        simp [-getElem?_pos,List.getElem?_cons_zero,List.getElem?_cons_succ,a60_l0,st60])
    simp only [st60,Int.natCast_zero,Int.ofNat_zero] at hloop
    generalize eqL eqS l r = e at *
    generalize srsAV l = X at *
    generalize srsAV r = Y at *
    have hlen' : (l.length : Int) = (r.length : Int):=by omega
    cases e <;> simp [-getElem?_pos,List.getElem?_cons_zero,List.getElem?_cons_succ,a60,h1,h2,hlen,hlen'] <;> simp [hlen] at hloop <;> simp [hloop]
  · rw [eqL_len hlen]
    have hlen' : ¬ (l.length : Int) = (r.length : Int):=by omega
    generalize srsAV l = X at *
    generalize srsAV r = Y at *
    simp [-getElem?_pos,List.getElem?_cons_zero,List.getElem?_cons_succ,a60,h1,h2,hlen,hlen']
def st63 (S : List Bx) (X Y : List AV) (c : AV) (n i : Nat) : St:={ σ:=[(1,.v (.slice 1 Y)),(2,.v c),(15,.v (.slice 1 X)),(16,.v (.int .i64 (n : Int))),(17,.v (.int .i64 (i : Int)))],own:=[],loc:=[],S:=S }
set_option maxHeartbeats 1000000 in
theorem c63 (fn : Nat) (S : List Bx) (l r : List (List Nd)) (hl : l.length≤1000000) (hr : r.length≤1000000) (hq : ∀ x ∈ l,∀ y ∈ r,run2 fn [.slice 7 (ndsAV x),.slice 7 (ndsAV y)] S = some (.ret (.bool (eqNs x y)) none,S)) :
    run2 63 [.slice 1 (rowsAV l),.slice 1 (rowsAV r),.clos (.func fn) [] []] S = some (.ret (.bool (eqL eqNs l r)) none,S):=by
  refine eqn2 rfl ?_
  have h1 : (rowsAV l).length = l.length:=rowsAV_len l
  have h2 : (rowsAV r).length = r.length:=rowsAV_len r
  by_cases hlen : l.length = r.length
  · have hloop:=loop_two (f:=acode run2 a63_l0) eqNs (st:=st63 S (rowsAV l) (rowsAV r) (.clos (.func fn) [] []) l.length) (bad:=(.ret,{ σ:=[(6,.v (.bool false))],own:=[],loc:=[],S:=S })) (good:=(.exit 0,{ σ:=[],own:=[],loc:=[],S:=S })) (by simp) (by simp) l r hlen
      (fun i x y hx hy=>by
        have q:=hq x (List.mem_of_getElem? hx) y (List.mem_of_getElem? hy)
        have g1:=rowsAV_get hx
        have g2:=rowsAV_get hy
        have hi : i < l.length:=(List.getElem?_eq_some_iff.1 hx).1
        have hi' : (i : Int) < (l.length : Int):=by omega
        have w:=w64s (n:=i) (by omega)
        generalize eqNs x y = e at *
        skip
        generalize rowsAV l = X at *
        generalize rowsAV r = Y at *
        rw [acode_k]
        cases e <;> simp [-getElem?_pos,List.getElem?_cons_zero,List.getElem?_cons_succ,a63_l0,st63,hi,hi',g1,g2,q,w])
      (by
        rw [acode_k]
        simp [-getElem?_pos,List.getElem?_cons_zero,List.getElem?_cons_succ,a63_l0,st63])
    simp only [st63,Int.natCast_zero,Int.ofNat_zero] at hloop
    generalize eqL eqNs l r = e at *
    generalize rowsAV l = X at *
    generalize rowsAV r = Y at *
    have hlen' : (l.length : Int) = (r.length : Int):=by omega
    cases e <;> simp [-getElem?_pos,List.getElem?_cons_zero,List.getElem?_cons_succ,a63,h1,h2,hlen,hlen'] <;> simp [hlen] at hloop <;> simp [hloop]
  · rw [eqL_len hlen]
    have hlen' : ¬ (l.length : Int) = (r.length : Int):=by omega
    generalize rowsAV l = X at *
    generalize rowsAV r = Y at *
    simp [-getElem?_pos,List.getElem?_cons_zero,List.getElem?_cons_succ,a63,h1,h2,hlen,hlen']
def st64 (S : List Bx) (X Y : List AV) (c : AV) (n i : Nat) : St:={ σ:=[(1,.v (.slice 13 Y)),(2,.v c),(15,.v (.slice 13 X)),(16,.v (.int .i64 (n : Int))),(17,.v (.int .i64 (i : Int)))],own:=[],loc:=[],S:=S }
set_option maxHeartbeats 1000000 in
theorem c64 (fn : Nat) (S : List Bx) (l r : List Qr) (hl : l.length≤1000000) (hr : r.length≤1000000) (hq : ∀ x ∈ l,∀ y ∈ r,run2 fn [x.av,y.av] S = some (.ret (.bool (eqQ x y)) none,S)) :
    run2 64 [.slice 13 (qrsAV l),.slice 13 (qrsAV r),.clos (.func fn) [] []] S = some (.ret (.bool (eqL eqQ l r)) none,S):=by
  refine eqn2 rfl ?_
  have h1 : (qrsAV l).length = l.length:=qrsAV_len l
  have h2 : (qrsAV r).length = r.length:=qrsAV_len r
  by_cases hlen : l.length = r.length
  · have hloop:=loop_two (f:=acode run2 a64_l0) eqQ (st:=st64 S (qrsAV l) (qrsAV r) (.clos (.func fn) [] []) l.length) (bad:=(.ret,{ σ:=[(6,.v (.bool false))],own:=[],loc:=[],S:=S })) (good:=(.exit 0,{ σ:=[],own:=[],loc:=[],S:=S })) (by simp) (by simp) l r hlen
      (fun i x y hx hy=>by
        have q:=hq x (List.mem_of_getElem? hx) y (List.mem_of_getElem? hy)
        have g1:=qrsAV_get hx
        have g2:=qrsAV_get hy
        have hi : i < l.length:=(List.getElem?_eq_some_iff.1 hx).1
        have hi' : (i : Int) < (l.length : Int):=by omega
        have w:=w64s (n:=i) (by omega)
        generalize eqQ x y = e at *
        obtain ⟨⟨c0,c1,c2,i3,i4,i5,i6,i7,i8,i9⟩,ks,li,of⟩:=x
        obtain ⟨⟨d0,d1,d2,j3,j4,j5,j6,j7,j8,j9⟩,ks',li',of'⟩:=y
        simp only [Qr.av,Bd.cells,List.cons_append,List.nil_append] at g1 g2 q
        generalize qrsAV l = X at *
        generalize qrsAV r = Y at *
        rw [acode_k]
        cases e <;> simp [-getElem?_pos,List.getElem?_cons_zero,List.getElem?_cons_succ,a64_l0,st64,hi,hi',g1,g2,q,w])
      (by
        rw [acode_k]
        simp [-getElem?_pos,List.getElem?_cons_zero,List.getElem?_cons_succ,a64_l0,st64])
    simp only [st64,Int.natCast_zero,Int.ofNat_zero] at hloop
    generalize eqL eqQ l r = e at *
    generalize qrsAV l = X at *
    generalize qrsAV r = Y at *
    have hlen' : (l.length : Int) = (r.length : Int):=by omega
    cases e <;> simp [-getElem?_pos,List.getElem?_cons_zero,List.getElem?_cons_succ,a64,h1,h2,hlen,hlen'] <;> simp [hlen] at hloop <;> simp [hloop]
  · rw [eqL_len hlen]
    have hlen' : ¬ (l.length : Int) = (r.length : Int):=by omega
    generalize qrsAV l = X at *
    generalize qrsAV r = Y at *
    simp [-getElem?_pos,List.getElem?_cons_zero,List.getElem?_cons_succ,a64,h1,h2,hlen,hlen']
end Go.Av
set_option maxRecDepth 100000
set_option linter.unusedSimpArgs false
set_option linter.unusedVariables false
namespace Go.Av
open Go Go.Proofs
set_option maxHeartbeats 4000000 in
theorem c115 (op : Int) (text : List UInt8) (num : Int) (no dis : Bool) (args : List Nd) (query : List Qr) (op' : Int) (text' : List UInt8) (num' : Int) (no' dis' : Bool) (args' : List Nd) (query' : List Qr) (S : List Bx)
    (q1 : run2 62 [.slice 7 (ndsAV args),.slice 7 (ndsAV args')] S = some (.ret (.bool (eqNs args args')) none,S)) (q2 : run2 64 [.slice 13 (qrsAV query),.slice 13 (qrsAV query'),.clos (.func 18) [] []] S = some (.ret (.bool (eqQs query query')) none,S)) :
    run2 115 [(Nd.mk op text num no dis args query).av,(Nd.mk op' text' num' no' dis' args' query').av] S = some (.ret (.bool (eqN (.mk op text num no dis args query) (.mk op' text' num' no' dis' args' query'))) none,S):=by
  refine eqn2 rfl ?_
  simp only [Nd.av,eqN]
  generalize ndsAV args = A at *
  generalize ndsAV args' = A' at *
  generalize qrsAV query = Q at *
  generalize qrsAV query' = Q' at *
  cases e1 : (op == op') with
  | false =>
    simp at e1
    simp [-getElem?_pos,List.getElem?_cons_zero,List.getElem?_cons_succ,a115,bs_toList,kleave_le,q1,q2,e1]
  | true =>
    cases e2 : (text == text') with
    | false =>
      simp at e1 e2
      simp [-getElem?_pos,List.getElem?_cons_zero,List.getElem?_cons_succ,a115,bs_toList,kleave_le,q1,q2,e1,e2]
    | true =>
      cases e3 : (num == num') with
      | false =>
        simp at e1 e2 e3
        simp [-getElem?_pos,List.getElem?_cons_zero,List.getElem?_cons_succ,a115,bs_toList,kleave_le,q1,q2,e1,e2,e3]
      | true =>
        cases e4 : (no == no') with
        | false =>
          simp at e1 e2 e3 e4
          simp [-getElem?_pos,List.getElem?_cons_zero,List.getElem?_cons_succ,a115,bs_toList,kleave_le,q1,q2,e1,e2,e3,e4]
        | true =>
          cases e5 : (dis == dis') with
          | false =>
            simp at e1 e2 e3 e4 e5
            simp [-getElem?_pos,List.getElem?_cons_zero,List.getElem?_cons_succ,a115,bs_toList,kleave_le,q1,q2,e1,e2,e3,e4,e5]
          | true =>
            cases e6 : eqNs args args' with
            | false =>
              simp at e1 e2 e3 e4 e5 e6
              simp [-getElem?_pos,List.getElem?_cons_zero,List.getElem?_cons_succ,a115,bs_toList,kleave_le,q1,q2,e1,e2,e3,e4,e5,e6]
            | true =>
              cases e7 : eqQs query query' with
              | false =>
                simp at e1 e2 e3 e4 e5 e6 e7
                simp [-getElem?_pos,List.getElem?_cons_zero,List.getElem?_cons_succ,a115,bs_toList,kleave_le,q1,q2,e1,e2,e3,e4,e5,e6,e7]
              | true =>
                simp at e1 e2 e3 e4 e5 e6 e7
                simp [-getElem?_pos,List.getElem?_cons_zero,List.getElem?_cons_succ,a115,bs_toList,kleave_le,q1,q2,e1,e2,e3,e4,e5,e6,e7]
set_option maxHeartbeats 4000000 in
theorem c59 (star : Bool) (table as' : List UInt8) (expr : List Nd) (star' : Bool) (table' as'' : List UInt8) (expr' : List Nd) (S : List Bx)
    (q1 : run2 62 [.slice 7 (ndsAV expr),.slice 7 (ndsAV expr')] S = some (.ret (.bool (eqNs expr expr')) none,S)) :
    run2 59 [(It.mk star table expr as').av,(It.mk star' table' expr' as'').av] S = some (.ret (.bool (eqI (.mk star table expr as') (.mk star' table' expr' as''))) none,S):=by
  refine eqn2 rfl ?_
  simp only [It.av,eqI]
  generalize ndsAV expr = A at *
  generalize ndsAV expr' = A' at *
  cases e1 : (star == star') with
  | false =>
    simp at e1
    simp [-getElem?_pos,List.getElem?_cons_zero,List.getElem?_cons_succ,a59,bs_toList,kleave_le,q1,e1]
  | true =>
    cases e2 : (table == table') with
    | false =>
      simp at e1 e2
      simp [-getElem?_pos,List.getElem?_cons_zero,List.getElem?_cons_succ,a59,bs_toList,kleave_le,q1,e1,e2]
    | true =>
      cases e3 : (as' == as'') with
      | false =>
        simp at e1 e2 e3
        simp [-getElem?_pos,List.getElem?_cons_zero,List.getElem?_cons_succ,a59,bs_toList,kleave_le,q1,e1,e2,e3]
      | true =>
        cases e4 : eqNs expr expr' with
        | false =>
          simp at e1 e2 e3 e4
          simp [-getElem?_pos,List.getElem?_cons_zero,List.getElem?_cons_succ,a59,bs_toList,kleave_le,q1,e1,e2,e3,e4]
        | true =>
          simp at e1 e2 e3 e4
          simp [-getElem?_pos,List.getElem?_cons_zero,List.getElem?_cons_succ,a59,bs_toList,kleave_le,q1,e1,e2,e3,e4]
set_option maxHeartbeats 4000000 in
theorem c61 (op : Int) (name as' : List UInt8) (query : List Qr) (ins : List Sr) (on : List Nd) (op' : Int) (name' as'' : List UInt8) (query' : List Qr) (ins' : List Sr) (on' : List Nd) (S : List Bx)
    (q1 : run2 62 [.slice 7 (ndsAV on),.slice 7 (ndsAV on')] S = some (.ret (.bool (eqNs on on')) none,S)) (q2 : run2 64 [.slice 13 (qrsAV query),.slice 13 (qrsAV query'),.clos (.func 18) [] []] S = some (.ret (.bool (eqQs query query')) none,S))
    (q3 : run2 60 [.slice 6 (srsAV ins),.slice 6 (srsAV ins'),.clos (.func 61) [] []] S = some (.ret (.bool (eqSs ins ins')) none,S)) :
    run2 61 [(Sr.mk op name as' query ins on).av,(Sr.mk op' name' as'' query' ins' on').av] S = some (.ret (.bool (eqS (.mk op name as' query ins on) (.mk op' name' as'' query' ins' on'))) none,S):=by
  refine eqn2 rfl ?_
  simp only [Sr.av,eqS]
  generalize ndsAV on = A at *
  generalize ndsAV on' = A' at *
  generalize qrsAV query = Q at *
  generalize qrsAV query' = Q' at *
  generalize srsAV ins = I at *
  generalize srsAV ins' = I' at *
  cases e1 : (op == op') with
  | false =>
    simp at e1
    simp [-getElem?_pos,List.getElem?_cons_zero,List.getElem?_cons_succ,a61,bs_toList,kleave_le,q1,q2,q3,e1]
  | true =>
    cases e2 : (name == name') with
    | false =>
      simp at e1 e2
      simp [-getElem?_pos,List.getElem?_cons_zero,List.getElem?_cons_succ,a61,bs_toList,kleave_le,q1,q2,q3,e1,e2]
    | true =>
      cases e3 : (as' == as'') with
      | false =>
        simp at e1 e2 e3
        simp [-getElem?_pos,List.getElem?_cons_zero,List.getElem?_cons_succ,a61,bs_toList,kleave_le,q1,q2,q3,e1,e2,e3]
      | true =>
        cases e4 : eqQs query query' with
        | false =>
          simp at e1 e2 e3 e4
          simp [-getElem?_pos,List.getElem?_cons_zero,List.getElem?_cons_succ,a61,bs_toList,kleave_le,q1,q2,q3,e1,e2,e3,e4]
        | true =>
          cases e5 : eqSs ins ins' with
          | false =>
            simp at e1 e2 e3 e4 e5
            simp [-getElem?_pos,List.getElem?_cons_zero,List.getElem?_cons_succ,a61,bs_toList,kleave_le,q1,q2,q3,e1,e2,e3,e4,e5]
          | true =>
            cases e6 : eqNs on on' with
            | false =>
              simp at e1 e2 e3 e4 e5 e6
              simp [-getElem?_pos,List.getElem?_cons_zero,List.getElem?_cons_succ,a61,bs_toList,kleave_le,q1,q2,q3,e1,e2,e3,e4,e5,e6]
            | true =>
              simp at e1 e2 e3 e4 e5 e6
              simp [-getElem?_pos,List.getElem?_cons_zero,List.getElem?_cons_succ,a61,bs_toList,kleave_le,q1,q2,q3,e1,e2,e3,e4,e5,e6]
theorem c62 (l r : List Nd) (S : List Bx) (q : run2 114 [.slice 7 (ndsAV l),.slice 7 (ndsAV r),.clos (.func 115) [] []] S = some (.ret (.bool (eqNs l r)) none,S)) :
    run2 62 [.slice 7 (ndsAV l),.slice 7 (ndsAV r)] S = some (.ret (.bool (eqNs l r)) none,S):=by
  refine eqn2 rfl ?_
  generalize ndsAV l = A at *
  generalize ndsAV r = A' at *
  simp [-getElem?_pos,List.getElem?_cons_zero,List.getElem?_cons_succ,a62,q]
set_option maxHeartbeats 4000000 in
theorem c34 (op : Int) (all dis : Bool) (items : List It) (frm : List Sr) (whr group having : List Nd) (rows : List (List Nd)) (ins : List Qr) (op' : Int) (all' dis' : Bool) (items' : List It) (frm' : List Sr) (whr' group' having' : List Nd) (rows' : List (List Nd)) (ins' : List Qr) (S : List Bx)
    (q1 : run2 58 [.slice 4 (itsAV items),.slice 4 (itsAV items'),.clos (.func 59) [] []] S = some (.ret (.bool (eqIs items items')) none,S)) (q2 : run2 60 [.slice 6 (srsAV frm),.slice 6 (srsAV frm'),.clos (.func 61) [] []] S = some (.ret (.bool (eqSs frm frm')) none,S)) (q3 : run2 62 [.slice 7 (ndsAV whr),.slice 7 (ndsAV whr')] S = some (.ret (.bool (eqNs whr whr')) none,S)) (q4 : run2 62 [.slice 7 (ndsAV group),.slice 7 (ndsAV group')] S = some (.ret (.bool (eqNs group group')) none,S)) (q5 : run2 62 [.slice 7 (ndsAV having),.slice 7 (ndsAV having')] S = some (.ret (.bool (eqNs having having')) none,S)) (q6 : run2 63 [.slice 1 (rowsAV rows),.slice 1 (rowsAV rows'),.clos (.func 62) [] []] S = some (.ret (.bool (eqRs rows rows')) none,S)) (q7 : run2 64 [.slice 13 (qrsAV ins),.slice 13 (qrsAV ins'),.clos (.func 18) [] []] S = some (.ret (.bool (eqQs ins ins')) none,S)) :
    run2 34 [.agg (Bd.mk op all dis items frm whr group having rows ins).cells,.agg (Bd.mk op' all' dis' items' frm' whr' group' having' rows' ins').cells] S = some (.ret (.bool (eqB (.mk op all dis items frm whr group having rows ins) (.mk op' all' dis' items' frm' whr' group' having' rows' ins'))) none,S):=by
  refine eqn2 rfl ?_
  simp only [Bd.cells,eqB]
  generalize itsAV items = X0 at *
  generalize itsAV items' = Y0 at *
  generalize srsAV frm = X1 at *
  generalize srsAV frm' = Y1 at *
  generalize ndsAV whr = X2 at *
  generalize ndsAV whr' = Y2 at *
  generalize ndsAV group = X3 at *
  generalize ndsAV group' = Y3 at *
  generalize ndsAV having = X4 at *
  generalize ndsAV having' = Y4 at *
  generalize rowsAV rows = X5 at *
  generalize rowsAV rows' = Y5 at *
  generalize qrsAV ins = X6 at *
  generalize qrsAV ins' = Y6 at *
  cases e1 : (op == op') with
  | false =>
    simp at e1
    simp [-getElem?_pos,List.getElem?_cons_zero,List.getElem?_cons_succ,a34,bs_toList,kleave_le,q1,q2,q3,q4,q5,q6,q7,e1]
  | true =>
    cases e2 : (all == all') with
    | false =>
      simp at e1 e2
      simp [-getElem?_pos,List.getElem?_cons_zero,List.getElem?_cons_succ,a34,bs_toList,kleave_le,q1,q2,q3,q4,q5,q6,q7,e1,e2]
    | true =>
      cases e3 : (dis == dis') with
      | false =>
        simp at e1 e2 e3
        simp [-getElem?_pos,List.getElem?_cons_zero,List.getElem?_cons_succ,a34,bs_toList,kleave_le,q1,q2,q3,q4,q5,q6,q7,e1,e2,e3]
      | true =>
        cases e4 : eqIs items items' with
        | false =>
          simp at e1 e2 e3 e4
          simp [-getElem?_pos,List.getElem?_cons_zero,List.getElem?_cons_succ,a34,bs_toList,kleave_le,q1,q2,q3,q4,q5,q6,q7,e1,e2,e3,e4]
        | true =>
          cases e5 : eqSs frm frm' with
          | false =>
            simp at e1 e2 e3 e4 e5
            simp [-getElem?_pos,List.getElem?_cons_zero,List.getElem?_cons_succ,a34,bs_toList,kleave_le,q1,q2,q3,q4,q5,q6,q7,e1,e2,e3,e4,e5]
          | true =>
            cases e6 : eqNs whr whr' with
            | false =>
              simp at e1 e2 e3 e4 e5 e6
              simp [-getElem?_pos,List.getElem?_cons_zero,List.getElem?_cons_succ,a34,bs_toList,kleave_le,q1,q2,q3,q4,q5,q6,q7,e1,e2,e3,e4,e5,e6]
            | true =>
              cases e7 : eqNs group group' with
              | false =>
                simp at e1 e2 e3 e4 e5 e6 e7
                simp [-getElem?_pos,List.getElem?_cons_zero,List.getElem?_cons_succ,a34,bs_toList,kleave_le,q1,q2,q3,q4,q5,q6,q7,e1,e2,e3,e4,e5,e6,e7]
              | true =>
                cases e8 : eqNs having having' with
                | false =>
                  simp at e1 e2 e3 e4 e5 e6 e7 e8
                  simp [-getElem?_pos,List.getElem?_cons_zero,List.getElem?_cons_succ,a34,bs_toList,kleave_le,q1,q2,q3,q4,q5,q6,q7,e1,e2,e3,e4,e5,e6,e7,e8]
                | true =>
                  cases e9 : eqRs rows rows' with
                  | false =>
                    simp at e1 e2 e3 e4 e5 e6 e7 e8 e9
                    simp [-getElem?_pos,List.getElem?_cons_zero,List.getElem?_cons_succ,a34,bs_toList,kleave_le,q1,q2,q3,q4,q5,q6,q7,e1,e2,e3,e4,e5,e6,e7,e8,e9]
                  | true =>
                    cases e10 : eqQs ins ins' with
                    | false =>
                      simp at e1 e2 e3 e4 e5 e6 e7 e8 e9 e10
                      simp [-getElem?_pos,List.getElem?_cons_zero,List.getElem?_cons_succ,a34,bs_toList,kleave_le,q1,q2,q3,q4,q5,q6,q7,e1,e2,e3,e4,e5,e6,e7,e8,e9,e10]
                    | true =>
                      simp at e1 e2 e3 e4 e5 e6 e7 e8 e9 e10
                      simp [-getElem?_pos,List.getElem?_cons_zero,List.getElem?_cons_succ,a34,bs_toList,kleave_le,q1,q2,q3,q4,q5,q6,q7,e1,e2,e3,e4,e5,e6,e7,e8,e9,e10]
end Go.Av
set_option maxRecDepth 100000
set_option linter.unusedSimpArgs false
set_option linter.unusedVariables false
namespace Go.Av
open Go Go.Proofs
def st33 (S : List Bx) (X Y : List AV) (n i : Nat) : St:={ σ:=[(0,.v (.slice 3 X)),(1,.v (.slice 3 Y)),(12,.v (.int .i64 (n : Int))),(13,.v (.int .i64 (i : Int)))],own:=[],loc:=[],S:=S }
set_option maxHeartbeats 1000000 in
theorem c33 (S : List Bx) (l r : List Ky) (hl : l.length≤1000000) (hr : r.length≤1000000) :
    run2 33 [.slice 3 (l.map Ky.av),.slice 3 (r.map Ky.av)] S = some (.ret (.bool (eqL eqK l r)) none,S):=by
  refine eqn2 rfl ?_
  have h1 : (l.map Ky.av).length = l.length:=by simp
  have h2 : (r.map Ky.av).length = r.length:=by simp
  by_cases hlen : l.length = r.length
  · have hloop:=loop_two (f:=acode run2 a33_l0) eqK (st:=st33 S (l.map Ky.av) (r.map Ky.av) l.length) (bad:=(.ret,{ σ:=[(4,.v (.bool false))],own:=[],loc:=[],S:=S })) (good:=(.exit 0,{ σ:=[],own:=[],loc:=[],S:=S })) (by simp) (by simp) l r hlen
      (fun i x y hx hy=>by
        have g1 : (l.map Ky.av)[i]? = some x.av:=by rw [List.getElem?_map,hx]; rfl
        have g2 : (r.map Ky.av)[i]? = some y.av:=by rw [List.getElem?_map,hy]; rfl
        have hi : i < l.length:=(List.getElem?_eq_some_iff.1 hx).1
        have hi' : (i : Int) < (l.length : Int):=by omega
        have w:=w64s (n:=i) (by omega)
        obtain ⟨nm,at',de⟩:=x
        obtain ⟨nm',at'',de'⟩:=y
        simp only [Ky.av] at g1 g2
        simp only [eqK]
        generalize List.map Ky.av l = X at *
        generalize List.map Ky.av r = Y at *
        rw [acode_k]
        by_cases e1 : nm = nm' <;> by_cases e2 : at' = at'' <;> by_cases e3 : de = de' <;> simp [-getElem?_pos,List.getElem?_cons_zero,List.getElem?_cons_succ,a33_l0,st33,hi,hi',g1,g2,w,bs_toList,e1,e2,e3])
      (by
        generalize List.map Ky.av l = X at *
        generalize List.map Ky.av r = Y at *
        rw [acode_k]
        simp [-getElem?_pos,List.getElem?_cons_zero,List.getElem?_cons_succ,a33_l0,st33])
    simp only [st33,Int.natCast_zero,Int.ofNat_zero] at hloop
    generalize eqL eqK l r = e at *
    generalize List.map Ky.av l = X at *
    generalize List.map Ky.av r = Y at *
    have hlen' : (l.length : Int) = (r.length : Int):=by omega
    cases e <;> simp [-getElem?_pos,List.getElem?_cons_zero,List.getElem?_cons_succ,a33,h1,h2,hlen,hlen'] <;> simp [hlen] at hloop <;> simp [hloop]
  · rw [eqL_len hlen]
    have hlen' : ¬ (l.length : Int) = (r.length : Int):=by omega
    generalize List.map Ky.av l = X at *
    generalize List.map Ky.av r = Y at *
    simp [-getElem?_pos,List.getElem?_cons_zero,List.getElem?_cons_succ,a33,h1,h2,hlen,hlen']
set_option maxHeartbeats 4000000 in
theorem c18' (b : Bd) (keys : List Ky) (limit offset : Int) (b' : Bd) (keys' : List Ky) (limit' offset' : Int) (S : List Bx) (hl : keys.length≤1000000) (hr : keys'.length≤1000000)
    (q1 : run2 34 [.agg b.cells,.agg b'.cells] S = some (.ret (.bool (eqB b b')) none,S)) :
    run2 18 [(Qr.mk b keys limit offset).av,(Qr.mk b' keys' limit' offset').av] S = some (.ret (.bool (eqQ (.mk b keys limit offset) (.mk b' keys' limit' offset'))) none,S):=by
  refine eqn2 rfl ?_
  have q2:=c33 S keys keys' hl hr
  simp only [Qr.av,eqQ]
  generalize eqL eqK keys keys' = E1 at *
  generalize eqB b b' = E4 at *
  generalize List.map Ky.av keys = X at *
  generalize List.map Ky.av keys' = Y at *
  obtain ⟨c0,c1,c2,i3,i4,i5,i6,i7,i8,i9⟩:=b
  obtain ⟨d0,d1,d2,j3,j4,j5,j6,j7,j8,j9⟩:=b'
  simp only [Bd.cells,List.cons_append,List.nil_append] at *
  cases E1 with
  | false=>simp [-getElem?_pos,List.getElem?_cons_zero,List.getElem?_cons_succ,a18,kleave_le,q1,q2]
  | true =>
    cases e2 : (limit == limit') with
    | false =>
      simp at e2
      simp [-getElem?_pos,List.getElem?_cons_zero,List.getElem?_cons_succ,a18,kleave_le,q1,q2,e2]
    | true =>
      simp at e2
      cases e3 : (offset == offset') with
      | false =>
        simp at e3
        simp [-getElem?_pos,List.getElem?_cons_zero,List.getElem?_cons_succ,a18,kleave_le,q1,q2,e2,e3]
      | true =>
        simp at e3
        simp [-getElem?_pos,List.getElem?_cons_zero,List.getElem?_cons_succ,a18,kleave_le,q1,q2,e2,e3]
def SN (x : Nd) : Prop:=∀ y,x.small→y.small→∀ S,run2 115 [x.av,y.av] S = some (.ret (.bool (eqN x y)) none,S)
def SI (x : It) : Prop:=∀ y,x.small→y.small→∀ S,run2 59 [x.av,y.av] S = some (.ret (.bool (eqI x y)) none,S)
def SS (x : Sr) : Prop:=∀ y,x.small→y.small→∀ S,run2 61 [x.av,y.av] S = some (.ret (.bool (eqS x y)) none,S)
def SQ (x : Qr) : Prop:=∀ y,x.small→y.small→∀ S,run2 18 [x.av,y.av] S = some (.ret (.bool (eqQ x y)) none,S)
theorem listN {l : List Nd} (h : ∀ x ∈ l,SN x) {r : List Nd} (h1 : ndsSmall l) (h2 : ndsSmall r) (l1 : l.length≤20000) (l2 : r.length≤20000) (S : List Bx) : run2 62 [.slice 7 (ndsAV l),.slice 7 (ndsAV r)] S = some (.ret (.bool (eqNs l r)) none,S):=by
  refine c62 l r S ?_
  rw [eqNs_L]
  exact c114 _ S l r (by omega) (by omega) fun x hx y hy=>h x hx y ((ndsSmall_iff l).1 h1 x hx) ((ndsSmall_iff r).1 h2 y hy) S
theorem listQ {l : List Qr} (h : ∀ x ∈ l,SQ x) {r : List Qr} (h1 : qrsSmall l) (h2 : qrsSmall r) (l1 : l.length≤20000) (l2 : r.length≤20000) (S : List Bx) : run2 64 [.slice 13 (qrsAV l),.slice 13 (qrsAV r),.clos (.func 18) [] []] S = some (.ret (.bool (eqQs l r)) none,S):=by
  rw [eqQs_L]
  exact c64 _ S l r (by omega) (by omega) fun x hx y hy=>h x hx y ((qrsSmall_iff l).1 h1 x hx) ((qrsSmall_iff r).1 h2 y hy) S
theorem listI {l : List It} (h : ∀ x ∈ l,SI x) {r : List It} (h1 : itsSmall l) (h2 : itsSmall r) (l1 : l.length≤20000) (l2 : r.length≤20000) (S : List Bx) : run2 58 [.slice 4 (itsAV l),.slice 4 (itsAV r),.clos (.func 59) [] []] S = some (.ret (.bool (eqIs l r)) none,S):=by
  rw [eqIs_L]
  exact c58 _ S l r (by omega) (by omega) fun x hx y hy=>h x hx y ((itsSmall_iff l).1 h1 x hx) ((itsSmall_iff r).1 h2 y hy) S
theorem listS {l : List Sr} (h : ∀ x ∈ l,SS x) {r : List Sr} (h1 : srsSmall l) (h2 : srsSmall r) (l1 : l.length≤20000) (l2 : r.length≤20000) (S : List Bx) : run2 60 [.slice 6 (srsAV l),.slice 6 (srsAV r),.clos (.func 61) [] []] S = some (.ret (.bool (eqSs l r)) none,S):=by
  rw [eqSs_L]
  exact c60 _ S l r (by omega) (by omega) fun x hx y hy=>h x hx y ((srsSmall_iff l).1 h1 x hx) ((srsSmall_iff r).1 h2 y hy) S
theorem listR {l : List (List Nd)} (h : ∀ x ∈ l,∀ n ∈ x,SN n) {r : List (List Nd)} (h1 : rowsSmall l) (h2 : rowsSmall r) (l1 : l.length≤20000) (l2 : r.length≤20000) (S : List Bx) : run2 63 [.slice 1 (rowsAV l),.slice 1 (rowsAV r),.clos (.func 62) [] []] S = some (.ret (.bool (eqRs l r)) none,S):=by
  rw [eqRs_L]
  refine c63 _ S l r (by omega) (by omega) fun x hx y hy=>?_
  obtain ⟨a1,a2⟩:=(rowsSmall_iff l).1 h1 x hx
  obtain ⟨b1,b2⟩:=(rowsSmall_iff r).1 h2 y hy
  exact listN (h x hx) a2 b2 a1 b1 S
theorem allSame : ∀ (k : Nat),(∀ x : Nd,SizeOf.sizeOf x < k→SN x)∧(∀ x : Qr,SizeOf.sizeOf x < k→SQ x)∧(∀ x : Sr,SizeOf.sizeOf x < k→SS x)∧(∀ x : It,SizeOf.sizeOf x < k→SI x)
  | 0=>⟨fun _ h=>by omega,fun _ h=>by omega,fun _ h=>by omega,fun _ h=>by omega⟩
  | k + 1 => by
    obtain ⟨h1,h2,h3,h4⟩:=allSame k
    have N : ∀ (l : List Nd),SizeOf.sizeOf l≤k→∀ x ∈ l,SN x:=fun l hl x hx=>h1 x (by have:=List.sizeOf_lt_of_mem hx; omega)
    have Q : ∀ (l : List Qr),SizeOf.sizeOf l≤k→∀ x ∈ l,SQ x:=fun l hl x hx=>h2 x (by have:=List.sizeOf_lt_of_mem hx; omega)
    have SR : ∀ (l : List Sr),SizeOf.sizeOf l≤k→∀ x ∈ l,SS x:=fun l hl x hx=>h3 x (by have:=List.sizeOf_lt_of_mem hx; omega)
    have I : ∀ (l : List It),SizeOf.sizeOf l≤k→∀ x ∈ l,SI x:=fun l hl x hx=>h4 x (by have:=List.sizeOf_lt_of_mem hx; omega)
    refine ⟨fun x hx y sx sy S=>?_,fun x hx y sx sy S=>?_,fun x hx y sx sy S=>?_,fun x hx y sx sy S=>?_⟩
    · obtain ⟨op, text, num, no, dis, args, query⟩ := x
      obtain ⟨op',text',num',no',dis',args',query'⟩:=y
      simp only [Nd.small] at sx sy
      simp only [Nd.mk.sizeOf_spec] at hx
      obtain ⟨_,a2,a3,a4,a5⟩:=sx
      obtain ⟨_,b2,b3,b4,b5⟩:=sy
      exact c115 _ _ _ _ _ _ _ _ _ _ _ _ _ _ S (listN (N args (by omega)) a4 b4 a2 b2 S) (listQ (Q query (by omega)) a5 b5 a3 b3 S)
    · obtain ⟨⟨op, all, dis, items, frm, whr, group, having, rows, ins⟩, keys, limit, offset⟩ := x
      obtain ⟨⟨op',all',dis',items',frm',whr',group',having',rows',ins'⟩,keys',limit',offset'⟩:=y
      simp only [Qr.small,Bd.small] at sx sy
      simp only [Qr.mk.sizeOf_spec,Bd.mk.sizeOf_spec] at hx
      obtain ⟨⟨⟨a1,a2,a3,a4,a5,a6,a7⟩,a8,a9,a10,a11,a12,a13,a14⟩,a15,_⟩:=sx
      obtain ⟨⟨⟨b1,b2,b3,b4,b5,b6,b7⟩,b8,b9,b10,b11,b12,b13,b14⟩,b15,_⟩:=sy
      refine c18' _ _ _ _ _ _ _ _ S (by omega) (by omega) ?_
      exact c34 _ _ _ _ _ _ _ _ _ _ _ _ _ _ _ _ _ _ _ _ S (listI (I items (by omega)) a8 b8 a1 b1 S) (listS (SR frm (by omega)) a9 b9 a2 b2 S) (listN (N whr (by omega)) a10 b10 a3 b3 S) (listN (N group (by omega)) a11 b11 a4 b4 S) (listN (N having (by omega)) a12 b12 a5 b5 S)
        (listR (fun x hx'=>N x (by have:=List.sizeOf_lt_of_mem hx'; omega)) a13 b13 a6 b6 S) (listQ (Q ins (by omega)) a14 b14 a7 b7 S)
    · obtain ⟨op, name, as', query, ins, on⟩ := x
      obtain ⟨op',name',as'',query',ins',on'⟩:=y
      simp only [Sr.small] at sx sy
      simp only [Sr.mk.sizeOf_spec] at hx
      obtain ⟨_,_,a3,a4,a5,a6,a7,a8⟩:=sx
      obtain ⟨_,_,b3,b4,b5,b6,b7,b8⟩:=sy
      exact c61 _ _ _ _ _ _ _ _ _ _ _ _ S (listN (N on (by omega)) a8 b8 a5 b5 S) (listQ (Q query (by omega)) a6 b6 a3 b3 S) (listS (SR ins (by omega)) a7 b7 a4 b4 S)
    · obtain ⟨star, table, expr, as'⟩ := x
      obtain ⟨star',table',expr',as''⟩:=y
      simp only [It.small] at sx sy
      simp only [It.mk.sizeOf_spec] at hx
      obtain ⟨_,a2,_,a4⟩:=sx
      obtain ⟨_,b2,_,b4⟩:=sy
      exact c59 _ _ _ _ _ _ _ _ S (listN (N expr (by omega)) a4 b4 a2 b2 S)
theorem c18 (x y : Qr) (hx : x.small) (hy : y.small) (S : List Bx) : run2 18 [x.av,y.av] S = some (.ret (.bool (eqQ x y)) none,S):=(allSame (SizeOf.sizeOf x + 1)).2.1 x (by omega) y hx hy S
end Go.Av
set_option maxRecDepth 100000
set_option linter.unusedSimpArgs false
set_option linter.unusedVariables false
namespace Go.Av
open Go Go.Proofs
def badR (S : List Bx) : AEx×St:=(.ret,{ σ:=[(4,.v (.bool false))],own:=[],loc:=[],S:=S })
def goodR (S : List Bx) : AEx×St:=(.exit 0,{ σ:=[],own:=[],loc:=[],S:=S })
def stR (sz : Nat) (S : List Bx) (X Y : List AV) (i : Nat) : St:={ σ:=[(0,.v (.slice sz X)),(1,.v (.slice sz Y)),(5,.v (.int .i64 (i : Int)))],own:=[],loc:=[],S:=S }
def RN (l : List Nd) : Prop:=ndsSmall l→l.length≤20000→∀ r,ndsSmall r→r.length≤20000→∀ S,run2 24 [.slice 7 (ndsAV l),.slice 7 (ndsAV r)] S = some (.ret (.bool (eqNs l r)) none,S)
def RS (l : List Sr) : Prop:=srsSmall l→l.length≤20000→∀ r,srsSmall r→r.length≤20000→∀ S,run2 25 [.slice 6 (srsAV l),.slice 6 (srsAV r)] S = some (.ret (.bool (eqSs l r)) none,S)
def RQ (l : List Qr) : Prop:=qrsSmall l→l.length≤20000→∀ r,qrsSmall r→r.length≤20000→∀ S,run2 26 [.slice 13 (qrsAV l),.slice 13 (qrsAV r)] S = some (.ret (.bool (eqQs l r)) none,S)
def R1 (x : Qr) : Prop:=x.small→∀ y,y.small→∀ S,run2 13 [x.av,y.av] S = some (.ret (.bool (eqQ x y)) none,S)
set_option maxHeartbeats 8000000 in
theorem sameN (l : List Nd) (ih : ∀ op text num no dis args query,Nd.mk op text num no dis args query ∈ l→RN args∧RQ query) : RN l:=by
  intro hl hll r hr hrl S
  refine eqn2 rfl ?_
  rw [eqNs_L]
  have h1 : (ndsAV l).length = l.length:=ndsAV_len l
  have h2 : (ndsAV r).length = r.length:=ndsAV_len r
  by_cases hlen : l.length = r.length
  · have hloop:=loop_two (f:=acode run2 a24_l0) eqN (st:=stR 7 S (ndsAV l) (ndsAV r)) (bad:=badR S) (good:=goodR S) (by simp [badR]) (by simp [goodR]) l r hlen
      (fun i x y hx hy=>by
        have g1:=ndsAV_get hx
        have g2:=ndsAV_get hy
        have hi : i < l.length:=(List.getElem?_eq_some_iff.1 hx).1
        have hi' : (i : Int) < (l.length : Int):=by omega
        have w:=w64s (n:=i) (by omega)
        have s1:=(ndsSmall_iff l).1 hl _ (List.mem_of_getElem? hx)
        have s2:=(ndsSmall_iff r).1 hr _ (List.mem_of_getElem? hy)
        have ihx:=ih
        obtain ⟨op,text,num,no,dis,args,query⟩:=x
        obtain ⟨op',text',num',no',dis',args',query'⟩:=y
        obtain ⟨i1,i2⟩:=ihx _ _ _ _ _ _ _ (List.mem_of_getElem? hx)
        simp only [Nd.small] at s1 s2
        obtain ⟨_,a2,a3,a4,a5⟩:=s1
        obtain ⟨_,b2,b3,b4,b5⟩:=s2
        have q1:=i1 a4 a2 _ b4 b2 S
        have q2:=i2 a5 a3 _ b5 b3 S
        simp only [Nd.av] at g1 g2
        simp only [eqN]
        generalize ndsAV args = A at *
        generalize ndsAV args' = A' at *
        generalize qrsAV query = Q at *
        generalize qrsAV query' = Q' at *
        clear hx hy ih ihx
        generalize ndsAV l = X at *
        generalize ndsAV r = Y at *
        rw [acode_k]
        cases e1 : (op == op') with
        | false =>
          simp at e1
          simp [-getElem?_pos,List.getElem?_cons_zero,List.getElem?_cons_succ,a24_l0,stR,badR,bs_toList,h1,h2,hi,hi',g1,g2,w,q1,q2,e1]
        | true =>
          cases e2 : (text == text') with
          | false =>
            simp at e1 e2
            simp [-getElem?_pos,List.getElem?_cons_zero,List.getElem?_cons_succ,a24_l0,stR,badR,bs_toList,h1,h2,hi,hi',g1,g2,w,q1,q2,e1,e2]
          | true =>
            cases e3 : (num == num') with
            | false =>
              simp at e1 e2 e3
              simp [-getElem?_pos,List.getElem?_cons_zero,List.getElem?_cons_succ,a24_l0,stR,badR,bs_toList,h1,h2,hi,hi',g1,g2,w,q1,q2,e1,e2,e3]
            | true =>
              cases e4 : (no == no') with
              | false =>
                simp at e1 e2 e3 e4
                simp [-getElem?_pos,List.getElem?_cons_zero,List.getElem?_cons_succ,a24_l0,stR,badR,bs_toList,h1,h2,hi,hi',g1,g2,w,q1,q2,e1,e2,e3,e4]
              | true =>
                cases e5 : (dis == dis') with
                | false =>
                  simp at e1 e2 e3 e4 e5
                  simp [-getElem?_pos,List.getElem?_cons_zero,List.getElem?_cons_succ,a24_l0,stR,badR,bs_toList,h1,h2,hi,hi',g1,g2,w,q1,q2,e1,e2,e3,e4,e5]
                | true =>
                  cases e6 : eqNs args args' with
                  | false =>
                    simp at e1 e2 e3 e4 e5 e6
                    simp [-getElem?_pos,List.getElem?_cons_zero,List.getElem?_cons_succ,a24_l0,stR,badR,bs_toList,h1,h2,hi,hi',g1,g2,w,q1,q2,e1,e2,e3,e4,e5,e6]
                  | true =>
                    cases e7 : eqQs query query' with
                    | false =>
                      simp at e1 e2 e3 e4 e5 e6 e7
                      simp [-getElem?_pos,List.getElem?_cons_zero,List.getElem?_cons_succ,a24_l0,stR,badR,bs_toList,h1,h2,hi,hi',g1,g2,w,q1,q2,e1,e2,e3,e4,e5,e6,e7]
                    | true =>
                      simp at e1 e2 e3 e4 e5 e6 e7
                      simp [-getElem?_pos,List.getElem?_cons_zero,List.getElem?_cons_succ,a24_l0,stR,badR,bs_toList,h1,h2,hi,hi',g1,g2,w,q1,q2,e1,e2,e3,e4,e5,e6,e7])
      (by
        generalize ndsAV l = X at *
        generalize ndsAV r = Y at *
        rw [acode_k]
        simp [-getElem?_pos,List.getElem?_cons_zero,List.getElem?_cons_succ,a24_l0,stR,goodR,h1,h2])
    simp only [stR,badR,goodR,Int.natCast_zero,Int.ofNat_zero] at hloop
    generalize eqL eqN l r = e at *
    generalize ndsAV l = X at *
    generalize ndsAV r = Y at *
    have hlen' : (l.length : Int) = (r.length : Int):=by omega
    cases e <;> simp [-getElem?_pos,List.getElem?_cons_zero,List.getElem?_cons_succ,a24,h1,h2,hlen,hlen'] <;> simp [hlen] at hloop <;> simp [hloop]
  · rw [eqL_len hlen]
    have hlen' : ¬ (l.length : Int) = (r.length : Int):=by omega
    generalize ndsAV l = X at *
    generalize ndsAV r = Y at *
    simp [-getElem?_pos,List.getElem?_cons_zero,List.getElem?_cons_succ,a24,h1,h2,hlen,hlen']
set_option maxHeartbeats 8000000 in
theorem sameS (l : List Sr) (ih : ∀ op name as' query ins on,Sr.mk op name as' query ins on ∈ l→RQ query∧RS ins∧RN on) : RS l:=by
  intro hl hll r hr hrl S
  refine eqn2 rfl ?_
  rw [eqSs_L]
  have h1 : (srsAV l).length = l.length:=srsAV_len l
  have h2 : (srsAV r).length = r.length:=srsAV_len r
  by_cases hlen : l.length = r.length
  · have hloop:=loop_two (f:=acode run2 a25_l0) eqS (st:=stR 6 S (srsAV l) (srsAV r)) (bad:=badR S) (good:=goodR S) (by simp [badR]) (by simp [goodR]) l r hlen
      (fun i x y hx hy=>by
        have g1:=srsAV_get hx
        have g2:=srsAV_get hy
        have hi : i < l.length:=(List.getElem?_eq_some_iff.1 hx).1
        have hi' : (i : Int) < (l.length : Int):=by omega
        have w:=w64s (n:=i) (by omega)
        have s1:=(srsSmall_iff l).1 hl _ (List.mem_of_getElem? hx)
        have s2:=(srsSmall_iff r).1 hr _ (List.mem_of_getElem? hy)
        have ihx:=ih
        obtain ⟨op,name,as',query,ins,on⟩:=x
        obtain ⟨op',name',as'',query',ins',on'⟩:=y
        obtain ⟨i1,i2,i3⟩:=ihx _ _ _ _ _ _ (List.mem_of_getElem? hx)
        simp only [Sr.small] at s1 s2
        obtain ⟨_,_,a3,a4,a5,a6,a7,a8⟩:=s1
        obtain ⟨_,_,b3,b4,b5,b6,b7,b8⟩:=s2
        have q1:=i1 a6 a3 _ b6 b3 S
        have q2:=i2 a7 a4 _ b7 b4 S
        have q3:=i3 a8 a5 _ b8 b5 S
        simp only [Sr.av] at g1 g2
        simp only [eqS]
        generalize ndsAV on = A at *
        generalize ndsAV on' = A' at *
        generalize qrsAV query = Q at *
        generalize qrsAV query' = Q' at *
        generalize srsAV ins = I at *
        generalize srsAV ins' = I' at *
        clear hx hy ih ihx
        generalize srsAV l = X at *
        generalize srsAV r = Y at *
        rw [acode_k]
        cases e1 : (op == op') with
        | false =>
          simp at e1
          simp [-getElem?_pos,List.getElem?_cons_zero,List.getElem?_cons_succ,a25_l0,stR,badR,bs_toList,h1,h2,hi,hi',g1,g2,w,q1,q2,q3,e1]
        | true =>
          cases e2 : (name == name') with
          | false =>
            simp at e1 e2
            simp [-getElem?_pos,List.getElem?_cons_zero,List.getElem?_cons_succ,a25_l0,stR,badR,bs_toList,h1,h2,hi,hi',g1,g2,w,q1,q2,q3,e1,e2]
          | true =>
            cases e3 : (as' == as'') with
            | false =>
              simp at e1 e2 e3
              simp [-getElem?_pos,List.getElem?_cons_zero,List.getElem?_cons_succ,a25_l0,stR,badR,bs_toList,h1,h2,hi,hi',g1,g2,w,q1,q2,q3,e1,e2,e3]
            | true =>
              cases e4 : eqQs query query' with
              | false =>
                simp at e1 e2 e3 e4
                simp [-getElem?_pos,List.getElem?_cons_zero,List.getElem?_cons_succ,a25_l0,stR,badR,bs_toList,h1,h2,hi,hi',g1,g2,w,q1,q2,q3,e1,e2,e3,e4]
              | true =>
                cases e5 : eqSs ins ins' with
                | false =>
                  simp at e1 e2 e3 e4 e5
                  simp [-getElem?_pos,List.getElem?_cons_zero,List.getElem?_cons_succ,a25_l0,stR,badR,bs_toList,h1,h2,hi,hi',g1,g2,w,q1,q2,q3,e1,e2,e3,e4,e5]
                | true =>
                  cases e6 : eqNs on on' with
                  | false =>
                    simp at e1 e2 e3 e4 e5 e6
                    simp [-getElem?_pos,List.getElem?_cons_zero,List.getElem?_cons_succ,a25_l0,stR,badR,bs_toList,h1,h2,hi,hi',g1,g2,w,q1,q2,q3,e1,e2,e3,e4,e5,e6]
                  | true =>
                    simp at e1 e2 e3 e4 e5 e6
                    simp [-getElem?_pos,List.getElem?_cons_zero,List.getElem?_cons_succ,a25_l0,stR,badR,bs_toList,h1,h2,hi,hi',g1,g2,w,q1,q2,q3,e1,e2,e3,e4,e5,e6])
      (by
        generalize srsAV l = X at *
        generalize srsAV r = Y at *
        rw [acode_k]
        simp [-getElem?_pos,List.getElem?_cons_zero,List.getElem?_cons_succ,a25_l0,stR,goodR,h1,h2])
    simp only [stR,badR,goodR,Int.natCast_zero,Int.ofNat_zero] at hloop
    generalize eqL eqS l r = e at *
    generalize srsAV l = X at *
    generalize srsAV r = Y at *
    have hlen' : (l.length : Int) = (r.length : Int):=by omega
    cases e <;> simp [-getElem?_pos,List.getElem?_cons_zero,List.getElem?_cons_succ,a25,h1,h2,hlen,hlen'] <;> simp [hlen] at hloop <;> simp [hloop]
  · rw [eqL_len hlen]
    have hlen' : ¬ (l.length : Int) = (r.length : Int):=by omega
    generalize srsAV l = X at *
    generalize srsAV r = Y at *
    simp [-getElem?_pos,List.getElem?_cons_zero,List.getElem?_cons_succ,a25,h1,h2,hlen,hlen']
set_option maxHeartbeats 8000000 in
theorem sameQs (l : List Qr) (ih : ∀ x ∈ l,R1 x) : RQ l:=by
  intro hl hll r hr hrl S
  refine eqn2 rfl ?_
  rw [eqQs_L]
  have h1 : (qrsAV l).length = l.length:=qrsAV_len l
  have h2 : (qrsAV r).length = r.length:=qrsAV_len r
  by_cases hlen : l.length = r.length
  · have hloop:=loop_two (f:=acode run2 a26_l0) eqQ (st:=stR 13 S (qrsAV l) (qrsAV r)) (bad:=badR S) (good:=goodR S) (by simp [badR]) (by simp [goodR]) l r hlen
      (fun i x y hx hy=>by
        have g1:=qrsAV_get hx
        have g2:=qrsAV_get hy
        have hi : i < l.length:=(List.getElem?_eq_some_iff.1 hx).1
        have hi' : (i : Int) < (l.length : Int):=by omega
        have w:=w64s (n:=i) (by omega)
        have s1:=(qrsSmall_iff l).1 hl _ (List.mem_of_getElem? hx)
        have s2:=(qrsSmall_iff r).1 hr _ (List.mem_of_getElem? hy)
        have ihx:=ih
        obtain ⟨b,keys,limit,offset⟩:=x
        obtain ⟨b',keys',limit',offset'⟩:=y
        have q1:=ihx _ (List.mem_of_getElem? hx) s1 _ s2 S
        generalize eqQ (Qr.mk b keys limit offset) (Qr.mk b' keys' limit' offset') = E at *
        obtain ⟨c0,c1,c2,i3,i4,i5,i6,i7,i8,i9⟩:=b
        obtain ⟨d0,d1,d2,j3,j4,j5,j6,j7,j8,j9⟩:=b'
        simp only [Qr.av,Bd.cells,List.cons_append,List.nil_append] at g1 g2 q1
        clear hx hy ih ihx
        generalize qrsAV l = X at *
        generalize qrsAV r = Y at *
        rw [acode_k]
        cases E <;> simp [-getElem?_pos,List.getElem?_cons_zero,List.getElem?_cons_succ,a26_l0,stR,badR,bs_toList,h1,h2,hi,hi',g1,g2,w,q1])
      (by
        generalize qrsAV l = X at *
        generalize qrsAV r = Y at *
        rw [acode_k]
        simp [-getElem?_pos,List.getElem?_cons_zero,List.getElem?_cons_succ,a26_l0,stR,goodR,h1,h2])
    simp only [stR,badR,goodR,Int.natCast_zero,Int.ofNat_zero] at hloop
    generalize eqL eqQ l r = e at *
    generalize qrsAV l = X at *
    generalize qrsAV r = Y at *
    have hlen' : (l.length : Int) = (r.length : Int):=by omega
    cases e <;> simp [-getElem?_pos,List.getElem?_cons_zero,List.getElem?_cons_succ,a26,h1,h2,hlen,hlen'] <;> simp [hlen] at hloop <;> simp [hloop]
  · rw [eqL_len hlen]
    have hlen' : ¬ (l.length : Int) = (r.length : Int):=by omega
    generalize qrsAV l = X at *
    generalize qrsAV r = Y at *
    simp [-getElem?_pos,List.getElem?_cons_zero,List.getElem?_cons_succ,a26,h1,h2,hlen,hlen']
end Go.Av
set_option maxRecDepth 100000
set_option linter.unusedSimpArgs false
set_option linter.unusedVariables false
namespace Go.Av
open Go Go.Proofs
def st013 (S : List Bx) (q q' : List AV) (i : Nat) : St:={ σ:=[(2,.l 2 0),(3,.l 3 0),(5,.v (.int .i64 (i : Int)))],own:=[],loc:=[(2,{ cells:=q }),(3,{ cells:=q' })],S:=S }
def en013 (S : List Bx) (q q' : List AV) : AEx×St:=(.exit 0,{ σ:=[(2,.l 2 0),(3,.l 3 0)],own:=[],loc:=[(2,{ cells:=q }),(3,{ cells:=q' })],S:=S })
def st113 (sl : Nat) (S : List Bx) (q q' : List AV) (i : Nat) : St:={ σ:=[(6,.l 6 0),(7,.l 7 0),(sl,.v (.int .i64 (i : Int)))],own:=[],loc:=[(6,{ cells:=q }),(7,{ cells:=q' })],S:=S }
def en113 (ex : Nat) (S : List Bx) (q q' : List AV) : AEx×St:=(.exit ex,{ σ:=[(6,.l 6 0),(7,.l 7 0)],own:=[],loc:=[(6,{ cells:=q }),(7,{ cells:=q' })],S:=S })
set_option maxHeartbeats 4000000 in
theorem loop013 (S : List Bx) (x0 x1 x2 x3 x4 x5 x6 x7 x8 x9 x11 x12 y0 y1 y2 y3 y4 y5 y6 y7 y8 y9 y11 y12 : AV) (l r : List Ky) (hlen : l.length = r.length) (hl : l.length≤20000) :
    aloopW (acode run2 a13_l0) (st013 S [x0,x1,x2,x3,x4,x5,x6,x7,x8,x9,.slice 3 (l.map Ky.av),x11,x12] [y0,y1,y2,y3,y4,y5,y6,y7,y8,y9,.slice 3 (r.map Ky.av),y11,y12] 0) = some (if eqL eqK l r = true then en013 S [x0,x1,x2,x3,x4,x5,x6,x7,x8,x9,.slice 3 (l.map Ky.av),x11,x12] [y0,y1,y2,y3,y4,y5,y6,y7,y8,y9,.slice 3 (r.map Ky.av),y11,y12] else badR S):=by
  have h1 : (l.map Ky.av).length = l.length:=by simp
  have h2 : (r.map Ky.av).length = r.length:=by simp
  refine loop_two (f:=acode run2 a13_l0) eqK (st:=st013 S [x0,x1,x2,x3,x4,x5,x6,x7,x8,x9,.slice 3 (l.map Ky.av),x11,x12] [y0,y1,y2,y3,y4,y5,y6,y7,y8,y9,.slice 3 (r.map Ky.av),y11,y12]) (by simp [badR]) (by simp [en013]) l r hlen
      (fun i x y hx hy=>by
        have g1 : (l.map Ky.av)[i]? = some x.av:=by rw [List.getElem?_map,hx]; rfl
        have g2 : (r.map Ky.av)[i]? = some y.av:=by rw [List.getElem?_map,hy]; rfl
        have hi : i < l.length:=(List.getElem?_eq_some_iff.1 hx).1
        have hi' : (i : Int) < (l.length : Int):=by omega
        have w:=w64s (n:=i) (by omega)
        obtain ⟨nm,at',de⟩:=x
        obtain ⟨nm',at'',de'⟩:=y
        simp only [Ky.av] at g1 g2
        simp only [eqK]
        have h1' : (l.map fun k=>AV.agg [.str (bs k.name),.int .i64 k.at',.bool k.desc]).length = l.length:=by simp
        generalize List.map Ky.av l = X at *
        generalize List.map Ky.av r = Y at *
        rw [acode_k]
        by_cases e1 : nm = nm' <;> by_cases e2 : at' = at'' <;> by_cases e3 : de = de' <;> simp [-getElem?_pos,List.getElem?_cons_zero,List.getElem?_cons_succ,a13_l0,st013,badR,h1,h2,hi,hi',g1,g2,w,bs_toList,e1,e2,e3])
      (by
        generalize List.map Ky.av l = X at *
        generalize List.map Ky.av r = Y at *
        rw [acode_k]
        simp [-getElem?_pos,List.getElem?_cons_zero,List.getElem?_cons_succ,a13_l0,st013,en013,h1,h2])
set_option maxHeartbeats 8000000 in
theorem loop113 (S : List Bx) (x0 x1 x2 x4 x5 x6 x7 x8 x9 y0 y1 y2 y4 y5 y6 y7 y8 y9 : AV) (l r : List It) (hlen : l.length = r.length) (hll : l.length≤20000) (hl : itsSmall l) (hr : itsSmall r) (ih : ∀ star table expr as',It.mk star table expr as' ∈ l→RN expr) :
    aloopW (acode run2 a13_l1) (st113 8 S [x0,x1,x2,.slice 4 (itsAV l),x4,x5,x6,x7,x8,x9] [y0,y1,y2,.slice 4 (itsAV r),y4,y5,y6,y7,y8,y9] 0) = some (if eqL eqI l r = true then en113 2 S [x0,x1,x2,.slice 4 (itsAV l),x4,x5,x6,x7,x8,x9] [y0,y1,y2,.slice 4 (itsAV r),y4,y5,y6,y7,y8,y9] else badR S):=by
  have h1 : (itsAV l).length = l.length:=itsAV_len l
  have h2 : (itsAV r).length = r.length:=itsAV_len r
  refine loop_two (f:=acode run2 a13_l1) eqI (st:=st113 8 S [x0,x1,x2,.slice 4 (itsAV l),x4,x5,x6,x7,x8,x9] [y0,y1,y2,.slice 4 (itsAV r),y4,y5,y6,y7,y8,y9]) (by simp [badR]) (by simp [en113]) l r hlen
      (fun i x y hx hy=>by
        have g1:=itsAV_get hx
        have g2:=itsAV_get hy
        have hi : i < l.length:=(List.getElem?_eq_some_iff.1 hx).1
        have hi' : (i : Int) < (l.length : Int):=by omega
        have w:=w64s (n:=i) (by omega)
        have s1:=(itsSmall_iff l).1 hl _ (List.mem_of_getElem? hx)
        have s2:=(itsSmall_iff r).1 hr _ (List.mem_of_getElem? hy)
        obtain ⟨star,table,expr,as'⟩:=x
        obtain ⟨star',table',expr',as''⟩:=y
        have i1:=ih _ _ _ _ (List.mem_of_getElem? hx)
        simp only [It.small] at s1 s2
        obtain ⟨_,a2,_,a4⟩:=s1
        obtain ⟨_,b2,_,b4⟩:=s2
        have q1:=i1 a4 a2 _ b4 b2 S
        simp only [It.av] at g1 g2
        simp only [eqI]
        generalize ndsAV expr = A at *
        generalize ndsAV expr' = A' at *
        clear hx hy ih i1
        generalize itsAV l = X at *
        generalize itsAV r = Y at *
        rw [acode_k]
        cases e1 : (star == star') with
        | false =>
          simp at e1
          simp [-getElem?_pos,List.getElem?_cons_zero,List.getElem?_cons_succ,a13_l1,st113,badR,bs_toList,h1,h2,hi,hi',g1,g2,w,q1,e1]
        | true =>
          cases e2 : (table == table') with
          | false =>
            simp at e1 e2
            simp [-getElem?_pos,List.getElem?_cons_zero,List.getElem?_cons_succ,a13_l1,st113,badR,bs_toList,h1,h2,hi,hi',g1,g2,w,q1,e1,e2]
          | true =>
            cases e3 : (as' == as'') with
            | false =>
              simp at e1 e2 e3
              simp [-getElem?_pos,List.getElem?_cons_zero,List.getElem?_cons_succ,a13_l1,st113,badR,bs_toList,h1,h2,hi,hi',g1,g2,w,q1,e1,e2,e3]
            | true =>
              cases e4 : eqNs expr expr' with
              | false =>
                simp at e1 e2 e3 e4
                simp [-getElem?_pos,List.getElem?_cons_zero,List.getElem?_cons_succ,a13_l1,st113,badR,bs_toList,h1,h2,hi,hi',g1,g2,w,q1,e1,e2,e3,e4]
              | true =>
                simp at e1 e2 e3 e4
                simp [-getElem?_pos,List.getElem?_cons_zero,List.getElem?_cons_succ,a13_l1,st113,badR,bs_toList,h1,h2,hi,hi',g1,g2,w,q1,e1,e2,e3,e4])
      (by
        generalize itsAV l = X at *
        generalize itsAV r = Y at *
        rw [acode_k]
        simp [-getElem?_pos,List.getElem?_cons_zero,List.getElem?_cons_succ,a13_l1,st113,en113,h1,h2])
set_option maxHeartbeats 8000000 in
theorem loop213 (S : List Bx) (x0 x1 x2 x3 x4 x5 x6 x7 x9 y0 y1 y2 y3 y4 y5 y6 y7 y9 : AV) (l r : List (List Nd)) (hlen : l.length = r.length) (hll : l.length≤20000) (hl : rowsSmall l) (hr : rowsSmall r) (ih : ∀ x ∈ l,RN x) :
    aloopW (acode run2 a13_l2) (st113 11 S [x0,x1,x2,x3,x4,x5,x6,x7,.slice 1 (rowsAV l),x9] [y0,y1,y2,y3,y4,y5,y6,y7,.slice 1 (rowsAV r),y9] 0) = some (if eqL eqNs l r = true then en113 4 S [x0,x1,x2,x3,x4,x5,x6,x7,.slice 1 (rowsAV l),x9] [y0,y1,y2,y3,y4,y5,y6,y7,.slice 1 (rowsAV r),y9] else badR S):=by
  have h1 : (rowsAV l).length = l.length:=rowsAV_len l
  have h2 : (rowsAV r).length = r.length:=rowsAV_len r
  refine loop_two (f:=acode run2 a13_l2) eqNs (st:=st113 11 S [x0,x1,x2,x3,x4,x5,x6,x7,.slice 1 (rowsAV l),x9] [y0,y1,y2,y3,y4,y5,y6,y7,.slice 1 (rowsAV r),y9]) (by simp [badR]) (by simp [en113]) l r hlen
      (fun i x y hx hy=>by
        have g1:=rowsAV_get hx
        have g2:=rowsAV_get hy
        have hi : i < l.length:=(List.getElem?_eq_some_iff.1 hx).1
        have hi' : (i : Int) < (l.length : Int):=by omega
        have w:=w64s (n:=i) (by omega)
        have s1:=(rowsSmall_iff l).1 hl _ (List.mem_of_getElem? hx)
        have s2:=(rowsSmall_iff r).1 hr _ (List.mem_of_getElem? hy)
        have q1:=ih _ (List.mem_of_getElem? hx) s1.2 s1.1 _ s2.2 s2.1 S
        generalize ndsAV x = A at *
        generalize ndsAV y = A' at *
        generalize eqNs x y = E at *
        clear hx hy ih
        generalize rowsAV l = X at *
        generalize rowsAV r = Y at *
        rw [acode_k]
        cases E <;> simp [-getElem?_pos,List.getElem?_cons_zero,List.getElem?_cons_succ,a13_l2,st113,badR,h1,h2,hi,hi',g1,g2,w,q1])
      (by
        generalize rowsAV l = X at *
        generalize rowsAV r = Y at *
        rw [acode_k]
        simp [-getElem?_pos,List.getElem?_cons_zero,List.getElem?_cons_succ,a13_l2,st113,en113,h1,h2])
end Go.Av
set_option maxRecDepth 100000
set_option linter.unusedSimpArgs false
set_option linter.unusedVariables false
namespace Go.Av
open Go Go.Proofs
set_option maxHeartbeats 16000000 in
theorem same1 (S : List Bx) (op op' limit limit' offset offset' : Int) (all dis all' dis' : Bool) (K J X3 X4 X5 X6 X7 X8 X9 Y3 Y4 Y5 Y6 Y7 Y8 Y9 : List AV) (EK E3 E4 E5 E6 E7 E8 E9 : Bool)
    (nK : K.length≠J.length→EK = false) (n3 : X3.length≠Y3.length→E3 = false) (n4 : X4.length≠Y4.length→E4 = false) (n8 : X8.length≠Y8.length→E8 = false)
    (l0 : K.length = J.length→aloopW (acode run2 a13_l0) (st013 S [.int .i64 op,.bool all,.bool dis,.slice 4 X3,.slice 6 X4,.slice 7 X5,.slice 7 X6,.slice 7 X7,.slice 1 X8,.slice 13 X9,.slice 3 K,.int .i64 limit,.int .i64 offset] [.int .i64 op',.bool all',.bool dis',.slice 4 Y3,.slice 6 Y4,.slice 7 Y5,.slice 7 Y6,.slice 7 Y7,.slice 1 Y8,.slice 13 Y9,.slice 3 J,.int .i64 limit',.int .i64 offset'] 0) = some (if EK = true then en013 S [.int .i64 op,.bool all,.bool dis,.slice 4 X3,.slice 6 X4,.slice 7 X5,.slice 7 X6,.slice 7 X7,.slice 1 X8,.slice 13 X9,.slice 3 K,.int .i64 limit,.int .i64 offset] [.int .i64 op',.bool all',.bool dis',.slice 4 Y3,.slice 6 Y4,.slice 7 Y5,.slice 7 Y6,.slice 7 Y7,.slice 1 Y8,.slice 13 Y9,.slice 3 J,.int .i64 limit',.int .i64 offset'] else badR S))
    (l1 : X3.length = Y3.length→aloopW (acode run2 a13_l1) (st113 8 S [.int .i64 op,.bool all,.bool dis,.slice 4 X3,.slice 6 X4,.slice 7 X5,.slice 7 X6,.slice 7 X7,.slice 1 X8,.slice 13 X9] [.int .i64 op',.bool all',.bool dis',.slice 4 Y3,.slice 6 Y4,.slice 7 Y5,.slice 7 Y6,.slice 7 Y7,.slice 1 Y8,.slice 13 Y9] 0) = some (if E3 = true then en113 2 S [.int .i64 op,.bool all,.bool dis,.slice 4 X3,.slice 6 X4,.slice 7 X5,.slice 7 X6,.slice 7 X7,.slice 1 X8,.slice 13 X9] [.int .i64 op',.bool all',.bool dis',.slice 4 Y3,.slice 6 Y4,.slice 7 Y5,.slice 7 Y6,.slice 7 Y7,.slice 1 Y8,.slice 13 Y9] else badR S))
    (l2 : X8.length = Y8.length→aloopW (acode run2 a13_l2) (st113 11 S [.int .i64 op,.bool all,.bool dis,.slice 4 X3,.slice 6 X4,.slice 7 X5,.slice 7 X6,.slice 7 X7,.slice 1 X8,.slice 13 X9] [.int .i64 op',.bool all',.bool dis',.slice 4 Y3,.slice 6 Y4,.slice 7 Y5,.slice 7 Y6,.slice 7 Y7,.slice 1 Y8,.slice 13 Y9] 0) = some (if E8 = true then en113 4 S [.int .i64 op,.bool all,.bool dis,.slice 4 X3,.slice 6 X4,.slice 7 X5,.slice 7 X6,.slice 7 X7,.slice 1 X8,.slice 13 X9] [.int .i64 op',.bool all',.bool dis',.slice 4 Y3,.slice 6 Y4,.slice 7 Y5,.slice 7 Y6,.slice 7 Y7,.slice 1 Y8,.slice 13 Y9] else badR S))
    (q4 : run2 25 [.slice 6 X4,.slice 6 Y4] S = some (.ret (.bool E4) none,S))
    (q5 : run2 24 [.slice 7 X5,.slice 7 Y5] S = some (.ret (.bool E5) none,S))
    (q6 : run2 24 [.slice 7 X6,.slice 7 Y6] S = some (.ret (.bool E6) none,S))
    (q7 : run2 24 [.slice 7 X7,.slice 7 Y7] S = some (.ret (.bool E7) none,S))
    (q9 : run2 26 [.slice 13 X9,.slice 13 Y9] S = some (.ret (.bool E9) none,S)) :
    run2 13 [.agg [.int .i64 op,.bool all,.bool dis,.slice 4 X3,.slice 6 X4,.slice 7 X5,.slice 7 X6,.slice 7 X7,.slice 1 X8,.slice 13 X9,.slice 3 K,.int .i64 limit,.int .i64 offset],.agg [.int .i64 op',.bool all',.bool dis',.slice 4 Y3,.slice 6 Y4,.slice 7 Y5,.slice 7 Y6,.slice 7 Y7,.slice 1 Y8,.slice 13 Y9,.slice 3 J,.int .i64 limit',.int .i64 offset']] S = some (.ret (.bool (EK && ((limit == limit') && ((offset == offset') && ((op == op') && ((all == all') && ((dis == dis') && (E3 && (E4 && (E5 && (E6 && (E7 && (E8 && E9))))))))))))) none,S):=by
  refine eqn2 rfl ?_
  simp only [st013,st113,en013,en113,badR,Int.natCast_zero,Int.ofNat_zero] at l0 l1 l2
  by_cases e_limit : limit = limit'
  case neg =>
    simp [-getElem?_pos,List.getElem?_cons_zero,List.getElem?_cons_succ,a13,kleave_le,e_limit]
  subst e_limit
  by_cases e_offset : offset = offset'
  case neg =>
    simp [-getElem?_pos,List.getElem?_cons_zero,List.getElem?_cons_succ,a13,kleave_le,e_offset]
  subst e_offset
  by_cases e_lenK : K.length = J.length
  case neg =>
    have g:=nK e_lenK
    subst g
    have e_lenK' : ¬ (K.length : Int) = (J.length : Int):=by omega
    simp [-getElem?_pos,List.getElem?_cons_zero,List.getElem?_cons_succ,a13,kleave_le,e_lenK,e_lenK']
  have e_lenK' : (K.length : Int) = (J.length : Int):=by omega
  replace l0:=l0 e_lenK
  cases EK
  case false =>
    simp at l0
    simp [-getElem?_pos,List.getElem?_cons_zero,List.getElem?_cons_succ,a13,kleave_le,e_lenK',l0]
  simp at l0
  by_cases e_op : op = op'
  case neg =>
    simp [-getElem?_pos,List.getElem?_cons_zero,List.getElem?_cons_succ,a13,kleave_le,e_lenK',l0,e_op]
  subst e_op
  by_cases e_all : all = all'
  case neg =>
    simp [-getElem?_pos,List.getElem?_cons_zero,List.getElem?_cons_succ,a13,kleave_le,e_lenK',l0,e_all]
  subst e_all
  by_cases e_dis : dis = dis'
  case neg =>
    simp [-getElem?_pos,List.getElem?_cons_zero,List.getElem?_cons_succ,a13,kleave_le,e_lenK',l0,e_dis]
  subst e_dis
  by_cases e_len3 : X3.length = Y3.length
  case neg =>
    have g:=n3 e_len3
    subst g
    have e_len3' : ¬ (X3.length : Int) = (Y3.length : Int):=by omega
    simp [-getElem?_pos,List.getElem?_cons_zero,List.getElem?_cons_succ,a13,kleave_le,e_lenK',l0,e_len3,e_len3']
  have e_len3' : (X3.length : Int) = (Y3.length : Int):=by omega
  replace l1:=l1 e_len3
  by_cases e_len4 : X4.length = Y4.length
  case neg =>
    have g:=n4 e_len4
    subst g
    have e_len4' : ¬ (X4.length : Int) = (Y4.length : Int):=by omega
    simp [-getElem?_pos,List.getElem?_cons_zero,List.getElem?_cons_succ,a13,kleave_le,e_lenK',l0,e_len3',e_len4,e_len4']
  have e_len4' : (X4.length : Int) = (Y4.length : Int):=by omega
  by_cases e_len8 : X8.length = Y8.length
  case neg =>
    have g:=n8 e_len8
    subst g
    have e_len8' : ¬ (X8.length : Int) = (Y8.length : Int):=by omega
    simp [-getElem?_pos,List.getElem?_cons_zero,List.getElem?_cons_succ,a13,kleave_le,e_lenK',l0,e_len3',e_len4',e_len8,e_len8']
  have e_len8' : (X8.length : Int) = (Y8.length : Int):=by omega
  replace l2:=l2 e_len8
  cases E3
  case false =>
    simp at l1
    simp [-getElem?_pos,List.getElem?_cons_zero,List.getElem?_cons_succ,a13,kleave_le,e_lenK',l0,e_len3',e_len4',e_len8',l1]
  simp at l1
  cases E8
  case false =>
    simp at l2
    simp [-getElem?_pos,List.getElem?_cons_zero,List.getElem?_cons_succ,a13,kleave_le,e_lenK',l0,e_len3',e_len4',e_len8',l1,l2]
  simp at l2
  cases E4
  case false =>
    simp [-getElem?_pos,List.getElem?_cons_zero,List.getElem?_cons_succ,a13,kleave_le,e_lenK',l0,e_len3',e_len4',e_len8',l1,l2,q4]
  cases E5
  case false =>
    simp [-getElem?_pos,List.getElem?_cons_zero,List.getElem?_cons_succ,a13,kleave_le,e_lenK',l0,e_len3',e_len4',e_len8',l1,l2,q4,q5]
  cases E6
  case false =>
    simp [-getElem?_pos,List.getElem?_cons_zero,List.getElem?_cons_succ,a13,kleave_le,e_lenK',l0,e_len3',e_len4',e_len8',l1,l2,q4,q5,q6]
  cases E7
  case false =>
    simp [-getElem?_pos,List.getElem?_cons_zero,List.getElem?_cons_succ,a13,kleave_le,e_lenK',l0,e_len3',e_len4',e_len8',l1,l2,q4,q5,q6,q7]
  cases E9
  case false =>
    simp [-getElem?_pos,List.getElem?_cons_zero,List.getElem?_cons_succ,a13,kleave_le,e_lenK',l0,e_len3',e_len4',e_len8',l1,l2,q4,q5,q6,q7,q9]
  simp [-getElem?_pos,List.getElem?_cons_zero,List.getElem?_cons_succ,a13,kleave_le,e_lenK',l0,e_len3',e_len4',e_len8',l1,l2,q4,q5,q6,q7,q9]
theorem sameQ (x : Qr) (ih : ∀ op all dis items frm whr group having rows ins keys li of,x = .mk (.mk op all dis items frm whr group having rows ins) keys li of→(∀ star table expr as',It.mk star table expr as' ∈ items→RN expr)∧RS frm∧RN whr∧RN group∧RN having∧(∀ y ∈ rows,RN y)∧RQ ins) : R1 x:=by
  intro sx y sy S
  obtain ⟨⟨op,all,dis,items,frm,whr,group,having,rows,ins⟩,keys,limit,offset⟩:=x
  obtain ⟨⟨op',all',dis',items',frm',whr',group',having',rows',ins'⟩,keys',limit',offset'⟩:=y
  obtain ⟨i1,i2,i3,i4,i5,i6,i7⟩:=ih _ _ _ _ _ _ _ _ _ _ _ _ _ rfl
  simp only [Qr.small,Bd.small] at sx sy
  obtain ⟨⟨⟨a1,a2,a3,a4,a5,a6,a7⟩,a8,a9,a10,a11,a12,a13,a14⟩,a15,_⟩:=sx
  obtain ⟨⟨⟨b1,b2,b3,b4,b5,b6,b7⟩,b8,b9,b10,b11,b12,b13,b14⟩,b15,_⟩:=sy
  have h:=same1 S op op' limit limit' offset offset' all dis all' dis' (keys.map Ky.av) (keys'.map Ky.av) (itsAV items) (srsAV frm) (ndsAV whr) (ndsAV group) (ndsAV having) (rowsAV rows) (qrsAV ins)
    (itsAV items') (srsAV frm') (ndsAV whr') (ndsAV group') (ndsAV having') (rowsAV rows') (qrsAV ins') (eqL eqK keys keys') (eqIs items items') (eqSs frm frm') (eqNs whr whr') (eqNs group group') (eqNs having having') (eqRs rows rows') (eqQs ins ins')
    (fun h=>eqL_len (by simpa using h)) (fun h=>by rw [itsAV_len,itsAV_len] at h; rw [eqIs_L]; exact eqL_len h) (fun h=>by rw [srsAV_len,srsAV_len] at h; rw [eqSs_L]; exact eqL_len h) (fun h=>by rw [rowsAV_len,rowsAV_len] at h; rw [eqRs_L]; exact eqL_len h)
    (fun h=>loop013 S _ _ _ _ _ _ _ _ _ _ _ _ _ _ _ _ _ _ _ _ _ _ _ _ keys keys' (by simpa using h) a15)
    (fun h=>by rw [itsAV_len,itsAV_len] at h; rw [eqIs_L]; exact loop113 S _ _ _ _ _ _ _ _ _ _ _ _ _ _ _ _ _ _ items items' h a1 a8 b8 i1)
    (fun h=>by rw [rowsAV_len,rowsAV_len] at h; rw [eqRs_L]; exact loop213 S _ _ _ _ _ _ _ _ _ _ _ _ _ _ _ _ _ _ rows rows' h a6 a13 b13 i6)
    (i2 a9 a2 _ b9 b2 S) (i3 a10 a3 _ b10 b3 S) (i4 a11 a4 _ b11 b4 S) (i5 a12 a5 _ b12 b5 S) (i7 a14 a7 _ b14 b7 S)
  simp only [Qr.av,Bd.cells,List.cons_append,List.nil_append,eqQ,eqB]
  exact h
theorem allRef : ∀ (k : Nat),(∀ x : List Nd,SizeOf.sizeOf x < k→RN x)∧(∀ x : List Qr,SizeOf.sizeOf x < k→RQ x)∧(∀ x : List Sr,SizeOf.sizeOf x < k→RS x)∧(∀ x : Qr,SizeOf.sizeOf x < k→R1 x)
  | 0=>⟨fun _ h=>by omega,fun _ h=>by omega,fun _ h=>by omega,fun _ h=>by omega⟩
  | k + 1 => by
    obtain ⟨h1,h2,h3,h4⟩:=allRef k
    refine ⟨fun x hx=>sameN x fun op text num no dis args query hm=>?_,fun x hx=>sameQs x fun q hm=>h4 q ?_,fun x hx=>sameS x fun op name as' query ins on hm=>?_,fun x hx=>sameQ x fun op all dis items frm whr group having rows ins keys li of e=>?_⟩
    · have := List.sizeOf_lt_of_mem hm
      simp only [Nd.mk.sizeOf_spec] at this
      exact ⟨h1 _ (by omega),h2 _ (by omega)⟩
    · have := List.sizeOf_lt_of_mem hm
      omega
    · have := List.sizeOf_lt_of_mem hm
      simp only [Sr.mk.sizeOf_spec] at this
      exact ⟨h2 _ (by omega),h3 _ (by omega),h1 _ (by omega)⟩
    · subst e
      simp only [Qr.mk.sizeOf_spec,Bd.mk.sizeOf_spec] at hx
      refine ⟨fun star table expr as' hm=>?_,h3 _ (by omega),h1 _ (by omega),h1 _ (by omega),h1 _ (by omega),fun y hm=>?_,h2 _ (by omega)⟩
      · have := List.sizeOf_lt_of_mem hm
        simp only [It.mk.sizeOf_spec] at this
        exact h1 _ (by omega)
      · have := List.sizeOf_lt_of_mem hm
        exact h1 _ (by omega)
theorem c13 (x y : Qr) (hx : x.small) (hy : y.small) (S : List Bx) : run2 13 [x.av,y.av] S = some (.ret (.bool (eqQ x y)) none,S):=(allRef (SizeOf.sizeOf x + 1)).2.2.2 x (by omega) hx y hy S
end Go.Av
