/- Part of syntax_parses. -/
import Derived.Test.YtdcknoijcepibaaGreatDoorQ17
import Derived.Test.YtdcknoijcepibaaGreatDoorQ18
set_option linter.unusedSimpArgs false
set_option linter.unusedVariables false
set_option maxRecDepth 100000
set_option maxHeartbeats 16000000
namespace Go.Av
open Go Go.Proofs
theorem xg{k:Nat}{S S':LB}(h:S'.length≤S.length+k)(e:AEnd):xr k S S' e=some (e,S'):=by unfold xr;rw[if_pos h]
def cB(L:Int):Bx:={cells:=[ii L]}
theorem sh_bs(s:LU):(bs s).extract 0 (min s.length 210)=bs (sh s):=by
 rw[bct,dj];unfold sh;congr 1;rcases Nat.le_total s.length 210 with h | h
 ·rw[Nat.min_eq_left h,dm (cj _),dm h]
 ·rw[Nat.min_eq_right h]
theorem c49(s:LU)(S:LB)(hs:s.length≤bph):rH 49 [.str (bs s)] S (.str (bs (sh s))) S:=by
 refine xh rfl ?_;have h1:min (s.length:Int) 210=((min s.length 210:Nat):Int):=by omega
 have h2:(0:Int)≤((min s.length 210:Nat):Int):=by omega
 have h3:((min s.length 210:Nat):Int)≤(s.length:Int):=by omega
 have h4:=sh_bs s;have hz:(bs s).size=s.length:=zj s;generalize (min s.length 210:Nat)=m at *;generalize bs s=B at *;simp[a49,hz,h1,h2,h3,h4]
theorem c48(L:Int):rP 48 [] [cB L] (.bool (decide (0≤ms L))) [cB (ms L)]:=by
 refine xh rfl ?_;simp[-getElem?_pos,rZa,a48,cB,ms,xg];rfl
def PN(l:List Nd):Prop:=bj6 l→l.length≤bph→∀L,Ok1 1 L→bbf 98 [.ptr 0 0,.slice 7 (xd l)] [cB L]=some (.ret (.slice 7 (xd (btv l L).1)) (some 118),[cB (btv l L).2])
def PQ(l:List Qr):Prop:=brx l→l.length≤bph→∀L,Ok1 1 L→bbf 100 [.ptr 0 0,.slice 13 (zb l)] [cB L]=some (.ret (.slice 13 (zb (cbs l L).1)) (some 45),[cB (cbs l L).2])
def PS(l:List Sr):Prop:=bt0 l→l.length≤bph→∀L,Ok1 1 L→bbf 99 [.ptr 0 0,.slice 6 (zt l)] [cB L]=some (.ret (.slice 6 (zt (cd5 l L).1)) (some 120),[cB (cd5 l L).2])
def st98(l:LA)(acc:LA)(L:Int)(i:Nat):St:={σ:=[(0,.v (.ptr 0 0)),(1,.v (.slice 7 l)),(5,.v (.slice 7 acc)),(6,.v (ii (i:Int)))],own:=[(5,118)],loc:=[],S:=[cB L]}
def en5(sz e:Nat)(acc:LA)(L:Int):AEx×St:=(.exit 0,{σ:=[(5,.v (.slice sz acc))],own:=[(5,e)],loc:=[],S:=[cB L]})
theorem stepN(l:List Nd)(ih:∀op text num no dis args query,Nd.mk op text num no dis args query∈l→PN args∧PQ query):PN l:=by
 intro hf hl L hL;refine xh rfl ?_;have hmore:=c48;have hlen:(xd l).length=l.length:=bdh l;have hloop:=bs8 (f:=xf bbf cjb) thN cjm (st:=fun acc L i=>st98 (xd l) (xd acc) L i) (fin:=fun acc L=>en5 7 118 (xd acc) L) (fun a L=>by simp[en5]) l
  (fun acc L i x hI hx h0=>by
   obtain⟨op,text,num,no,dis,args,query⟩:=x;obtain⟨ihN,ihQ⟩:=ih op text num no dis args query (cp hx);obtain⟨ok,hI'⟩:=hI.next (x:=(thN (.mk op text num no dis args query) (ms L)).1) h0 (btx _ _) (by omega) (by omega)
   refine⟨?_,hI'⟩;have hfit:=(b80 l).1 hf _ (cp hx);simp only[Nd.fit]at hfit;obtain⟨f1,f2,f3,f4,f5⟩:=hfit;have b1:=bfd args (ms L) (ok.step (Bd1.refl _) (by omega));have q1:=ihN f4 f2 (ms L) (ok.step (Bd1.refl _) (by omega));have q2:=ihQ f5 f3 _ (ok.step b1 (by omega));have q3:=c49 text;have g:=b5q hx;simp only[Nd.av]at g;have h1:=ilt hx;have hi:i<l.length:=(cf.1 hx).1;have w:=bp7 (n:=i) (by unfold bph at hl;omega);have hacc:(xd acc).length=acc.length:=bdh acc;have hb:(acc.length+1)*88≤140737488355328:=by have:=hI.2.2;omega
   have hm:=hmore L;simp only[thN,bpv,xd,Nd.av];have h0':decide (0≤ms L)=true:=by simpa using h0
   rw[h0']at hm;generalize btv args (ms L)=A at *;generalize cbs query A.2=Q at *;generalize xd acc=ACC at *;generalize xd l=X at *;generalize xd args=AR at *;generalize zb query=QR at *;rw[xb];simp[-getElem?_pos,rZa,cjb,st98,hlen,h1,hi,hm,g,q1,q2,q3,f1,w,hacc,hb])
  (fun acc L i x hI hx h0=>by
   have h1:=ilt hx;have hi:i<l.length:=(cf.1 hx).1;have hm:=hmore L;have h0':decide (0≤ms L)=false:=by simpa using h0
   rw[h0']at hm;rw[xb];simp[-getElem?_pos,rZa,cjb,st98,en5,hlen,h1,hi,hm])
  (fun acc L hI=>by
   rw[xb];simp[-getElem?_pos,rZa,cjb,st98,en5,hlen]) L (cjm.start hL)
 rw[← bj7]at hloop;simp only[st98,xd,en5,cx,dd]at hloop;generalize btv l L=R at *;simp[-getElem?_pos,rZa,a98,hloop,xg]
end Go.Av
namespace Go.Av
open Go Go.Proofs
def st99(l:LA)(acc:LA)(L:Int)(i:Nat):St:={σ:=[(0,.v (.ptr 0 0)),(1,.v (.slice 6 l)),(5,.v (.slice 6 acc)),(6,.v (ii (i:Int)))],own:=[(5,120)],loc:=[],S:=[cB L]}
theorem stepS(l:List Sr)(ih:∀op name as' query ins on,Sr.mk op name as' query ins on∈l→PQ query∧PS ins∧PN on):PS l:=by
 intro hf hl L hL;refine xh rfl ?_;have hmore:=c48;have hlen:(zt l).length=l.length:=bjj l;have hloop:=bs8 (f:=xf bbf ch9) thS cjm (st:=fun acc L i=>st99 (zt l) (zt acc) L i) (fin:=fun acc L=>en5 6 120 (zt acc) L) (fun a L=>by simp[en5]) l
  (fun acc L i x hI hx h0=>by
   obtain⟨op,name,as',query,ins,on⟩:=x;obtain⟨ihQ,ihS,ihN⟩:=ih op name as' query ins on (cp hx);obtain⟨ok,hI'⟩:=hI.next (x:=(thS (.mk op name as' query ins on) (ms L)).1) h0 (cd6 _ _) (by omega) (by omega)
   refine⟨?_,hI'⟩;have hfit:=(b8d l).1 hf _ (cp hx);simp only[Sr.fit]at hfit;obtain⟨f1,f2,f3,f4,f5,f6,f7,f8⟩:=hfit;have b1:=b0v query (ms L) (ok.step (Bd1.refl _) (by omega));have b2:=b1.trans (bvc ins _ (ok.step b1 (by omega)));have q1:=ihQ f6 f3 (ms L) (ok.step (Bd1.refl _) (by omega));have q2:=ihS f7 f4 _ (ok.step b1 (by omega));have q3:=ihN f8 f5 _ (ok.step b2 (by omega));have q4:=c49 name;have q5:=c49 as';have g:=b42 hx;simp only[Sr.av]at g;have h1:=ilt hx;have hi:i<l.length:=(cf.1 hx).1;have w:=bp7 (n:=i) (by unfold bph at hl;omega);have hacc:(zt acc).length=acc.length:=bjj acc;have hb:(acc.length+1)*112≤140737488355328:=by have:=hI.2.2;omega
   have hm:=hmore L;simp only[thS,c2m,zt,Sr.av];have h0':decide (0≤ms L)=true:=by simpa using h0
   rw[h0']at hm;generalize cbs query (ms L)=A at *;generalize cd5 ins A.2=Q at *;generalize btv on Q.2=O at *;generalize zt acc=ACC at *;generalize zt l=X at *;generalize zt ins=AR at *;generalize zb query=QR at *;generalize xd on=NR at *;rw[xb];simp[-getElem?_pos,rZa,ch9,st99,hlen,h1,hi,hm,g,q1,q2,q3,q4,q5,f1,f2,w,hacc,hb])
  (fun acc L i x hI hx h0=>by
   have h1:=ilt hx;have hi:i<l.length:=(cf.1 hx).1;have hm:=hmore L;have h0':decide (0≤ms L)=false:=by simpa using h0
   rw[h0']at hm;rw[xb];simp[-getElem?_pos,rZa,ch9,st99,en5,hlen,h1,hi,hm])
  (fun acc L hI=>by
   rw[xb];simp[-getElem?_pos,rZa,ch9,st99,en5,hlen]) L (cjm.start hL)
 rw[← b3r]at hloop;simp only[st99,zt,en5,cx,dd]at hloop;generalize cd5 l L=R at *;simp[-getElem?_pos,rZa,a99,hloop,xg]
def db7:List (Nat×Nat):=[(3,77),(4,120),(5,118),(6,118),(7,118),(8,38),(9,45)]
def cm9:Bx:={cells:=[ii 0,.bool false,.bool false,.slice 4 [],.slice 6 [],.slice 7 [],.slice 7 [],.slice 7 [],.slice 1 [],.slice 13 []],own:=db7}
def dvf(b:LA)(op:Int)(all dis:Bool)(acc:LA)(L:Int)(i:Nat):St:=
 {σ:=[(0,.v (.ptr 0 0)),(3,.l 3 0),(4,.l 4 0),(5,.l 5 0),(6,.v (ii (i:Int)))],own:=[],loc:=[(3,{cells:=b}),(4,cm9),(5,{cells:=[ii op,.bool all,.bool dis,.slice 4 acc,.slice 6 [],.slice 7 [],.slice 7 [],.slice 7 [],.slice 1 [],.slice 13 []],own:=db7})],S:=[cB L]}
def dvr(b:LA)(op:Int)(all dis:Bool)(acc:LA)(L:Int):AEx×St:=(.exit 0,
 {σ:=[(0,.v (.ptr 0 0)),(3,.l 3 0),(4,.l 4 0),(5,.l 5 0)],own:=[],loc:=[(3,{cells:=b}),(4,cm9),(5,{cells:=[ii op,.bool all,.bool dis,.slice 4 acc,.slice 6 [],.slice 7 [],.slice 7 [],.slice 7 [],.slice 1 [],.slice 13 []],own:=db7})],S:=[cB L]})
theorem loop47(op:Int)(all dis:Bool)(items:List It)(rest:LA)(hf:bzj items)(hl:items.length≤bph)(ih:∀star table expr as',It.mk star table expr as'∈items→PN expr)(L:Int)(hL:Ok1 1 L) :
  zc (xf bbf b92) (dvf (.int .i64 op::.bool all::.bool dis::.slice 4 (bbg items)::rest) op all dis [] L 0) =
   some (dvr (.int .i64 op::.bool all::.bool dis::.slice 4 (bbg items)::rest) op all dis (bbg (cp4 items L).1) (cp4 items L).2):=by
 have hmore:=c48;have hlen:(bbg items).length=items.length:=bg0 items;have hloop:=bs8 (f:=xf bbf b92) thI cjm (st:=fun acc L i=>dvf (.int .i64 op::.bool all::.bool dis::.slice 4 (bbg items)::rest) op all dis (bbg acc) L i) (fin:=fun acc L=>dvr (.int .i64 op::.bool all::.bool dis::.slice 4 (bbg items)::rest) op all dis (bbg acc) L) (fun a L=>by simp[dvr]) items
  (fun acc L i x hI hx h0=>by
   obtain⟨star,table,expr,as'⟩:=x;have ihN:=ih star table expr as' (cp hx);obtain⟨ok,hI'⟩:=hI.next (x:=(thI (.mk star table expr as') (ms L)).1) h0 (cp5 _ _) (by omega) (by omega)
   refine⟨?_,hI'⟩;have hfit:=(b87 items).1 hf _ (cp hx);simp only[It.fit]at hfit;obtain⟨f1,f2,f3,f4⟩:=hfit;have q1:=ihN f4 f2 (ms L) ok;have q2:=c49 table;have q3:=c49 as';have g:=b50 hx;simp only[It.av]at g;have h1:=ilt hx;have hi:i<items.length:=(cf.1 hx).1;have w:=bp7 (n:=i) (by unfold bph at hl;omega);have hacc:(bbg acc).length=acc.length:=bg0 acc;have hb:(acc.length+1)*64≤140737488355328:=by have:=hI.2.2;omega
   have hm:=hmore L;simp only[thI,c8c,bbg,It.av];have h0':decide (0≤ms L)=true:=by simpa using h0
   rw[h0']at hm;generalize btv expr (ms L)=A at *;generalize bbg acc=ACC at *;generalize bbg items=X at *;generalize xd expr=NR at *;rw[xb];simp[-getElem?_pos,rZa,b92,dvf,cm9,db7,hlen,h1,hi,hm,g,q1,q2,q3,f1,f3,w,hacc,hb])
  (fun acc L i x hI hx h0=>by
   have h1:=ilt hx;have hi:i<items.length:=(cf.1 hx).1;have hm:=hmore L;have h0':decide (0≤ms L)=false:=by simpa using h0
   rw[h0']at hm;rw[xb];simp[-getElem?_pos,rZa,b92,dvf,dvr,hlen,h1,hi,hm])
  (fun acc L hI=>by
   rw[xb];simp[-getElem?_pos,rZa,b92,dvf,dvr,hlen]) L (cjm.start hL)
 rw[← cbt]at hloop;simpa only[bbg] using hloop
end Go.Av
namespace Go.Av
open Go Go.Proofs
def cth(b:LA)(o:LA)(acc:LA)(L:Int)(i:Nat):St:=
 {σ:=[(0,.v (.ptr 0 0)),(3,.l 3 0),(4,.l 4 0),(5,.l 5 0),(8,.v (ii (i:Int)))],own:=[],loc:=[(3,{cells:=b}),(4,cm9),(5,{cells:=o++[.slice 1 acc,.slice 13 []],own:=db7})],S:=[cB L]}
def czp(b:LA)(o:LA)(acc:LA)(L:Int):AEx×St:=(.exit 2,
 {σ:=[(0,.v (.ptr 0 0)),(3,.l 3 0),(4,.l 4 0),(5,.l 5 0)],own:=[],loc:=[(3,{cells:=b}),(4,cm9),(5,{cells:=o++[.slice 1 acc,.slice 13 []],own:=db7})],S:=[cB L]})
theorem drc(x0 x1 x2 x3 x4 x5 x6 x7 x9:AV)(y0 y1 y2 y3 y4 y5 y6 y7:AV)(rows:List (List Nd))(hf:bqg rows)(hl:rows.length≤bph)(ih:∀r∈rows,PN r)(L:Int)(hL:Ok1 1 L) :
  zc (xf bbf b91) (cth [x0,x1,x2,x3,x4,x5,x6,x7,.slice 1 (zr rows),x9] [y0,y1,y2,y3,y4,y5,y6,y7] [] L 0) =
   some (czp [x0,x1,x2,x3,x4,x5,x6,x7,.slice 1 (zr rows),x9] [y0,y1,y2,y3,y4,y5,y6,y7] (zr (cp3 rows L).1) (cp3 rows L).2):=by
 have hmore:=c48;have hlen:(zr rows).length=rows.length:=bg8 rows;have hloop:=bs8 (f:=xf bbf b91) btv cjm (st:=fun acc L i=>cth [x0,x1,x2,x3,x4,x5,x6,x7,.slice 1 (zr rows),x9] [y0,y1,y2,y3,y4,y5,y6,y7] (zr acc) L i) (fin:=fun acc L=>czp [x0,x1,x2,x3,x4,x5,x6,x7,.slice 1 (zr rows),x9] [y0,y1,y2,y3,y4,y5,y6,y7] (zr acc) L) (fun a L=>by simp[czp]) rows
  (fun acc L i x hI hx h0=>by
   have ihN:=ih x (cp hx);obtain⟨ok,hI'⟩:=hI.next (x:=(btv x (ms L)).1) h0 (bfd _ _) (by omega) (by omega)
   refine⟨?_,hI'⟩;obtain⟨f1,f2⟩:=(b46 rows).1 hf _ (cp hx);have q1:=ihN f2 f1 (ms L) ok;have g:=b05 hx;have h1:=ilt hx;have hi:i<rows.length:=(cf.1 hx).1;have w:=bp7 (n:=i) (by unfold bph at hl;omega);have hacc:(zr acc).length=acc.length:=bg8 acc;have hb:(acc.length+1)*24≤140737488355328:=by have:=hI.2.2;omega
   have hm:=hmore L;simp only[ct4,zr];have h0':decide (0≤ms L)=true:=by simpa using h0
   rw[h0']at hm;generalize btv x (ms L)=A at *;generalize zr acc=ACC at *;generalize zr rows=X at *;generalize xd x=NR at *;rw[xb];simp[-getElem?_pos,rZa,b91,cth,cm9,db7,hlen,h1,hi,hm,g,q1,w,hacc,hb])
  (fun acc L i x hI hx h0=>by
   have h1:=ilt hx;have hi:i<rows.length:=(cf.1 hx).1;have hm:=hmore L;have h0':decide (0≤ms L)=false:=by simpa using h0
   rw[h0']at hm;rw[xb];simp[-getElem?_pos,rZa,b91,cth,czp,hlen,h1,hi,hm])
  (fun acc L hI=>by
   rw[xb];simp[-getElem?_pos,rZa,b91,cth,czp,hlen]) L (cjm.start hL)
 rw[← cbp]at hloop;simpa only[zr] using hloop
structure PB(b:Bd):Prop where
 items:∀op all dis items frm whr group having rows ins,b=.mk op all dis items frm whr group having rows ins→(∀star table expr as',It.mk star table expr as'∈items→PN expr)∧PS frm∧PN whr∧PN group∧PN having∧(∀r∈rows,PN r)∧PQ ins
theorem c47(b:Bd)(hp:PB b)(hf:b.fit)(L:Int)(hL:Ok1 7 L):rP 47 [.agg b.cells] [cB L] (.agg (thB b L).1.cells) [cB (thB b L).2]:=by
 obtain⟨op,all,dis,items,frm,whr,group,having,rows,ins⟩:=b;obtain⟨p1,p2,p3,p4,p5,p6,p7⟩:=hp.items _ _ _ _ _ _ _ _ _ _ rfl;simp only[Bd.fit]at hf;obtain⟨⟨f1,f2,f3,f4,f5,f6,f7⟩,g1,g2,g3,g4,g5,g6,g7⟩:=hf;have b1:=cbv items L (hL.step (Bd1.refl L) (by omega));have o2:=hL.step (e:=1) b1 (by omega);have b2:=b1.trans (bvc frm _ o2);have o3:=hL.step (e:=1) b2 (by omega);have b3:=b2.trans (bfd whr _ o3);have o4:=hL.step (e:=1) b3 (by omega);have b4:=b3.trans (bfd group _ o4);have o5:=hL.step (e:=1) b4 (by omega);have b5:=b4.trans (bfd having _ o5);have o6:=hL.step (e:=1) b5 (by omega);have b6:=b5.trans (cbq rows _ o6);have o7:=hL.step (e:=1) b6 (by omega);refine xh rfl ?_;simp only[thB,Bd.cells];have l0:=loop47 op all dis items [.slice 6 (zt frm),.slice 7 (xd whr),.slice 7 (xd group),.slice 7 (xd having),.slice 1 (zr rows),.slice 13 (zb ins)] g1 f1 p1 L (hL.step (Bd1.refl L) (by omega));have q2:=p2 g2 f2 _ o2;have q3:=p3 g3 f3 _ o3;have q4:=p4 g4 f4 _ o4;have q5:=p5 g5 f5 _ o5;have q7:=p7 g7 f7 _ o7;have l1:=fun x0 x1 x2 x3 x4 x5 x6 x7 x9 y0 y1 y2 y3 y4 y5 y6 y7=>drc x0 x1 x2 x3 x4 x5 x6 x7 x9 y0 y1 y2 y3 y4 y5 y6 y7 rows g6 f6 p6 _ o6
 generalize cp4 items L=A at *;generalize cd5 frm A.2=B at *;generalize btv whr B.2=C at *;generalize btv group C.2=D at *;generalize btv having D.2=E at *;generalize cp3 rows E.2=F at *;generalize cbs ins F.2=G at *;generalize bbg items=X3 at *;generalize zt frm=X4 at *;generalize xd whr=X5 at *;generalize xd group=X6 at *;generalize xd having=X7 at *;generalize zr rows=X8 at *;generalize zb ins=X9 at *;simp only[dvf,dvr,cth,czp,cm9,db7,rZd,cx,dd]at l0 l1;simp[-getElem?_pos,rZa,a47,l0,l1,q2,q3,q4,q5,q7,xg]
end Go.Av
namespace Go.Av
open Go Go.Proofs
def qOwn:List (Nat×Nat):=db7++[(10,75)]
def df5:Bx:={cells:=[ii 0,.bool false,.bool false,.slice 4 [],.slice 6 [],.slice 7 [],.slice 7 [],.slice 7 [],.slice 1 [],.slice 13 [],.slice 3 [],ii 0,ii 0],own:=qOwn}
def dvg(q:LA)(o0 o1 o2 o3 o4 o5 o6 o7 o8 o9 o11 o12:AV)(acc:LA)(L:Int)(i:Nat):St:=
 {σ:=[(0,.v (.ptr 0 0)),(3,.l 3 0),(4,.l 4 0),(5,.l 5 0),(6,.v (ii (i:Int)))],own:=[],loc:=[(3,{cells:=q}),(4,df5),(5,{cells:=[o0,o1,o2,o3,o4,o5,o6,o7,o8,o9,.slice 3 acc,o11,o12],own:=[(10,75)]})],S:=[cB L]}
def dvs(o0 o1 o2 o3 o4 o5 o6 o7 o8 o9 o11 o12:AV)(acc:LA)(L:Int):AEx×St:=(.exit 0,
 {σ:=[(4,.l 4 0),(5,.l 5 0)],own:=[],loc:=[(4,df5),(5,{cells:=[o0,o1,o2,o3,o4,o5,o6,o7,o8,o9,.slice 3 acc,o11,o12],own:=[(10,75)]})],S:=[cB L]})
theorem loop27(x0 x1 x2 x3 x4 x5 x6 x7 x8 x9 x11 x12:AV)(o0 o1 o2 o3 o4 o5 o6 o7 o8 o9 o11 o12:AV)(keys:List Ky)(hf:∀k∈keys,k.name.length≤bph)(hl:keys.length≤bph)(L:Int)(hL:Ok1 1 L) :
  zc (xf bbf b94) (dvg [x0,x1,x2,x3,x4,x5,x6,x7,x8,x9,.slice 3 (keys.map Ky.av),x11,x12] o0 o1 o2 o3 o4 o5 o6 o7 o8 o9 o11 o12 [] L 0) =
   some (dvs o0 o1 o2 o3 o4 o5 o6 o7 o8 o9 o11 o12 ((ctc keys L).1.map Ky.av) (ctc keys L).2):=by
 have hmore:=c48;have hlen:(keys.map Ky.av).length=keys.length:=by simp
 have hloop:=bs8 (f:=xf bbf b94) (fun(k:Ky) L=>((⟨sh k.name,k.at',k.desc⟩:Ky),L)) cjm (st:=fun acc L i=>dvg [x0,x1,x2,x3,x4,x5,x6,x7,x8,x9,.slice 3 (keys.map Ky.av),x11,x12] o0 o1 o2 o3 o4 o5 o6 o7 o8 o9 o11 o12 (acc.map Ky.av) L i) (fin:=fun acc L=>dvs o0 o1 o2 o3 o4 o5 o6 o7 o8 o9 o11 o12 (acc.map Ky.av) L) (fun a L=>by simp[dvs]) keys
  (fun acc L i x hI hx h0=>by
   obtain⟨ok,hI'⟩:=hI.next (x:=(⟨sh x.name,x.at',x.desc⟩:Ky)) h0 (c:=0) (L':=ms L) (fun _=>Bd1.refl _) (by omega) (by omega)
   refine⟨?_,hI'⟩;have f1:=hf _ (cp hx);have q1:=c49 x.name;have g:(keys.map Ky.av)[i]? = some x.av:=by rw[d4,hx];rfl
   simp only[Ky.av]at g;have h1:=ilt hx;have hi:i<keys.length:=(cf.1 hx).1;have w:=bp7 (n:=i) (by unfold bph at hl;omega);have hacc:(acc.map Ky.av).length=acc.length:=by simp
   have hb:(acc.length+1)*32≤140737488355328:=by have:=hI.2.2;omega
   have hm:=hmore L;simp only[gt,cr,cg,Ky.av];have h0':decide (0≤ms L)=true:=by simpa using h0
   rw[h0']at hm;generalize acc.map Ky.av=ACC at *;generalize keys.map Ky.av=X at *;rw[xb];simp[-getElem?_pos,rZa,b94,dvg,df5,qOwn,db7,hlen,h1,hi,hm,g,q1,f1,w,hacc,hb])
  (fun acc L i x hI hx h0=>by
   have h1:=ilt hx;have hi:i<keys.length:=(cf.1 hx).1;have hm:=hmore L;have h0':decide (0≤ms L)=false:=by simpa using h0
   rw[h0']at hm;generalize keys.map Ky.av=X at *;rw[xb];simp[-getElem?_pos,rZa,b94,dvg,dvs,hlen,h1,hi,hm])
  (fun acc L hI=>by
   generalize keys.map Ky.av=X at *;rw[xb];simp[-getElem?_pos,rZa,b94,dvg,dvs,hlen]) L (cjm.start hL)
 rw[← b3s]at hloop;simpa only[cg] using hloop
theorem c27(q:Qr)(hp:∀b ks l o,q=.mk b ks l o→PB b)(hf:q.fit)(L:Int)(hL:Ok1 8 L):rP 27 [q.av] [cB L] (thQ q L).1.av [cB (thQ q L).2]:=by
 obtain⟨b,keys,limit,offset⟩:=q;have pb:=hp _ _ _ _ rfl;simp only[Qr.fit]at hf;obtain⟨f1,f2,f3⟩:=hf;have o1:=hL.step (e:=7) (Bd1.refl L) (by omega);have b1:=c1q b L o1;have o2:=hL.step (e:=1) b1 (by omega);have q1:=c47 b pb f1 L o1;have l0:=fun x0 x1 x2 x3 x4 x5 x6 x7 x8 x9 x11 x12 o0 o1 o2' o3 o4 o5 o6 o7 o8 o9 o11 o12=>loop27 x0 x1 x2 x3 x4 x5 x6 x7 x8 x9 x11 x12 o0 o1 o2' o3 o4 o5 o6 o7 o8 o9 o11 o12 keys f3 f2 _ o2
 refine xh rfl ?_;simp only[thQ,Qr.av];generalize thB b L=A at *;generalize ctc keys A.2=K at *;obtain⟨⟨c0,c1,c2,i3,i4,i5,i6,i7,i8,i9⟩,L1⟩:=A;obtain⟨d0,d1,d2,j3,j4,j5,j6,j7,j8,j9⟩:=b;simp only[Bd.cells,rZd]at *;generalize K.1.map Ky.av=KK at *;generalize keys.map Ky.av=KS at *;simp only[dvg,dvs,df5,qOwn,db7,rZd,cx,dd]at l0;simp[-getElem?_pos,rZa,a27,l0,q1,xg]
end Go.Av
namespace Go.Av
open Go Go.Proofs
def c2k(l:LA)(acc:LA)(L:Int)(i:Nat):St:={σ:=[(0,.v (.ptr 0 0)),(1,.v (.slice 13 l)),(5,.v (.slice 13 acc)),(6,.v (ii (i:Int)))],own:=[(5,45)],loc:=[],S:=[cB L]}
theorem Qr.av_dat(q:Qr):q.av.isDat=true∧q.av.cells.length=13∧∃cs,q.av=.agg cs∧cs.length=13:=by
 obtain⟨⟨c0,c1,c2,i3,i4,i5,i6,i7,i8,i9⟩,ks,l,o⟩:=q;simp[Qr.av,Bd.cells,AV.isDat,AV.cells]
theorem stepQ(l:List Qr)(ih:∀b ks li o,Qr.mk b ks li o∈l→PB b):PQ l:=by
 intro hf hl L hL;refine xh rfl ?_;have hmore:=c48;have hlen:(zb l).length=l.length:=bx0 l;have hloop:=bs8 (f:=xf bbf b63) thQ cjm (st:=fun acc L i=>c2k (zb l) (zb acc) L i) (fin:=fun acc L=>en5 13 45 (zb acc) L) (fun a L=>by simp[en5]) l
  (fun acc L i x hI hx h0=>by
   obtain⟨ok,hI'⟩:=hI.next (x:=(thQ x (ms L)).1) h0 (b77 _ _) (by omega) (by omega)
   refine⟨?_,hI'⟩;have hfit:=(b8p l).1 hf _ (cp hx);have q1:=c27 x (fun b ks li o e=>ih b ks li o (e▸cp hx)) hfit (ms L) ok;have g:=b5c hx;have h1:=ilt hx;have hi:i<l.length:=(cf.1 hx).1;have w:=bp7 (n:=i) (by unfold bph at hl;omega);have hacc:(zb acc).length=acc.length:=bx0 acc;have hb:(acc.length+1)*224≤140737488355328:=by have:=hI.2.2;omega
   have hm:=hmore L;obtain⟨_,_,cs,e1,e2⟩:=Qr.av_dat x;obtain⟨_,_,ds,e3,e4⟩:=Qr.av_dat (thQ x (ms L)).1;simp only[c3x,zb];have h0':decide (0≤ms L)=true:=by simpa using h0
   rw[h0']at hm;rw[e1]at g q1;rw[e3]at q1 ⊢;generalize thQ x (ms L)=A at *;generalize zb acc=ACC at *;generalize zb l=X at *;have e2':¬ cs.length<13:=by omega
   rw[xb];simp[-getElem?_pos,rZa,b63,c2k,hlen,h1,hi,hm,g,q1,w,hacc,hb,e2,e4,dm (Nat.le_of_eq e2)])
  (fun acc L i x hI hx h0=>by
   have h1:=ilt hx;have hi:i<l.length:=(cf.1 hx).1;have hm:=hmore L;have h0':decide (0≤ms L)=false:=by simpa using h0
   rw[h0']at hm;rw[xb];simp[-getElem?_pos,rZa,b63,c2k,en5,hlen,h1,hi,hm])
  (fun acc L hI=>by
   rw[xb];simp[-getElem?_pos,rZa,b63,c2k,en5,hlen]) L (cjm.start hL)
 rw[← bxk]at hloop;simp only[c2k,zb,en5,cx,dd]at hloop;generalize cbs l L=R at *;simp[-getElem?_pos,rZa,a100,hloop,xg]
theorem dm3:∀(k:Nat),(∀l:List Nd,SizeOf.sizeOf l<k→PN l)∧(∀l:List Qr,SizeOf.sizeOf l<k→PQ l)∧(∀l:List Sr,SizeOf.sizeOf l<k→PS l)∧(∀b:Bd,SizeOf.sizeOf b<k→PB b)
 | 0=>⟨fun _ h=>by omega,fun _ h=>by omega,fun _ h=>by omega,fun _ h=>by omega⟩
 | k+1=>by
  obtain⟨h1,h2,h3,h4⟩:=dm3 k;refine⟨fun l hl=>stepN l fun op text num no dis args query hm=>?_,fun l hl=>stepQ l fun b ks li o hm=>?_,fun l hl=>stepS l fun op name as' query ins on hm=>?_,fun b hb=>⟨fun op all dis items frm whr group having rows ins e=>?_⟩⟩
  ·have:=fm hm;simp only[Nd.mk.sizeOf_spec]at this;exact⟨h1 args (by omega),h2 query (by omega)⟩
  ·have:=fm hm;simp only[Qr.mk.sizeOf_spec]at this;exact h4 b (by omega)
  ·have:=fm hm;simp only[Sr.mk.sizeOf_spec]at this;exact⟨h2 query (by omega),h3 ins (by omega),h1 on (by omega)⟩
  ·subst e;simp only[Bd.mk.sizeOf_spec]at hb;refine⟨fun star table expr as' hm=>?_,h3 frm (by omega),h1 whr (by omega),h1 group (by omega),h1 having (by omega),fun r hm=>?_,h2 ins (by omega)⟩
   ·have:=fm hm;simp only[It.mk.sizeOf_spec]at this;exact h1 expr (by omega)
   ·have:=fm hm;exact h1 r (by omega)
mutual
theorem Nd.closed(m:Nat):∀n:Nd,n.av.closed m=true
 | .mk op text num no dis args query=>by simp[Nd.av,AV.closed,zd,bfs m args,bps m query]
theorem bfs(m:Nat):∀l:List Nd,zd m (xd l)=true
 | []=>rfl
 | n::r=>by simp[xd,zd,Nd.closed m n,bfs m r]
theorem It.closed(m:Nat):∀n:It,n.av.closed m=true
 | .mk star table expr as'=>by simp[It.av,AV.closed,zd,bfs m expr]
theorem b1k(m:Nat):∀l:List It,zd m (bbg l)=true
 | []=>rfl
 | n::r=>by simp[bbg,zd,It.closed m n,b1k m r]
theorem Sr.closed(m:Nat):∀n:Sr,n.av.closed m=true
 | .mk op name as' query ins on=>by simp[Sr.av,AV.closed,zd,bps m query,bsx m ins,bfs m on]
theorem bsx(m:Nat):∀l:List Sr,zd m (zt l)=true
 | []=>rfl
 | n::r=>by simp[zt,zd,Sr.closed m n,bsx m r]
theorem bvd(m:Nat):∀l:List (List Nd),zd m (zr l)=true
 | []=>rfl
 | n::r=>by simp[zr,zd,AV.closed,bfs m n,bvd m r]
theorem Bd.closed(m:Nat):∀n:Bd,zd m n.cells=true
 | .mk op all dis items frm whr group having rows ins=>by
  simp[Bd.cells,AV.closed,zd,b1k m items,bsx m frm,bfs m whr,bfs m group,bfs m having,bvd m rows,bps m ins]
theorem Qr.closed(m:Nat):∀n:Qr,n.av.closed m=true
 | .mk body keys limit offset=>by
  have h:=Bd.closed m body;have hk:∀ks:List Ky,zd m (ks.map Ky.av)=true:=by
   intro ks
   induction ks with
   | nil=>rfl
   | cons k r ih=>simp only[cr,zd,ih,Ky.av];simp[AV.closed,zd]
  obtain⟨c0,c1,c2,i3,i4,i5,i6,i7,i8,i9⟩:=body;simp[Bd.cells,AV.closed,zd]at h;simp[Qr.av,Bd.cells,AV.closed,zd,hk];exact h
theorem bps(m:Nat):∀l:List Qr,zd m (zb l)=true
 | []=>rfl
 | n::r=>by simp[zb,zd,Qr.closed m n,bps m r]
end
theorem bvq(m:Nat):∀ks:List Ky,zd m (ks.map Ky.av)=true
 | []=>rfl
 | k::r=>by simp only[cr,zd,bvq m r,Ky.av];simp[AV.closed,zd]
def c1d(q:Qr):Qr:=(thQ q 20000).1
theorem c14(q:Qr)(hf:q.fit):rH 14 [q.av] [] (c1d q).av []:=by
 have ok:Ok1 8 20000:=⟨by omega,by unfold Po;simp⟩;have q1:=c27 q (fun b ks l o e=>(dm3 (SizeOf.sizeOf b+1)).2.2.2 b (by omega)) hf 20000 ok;refine xh rfl ?_;unfold c1d;obtain⟨⟨c0,c1,c2,i3,i4,i5,i6,i7,i8,i9⟩,ks,l,o⟩:=q;generalize thQ (.mk (.mk c0 c1 c2 i3 i4 i5 i6 i7 i8 i9) ks l o) 20000=A at *;obtain⟨⟨⟨d0,d1,d2,j3,j4,j5,j6,j7,j8,j9⟩,ks',l',o'⟩,L'⟩:=A;simp only[Qr.av,Bd.cells,rZd,cB]at *;simp[-getElem?_pos,rZa,a14,q1,xr];exact⟨fun i x h=>by omega,by simp[AEnd.closed,AV.closed,zd,b1k,bsx,bfs,bvd,bps,bvq]⟩
end Go.Av
namespace Go.Av
open Go Go.Proofs
mutual
def Nd.small:Nd→Prop
 | .mk _ text _ _ _ args query=>text.length≤210∧args.length≤20000∧query.length≤20000∧bdg args∧bg2 query
def bdg:List Nd→Prop
 | []=>True
 | n::r=>n.small∧bdg r
def It.small:It→Prop
 | .mk _ table expr as'=>table.length≤210∧expr.length≤20000∧as'.length≤210∧bdg expr
def bh9:List It→Prop
 | []=>True
 | n::r=>n.small∧bh9 r
def Sr.small:Sr→Prop
 | .mk _ name as' query ins on=>name.length≤210∧as'.length≤210∧query.length≤20000∧ins.length≤20000∧on.length≤20000∧bg2 query∧bhd ins∧bdg on
def bhd:List Sr→Prop
 | []=>True
 | n::r=>n.small∧bhd r
def bgv:List (List Nd)→Prop
 | []=>True
 | n::r=>(n.length≤20000∧bdg n)∧bgv r
def Bd.small:Bd→Prop
 | .mk _ _ _ items frm whr group having rows ins=>(items.length≤20000∧frm.length≤20000∧whr.length≤20000∧group.length≤20000∧having.length≤20000∧rows.length≤20000∧ins.length≤20000) ∧
   bh9 items∧bhd frm∧bdg whr∧bdg group∧bdg having∧bgv rows∧bg2 ins
def Qr.small:Qr→Prop
 | .mk body keys _ _=>body.small∧keys.length≤20000∧∀k∈keys,k.name.length≤210
def bg2:List Qr→Prop
 | []=>True
 | n::r=>n.small∧bg2 r
end
theorem br1:∀l:List Nd,bdg l↔∀n∈l,n.small
 | []=>by simp[bdg]
 | n::r=>by simp[bdg,br1 r]
theorem br3:∀l:List It,bh9 l↔∀n∈l,n.small
 | []=>by simp[bh9]
 | n::r=>by simp[bh9,br3 r]
theorem brt:∀l:List Sr,bhd l↔∀n∈l,n.small
 | []=>by simp[bhd]
 | n::r=>by simp[bhd,brt r]
theorem brv:∀l:List Qr,bg2 l↔∀n∈l,n.small
 | []=>by simp[bg2]
 | n::r=>by simp[bg2,brv r]
theorem bqf:∀l:List (List Nd),bgv l↔∀n∈l,n.length≤20000∧bdg n
 | []=>by simp[bgv]
 | n::r=>by simp[bgv,bqf r]
theorem c9x{α β:Type}{g:α→Int→β×Int}{c:Int}(hc:0≤c)(hc9:c≤9):∀(l:List α) (L:Int),(∀x L,Ok1 c L→Bd1 c L (g x L).2)→Ok1 1 L→((bv0 g l L).1.length:Int)≤if 0≤L then L else 0
 | [],L,_,h=>by simp only[bv0];split<;>simp;omega
 | x::r,L,hg,h=>by
  simp only[bv0];have e:=ccm h (by omega);by_cases h0:0≤ms L
  ·rw[if_pos h0];simp only[cm];rw[e]at h0 ⊢;have p1:=bq8 h0;obtain⟨h1,h2⟩:=h;obtain⟨b1,b2⟩:=hg x (L - 1) ⟨by omega,by omega⟩;have:=c9x hc hc9 r (g x (L - 1)).2 hg ⟨by omega,by omega⟩;rw[if_pos (by omega)];split at this<;>omega
  ·rw[if_neg h0];simp only[ct];split<;>omega
theorem bfh{α β:Type}{g:α→Int→β×Int}{c:Int}(hc:0≤c)(hc9:c≤9)(l:List α){L:Int}(hg:∀x L,Ok1 c L→Bd1 c L (g x L).2)(h:Ok1 1 L):(bv0 g l L).1.length≤20000:=by
 have h1:=c9x hc hc9 l L hg h;have h2:=h.1;split at h1<;>omega
theorem b8g(s:LU):(sh s).length≤210:=by unfold sh;rw[dp];omega
theorem Ok1.round{c L:Int}(h:Ok1 1 L)(h0:0≤ms L)(hc9:c≤9):Ok1 c (ms L)∧∀L',Bd1 c (ms L) L'→Ok1 1 L':=by
 have e:=ccm h (by omega);rw[e]at h0 ⊢;have p1:=bq8 h0;obtain⟨h1,h2⟩:=h;refine⟨⟨by omega,by omega⟩,fun L' hb=>?_⟩;obtain⟨b1,b2⟩:=hb;exact⟨by omega,by omega⟩
mutual
theorem c1h:∀(n:Nd) (L:Int),Ok1 2 L→(thN n L).1.small
 | .mk op text num no dis args query,L,h=>by
  have o1:=h.step (e:=1) (Bd1.refl L) (by omega);have b1:=bfd args L o1;have o2:=h.step (e:=1) b1 (by omega);simp only[thN,Nd.small];exact⟨b8g _,by rw[bj7];exact bfh (by omega) (by omega) _ btx o1,by rw[bxk];exact bfh (by omega) (by omega) _ b77 o2,bg7 args L o1,bsv query _ o2⟩
theorem bg7:∀(l:List Nd) (L:Int),Ok1 1 L→bdg (btv l L).1
 | [],L,_=>trivial
 | n::r,L,h=>by
  simp only[btv];split
  ·rename_i h0;obtain⟨o1,o2⟩:=h.round h0 (c:=2) (by omega);exact⟨c1h n _ o1,bg7 r _ (o2 _ (btx n _ o1))⟩
  ·trivial
theorem c1m:∀(n:It) (L:Int),Ok1 1 L→(thI n L).1.small
 | .mk star table expr as',L,h=>by
  simp only[thI,It.small];exact⟨b8g _,by rw[bj7];exact bfh (by omega) (by omega) _ btx h,b8g _,bg7 expr L h⟩
theorem b78:∀(l:List It) (L:Int),Ok1 1 L→bh9 (cp4 l L).1
 | [],L,_=>trivial
 | n::r,L,h=>by
  simp only[cp4];split
  ·rename_i h0;obtain⟨o1,o2⟩:=h.round h0 (c:=1) (by omega);exact⟨c1m n _ o1,b78 r _ (o2 _ (cp5 n _ o1))⟩
  ·trivial
theorem c1f:∀(n:Sr) (L:Int),Ok1 3 L→(thS n L).1.small
 | .mk op name as' query ins on,L,h=>by
  have o1:=h.step (e:=1) (Bd1.refl L) (by omega);have b1:=b0v query L o1;have o2:=h.step (e:=1) b1 (by omega);have b2:=b1.trans (bvc ins _ o2);have o3:=h.step (e:=1) b2 (by omega);simp only[thS,Sr.small];exact⟨b8g _,b8g _,by rw[bxk];exact bfh (by omega) (by omega) _ b77 o1,by rw[b3r];exact bfh (by omega) (by omega) _ cd6 o2,by rw[bj7];exact bfh (by omega) (by omega) _ btx o3,
   bsv query L o1,b0t ins _ o2,bg7 on _ o3⟩
theorem b0t:∀(l:List Sr) (L:Int),Ok1 1 L→bhd (cd5 l L).1
 | [],L,_=>trivial
 | n::r,L,h=>by
  simp only[cd5];split
  ·rename_i h0;obtain⟨o1,o2⟩:=h.round h0 (c:=3) (by omega);exact⟨c1f n _ o1,b0t r _ (o2 _ (cd6 n _ o1))⟩
  ·trivial
theorem b76:∀(l:List (List Nd)) (L:Int),Ok1 1 L→bgv (cp3 l L).1
 | [],L,_=>trivial
 | n::r,L,h=>by
  simp only[cp3];split
  ·rename_i h0;obtain⟨o1,o2⟩:=h.round h0 (c:=1) (by omega);exact⟨⟨by rw[bj7];exact bfh (by omega) (by omega) _ btx o1,bg7 n _ o1⟩,b76 r _ (o2 _ (bfd n _ o1))⟩
  ·trivial
theorem c1p:∀(b:Bd) (L:Int),Ok1 7 L→(thB b L).1.small
 | .mk op all dis items frm whr group having rows ins,L,h=>by
  have o1:=h.step (e:=1) (Bd1.refl L) (by omega);have b1:=cbv items L o1;have o2:=h.step (e:=1) b1 (by omega);have b2:=b1.trans (bvc frm _ o2);have o3:=h.step (e:=1) b2 (by omega);have b3:=b2.trans (bfd whr _ o3);have o4:=h.step (e:=1) b3 (by omega);have b4:=b3.trans (bfd group _ o4);have o5:=h.step (e:=1) b4 (by omega);have b5:=b4.trans (bfd having _ o5);have o6:=h.step (e:=1) b5 (by omega);have b6:=b5.trans (cbq rows _ o6);have o7:=h.step (e:=1) b6 (by omega);simp only[thB,Bd.small];refine⟨⟨?_,?_,?_,?_,?_,?_,?_⟩,b78 items L o1,b0t frm _ o2,bg7 whr _ o3,bg7 group _ o4,bg7 having _ o5,b76 rows _ o6,bsv ins _ o7⟩
  ·rw[cbt];exact bfh (by omega) (by omega) _ cp5 o1
  ·rw[b3r];exact bfh (by omega) (by omega) _ cd6 o2
  ·rw[bj7];exact bfh (by omega) (by omega) _ btx o3
  ·rw[bj7];exact bfh (by omega) (by omega) _ btx o4
  ·rw[bj7];exact bfh (by omega) (by omega) _ btx o5
  ·rw[cbp];exact bfh (by omega) (by omega) _ bfd o6
  ·rw[bxk];exact bfh (by omega) (by omega) _ b77 o7
theorem cd7:∀(q:Qr) (L:Int),Ok1 8 L→(thQ q L).1.small
 | .mk body keys limit offset,L,h=>by
  have o1:=h.step (e:=7) (Bd1.refl L) (by omega);have b1:=c1q body L o1;have o2:=h.step (e:=1) b1 (by omega);simp only[thQ,Qr.small];refine⟨c1p body L o1,by rw[b3s];exact bfh (c:=0) (by omega) (by omega) _ (fun x L _=>Bd1.refl L) o2,?_⟩;have:∀(ks:List Ky) (L:Int),∀k∈(ctc ks L).1,k.name.length≤210:=by
   intro ks
   induction ks with
   | nil=>intro L k hk;cases hk
   | cons x r ih=>
    intro L k hk;simp only[ctc]at hk;split at hk
    ·rcases dc.1 hk with rfl | hk
     ·exact b8g _
     ·exact ih _ k hk
    ·cases hk
  exact this keys _
theorem bsv:∀(l:List Qr) (L:Int),Ok1 1 L→bg2 (cbs l L).1
 | [],L,_=>trivial
 | n::r,L,h=>by
  simp only[cbs];split
  ·rename_i h0;obtain⟨o1,o2⟩:=h.round h0 (c:=8) (by omega);exact⟨cd7 n _ o1,bsv r _ (o2 _ (b77 n _ o1))⟩
  ·trivial
end
theorem cj4(q:Qr):(c1d q).small:=cd7 q 20000 ⟨by omega,by unfold Po;simp⟩
end Go.Av
namespace Go.Av
open Go Go.Proofs
def eqL{α:Type}(eq:α→α→Bool):List α→List α→Bool
 | [],[]=>true
 | x::l,y::r=>eq x y&&eqL eq l r
 | _,_=>false
def eqK(a b:Ky):Bool:=(a.name==b.name)&&((a.at'==b.at')&&(a.desc==b.desc))
mutual
def eqN:Nd→Nd→Bool
 | .mk op text num no dis args query,.mk op' text' num' no' dis' args' query'=>
  (op==op')&&((text==text')&&((num==num')&&((no==no')&&((dis==dis')&&(b1t args args'&&cjs query query')))))
def b1t:List Nd→List Nd→Bool
 | [],[]=>true
 | x::l,y::r=>eqN x y&&b1t l r
 | _,_=>false
def eqI:It→It→Bool
 | .mk star table expr as',.mk star' table' expr' as''=>(star==star')&&((table==table')&&((as'==as'')&&b1t expr expr'))
def c9p:List It→List It→Bool
 | [],[]=>true
 | x::l,y::r=>eqI x y&&c9p l r
 | _,_=>false
def eqS:Sr→Sr→Bool
 | .mk op name as' query ins on,.mk op' name' as'' query' ins' on'=>(op==op')&&((name==name')&&((as'==as'')&&(cjs query query'&&(crr ins ins'&&b1t on on'))))
def crr:List Sr→List Sr→Bool
 | [],[]=>true
 | x::l,y::r=>eqS x y&&crr l r
 | _,_=>false
def c9k:List (List Nd)→List (List Nd)→Bool
 | [],[]=>true
 | x::l,y::r=>b1t x y&&c9k l r
 | _,_=>false
def eqB:Bd→Bd→Bool
 | .mk op all dis items frm whr group having rows ins,.mk op' all' dis' items' frm' whr' group' having' rows' ins'=>
  (op==op')&&((all==all')&&((dis==dis')&&(c9p items items'&&(crr frm frm'&&(b1t whr whr'&&(b1t group group'&&(b1t having having'&&(c9k rows rows'&&cjs ins ins'))))))))
def eqQ:Qr→Qr→Bool
 | .mk body keys limit offset,.mk body' keys' limit' offset'=>eqL eqK keys keys'&&((limit==limit')&&((offset==offset')&&eqB body body'))
def cjs:List Qr→List Qr→Bool
 | [],[]=>true
 | x::l,y::r=>eqQ x y&&cjs l r
 | _,_=>false
end
theorem dmq:∀l r:List Nd,b1t l r=eqL eqN l r
 | [],[]=>by simp[b1t,eqL]
 | [],_::_=>by simp[b1t,eqL]
 | _::_,[]=>by simp[b1t,eqL]
 | x::l,y::r=>by simp only[b1t,eqL,dmq l r]
theorem c9m:∀l r:List It,c9p l r=eqL eqI l r
 | [],[]=>by simp[c9p,eqL]
 | [],_::_=>by simp[c9p,eqL]
 | _::_,[]=>by simp[c9p,eqL]
 | x::l,y::r=>by simp only[c9p,eqL,c9m l r]
theorem c9h:∀l r:List Sr,crr l r=eqL eqS l r
 | [],[]=>by simp[crr,eqL]
 | [],_::_=>by simp[crr,eqL]
 | _::_,[]=>by simp[crr,eqL]
 | x::l,y::r=>by simp only[crr,eqL,c9h l r]
theorem c9j:∀l r:List (List Nd),c9k l r=eqL b1t l r
 | [],[]=>by simp[c9k,eqL]
 | [],_::_=>by simp[c9k,eqL]
 | _::_,[]=>by simp[c9k,eqL]
 | x::l,y::r=>by simp only[c9k,eqL,c9j l r]
theorem dmp:∀l r:List Qr,cjs l r=eqL eqQ l r
 | [],[]=>by simp[cjs,eqL]
 | [],_::_=>by simp[cjs,eqL]
 | _::_,[]=>by simp[cjs,eqL]
 | x::l,y::r=>by simp only[cjs,eqL,dmp l r]
theorem br9{α:Type}{eq:α→α→Bool}:∀{l r:List α},l.length≠r.length→eqL eq l r=false
 | [],[],h=>absurd rfl h
 | [],_::_,_=>rfl
 | _::_,[],_=>rfl
 | x::l,y::r,h=>by
  simp only[eqL,br9 (l:=l) (r:=r) (by simpa using h),Bool.and_false]
theorem djh(k:Ky):eqK k k=true:=by simp[eqK]
theorem crs{α:Type}{eq:α→α→Bool}:∀(l:List α),(∀x∈l,eq x x=true)→eqL eq l l=true
 | [],_=>rfl
 | x::l,h=>by simp[eqL,h x (.head _),crs l fun y hy=>h y (.tail _ hy)]
mutual
theorem djg:∀n:Nd,eqN n n=true
 | .mk op text num no dis args query=>by simp[eqN,bjq args,bzq query]
theorem bjq:∀l:List Nd,b1t l l=true
 | []=>by simp[b1t]
 | x::l=>by simp[b1t,djg x,bjq l]
theorem djj:∀n:It,eqI n n=true
 | .mk star table expr as'=>by simp[eqI,bjq expr]
theorem chf:∀l:List It,c9p l l=true
 | []=>by simp[c9p]
 | x::l=>by simp[c9p,djj x,chf l]
theorem djf:∀n:Sr,eqS n n=true
 | .mk op name as' query ins on=>by simp[eqS,bzq query,b55 ins,bjq on]
theorem b55:∀l:List Sr,crr l l=true
 | []=>by simp[crr]
 | x::l=>by simp[crr,djf x,b55 l]
theorem chd:∀l:List (List Nd),c9k l l=true
 | []=>by simp[c9k]
 | x::l=>by simp[c9k,bjq x,chd l]
theorem djk:∀n:Bd,eqB n n=true
 | .mk op all dis items frm whr group having rows ins=>by simp[eqB,chf items,b55 frm,bjq whr,bjq group,bjq having,chd rows,bzq ins]
theorem cc6:∀n:Qr,eqQ n n=true
 | .mk body keys limit offset=>by simp[eqQ,djk body,crs keys fun k _=>djh k]
theorem bzq:∀l:List Qr,cjs l l=true
 | []=>by simp[cjs]
 | x::l=>by simp[cjs,cc6 x,bzq l]
end
theorem bs7{f:St→Option (AEx×St)}{α:Type}(eq:α→α→Bool)(st:Nat→St){bad good:AEx×St}(hb:bad.1≠.normal)(hg:good.1≠.normal)(l r:List α)(hlen:l.length=r.length)
  (hround:∀(i:Nat) x y,l[i]? = some x→r[i]? = some y→f (st i)=if eq x y=true then some (.normal,st (i+1)) else some bad) (hend:f (st l.length)=some good) :
  zc f (st 0)=some (if eqL eq l r=true then good else bad):=by
 have key:∀(m n pre pre':List α),l=pre++m→r=pre'++n→pre.length=pre'.length→m.length=n.length→zc f (st pre.length)=some (if eqL eq m n=true then good else bad):=by
  intro m
  induction m with
  | nil=>
   intro n pre pre' e1 e2 e3 e4;have:n=[]:=fh.1 e4.symm;subst this;simp only[mb]at e1;subst e1;rw[xc hend hg];simp[eqL]
  | cons x m ih=>
   intro n pre pre' e1 e2 e3 e4;cases n with
   | nil=>simp at e4
   | cons y n=>
    have h1:l[pre.length]? = some x:=by rw[e1];simp
    have h2:r[pre.length]? = some y:=by rw[e2,e3];simp
    have h3:=hround _ x y h1 h2;by_cases hq:eq x y=true
    ·rw[if_pos hq]at h3;rw[xq h3];have:=ih n (pre++[x]) (pre'++[y]) (by rw[e1];simp) (by rw[e2];simp) (by simp[e3]) (by simpa using e4);simp only[dh,cm,ct,dt]at this;rw[this];simp[eqL,hq]
    ·rw[if_neg hq]at h3;rw[xc h3 hb];simp[eqL,hq]
 exact key l r [] [] rfl rfl rfl hlen
end Go.Av
namespace Go.Av
open Go Go.Proofs
def b0j(S:LB):AEx×St:=(.ret,{σ:=[(4,.v (.bool false))],own:=[],loc:=[],S:=S})
def b3q(S:LB):AEx×St:=(.exit 0,{σ:=[],own:=[],loc:=[],S:=S})
def stR(sz:Nat)(S:LB)(X Y:LA)(i:Nat):St:={σ:=[(0,.v (.slice sz X)),(1,.v (.slice sz Y)),(5,.v (ii (i:Int)))],own:=[],loc:=[],S:=S}
def RN(l:List Nd):Prop:=bdg l→l.length≤20000→∀r,bdg r→r.length≤20000→∀S,rH 24 [.slice 7 (xd l),.slice 7 (xd r)] S (.bool (b1t l r)) S
def RS(l:List Sr):Prop:=bhd l→l.length≤20000→∀r,bhd r→r.length≤20000→∀S,rH 25 [.slice 6 (zt l),.slice 6 (zt r)] S (.bool (crr l r)) S
def RQ(l:List Qr):Prop:=bg2 l→l.length≤20000→∀r,bg2 r→r.length≤20000→∀S,rH 26 [.slice 13 (zb l),.slice 13 (zb r)] S (.bool (cjs l r)) S
def R1(x:Qr):Prop:=x.small→∀y,y.small→∀S,rH 13 [x.av,y.av] S (.bool (eqQ x y)) S
theorem sameN(l:List Nd)(ih:∀op text num no dis args query,Nd.mk op text num no dis args query∈l→RN args∧RQ query):RN l:=by
 intro hl hll r hr hrl S;refine xh rfl ?_;rw[dmq];have h1:(xd l).length=l.length:=bdh l;have h2:(xd r).length=r.length:=bdh r;by_cases hlen:l.length=r.length
 ·have hloop:=bs7 (f:=xf bbf cjd) eqN (st:=stR 7 S (xd l) (xd r)) (bad:=b0j S) (good:=b3q S) (by simp[b0j]) (by simp[b3q]) l r hlen
   (fun i x y hx hy=>by
    have g1:=b5q hx;have g2:=b5q hy;have hi:i<l.length:=(cf.1 hx).1;have hi':(i:Int)<(l.length:Int):=by omega
    have w:=bp7 (n:=i) (by omega);have s1:=(br1 l).1 hl _ (cp hx);have s2:=(br1 r).1 hr _ (cp hy);have ihx:=ih;obtain⟨op,text,num,no,dis,args,query⟩:=x;obtain⟨op',text',num',no',dis',args',query'⟩:=y;obtain⟨i1,i2⟩:=ihx _ _ _ _ _ _ _ (cp hx);simp only[Nd.small]at s1 s2;obtain⟨_,a2,a3,a4,a5⟩:=s1;obtain⟨_,b2,b3,b4,b5⟩:=s2;have q1:=i1 a4 a2 _ b4 b2 S;have q2:=i2 a5 a3 _ b5 b3 S;simp only[Nd.av]at g1 g2;simp only[eqN];generalize xd args=A at *;generalize xd args'=A' at *;generalize zb query=Q at *;generalize zb query'=Q' at *;clear hx hy ih ihx;generalize xd l=X at *;generalize xd r=Y at *;rw[xb];cases e1:(op==op') with
    | false=>
     simp at e1;simp[-getElem?_pos,rZa,cjd,stR,b0j,zm,h1,h2,hi,hi',g1,g2,w,q1,q2,e1]
    | true=>
     cases e2:(text==text') with
     | false=>
      simp at e1 e2;simp[-getElem?_pos,rZa,cjd,stR,b0j,zm,h1,h2,hi,hi',g1,g2,w,q1,q2,e1,e2]
     | true=>
      cases e3:(num==num') with
      | false=>
       simp at e1 e2 e3;simp[-getElem?_pos,rZa,cjd,stR,b0j,zm,h1,h2,hi,hi',g1,g2,w,q1,q2,e1,e2,e3]
      | true=>
       cases e4:(no==no') with
       | false=>
        simp at e1 e2 e3 e4;simp[-getElem?_pos,rZa,cjd,stR,b0j,zm,h1,h2,hi,hi',g1,g2,w,q1,q2,e1,e2,e3,e4]
       | true=>
        cases e5:(dis==dis') with
        | false=>
         simp at e1 e2 e3 e4 e5;simp[-getElem?_pos,rZa,cjd,stR,b0j,zm,h1,h2,hi,hi',g1,g2,w,q1,q2,e1,e2,e3,e4,e5]
        | true=>
         cases e6:b1t args args' with
         | false=>
          simp at e1 e2 e3 e4 e5 e6;simp[-getElem?_pos,rZa,cjd,stR,b0j,zm,h1,h2,hi,hi',g1,g2,w,q1,q2,e1,e2,e3,e4,e5,e6]
         | true=>
          cases e7:cjs query query' with
          | false=>
           simp at e1 e2 e3 e4 e5 e6 e7;simp[-getElem?_pos,rZa,cjd,stR,b0j,zm,h1,h2,hi,hi',g1,g2,w,q1,q2,e1,e2,e3,e4,e5,e6,e7]
          | true=>
           simp at e1 e2 e3 e4 e5 e6 e7;simp[-getElem?_pos,rZa,cjd,stR,b0j,zm,h1,h2,hi,hi',g1,g2,w,q1,q2,e1,e2,e3,e4,e5,e6,e7])
   (by
    generalize xd l=X at *;generalize xd r=Y at *;rw[xb];simp[-getElem?_pos,rZa,cjd,stR,b3q,h1,h2])
  simp only[stR,b0j,b3q,cx,dd]at hloop;generalize eqL eqN l r=e at *;generalize xd l=X at *;generalize xd r=Y at *;have hlen':(l.length:Int)=(r.length:Int):=by omega
  cases e<;>simp[-getElem?_pos,rZa,a24,h1,h2,hlen,hlen']<;>simp[hlen]at hloop<;>simp[hloop]
 ·rw[br9 hlen];have hlen':¬ (l.length:Int)=(r.length:Int):=by omega
  generalize xd l=X at *;generalize xd r=Y at *;simp[-getElem?_pos,rZa,a24,h1,h2,hlen,hlen']
theorem sameS(l:List Sr)(ih:∀op name as' query ins on,Sr.mk op name as' query ins on∈l→RQ query∧RS ins∧RN on):RS l:=by
 intro hl hll r hr hrl S;refine xh rfl ?_;rw[c9h];have h1:(zt l).length=l.length:=bjj l;have h2:(zt r).length=r.length:=bjj r;by_cases hlen:l.length=r.length
 ·have hloop:=bs7 (f:=xf bbf cjc) eqS (st:=stR 6 S (zt l) (zt r)) (bad:=b0j S) (good:=b3q S) (by simp[b0j]) (by simp[b3q]) l r hlen
   (fun i x y hx hy=>by
    have g1:=b42 hx;have g2:=b42 hy;have hi:i<l.length:=(cf.1 hx).1;have hi':(i:Int)<(l.length:Int):=by omega
    have w:=bp7 (n:=i) (by omega);have s1:=(brt l).1 hl _ (cp hx);have s2:=(brt r).1 hr _ (cp hy);have ihx:=ih;obtain⟨op,name,as',query,ins,on⟩:=x;obtain⟨op',name',as'',query',ins',on'⟩:=y;obtain⟨i1,i2,i3⟩:=ihx _ _ _ _ _ _ (cp hx);simp only[Sr.small]at s1 s2;obtain⟨_,_,a3,a4,a5,a6,a7,a8⟩:=s1;obtain⟨_,_,b3,b4,b5,b6,b7,b8⟩:=s2;have q1:=i1 a6 a3 _ b6 b3 S;have q2:=i2 a7 a4 _ b7 b4 S;have q3:=i3 a8 a5 _ b8 b5 S;simp only[Sr.av]at g1 g2;simp only[eqS];generalize xd on=A at *;generalize xd on'=A' at *;generalize zb query=Q at *;generalize zb query'=Q' at *;generalize zt ins=I at *;generalize zt ins'=I' at *;clear hx hy ih ihx;generalize zt l=X at *;generalize zt r=Y at *;rw[xb];cases e1:(op==op') with
    | false=>
     simp at e1;simp[-getElem?_pos,rZa,cjc,stR,b0j,zm,h1,h2,hi,hi',g1,g2,w,q1,q2,q3,e1]
    | true=>
     cases e2:(name==name') with
     | false=>
      simp at e1 e2;simp[-getElem?_pos,rZa,cjc,stR,b0j,zm,h1,h2,hi,hi',g1,g2,w,q1,q2,q3,e1,e2]
     | true=>
      cases e3:(as'==as'') with
      | false=>
       simp at e1 e2 e3;simp[-getElem?_pos,rZa,cjc,stR,b0j,zm,h1,h2,hi,hi',g1,g2,w,q1,q2,q3,e1,e2,e3]
      | true=>
       cases e4:cjs query query' with
       | false=>
        simp at e1 e2 e3 e4;simp[-getElem?_pos,rZa,cjc,stR,b0j,zm,h1,h2,hi,hi',g1,g2,w,q1,q2,q3,e1,e2,e3,e4]
       | true=>
        cases e5:crr ins ins' with
        | false=>
         simp at e1 e2 e3 e4 e5;simp[-getElem?_pos,rZa,cjc,stR,b0j,zm,h1,h2,hi,hi',g1,g2,w,q1,q2,q3,e1,e2,e3,e4,e5]
        | true=>
         cases e6:b1t on on' with
         | false=>
          simp at e1 e2 e3 e4 e5 e6;simp[-getElem?_pos,rZa,cjc,stR,b0j,zm,h1,h2,hi,hi',g1,g2,w,q1,q2,q3,e1,e2,e3,e4,e5,e6]
         | true=>
          simp at e1 e2 e3 e4 e5 e6;simp[-getElem?_pos,rZa,cjc,stR,b0j,zm,h1,h2,hi,hi',g1,g2,w,q1,q2,q3,e1,e2,e3,e4,e5,e6])
   (by
    generalize zt l=X at *;generalize zt r=Y at *;rw[xb];simp[-getElem?_pos,rZa,cjc,stR,b3q,h1,h2])
  simp only[stR,b0j,b3q,cx,dd]at hloop;generalize eqL eqS l r=e at *;generalize zt l=X at *;generalize zt r=Y at *;have hlen':(l.length:Int)=(r.length:Int):=by omega
  cases e<;>simp[-getElem?_pos,rZa,a25,h1,h2,hlen,hlen']<;>simp[hlen]at hloop<;>simp[hloop]
 ·rw[br9 hlen];have hlen':¬ (l.length:Int)=(r.length:Int):=by omega
  generalize zt l=X at *;generalize zt r=Y at *;simp[-getElem?_pos,rZa,a25,h1,h2,hlen,hlen']
theorem sameQs(l:List Qr)(ih:∀x∈l,R1 x):RQ l:=by
 intro hl hll r hr hrl S;refine xh rfl ?_;rw[dmp];have h1:(zb l).length=l.length:=bx0 l;have h2:(zb r).length=r.length:=bx0 r;by_cases hlen:l.length=r.length
 ·have hloop:=bs7 (f:=xf bbf csc) eqQ (st:=stR 13 S (zb l) (zb r)) (bad:=b0j S) (good:=b3q S) (by simp[b0j]) (by simp[b3q]) l r hlen
   (fun i x y hx hy=>by
    have g1:=b5c hx;have g2:=b5c hy;have hi:i<l.length:=(cf.1 hx).1;have hi':(i:Int)<(l.length:Int):=by omega
    have w:=bp7 (n:=i) (by omega);have s1:=(brv l).1 hl _ (cp hx);have s2:=(brv r).1 hr _ (cp hy);have ihx:=ih;obtain⟨b,keys,limit,offset⟩:=x;obtain⟨b',keys',limit',offset'⟩:=y;have q1:=ihx _ (cp hx) s1 _ s2 S;generalize eqQ (Qr.mk b keys limit offset) (Qr.mk b' keys' limit' offset')=E at *;obtain⟨c0,c1,c2,i3,i4,i5,i6,i7,i8,i9⟩:=b;obtain⟨d0,d1,d2,j3,j4,j5,j6,j7,j8,j9⟩:=b';simp only[Qr.av,Bd.cells,rZd]at g1 g2 q1;clear hx hy ih ihx;generalize zb l=X at *;generalize zb r=Y at *;rw[xb];cases E<;>simp[-getElem?_pos,rZa,csc,stR,b0j,zm,h1,h2,hi,hi',g1,g2,w,q1])
   (by
    generalize zb l=X at *;generalize zb r=Y at *;rw[xb];simp[-getElem?_pos,rZa,csc,stR,b3q,h1,h2])
  simp only[stR,b0j,b3q,cx,dd]at hloop;generalize eqL eqQ l r=e at *;generalize zb l=X at *;generalize zb r=Y at *;have hlen':(l.length:Int)=(r.length:Int):=by omega
  cases e<;>simp[-getElem?_pos,rZa,a26,h1,h2,hlen,hlen']<;>simp[hlen]at hloop<;>simp[hloop]
 ·rw[br9 hlen];have hlen':¬ (l.length:Int)=(r.length:Int):=by omega
  generalize zb l=X at *;generalize zb r=Y at *;simp[-getElem?_pos,rZa,a26,h1,h2,hlen,hlen']
end Go.Av
namespace Go.Av
open Go Go.Proofs
def ctt(S:LB)(q q':LA)(i:Nat):St:={σ:=[(2,.l 2 0),(3,.l 3 0),(5,.v (ii (i:Int)))],own:=[],loc:=[(2,{cells:=q}),(3,{cells:=q'})],S:=S}
def c9q(S:LB)(q q':LA):AEx×St:=(.exit 0,{σ:=[(2,.l 2 0),(3,.l 3 0)],own:=[],loc:=[(2,{cells:=q}),(3,{cells:=q'})],S:=S})
def b3j(sl:Nat)(S:LB)(q q':LA)(i:Nat):St:={σ:=[(6,.l 6 0),(7,.l 7 0),(sl,.v (ii (i:Int)))],own:=[],loc:=[(6,{cells:=q}),(7,{cells:=q'})],S:=S}
def cc8(ex:Nat)(S:LB)(q q':LA):AEx×St:=(.exit ex,{σ:=[(6,.l 6 0),(7,.l 7 0)],own:=[],loc:=[(6,{cells:=q}),(7,{cells:=q'})],S:=S})
theorem drs(S:LB)(x0 x1 x2 x3 x4 x5 x6 x7 x8 x9 x11 x12 y0 y1 y2 y3 y4 y5 y6 y7 y8 y9 y11 y12:AV)(l r:List Ky)(hlen:l.length=r.length)(hl:l.length≤20000) :
  zc (xf bbf b96) (ctt S [x0,x1,x2,x3,x4,x5,x6,x7,x8,x9,.slice 3 (l.map Ky.av),x11,x12] [y0,y1,y2,y3,y4,y5,y6,y7,y8,y9,.slice 3 (r.map Ky.av),y11,y12] 0)=some (if eqL eqK l r=true then c9q S [x0,x1,x2,x3,x4,x5,x6,x7,x8,x9,.slice 3 (l.map Ky.av),x11,x12] [y0,y1,y2,y3,y4,y5,y6,y7,y8,y9,.slice 3 (r.map Ky.av),y11,y12] else b0j S):=by
 have h1:(l.map Ky.av).length=l.length:=by simp
 have h2:(r.map Ky.av).length=r.length:=by simp
 refine bs7 (f:=xf bbf b96) eqK (st:=ctt S [x0,x1,x2,x3,x4,x5,x6,x7,x8,x9,.slice 3 (l.map Ky.av),x11,x12] [y0,y1,y2,y3,y4,y5,y6,y7,y8,y9,.slice 3 (r.map Ky.av),y11,y12]) (by simp[b0j]) (by simp[c9q]) l r hlen
   (fun i x y hx hy=>by
    have g1:(l.map Ky.av)[i]? = some x.av:=by rw[d4,hx];rfl
    have g2:(r.map Ky.av)[i]? = some y.av:=by rw[d4,hy];rfl
    have hi:i<l.length:=(cf.1 hx).1;have hi':(i:Int)<(l.length:Int):=by omega
    have w:=bp7 (n:=i) (by omega);obtain⟨nm,at',de⟩:=x;obtain⟨nm',at'',de'⟩:=y;simp only[Ky.av]at g1 g2;simp only[eqK];have h1':(l.map fun k=>AV.agg [.str (bs k.name),ii k.at',.bool k.desc]).length=l.length:=by simp
    generalize List.map Ky.av l=X at *;generalize List.map Ky.av r=Y at *;rw[xb];by_cases e1:nm=nm'<;>by_cases e2:at'=at''<;>by_cases e3:de=de'<;>simp[-getElem?_pos,rZa,b96,ctt,b0j,h1,h2,hi,hi',g1,g2,w,zm,e1,e2,e3])
   (by
    generalize List.map Ky.av l=X at *;generalize List.map Ky.av r=Y at *;rw[xb];simp[-getElem?_pos,rZa,b96,ctt,c9q,h1,h2])
theorem drq(S:LB)(x0 x1 x2 x4 x5 x6 x7 x8 x9 y0 y1 y2 y4 y5 y6 y7 y8 y9:AV)(l r:List It)(hlen:l.length=r.length)(hll:l.length≤20000)(hl:bh9 l)(hr:bh9 r)(ih:∀star table expr as',It.mk star table expr as'∈l→RN expr) :
  zc (xf bbf b62) (b3j 8 S [x0,x1,x2,.slice 4 (bbg l),x4,x5,x6,x7,x8,x9] [y0,y1,y2,.slice 4 (bbg r),y4,y5,y6,y7,y8,y9] 0)=some (if eqL eqI l r=true then cc8 2 S [x0,x1,x2,.slice 4 (bbg l),x4,x5,x6,x7,x8,x9] [y0,y1,y2,.slice 4 (bbg r),y4,y5,y6,y7,y8,y9] else b0j S):=by
 have h1:(bbg l).length=l.length:=bg0 l;have h2:(bbg r).length=r.length:=bg0 r;refine bs7 (f:=xf bbf b62) eqI (st:=b3j 8 S [x0,x1,x2,.slice 4 (bbg l),x4,x5,x6,x7,x8,x9] [y0,y1,y2,.slice 4 (bbg r),y4,y5,y6,y7,y8,y9]) (by simp[b0j]) (by simp[cc8]) l r hlen
   (fun i x y hx hy=>by
    have g1:=b50 hx;have g2:=b50 hy;have hi:i<l.length:=(cf.1 hx).1;have hi':(i:Int)<(l.length:Int):=by omega
    have w:=bp7 (n:=i) (by omega);have s1:=(br3 l).1 hl _ (cp hx);have s2:=(br3 r).1 hr _ (cp hy);obtain⟨star,table,expr,as'⟩:=x;obtain⟨star',table',expr',as''⟩:=y;have i1:=ih _ _ _ _ (cp hx);simp only[It.small]at s1 s2;obtain⟨_,a2,_,a4⟩:=s1;obtain⟨_,b2,_,b4⟩:=s2;have q1:=i1 a4 a2 _ b4 b2 S;simp only[It.av]at g1 g2;simp only[eqI];generalize xd expr=A at *;generalize xd expr'=A' at *;clear hx hy ih i1;generalize bbg l=X at *;generalize bbg r=Y at *;rw[xb];cases e1:(star==star') with
    | false=>
     simp at e1;simp[-getElem?_pos,rZa,b62,b3j,b0j,zm,h1,h2,hi,hi',g1,g2,w,q1,e1]
    | true=>
     cases e2:(table==table') with
     | false=>
      simp at e1 e2;simp[-getElem?_pos,rZa,b62,b3j,b0j,zm,h1,h2,hi,hi',g1,g2,w,q1,e1,e2]
     | true=>
      cases e3:(as'==as'') with
      | false=>
       simp at e1 e2 e3;simp[-getElem?_pos,rZa,b62,b3j,b0j,zm,h1,h2,hi,hi',g1,g2,w,q1,e1,e2,e3]
      | true=>
       cases e4:b1t expr expr' with
       | false=>
        simp at e1 e2 e3 e4;simp[-getElem?_pos,rZa,b62,b3j,b0j,zm,h1,h2,hi,hi',g1,g2,w,q1,e1,e2,e3,e4]
       | true=>
        simp at e1 e2 e3 e4;simp[-getElem?_pos,rZa,b62,b3j,b0j,zm,h1,h2,hi,hi',g1,g2,w,q1,e1,e2,e3,e4])
   (by
    generalize bbg l=X at *;generalize bbg r=Y at *;rw[xb];simp[-getElem?_pos,rZa,b62,b3j,cc8,h1,h2])
theorem drg(S:LB)(x0 x1 x2 x3 x4 x5 x6 x7 x9 y0 y1 y2 y3 y4 y5 y6 y7 y9:AV)(l r:List (List Nd))(hlen:l.length=r.length)(hll:l.length≤20000)(hl:bgv l)(hr:bgv r)(ih:∀x∈l,RN x) :
  zc (xf bbf b95) (b3j 11 S [x0,x1,x2,x3,x4,x5,x6,x7,.slice 1 (zr l),x9] [y0,y1,y2,y3,y4,y5,y6,y7,.slice 1 (zr r),y9] 0)=some (if eqL b1t l r=true then cc8 4 S [x0,x1,x2,x3,x4,x5,x6,x7,.slice 1 (zr l),x9] [y0,y1,y2,y3,y4,y5,y6,y7,.slice 1 (zr r),y9] else b0j S):=by
 have h1:(zr l).length=l.length:=bg8 l;have h2:(zr r).length=r.length:=bg8 r;refine bs7 (f:=xf bbf b95) b1t (st:=b3j 11 S [x0,x1,x2,x3,x4,x5,x6,x7,.slice 1 (zr l),x9] [y0,y1,y2,y3,y4,y5,y6,y7,.slice 1 (zr r),y9]) (by simp[b0j]) (by simp[cc8]) l r hlen
   (fun i x y hx hy=>by
    have g1:=b05 hx;have g2:=b05 hy;have hi:i<l.length:=(cf.1 hx).1;have hi':(i:Int)<(l.length:Int):=by omega
    have w:=bp7 (n:=i) (by omega);have s1:=(bqf l).1 hl _ (cp hx);have s2:=(bqf r).1 hr _ (cp hy);have q1:=ih _ (cp hx) s1.2 s1.1 _ s2.2 s2.1 S;generalize xd x=A at *;generalize xd y=A' at *;generalize b1t x y=E at *;clear hx hy ih;generalize zr l=X at *;generalize zr r=Y at *;rw[xb];cases E<;>simp[-getElem?_pos,rZa,b95,b3j,b0j,h1,h2,hi,hi',g1,g2,w,q1])
   (by
    generalize zr l=X at *;generalize zr r=Y at *;rw[xb];simp[-getElem?_pos,rZa,b95,b3j,cc8,h1,h2])
end Go.Av
namespace Go.Av
open Go Go.Proofs
theorem lf1{p:Prop}(h:p:=by simp[-getElem?_pos,rZa,a13,xg, *]):p:=h
theorem same1(S:LB)(op op' limit limit' offset offset':Int)(all dis all' dis':Bool)(K J X3 X4 X5 X6 X7 X8 X9 Y3 Y4 Y5 Y6 Y7 Y8 Y9:LA)(EK E3 E4 E5 E6 E7 E8 E9:Bool)
  (nK:K.length≠J.length→EK=false) (n3:X3.length≠Y3.length→E3=false) (n4:X4.length≠Y4.length→E4=false) (n8:X8.length≠Y8.length→E8=false)
  (l0:K.length=J.length→zc (xf bbf b96) (ctt S [ii op,.bool all,.bool dis,.slice 4 X3,.slice 6 X4,.slice 7 X5,.slice 7 X6,.slice 7 X7,.slice 1 X8,.slice 13 X9,.slice 3 K,ii limit,ii offset] [ii op',.bool all',.bool dis',.slice 4 Y3,.slice 6 Y4,.slice 7 Y5,.slice 7 Y6,.slice 7 Y7,.slice 1 Y8,.slice 13 Y9,.slice 3 J,ii limit',ii offset'] 0)=some (if EK=true then c9q S [ii op,.bool all,.bool dis,.slice 4 X3,.slice 6 X4,.slice 7 X5,.slice 7 X6,.slice 7 X7,.slice 1 X8,.slice 13 X9,.slice 3 K,ii limit,ii offset] [ii op',.bool all',.bool dis',.slice 4 Y3,.slice 6 Y4,.slice 7 Y5,.slice 7 Y6,.slice 7 Y7,.slice 1 Y8,.slice 13 Y9,.slice 3 J,ii limit',ii offset'] else b0j S))
  (l1:X3.length=Y3.length→zc (xf bbf b62) (b3j 8 S [ii op,.bool all,.bool dis,.slice 4 X3,.slice 6 X4,.slice 7 X5,.slice 7 X6,.slice 7 X7,.slice 1 X8,.slice 13 X9] [ii op',.bool all',.bool dis',.slice 4 Y3,.slice 6 Y4,.slice 7 Y5,.slice 7 Y6,.slice 7 Y7,.slice 1 Y8,.slice 13 Y9] 0)=some (if E3=true then cc8 2 S [ii op,.bool all,.bool dis,.slice 4 X3,.slice 6 X4,.slice 7 X5,.slice 7 X6,.slice 7 X7,.slice 1 X8,.slice 13 X9] [ii op',.bool all',.bool dis',.slice 4 Y3,.slice 6 Y4,.slice 7 Y5,.slice 7 Y6,.slice 7 Y7,.slice 1 Y8,.slice 13 Y9] else b0j S))
  (l2:X8.length=Y8.length→zc (xf bbf b95) (b3j 11 S [ii op,.bool all,.bool dis,.slice 4 X3,.slice 6 X4,.slice 7 X5,.slice 7 X6,.slice 7 X7,.slice 1 X8,.slice 13 X9] [ii op',.bool all',.bool dis',.slice 4 Y3,.slice 6 Y4,.slice 7 Y5,.slice 7 Y6,.slice 7 Y7,.slice 1 Y8,.slice 13 Y9] 0)=some (if E8=true then cc8 4 S [ii op,.bool all,.bool dis,.slice 4 X3,.slice 6 X4,.slice 7 X5,.slice 7 X6,.slice 7 X7,.slice 1 X8,.slice 13 X9] [ii op',.bool all',.bool dis',.slice 4 Y3,.slice 6 Y4,.slice 7 Y5,.slice 7 Y6,.slice 7 Y7,.slice 1 Y8,.slice 13 Y9] else b0j S))
  (q4:rH 25 [.slice 6 X4,.slice 6 Y4] S (.bool E4) S)
  (q5:rH 24 [.slice 7 X5,.slice 7 Y5] S (.bool E5) S)
  (q6:rH 24 [.slice 7 X6,.slice 7 Y6] S (.bool E6) S)
  (q7:rH 24 [.slice 7 X7,.slice 7 Y7] S (.bool E7) S)
  (q9:rH 26 [.slice 13 X9,.slice 13 Y9] S (.bool E9) S) :
  rH 13 [.agg [ii op,.bool all,.bool dis,.slice 4 X3,.slice 6 X4,.slice 7 X5,.slice 7 X6,.slice 7 X7,.slice 1 X8,.slice 13 X9,.slice 3 K,ii limit,ii offset],.agg [ii op',.bool all',.bool dis',.slice 4 Y3,.slice 6 Y4,.slice 7 Y5,.slice 7 Y6,.slice 7 Y7,.slice 1 Y8,.slice 13 Y9,.slice 3 J,ii limit',ii offset']] S (.bool (EK&&((limit==limit')&&((offset==offset')&&((op==op')&&((all==all')&&((dis==dis')&&(E3&&(E4&&(E5&&(E6&&(E7&&(E8&&E9))))))))))))) S:=by
 refine xh rfl ?_;simp only[ctt,b3j,c9q,cc8,b0j,cx,dd]at l0 l1 l2;by_cases e_limit:limit=limit'
 case neg=>
  exact lf1
 subst e_limit;by_cases e_offset:offset=offset'
 case neg=>
  exact lf1
 subst e_offset;by_cases e_lenK:K.length=J.length
 case neg=>
  have g:=nK e_lenK;subst g;have e_lenK':¬ (K.length:Int)=(J.length:Int):=by omega
  exact lf1
 have e_lenK':(K.length:Int)=(J.length:Int):=by omega
 replace l0:=l0 e_lenK;cases EK
 case false=>
  simp at l0;exact lf1
 simp at l0;by_cases e_op:op=op'
 case neg=>
  exact lf1
 subst e_op;by_cases e_all:all=all'
 case neg=>
  exact lf1
 subst e_all;by_cases e_dis:dis=dis'
 case neg=>
  exact lf1
 subst e_dis;by_cases e_len3:X3.length=Y3.length
 case neg=>
  have g:=n3 e_len3;subst g;have e_len3':¬ (X3.length:Int)=(Y3.length:Int):=by omega
  exact lf1
 have e_len3':(X3.length:Int)=(Y3.length:Int):=by omega
 replace l1:=l1 e_len3;by_cases e_len4:X4.length=Y4.length
 case neg=>
  have g:=n4 e_len4;subst g;have e_len4':¬ (X4.length:Int)=(Y4.length:Int):=by omega
  exact lf1
 have e_len4':(X4.length:Int)=(Y4.length:Int):=by omega
 by_cases e_len8:X8.length=Y8.length
 case neg=>
  have g:=n8 e_len8;subst g;have e_len8':¬ (X8.length:Int)=(Y8.length:Int):=by omega
  exact lf1
 have e_len8':(X8.length:Int)=(Y8.length:Int):=by omega
 replace l2:=l2 e_len8;cases E3
 case false=>
  simp at l1;exact lf1
 simp at l1;cases E8
 case false=>
  simp at l2;exact lf1
 simp at l2;cases E4
 case false=>
  exact lf1
 cases E5
 case false=>
  exact lf1
 cases E6
 case false=>
  exact lf1
 cases E7
 case false=>
  exact lf1
 cases E9
 case false=>
  exact lf1
 exact lf1
theorem sameQ(x:Qr)(ih:∀op all dis items frm whr group having rows ins keys li of,x=.mk (.mk op all dis items frm whr group having rows ins) keys li of→(∀star table expr as',It.mk star table expr as'∈items→RN expr)∧RS frm∧RN whr∧RN group∧RN having∧(∀y∈rows,RN y)∧RQ ins):R1 x:=by
 intro sx y sy S;obtain⟨⟨op,all,dis,items,frm,whr,group,having,rows,ins⟩,keys,limit,offset⟩:=x;obtain⟨⟨op',all',dis',items',frm',whr',group',having',rows',ins'⟩,keys',limit',offset'⟩:=y;obtain⟨i1,i2,i3,i4,i5,i6,i7⟩:=ih _ _ _ _ _ _ _ _ _ _ _ _ _ rfl;simp only[Qr.small,Bd.small]at sx sy;obtain⟨⟨⟨a1,a2,a3,a4,a5,a6,a7⟩,a8,a9,a10,a11,a12,a13,a14⟩,a15,_⟩:=sx;obtain⟨⟨⟨b1,b2,b3,b4,b5,b6,b7⟩,b8,b9,b10,b11,b12,b13,b14⟩,b15,_⟩:=sy;have h:=same1 S op op' limit limit' offset offset' all dis all' dis' (keys.map Ky.av) (keys'.map Ky.av) (bbg items) (zt frm) (xd whr) (xd group) (xd having) (zr rows) (zb ins)
  (bbg items') (zt frm') (xd whr') (xd group') (xd having') (zr rows') (zb ins') (eqL eqK keys keys') (c9p items items') (crr frm frm') (b1t whr whr') (b1t group group') (b1t having having') (c9k rows rows') (cjs ins ins')
  (fun h=>br9 (by simpa using h)) (fun h=>by rw[bg0,bg0]at h;rw[c9m];exact br9 h) (fun h=>by rw[bjj,bjj]at h;rw[c9h];exact br9 h) (fun h=>by rw[bg8,bg8]at h;rw[c9j];exact br9 h)
  (fun h=>drs S _ _ _ _ _ _ _ _ _ _ _ _ _ _ _ _ _ _ _ _ _ _ _ _ keys keys' (by simpa using h) a15)
  (fun h=>by rw[bg0,bg0]at h;rw[c9m];exact drq S _ _ _ _ _ _ _ _ _ _ _ _ _ _ _ _ _ _ items items' h a1 a8 b8 i1)
  (fun h=>by rw[bg8,bg8]at h;rw[c9j];exact drg S _ _ _ _ _ _ _ _ _ _ _ _ _ _ _ _ _ _ rows rows' h a6 a13 b13 i6)
  (i2 a9 a2 _ b9 b2 S) (i3 a10 a3 _ b10 b3 S) (i4 a11 a4 _ b11 b4 S) (i5 a12 a5 _ b12 b5 S) (i7 a14 a7 _ b14 b7 S)
 simp only[Qr.av,Bd.cells,rZd,eqQ,eqB];exact h
theorem dm2:∀(k:Nat),(∀x:List Nd,SizeOf.sizeOf x<k→RN x)∧(∀x:List Qr,SizeOf.sizeOf x<k→RQ x)∧(∀x:List Sr,SizeOf.sizeOf x<k→RS x)∧(∀x:Qr,SizeOf.sizeOf x<k→R1 x)
 | 0=>⟨fun _ h=>by omega,fun _ h=>by omega,fun _ h=>by omega,fun _ h=>by omega⟩
 | k+1=>by
  obtain⟨h1,h2,h3,h4⟩:=dm2 k;refine⟨fun x hx=>sameN x fun op text num no dis args query hm=>?_,fun x hx=>sameQs x fun q hm=>h4 q ?_,fun x hx=>sameS x fun op name as' query ins on hm=>?_,fun x hx=>sameQ x fun op all dis items frm whr group having rows ins keys li of e=>?_⟩
  ·have:=fm hm;simp only[Nd.mk.sizeOf_spec]at this;exact⟨h1 _ (by omega),h2 _ (by omega)⟩
  ·have:=fm hm;omega
  ·have:=fm hm;simp only[Sr.mk.sizeOf_spec]at this;exact⟨h2 _ (by omega),h3 _ (by omega),h1 _ (by omega)⟩
  ·subst e;simp only[Qr.mk.sizeOf_spec,Bd.mk.sizeOf_spec]at hx;refine⟨fun star table expr as' hm=>?_,h3 _ (by omega),h1 _ (by omega),h1 _ (by omega),h1 _ (by omega),fun y hm=>?_,h2 _ (by omega)⟩
   ·have:=fm hm;simp only[It.mk.sizeOf_spec]at this;exact h1 _ (by omega)
   ·have:=fm hm;exact h1 _ (by omega)
theorem c13(x y:Qr)(hx:x.small)(hy:y.small)(S:LB):rH 13 [x.av,y.av] S (.bool (eqQ x y)) S:=(dm2 (SizeOf.sizeOf x+1)).2.2.2 x (by omega) hx y hy S
end Go.Av
namespace Go.Av
open Go
abbrev b0f:LU:=[97,108,108]
abbrev b69:LU:=[97,110,100]
abbrev was:LU:=[97,115]
abbrev c0x:LU:=[97,115,99]
abbrev bbs:LU:=[98,101,116,119,101,101,110]
abbrev wby:LU:=[98,121]
abbrev cs3:LU:=[99,97,115,101]
abbrev bgs:LU:=[99,114,111,115,115]
abbrev cbg:LU:=[100,101,115,99]
abbrev zx:LU:=[100,105,115,116,105,110,99,116]
abbrev cdz:LU:=[101,108,115,101]
abbrev cz8:LU:=[101,110,100]
abbrev bks:LU:=[101,120,99,101,112,116]
abbrev b0p:LU:=[101,120,105,115,116,115]
abbrev b4g:LU:=[102,97,108,115,101]
abbrev btm:LU:=[102,114,111,109]
abbrev ddt:LU:=[102,117,108,108]
abbrev bg6:LU:=[103,114,111,117,112]
abbrev bb8:LU:=[104,97,118,105,110,103]
abbrev win:LU:=[105,110]
abbrev bmr:LU:=[105,110,110,101,114]
abbrev bg5:LU:=[105,110,116,101,114,115,101,99,116]
abbrev wis:LU:=[105,115]
abbrev bcz:LU:=[106,111,105,110]
abbrev dds:LU:=[108,101,102,116]
abbrev bpm:LU:=[108,105,109,105,116]
abbrev bpk:LU:=[110,111,116]
abbrev b0m:LU:=[110,117,108,108]
abbrev bfc:LU:=[111,102,102,115,101,116]
abbrev won:LU:=[111,110]
abbrev wor:LU:=[111,114]
abbrev bmq:LU:=[111,114,100,101,114]
abbrev bc3:LU:=[111,117,116,101,114]
abbrev cpx:LU:=[114,105,103,104,116]
abbrev bft:LU:=[115,101,108,101,99,116]
abbrev b3g:LU:=[116,104,101,110]
abbrev bxf:LU:=[116,114,117,101]
abbrev btt:LU:=[117,110,105,111,110]
abbrev bgj:LU:=[118,97,108,117,101,115]
abbrev bp8:LU:=[119,104,101,110]
abbrev bq9:LU:=[119,104,101,114,101]
abbrev bh6:LU:=[40]
abbrev brp:LU:=[41]
abbrev bd7:LU:=[44]
abbrev b65:LU:=[46]
abbrev bcx:LU:=[42]
abbrev b4d:LU:=[43]
abbrev bd6:LU:=[45]
abbrev b4h:LU:=[124,124]
abbrev brm:LU:=[47]
abbrev bhc:LU:=[37]
abbrev weq:LU:=[61]
abbrev wne:LU:=[60,62]
abbrev wlt:LU:=[60]
abbrev wle:LU:=[60,61]
abbrev wgt:LU:=[62]
abbrev wge:LU:=[62,61]
abbrev b3h:LU:=[59]
abbrev Rdr(α:Type):=Int→LT→Option (α×LT)
def pk:LT→LU
 | []=>[]
 | x::_=>if x.k=1∨x.k=5 then x.t else []
def xm:LV→LT→Option (LT)
 | [],L=>some L
 | w::ws,L=>if pk L=w then xm ws (L.drop 1) else none
def isG(w:LU)(L:LT):Bool×LT:=if pk L=w then(true,L.drop 1) else(false,L)
def bbr(k:Int):LT→Bool
 | []=>false
 | x::_=>x.k==k
def bcc(k:Int):LT→Option (LU×LT)
 | []=>none
 | x::r=>if x.k=k then some (x.t,r) else none
def b7p(t:LU):Int:=match Lib.atoiAll t with
 | .ok v=>v
 | _=>0
def cd8(t:LU):LU:=und (dgv t)
def bs4(L:LT):Option (Int×LT):=(bcc 3 L).bind fun x=>if 20000<b7p x.1 then none else some (b7p x.1,x.2)
def bbj{α:Type}(p:Rdr α):Rdr α:=fun d L=>if 24<d+1 then none else p (d+1) L
def bbz{α:Type}(p:Rdr α):Rdr α:=fun d L=>(xm [bh6] L).bind fun L1=>(bbj p d L1).bind fun x=>(xm [brp] x.2).bind fun L3=>some (x.1,L3)
def bbm{α:Type}(p:Rdr α)(d:Int):Nat→List α→LT→Option (List α×LT)
 | 0,_,_=>none
 | f+1,acc,L=>if pk L=bd7 then(p d (L.drop 1)).bind fun x=>bbm p d f (acc++[x.1]) x.2 else some (acc,L)
def bbc{α:Type}(p:Rdr α):Rdr (List α):=fun d L=>(p d L).bind fun x=>(bbm p d (x.2.length+1) [x.1] x.2).bind fun y=>if 16<y.1.length then none else some y
def bhb(w:LU)(a b:Nd):Nd:=.mk 11 w 0 false false [a,b] []
theorem rZc:type_of% (And.intro @Nd.av.eq_1 (And.intro @Qr.av.eq_1 (And.intro @Bd.av.eq_1 (And.intro @Bd.cells.eq_1 (And.intro @Sr.av.eq_1 (And.intro @It.av.eq_1 (And.intro @Ky.av.eq_1 (And.intro @bhb.eq_1 (And.intro @xd.eq_1 (And.intro @xd.eq_2 (And.intro @zb.eq_1 (And.intro @zb.eq_2 (And.intro @bbg.eq_1 (And.intro @bbg.eq_2 (And.intro @zt.eq_1 (And.intro @zt.eq_2 (And.intro @zr.eq_1 @zr.eq_2))))))))))))))))):=And.intro @Nd.av.eq_1 (And.intro @Qr.av.eq_1 (And.intro @Bd.av.eq_1 (And.intro @Bd.cells.eq_1 (And.intro @Sr.av.eq_1 (And.intro @It.av.eq_1 (And.intro @Ky.av.eq_1 (And.intro @bhb.eq_1 (And.intro @xd.eq_1 (And.intro @xd.eq_2 (And.intro @zb.eq_1 (And.intro @zb.eq_2 (And.intro @bbg.eq_1 (And.intro @bbg.eq_2 (And.intro @zt.eq_1 (And.intro @zt.eq_2 (And.intro @zr.eq_1 @zr.eq_2))))))))))))))))
def bdz(p:Rdr Nd)(ws:LV)(d:Int):Nat→Nd→LT→Option (Nd×LT)
 | 0,_,_=>none
 | f+1,a,L=>if pk L∈ws then(p d (L.drop 1)).bind fun x=>bdz p ws d f (bhb (pk L) a x.1) x.2 else some (a,L)
def bxt(p:Rdr Nd)(ws:LV):Rdr Nd:=fun d L=>(p d L).bind fun x=>bdz p ws d (x.2.length+1) x.1 x.2
structure Rd where
 query:Rdr Qr
 expr:Rdr Nd
 neg:Rdr Nd
 sign:Rdr Nd
variable(R:Rd)
def bt2(L:LT):Bool:=decide (pk L=bh6)&&(decide (pk (L.drop 1)=bft)||decide (pk (L.drop 1)=bgj))
def bx2:Rdr Nd:=fun d L=>if bt2 L=true then(bbz R.query d L).bind fun x=>some (.mk 19 [] 0 false false [] [x.1],x.2)
 else(bbz (bbc R.expr) d L).bind fun x=>match x.1 with
  | [a]=>some (a,x.2)
  | l=>some (.mk 20 [] 0 false false l [],x.2)
def bcf(d:Int):Nat→List Nd→LT→Option (List Nd×LT)
 | 0,_,_=>none
 | f+1,acc,L=>(xm [bp8] L).bind fun L1=>(R.expr d L1).bind fun x=>(xm [b3g] x.2).bind fun L2=>(R.expr d L2).bind fun y=>
  if pk y.2=bp8 then bcf d f (acc++[x.1,y.1]) y.2 else some (acc++[x.1,y.1],y.2)
def bm0:Rdr Nd:=fun d L=>(bcf R d (L.length+1) [] L).bind fun x=>
 if pk x.2=cdz then(R.expr d (x.2.drop 1)).bind fun y=>(xm [cz8] y.2).bind fun L2=>some (.mk 18 [] 0 false false (x.1++[y.1]) [],L2)
 else(xm [cz8] x.2).bind fun L2=>some (.mk 18 [] 0 false false x.1 [],L2)
def chk:Rdr (Bool×List Nd):=fun d L=>(bbc R.expr d (isG zx L).2).bind fun x=>some (((isG zx L).1,x.1),x.2)
def bx6(t:LU):Rdr Nd:=fun d r=>
 if pk r=b65 then(bcc 2 (r.drop 1)).bind fun x=>some (.mk 7 (t++b65++x.1) 0 false false [] [],x.2)
 else if pk r≠bh6 then some (.mk 6 t 0 false false [] [],r)
 else if pk (r.drop 1)=bcx then(xm [bh6,bcx,brp] r).bind fun L=>some (.mk 9 t 0 false false [] [],L)
 else(bbz (chk R) d r).bind fun x=>some (.mk 8 t 0 false x.1.1 x.1.2 [],x.2)
def b5d:Rdr Nd:=fun d L=>
 if pk L=bxf then some (.mk 3 [] 0 false false [] [],L.drop 1)
 else if pk L=b4g then some (.mk 4 [] 0 false false [] [],L.drop 1)
 else if pk L=b0m then some (.mk 5 [] 0 false false [] [],L.drop 1)
 else if pk L=b0p then(bbz R.query d (L.drop 1)).bind fun x=>some (.mk 17 [] 0 false false [] [x.1],x.2)
 else if pk L=cs3 then bbj (bm0 R) d (L.drop 1)
 else if pk L=bh6 then bx2 R d L
 else match L with
  | []=>none
  | x::r=>if x.k=3 then some (.mk 1 [] (b7p x.t) false false [] [],r) else if x.k=4 then some (.mk 2 (cd8 x.t) 0 false false [] [],r)
    else if x.k=2 then bx6 R x.t d r else none
def cb0:Rdr Nd:=fun d L=>if pk L=bd6 then(bbj R.sign d (L.drop 1)).bind fun x=>some (.mk 10 bd6 0 false false [x.1] [],x.2) else b5d R d L
def cj6:Rdr Nd:=bxt (cb0 R) [bcx,brm,bhc]
def b3t:Rdr Nd:=bxt (cj6 R) [b4d,bd6,b4h]
def b7c:Rdr Nd:=fun d L=>(b3t R d L).bind fun x=>
 if pk x.2∈[weq,wne,wlt,wle,wgt,wge] then(b3t R d (x.2.drop 1)).bind fun y=>some (bhb (pk x.2) x.1 y.1,y.2)
 else if pk x.2=wis then
  let n:=isG bpk (x.2.drop 1)
  if pk n.2=b0m then some (.mk 12 [] 0 n.1 false [x.1] [],n.2.drop 1)
  else if pk n.2=bxf then some (.mk 13 [] 0 n.1 false [x.1] [],n.2.drop 1)
  else(xm [zx,btm] n.2).bind fun L2=>(b3t R d L2).bind fun y=>some (.mk 14 [] 0 n.1 false [x.1,y.1] [],y.2)
 else
  let no:=decide (pk x.2=bpk)&&(decide (pk (x.2.drop 1)=win)||decide (pk (x.2.drop 1)=bbs))
  let L2:=if no=true then x.2.drop 1 else x.2
  if pk L2=bbs then(b3t R d (L2.drop 1)).bind fun y=>(xm [b69] y.2).bind fun L3=>(b3t R d L3).bind fun z=>some (.mk 16 [] 0 no false [x.1,y.1,z.1] [],z.2)
  else if pk L2=win then
   if bt2 (L2.drop 1)=true then(bbz R.query d (L2.drop 1)).bind fun y=>some (.mk 15 [] 0 no false [x.1] [y.1],y.2)
   else(bbz (bbc R.expr) d (L2.drop 1)).bind fun y=>some (.mk 15 [] 0 no false (x.1::y.1) [],y.2)
  else some (x.1,x.2)
def dgt:Rdr Nd:=fun d L=>if pk L=bpk then(bbj R.neg d (L.drop 1)).bind fun x=>some (.mk 10 bpk 0 false false [x.1] [],x.2) else b7c R d L
def cmx:Rdr Nd:=bxt (dgt R) [b69]
def c9f:Rdr Nd:=bxt (cmx R) [wor]
def bf2(L:LT):Option (LU×LT):=if pk L=was then bcc 2 (L.drop 1) else if bbr 2 L=true then bcc 2 L else some ([],L)
def bkc:Rdr It:=fun d L=>
 if pk L=bcx then some (.mk true [] [] [],L.drop 1)
 else match L with
  | x::y::z::r=>if x.k=2∧pk (y::z::r)=b65∧z.t=bcx∧z.k=5 then some (.mk true x.t [] [],r)
    else(R.expr d L).bind fun e=>(bf2 e.2).bind fun a=>some (.mk false [] [e.1] a.1,a.2)
  | _=>(R.expr d L).bind fun e=>(bf2 e.2).bind fun a=>some (.mk false [] [e.1] a.1,a.2)
def bc5:Rdr Sr:=fun d L=>
 if pk L=bh6 then(bbz R.query d L).bind fun x=>(bcc 2 (isG was x.2).2).bind fun a=>some (.mk 2 [] a.1 [x.1] [] [],a.2)
 else(bcc 2 L).bind fun x=>(bf2 x.2).bind fun a=>some (.mk 1 x.1 a.1 [] [] [],a.2)
def bdt(w:LU):Int:=if w=bcz∨w=bmr then 4 else if w=dds then 5 else if w=cpx then 6 else if w=ddt then 7 else 0
def bbq(d:Int):Nat→Sr→LT→Option (Sr×LT)
 | 0,_,_=>none
 | f+1,s,L=>
  if pk L=bgs then(xm [bgs,bcz] L).bind fun L1=>(bc5 R d L1).bind fun x=>bbq d f (.mk 3 [] [] [] [s,x.1] []) x.2
  else if bdt (pk L)=0 then some (s,L)
  else
   let L1:=if pk L=bcz then L else if pk L=bmr then L.drop 1 else(isG bc3 (L.drop 1)).2
   (xm [bcz] L1).bind fun L2=>(bc5 R d L2).bind fun x=>(xm [won] x.2).bind fun L3=>(R.expr d L3).bind fun e=>
    bbq d f (.mk (bdt (pk L)) [] [] [] [s,x.1] [e.1]) e.2
def bgk:Rdr Sr:=fun d L=>(bc5 R d L).bind fun x=>bbq R d (x.2.length+1) x.1 x.2
def cdv:Rdr Ky:=fun d L=>(if bbr 3 L=true then(bs4 L).bind fun x=>if x.1=0 then none else some (([],x.1),x.2) else(bcc 2 L).bind fun x=>some ((x.1,0),x.2)).bind fun x=>
 if pk x.2=cbg then some (⟨x.1.1,x.1.2,true⟩,x.2.drop 1) else some (⟨x.1.1,x.1.2,false⟩,(isG c0x x.2).2)
def bj0{α:Type}(w:LU)(p:Rdr α)(z:α):Rdr α:=fun d L=>if pk L=w then p d (L.drop 1) else some (z,L)
def one(p:Rdr Nd):Rdr (List Nd):=fun d L=>(p d L).bind fun x=>some ([x.1],x.2)
def byG{α:Type}(p:Rdr α):Rdr α:=fun d L=>(xm [wby] L).bind fun L1=>p d L1
def bjk:Rdr Bd:=fun d L=>(xm [bft] L).bind fun L0=>(bbc (bkc R) d (isG zx L0).2).bind fun i=>(bj0 btm (bbc (bgk R)) [] d i.2).bind fun s=>
 (bj0 bq9 (one R.expr) [] d s.2).bind fun w=>(bj0 bg6 (byG (bbc R.expr)) [] d w.2).bind fun g=>(bj0 bb8 (one R.expr) [] d g.2).bind fun h=>
  some (.mk 1 false (isG zx L0).1 i.1 s.1 w.1 g.1 h.1 [] [],h.2)
def bjz:Rdr Bd:=fun d L=>
 if pk L=bgj then(bbc (bbz (bbc R.expr)) d (L.drop 1)).bind fun x=>some (.mk 2 false false [] [] [] [] [] x.1 [],x.2)
 else if pk L=bh6 then(bbz R.query d L).bind fun x=>some (.mk 6 false false [] [] [] [] [] [] [x.1],x.2)
 else bjk R d L
def bj2(b:Bd):Qr:=.mk b [] (-1) (-1)
def b7k(w:LU):Int:=if w=btt then 3 else if w=bks then 4 else 5
def bg1(p:Rdr Bd)(ws:LV)(d:Int):Nat→Bd→LT→Option (Bd×LT)
 | 0,_,_=>none
 | f+1,a,L=>if pk L∈ws then(p d (isG b0f (L.drop 1)).2).bind fun x=>bg1 p ws d f (.mk (b7k (pk L)) (isG b0f (L.drop 1)).1 false [] [] [] [] [] [] [bj2 a,bj2 x.1]) x.2 else some (a,L)
def cb1(p:Rdr Bd)(ws:LV):Rdr Bd:=fun d L=>(p d L).bind fun x=>bg1 p ws d (x.2.length+1) x.1 x.2
def b3m:Rdr Bd:=cb1 (bjz R) [bg5]
def b6f:Rdr Bd:=cb1 (b3m R) [btt,bks]
def b2p:Rdr Qr:=fun d L=>(b6f R d L).bind fun b=>(bj0 bmq (byG (bbc cdv)) [] d b.2).bind fun k=>(bj0 bpm (fun _=>bs4) (-1) d k.2).bind fun l=>(bj0 bfc (fun _=>bs4) (-1) d l.2).bind fun f=>
 some (.mk b.1 k.1 l.1 f.1,f.2)
def dfd:Rd:=⟨b2p R,c9f R,dgt R,cb0 R⟩
def rdG:Nat→Rd
 | 0=>⟨fun _ _=>none,fun _ _=>none,fun _ _=>none,fun _ _=>none⟩
 | n+1=>dfd (rdG n)
def b49(L:LT):Option Qr:=((rdG (L.length+1)).query 0 L).bind fun x=>if(isG b3h x.2).2=[] then some x.1 else none
theorem xp(L:LT):L.drop 1<:+L:=List.drop_suffix _ _
theorem bb5(w:LU)(L:LT):(isG w L).2<:+L:=by
 unfold isG;split
 ·exact xp L
 ·exact br L
theorem xj:∀{ws:LV} {L M:LT},xm ws L=some M→M<:+L
 | [],L,M,h=>by obtain rfl:L=M:=by simpa[xm] using h
                exact br L
 | w::ws,L,M,h=>by
  unfold xm at h;split at h
  ·exact(xj h).trans (xp L)
  ·cases h
theorem cfd{k:Int}{L:LT}{x:LU×LT}(h:bcc k L=some x):x.2<:+L:=by
 cases L with
 | nil=>cases h
 | cons a r=>
  simp only[bcc]at h;split at h
  ·obtain rfl:=bf h;exact fq a r
  ·cases h
def Sx{α:Type}(L:LT)(o:Option (α×LT)):Prop:=∀x,o=some x→x.2<:+L
theorem Sx.some{α:Type}{L:LT}{x:α×LT}(h:x.2<:+L):Sx L (some x):=fun y e=>by obtain rfl:=bf e;exact h
theorem Sx.none{α:Type}{L:LT}:Sx L (none:Option (α×LT)):=fun y e=>by cases e
theorem Sx.bind{α β:Type}{L:LT}{o:Option (α×LT)}{f:α×LT→Option (β×LT)}(h:Sx L o)(hf:∀x,x.2<:+L→Sx L (f x)):Sx L (o.bind f):=fun y e=>by
 cases o with
 | none=>cases e
 | some x=>exact hf x (h x rfl) y e
theorem Sx.must{β:Type}{L L0:LT}{ws:LV}{f:LT→Option (β×LT)}(h:L0<:+L)(hf:∀M,M<:+L→Sx L (f M)):Sx L ((xm ws L0).bind f):=fun y e=>by
 cases hm:xm ws L0 with
 | none=>rw[hm]at e;cases e
 | some M=>rw[hm]at e;exact hf M ((xj hm).trans h) y e
theorem Sx.ite{α:Type}{L:LT}{c:Prop}[Decidable c]{a b:Option (α×LT)}(ha:Sx L a)(hb:Sx L b):Sx L (if c then a else b):=by split;exact ha;exact hb
theorem Sx.take{L L0:LT}{k:Int}(h:L0<:+L):Sx L (bcc k L0):=fun x e=>(cfd e).trans h
def Sfx{α:Type}(p:Rdr α):Prop:=∀d L L0,L<:+L0→Sx L0 (p d L)
theorem Sfx.deeper{α:Type}{p:Rdr α}(h:Sfx p):Sfx (bbj p):=fun d L L0 hs=>Sx.ite Sx.none (h _ _ _ hs)
theorem Sfx.inPar{α:Type}{p:Rdr α}(h:Sfx p):Sfx (bbz p):=fun d L L0 hs=>Sx.must hs fun M hM=>Sx.bind (h.deeper d M L0 hM) fun x hx=>Sx.must hx fun N hN=>Sx.some hN
theorem b2s{α:Type}{p:Rdr α}(h:Sfx p)(d:Int)(L0:LT):∀(f:Nat) (acc:List α) (L:LT),L<:+L0→Sx L0 (bbm p d f acc L)
 | 0,acc,L,hs=>Sx.none
 | f+1,acc,L,hs=>Sx.ite (Sx.bind (h d _ L0 ((xp L).trans hs)) fun x hx=>b2s h d L0 f _ _ hx) (Sx.some hs)
theorem Sfx.list{α:Type}{p:Rdr α}(h:Sfx p):Sfx (bbc p):=fun d L L0 hs=>Sx.bind (h d L L0 hs) fun x hx=>Sx.bind (b2s h d L0 _ _ _ hx) fun y hy=>Sx.ite Sx.none (Sx.some hy)
theorem b48{p:Rdr Nd}(h:Sfx p)(ws:LV)(d:Int)(L0:LT):∀(f:Nat) (a:Nd) (L:LT),L<:+L0→Sx L0 (bdz p ws d f a L)
 | 0,a,L,hs=>Sx.none
 | f+1,a,L,hs=>Sx.ite (Sx.bind (h d _ L0 ((xp L).trans hs)) fun x hx=>b48 h ws d L0 f _ _ hx) (Sx.some hs)
theorem Sfx.row{p:Rdr Nd}(h:Sfx p)(ws:LV):Sfx (bxt p ws):=fun d L L0 hs=>Sx.bind (h d L L0 hs) fun x hx=>b48 h ws d L0 _ _ _ hx
structure Rd.Sfx(R:Rd):Prop where
 query:Go.Av.Sfx R.query
 expr:Go.Av.Sfx R.expr
 neg:Go.Av.Sfx R.neg
 sign:Go.Av.Sfx R.sign
variable{R:Rd}(hR:R.Sfx)
include hR
theorem cvh:Sfx (bx2 R):=fun d L L0 hs=>Sx.ite (Sx.bind (hR.query.inPar d L L0 hs) fun x hx=>Sx.some hx) (Sx.bind (hR.expr.list.inPar d L L0 hs) fun x hx=>by
 split
 ·exact Sx.some hx
 ·exact Sx.some hx)
theorem bkh(d:Int)(L0:LT):∀(f:Nat) (acc:List Nd) (L:LT),L<:+L0→Sx L0 (bcf R d f acc L)
 | 0,acc,L,hs=>Sx.none
 | f+1,acc,L,hs=>Sx.must hs fun M hM=>Sx.bind (hR.expr d M L0 hM) fun x hx=>Sx.must hx fun N hN=>Sx.bind (hR.expr d N L0 hN) fun y hy=>Sx.ite (bkh d L0 f _ _ hy) (Sx.some hy)
theorem czz:Sfx (bm0 R):=fun d L L0 hs=>Sx.bind (bkh hR d L0 _ _ _ hs) fun x hx=>Sx.ite (Sx.bind (hR.expr d _ L0 ((xp _).trans hx)) fun y hy=>Sx.must hy fun N hN=>Sx.some hN) (Sx.must hx fun N hN=>Sx.some hN)
theorem dbr:Sfx (chk R):=fun d L L0 hs=>Sx.bind (hR.expr.list d _ L0 ((bb5 _ _).trans hs)) fun x hx=>Sx.some hx
theorem cvv(t:LU):Sfx (bx6 R t):=fun d L L0 hs=>Sx.ite (Sx.bind (Sx.take ((xp _).trans hs)) fun x hx=>Sx.some hx) (Sx.ite (Sx.some hs) (Sx.ite (Sx.must hs fun N hN=>Sx.some hN) (Sx.bind ((dbr hR).inPar d L L0 hs) fun x hx=>Sx.some hx)))
theorem c4f:Sfx (b5d R):=fun d L L0 hs=>by
 have hd:L.drop 1<:+L0:=(xp L).trans hs;unfold b5d;refine Sx.ite (Sx.some hd) (Sx.ite (Sx.some hd) (Sx.ite (Sx.some hd) (Sx.ite (Sx.bind (hR.query.inPar d _ L0 hd) fun x hx=>Sx.some hx) (Sx.ite ((czz hR).deeper d _ L0 hd) (Sx.ite (cvh hR d L L0 hs) ?_)))));split
 ·exact Sx.none
 ·rename_i x r;have hr:r<:+L0:=(fq x r).trans hs;exact Sx.ite (Sx.some hr) (Sx.ite (Sx.some hr) (Sx.ite (cvv hR _ d r L0 hr) Sx.none))
theorem bxs:Sfx (cb0 R):=fun d L L0 hs=>Sx.ite (Sx.bind (hR.sign.deeper d _ L0 ((xp L).trans hs)) fun x hx=>Sx.some hx) (c4f hR d L L0 hs)
theorem b4s:Sfx (cj6 R):=(bxs hR).row _
theorem bh7:Sfx (b3t R):=(b4s hR).row _
theorem c1z:Sfx (b7c R):=fun d L L0 hs=>Sx.bind (bh7 hR d L L0 hs) fun x hx=>by
 have hd:x.2.drop 1<:+L0:=(xp _).trans hx;have hn:(isG bpk (x.2.drop 1)).2<:+L0:=(bb5 _ _).trans hd;have h2:∀b:Bool,(if b=true then x.2.drop 1 else x.2)<:+L0:=fun b=>by split;exact hd;exact hx
 refine Sx.ite (Sx.bind (bh7 hR d _ L0 hd) fun y hy=>Sx.some hy) (Sx.ite ?_ ?_)
 ·exact Sx.ite (Sx.some ((xp _).trans hn)) (Sx.ite (Sx.some ((xp _).trans hn)) (Sx.must hn fun M hM=>Sx.bind (bh7 hR d _ L0 hM) fun y hy=>Sx.some hy))
 ·exact Sx.ite (Sx.bind (bh7 hR d _ L0 ((xp _).trans (h2 _))) fun y hy=>Sx.must hy fun M hM=>Sx.bind (bh7 hR d _ L0 hM) fun z hz=>Sx.some hz)
   (Sx.ite (Sx.ite (Sx.bind (hR.query.inPar d _ L0 ((xp _).trans (h2 _))) fun y hy=>Sx.some hy) (Sx.bind (hR.expr.list.inPar d _ L0 ((xp _).trans (h2 _))) fun y hy=>Sx.some hy)) (Sx.some hx))
theorem b3x:Sfx (dgt R):=fun d L L0 hs=>Sx.ite (Sx.bind (hR.neg.deeper d _ L0 ((xp L).trans hs)) fun x hx=>Sx.some hx) (c1z hR d L L0 hs)
theorem b6b:Sfx (cmx R):=(b3x hR).row _
theorem c9c:Sfx (c9f R):=(b6b hR).row _
omit hR in
theorem b9t{L L0:LT}(hs:L<:+L0):Sx L0 (bf2 L):=Sx.ite (Sx.take ((xp _).trans hs)) (Sx.ite (Sx.take hs) (Sx.some hs))
theorem bk5:Sfx (bkc R):=fun d L L0 hs=>by
 have he:Sx L0 ((R.expr d L).bind fun e=>(bf2 e.2).bind fun a=>some (It.mk false [] [e.1] a.1,a.2)):=Sx.bind (hR.expr d L L0 hs) fun e he=>Sx.bind (b9t he) fun a ha=>Sx.some ha
 unfold bkc;refine Sx.ite (Sx.some ((xp L).trans hs)) ?_;split
 ·rename_i x y z r;refine Sx.ite (Sx.some ?_) he;exact(((fq z r).trans (fq y _)).trans (fq x _)).trans hs
 ·exact he
theorem bb9:Sfx (bc5 R):=fun d L L0 hs=>Sx.ite (Sx.bind (hR.query.inPar d L L0 hs) fun x hx=>Sx.bind (Sx.take ((bb5 _ _).trans hx)) fun a ha=>Sx.some ha) (Sx.bind (Sx.take hs) fun x hx=>Sx.bind (b9t hx) fun a ha=>Sx.some ha)
theorem bm5(d:Int)(L0:LT):∀(f:Nat) (s:Sr) (L:LT),L<:+L0→Sx L0 (bbq R d f s L)
 | 0,s,L,hs=>Sx.none
 | f+1,s,L,hs=>by
  have hd:L.drop 1<:+L0:=(xp L).trans hs;have h1:(if pk L=bcz then L else if pk L=bmr then L.drop 1 else(isG bc3 (L.drop 1)).2)<:+L0:=by
   split
   ·exact hs
   ·split
    ·exact hd
    ·exact(bb5 _ _).trans hd
  exact Sx.ite (Sx.must hs fun M hM=>Sx.bind (bb9 hR d M L0 hM) fun x hx=>bm5 d L0 f _ _ hx)
   (Sx.ite (Sx.some hs) (Sx.must h1 fun M hM=>Sx.bind (bb9 hR d M L0 hM) fun x hx=>Sx.must hx fun N hN=>Sx.bind (hR.expr d N L0 hN) fun e he=>bm5 d L0 f _ _ he))
theorem bh0:Sfx (bgk R):=fun d L L0 hs=>Sx.bind (bb9 hR d L L0 hs) fun x hx=>bm5 hR d L0 _ _ _ hx
omit hR in
theorem bhm{L L0:LT}(hs:L<:+L0):Sx L0 (bs4 L):=Sx.bind (Sx.take hs) fun x hx=>Sx.ite Sx.none (Sx.some hx)
omit hR in
theorem bzg:Sfx cdv:=fun d L L0 hs=>by
 have h:Sx L0 (if bbr 3 L=true then(bs4 L).bind fun x=>if x.1=0 then none else some ((([]:LU),x.1),x.2) else(bcc 2 L).bind fun x=>some ((x.1,0),x.2)):=
  Sx.ite (Sx.bind (bhm hs) fun x hx=>Sx.ite Sx.none (Sx.some hx)) (Sx.bind (Sx.take hs) fun x hx=>Sx.some hx)
 exact Sx.bind h fun x hx=>Sx.ite (Sx.some ((xp _).trans hx)) (Sx.some ((bb5 _ _).trans hx))
omit hR in
theorem Sfx.opt{α:Type}{p:Rdr α}(h:Sfx p)(w:LU)(z:α):Sfx (bj0 w p z):=fun d L L0 hs=>Sx.ite (h d _ L0 ((xp L).trans hs)) (Sx.some hs)
omit hR in
theorem Sfx.one{p:Rdr Nd}(h:Sfx p):Sfx (one p):=fun d L L0 hs=>Sx.bind (h d L L0 hs) fun x hx=>Sx.some hx
omit hR in
theorem Sfx.by'{α:Type}{p:Rdr α}(h:Sfx p):Sfx (byG p):=fun d L L0 hs=>Sx.must hs fun M hM=>h d M L0 hM
theorem cb2:Sfx (bjk R):=fun d L L0 hs=>Sx.must hs fun M hM=>Sx.bind ((bk5 hR).list d _ L0 ((bb5 _ _).trans hM)) fun i hi=>Sx.bind ((bh0 hR).list.opt btm [] d _ L0 hi) fun s hs=>
 Sx.bind (hR.expr.one.opt bq9 [] d _ L0 hs) fun w hw=>Sx.bind (hR.expr.list.by'.opt bg6 [] d _ L0 hw) fun g hg=>Sx.bind (hR.expr.one.opt bb8 [] d _ L0 hg) fun h hh=>Sx.some hh
theorem bqd:Sfx (bjz R):=fun d L L0 hs=>Sx.ite (Sx.bind (hR.expr.list.inPar.list d _ L0 ((xp L).trans hs)) fun x hx=>Sx.some hx) (Sx.ite (Sx.bind (hR.query.inPar d L L0 hs) fun x hx=>Sx.some hx) (cb2 hR d L L0 hs))
omit hR in
theorem b2k{p:Rdr Bd}(h:Sfx p)(ws:LV)(d:Int)(L0:LT):∀(f:Nat) (a:Bd) (L:LT),L<:+L0→Sx L0 (bg1 p ws d f a L)
 | 0,a,L,hs=>Sx.none
 | f+1,a,L,hs=>Sx.ite (Sx.bind (h d _ L0 ((bb5 _ _).trans ((xp L).trans hs))) fun x hx=>b2k h ws d L0 f _ _ hx) (Sx.some hs)
omit hR in
theorem Sfx.sets{p:Rdr Bd}(h:Sfx p)(ws:LV):Sfx (cb1 p ws):=fun d L L0 hs=>Sx.bind (h d L L0 hs) fun x hx=>b2k h ws d L0 _ _ _ hx
theorem bx1:Sfx (b3m R):=(bqd hR).sets _
theorem b6d:Sfx (b6f R):=(bx1 hR).sets _
theorem ct7:Sfx (b2p R):=fun d L L0 hs=>Sx.bind (b6d hR d L L0 hs) fun b hb=>Sx.bind (bzg.list.by'.opt bmq [] d _ L0 hb) fun k hk=>
 Sx.bind (Sfx.opt (p:=fun _=>bs4) (fun _ _ _ h=>bhm h) bpm (-1) d _ L0 hk) fun l hl=>Sx.bind (Sfx.opt (p:=fun _=>bs4) (fun _ _ _ h=>bhm h) bfc (-1) d _ L0 hl) fun f hf=>Sx.some hf
theorem cfm:(dfd R).Sfx:=⟨ct7 hR,c9c hR,b3x hR,bxs hR⟩
omit hR in
theorem cb6:∀n,(rdG n).Sfx
 | 0=>⟨fun _ _ _ _=>Sx.none,fun _ _ _ _=>Sx.none,fun _ _ _ _=>Sx.none,fun _ _ _ _=>Sx.none⟩
 | n+1=>cfm (cb6 n)
end Go.Av
namespace Go.Av
open Go Go.Proofs
def ck2:Bx:={cells:=[.str wb6,.clos (.func 36) [.ptr 2 0] [],.str cd3,.clos (.func 36) [.ptr 2 0] [],.str wb9,.clos (.func 36) [.ptr 2 0] [],
 .str c0g,.clos (.func 37) [.ptr 2 0] [],.str dc9,.clos (.func 38) [.ptr 2 0] [],.str wb0,.clos (.func 39) [.ptr 2 0] []],map:=true}
def Pst(B0 B1:Bx)(L:LT)(d:Int)(X:LB):LB:=B0::B1::{cells:=[.slice 3 (L.map Tok.av),ii d,.mapp 3]}::ck2::X
theorem hkP(B0 B1:Bx)(L:LT)(d:Int)(X:LB):∀M d' e,xr 0 (Pst B0 B1 L d X) (Pst B0 B1 M d' X) e=some (e,Pst B0 B1 M d' X):=fun M d' e=>xg (by simp[Pst]) e
def fv:AV:=.iface 105 (.agg [])
theorem cm3(a:LU)(b:Array UInt8):bs a=⟨b⟩↔a=b.toList:=by
 constructor
 ·intro h;have:=congrArg (fun s=>s.data.toList) h;simpa[bs] using this
 ·rintro rfl;simp[bs]
theorem c43(a:AV)(S:LB)(ha:a.isDat=true):bbf 43 [a] S=some (.panic fv,S):=by
 refine xh rfl ?_;simp[-getElem?_pos,rZa,a43,fv]
theorem b4p(m:Nat):∀L:LT,zd m (L.map Tok.av)=true
 | []=>rfl
 | x::L=>by simp only[cr,zd,b4p m L,Tok.av];simp[AV.closed,zd]
theorem pleave(B0 B1:Bx)(R R':LA)(d d':Int)(X Z:LB)(e:AEnd)(hR:zd (X.length+4) R'=true)(he:e.closed (X.length+4)=true) :
  xr 0 (B0::B1::{cells:=[.slice 3 R,ii d,.mapp 3]}::ck2::X) (B0::B1::{cells:=[.slice 3 R',ii d',.mapp 3]}::ck2::(X++Z)) e =
   some (e,B0::B1::{cells:=[.slice 3 R',ii d',.mapp 3]}::ck2::X):=by
 unfold xr;by_cases hz:Z.length=0
 ·obtain rfl:=fh.1 hz;rw[if_pos (by simp)];simp
 ·have ht:bq4 (B0::B1::{cells:=[.slice 3 R,ii d,.mapp 3]}::ck2::X) (B0::B1::{cells:=[.slice 3 R',ii d',.mapp 3]}::ck2::(X++Z)) (X.length+4):=by
   intro i x hi hx
   match i,hi,hx with
   | 0,_,hx=>exact .inl hx
   | 1,_,hx=>exact .inl hx
   | 2,_,hx=>
    obtain rfl:_=x:=by simpa using hx
    right;simp[zd,AV.closed,hR]
   | 3,_,hx=>exact .inl hx
   | i+4,hi,hx=>
    left;simp at hi hx ⊢
    rwa [dk (by omega)]at hx
  have e1:(B0::B1::{cells:=[.slice 3 R,ii d,.mapp 3]}::ck2::X).length+0=X.length+4:=by simp
  rw[if_neg (by simp;omega),e1,if_pos ⟨ht,he⟩];simp
theorem lf2{p:Prop}(h:p:=by simp[-getElem?_pos,rZa,a68,pk, *]):p:=h
theorem c68'(S:LB)(i:Nat)(L:LT)(a b:AV)(hS:S[i]? = some {cells:=[.slice 3 (L.map Tok.av),a,b]}):rH 68 [.ptr i 0] S (.str (bs (pk L))) S:=by
 refine xh rfl ?_;cases L with
 | nil=>simp[-getElem?_pos,rZa,a68,pk,bs,hS]
 | cons x r=>
  obtain⟨k,t,p⟩:=x;simp only[cr,Tok.av]at hS;generalize hr:List.map Tok.av r=R at *;have hn:¬ ((R.length:Int)+1=0):=by omega
  by_cases h1:k=1
  ·subst h1;exact lf2
  ·by_cases h5:k=5
   ·subst h5;exact lf2
   ·simp[-getElem?_pos,mp,vg,a68,pk,hS,hn,h1,h5];simp[bs]
theorem c68(B0 B1:Bx)(L:LT)(d:Int)(X:LB):rH 68 [.ptr 2 0] (Pst B0 B1 L d X) (.str (bs (pk L))) (Pst B0 B1 L d X):=
 c68' _ _ L (ii d) (.mapp 3) rfl
theorem dj8(B0 B1:Bx)(L:LT)(d:Int)(X:LB):rH 132 [.ptr 2 0] (Pst B0 B1 L d X) (.str (bs (pk (L.drop 1)))) (Pst B0 B1 L d X):=by
 refine xh rfl ?_
 match L with
 | []=>simp[-getElem?_pos,rZa,a132,Pst,pk,bs]
 | [x]=>simp[-getElem?_pos,rZa,a132,Pst,pk,bs]
 | x::y::r=>
  have q:=c68' (Pst B0 B1 (x::y::r) d (X++[{cells:=[.slice 3 ((y::r).map Tok.av),ii 0,.nilmap]}])) (X.length+4) (y::r) (ii 0) .nilmap (by simp[Pst]);have h:bq4 (Pst B0 B1 (x::y::r) d X) (Pst B0 B1 (x::y::r) d (X++[{cells:=[.slice 3 ((y::r).map Tok.av),ii 0,.nilmap]}])) (X.length+4):=fun i b hi hb=>.inl (by
   have e:Pst B0 B1 (x::y::r) d (X++[{cells:=[.slice 3 ((y::r).map Tok.av),ii 0,.nilmap]}])=Pst B0 B1 (x::y::r) d X++[{cells:=[.slice 3 ((y::r).map Tok.av),ii 0,.nilmap]}]:=by simp[Pst]
   rw[e,dk (by simp[Pst];omega)]at hb;exact hb)
  simp only[jf,dj];generalize pk (y::r)=w at *;generalize hr:List.map Tok.av r=R at *;simp only[Pst,cr,hr,dv]at q h ⊢;have hn:¬ ((R.length:Int)+1+1<2):=by omega
  have hge:(1:Int)≤(R.length:Int)+1+1:=by omega
  have ht:(List.take ((R.length:Int)+1+1).toNat (x.av::y.av::R)).tail=y.av::R:=by
   have e:((R.length:Int)+1+1).toNat=R.length+2:=by omega
   rw[e];simp
  rw[show X.length+4=X.length+1+1+1+1 from rfl]at q h;simp[-getElem?_pos,rZa,a132,hn,hge,ht,q,xr];rw[if_neg (by omega),if_pos ⟨h,by simp[AEnd.closed,AV.closed]⟩]
theorem cjt(B0 B1:Bx)(L:LT)(d:Int)(X:LB)(k:Int):rH 136 [.ptr 2 0,ii k] (Pst B0 B1 L d X) (.bool (bbr k L)) (Pst B0 B1 L d X):=by
 refine xh rfl ?_;cases L with
 | nil=>simp[-getElem?_pos,rZa,a136,Pst,bbr]
 | cons x r=>
  obtain⟨kx,t,p⟩:=x;generalize hr:List.map Tok.av r=R at *;have hn:(0:Int)<(R.length:Int)+1:=by omega
  by_cases h:kx=k<;>simp[-getElem?_pos,rZa,a136,Pst,bbr,Tok.av,hr,hn,h]
def vz(B0 B1:Bx)(f:Nat)(args:LA)(own:Option Nat)(L:LT)(d:Int)(X:LB)(o:Option (AV×LT)):Prop:=match o with
 | some (v,M)=>bbf f args (Pst B0 B1 L d X)=some (.ret v own,Pst B0 B1 M d X)
 | none=>∃M d',bbf f args (Pst B0 B1 L d X)=some (.panic fv,Pst B0 B1 M d' X)
theorem lf3{p:Prop}(h:p:=by simp[-getElem?_pos,rZa,a137, *]):p:=h
theorem b9m(B0 B1:Bx)(L:LT)(d:Int)(X:LB)(k:Int):vz B0 B1 137 [.ptr 2 0,ii k] none L d X ((bcc k L).map fun x=>(.str (bs x.1),x.2)):=by
 have q:=c43 (.ptr 2 0) (Pst B0 B1 L d X) rfl;cases L with
 | nil=>
  refine⟨[],d,xh rfl ?_⟩;simp only[Pst,cg]at *;exact lf3
 | cons x r=>
  obtain⟨kx,t,p⟩:=x;generalize hr:List.map Tok.av r=R at *;have hn:¬ ((R.length:Int)+1=0):=by omega
  by_cases h:kx=k
  ·simp only[bcc,if_pos h,bc,vz];refine xh rfl ?_;simp only[Pst,cr,hr,Tok.av]at *;simp[-getElem?_pos,rZa,a137,hn,h,hr,xr];omega
  ·simp only[bcc,if_neg h,bm,vz];refine⟨⟨kx,t,p⟩::r,d,xh rfl ?_⟩;simp only[Pst,cr,hr,Tok.av]at *;exact lf3
end Go.Av
namespace Go.Av
open Go Go.Proofs
def bgg(ws:LV):LA:=ws.map fun w=>.str (bs w)
theorem bm7{L:LT}{w:LU}(h:pk L=w)(hw:w≠[]):∃x r,L=x::r:=by
 cases L with
 | nil=>exact absurd h.symm hw
 | cons x r=>exact⟨x,r,rfl⟩
theorem dmv(a b:LU):bs a=bs b↔a=b:=⟨chs,fun h=>by rw[h]⟩
theorem bd8{o:Option (AEx×St)}{v:AV}{P:LB}(h:o.map (fun p=>(p.1,p.2.S))=some (.panic v,P)):∃s,o=some (.panic v,s)∧s.S=P:=by
 cases o with
 | none=>cases h
 | some p=>
  obtain⟨x,s⟩:=p;simp at h;exact⟨s,by rw[h.1],h.2⟩
def dff(B0 B1:Bx)(ws:LA)(d:Int)(X:LB)(L:LT)(i:Nat):St:={σ:=[(0,.v (.ptr 2 0)),(6,.v (.slice 1 ws)),(7,.v (ii (ws.length:Int))),(8,.v (ii (i:Int)))],own:=[],loc:=[],S:=Pst B0 B1 L d X}
theorem c5r(B0 B1:Bx)(ws:LV)(hl:ws.length≤1000)(d:Int)(X:LB)(L:LT)(i:Nat)(w:LU)(hi:ws[i]? = some w)(hw:w≠[]) :
  (pk L=w→xf bbf b3b (dff B0 B1 (bgg ws) d X L i)=some (.normal,dff B0 B1 (bgg ws) d X (L.drop 1) (i+1))) ∧
  (pk L≠w→∃s,xf bbf b3b (dff B0 B1 (bgg ws) d X L i)=some (.panic fv,s)∧s.S=Pst B0 B1 L d X):=by
 have h1:i<ws.length:=(cf.1 hi).1;have h1':(i:Int)<(ws.length:Int):=by omega
 have g:(bgg ws)[i]? = some (.str (bs w)):=by unfold bgg;rw[d4,hi];rfl
 have hlen:(bgg ws).length=ws.length:=by simp[bgg]
 have wr:=bp7 (n:=i) (by omega);have q:=c68 B0 B1 L d X;have qf:=c43 (.ptr 2 0) (Pst B0 B1 L d X) rfl;constructor
 ·intro h;obtain⟨x,r,rfl⟩:=bm7 h hw;rw[h]at q;simp only[jf,dj];generalize bgg ws=W at *;simp only[Pst,cr]at *;generalize hr:List.map Tok.av r=R at *;have hge:(1:Int)≤(R.length:Int)+1:=by omega
  have ht:(List.take ((R.length:Int)+1).toNat (x.av::R)).tail=R:=by
   have e:((R.length:Int)+1).toNat=R.length+1:=by omega
   rw[e];simp
  rw[xb];simp[-getElem?_pos,rZa,b3b,dff,Pst,hlen,h1,h1',g,q,wr,hge,ht,hr]
 ·intro h;have h':¬ bs (pk L)=bs w:=fun e=>h (chs e)
  refine bd8 ?_;rw[xb];generalize bgg ws=W at *;generalize hP:Pst B0 B1 L d X=P at *;simp[-getElem?_pos,rZa,b3b,dff,hP,hlen,h1,h1',g,q,qf,h,h',dmv,zm]
theorem c5s(B0 B1:Bx)(ws:LV)(hl:ws.length≤1000)(hw:∀w∈ws,w≠[])(d:Int)(X:LB):∀(n i:Nat) (L:LT),ws.length - i=n→i≤ws.length →
  match xm (ws.drop i) L with
  | some M=>zc (xf bbf b3b) (dff B0 B1 (bgg ws) d X L i)=some (.exit 0,{σ:=[],own:=[],loc:=[],S:=Pst B0 B1 M d X})
  | none=>∃s M,zc (xf bbf b3b) (dff B0 B1 (bgg ws) d X L i)=some (.panic fv,s)∧s.S=Pst B0 B1 M d X:=by
 intro n
 induction n with
 | zero=>
  intro i L hn hi;obtain rfl:i=ws.length:=by omega
  rw[mh];simp only[xm];have hlen:(bgg ws).length=ws.length:=by simp[bgg]
  refine xc (r:=(.exit 0,{σ:=[],own:=[],loc:=[],S:=Pst B0 B1 L d X})) ?_ (by simp);rw[xb];generalize bgg ws=W at *;generalize hP:Pst B0 B1 L d X=P at *;simp[-getElem?_pos,rZa,b3b,dff,hP,hlen]
 | succ n ih=>
  intro i L hn hi;have hlt:i<ws.length:=by omega
  have hg:ws[i]? = some ws[i]:=cz hlt;obtain⟨s1,s2⟩:=c5r B0 B1 ws hl d X L i ws[i] hg (hw _ (List.getElem_mem hlt));rw[mf hlt];simp only[xm];by_cases h:pk L=ws[i]
  ·rw[if_pos h];have:=ih (i+1) (L.drop 1) (by omega) (by omega);rw[xq (s1 h)];exact this
  ·rw[if_neg h];obtain⟨s,e,es⟩:=s2 h;exact⟨s,L,xc e (by simp),es⟩
theorem lf4{p:Prop}(h:p:=by simp[-getElem?_pos,rZa,a69, *]):p:=h
theorem c69(B0 B1:Bx)(ws:LV)(hl:ws.length≤1000)(hw:∀w∈ws,w≠[])(L:LT)(d:Int)(X:LB) :
  vz B0 B1 69 [.ptr 2 0,.slice 1 (bgg ws)] none L d X ((xm ws L).map fun M=>(.tuple [],M)):=by
 have h:=c5s B0 B1 ws hl hw d X ws.length 0 L (by omega) (by omega);rw[dj]at h;have hlen:(bgg ws).length=ws.length:=by simp[bgg]
 simp only[dff,hlen,cx,dd]at h;cases hm:xm ws L with
 | some M=>
  rw[hm]at h;dsimp only at h;simp only[bc,vz];refine xh rfl ?_;have hk:∀e,xr 0 (Pst B0 B1 L d X) (Pst B0 B1 M d X) e=some (e,Pst B0 B1 M d X):=fun e=>xg (by simp[Pst]) e
  generalize bgg ws=W at *;generalize Pst B0 B1 L d X=P at *;generalize Pst B0 B1 M d X=Q at *;exact lf4
 | none=>
  rw[hm]at h;dsimp only at h;obtain⟨s,M,h,hs⟩:=h;simp only[bm,vz];refine⟨M,d,xh rfl ?_⟩;have hk:∀e,xr 0 (Pst B0 B1 L d X) (Pst B0 B1 M d X) e=some (e,Pst B0 B1 M d X):=fun e=>xg (by simp[Pst]) e
  rw[← hs]at hk ⊢;generalize bgg ws=W at *;generalize Pst B0 B1 L d X=P at *;simp[-getElem?_pos,rZa,a69,hlen,h,hk]
end Go.Av
namespace Go.Av
open Go Go.Proofs
theorem lf5{p:Prop}(h:p:=by simp[-getElem?_pos,rZa,a42,zm, *]):p:=h
theorem c42(B0 B1:Bx)(w:LU)(ws:LV)(hl:ws.length≤100)(hw:∀x∈w::ws,x≠[])(L:LT)(d:Int)(X:LB) :
  vz B0 B1 42 [.ptr 2 0,.slice 1 (bgg (w::ws))] none L d X (if pk L=w then(xm (w::ws) L).map fun M=>(.bool true,M) else some (.bool false,L)):=by
 have q:=c68 B0 B1 L d X;have qm:=c69 B0 B1 (w::ws) (by simp;omega) hw L d X;have g:(bgg (w::ws))[0]? = some (.str (bs w)):=by simp[bgg]
 generalize bgg (w::ws)=W at *;by_cases h:pk L=w
 ·rw[if_pos h];cases hm:xm (w::ws) L with
  | some M=>
   rw[hm]at qm;simp only[bc,vz]at qm ⊢;refine xh rfl ?_;have hk:∀e,xr 0 (Pst B0 B1 L d X) (Pst B0 B1 M d X) e=some (e,Pst B0 B1 M d X):=fun e=>xg (by simp[Pst]) e
   generalize Pst B0 B1 L d X=P at *;generalize Pst B0 B1 M d X=Q at *;exact lf5
  | none=>
   rw[hm]at qm;simp only[bm,vz]at qm ⊢;obtain⟨M,d',qm⟩:=qm;refine⟨M,d',xh rfl ?_⟩;have hk:∀e,xr 0 (Pst B0 B1 L d X) (Pst B0 B1 M d' X) e=some (e,Pst B0 B1 M d' X):=fun e=>xg (by simp[Pst]) e
   generalize Pst B0 B1 L d X=P at *;generalize Pst B0 B1 M d' X=Q at *;exact lf5
 ·rw[if_neg h];simp only[vz];refine xh rfl ?_;have h':¬ bs (pk L)=bs w:=fun e=>h (chs e)
  generalize Pst B0 B1 L d X=P at *;exact lf5
theorem bc7(B0 B1:Bx)(w:LU)(hw:w≠[])(L:LT)(d:Int)(X:LB) :
  rH 42 [.ptr 2 0,.slice 1 [.str (bs w)]] (Pst B0 B1 L d X) (.bool (isG w L).1) (Pst B0 B1 (isG w L).2 d X):=by
 have h:=c42 B0 B1 w [] (by simp) (by simpa using hw) L d X;unfold isG;by_cases e:pk L=w
 ·rw[if_pos e]at h ⊢;simp only[xm,if_pos e,bc,vz]at h;exact h
 ·rw[if_neg e]at h ⊢;exact h
end Go.Av
namespace Go.Av
open Go Go.Proofs
structure TokOk(x:Tok):Prop where
 len:x.t.length≤5000
 num:x.k=3→bj9 x.t=true
 txt:x.k=4→x.t.head? = some 39∧bdr x.t=x.t.length∧bf7 (dgv x.t)=true
 word:x.k=1→x.t∈bdd
 name:x.k=2→bfg x.t=true
def cbb(L:LT):Prop:=∀x∈L,TokOk x
theorem cbb.sfx{L M:LT}(h:cbb L)(hs:M<:+L):cbb M:=fun x hx=>h x (hs.mem hx)
theorem c5c{t:LU}(h:bj9 t=true):Lib.atoiAll t=.ok (b7p t):=by
 cases t with
 | nil=>cases h
 | cons c r=>
  simp only[bj9,bp,dgf]at h;have h2:=h.2;unfold b7p;cases e:Lib.atoiAll (c::r) with
  | ok v=>rfl
  | _=>rw[e]at h2;cases h2
theorem c2138(w:LU)(S:LB)(hw:w.length≤1000000)(hn:bj9 w=true):rH 138 [.str (bs w)] S (.tuple [ii (b7p w),.niliface]) S:=by
 refine bqh (hh:=csx 259) rfl ?_;simp only[csx,zj];rw[if_pos (by omega)];unfold bz2;rw[bpc,c5c hn]
theorem lf6{p:Prop}(h:p:=by simp[-getElem?_pos,rZa,a81, *]):p:=h
theorem c81(B0 B1:Bx)(L:LT)(hG:cbb L)(d:Int)(X:LB):vz B0 B1 81 [.ptr 2 0] none L d X ((bs4 L).map fun x=>(.int .i64 x.1,x.2)):=by
 have qt:=b9m B0 B1 L d X 3;unfold bs4;cases ht:bcc 3 L with
 | none=>
  rw[ht]at qt;simp only[bm,bh,vz]at qt ⊢;obtain⟨M,d',qt⟩:=qt;refine⟨M,d',xh rfl ?_⟩;have hk:∀e,xr 0 (Pst B0 B1 L d X) (Pst B0 B1 M d' X) e=some (e,Pst B0 B1 M d' X):=fun e=>xg (by simp[Pst]) e
  generalize Pst B0 B1 L d X=P at *;generalize Pst B0 B1 M d' X=Q at *;exact lf6
 | some x=>
  obtain⟨t,M⟩:=x;have hx:∃a,a∈L∧a.k=3∧a.t=t:=by
   cases L with
   | nil=>cases ht
   | cons a r=>
    simp only[bcc]at ht;split at ht
    ·rename_i hk;obtain⟨h1,h2⟩:=Prod.mk.inj (bf ht);exact⟨a,.head _,hk,h1⟩
    ·cases ht
  obtain⟨a,hm,hk3,rfl⟩:=hx;have ok:=hG a hm;have qa:=c2138 a.t (Pst B0 B1 M d X) (by have:=ok.len;omega) (ok.num hk3);have qf:=c43 (.ptr 2 0) (Pst B0 B1 M d X) rfl;rw[ht]at qt;simp only[bc,bb,vz]at qt ⊢;generalize b7p a.t=n at *;have hk:∀e,xr 0 (Pst B0 B1 L d X) (Pst B0 B1 M d X) e=some (e,Pst B0 B1 M d X):=fun e=>xg (by simp[Pst]) e
  by_cases hn:20000<n
  ·rw[if_pos hn];simp only[bm];refine⟨M,d,xh rfl ?_⟩;generalize Pst B0 B1 L d X=P at *;generalize Pst B0 B1 M d X=Q at *;exact lf6
  ·rw[if_neg hn];simp only[bc];refine xh rfl ?_;generalize Pst B0 B1 L d X=P at *;generalize Pst B0 B1 M d X=Q at *;exact lf6
end Go.Av
namespace Go.Av
open Go Go.Proofs
theorem dvc{d:Int}(h0:0≤d)(h1:d≤1000):IntKind.i64.wrap (d+1)=d+1:=by
 have:=bp7 (n:=d.toNat) (by omega);have e:((d.toNat:Nat):Int)=d:=by omega
 rwa [e]at this
theorem wDec{d:Int}(h0:0≤d)(h1:d≤1000):IntKind.i64.wrap d=d:=by
 rcases Int.lt_or_eq_of_le h0 with h | h
 ·have:=dvc (d:=d - 1) (by omega) (by omega)
  rwa [show d - 1+1=d by omega]at this
 ·subst h;decide
theorem lf7{p:Prop}(h:p:=by simp[-getElem?_pos,rZa,a71, *]):p:=h
theorem c71(B0 B1:Bx)(k:Nat)(first caps:LA)(L:LT)(d:Int)(h0:0≤d)(h1:d≤1000)(X:LB)(o:Option (Nd×LT))
  (hc:¬ 24<d+1→vz B0 B1 k (first++caps) none L (d+1) X (o.map fun x=>(x.1.av,x.2))) :
  vz B0 B1 71 [.ptr 2 0,.clos (.func k) first caps] none L d X (if 24<d+1 then none else o.map fun x=>(x.1.av,x.2)):=by
 have w1:=dvc h0 h1;have w2:=wDec h0 h1;have qf:=c43 (.ptr 2 0) (Pst B0 B1 L (d+1) X) rfl;have hk:=hkP B0 B1 L d X;by_cases hd:24<d+1
 ·rw[if_pos hd];refine⟨L,d+1,xh rfl ?_⟩;replace hk:=hk L (d+1);simp only[Pst]at *;generalize L.map Tok.av=R at *;exact lf7
 ·rw[if_neg hd];replace hc:=hc hd;cases o with
  | none=>
   simp only[bm,vz]at hc ⊢;obtain⟨M,d',hc⟩:=hc;refine⟨M,d',xh rfl ?_⟩;replace hk:=hk M d';simp only[Pst]at *;generalize L.map Tok.av=R at *;generalize M.map Tok.av=R' at *;exact lf7
  | some x=>
   obtain⟨v,M⟩:=x;simp only[bc,vz]at hc ⊢;refine xh rfl ?_;replace hk:=hk M d;obtain⟨op,text,num,no,dis,args,query⟩:=v;simp only[Pst,Nd.av]at *;generalize L.map Tok.av=R at *;generalize M.map Tok.av=R' at *;exact lf7
theorem lf8{p:Prop}(h:p:=by simp[-getElem?_pos,rZa,a128, *]):p:=h
theorem c128(B0 B1:Bx)(k:Nat)(first caps:LA)(L:LT)(d:Int)(h0:0≤d)(h1:d≤1000)(X:LB)(o:Option (Qr×LT))
  (hc:¬ 24<d+1→vz B0 B1 k (first++caps) none L (d+1) X (o.map fun x=>(x.1.av,x.2))) :
  vz B0 B1 128 [.ptr 2 0,.clos (.func k) first caps] none L d X (if 24<d+1 then none else o.map fun x=>(x.1.av,x.2)):=by
 have w1:=dvc h0 h1;have w2:=wDec h0 h1;have qf:=c43 (.ptr 2 0) (Pst B0 B1 L (d+1) X) rfl;have hk:=hkP B0 B1 L d X;by_cases hd:24<d+1
 ·rw[if_pos hd];refine⟨L,d+1,xh rfl ?_⟩;replace hk:=hk L (d+1);simp only[Pst]at *;generalize L.map Tok.av=R at *;exact lf8
 ·rw[if_neg hd];replace hc:=hc hd;cases o with
  | none=>
   simp only[bm,vz]at hc ⊢;obtain⟨M,d',hc⟩:=hc;refine⟨M,d',xh rfl ?_⟩;replace hk:=hk M d';simp only[Pst]at *;generalize L.map Tok.av=R at *;generalize M.map Tok.av=R' at *;exact lf8
  | some x=>
   obtain⟨v,M⟩:=x;simp only[bc,vz]at hc ⊢;refine xh rfl ?_;replace hk:=hk M d;obtain⟨⟨c0,c1,c2,i3,i4,i5,i6,i7,i8,i9⟩,ks,li,of⟩:=v;simp only[Pst,Qr.av,Bd.cells,rZd]at *;generalize L.map Tok.av=R at *;generalize M.map Tok.av=R' at *;exact lf8
theorem lf9{p:Prop}(h:p:=by simp[-getElem?_pos,rZa,a133, *]):p:=h
theorem c133(B0 B1:Bx)(k:Nat)(first caps:LA)(L:LT)(d:Int)(h0:0≤d)(h1:d≤1000)(X:LB)(o:Option (List Nd×LT))
  (hc:¬ 24<d+1→vz B0 B1 k (first++caps) (some 62) L (d+1) X (o.map fun x=>(.slice 7 (xd x.1),x.2))) :
  vz B0 B1 133 [.ptr 2 0,.clos (.func k) first caps] (some 62) L d X (if 24<d+1 then none else o.map fun x=>(.slice 7 (xd x.1),x.2)):=by
 have w1:=dvc h0 h1;have w2:=wDec h0 h1;have qf:=c43 (.ptr 2 0) (Pst B0 B1 L (d+1) X) rfl;have hk:=hkP B0 B1 L d X;by_cases hd:24<d+1
 ·rw[if_pos hd];refine⟨L,d+1,xh rfl ?_⟩;replace hk:=hk L (d+1);simp only[Pst]at *;generalize L.map Tok.av=R at *;exact lf9
 ·rw[if_neg hd];replace hc:=hc hd;cases o with
  | none=>
   simp only[bm,vz]at hc ⊢;obtain⟨M,d',hc⟩:=hc;refine⟨M,d',xh rfl ?_⟩;replace hk:=hk M d';simp only[Pst]at *;generalize L.map Tok.av=R at *;generalize M.map Tok.av=R' at *;exact lf9
  | some x=>
   obtain⟨v,M⟩:=x;simp only[bc,vz]at hc ⊢;refine xh rfl ?_;replace hk:=hk M d;generalize xd v=A at *;simp only[Pst,Pst]at *;generalize L.map Tok.av=R at *;generalize M.map Tok.av=R' at *;exact lf9
end Go.Av
namespace Go.Av
open Go Go.Proofs
theorem xx{w:LU}{L:LT}(h:pk L=w):isG w L=(true,L.drop 1):=by unfold isG;rw[if_pos h]
theorem xk{w:LU}{L:LT}(h:¬ pk L=w):isG w L=(false,L):=by unfold isG;rw[if_neg h]
theorem zk{L:LT}{w:LU}(h:pk L=w)(hw:w≠[]):(L.drop 1).length+1=L.length:=by
 obtain⟨x,r,rfl⟩:=bm7 h hw;simp
def ddf(B0 B1:Bx)(k:Nat)(first caps:LA)(d:Int)(X:LB)(acc:LA)(L:LT):St:={σ:=[(0,.v (.ptr 2 0)),(1,.v (.clos (.func k) first caps)),(5,.v (.slice 7 acc))],own:=[(5,62)],loc:=[],S:=Pst B0 B1 L d X}
theorem lf10{p:Prop}(h:p:=by simp[-getElem?_pos,rZa,b6v, *]):p:=h
theorem loop77(B0 B1:Bx)(k:Nat)(first caps:LA)(d:Int)(X:LB)(L0:LT)(p:Rdr (Nd))(hp:Sfx p)
  (hc:∀M,M<:+L0→vz B0 B1 k (first++caps) none M d X ((p d M).map fun x=>((x.1).av,x.2))):∀(f:Nat) (acc:List (Nd)) (L:LT),L<:+L0→L.length<f→acc.length+L.length≤10000 →
  match bbm p d f acc L with
  | some (vs,N)=>zc (xf bbf b6v) (ddf B0 B1 k first caps d X (acc.map fun x=>(x).av) L)=some (.exit 0,{σ:=[(0,.v (.ptr 2 0)),(5,.v (.slice 7 (vs.map fun x=>(x).av)))],own:=[(5,62)],loc:=[],S:=Pst B0 B1 N d X})
  | none=>∃s M d',zc (xf bbf b6v) (ddf B0 B1 k first caps d X (acc.map fun x=>(x).av) L)=some (.panic fv,s)∧s.S=Pst B0 B1 M d' X:=by
 intro f
 induction f with
 | zero=>intro acc L _ h _;omega
 | succ f ih=>
  intro acc L hs hf hb;have qi:rH 42 [.ptr 2 0,.slice 1 [.str wb3]] (Pst B0 B1 L d X) (.bool (isG bd7 L).1) (Pst B0 B1 (isG bd7 L).2 d X):=bc7 B0 B1 bd7 (by simp) L d X;simp only[bbm];have hacc:(acc.map fun x=>(x).av).length=acc.length:=by simp
  by_cases h:pk L=bd7
  ·rw[if_pos h];rw[xx h]at qi;dsimp only at qi;have hl:=zk h (by simp);have hd:L.drop 1<:+L0:=(xp L).trans hs;have hc':=hc _ hd;cases hp':p d (L.drop 1) with
   | none=>
    rw[hp']at hc';simp only[bm,vz,bh]at hc' ⊢;obtain⟨M,d',hc'⟩:=hc';have hpan:=bd8 (o:=xf bbf b6v (ddf B0 B1 k first caps d X (acc.map fun x=>(x).av) L)) (v:=fv) (P:=Pst B0 B1 M d' X) (by
     rw[xb];simp only[ddf];generalize (acc.map fun x=>(x).av)=A at *;generalize Pst B0 B1 L d X=P at *;generalize Pst B0 B1 (L.drop 1) d X=P1 at *;generalize Pst B0 B1 M d' X=P2 at *;simp[-getElem?_pos,rZa,b6v,qi,hc'])
    obtain⟨s,e,es⟩:=hpan;exact⟨s,M,d',xc e (by simp),es⟩
   | some x=>
    obtain⟨v,N⟩:=x;rw[hp']at hc';simp only[bc,vz,bb]at hc' ⊢;have hN:N<:+L.drop 1:=hp d _ _ (br _) _ hp';have hNl:=hN.length_le;have:=ih (acc++[v]) N (hN.trans hd) (by omega) (by simp;omega);have hstep:xf bbf b6v (ddf B0 B1 k first caps d X (acc.map fun x=>(x).av) L)=some (.normal,ddf B0 B1 k first caps d X ((acc++[v]).map fun x=>(x).av) N):=by
     have hb':(acc.length+1)*88≤140737488355328:=by omega
     rw[gt,cr,cg];rw[xb];simp only[ddf];obtain⟨op,text,num,no,dis,args,query⟩:=v;simp only[Nd.av]at hc' ⊢;generalize (acc.map fun x=>(x).av)=A at *;generalize Pst B0 B1 L d X=P at *;generalize Pst B0 B1 (L.drop 1) d X=P1 at *;generalize Pst B0 B1 N d X=P2 at *;exact lf10
    rw[xq hstep];exact this
  ·rw[if_neg h];rw[xk h]at qi;dsimp only at qi;simp only;refine xc (r:=(.exit 0,{σ:=[(0,.v (.ptr 2 0)),(5,.v (.slice 7 (acc.map fun x=>(x).av)))],own:=[(5,62)],loc:=[],S:=Pst B0 B1 L d X})) ?_ (by simp);rw[xb];simp only[ddf];generalize (acc.map fun x=>(x).av)=A at *;generalize Pst B0 B1 L d X=P at *;exact lf10
def ddd(B0 B1:Bx)(k:Nat)(first caps:LA)(d:Int)(X:LB)(acc:LA)(L:LT):St:={σ:=[(0,.v (.ptr 2 0)),(1,.v (.clos (.func k) first caps)),(5,.v (.slice 3 acc))],own:=[(5,64)],loc:=[],S:=Pst B0 B1 L d X}
theorem lf11{p:Prop}(h:p:=by simp[-getElem?_pos,rZa,b6t, *]):p:=h
theorem loop79(B0 B1:Bx)(k:Nat)(first caps:LA)(d:Int)(X:LB)(L0:LT)(p:Rdr (Ky))(hp:Sfx p)
  (hc:∀M,M<:+L0→vz B0 B1 k (first++caps) none M d X ((p d M).map fun x=>((x.1).av,x.2))):∀(f:Nat) (acc:List (Ky)) (L:LT),L<:+L0→L.length<f→acc.length+L.length≤10000 →
  match bbm p d f acc L with
  | some (vs,N)=>zc (xf bbf b6t) (ddd B0 B1 k first caps d X (acc.map fun x=>(x).av) L)=some (.exit 0,{σ:=[(0,.v (.ptr 2 0)),(5,.v (.slice 3 (vs.map fun x=>(x).av)))],own:=[(5,64)],loc:=[],S:=Pst B0 B1 N d X})
  | none=>∃s M d',zc (xf bbf b6t) (ddd B0 B1 k first caps d X (acc.map fun x=>(x).av) L)=some (.panic fv,s)∧s.S=Pst B0 B1 M d' X:=by
 intro f
 induction f with
 | zero=>intro acc L _ h _;omega
 | succ f ih=>
  intro acc L hs hf hb;have qi:rH 42 [.ptr 2 0,.slice 1 [.str wb3]] (Pst B0 B1 L d X) (.bool (isG bd7 L).1) (Pst B0 B1 (isG bd7 L).2 d X):=bc7 B0 B1 bd7 (by simp) L d X;simp only[bbm];have hacc:(acc.map fun x=>(x).av).length=acc.length:=by simp
  by_cases h:pk L=bd7
  ·rw[if_pos h];rw[xx h]at qi;dsimp only at qi;have hl:=zk h (by simp);have hd:L.drop 1<:+L0:=(xp L).trans hs;have hc':=hc _ hd;cases hp':p d (L.drop 1) with
   | none=>
    rw[hp']at hc';simp only[bm,vz,bh]at hc' ⊢;obtain⟨M,d',hc'⟩:=hc';have hpan:=bd8 (o:=xf bbf b6t (ddd B0 B1 k first caps d X (acc.map fun x=>(x).av) L)) (v:=fv) (P:=Pst B0 B1 M d' X) (by
     rw[xb];simp only[ddd];generalize (acc.map fun x=>(x).av)=A at *;generalize Pst B0 B1 L d X=P at *;generalize Pst B0 B1 (L.drop 1) d X=P1 at *;generalize Pst B0 B1 M d' X=P2 at *;simp[-getElem?_pos,rZa,b6t,qi,hc'])
    obtain⟨s,e,es⟩:=hpan;exact⟨s,M,d',xc e (by simp),es⟩
   | some x=>
    obtain⟨v,N⟩:=x;rw[hp']at hc';simp only[bc,vz,bb]at hc' ⊢;have hN:N<:+L.drop 1:=hp d _ _ (br _) _ hp';have hNl:=hN.length_le;have:=ih (acc++[v]) N (hN.trans hd) (by omega) (by simp;omega);have hstep:xf bbf b6t (ddd B0 B1 k first caps d X (acc.map fun x=>(x).av) L)=some (.normal,ddd B0 B1 k first caps d X ((acc++[v]).map fun x=>(x).av) N):=by
     have hb':(acc.length+1)*32≤140737488355328:=by omega
     rw[gt,cr,cg];rw[xb];simp only[ddd];obtain⟨nm,at1,de⟩:=v;simp only[Ky.av]at hc' ⊢;generalize (acc.map fun x=>(x).av)=A at *;generalize Pst B0 B1 L d X=P at *;generalize Pst B0 B1 (L.drop 1) d X=P1 at *;generalize Pst B0 B1 N d X=P2 at *;exact lf11
    rw[xq hstep];exact this
  ·rw[if_neg h];rw[xk h]at qi;dsimp only at qi;simp only;refine xc (r:=(.exit 0,{σ:=[(0,.v (.ptr 2 0)),(5,.v (.slice 3 (acc.map fun x=>(x).av)))],own:=[(5,64)],loc:=[],S:=Pst B0 B1 L d X})) ?_ (by simp);rw[xb];simp only[ddd];generalize (acc.map fun x=>(x).av)=A at *;generalize Pst B0 B1 L d X=P at *;exact lf11
def b7j(B0 B1:Bx)(k:Nat)(first caps:LA)(d:Int)(X:LB)(acc:LA)(L:LT):St:={σ:=[(0,.v (.ptr 2 0)),(1,.v (.clos (.func k) first caps)),(5,.v (.slice 1 acc))],own:=[(5,25)],loc:=[],S:=Pst B0 B1 L d X}
theorem lf12{p:Prop}(h:p:=by simp[-getElem?_pos,rZa,bv7, *]):p:=h
theorem drh(B0 B1:Bx)(k:Nat)(first caps:LA)(d:Int)(X:LB)(L0:LT)(p:Rdr (List Nd))(hp:Sfx p)
  (hc:∀M,M<:+L0→vz B0 B1 k (first++caps) (some 62) M d X ((p d M).map fun x=>(AV.slice 7 (xd (x.1)),x.2))):∀(f:Nat) (acc:List (List Nd)) (L:LT),L<:+L0→L.length<f→acc.length+L.length≤10000 →
  match bbm p d f acc L with
  | some (vs,N)=>zc (xf bbf bv7) (b7j B0 B1 k first caps d X (acc.map fun x=>AV.slice 7 (xd (x))) L)=some (.exit 0,{σ:=[(0,.v (.ptr 2 0)),(5,.v (.slice 1 (vs.map fun x=>AV.slice 7 (xd (x)))))],own:=[(5,25)],loc:=[],S:=Pst B0 B1 N d X})
  | none=>∃s M d',zc (xf bbf bv7) (b7j B0 B1 k first caps d X (acc.map fun x=>AV.slice 7 (xd (x))) L)=some (.panic fv,s)∧s.S=Pst B0 B1 M d' X:=by
 intro f
 induction f with
 | zero=>intro acc L _ h _;omega
 | succ f ih=>
  intro acc L hs hf hb;have qi:rH 42 [.ptr 2 0,.slice 1 [.str wb3]] (Pst B0 B1 L d X) (.bool (isG bd7 L).1) (Pst B0 B1 (isG bd7 L).2 d X):=bc7 B0 B1 bd7 (by simp) L d X;simp only[bbm];have hacc:(acc.map fun x=>AV.slice 7 (xd (x))).length=acc.length:=by simp
  by_cases h:pk L=bd7
  ·rw[if_pos h];rw[xx h]at qi;dsimp only at qi;have hl:=zk h (by simp);have hd:L.drop 1<:+L0:=(xp L).trans hs;have hc':=hc _ hd;cases hp':p d (L.drop 1) with
   | none=>
    rw[hp']at hc';simp only[bm,vz,bh]at hc' ⊢;obtain⟨M,d',hc'⟩:=hc';have hpan:=bd8 (o:=xf bbf bv7 (b7j B0 B1 k first caps d X (acc.map fun x=>AV.slice 7 (xd (x))) L)) (v:=fv) (P:=Pst B0 B1 M d' X) (by
     rw[xb];simp only[b7j];generalize (acc.map fun x=>AV.slice 7 (xd (x)))=A at *;generalize Pst B0 B1 L d X=P at *;generalize Pst B0 B1 (L.drop 1) d X=P1 at *;generalize Pst B0 B1 M d' X=P2 at *;simp[-getElem?_pos,rZa,bv7,qi,hc'])
    obtain⟨s,e,es⟩:=hpan;exact⟨s,M,d',xc e (by simp),es⟩
   | some x=>
    obtain⟨v,N⟩:=x;rw[hp']at hc';simp only[bc,vz,bb]at hc' ⊢;have hN:N<:+L.drop 1:=hp d _ _ (br _) _ hp';have hNl:=hN.length_le;have:=ih (acc++[v]) N (hN.trans hd) (by omega) (by simp;omega);have hstep:xf bbf bv7 (b7j B0 B1 k first caps d X (acc.map fun x=>AV.slice 7 (xd (x))) L)=some (.normal,b7j B0 B1 k first caps d X ((acc++[v]).map fun x=>AV.slice 7 (xd (x))) N):=by
     have hb':(acc.length+1)*24≤140737488355328:=by omega
     rw[gt,cr,cg];rw[xb];simp only[b7j];generalize xd v=V at *;generalize (acc.map fun x=>AV.slice 7 (xd (x)))=A at *;generalize Pst B0 B1 L d X=P at *;generalize Pst B0 B1 (L.drop 1) d X=P1 at *;generalize Pst B0 B1 N d X=P2 at *;exact lf12
    rw[xq hstep];exact this
  ·rw[if_neg h];rw[xk h]at qi;dsimp only at qi;simp only;refine xc (r:=(.exit 0,{σ:=[(0,.v (.ptr 2 0)),(5,.v (.slice 1 (acc.map fun x=>AV.slice 7 (xd (x)))))],own:=[(5,25)],loc:=[],S:=Pst B0 B1 L d X})) ?_ (by simp);rw[xb];simp only[b7j];generalize (acc.map fun x=>AV.slice 7 (xd (x)))=A at *;generalize Pst B0 B1 L d X=P at *;exact lf12
def b7h(B0 B1:Bx)(k:Nat)(first caps:LA)(d:Int)(X:LB)(acc:LA)(L:LT):St:={σ:=[(0,.v (.ptr 2 0)),(1,.v (.clos (.func k) first caps)),(5,.v (.slice 4 acc))],own:=[(5,59)],loc:=[],S:=Pst B0 B1 L d X}
theorem lf13{p:Prop}(h:p:=by simp[-getElem?_pos,rZa,bv5, *]):p:=h
theorem drf(B0 B1:Bx)(k:Nat)(first caps:LA)(d:Int)(X:LB)(L0:LT)(p:Rdr (It))(hp:Sfx p)
  (hc:∀M,M<:+L0→vz B0 B1 k (first++caps) none M d X ((p d M).map fun x=>((x.1).av,x.2))):∀(f:Nat) (acc:List (It)) (L:LT),L<:+L0→L.length<f→acc.length+L.length≤10000 →
  match bbm p d f acc L with
  | some (vs,N)=>zc (xf bbf bv5) (b7h B0 B1 k first caps d X (acc.map fun x=>(x).av) L)=some (.exit 0,{σ:=[(0,.v (.ptr 2 0)),(5,.v (.slice 4 (vs.map fun x=>(x).av)))],own:=[(5,59)],loc:=[],S:=Pst B0 B1 N d X})
  | none=>∃s M d',zc (xf bbf bv5) (b7h B0 B1 k first caps d X (acc.map fun x=>(x).av) L)=some (.panic fv,s)∧s.S=Pst B0 B1 M d' X:=by
 intro f
 induction f with
 | zero=>intro acc L _ h _;omega
 | succ f ih=>
  intro acc L hs hf hb;have qi:rH 42 [.ptr 2 0,.slice 1 [.str wb3]] (Pst B0 B1 L d X) (.bool (isG bd7 L).1) (Pst B0 B1 (isG bd7 L).2 d X):=bc7 B0 B1 bd7 (by simp) L d X;simp only[bbm];have hacc:(acc.map fun x=>(x).av).length=acc.length:=by simp
  by_cases h:pk L=bd7
  ·rw[if_pos h];rw[xx h]at qi;dsimp only at qi;have hl:=zk h (by simp);have hd:L.drop 1<:+L0:=(xp L).trans hs;have hc':=hc _ hd;cases hp':p d (L.drop 1) with
   | none=>
    rw[hp']at hc';simp only[bm,vz,bh]at hc' ⊢;obtain⟨M,d',hc'⟩:=hc';have hpan:=bd8 (o:=xf bbf bv5 (b7h B0 B1 k first caps d X (acc.map fun x=>(x).av) L)) (v:=fv) (P:=Pst B0 B1 M d' X) (by
     rw[xb];simp only[b7h];generalize (acc.map fun x=>(x).av)=A at *;generalize Pst B0 B1 L d X=P at *;generalize Pst B0 B1 (L.drop 1) d X=P1 at *;generalize Pst B0 B1 M d' X=P2 at *;simp[-getElem?_pos,rZa,bv5,qi,hc'])
    obtain⟨s,e,es⟩:=hpan;exact⟨s,M,d',xc e (by simp),es⟩
   | some x=>
    obtain⟨v,N⟩:=x;rw[hp']at hc';simp only[bc,vz,bb]at hc' ⊢;have hN:N<:+L.drop 1:=hp d _ _ (br _) _ hp';have hNl:=hN.length_le;have:=ih (acc++[v]) N (hN.trans hd) (by omega) (by simp;omega);have hstep:xf bbf bv5 (b7h B0 B1 k first caps d X (acc.map fun x=>(x).av) L)=some (.normal,b7h B0 B1 k first caps d X ((acc++[v]).map fun x=>(x).av) N):=by
     have hb':(acc.length+1)*64≤140737488355328:=by omega
     rw[gt,cr,cg];rw[xb];simp only[b7h];obtain⟨star,table,expr,as'⟩:=v;simp only[It.av]at hc' ⊢;generalize (acc.map fun x=>(x).av)=A at *;generalize Pst B0 B1 L d X=P at *;generalize Pst B0 B1 (L.drop 1) d X=P1 at *;generalize Pst B0 B1 N d X=P2 at *;exact lf13
    rw[xq hstep];exact this
  ·rw[if_neg h];rw[xk h]at qi;dsimp only at qi;simp only;refine xc (r:=(.exit 0,{σ:=[(0,.v (.ptr 2 0)),(5,.v (.slice 4 (acc.map fun x=>(x).av)))],own:=[(5,59)],loc:=[],S:=Pst B0 B1 L d X})) ?_ (by simp);rw[xb];simp only[b7h];generalize (acc.map fun x=>(x).av)=A at *;generalize Pst B0 B1 L d X=P at *;exact lf13
def b7g(B0 B1:Bx)(k:Nat)(first caps:LA)(d:Int)(X:LB)(acc:LA)(L:LT):St:={σ:=[(0,.v (.ptr 2 0)),(1,.v (.clos (.func k) first caps)),(5,.v (.slice 6 acc))],own:=[(5,140)],loc:=[],S:=Pst B0 B1 L d X}
theorem lf14{p:Prop}(h:p:=by simp[-getElem?_pos,rZa,bv4, *]):p:=h
theorem drd(B0 B1:Bx)(k:Nat)(first caps:LA)(d:Int)(X:LB)(L0:LT)(p:Rdr (Sr))(hp:Sfx p)
  (hc:∀M,M<:+L0→vz B0 B1 k (first++caps) none M d X ((p d M).map fun x=>((x.1).av,x.2))):∀(f:Nat) (acc:List (Sr)) (L:LT),L<:+L0→L.length<f→acc.length+L.length≤10000 →
  match bbm p d f acc L with
  | some (vs,N)=>zc (xf bbf bv4) (b7g B0 B1 k first caps d X (acc.map fun x=>(x).av) L)=some (.exit 0,{σ:=[(0,.v (.ptr 2 0)),(5,.v (.slice 6 (vs.map fun x=>(x).av)))],own:=[(5,140)],loc:=[],S:=Pst B0 B1 N d X})
  | none=>∃s M d',zc (xf bbf bv4) (b7g B0 B1 k first caps d X (acc.map fun x=>(x).av) L)=some (.panic fv,s)∧s.S=Pst B0 B1 M d' X:=by
 intro f
 induction f with
 | zero=>intro acc L _ h _;omega
 | succ f ih=>
  intro acc L hs hf hb;have qi:rH 42 [.ptr 2 0,.slice 1 [.str wb3]] (Pst B0 B1 L d X) (.bool (isG bd7 L).1) (Pst B0 B1 (isG bd7 L).2 d X):=bc7 B0 B1 bd7 (by simp) L d X;simp only[bbm];have hacc:(acc.map fun x=>(x).av).length=acc.length:=by simp
  by_cases h:pk L=bd7
  ·rw[if_pos h];rw[xx h]at qi;dsimp only at qi;have hl:=zk h (by simp);have hd:L.drop 1<:+L0:=(xp L).trans hs;have hc':=hc _ hd;cases hp':p d (L.drop 1) with
   | none=>
    rw[hp']at hc';simp only[bm,vz,bh]at hc' ⊢;obtain⟨M,d',hc'⟩:=hc';have hpan:=bd8 (o:=xf bbf bv4 (b7g B0 B1 k first caps d X (acc.map fun x=>(x).av) L)) (v:=fv) (P:=Pst B0 B1 M d' X) (by
     rw[xb];simp only[b7g];generalize (acc.map fun x=>(x).av)=A at *;generalize Pst B0 B1 L d X=P at *;generalize Pst B0 B1 (L.drop 1) d X=P1 at *;generalize Pst B0 B1 M d' X=P2 at *;simp[-getElem?_pos,rZa,bv4,qi,hc'])
    obtain⟨s,e,es⟩:=hpan;exact⟨s,M,d',xc e (by simp),es⟩
   | some x=>
    obtain⟨v,N⟩:=x;rw[hp']at hc';simp only[bc,vz,bb]at hc' ⊢;have hN:N<:+L.drop 1:=hp d _ _ (br _) _ hp';have hNl:=hN.length_le;have:=ih (acc++[v]) N (hN.trans hd) (by omega) (by simp;omega);have hstep:xf bbf bv4 (b7g B0 B1 k first caps d X (acc.map fun x=>(x).av) L)=some (.normal,b7g B0 B1 k first caps d X ((acc++[v]).map fun x=>(x).av) N):=by
     have hb':(acc.length+1)*112≤140737488355328:=by omega
     rw[gt,cr,cg];rw[xb];simp only[b7g];obtain⟨op,name,as',query,ins,on⟩:=v;simp only[Sr.av]at hc' ⊢;generalize (acc.map fun x=>(x).av)=A at *;generalize Pst B0 B1 L d X=P at *;generalize Pst B0 B1 (L.drop 1) d X=P1 at *;generalize Pst B0 B1 N d X=P2 at *;exact lf14
    rw[xq hstep];exact this
  ·rw[if_neg h];rw[xk h]at qi;dsimp only at qi;simp only;refine xc (r:=(.exit 0,{σ:=[(0,.v (.ptr 2 0)),(5,.v (.slice 6 (acc.map fun x=>(x).av)))],own:=[(5,140)],loc:=[],S:=Pst B0 B1 L d X})) ?_ (by simp);rw[xb];simp only[b7g];generalize (acc.map fun x=>(x).av)=A at *;generalize Pst B0 B1 L d X=P at *;exact lf14
end Go.Av
namespace Go.Av
open Go Go.Proofs
theorem lf15{p:Prop}(h:p:=by simp[-getElem?_pos,rZa,a77, *]):p:=h
theorem c77(B0 B1:Bx)(k:Nat)(first caps:LA)(d:Int)(X:LB)(L:LT)(hlen:L.length≤9000)(p:Rdr (Nd))(hp:Sfx p)
  (hc:∀M,M<:+L→vz B0 B1 k (first++caps) none M d X ((p d M).map fun x=>((x.1).av,x.2))) :
  vz B0 B1 77 [.ptr 2 0,.clos (.func k) first caps] (some 62) L d X ((bbc p d L).map fun x=>(.slice 7 (x.1.map fun x=>(x).av),x.2)):=by
 have hc0:=hc L (br L);have hk:=hkP B0 B1 L d X;unfold bbc;cases h1:p d L with
 | none=>
  rw[h1]at hc0;simp only[bm,bh,vz]at hc0 ⊢;obtain⟨M,d',hc0⟩:=hc0;refine⟨M,d',xh rfl ?_⟩;replace hk:=hk M d';generalize Pst B0 B1 L d X=P at *;generalize Pst B0 B1 M d' X=Q at *;exact lf15
 | some x=>
  obtain⟨v,L1⟩:=x;rw[h1]at hc0;have hs:L1<:+L:=hp d L L (br L) _ h1;have hsl:=hs.length_le;have hloop:=loop77 B0 B1 k first caps d X L p hp hc (L1.length+1) [v] L1 hs (by omega) (by simp;omega)
  simp only[bc,bb,vz,cr,cg]at hc0 ⊢ hloop;cases h2:bbm p d (L1.length+1) [v] L1 with
  | none=>
   rw[h2]at hloop;simp only[bm,bh]at hloop ⊢;obtain⟨s,M,d',hl,hS⟩:=hloop;refine⟨M,d',xh rfl ?_⟩;replace hk:=hk M d';rw[← hS]at hk ⊢;simp only[ddf]at hl;obtain⟨op,text,num,no,dis,args,query⟩:=v;simp only[Nd.av]at *;generalize Pst B0 B1 L d X=P at *;generalize Pst B0 B1 L1 d X=P1 at *;simp[-getElem?_pos,rZa,a77,hc0,hl,hk]
  | some y=>
   obtain⟨vs,N⟩:=y;rw[h2]at hloop;simp only[bb]at hloop ⊢;have qf:=c43 (.ptr 2 0) (Pst B0 B1 N d X) rfl;replace hk:=hk N d;simp only[ddf]at hloop;have hvl:(vs.map fun x=>(x).av).length=vs.length:=by simp
   by_cases hn:16<vs.length
   ·rw[if_pos hn];have hn':(16:Int)<(vs.length:Int):=by omega
    simp only[bm];refine⟨N,d,xh rfl ?_⟩;generalize (vs.map fun x=>(x).av)=V at *;obtain⟨op,text,num,no,dis,args,query⟩:=v;simp only[Nd.av]at *;generalize Pst B0 B1 L d X=P at *;generalize Pst B0 B1 L1 d X=P1 at *;generalize Pst B0 B1 N d X=P2 at *;exact lf15
   ·rw[if_neg hn];have hn':¬ (16:Int)<(vs.length:Int):=by omega
    simp only[bc];refine xh rfl ?_;generalize (vs.map fun x=>(x).av)=V at *;obtain⟨op,text,num,no,dis,args,query⟩:=v;simp only[Nd.av]at *;generalize Pst B0 B1 L d X=P at *;generalize Pst B0 B1 L1 d X=P1 at *;generalize Pst B0 B1 N d X=P2 at *;exact lf15
theorem lf16{p:Prop}(h:p:=by simp[-getElem?_pos,rZa,a79, *]):p:=h
theorem c79(B0 B1:Bx)(k:Nat)(first caps:LA)(d:Int)(X:LB)(L:LT)(hlen:L.length≤9000)(p:Rdr (Ky))(hp:Sfx p)
  (hc:∀M,M<:+L→vz B0 B1 k (first++caps) none M d X ((p d M).map fun x=>((x.1).av,x.2))) :
  vz B0 B1 79 [.ptr 2 0,.clos (.func k) first caps] (some 64) L d X ((bbc p d L).map fun x=>(.slice 3 (x.1.map fun x=>(x).av),x.2)):=by
 have hc0:=hc L (br L);have hk:=hkP B0 B1 L d X;unfold bbc;cases h1:p d L with
 | none=>
  rw[h1]at hc0;simp only[bm,bh,vz]at hc0 ⊢;obtain⟨M,d',hc0⟩:=hc0;refine⟨M,d',xh rfl ?_⟩;replace hk:=hk M d';generalize Pst B0 B1 L d X=P at *;generalize Pst B0 B1 M d' X=Q at *;exact lf16
 | some x=>
  obtain⟨v,L1⟩:=x;rw[h1]at hc0;have hs:L1<:+L:=hp d L L (br L) _ h1;have hsl:=hs.length_le;have hloop:=loop79 B0 B1 k first caps d X L p hp hc (L1.length+1) [v] L1 hs (by omega) (by simp;omega)
  simp only[bc,bb,vz,cr,cg]at hc0 ⊢ hloop;cases h2:bbm p d (L1.length+1) [v] L1 with
  | none=>
   rw[h2]at hloop;simp only[bm,bh]at hloop ⊢;obtain⟨s,M,d',hl,hS⟩:=hloop;refine⟨M,d',xh rfl ?_⟩;replace hk:=hk M d';rw[← hS]at hk ⊢;simp only[ddd]at hl;obtain⟨nm,at1,de⟩:=v;simp only[Ky.av]at *;generalize Pst B0 B1 L d X=P at *;generalize Pst B0 B1 L1 d X=P1 at *;simp[-getElem?_pos,rZa,a79,hc0,hl,hk]
  | some y=>
   obtain⟨vs,N⟩:=y;rw[h2]at hloop;simp only[bb]at hloop ⊢;have qf:=c43 (.ptr 2 0) (Pst B0 B1 N d X) rfl;replace hk:=hk N d;simp only[ddd]at hloop;have hvl:(vs.map fun x=>(x).av).length=vs.length:=by simp
   by_cases hn:16<vs.length
   ·rw[if_pos hn];have hn':(16:Int)<(vs.length:Int):=by omega
    simp only[bm];refine⟨N,d,xh rfl ?_⟩;generalize (vs.map fun x=>(x).av)=V at *;obtain⟨nm,at1,de⟩:=v;simp only[Ky.av]at *;generalize Pst B0 B1 L d X=P at *;generalize Pst B0 B1 L1 d X=P1 at *;generalize Pst B0 B1 N d X=P2 at *;exact lf16
   ·rw[if_neg hn];have hn':¬ (16:Int)<(vs.length:Int):=by omega
    simp only[bc];refine xh rfl ?_;generalize (vs.map fun x=>(x).av)=V at *;obtain⟨nm,at1,de⟩:=v;simp only[Ky.av]at *;generalize Pst B0 B1 L d X=P at *;generalize Pst B0 B1 L1 d X=P1 at *;generalize Pst B0 B1 N d X=P2 at *;exact lf16
theorem lf17{p:Prop}(h:p:=by simp[-getElem?_pos,rZa,a208, *]):p:=h
theorem c208(B0 B1:Bx)(k:Nat)(first caps:LA)(d:Int)(X:LB)(L:LT)(hlen:L.length≤9000)(p:Rdr (List Nd))(hp:Sfx p)
  (hc:∀M,M<:+L→vz B0 B1 k (first++caps) (some 62) M d X ((p d M).map fun x=>(AV.slice 7 (xd (x.1)),x.2))) :
  vz B0 B1 208 [.ptr 2 0,.clos (.func k) first caps] (some 25) L d X ((bbc p d L).map fun x=>(.slice 1 (x.1.map fun x=>AV.slice 7 (xd (x))),x.2)):=by
 have hc0:=hc L (br L);have hk:=hkP B0 B1 L d X;unfold bbc;cases h1:p d L with
 | none=>
  rw[h1]at hc0;simp only[bm,bh,vz]at hc0 ⊢;obtain⟨M,d',hc0⟩:=hc0;refine⟨M,d',xh rfl ?_⟩;replace hk:=hk M d';generalize Pst B0 B1 L d X=P at *;generalize Pst B0 B1 M d' X=Q at *;exact lf17
 | some x=>
  obtain⟨v,L1⟩:=x;rw[h1]at hc0;have hs:L1<:+L:=hp d L L (br L) _ h1;have hsl:=hs.length_le;have hloop:=drh B0 B1 k first caps d X L p hp hc (L1.length+1) [v] L1 hs (by omega) (by simp;omega)
  simp only[bc,bb,vz,cr,cg]at hc0 ⊢ hloop;cases h2:bbm p d (L1.length+1) [v] L1 with
  | none=>
   rw[h2]at hloop;simp only[bm,bh]at hloop ⊢;obtain⟨s,M,d',hl,hS⟩:=hloop;refine⟨M,d',xh rfl ?_⟩;replace hk:=hk M d';rw[← hS]at hk ⊢;simp only[b7j]at hl;generalize xd v=V0 at *;generalize Pst B0 B1 L d X=P at *;generalize Pst B0 B1 L1 d X=P1 at *;simp[-getElem?_pos,rZa,a208,hc0,hl,hk]
  | some y=>
   obtain⟨vs,N⟩:=y;rw[h2]at hloop;simp only[bb]at hloop ⊢;have qf:=c43 (.ptr 2 0) (Pst B0 B1 N d X) rfl;replace hk:=hk N d;simp only[b7j]at hloop;have hvl:(vs.map fun x=>AV.slice 7 (xd (x))).length=vs.length:=by simp
   by_cases hn:16<vs.length
   ·rw[if_pos hn];have hn':(16:Int)<(vs.length:Int):=by omega
    simp only[bm];refine⟨N,d,xh rfl ?_⟩;generalize xd v=V0 at *;generalize (vs.map fun x=>AV.slice 7 (xd (x)))=V at *;generalize Pst B0 B1 L d X=P at *;generalize Pst B0 B1 L1 d X=P1 at *;generalize Pst B0 B1 N d X=P2 at *;exact lf17
   ·rw[if_neg hn];have hn':¬ (16:Int)<(vs.length:Int):=by omega
    simp only[bc];refine xh rfl ?_;generalize xd v=V0 at *;generalize (vs.map fun x=>AV.slice 7 (xd (x)))=V at *;generalize Pst B0 B1 L d X=P at *;generalize Pst B0 B1 L1 d X=P1 at *;generalize Pst B0 B1 N d X=P2 at *;exact lf17
theorem lf18{p:Prop}(h:p:=by simp[-getElem?_pos,rZa,a237, *]):p:=h
theorem c237(B0 B1:Bx)(k:Nat)(first caps:LA)(d:Int)(X:LB)(L:LT)(hlen:L.length≤9000)(p:Rdr (It))(hp:Sfx p)
  (hc:∀M,M<:+L→vz B0 B1 k (first++caps) none M d X ((p d M).map fun x=>((x.1).av,x.2))) :
  vz B0 B1 237 [.ptr 2 0,.clos (.func k) first caps] (some 59) L d X ((bbc p d L).map fun x=>(.slice 4 (x.1.map fun x=>(x).av),x.2)):=by
 have hc0:=hc L (br L);have hk:=hkP B0 B1 L d X;unfold bbc;cases h1:p d L with
 | none=>
  rw[h1]at hc0;simp only[bm,bh,vz]at hc0 ⊢;obtain⟨M,d',hc0⟩:=hc0;refine⟨M,d',xh rfl ?_⟩;replace hk:=hk M d';generalize Pst B0 B1 L d X=P at *;generalize Pst B0 B1 M d' X=Q at *;exact lf18
 | some x=>
  obtain⟨v,L1⟩:=x;rw[h1]at hc0;have hs:L1<:+L:=hp d L L (br L) _ h1;have hsl:=hs.length_le;have hloop:=drf B0 B1 k first caps d X L p hp hc (L1.length+1) [v] L1 hs (by omega) (by simp;omega)
  simp only[bc,bb,vz,cr,cg]at hc0 ⊢ hloop;cases h2:bbm p d (L1.length+1) [v] L1 with
  | none=>
   rw[h2]at hloop;simp only[bm,bh]at hloop ⊢;obtain⟨s,M,d',hl,hS⟩:=hloop;refine⟨M,d',xh rfl ?_⟩;replace hk:=hk M d';rw[← hS]at hk ⊢;simp only[b7h]at hl;obtain⟨star,table,expr,as'⟩:=v;simp only[It.av]at *;generalize Pst B0 B1 L d X=P at *;generalize Pst B0 B1 L1 d X=P1 at *;simp[-getElem?_pos,rZa,a237,hc0,hl,hk]
  | some y=>
   obtain⟨vs,N⟩:=y;rw[h2]at hloop;simp only[bb]at hloop ⊢;have qf:=c43 (.ptr 2 0) (Pst B0 B1 N d X) rfl;replace hk:=hk N d;simp only[b7h]at hloop;have hvl:(vs.map fun x=>(x).av).length=vs.length:=by simp
   by_cases hn:16<vs.length
   ·rw[if_pos hn];have hn':(16:Int)<(vs.length:Int):=by omega
    simp only[bm];refine⟨N,d,xh rfl ?_⟩;generalize (vs.map fun x=>(x).av)=V at *;obtain⟨star,table,expr,as'⟩:=v;simp only[It.av]at *;generalize Pst B0 B1 L d X=P at *;generalize Pst B0 B1 L1 d X=P1 at *;generalize Pst B0 B1 N d X=P2 at *;exact lf18
   ·rw[if_neg hn];have hn':¬ (16:Int)<(vs.length:Int):=by omega
    simp only[bc];refine xh rfl ?_;generalize (vs.map fun x=>(x).av)=V at *;obtain⟨star,table,expr,as'⟩:=v;simp only[It.av]at *;generalize Pst B0 B1 L d X=P at *;generalize Pst B0 B1 L1 d X=P1 at *;generalize Pst B0 B1 N d X=P2 at *;exact lf18
theorem lf19{p:Prop}(h:p:=by simp[-getElem?_pos,rZa,a239, *]):p:=h
theorem c239(B0 B1:Bx)(k:Nat)(first caps:LA)(d:Int)(X:LB)(L:LT)(hlen:L.length≤9000)(p:Rdr (Sr))(hp:Sfx p)
  (hc:∀M,M<:+L→vz B0 B1 k (first++caps) none M d X ((p d M).map fun x=>((x.1).av,x.2))) :
  vz B0 B1 239 [.ptr 2 0,.clos (.func k) first caps] (some 140) L d X ((bbc p d L).map fun x=>(.slice 6 (x.1.map fun x=>(x).av),x.2)):=by
 have hc0:=hc L (br L);have hk:=hkP B0 B1 L d X;unfold bbc;cases h1:p d L with
 | none=>
  rw[h1]at hc0;simp only[bm,bh,vz]at hc0 ⊢;obtain⟨M,d',hc0⟩:=hc0;refine⟨M,d',xh rfl ?_⟩;replace hk:=hk M d';generalize Pst B0 B1 L d X=P at *;generalize Pst B0 B1 M d' X=Q at *;exact lf19
 | some x=>
  obtain⟨v,L1⟩:=x;rw[h1]at hc0;have hs:L1<:+L:=hp d L L (br L) _ h1;have hsl:=hs.length_le;have hloop:=drd B0 B1 k first caps d X L p hp hc (L1.length+1) [v] L1 hs (by omega) (by simp;omega)
  simp only[bc,bb,vz,cr,cg]at hc0 ⊢ hloop;cases h2:bbm p d (L1.length+1) [v] L1 with
  | none=>
   rw[h2]at hloop;simp only[bm,bh]at hloop ⊢;obtain⟨s,M,d',hl,hS⟩:=hloop;refine⟨M,d',xh rfl ?_⟩;replace hk:=hk M d';rw[← hS]at hk ⊢;simp only[b7g]at hl;obtain⟨op,name,as',query,ins,on⟩:=v;simp only[Sr.av]at *;generalize Pst B0 B1 L d X=P at *;generalize Pst B0 B1 L1 d X=P1 at *;simp[-getElem?_pos,rZa,a239,hc0,hl,hk]
  | some y=>
   obtain⟨vs,N⟩:=y;rw[h2]at hloop;simp only[bb]at hloop ⊢;have qf:=c43 (.ptr 2 0) (Pst B0 B1 N d X) rfl;replace hk:=hk N d;simp only[b7g]at hloop;have hvl:(vs.map fun x=>(x).av).length=vs.length:=by simp
   by_cases hn:16<vs.length
   ·rw[if_pos hn];have hn':(16:Int)<(vs.length:Int):=by omega
    simp only[bm];refine⟨N,d,xh rfl ?_⟩;generalize (vs.map fun x=>(x).av)=V at *;obtain⟨op,name,as',query,ins,on⟩:=v;simp only[Sr.av]at *;generalize Pst B0 B1 L d X=P at *;generalize Pst B0 B1 L1 d X=P1 at *;generalize Pst B0 B1 N d X=P2 at *;exact lf19
   ·rw[if_neg hn];have hn':¬ (16:Int)<(vs.length:Int):=by omega
    simp only[bc];refine xh rfl ?_;generalize (vs.map fun x=>(x).av)=V at *;obtain⟨op,name,as',query,ins,on⟩:=v;simp only[Sr.av]at *;generalize Pst B0 B1 L d X=P at *;generalize Pst B0 B1 L1 d X=P1 at *;generalize Pst B0 B1 N d X=P2 at *;exact lf19
end Go.Av
namespace Go.Av
open Go Go.Proofs
theorem ds9(w:LU)(a b:Nd)(S:LB):rH 131 [.str (bs w),a.av,b.av] S (bhb w a b).av S:=by
 refine xh rfl ?_;obtain⟨op,text,num,no,dis,args,query⟩:=a;obtain⟨op',text',num',no',dis',args',query'⟩:=b;simp only[Nd.av,bhb,xd,zb];generalize xd args=A at *;generalize xd args'=A' at *;generalize zb query=Q at *;generalize zb query'=Q' at *;simp[-getElem?_pos,rZa,a131]
theorem brk(B0 B1:Bx)(w:LU)(hw:w≠[])(L:LT)(d:Int)(X:LB) :
  vz B0 B1 69 [.ptr 2 0,.slice 1 [.str (bs w)]] none L d X ((xm [w] L).map fun M=>(.tuple [],M)):=
 c69 B0 B1 [w] (by simp) (by simpa using hw) L d X
theorem lf20{p:Prop}(h:p:=by simp[-getElem?_pos,rZa,a75, *]):p:=h
theorem c75(B0 B1:Bx)(k:Nat)(first caps:LA)(d:Int)(h0:0≤d)(h1:d≤1000)(X:LB)(L:LT)(p:Rdr (List Nd))
  (hc:∀M,M.length<L.length→M<:+L→¬ 24<d+1→vz B0 B1 k (first++caps) (some 62) M (d+1) X ((p (d+1) M).map fun x=>(.slice 7 (xd x.1),x.2))) :
  vz B0 B1 75 [.ptr 2 0,.clos (.func k) first caps] (some 62) L d X ((bbz p d L).map fun x=>(.slice 7 (xd x.1),x.2)):=by
 have hk:=hkP B0 B1 L d X;have q1:vz B0 B1 69 [.ptr 2 0,.slice 1 [.str wb0]] none L d X ((xm [bh6] L).map fun M=>(.tuple [],M)):=brk B0 B1 bh6 (by simp) L d X;unfold bbz;cases e1:xm [bh6] L with
 | none=>
  rw[e1]at q1;simp only[bm,bh,vz]at q1 ⊢;obtain⟨M,d',q1⟩:=q1;refine⟨M,d',xh rfl ?_⟩;replace hk:=hk M d';generalize Pst B0 B1 L d X=P at *;generalize Pst B0 B1 M d' X=Q at *;exact lf20
 | some L1=>
  rw[e1]at q1;have hs:L1<:+L:=xj e1;have hlt:L1.length<L.length:=by
   simp only[xm]at e1;split at e1
   ·rename_i hpk;have:=zk hpk (by simp);obtain rfl:=bf e1;omega
   ·cases e1
  have q2:=c133 B0 B1 k first caps L1 d h0 h1 X (p (d+1) L1) (fun hd=>hc L1 hlt hs hd)
  have e2:(if 24<d+1 then none else(p (d+1) L1).map fun x=>(AV.slice 7 (xd x.1),x.2))=(bbj p d L1).map fun x=>(AV.slice 7 (xd x.1),x.2):=by
   unfold bbj;split<;>rfl
  rw[e2]at q2;simp only[bc,bb,vz]at q1 q2 ⊢;cases e3:bbj p d L1 with
  | none=>
   rw[e3]at q2;simp only[bm,bh]at q2 ⊢;obtain⟨M,d',q2⟩:=q2;refine⟨M,d',xh rfl ?_⟩;replace hk:=hk M d';generalize Pst B0 B1 L d X=P at *;generalize Pst B0 B1 L1 d X=P1 at *;generalize Pst B0 B1 M d' X=Q at *;exact lf20
  | some x=>
   obtain⟨v,L2⟩:=x;rw[e3]at q2;have q3:vz B0 B1 69 [.ptr 2 0,.slice 1 [.str wb2]] none L2 d X ((xm [brp] L2).map fun M=>(.tuple [],M)):=brk B0 B1 brp (by simp) L2 d X;simp only[bc,bb,vz]at q2 q3 ⊢;generalize hV:xd v=V at *;cases e4:xm [brp] L2 with
   | none=>
    rw[e4]at q3;simp only[bm,bh]at q3 ⊢;obtain⟨M,d',q3⟩:=q3;refine⟨M,d',xh rfl ?_⟩;replace hk:=hk M d';generalize Pst B0 B1 L d X=P at *;generalize Pst B0 B1 L1 d X=P1 at *;generalize Pst B0 B1 L2 d X=P2 at *;generalize Pst B0 B1 M d' X=Q at *;exact lf20
   | some L3=>
    rw[e4]at q3;simp only[bc,bb]at q3 ⊢;refine xh rfl ?_;replace hk:=hk L3 d;generalize Pst B0 B1 L d X=P at *;generalize Pst B0 B1 L1 d X=P1 at *;generalize Pst B0 B1 L2 d X=P2 at *;generalize Pst B0 B1 L3 d X=Q at *;exact lf20
end Go.Av
namespace Go.Av
open Go Go.Proofs
theorem lf21{p:Prop}(h:p:=by simp[-getElem?_pos,rZa,a70, *]):p:=h
theorem c70(B0 B1:Bx)(d:Int)(h0:0≤d)(h1:d≤1000)(X:LB)(L:LT)(p:Rdr Qr)
  (hc:∀M,M.length<L.length→M<:+L→¬ 24<d+1→vz B0 B1 41 [.ptr 2 0] none M (d+1) X ((p (d+1) M).map fun x=>(x.1.av,x.2))) :
  vz B0 B1 70 [.ptr 2 0] none L d X ((bbz p d L).map fun x=>(x.1.av,x.2)):=by
 have hk:=hkP B0 B1 L d X;have q1:vz B0 B1 69 [.ptr 2 0,.slice 1 [.str wb0]] none L d X ((xm [bh6] L).map fun M=>(.tuple [],M)):=brk B0 B1 bh6 (by simp) L d X;unfold bbz;cases e1:xm [bh6] L with
 | none=>
  rw[e1]at q1;simp only[bm,bh,vz]at q1 ⊢;obtain⟨M,d',q1⟩:=q1;refine⟨M,d',xh rfl ?_⟩;replace hk:=hk M d';generalize Pst B0 B1 L d X=P at *;generalize Pst B0 B1 M d' X=Q at *;exact lf21
 | some L1=>
  rw[e1]at q1;have hs:L1<:+L:=xj e1;have hlt:L1.length<L.length:=by
   simp only[xm]at e1;split at e1
   ·rename_i hpk;have:=zk hpk (by simp);obtain rfl:=bf e1;omega
   ·cases e1
  have q2:=c128 B0 B1 41 [.ptr 2 0] [] L1 d h0 h1 X (p (d+1) L1) (fun hd=>hc L1 hlt hs hd);have e2:(if 24<d+1 then none else(p (d+1) L1).map fun x=>(x.1.av,x.2))=(bbj p d L1).map fun x=>(x.1.av,x.2):=by
   unfold bbj;split<;>rfl
  rw[e2]at q2;simp only[bc,bb,vz]at q1 q2 ⊢;cases e3:bbj p d L1 with
  | none=>
   rw[e3]at q2;simp only[bm,bh]at q2 ⊢;obtain⟨M,d',q2⟩:=q2;refine⟨M,d',xh rfl ?_⟩;replace hk:=hk M d';generalize Pst B0 B1 L d X=P at *;generalize Pst B0 B1 L1 d X=P1 at *;generalize Pst B0 B1 M d' X=Q at *;exact lf21
  | some x=>
   obtain⟨v,L2⟩:=x;rw[e3]at q2;have q3:vz B0 B1 69 [.ptr 2 0,.slice 1 [.str wb2]] none L2 d X ((xm [brp] L2).map fun M=>(.tuple [],M)):=brk B0 B1 brp (by simp) L2 d X;simp only[bc,bb,vz]at q2 q3 ⊢;obtain⟨⟨c0,c1,c2,i3,i4,i5,i6,i7,i8,i9⟩,ks,li,of⟩:=v;simp only[Qr.av,Bd.cells,rZd]at *;cases e4:xm [brp] L2 with
   | none=>
    rw[e4]at q3;simp only[bm,bh]at q3 ⊢;obtain⟨M,d',q3⟩:=q3;refine⟨M,d',xh rfl ?_⟩;replace hk:=hk M d';generalize Pst B0 B1 L d X=P at *;generalize Pst B0 B1 L1 d X=P1 at *;generalize Pst B0 B1 L2 d X=P2 at *;generalize Pst B0 B1 M d' X=Q at *;exact lf21
   | some L3=>
    rw[e4]at q3;simp only[bc,bb]at q3 ⊢;refine xh rfl ?_;replace hk:=hk L3 d;generalize Pst B0 B1 L d X=P at *;generalize Pst B0 B1 L1 d X=P1 at *;generalize Pst B0 B1 L2 d X=P2 at *;generalize Pst B0 B1 L3 d X=Q at *;simp[-getElem?_pos,rZa,a70,q1,q2,q3,hk,Qr.av,Bd.cells]
end Go.Av
namespace Go.Av
open Go Go.Proofs
def b1q:LV→LU→Nat→Int
 | [],_,_=>-1
 | x::r,w,i=>if w=x then(i:Int) else b1q r w (i+1)
theorem c8m:∀(ws:LV) (w:LU) (i:Nat),decide (0≤b1q ws w i)=decide (w∈ws)
 | [],w,i=>by simp[b1q]
 | x::r,w,i=>by
  by_cases h:w=x
  ·have e:b1q (x::r) w i=i:=by simp[b1q,h]
   rw[e];simp[h]
  ·have e:b1q (x::r) w i=b1q r w (i+1):=by simp[b1q,h]
   rw[e,c8m r w (i+1)];simp[h]
def ctr(S:LB)(ws:LA)(w:LU)(i:Nat):St:={σ:=[(0,.v (.slice 1 ws)),(1,.v (.str (bs w))),(7,.v (ii (ws.length:Int))),(8,.v (ii (i:Int)))],own:=[],loc:=[],S:=S}
theorem lf22{p:Prop}(h:p:=by simp[-getElem?_pos,rZa,b6z,ctr,zm, *]):p:=h
theorem drj(S:LB)(ws:LV)(hl:ws.length≤1000)(w:LU):∀(n i:Nat),ws.length - i=n→i≤ws.length →
  zc (xf bbf b6z) (ctr S (bgg ws) w i)=some (if b1q (ws.drop i) w i=-1 then(.exit 0,{σ:=[],own:=[],loc:=[],S:=S}) else(.ret,{σ:=[(4,.v (ii (b1q (ws.drop i) w i)))],own:=[],loc:=[],S:=S})):=by
 have hlen:(bgg ws).length=ws.length:=by simp[bgg]
 intro n
 induction n with
 | zero=>
  intro i hn hi;obtain rfl:i=ws.length:=by omega
  rw[mh];simp only[b1q,if_pos];refine xc ?_ (by simp);rw[xb];generalize bgg ws=W at *;simp[-getElem?_pos,rZa,b6z,ctr,hlen]
 | succ n ih=>
  intro i hn hi;have hlt:i<ws.length:=by omega
  have h1':(i:Int)<(ws.length:Int):=by omega
  have g:(bgg ws)[i]? = some (.str (bs ws[i])):=by unfold bgg;rw[d4,cz hlt];rfl
  have wr:=bp7 (n:=i) (by omega);rw[mf hlt];generalize ws[i]=x at *;by_cases h:w=x
  ·have e:b1q (x::ws.drop (i+1)) w i=i:=by simp[b1q,h]
   rw[e,if_neg (by omega)];refine xc ?_ (by simp);rw[xb];generalize bgg ws=W at *;exact lf22
  ·have e:b1q (x::ws.drop (i+1)) w i=b1q (ws.drop (i+1)) w (i+1):=by simp[b1q,h]
   rw[e];have h':¬ bs w=bs x:=fun e=>h (chs e)
   have hstep:xf bbf b6z (ctr S (bgg ws) w i)=some (.normal,ctr S (bgg ws) w (i+1)):=by
    rw[xb];generalize bgg ws=W at *;exact lf22
   rw[xq hstep];exact ih (i+1) (by omega) (by omega)
theorem lf23{p:Prop}(h:p:=by simp[-getElem?_pos,rZa,a174, *]):p:=h
theorem c174(S:LB)(ws:LV)(hl:ws.length≤1000)(w:LU):rH 174 [.slice 1 (bgg ws),.str (bs w)] S (ii (b1q ws w 0)) S:=by
 have h:=drj S ws hl w ws.length 0 (by omega) (by omega);have hlen:(bgg ws).length=ws.length:=by simp[bgg]
 rw[dj]at h;simp only[ctr,hlen,cx,dd]at h;refine xh rfl ?_;generalize bgg ws=W at *;generalize b1q ws w 0=k at *;by_cases e:k=-1
 ·subst e;rw[if_pos rfl]at h;exact lf23
 ·rw[if_neg e]at h;exact lf23
theorem c172(S:LB)(ws:LV)(hl:ws.length≤1000)(w:LU):rH 172 [.slice 1 (bgg ws),.str (bs w)] S (.bool (decide (w∈ws))) S:=by
 have h:=c174 S ws hl w;rw[← c8m ws w 0];refine xh rfl ?_;generalize bgg ws=W at *;generalize b1q ws w 0=k at *;simp[-getElem?_pos,rZa,a172,h]
end Go.Av
namespace Go.Av
open Go Go.Proofs
def b1c:Bx:={cells:=[ii 0,.str ⟨#[]⟩,ii 0,.bool false,.bool false,.slice 7 [],.slice 13 []],own:=[(5,62),(6,32)]}
def b40(B0 B1:Bx)(k:Nat)(first caps:LA)(d:Int)(X:LB)(ws:LA)(a:LA)(L:LT):St:=
 {σ:=[(0,.v (.ptr 2 0)),(1,.v (.clos (.func k) first caps)),(2,.v (.slice 1 ws)),(3,.v (.clos (.func 131) [] [])),(8,.l 8 0),(9,.l 9 0)],own:=[],loc:=[(8,b1c),(9,{cells:=a})],S:=Pst B0 B1 L d X}
theorem lf24{p:Prop}(h:p:=by simp[-getElem?_pos,rZa,bv8,b1c, *]):p:=h
theorem dfv(B0 B1:Bx)(k:Nat)(first caps:LA)(d:Int)(X:LB)(ws:LV)(hl:ws.length≤1000)(hw:∀w∈ws,w≠[])(a:Nd)(v:Nd)(L N:LT)(h:pk L∈ws)
  (hc:rH k (first++caps) (Pst B0 B1 (L.drop 1) d X) v.av (Pst B0 B1 N d X)) :
  xf bbf bv8 (b40 B0 B1 k first caps d X (bgg ws) a.av.cells L)=some (.normal,b40 B0 B1 k first caps d X (bgg ws) (bhb (pk L) a v).av.cells N):=by
 have qp:=c68 B0 B1 L d X;have qc:=c172 (Pst B0 B1 L d X) ws hl (pk L);have qm:=brk B0 B1 (pk L) (hw _ h) L d X;have qb:=ds9 (pk L) a v (Pst B0 B1 N d X);simp only[h,decide_true]at qc;simp only[xm,if_true,bc,vz]at qm;obtain⟨op,text,num,no,dis,args,query⟩:=a;obtain⟨op',text',num',no',dis',args',query'⟩:=v;simp only[Nd.av,bhb,AV.cells]at *;rw[xb];simp only[b40];generalize pk L=w at *;generalize bgg ws=W at *;generalize Pst B0 B1 L d X=P at *;generalize Pst B0 B1 (L.drop 1) d X=P1 at *;generalize Pst B0 B1 N d X=P2 at *;exact lf24
theorem dfz(B0 B1:Bx)(k:Nat)(first caps:LA)(d d':Int)(X:LB)(ws:LV)(hl:ws.length≤1000)(hw:∀w∈ws,w≠[])(a:Nd)(L M:LT)(h:pk L∈ws)
  (hc:bbf k (first++caps) (Pst B0 B1 (L.drop 1) d X)=some (.panic fv,Pst B0 B1 M d' X)) :
  ∃s,xf bbf bv8 (b40 B0 B1 k first caps d X (bgg ws) a.av.cells L)=some (.panic fv,s)∧s.S=Pst B0 B1 M d' X:=by
 have qp:=c68 B0 B1 L d X;have qc:=c172 (Pst B0 B1 L d X) ws hl (pk L);have qm:=brk B0 B1 (pk L) (hw _ h) L d X;simp only[h,decide_true]at qc;simp only[xm,if_true,bc,vz]at qm;obtain⟨op,text,num,no,dis,args,query⟩:=a;simp only[Nd.av,AV.cells]at *;refine bd8 ?_;rw[xb];simp only[b40];generalize pk L=w at *;generalize bgg ws=W at *;generalize Pst B0 B1 L d X=P at *;generalize Pst B0 B1 (L.drop 1) d X=P1 at *;generalize Pst B0 B1 M d' X=P2 at *;exact lf24
theorem dqc(B0 B1:Bx)(k:Nat)(first caps:LA)(d:Int)(X:LB)(ws:LV)(hl:ws.length≤1000)(a:Nd)(L:LT)(h:¬ pk L∈ws) :
  xf bbf bv8 (b40 B0 B1 k first caps d X (bgg ws) a.av.cells L)=some (.exit 0,{σ:=[(8,.l 8 0),(9,.l 9 0)],own:=[],loc:=[(8,b1c),(9,{cells:=a.av.cells})],S:=Pst B0 B1 L d X}):=by
 have qp:=c68 B0 B1 L d X;have qc:=c172 (Pst B0 B1 L d X) ws hl (pk L);simp only[h,decide_false]at qc;obtain⟨op,text,num,no,dis,args,query⟩:=a;simp only[Nd.av,AV.cells]at *;rw[xb];simp only[b40];generalize pk L=w at *;generalize bgg ws=W at *;generalize Pst B0 B1 L d X=P at *;exact lf24
end Go.Av
namespace Go.Av
open Go Go.Proofs
theorem dfx(B0 B1:Bx)(k:Nat)(first caps:LA)(d:Int)(X:LB)(L0:LT)(ws:LV)(hl:ws.length≤1000)(hw:∀w∈ws,w≠[])(p:Rdr Nd)(hp:Sfx p)
  (hc:∀M,M<:+L0→vz B0 B1 k (first++caps) none M d X ((p d M).map fun x=>(x.1.av,x.2))):∀(f:Nat) (a:Nd) (L:LT),L<:+L0→L.length<f →
  match bdz p ws d f a L with
  | some (v,N)=>zc (xf bbf bv8) (b40 B0 B1 k first caps d X (bgg ws) a.av.cells L)=some (.exit 0,{σ:=[(8,.l 8 0),(9,.l 9 0)],own:=[],loc:=[(8,b1c),(9,{cells:=v.av.cells})],S:=Pst B0 B1 N d X})
  | none=>∃s M d',zc (xf bbf bv8) (b40 B0 B1 k first caps d X (bgg ws) a.av.cells L)=some (.panic fv,s)∧s.S=Pst B0 B1 M d' X:=by
 intro f
 induction f with
 | zero=>intro a L _ h;omega
 | succ f ih=>
  intro a L hs hf;simp only[bdz];by_cases h:pk L∈ws
  ·rw[if_pos h];have hlen:=zk (L:=L) rfl (hw _ h);have hd:L.drop 1<:+L0:=(xp L).trans hs;have hc':=hc _ hd;cases hp':p d (L.drop 1) with
   | none=>
    rw[hp']at hc';simp only[bm,vz,bh]at hc' ⊢;obtain⟨M,d',hc'⟩:=hc';obtain⟨s,e,es⟩:=dfz B0 B1 k first caps d d' X ws hl hw a L M h hc'
    exact⟨s,M,d',xc e (by simp),es⟩
   | some x=>
    obtain⟨v,N⟩:=x;rw[hp']at hc';simp only[bc,vz,bb]at hc' ⊢;have hN:N<:+L.drop 1:=hp d _ _ (br _) _ hp';have hNl:=hN.length_le;have:=ih (bhb (pk L) a v) N (hN.trans hd) (by omega);rw[xq (dfv B0 B1 k first caps d X ws hl hw a v L N h hc')];exact this
  ·rw[if_neg h];exact xc (dqc B0 B1 k first caps d X ws hl a L h) (by simp)
theorem lf25{p:Prop}(h:p:=by simp[-getElem?_pos,rZa,a129, *]):p:=h
theorem c129(B0 B1:Bx)(k:Nat)(first caps:LA)(d:Int)(X:LB)(L:LT)(ws:LV)(hl:ws.length≤1000)(hw:∀w∈ws,w≠[])(p:Rdr Nd)(hp:Sfx p)
  (hc:∀M,M<:+L→vz B0 B1 k (first++caps) none M d X ((p d M).map fun x=>(x.1.av,x.2))) :
  vz B0 B1 129 [.ptr 2 0,.clos (.func k) first caps,.slice 1 (bgg ws),.clos (.func 131) [] []] none L d X ((bxt p ws d L).map fun x=>(x.1.av,x.2)):=by
 have hc0:=hc L (br L);have hk:=hkP B0 B1 L d X;unfold bxt;cases h1:p d L with
 | none=>
  rw[h1]at hc0;simp only[bm,bh,vz]at hc0 ⊢;obtain⟨M,d',hc0⟩:=hc0;refine⟨M,d',xh rfl ?_⟩;replace hk:=hk M d';generalize bgg ws=W at *;generalize Pst B0 B1 L d X=P at *;generalize Pst B0 B1 M d' X=Q at *;exact lf25
 | some x=>
  obtain⟨v,L1⟩:=x;rw[h1]at hc0;have hs:L1<:+L:=hp d L L (br L) _ h1;have hloop:=dfx B0 B1 k first caps d X L ws hl hw p hp hc (L1.length+1) v L1 hs (by omega)
  simp only[bc,bb,vz]at hc0 ⊢ hloop;cases h2:bdz p ws d (L1.length+1) v L1 with
  | none=>
   rw[h2]at hloop;simp only[bm]at hloop ⊢;obtain⟨s,M,d',hl',hS⟩:=hloop;refine⟨M,d',xh rfl ?_⟩;replace hk:=hk M d';rw[← hS]at hk ⊢;simp only[b40]at hl';obtain⟨op,text,num,no,dis,args,query⟩:=v;simp only[Nd.av,AV.cells,b1c]at *;generalize bgg ws=W at *;generalize Pst B0 B1 L d X=P at *;generalize Pst B0 B1 L1 d X=P1 at *;simp[-getElem?_pos,rZa,a129,hc0,hl',hk]
  | some y=>
   obtain⟨r,N⟩:=y;rw[h2]at hloop;simp only[bc]at hloop ⊢;replace hk:=hk N d;simp only[b40]at hloop;refine xh rfl ?_;obtain⟨op,text,num,no,dis,args,query⟩:=v;obtain⟨op',text',num',no',dis',args',query'⟩:=r;simp only[Nd.av,AV.cells,b1c]at *;generalize bgg ws=W at *;generalize Pst B0 B1 L d X=P at *;generalize Pst B0 B1 L1 d X=P1 at *;generalize Pst B0 B1 N d X=P2 at *;exact lf25
end Go.Av
namespace Go.Av
open Go Go.Proofs
theorem lf26{p:Prop}(h:p:=by simp[-getElem?_pos,rZa,a73, *]):p:=h
theorem c73(B0 B1:Bx)(d:Int)(X:LB)(L:LT)(p:Rdr Nd)(hp:Sfx p)
  (hc:∀M,M<:+L→vz B0 B1 130 [.ptr 2 0] none M d X ((p d M).map fun x=>(x.1.av,x.2))) :
  vz B0 B1 73 [.ptr 2 0] none L d X ((bxt p [[111,114]] d L).map fun x=>(x.1.av,x.2)):=by
 have h:vz B0 B1 129 [.ptr 2 0,.clos (.func 130) [.ptr 2 0] [],.slice 1 [.str dc8],.clos (.func 131) [] []] none L d X ((bxt p [[111,114]] d L).map fun x=>(x.1.av,x.2)):=
  c129 B0 B1 130 [.ptr 2 0] [] d X L [[111,114]] (by simp) (by simp) p hp hc
 have hk:=hkP B0 B1 L d X;cases e:bxt p [[111,114]] d L with
 | none=>
  rw[e]at h;simp only[bm,vz]at h ⊢;obtain⟨M,d',h⟩:=h;refine⟨M,d',xh rfl ?_⟩;replace hk:=hk M d';generalize Pst B0 B1 L d X=P at *;generalize Pst B0 B1 M d' X=Q at *;exact lf26
 | some x=>
  obtain⟨v,N⟩:=x;rw[e]at h;simp only[bc,vz]at h ⊢;refine xh rfl ?_;replace hk:=hk N d;obtain⟨op,text,num,no,dis,args,query⟩:=v;simp only[Nd.av]at h ⊢;generalize Pst B0 B1 L d X=P at *;generalize Pst B0 B1 N d X=Q at *;exact lf26
theorem lf27{p:Prop}(h:p:=by simp[-getElem?_pos,rZa,a130, *]):p:=h
theorem c130(B0 B1:Bx)(d:Int)(X:LB)(L:LT)(p:Rdr Nd)(hp:Sfx p)
  (hc:∀M,M<:+L→vz B0 B1 173 [.ptr 2 0] none M d X ((p d M).map fun x=>(x.1.av,x.2))) :
  vz B0 B1 130 [.ptr 2 0] none L d X ((bxt p [[97,110,100]] d L).map fun x=>(x.1.av,x.2)):=by
 have h:vz B0 B1 129 [.ptr 2 0,.clos (.func 173) [.ptr 2 0] [],.slice 1 [.str cj1],.clos (.func 131) [] []] none L d X ((bxt p [[97,110,100]] d L).map fun x=>(x.1.av,x.2)):=
  c129 B0 B1 173 [.ptr 2 0] [] d X L [[97,110,100]] (by simp) (by simp) p hp hc
 have hk:=hkP B0 B1 L d X;cases e:bxt p [[97,110,100]] d L with
 | none=>
  rw[e]at h;simp only[bm,vz]at h ⊢;obtain⟨M,d',h⟩:=h;refine⟨M,d',xh rfl ?_⟩;replace hk:=hk M d';generalize Pst B0 B1 L d X=P at *;generalize Pst B0 B1 M d' X=Q at *;exact lf27
 | some x=>
  obtain⟨v,N⟩:=x;rw[e]at h;simp only[bc,vz]at h ⊢;refine xh rfl ?_;replace hk:=hk N d;obtain⟨op,text,num,no,dis,args,query⟩:=v;simp only[Nd.av]at h ⊢;generalize Pst B0 B1 L d X=P at *;generalize Pst B0 B1 N d X=Q at *;exact lf27
theorem lf28{p:Prop}(h:p:=by simp[-getElem?_pos,rZa,a235, *]):p:=h
theorem c235(B0 B1:Bx)(d:Int)(X:LB)(L:LT)(p:Rdr Nd)(hp:Sfx p)
  (hc:∀M,M<:+L→vz B0 B1 254 [.ptr 2 0] none M d X ((p d M).map fun x=>(x.1.av,x.2))) :
  vz B0 B1 235 [.ptr 2 0] none L d X ((bxt p [[43],[45],[124,124]] d L).map fun x=>(x.1.av,x.2)):=by
 have h:vz B0 B1 129 [.ptr 2 0,.clos (.func 254) [.ptr 2 0] [],.slice 1 [.str dks,.str cjr,.str dkt],.clos (.func 131) [] []] none L d X ((bxt p [[43],[45],[124,124]] d L).map fun x=>(x.1.av,x.2)):=
  c129 B0 B1 254 [.ptr 2 0] [] d X L [[43],[45],[124,124]] (by simp) (by simp) p hp hc
 have hk:=hkP B0 B1 L d X;cases e:bxt p [[43],[45],[124,124]] d L with
 | none=>
  rw[e]at h;simp only[bm,vz]at h ⊢;obtain⟨M,d',h⟩:=h;refine⟨M,d',xh rfl ?_⟩;replace hk:=hk M d';generalize Pst B0 B1 L d X=P at *;generalize Pst B0 B1 M d' X=Q at *;exact lf28
 | some x=>
  obtain⟨v,N⟩:=x;rw[e]at h;simp only[bc,vz]at h ⊢;refine xh rfl ?_;replace hk:=hk N d;obtain⟨op,text,num,no,dis,args,query⟩:=v;simp only[Nd.av]at h ⊢;generalize Pst B0 B1 L d X=P at *;generalize Pst B0 B1 N d X=Q at *;exact lf28
theorem lf29{p:Prop}(h:p:=by simp[-getElem?_pos,rZa,a254, *]):p:=h
theorem c254(B0 B1:Bx)(d:Int)(X:LB)(L:LT)(p:Rdr Nd)(hp:Sfx p)
  (hc:∀M,M<:+L→vz B0 B1 265 [.ptr 2 0] none M d X ((p d M).map fun x=>(x.1.av,x.2))) :
  vz B0 B1 254 [.ptr 2 0] none L d X ((bxt p [[42],[47],[37]] d L).map fun x=>(x.1.av,x.2)):=by
 have h:vz B0 B1 129 [.ptr 2 0,.clos (.func 265) [.ptr 2 0] [],.slice 1 [.str wb1,.str dkr,.str dkq],.clos (.func 131) [] []] none L d X ((bxt p [[42],[47],[37]] d L).map fun x=>(x.1.av,x.2)):=
  c129 B0 B1 265 [.ptr 2 0] [] d X L [[42],[47],[37]] (by simp) (by simp) p hp hc
 have hk:=hkP B0 B1 L d X;cases e:bxt p [[42],[47],[37]] d L with
 | none=>
  rw[e]at h;simp only[bm,vz]at h ⊢;obtain⟨M,d',h⟩:=h;refine⟨M,d',xh rfl ?_⟩;replace hk:=hk M d';generalize Pst B0 B1 L d X=P at *;generalize Pst B0 B1 M d' X=Q at *;exact lf29
 | some x=>
  obtain⟨v,N⟩:=x;rw[e]at h;simp only[bc,vz]at h ⊢;refine xh rfl ?_;replace hk:=hk N d;obtain⟨op,text,num,no,dis,args,query⟩:=v;simp only[Nd.av]at h ⊢;generalize Pst B0 B1 L d X=P at *;generalize Pst B0 B1 N d X=Q at *;exact lf29
end Go.Av
namespace Go.Av
open Go Go.Proofs
theorem lf30{p:Prop}(h:p:=by simp[-getElem?_pos,rZa,a173, *]):p:=h
theorem c173(B0 B1:Bx)(d:Int)(h0:0≤d)(h1:d≤1000)(X:LB)(L:LT)(p q:Rdr Nd)
  (hn:∀M,M.length<L.length→M<:+L→¬ 24<d+1→vz B0 B1 173 [.ptr 2 0] none M (d+1) X ((p (d+1) M).map fun x=>(x.1.av,x.2)))
  (hc:vz B0 B1 207 [.ptr 2 0] none L d X ((q d L).map fun x=>(x.1.av,x.2))) :
  vz B0 B1 173 [.ptr 2 0] none L d X ((if pk L=bpk then(bbj p d (L.drop 1)).bind fun x=>some (Nd.mk 10 bpk 0 false false [x.1] [],x.2) else q d L).map fun x=>(x.1.av,x.2)):=by
 have qi:rH 42 [.ptr 2 0,.slice 1 [.str wb8]] (Pst B0 B1 L d X) (.bool (isG bpk L).1) (Pst B0 B1 (isG bpk L).2 d X):=bc7 B0 B1 bpk (by simp) L d X;have hk:=hkP B0 B1 L d X;by_cases h:pk L=bpk
 ·rw[xx h]at qi;dsimp only at qi;rw[if_pos h];have hlen:=zk h (by simp);have h2:=c71 B0 B1 173 [.ptr 2 0] [] (L.drop 1) d h0 h1 X (p (d+1) (L.drop 1)) (fun hd=>hn _ (by omega) (xp L) hd);have e2:(if 24<d+1 then none else(p (d+1) (L.drop 1)).map fun x=>(x.1.av,x.2))=(bbj p d (L.drop 1)).map fun x=>(x.1.av,x.2):=by
   unfold bbj;split<;>rfl
  rw[e2]at h2;cases e3:bbj p d (L.drop 1) with
  | none=>
   rw[e3]at h2;simp only[bm,bh,vz]at h2 ⊢;obtain⟨M,d',h2⟩:=h2;refine⟨M,d',xh rfl ?_⟩;replace hk:=hk M d';generalize Pst B0 B1 L d X=P at *;generalize Pst B0 B1 (L.drop 1) d X=P1 at *;generalize Pst B0 B1 M d' X=Q at *;exact lf30
  | some x=>
   obtain⟨v,N⟩:=x;rw[e3]at h2;simp only[bc,bb,vz]at h2 ⊢;refine xh rfl ?_;replace hk:=hk N d;obtain⟨op,text,num,no,dis,args,query⟩:=v;simp only[Nd.av,xd,zb]at h2 ⊢;generalize Pst B0 B1 L d X=P at *;generalize Pst B0 B1 (L.drop 1) d X=P1 at *;generalize Pst B0 B1 N d X=Q at *;simp[-getElem?_pos,rZa,a173,qi,h2,hk];rfl
 ·rw[xk h]at qi;dsimp only at qi;rw[if_neg h];cases e3:q d L with
  | none=>
   rw[e3]at hc;simp only[bm,vz]at hc ⊢;obtain⟨M,d',hc⟩:=hc;refine⟨M,d',xh rfl ?_⟩;replace hk:=hk M d';generalize Pst B0 B1 L d X=P at *;generalize Pst B0 B1 M d' X=Q at *;exact lf30
  | some x=>
   obtain⟨v,N⟩:=x;rw[e3]at hc;simp only[bc,vz]at hc ⊢;refine xh rfl ?_;replace hk:=hk N d;obtain⟨op,text,num,no,dis,args,query⟩:=v;simp only[Nd.av]at hc ⊢;generalize Pst B0 B1 L d X=P at *;generalize Pst B0 B1 N d X=Q at *;exact lf30
theorem lf31{p:Prop}(h:p:=by simp[-getElem?_pos,rZa,a265, *]):p:=h
theorem c265(B0 B1:Bx)(d:Int)(h0:0≤d)(h1:d≤1000)(X:LB)(L:LT)(p q:Rdr Nd)
  (hn:∀M,M.length<L.length→M<:+L→¬ 24<d+1→vz B0 B1 265 [.ptr 2 0] none M (d+1) X ((p (d+1) M).map fun x=>(x.1.av,x.2)))
  (hc:vz B0 B1 271 [.ptr 2 0] none L d X ((q d L).map fun x=>(x.1.av,x.2))) :
  vz B0 B1 265 [.ptr 2 0] none L d X ((if pk L=bd6 then(bbj p d (L.drop 1)).bind fun x=>some (Nd.mk 10 bd6 0 false false [x.1] [],x.2) else q d L).map fun x=>(x.1.av,x.2)):=by
 have qi:rH 42 [.ptr 2 0,.slice 1 [.str cjr]] (Pst B0 B1 L d X) (.bool (isG bd6 L).1) (Pst B0 B1 (isG bd6 L).2 d X):=bc7 B0 B1 bd6 (by simp) L d X;have hk:=hkP B0 B1 L d X;by_cases h:pk L=bd6
 ·rw[xx h]at qi;dsimp only at qi;rw[if_pos h];have hlen:=zk h (by simp);have h2:=c71 B0 B1 265 [.ptr 2 0] [] (L.drop 1) d h0 h1 X (p (d+1) (L.drop 1)) (fun hd=>hn _ (by omega) (xp L) hd);have e2:(if 24<d+1 then none else(p (d+1) (L.drop 1)).map fun x=>(x.1.av,x.2))=(bbj p d (L.drop 1)).map fun x=>(x.1.av,x.2):=by
   unfold bbj;split<;>rfl
  rw[e2]at h2;cases e3:bbj p d (L.drop 1) with
  | none=>
   rw[e3]at h2;simp only[bm,bh,vz]at h2 ⊢;obtain⟨M,d',h2⟩:=h2;refine⟨M,d',xh rfl ?_⟩;replace hk:=hk M d';generalize Pst B0 B1 L d X=P at *;generalize Pst B0 B1 (L.drop 1) d X=P1 at *;generalize Pst B0 B1 M d' X=Q at *;exact lf31
  | some x=>
   obtain⟨v,N⟩:=x;rw[e3]at h2;simp only[bc,bb,vz]at h2 ⊢;refine xh rfl ?_;replace hk:=hk N d;obtain⟨op,text,num,no,dis,args,query⟩:=v;simp only[Nd.av,xd,zb]at h2 ⊢;generalize Pst B0 B1 L d X=P at *;generalize Pst B0 B1 (L.drop 1) d X=P1 at *;generalize Pst B0 B1 N d X=Q at *;simp[-getElem?_pos,rZa,a265,qi,h2,hk];rfl
 ·rw[xk h]at qi;dsimp only at qi;rw[if_neg h];cases e3:q d L with
  | none=>
   rw[e3]at hc;simp only[bm,vz]at hc ⊢;obtain⟨M,d',hc⟩:=hc;refine⟨M,d',xh rfl ?_⟩;replace hk:=hk M d';generalize Pst B0 B1 L d X=P at *;generalize Pst B0 B1 M d' X=Q at *;exact lf31
  | some x=>
   obtain⟨v,N⟩:=x;rw[e3]at hc;simp only[bc,vz]at hc ⊢;refine xh rfl ?_;replace hk:=hk N d;obtain⟨op,text,num,no,dis,args,query⟩:=v;simp only[Nd.av]at hc ⊢;generalize Pst B0 B1 L d X=P at *;generalize Pst B0 B1 N d X=Q at *;exact lf31
end Go.Av
namespace Go.Av
open Go Go.Proofs
theorem cm4(a b:LU):(a==b)=decide (a=b):=by by_cases h:a=b<;>simp[h]
theorem dmt:bs []=⟨#[]⟩:=rfl
theorem rZb:type_of% (And.intro @zm (And.intro @cm3 (And.intro @dmt @cm4))):=And.intro @zm (And.intro @cm3 (And.intro @dmt @cm4))
structure Fit(n:Nat)(L:LT)(d:Int):Prop where
 len:L.length<n
 cap:n≤9000
 good:cbb L
 h0:0≤d
 h1:d≤24
theorem Fit.sfx{n:Nat}{L M:LT}{d:Int}(F:Fit n L d)(h:M<:+L):Fit n M d:=⟨by have:=h.length_le;have:=F.len;omega,F.cap,F.good.sfx h,F.h0,F.h1⟩
theorem Fit.down{n:Nat}{L M:LT}{d:Int}(F:Fit (n+1) L d)(h:M<:+L)(hl:M.length<L.length):Fit n M d:=⟨by have:=F.len;omega,by have:=F.cap;omega,F.good.sfx h,F.h0,F.h1⟩
theorem Fit.deep{n:Nat}{L M:LT}{d:Int}(F:Fit (n+1) L d)(h:M<:+L)(hl:M.length<L.length)(hd:¬ 24<d+1):Fit n M (d+1):=⟨by have:=F.len;omega,by have:=F.cap;omega,F.good.sfx h,by have:=F.h0;omega,by omega⟩
theorem Fit.l9{n:Nat}{L:LT}{d:Int}(F:Fit n L d):L.length≤9000:=by have:=F.len;have:=F.cap;omega
theorem Fit.d3{n:Nat}{L:LT}{d:Int}(F:Fit n L d):d≤1000:=by have:=F.h1;omega
def Rc{α:Type}(B0 B1:Bx)(f:Nat)(av:α→AV)(own:Option Nat)(p:Rdr α)(n:Nat):Prop:=
 ∀L d X,Fit n L d→vz B0 B1 f [.ptr 2 0] own L d X ((p d L).map fun x=>(av x.1,x.2))
structure PR(B0 B1:Bx)(R:Rd)(n:Nat):Prop where
 sfx:R.Sfx
 query:Rc B0 B1 41 Qr.av none R.query n
 expr:Rc B0 B1 73 Nd.av none R.expr n
 neg:Rc B0 B1 173 Nd.av none R.neg n
 sign:Rc B0 B1 265 Nd.av none R.sign n
variable{B0 B1:Bx}{R:Rd}{n:Nat}
theorem bf8{w:LU}{ws:LV}{L M:LT}(hw:w≠[])(h:xm (w::ws) L=some M):M.length<L.length:=by
 simp only[xm]at h;split at h
 ·rename_i e;have:=zk e hw;have:=(xj h).length_le;omega
 ·cases h
theorem bgh{w:LU}{L:LT}(h:pk L=w)(hw:w≠[]):(L.drop 1).length<L.length:=by have:=zk h hw;omega
theorem c74(L:LT)(d:Int)(X:LB):rH 74 [.ptr 2 0] (Pst B0 B1 L d X) (.bool (bt2 L)) (Pst B0 B1 L d X):=by
 have q1:=c68 B0 B1 L d X;have q2:=dj8 B0 B1 L d X;refine xh rfl ?_;unfold bt2;generalize pk L=a at *;generalize pk (L.drop 1)=b at *;generalize Pst B0 B1 L d X=P at *;by_cases h1:a=bh6
 ·by_cases h2:b=bft
  ·simp[-getElem?_pos,rZa,zm,cm3,a74,q1,q2,h1,h2]
  ·by_cases h3:b=bgj
   ·simp[-getElem?_pos,rZa,zm,cm3,a74,q1,q2,h1,h3]
   ·simp[-getElem?_pos,rZa,zm,cm3,a74,q1,q2,h1,h2,h3]
 ·simp[-getElem?_pos,rZa,zm,cm3,a74,q1,q2,h1]
theorem dvm(hR:PR B0 B1 R n){L:LT}{d:Int}(X:LB)(F:Fit (n+1) L d):vz B0 B1 70 [.ptr 2 0] none L d X ((bbz R.query d L).map fun x=>(x.1.av,x.2)):=
 c70 B0 B1 d F.h0 F.d3 X L R.query fun M hl hs hd=>hR.query M (d+1) X (F.deep hs hl hd)
end Go.Av
namespace Go.Av
open Go Go.Proofs
variable{B0 B1:Bx}{R:Rd}{n:Nat}
theorem bq7(B0 B1:Bx)(L:LT)(d:Int)(X:LB):(Pst B0 B1 L d X).length=X.length+4:=by simp[Pst]
theorem ccc(L M:LT)(d d':Int)(X Z:LB)(e:AEnd)(he:e.closed (X.length+4)=true):xr 0 (Pst B0 B1 L d X) (Pst B0 B1 M d' X++Z) e=some (e,Pst B0 B1 M d' X):=by
 have:=pleave B0 B1 (L.map Tok.av) (M.map Tok.av) d d' X Z e (b4p _ M) he;simpa[Pst] using this
def cd4(w:LU):Int:=if w=bxf then 3 else if w=b4g then 4 else 5
theorem c36(L:LT)(d:Int)(X:LB)(w:LU)(hw:pk L=w)(h3:w=bxf∨w=b4g∨w=b0m) :
  rH 36 [.ptr 2 0] (Pst B0 B1 L d X) (Nd.mk (cd4 w) [] 0 false false [] []).av (Pst B0 B1 (L.drop 1) d X):=by
 have q1:=c68 B0 B1 L d X;have q2:=brk B0 B1 (pk L) (by rw[hw];rcases h3 with h | h | h<;>simp[h]) L d X;simp only[xm,if_true,bc,vz]at q2;have hk:=ccc (B0:=B0) (B1:=B1) L (L.drop 1) d d X;have hl:=bq7 B0 B1 (L.drop 1) d X;rw[hw]at q1 q2;refine xh rfl ?_;simp only[Nd.av,xd,zb];generalize Pst B0 B1 L d X=P at *;generalize Pst B0 B1 (L.drop 1) d X=P1 at *;rcases h3 with h | h | h<;>subst h<;>
  simp[-getElem?_pos,rZa,a36,cq5,b7q,bg4,cd4,q1,q2,hl,d9,vp,zm,cm3]<;>
  (refine hk _ _ ?_;simp[AEnd.closed,AV.closed,zd])
theorem lf32{p:Prop}(h:p:=by (try simp only[rZc,rZd]at *);simp[-getElem?_pos,rZa,-List.drop_one,rZb,a37, *]):p:=h
theorem c37(hR:PR B0 B1 R n)(L:LT)(d:Int)(X:LB)(F:Fit (n+1) L d)(hp:pk L=b0p) :
  vz B0 B1 37 [.ptr 2 0] none L d X (((bbz R.query d (L.drop 1)).bind fun x=>some (Nd.mk 17 [] 0 false false [] [x.1],x.2)).map fun x=>(x.1.av,x.2)):=by
 have hk:=hkP B0 B1 L d X;have qm:rH 69 [.ptr 2 0,.slice 1 [.str c0g]] (Pst B0 B1 (L) d X) (.tuple []) (Pst B0 B1 ((L).drop 1) d X):=by have h0:=brk B0 B1 b0p (by simp) (L) d X;simp only[xm,if_pos hp,bc,vz]at h0;exact h0
 have q1:=dvm hR X (F.sfx (xp L));cases e1:bbz R.query d (L.drop 1) with
 | none=>
  rw[e1]at q1;simp only[bm,bh,vz]at q1 ⊢;obtain⟨M,d',q1⟩:=q1;refine⟨M,d',xh rfl ?_⟩;replace hk:=hk M d';exact lf32
 | some x_e1=>
  obtain⟨v1,L1⟩:=x_e1;rw[e1]at q1;simp only[bc,vz]at q1;try simp only[bb]
  try simp only[bc,vz]
  refine xh rfl ?_;replace hk:=hk L1 d;obtain⟨⟨c0v1,c1v1,c2v1,i3v1,i4v1,i5v1,i6v1,i7v1,i8v1,i9v1⟩,ksv1,liv1,ofv1⟩:=v1;try simp only[rZc,rZd]at *
  simp[-getElem?_pos,rZa,-List.drop_one,rZb,a37,qm,q1,hk]
def cm1(args:LA)(own:List (Nat×Nat)):Bx:={cells:=[ii 18,.str ⟨#[]⟩,ii 0,.bool false,.bool false,.slice 7 args,.slice 13 []],own:=own}
def dqs:List (Nat×Nat):=[(5,62),(6,32)]
def ddg(B0 B1:Bx)(L:LT)(d:Int)(X:LB)(more:Bool)(acc:List Nd):St:=
 {σ:=[(0,.v (.sptr [.ptr 2 0])),(1,.l 1 0),(2,.l 2 0),(3,.v (.bool more))],own:=[],loc:=[(1,b1c),(2,cm1 (xd acc) dqs)],S:=Pst B0 B1 L d X}
theorem lf33{p:Prop}(h:p:=by simp[-getElem?_pos,rZa,-List.drop_one,rZb,b29,ddg,cm1,dqs,b1c, *]):p:=h
theorem czv(hR:PR B0 B1 R n)(L:LT)(d:Int)(X:LB)(F:Fit n L d)(acc:List Nd)(hacc:acc.length≤20000) :
  match (xm [bp8] L).bind fun L1=>(R.expr d L1).bind fun x=>(xm [b3g] x.2).bind fun L2=>(R.expr d L2).bind fun y=>some (acc++[x.1,y.1],y.2) with
  | some (acc',N)=>xf bbf b29 (ddg B0 B1 L d X true acc)=some (.normal,ddg B0 B1 N d X (decide (pk N=bp8)) acc')
  | none=>∃s M d',xf bbf b29 (ddg B0 B1 L d X true acc)=some (.panic fv,s)∧s.S=Pst B0 B1 M d' X:=by
 have b1:(acc.length+1)*88≤140737488355328:=by omega
 have b2:(acc.length+1+1)*88≤140737488355328:=by clear b1;omega
 have hlA:(xd acc).length=acc.length:=bdh acc;have q1:vz B0 B1 69 [.ptr 2 0,.slice 1 [.str dd1]] none (L) d X ((xm [bp8] (L)).map fun M=>(.tuple [],M)):=brk B0 B1 bp8 (by simp) L d X;cases e1:xm [bp8] L with
 | none=>
  rw[e1]at q1;simp only[bm,bh,vz]at q1 ⊢;obtain⟨M,d',q1⟩:=q1;refine(bd8 ?_).imp fun s h=>⟨M,d',h⟩
  rw[xb];exact lf33
 | some L1=>
 have s1:L1<:+L:=xj e1;rw[e1]at q1;simp only[bc,bb,vz]at q1 ⊢;have q2:=hR.expr L1 d X (F.sfx s1);cases e2:R.expr d L1 with
 | none=>
  rw[e2]at q2;simp only[bm,bh,vz]at q2 ⊢;obtain⟨M,d',q2⟩:=q2;refine(bd8 ?_).imp fun s h=>⟨M,d',h⟩
  rw[xb];exact lf33
 | some x=>
 obtain⟨v,L2⟩:=x;have s2:L2<:+L:=(hR.sfx.expr d L1 L s1 _ e2);rw[e2]at q2;have q3:vz B0 B1 69 [.ptr 2 0,.slice 1 [.str wb57]] none (L2) d X ((xm [b3g] (L2)).map fun M=>(.tuple [],M)):=brk B0 B1 b3g (by simp) L2 d X;simp only[bc,bb,vz]at q2 ⊢;cases e3:xm [b3g] L2 with
 | none=>
  rw[e3]at q3;simp only[bm,bh,vz]at q3 ⊢;obtain⟨M,d',q3⟩:=q3;refine(bd8 ?_).imp fun s h=>⟨M,d',h⟩
  rw[xb];obtain⟨opv,t_,n_,nov,d_,a_,u_⟩:=v;simp only[Nd.av]at *;exact lf33
 | some L3=>
 have s3:L3<:+L:=(xj e3).trans s2;rw[e3]at q3;have q4:=hR.expr L3 d X (F.sfx s3);simp only[bc,bb,vz]at q3 ⊢;cases e4:R.expr d L3 with
 | none=>
  rw[e4]at q4;simp only[bm,bh,vz]at q4 ⊢;obtain⟨M,d',q4⟩:=q4;refine(bd8 ?_).imp fun s h=>⟨M,d',h⟩
  rw[xb];obtain⟨opv,t_,n_,nov,d_,a_,u_⟩:=v;simp only[Nd.av]at *;exact lf33
 | some y=>
 obtain⟨w,N⟩:=y;rw[e4]at q4;simp only[bc,bb,vz]at q4 ⊢;have q5:=c68 B0 B1 N d X;have e5:xd (acc++[v,w])=xd acc++[v.av]++[w.av]:=by simp[bpv,xd]
 rw[xb];simp only[ddg,e5];generalize xd acc=A at *;obtain⟨opv,t_,n_,nov,d_,a_,u_⟩:=v;obtain⟨opw,textw,numw,now,disw,argsw,queryw⟩:=w;simp only[Nd.av]at *;simp[-getElem?_pos,rZa,-List.drop_one,rZb,b29,ddg,cm1,dqs,b1c,q1,q2,q3,q4,q5,hlA,b1,b2]
end Go.Av
namespace Go.Av
open Go Go.Proofs
variable{B0 B1:Bx}{R:Rd}{n:Nat}
theorem bz0(sR:R.Sfx)(d:Int)(L0:LT)(hL:L0.length≤9000):∀(f:Nat) (acc:List Nd) (L:LT),L<:+L0→acc.length+L.length≤L0.length→∀z,bcf R d f acc L=some z→z.1.length≤20000
 | 0,acc,L,hs,ha,z,e=>by cases e
 | f+1,acc,L,hs,ha,z,e=>by
  unfold bcf at e;obtain⟨L1,g1,e⟩:=bg.1 e;obtain⟨x,g2,e⟩:=bg.1 e;obtain⟨L2,g3,e⟩:=bg.1 e;obtain⟨y,g4,e⟩:=bg.1 e;have l1:=bf8 (by simp) g1;have s1:=xj g1;have s2:=sR.expr d L1 L1 (br _) _ g2;have l3:=bf8 (by simp) g3;have s3:=xj g3;have s4:=sR.expr d L2 L2 (br _) _ g4;have t:y.2<:+L:=((s4.trans s3).trans s2).trans s1;have:=s4.length_le;have:=s2.length_le;have:=hs.length_le;split at e
  ·exact bz0 sR d L0 hL f _ _ (t.trans hs) (by simp;omega) z e
  ·obtain rfl:=bf e;simp;omega
theorem czt(L:LT)(d:Int)(X:LB)(acc:List Nd) :
  xf bbf b29 (ddg B0 B1 L d X false acc)=some (.exit 0,{σ:=[(0,.v (.sptr [.ptr 2 0])),(1,.l 1 0),(2,.l 2 0)],own:=[],loc:=[(1,b1c),(2,cm1 (xd acc) dqs)],S:=Pst B0 B1 L d X}):=by
 rw[xb];simp[-getElem?_pos,rZa,-List.drop_one,rZb,b29,ddg,cm1,dqs,b1c]
theorem czx(hR:PR B0 B1 R n)(d:Int)(X:LB)(L0:LT)(hL:L0.length≤9000):∀(f:Nat) (acc:List Nd) (L:LT),Fit n L d→L<:+L0→L.length<f→acc.length+L.length≤L0.length →
  match bcf R d f acc L with
  | some (v,N)=>zc (xf bbf b29) (ddg B0 B1 L d X true acc)=some (.exit 0,{σ:=[(0,.v (.sptr [.ptr 2 0])),(1,.l 1 0),(2,.l 2 0)],own:=[],loc:=[(1,b1c),(2,cm1 (xd v) dqs)],S:=Pst B0 B1 N d X})
  | none=>∃s M d',zc (xf bbf b29) (ddg B0 B1 L d X true acc)=some (.panic fv,s)∧s.S=Pst B0 B1 M d' X:=by
 intro f
 induction f with
 | zero=>intro acc L _ _ h;omega
 | succ f ih=>
  intro acc L F hs hf hacc;have st:=czv hR L d X F acc (by have:=hs.length_le;omega);have e0:bcf R d (f+1) acc L=((xm [bp8] L).bind fun L1=>(R.expr d L1).bind fun x=>(xm [b3g] x.2).bind fun L2=>(R.expr d L2).bind fun y=>some (acc++[x.1,y.1],y.2)).bind fun z=>if pk z.2=bp8 then bcf R d f z.1 z.2 else some z:=by
   simp only[bcf];cases xm [bp8] L with
   | none=>rfl
   | some L1=>
    simp only[bb];cases R.expr d L1 with
    | none=>rfl
    | some x=>
     simp only[bb];cases xm [b3g] x.2 with
     | none=>rfl
     | some L2=>
      simp only[bb];cases R.expr d L2 with
      | none=>rfl
      | some y=>rfl
  rw[e0];cases e1:(xm [bp8] L).bind fun L1=>(R.expr d L1).bind fun x=>(xm [b3g] x.2).bind fun L2=>(R.expr d L2).bind fun y=>some (acc++[x.1,y.1],y.2) with
  | none=>
   rw[e1]at st;obtain⟨s,M,d',h1,h2⟩:=st;exact⟨s,M,d',xc h1 (by simp),h2⟩
  | some z=>
   obtain⟨acc',N⟩:=z;rw[e1]at st;dsimp only at st;simp only[bb];rw[xq st];by_cases h:pk N=bp8
   ·rw[if_pos h];simp only[h,decide_true];obtain⟨L1,g1,e1⟩:=bg.1 e1;obtain⟨x,g2,e1⟩:=bg.1 e1;obtain⟨L2,g3,e1⟩:=bg.1 e1;obtain⟨y,g4,e1⟩:=bg.1 e1;obtain⟨rfl,rfl⟩:=Prod.mk.inj (bf e1);have l1:=bf8 (by simp) g1;have s1:=xj g1;have s2:=hR.sfx.expr d L1 L1 (br _) _ g2;have l3:=bf8 (by simp) g3;have s3:=xj g3;have s4:=hR.sfx.expr d L2 L2 (br _) _ g4;have t:y.2<:+L:=((s4.trans s3).trans s2).trans s1;have:=s4.length_le;have:=s2.length_le;exact ih _ _ (F.sfx t) (t.trans hs) (by omega) (by simp;omega)
   ·rw[if_neg h];simp only[h,decide_false];exact xc (czt N d X acc') (by simp)
theorem lf34{p:Prop}(h:p:=by (try simp only[rZc,rZd]at *);simp[-getElem?_pos,rZa,-List.drop_one,rZb,a72, *]):p:=h
theorem c72(hR:PR B0 B1 R n)(L:LT)(d:Int)(X:LB)(F:Fit n L d):vz B0 B1 72 [.sptr [.ptr 2 0]] none L d X ((bm0 R d L).map fun x=>(x.1.av,x.2)):=by
 have hl:=czx hR d X L F.l9 (L.length+1) [] L F (br _) (by omega) (by simp);have hk:=hkP B0 B1 L d X;have hsfx:=bkh hR.sfx d L (L.length+1) [] L (br _);have hlen:∀z,bcf R d (L.length+1) [] L=some z→z.1.length≤20000:=by
  intro z hz;exact bz0 hR.sfx d L F.l9 _ _ _ (br _) (by simp) z hz
 unfold bm0;simp only[ddg,xd]at hl;cases e1:bcf R d (L.length+1) [] L with
 | none=>
  rw[e1]at hl;obtain⟨s,M,d',hl,hS⟩:=hl;simp only[bm,bh,vz];refine⟨M,d',xh rfl ?_⟩;replace hk:=hk M d';rw[← hS]at hk ⊢;simp only[cm1,dqs,b1c]at hl;simp[-getElem?_pos,rZa,-List.drop_one,rZb,a72,hl,hk]
 | some z=>
  obtain⟨acc,N⟩:=z;rw[e1]at hl;have s1:=hsfx _ e1;have l1:=hlen _ e1;dsimp only at l1;simp only[cm1,dqs,b1c]at hl;simp only[bb];have b1:(acc.length+1)*88≤140737488355328:=by clear hl hk hsfx hlen;omega
  have hlA:(xd acc).length=acc.length:=bdh acc;by_cases h1:pk N=cdz
  ·rw[if_pos h1];have q1:rH 42 [.ptr 2 0,.slice 1 [.str dph]] (Pst B0 B1 (N) d X) (.bool true) (Pst B0 B1 ((N).drop 1) d X):=by have h0:=bc7 B0 B1 cdz (by simp) (N) d X;rw[xx h1]at h0;exact h0
   have q2:=hR.expr (N.drop 1) d X (F.sfx ((xp N).trans s1));cases e2:R.expr d (N.drop 1) with
   | none=>
    rw[e2]at q2;simp only[bm,bh,vz]at q2 ⊢;obtain⟨M,d',q2⟩:=q2;refine⟨M,d',xh rfl ?_⟩;replace hk:=hk M d';exact lf34
   | some x_e2=>
    obtain⟨v2,L2⟩:=x_e2;rw[e2]at q2;simp only[bc,vz]at q2;try simp only[bb]
    have q3:vz B0 B1 69 [.ptr 2 0,.slice 1 [.str dpg]] none (L2) d X ((xm [cz8] (L2)).map fun M=>(.tuple [],M)):=brk B0 B1 cz8 (by simp) L2 d X;cases e3:xm [cz8] L2 with
    | none=>
     rw[e3]at q3;simp only[bm,bh,vz]at q3 ⊢;obtain⟨M,d',q3⟩:=q3;refine⟨M,d',xh rfl ?_⟩;replace hk:=hk M d';obtain⟨opv2,t_2,n_2,nov2,d_2,a_2,u_2⟩:=v2;exact lf34
    | some x_e3=>
     rw[e3]at q3;simp only[bc,vz]at q3;try simp only[bb]
     have e5:xd (acc++[v2])=xd acc++[v2.av]:=by simp[bpv,xd]
     simp only[bc,vz,Nd.av,e5];generalize hA:xd acc=A at *;try simp only[bc,vz]
     refine xh rfl ?_;replace hk:=hk x_e3 d;obtain⟨opv2,t_2,n_2,nov2,d_2,a_2,u_2⟩:=v2;try simp only[rZc,rZd]at *
     simp[-getElem?_pos,rZa,-List.drop_one,rZb,a72,hl,hlA,b1,h1,q1,q2,q3,hA,hk]
  ·rw[if_neg h1];have q1:rH 42 [.ptr 2 0,.slice 1 [.str dph]] (Pst B0 B1 (N) d X) (.bool false) (Pst B0 B1 (N) d X):=by have h0:=bc7 B0 B1 cdz (by simp) (N) d X;rw[xk h1]at h0;exact h0
   have q3:vz B0 B1 69 [.ptr 2 0,.slice 1 [.str dpg]] none (N) d X ((xm [cz8] (N)).map fun M=>(.tuple [],M)):=brk B0 B1 cz8 (by simp) N d X;cases e3:xm [cz8] N with
   | none=>
    rw[e3]at q3;simp only[bm,bh,vz]at q3 ⊢;obtain⟨M,d',q3⟩:=q3;refine⟨M,d',xh rfl ?_⟩;replace hk:=hk M d';exact lf34
   | some x_e3=>
    rw[e3]at q3;simp only[bc,vz]at q3;try simp only[bb]
    generalize hA:xd acc=A at *;try simp only[bc,vz]
    refine xh rfl ?_;replace hk:=hk x_e3 d;try simp only[rZc,rZd]at *
    simp[-getElem?_pos,rZa,-List.drop_one,rZb,a72,hl,hlA,b1,h1,q1,q3,hA,hk]
theorem lf35{p:Prop}(h:p:=by (try simp only[rZc,rZd]at *);simp[-getElem?_pos,rZa,-List.drop_one,rZb,a38, *]):p:=h
theorem c38(hR:PR B0 B1 R n)(L:LT)(d:Int)(X:LB)(F:Fit (n+1) L d)(hp:pk L=cs3):vz B0 B1 38 [.ptr 2 0] none L d X ((bbj (bm0 R) d (L.drop 1)).map fun x=>(x.1.av,x.2)):=by
 have hk:=hkP B0 B1 L d X;have q2:=c71 B0 B1 72 [] [.sptr [.ptr 2 0]] (L.drop 1) d F.h0 F.d3 X (bm0 R (d+1) (L.drop 1)) (fun hd=>c72 hR (L.drop 1) (d+1) X (F.deep (xp L) (bgh hp (by simp)) hd));have e2:(if 24<d+1 then none else(bm0 R (d+1) (L.drop 1)).map fun x=>(x.1.av,x.2))=(bbj (bm0 R) d (L.drop 1)).map fun x=>(x.1.av,x.2):=by
  unfold bbj;split<;>rfl
 rw[e2]at q2;have qm:rH 69 [.ptr 2 0,.slice 1 [.str dc9]] (Pst B0 B1 (L) d X) (.tuple []) (Pst B0 B1 ((L).drop 1) d X):=by have h0:=brk B0 B1 cs3 (by simp) (L) d X;simp only[xm,if_pos hp,bc,vz]at h0;exact h0
 cases e1:bbj (bm0 R) d (L.drop 1) with
 | none=>
  rw[e1]at q2;simp only[bm,bh,vz]at q2 ⊢;obtain⟨M,d',q2⟩:=q2;refine⟨M,d',xh rfl ?_⟩;replace hk:=hk M d';exact lf35
 | some x_e1=>
  obtain⟨v1,L1⟩:=x_e1;rw[e1]at q2;simp only[bc,vz]at q2;try simp only[bb]
  try simp only[bc,vz]
  refine xh rfl ?_;replace hk:=hk L1 d;obtain⟨opv1,t_1,n_1,nov1,d_1,a_1,u_1⟩:=v1;exact lf35
theorem lf36{p:Prop}(h:p:=by (try simp only[rZc,rZd]at *);simp[-getElem?_pos,rZa,-List.drop_one,rZb,a76, *]):p:=h
theorem c76(hR:PR B0 B1 R n)(L:LT)(d:Int)(X:LB)(F:Fit n L d):vz B0 B1 76 [.sptr [.ptr 2 0]] (some 62) L d X ((bbc R.expr d L).map fun x=>(.slice 7 (xd x.1),x.2)):=by
 have hk:=hkP B0 B1 L d X;have q1:=c77 B0 B1 73 [.ptr 2 0] [] d X L F.l9 R.expr hR.sfx.expr (fun M hM=>hR.expr M d X (F.sfx hM));simp only[← bhp]at q1;cases e1:bbc R.expr d L with
 | none=>
  rw[e1]at q1;simp only[bm,bh,vz]at q1 ⊢;obtain⟨M,d',q1⟩:=q1;refine⟨M,d',xh rfl ?_⟩;replace hk:=hk M d';exact lf36
 | some x_e1=>
  obtain⟨v1,L1⟩:=x_e1;rw[e1]at q1;simp only[bc,vz]at q1;try simp only[bb]
  try simp only[bc,vz]
  refine xh rfl ?_;replace hk:=hk L1 d;exact lf36
theorem lf37{p:Prop}(h:p:=by (try simp only[rZc,rZd]at *);simp[-getElem?_pos,rZa,-List.drop_one,rZb,a236, *]):p:=h
theorem c236(hR:PR B0 B1 R n)(L:LT)(d:Int)(X:LB)(F:Fit n L d):vz B0 B1 236 [.sptr [.ptr 2 0]] (some 62) L d X ((bbc R.expr d L).map fun x=>(.slice 7 (xd x.1),x.2)):=by
 have hk:=hkP B0 B1 L d X;have q1:=c77 B0 B1 73 [.ptr 2 0] [] d X L F.l9 R.expr hR.sfx.expr (fun M hM=>hR.expr M d X (F.sfx hM));simp only[← bhp]at q1;cases e1:bbc R.expr d L with
 | none=>
  rw[e1]at q1;simp only[bm,bh,vz]at q1 ⊢;obtain⟨M,d',q1⟩:=q1;refine⟨M,d',xh rfl ?_⟩;replace hk:=hk M d';exact lf37
 | some x_e1=>
  obtain⟨v1,L1⟩:=x_e1;rw[e1]at q1;simp only[bc,vz]at q1;try simp only[bb]
  try simp only[bc,vz]
  refine xh rfl ?_;replace hk:=hk L1 d;exact lf37
theorem lf38{p:Prop}(h:p:=by (try simp only[rZc,rZd]at *);simp[-getElem?_pos,rZa,-List.drop_one,rZb,a210, *]):p:=h
theorem c210(hR:PR B0 B1 R n)(L:LT)(d:Int)(X:LB)(F:Fit n L d):vz B0 B1 210 [.sptr [.ptr 2 0]] (some 62) L d X ((bbc R.expr d L).map fun x=>(.slice 7 (xd x.1),x.2)):=by
 have hk:=hkP B0 B1 L d X;have q1:=c77 B0 B1 73 [.ptr 2 0] [] d X L F.l9 R.expr hR.sfx.expr (fun M hM=>hR.expr M d X (F.sfx hM));simp only[← bhp]at q1;cases e1:bbc R.expr d L with
 | none=>
  rw[e1]at q1;simp only[bm,bh,vz]at q1 ⊢;obtain⟨M,d',q1⟩:=q1;refine⟨M,d',xh rfl ?_⟩;replace hk:=hk M d';exact lf38
 | some x_e1=>
  obtain⟨v1,L1⟩:=x_e1;rw[e1]at q1;simp only[bc,vz]at q1;try simp only[bb]
  try simp only[bc,vz]
  refine xh rfl ?_;replace hk:=hk L1 d;exact lf38
theorem inPe(hR:PR B0 B1 R n)(k:Nat)(hk:∀(L:LT) (d:Int) (X:LB) (F:Fit n L d),vz B0 B1 k [.sptr [.ptr 2 0]] (some 62) L d X ((bbc R.expr d L).map fun x=>(.slice 7 (xd x.1),x.2)))
  (L:LT) (d:Int) (X:LB) (F:Fit (n+1) L d):vz B0 B1 75 [.ptr 2 0,.clos (.func k) [] [.sptr [.ptr 2 0]]] (some 62) L d X ((bbz (bbc R.expr) d L).map fun x=>(.slice 7 (xd x.1),x.2)):=
 c75 B0 B1 k [] [.sptr [.ptr 2 0]] d F.h0 F.d3 X L (bbc R.expr) (fun M hl hs hd=>hk M (d+1) X (F.deep hs hl hd))
theorem lf39{p:Prop}(h:p:=by (try simp only[rZc,rZd]at *);simp[-getElem?_pos,rZa,-List.drop_one,rZb,a39, *]):p:=h
theorem c39(hR:PR B0 B1 R n)(L:LT)(d:Int)(X:LB)(F:Fit (n+1) L d):vz B0 B1 39 [.ptr 2 0] none L d X ((bx2 R d L).map fun x=>(x.1.av,x.2)):=by
 have hk:=hkP B0 B1 L d X;have qo:=c74 (B0:=B0) (B1:=B1) L d X;unfold bx2;by_cases h1:bt2 L=true
 ·rw[if_pos h1];have q1:=dvm hR X F;cases e1:bbz R.query d L with
  | none=>
   rw[e1]at q1;simp only[bm,bh,vz]at q1 ⊢;obtain⟨M,d',q1⟩:=q1;refine⟨M,d',xh rfl ?_⟩;replace hk:=hk M d';exact lf39
  | some x_e1=>
   obtain⟨v1,L1⟩:=x_e1;rw[e1]at q1;simp only[bc,vz]at q1;try simp only[bb]
   try simp only[bc,vz]
   refine xh rfl ?_;replace hk:=hk L1 d;obtain⟨⟨c0v1,c1v1,c2v1,i3v1,i4v1,i5v1,i6v1,i7v1,i8v1,i9v1⟩,ksv1,liv1,ofv1⟩:=v1;try simp only[rZc,rZd]at *
   simp[-getElem?_pos,rZa,-List.drop_one,rZb,a39,qo,h1,q1,hk]
 ·rw[if_neg h1];have q1:=inPe hR 76 (c76 hR) L d X F;cases e1:bbz (bbc R.expr) d L with
  | none=>
   rw[e1]at q1;simp only[bm,bh,vz]at q1 ⊢;obtain⟨M,d',q1⟩:=q1;refine⟨M,d',xh rfl ?_⟩;replace hk:=hk M d';exact lf39
  | some x_e1=>
   obtain⟨v1,L1⟩:=x_e1;rw[e1]at q1;simp only[bc,vz]at q1;try simp only[bb]
   replace hk:=hk L1 d
   match v1,q1 with
   | [],q1=>simp only[bc,vz];exact xh rfl (by simp only[xd,Nd.av,zb]at *;simp[-getElem?_pos,rZa,-List.drop_one,rZb,a39,qo,h1,q1,hk])
   | [⟨op,text,num,no,dis,args,query⟩],q1=>simp only[bc,vz];exact xh rfl (by simp only[xd,Nd.av,zb]at *;simp[-getElem?_pos,rZa,-List.drop_one,rZb,a39,qo,h1,q1,hk])
   | a::b::r,q1=>simp only[bc,vz];exact xh rfl (by
   have hn:¬ ((xd r).length:Int)+1+1=1:=by omega
   simp only[xd,Nd.av,zb]at *;simp[-getElem?_pos,rZa,-List.drop_one,rZb,a39,qo,h1,q1,hk,hn])
end Go.Av
