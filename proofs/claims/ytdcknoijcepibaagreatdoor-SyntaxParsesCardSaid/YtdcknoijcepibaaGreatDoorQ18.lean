/- Part of syntax_parses. -/
import Derived.Test.YtdcknoijcepibaaGreatDoorQ17
set_option linter.unusedSimpArgs false
set_option linter.unusedVariables false
set_option maxRecDepth 1000000
namespace Go.Av
open Go Go.Proofs Go.RowKit
noncomputable abbrev bbf:Rec:=bpr (btz cfg b7d tabD)
abbrev rH(f:Nat)(a:LA)(S:LB)(r:AV)(T:LB):Prop:=bbf f a S=some (.ret r none,T)
abbrev rP(f:Nat)(a:LA)(S:LB)(r:AV)(T:LB):Prop:=rH f (.ptr 0 0::a) S r T
abbrev rW(f:Nat)(w:ByteArray)(S:LB)(b:Bool)(T:LB):Prop:=rH f [.ptr 0 0,.str w] S (.bool b) T
theorem xh{f:Nat}{fn:AFun}(hT:btz cfg b7d tabD f=some (.air fn)){args:LA}{S:LB}{r:AEnd×LB}(h:b9v bbf fn args S=some r):bbf f args S=some r:=b3v hT h
theorem eqnD{f:Nat}{fn:DFun}(hT:btz cfg b7d tabD f=some (.dfr fn)){args:LA}{S:LB}{r:AEnd×LB}(h:cdp bbf fn args S=some r):bbf f args S=some r:=df0 hT h
theorem cv6{f:Nat}{args:LA}{S:LB}{r:AEnd×LB}(h:bpg f args S=some r):bbf f args S=some r:=cqp (fun f d h=>ctf f d h) _ _ _ _ h
theorem ct3{W0:World}(hL:LaidV W0)(n:Nat):bbk Tryz.prog W0 (btd (btz cfg b7d tabD) n):=cff dq8 cj8 (by
 intro p hp;simp only[b7d,ddb,dc,List.mem_nil_iff,or_false]at hp;rcases hp with rfl | rfl | rfl | rfl | rfl | rfl | rfl | rfl | rfl | rfl<;>first | exact cqd hL | exact cp9 hL | exact ckg hL | exact cfx W0 | exact c2x W0 | exact cqh hL | exact cqg hL | exact cqf hL | exact cqc hL | exact cqb hL) dp1 n
def exT1:Qr:=.mk (.mk 1 false false [(.mk true [] [] [])] [(.mk 5 [] [] [] [(.mk 1 [116] [120] [] [] []),(.mk 1 [117] [] [] [] [])] [(.mk 11 [61] 0 false false [(.mk 7 [120,46,97] 0 false false [] []),(.mk 7 [117,46,99] 0 false false [] [])] [])])] [] [] [] [] []) [] (-1) (-1)
def exT2:Qr:=.mk (.mk 1 false false [(.mk false [] [(.mk 6 [97] 0 false false [] [])] [])] [(.mk 1 [116] [] [] [] [])] [(.mk 10 [110,111,116] 0 false false [(.mk 15 [] 0 false false [(.mk 6 [97] 0 false false [] []),(.mk 1 [] 1 false false [] []),(.mk 1 [] 2 false false [] [])] [])] [])] [] [] [] []) [] (-1) (-1)
theorem ex1:rH 9 [.str wb58] [] (.tuple [exT1.av,.int .i64 0]) []:=bxv (n:=90) (by kernel_rfl)
theorem ex2:rH 9 [.str wb59] [] (.tuple [exT2.av,.int .i64 0]) []:=bxv (n:=90) (by kernel_rfl)
theorem ex3:rH 9 [.str wb60] [] (.tuple [Qr.zero.av,.int .i64 90]) []:=bxv (n:=90) (by kernel_rfl)
theorem ex4:rH 16 [exT1.av] [] (.tuple [.str wb61,.int .i64 0]) []:=bxv (n:=90) (by kernel_rfl)
theorem awake2:rH 12 [] [] (.bool true) []:=by
 refine xh rfl ?_;have e1:=ex1;have e2:=ex2;have e3:=ex3;have e4:=ex4;simp only[exT1,exT2,Qr.zero,Bd.zero,Qr.av,Bd.cells,rZd,cg,xd,zb,bbg,zt,zr,It.av,Sr.av,Nd.av]at e1 e2 e3 e4;simp[-getElem?_pos,rZa,a12,e1,e2,e3,e4]
end Go.Av
