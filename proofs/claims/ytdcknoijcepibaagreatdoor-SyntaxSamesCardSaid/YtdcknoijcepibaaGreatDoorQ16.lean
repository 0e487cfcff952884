/- Part of a proof of syntax_sames. -/
import Derived.Test.YtdcknoijcepibaaGreatDoorQ15
set_option maxRecDepth 1000000
set_option linter.unusedSimpArgs false
set_option linter.unusedVariables false
namespace Go.Av
open Go Go.Proofs Go.RowKit
noncomputable abbrev run2 : Rec:=recL (tabOfD tabA tabX1 tabD)
theorem eqn2 {f : Nat} {fn : AFun} (hT : tabOfD tabA tabX1 tabD f = some (.air fn)) {args : List AV} {S : List Bx} {r : AEnd×List Bx} (h : afun run2 fn args S = some r) : run2 f args S = some r:=recL_air hT h
theorem run_sound2 {W0 : World} (hL : LaidV W0) (n : Nat) : RecSound Tryz.prog W0 (crun (tabOfD tabA tabX1 tabD) n):=tabOfD_sound mixed tabA_ok (by
  intro p hp
  simp only [tabX1,tabX,List.mem_cons,List.mem_nil_iff,or_false] at hp
  rcases hp with rfl | rfl | rfl | rfl | rfl | rfl | rfl | rfl | rfl | rfl <;> first | exact sound138 hL | exact sound244 hL | exact soundTokens hL | exact soundTokJoin W0 | exact sound55 W0 | exact sound122 hL | exact sound125 hL | exact sound126 hL | exact sound157 hL | exact sound161 hL) tabD_ok n
def exT1 : Qr:=.mk (.mk 1 false false [(.mk true [] [] [])] [(.mk 5 [] [] [] [(.mk 1 [116] [120] [] [] []),(.mk 1 [117] [] [] [] [])] [(.mk 11 [61] 0 false false [(.mk 7 [120,46,97] 0 false false [] []),(.mk 7 [117,46,99] 0 false false [] [])] [])])] [] [] [] [] []) [] (-1) (-1)
def exT2 : Qr:=.mk (.mk 1 false false [(.mk false [] [(.mk 6 [97] 0 false false [] [])] [])] [(.mk 1 [116] [] [] [] [])] [(.mk 10 [110,111,116] 0 false false [(.mk 15 [] 0 false false [(.mk 6 [97] 0 false false [] []),(.mk 1 [] 1 false false [] []),(.mk 1 [] 2 false false [] [])] [])] [])] [] [] [] []) [] (-1) (-1)
theorem ex1 : run2 9 [.str ⟨#[83,69,76,69,67,84,32,42,32,70,82,79,77,32,116,32,120,32,76,69,70,84,32,79,85,84,69,82,32,74,79,73,78,32,117,32,79,78,32,120,46,97,32,61,32,117,46,99]⟩] [] = some (.ret (.tuple [exT1.av,.int .i64 0]) none,[]):=recL_run (n:=90) (by kernel_rfl)
theorem ex2 : run2 9 [.str ⟨#[115,101,108,101,99,116,32,97,32,102,114,111,109,32,116,32,119,104,101,114,101,32,110,111,116,32,97,32,105,110,32,40,49,44,32,50,41]⟩] [] = some (.ret (.tuple [exT2.av,.int .i64 0]) none,[]):=recL_run (n:=90) (by kernel_rfl)
theorem ex3 : run2 9 [.str ⟨#[115,101,108,101,99,116,32,97,32,102,114,111,109,32,116,32,119,104,101,114,101]⟩] [] = some (.ret (.tuple [Qr.zero.av,.int .i64 90]) none,[]):=recL_run (n:=90) (by kernel_rfl)
theorem ex4 : run2 16 [exT1.av] [] = some (.ret (.tuple [.str ⟨#[115,101,108,101,99,116,32,42,32,102,114,111,109,32,116,32,97,115,32,120,32,108,101,102,116,32,106,111,105,110,32,117,32,111,110,32,120,32,46,32,97,32,61,32,117,32,46,32,99]⟩,.int .i64 0]) none,[]):=recL_run (n:=90) (by kernel_rfl)
theorem awake2 : run2 12 [] [] = some (.ret (.bool true) none,[]):=by
  refine eqn2 rfl ?_
  have e1:=ex1
  have e2:=ex2
  have e3:=ex3
  have e4:=ex4
  simp only [exT1,exT2,Qr.zero,Bd.zero,Qr.av,Bd.cells,List.cons_append,List.nil_append,List.map_nil,ndsAV,qrsAV,itsAV,srsAV,rowsAV,It.av,Sr.av,Nd.av] at e1 e2 e3 e4
  simp [-getElem?_pos,List.getElem?_cons_zero,List.getElem?_cons_succ,a12,e1,e2,e3,e4]
end Go.Av
