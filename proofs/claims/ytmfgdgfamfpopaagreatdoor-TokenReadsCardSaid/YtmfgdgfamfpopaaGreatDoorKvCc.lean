/- Part of a proof: The same at the other types of elements (printed out of AvCb). -/
import Derived.Test.YtmfgdgfamfpopaaGreatDoorKvCb
set_option maxRecDepth 100000
set_option linter.unusedSimpArgs false
set_option linter.unusedVariables false
namespace Go.Av
open Go Go.Proofs
attribute [local simp] afun acode aops aoper aopB blkOk aop apure aenter St.av St.avs St.sv SV.av Slots.get Slots.set Slots.kill SV.kill St.put St.drop St.right St.move St.keep Slots.keep Locs.keep Locs.get Locs.set rightOf normal AV.isDat AV.cells St.cellsAt aload abin aun AOp.dst AOp.addr aresult ares aresAll afinish List.filter_cons St.freeze Slots.freeze SV.frozen Locs.del isNilAV boundOf astore putCells dropCells nilOk optOwn nilsOf nilsGo isNilSl aleave_same

def iav (n : Int) : AV := .int .i64 n
def intsAV (l : List Int) : AV := .slice 1 (l.map iav)
def pav (p : Int × Int) : AV := .agg [.int .i64 p.1, .int .i64 p.2]
def pairsAV (l : List (Int × Int)) : AV := .slice 2 (l.map pav)
def setsAV (l : List (List Int)) : AV := .slice 1 (l.map intsAV)
def listsAV (l : List (List K)) : AV := .slice 1 (l.map keysAV)

/-! ### int -/
/-! ### pair -/
/-! ### list -/
/-! ### keys -/
end Go.Av
