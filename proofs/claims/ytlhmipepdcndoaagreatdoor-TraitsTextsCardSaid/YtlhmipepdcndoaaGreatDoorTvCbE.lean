/- Part of a proof: IndexFunc at expressions (printed out of AvCb). -/
import Derived.Test.YtlhmipepdcndoaaGreatDoorTvCb
set_option maxRecDepth 100000
set_option linter.unusedSimpArgs false
set_option linter.unusedVariables false
namespace Go.Av
open Go Go.Proofs
attribute [local simp] afun acode aops aoper aopB blkOk aop apure aenter St.av St.avs St.sv SV.av Slots.get Slots.set Slots.kill SV.kill St.put St.drop St.right St.move St.keep Slots.keep Locs.keep Locs.get Locs.set rightOf normal AV.isDat AV.cells St.cellsAt aload abin aun AOp.dst AOp.addr aresult ares aresAll afinish List.filter_cons St.freeze Slots.freeze SV.frozen Locs.del isNilAV boundOf astore putCells dropCells nilOk optOwn nilsOf nilsGo isNilSl aleave_same

/-- An expression: what it does, its number, and the rest as it is. -/
structure E where
  op : Int
  n : Int
  x2 : AV
  x3 : AV
  x4 : AV
  x5 : AV
  x6 : AV
  x7 : AV
  x8 : AV
def E.av (e : E) : AV := .agg [.int .i64 e.op, .int .i64 e.n, e.x2, e.x3, e.x4, e.x5, e.x6, e.x7, e.x8]
def exprsAV (l : List E) : AV := .slice 9 (l.map E.av)
end Go.Av
