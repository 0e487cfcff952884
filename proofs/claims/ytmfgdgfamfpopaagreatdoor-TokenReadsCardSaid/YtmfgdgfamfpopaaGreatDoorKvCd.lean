/- Part of a proof: traits.Check. -/
import Derived.Test.YtmfgdgfamfpopaaGreatDoorKvCc
set_option maxRecDepth 100000
set_option linter.unusedSimpArgs false
set_option linter.unusedVariables false
namespace Go.Av
open Go Go.Proofs
attribute [local simp] afun acode aops aoper aopB blkOk aop apure aenter St.av St.avs St.sv SV.av Slots.get Slots.set Slots.kill SV.kill St.put St.drop St.right St.move St.keep Slots.keep Locs.keep Locs.get Locs.set rightOf normal AV.isDat AV.cells St.cellsAt aload abin aun AOp.dst AOp.addr aresult ares aresAll afinish List.filter_cons St.freeze Slots.freeze SV.frozen Locs.del isNilAV boundOf astore putCells dropCells nilOk optOwn nilsOf nilsGo isNilSl aleave_same abuild

def inB (n c : Int) : Bool := decide (0 ≤ c) && decide (c < n)
def areKeysB (n : Int) (ks : List K) : Bool := decide (ks.length ≤ 32) && ks.all (fun k => inB n k.c)
theorem len_le (l m : Nat) : decide ((l : Int) ≤ (m : Int)) = decide (l ≤ m) := by simp
def setB (n : Int) (l : List Int) : Bool := decide (l.length ≤ 16) && l.all (inB n)
structure Dep where
  consts : List Int
  equal : List (Int × Int)
  sets : List (List Int)
def Dep.av (d : Dep) : AV := .agg [intsAV d.consts, pairsAV d.equal, setsAV d.sets]
structure Dep.Small (d : Dep) : Prop where
  c : d.consts.length ≤ 9223372036854775807
  e : d.equal.length ≤ 9223372036854775807
  s : d.sets.length ≤ 9223372036854775807
  ss : ∀ l ∈ d.sets, l.length ≤ 9223372036854775807
def knownB (n : Int) (d : Dep) : Bool :=
  decide (d.consts.length ≤ 16) && decide (d.equal.length ≤ 16) && decide (d.sets.length ≤ 16) && d.consts.all (inB n) && d.equal.all (fun p => inB n p.1 && inB n p.2) && d.sets.all (setB n)
def rightE (n : Int) (d : Dep) (ls : List (List K)) : Int :=
  if n < 1 ∨ 16 < n then 1 else if knownB n d && ls.all (areKeysB n) then 0 else 180
end Go.Av
