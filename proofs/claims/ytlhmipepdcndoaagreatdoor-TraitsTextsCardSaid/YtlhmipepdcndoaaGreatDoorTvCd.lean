/- Part of a proof: traits.Check. -/
import Derived.Test.YtlhmipepdcndoaaGreatDoorTvCc
set_option maxRecDepth 100000
set_option linter.unusedSimpArgs false
set_option linter.unusedVariables false
namespace Go.Av
open Go Go.Proofs
attribute [local simp] afun acode aops aoper aopB blkOk aop apure aenter St.av St.avs St.sv SV.av Slots.get Slots.set Slots.kill SV.kill St.put St.drop St.right St.move St.keep Slots.keep Locs.keep Locs.get Locs.set rightOf normal AV.isDat AV.cells St.cellsAt aload abin aun AOp.dst AOp.addr aresult ares aresAll afinish List.filter_cons St.freeze Slots.freeze SV.frozen Locs.del isNilAV boundOf astore putCells dropCells nilOk optOwn nilsOf nilsGo isNilSl aleave_same abuild

def inB (n c : Int) : Bool := decide (0 ≤ c) && decide (c < n)
def isCol (n : Int) : AV := clo 131 [] [.sptr [iav n]]
theorem c131 (c n : Int) (S : List Bx) : run 131 [iav c, .sptr [iav n]] S = some (.ret (.bool (inB n c)) none, S) := by
  refine eqn rfl ?_
  by_cases h : 0 ≤ c <;> simp [a131, iav, inB, h]
theorem c95 (n : Int) (S : List Bx) : run 95 [iav n] S = some (.ret (isCol n) none, S) := by
  refine eqn rfl ?_
  simp [a95, iav, isCol, clo]
theorem c100 (k : K) (n : Int) (S : List Bx) : run 100 [k.av, .sptr [isCol n]] S = some (.ret (.bool (inB n k.c)) none, S) := by
  refine eqn rfl ?_
  have h := c131 k.c n S
  simp only [iav] at h
  simp [a100, K.av, isCol, clo, iav, h]
def areKeysB (n : Int) (ks : List K) : Bool := decide (ks.length ≤ 32) && ks.all (fun k => inB n k.c)
theorem len_le (l m : Nat) : decide ((l : Int) ≤ (m : Int)) = decide (l ≤ m) := by simp
theorem c64 (n : Int) (ks : List K) (S : List Bx) (hl : ks.length ≤ 9223372036854775807) : run 64 [iav n, keysAV ks] S = some (.ret (.bool (areKeysB n ks)) none, S) := by
  refine eqn rfl ?_
  have h1 := c95 n S
  have h2 := c83 ks 100 [] [.sptr [isCol n]] (fun k => inB n k.c) S hl (fun k _ => by simpa using c100 k n S)
  simp only [iav, isCol, clo, keysAV] at h1 h2
  have e : decide ((ks.length : Int) ≤ 32) = decide (ks.length ≤ 32) := len_le ks.length 32
  by_cases hh : ks.length ≤ 32 <;> simp [a64, iav, keysAV, areKeysB, h1, h2, hh, e]
theorem c63 (n : Int) (ks : List K) (S : List Bx) (hl : ks.length ≤ 9223372036854775807) : run 63 [keysAV ks, .sptr [iav n]] S = some (.ret (.bool (areKeysB n ks)) none, S) := by
  refine eqn rfl ?_
  have h1 := c64 n ks S hl
  simp only [iav, keysAV] at h1
  simp [a63, iav, keysAV, h1]
theorem c96 (p : Int × Int) (n : Int) (S : List Bx) : run 96 [pav p, .sptr [isCol n]] S = some (.ret (.bool (inB n p.1 && inB n p.2)) none, S) := by
  refine eqn rfl ?_
  have h1 := c131 p.1 n S
  have h2 := c131 p.2 n S
  simp only [iav] at h1 h2
  cases hb : inB n p.1 <;> rw [hb] at h1 <;> simp [a96, pav, isCol, clo, iav, h1, h2]
def setB (n : Int) (l : List Int) : Bool := decide (l.length ≤ 16) && l.all (inB n)
theorem c97 (l : List Int) (n : Int) (S : List Bx) (hl : l.length ≤ 9223372036854775807) : run 97 [intsAV l, .sptr [isCol n]] S = some (.ret (.bool (setB n l)) none, S) := by
  refine eqn rfl ?_
  have h2 := c32 l 131 [] [.sptr [iav n]] (inB n) S hl (fun k _ => by simpa using c131 k n S)
  simp only [iav, isCol, clo, intsAV] at h2
  have e : decide ((l.length : Int) ≤ 16) = decide (l.length ≤ 16) := len_le l.length 16
  by_cases hh : l.length ≤ 16 <;> simp [a97, iav, intsAV, isCol, clo, setB, h2, hh, e]

structure Dep where
  consts : List Int
  equal : List (Int × Int)
  sets : List (List Int)
def Dep.av (d : Dep) : AV := .agg [intsAV d.consts, pairsAV d.equal, setsAV d.sets]
structure Dep.Small (d : Dep) : Prop where
  c : d.consts.length ≤ 9223372036854775807
  e : d.equal.length ≤ 9223372036854775807
  s : d.sets.length ≤ 9223372036854775807
  ss : ∀ l ∈ d.sets, l.length ≤ 9223372036854775807
def knownB (n : Int) (d : Dep) : Bool :=
  decide (d.consts.length ≤ 16) && decide (d.equal.length ≤ 16) && decide (d.sets.length ≤ 16) && d.consts.all (inB n) && d.equal.all (fun p => inB n p.1 && inB n p.2) && d.sets.all (setB n)
set_option maxHeartbeats 2000000 in
theorem c61 (n : Int) (d : Dep) (S : List Bx) (hd : d.Small) : run 61 [iav n, d.av] S = some (.ret (.bool (knownB n d)) none, S) := by
  refine eqn rfl ?_
  have h1 := c95 n S
  have h2 := c32 d.consts 131 [] [.sptr [iav n]] (inB n) S hd.c (fun k _ => by simpa using c131 k n S)
  have h3 := c36 d.equal 96 [] [.sptr [isCol n]] (fun p => inB n p.1 && inB n p.2) S hd.e (fun k _ => by simpa using c96 k n S)
  have h4 := c39 d.sets 97 [] [.sptr [isCol n]] (setB n) S hd.s (fun k hk => by simpa using c97 k n S (hd.ss k hk))
  simp only [iav, isCol, clo, intsAV, pairsAV, setsAV] at h1 h2 h3 h4
  have e1 : decide ((d.consts.length : Int) ≤ 16) = decide (d.consts.length ≤ 16) := len_le _ 16
  have e2 : decide ((d.equal.length : Int) ≤ 16) = decide (d.equal.length ≤ 16) := len_le _ 16
  have e3 : decide ((d.sets.length : Int) ≤ 16) = decide (d.sets.length ≤ 16) := len_le _ 16
  by_cases g1 : d.consts.length ≤ 16
  · by_cases g2 : d.equal.length ≤ 16
    · by_cases g3 : d.sets.length ≤ 16
      · cases g4 : d.consts.all (inB n) with
        | false => rw [g4] at h2; simp [a61, iav, Dep.av, intsAV, pairsAV, setsAV, knownB, h1, h2, h3, h4, e1, e2, e3, g1, g2, g3, g4]
        | true =>
          rw [g4] at h2
          cases g5 : d.equal.all (fun p => inB n p.1 && inB n p.2) with
          | false => rw [g5] at h3; simp [a61, iav, Dep.av, intsAV, pairsAV, setsAV, knownB, h1, h2, h3, h4, e1, e2, e3, g1, g2, g3, g4, g5]
          | true => rw [g5] at h3; simp [a61, iav, Dep.av, intsAV, pairsAV, setsAV, knownB, h1, h2, h3, h4, e1, e2, e3, g1, g2, g3, g4, g5]
      · simp [a61, iav, Dep.av, intsAV, pairsAV, setsAV, knownB, h1, h2, h3, h4, e1, e2, e3, g1, g2, g3]
    · simp [a61, iav, Dep.av, intsAV, pairsAV, setsAV, knownB, h1, h2, h3, h4, e1, e2, e3, g1, g2]
  · simp [a61, iav, Dep.av, intsAV, pairsAV, setsAV, knownB, h1, h2, h3, h4, e1, e2, e3, g1]
def rightE (n : Int) (d : Dep) (ls : List (List K)) : Int :=
  if n < 1 ∨ 16 < n then 1 else if knownB n d && ls.all (areKeysB n) then 0 else 180
set_option maxHeartbeats 2000000 in
theorem c30 (n : Int) (d : Dep) (ls : List (List K)) (S : List Bx) (hd : d.Small) (h1 : ls.length ≤ 9223372036854775807) (h2 : ∀ l ∈ ls, l.length ≤ 9223372036854775807) :
    run 30 [iav n, d.av, listsAV ls] S = some (.ret (.int .i64 (rightE n d ls)) none, S) := by
  refine eqn rfl ?_
  have k1 := c61 n d S hd
  have k2 := c62 ls 63 [] [.sptr [iav n]] (areKeysB n) S h1 (fun k hk => by simpa using c63 n k S (h2 k hk))
  simp only [iav, clo, listsAV, Dep.av] at k1 k2
  by_cases g1 : n < 1
  · simp [a30, iav, Dep.av, listsAV, rightE, g1]
  · by_cases g2 : 16 < n
    · simp [a30, iav, Dep.av, listsAV, rightE, g1, g2]
    · cases g3 : knownB n d with
      | false => rw [g3] at k1; simp [a30, iav, Dep.av, listsAV, rightE, g1, g2, g3, k1]
      | true =>
        rw [g3] at k1
        cases g4 : ls.all (areKeysB n) with
        | false => rw [g4] at k2; simp [a30, iav, Dep.av, listsAV, rightE, g1, g2, g3, g4, k1, k2]
        | true => rw [g4] at k2; simp [a30, iav, Dep.av, listsAV, rightE, g1, g2, g3, g4, k1, k2]
end Go.Av
