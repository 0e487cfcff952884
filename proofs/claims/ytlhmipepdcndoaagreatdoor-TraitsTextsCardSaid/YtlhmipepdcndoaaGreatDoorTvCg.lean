/- Part of a proof: Cut and Tame. -/
import Derived.Test.YtlhmipepdcndoaaGreatDoorTvCf
set_option maxRecDepth 100000
set_option linter.unusedSimpArgs false
set_option linter.unusedVariables false
namespace Go.Av
open Go Go.Proofs
attribute [local simp] afun acode aops aoper aopB blkOk aop apure aenter St.av St.avs St.sv SV.av Slots.get Slots.set Slots.kill SV.kill St.put St.drop St.right St.move St.keep Slots.keep Locs.keep Locs.get Locs.set rightOf normal AV.isDat AV.cells St.cellsAt aload abin aun AOp.dst AOp.addr aresult ares aresAll afinish List.filter_cons St.freeze Slots.freeze SV.frozen Locs.del isNilAV boundOf astore putCells dropCells nilOk optOwn nilsOf nilsGo isNilSl aleave_same abuild chunk srcElems St.prep newsOf Slots.killAll AOp.news AV.isAgg

def z3 : List AV := [.slice 1 [], .slice 2 [], .slice 1 []]
def st17 (A B A' B' : AV) (sets acc : List AV) (S : List Bx) (i : Nat) : St :=
  { σ := [(1, .l 1 0), (2, .l 2 0), (3, .l 3 0), (4, .v (.int .i64 i))], own := [],
    loc := [(1, { cells := [A, B, .slice 1 sets], own := [] }), (2, { cells := [.slice 1 [], .slice 2 [], .slice 1 []], own := [(0, 3), (1, 63), (2, 22)] }), (3, { cells := [A', B', .slice 1 acc], own := [(2, 22)] })], S := S }
set_option maxHeartbeats 1000000 in
theorem round17 (A B A' B' : AV) (sets acc ys : List AV) (S : List Bx) (i : Nat) (hi : i < sets.length) (h6 : i < 18) (hk : sets[i]? = some (.slice 1 ys)) (hl : acc.length ≤ 100) :
    acode run a17_l0 (st17 A B A' B' sets acc S i) = some (.normal, st17 A B A' B' sets (acc ++ [.slice 1 (ys.take 18)]) S (i + 1)) := by
  have hw : IntKind.wrap .i64 ((i : Int) + 1) = (i : Int) + 1 := wrap64 (by omega) (by omega)
  have hi' : (i : Int) < (sets.length : Int) := by omega
  have h6' : (i : Int) < 18 := by omega
  have hlen : (acc.length + 1) * 24 ≤ 140737488355328 := by omega
  have g1 : (0 : Int) ≤ min (ys.length : Int) 18 := by omega
  have g2 : min (ys.length : Int) 18 ≤ (ys.length : Int) := by omega
  have g3 : (min (ys.length : Int) 18).toNat = min ys.length 18 := by omega
  have g4 : min (min ys.length 18) ys.length * 8 ≤ 140737488355328 := by omega
  have g4' : min 18 ys.length * 8 ≤ 140737488355328 := by omega
  have g5 : ys.take (min ys.length 18) = ys.take 18 := by
    rcases Nat.le_total ys.length 18 with h | h
    · rw [Nat.min_eq_left h, List.take_of_length_le (by simp), List.take_of_length_le (by simpa using h)]
    · rw [Nat.min_eq_right h]
  simp [a17_l0, st17, hk, hw, hi', h6', hlen, g1, g2, g3, g4, g4', g5]
theorem end17 (A B A' B' : AV) (sets acc : List AV) (S : List Bx) (i : Nat) (h : ¬ (i < sets.length ∧ i < 18)) :
    acode run a17_l0 (st17 A B A' B' sets acc S i) = some (.exit 0, { σ := [(2, .l 2 0), (3, .l 3 0)], own := [], loc := [(2, { cells := [.slice 1 [], .slice 2 [], .slice 1 []], own := [(0, 3), (1, 63), (2, 22)] }), (3, { cells := [A', B', .slice 1 acc], own := [(2, 22)] })], S := S }) := by
  by_cases h1 : (i : Int) < (sets.length : Int)
  · have h2 : ¬ ((i : Int) < 18) := by omega
    simp [a17_l0, st17, h1, h2]
  · simp [a17_l0, st17, h1]

def cutDep (d : Dep) : Dep := ⟨d.consts.take 18, d.equal.take 18, (d.sets.take 18).map (·.take 18)⟩
theorem take_min (l : List AV) (n : Nat) : l.take (min l.length n) = l.take n := by
  rcases Nat.le_total l.length n with h | h
  · rw [Nat.min_eq_left h, List.take_of_length_le (by simp), List.take_of_length_le (by simpa using h)]
  · rw [Nat.min_eq_right h]
theorem take_min' {α : Type} (l : List α) (n : Nat) : l.take (min l.length n) = l.take n := by
  rcases Nat.le_total l.length n with h | h
  · rw [Nat.min_eq_left h, List.take_of_length_le (by simp), List.take_of_length_le (by simpa using h)]
  · rw [Nat.min_eq_right h]
theorem cut_step (sets : List (List Int)) (i : Nat) (hi : i < sets.length) : (((sets.take (i + 1)).map (·.take 18)).map intsAV) = ((sets.take i).map (·.take 18)).map intsAV ++ [.slice 1 ((sets[i].map iav).take 18)] := by
  have hk : sets[i]? = some sets[i] := by simp [hi]
  rw [List.take_add_one, hk]
  simp only [List.map_append, Option.toList_some, List.map_cons, List.map_nil, intsAV, List.map_take]
theorem loop17 (A B A' B' : AV) (sets : List (List Int)) (S : List Bx) : aloopW (acode run a17_l0) (st17 A B A' B' (sets.map intsAV) [] S 0) =
    some (.exit 0, { σ := [(2, .l 2 0), (3, .l 3 0)], own := [], loc := [(2, { cells := [.slice 1 [], .slice 2 [], .slice 1 []], own := [(0, 3), (1, 63), (2, 22)] }), (3, { cells := [A', B', .slice 1 (((sets.take 18).map (·.take 18)).map intsAV)], own := [(2, 22)] })], S := S }) := by
  have h := loop_upto (f := acode run a17_l0) (st := fun i => st17 A B A' B' (sets.map intsAV) (((sets.take i).map (·.take 18)).map intsAV) S i)
    (r := (.exit 0, { σ := [(2, .l 2 0), (3, .l 3 0)], own := [], loc := [(2, { cells := [.slice 1 [], .slice 2 [], .slice 1 []], own := [(0, 3), (1, 63), (2, 22)] }), (3, { cells := [A', B', .slice 1 (((sets.take (min sets.length 18)).map (·.take 18)).map intsAV)], own := [(2, 22)] })], S := S })) (by simp) (min sets.length 18) 0
    (fun k _ hk => by
      have hk' : k < sets.length := by omega
      have := round17 A B A' B' (sets.map intsAV) (((sets.take k).map (·.take 18)).map intsAV) (sets[k].map iav) S k (by simpa using hk') (by omega) (by simp [hk', intsAV]) (by simp; omega)
      rw [this, cut_step sets k hk'])
    (by rw [Nat.zero_add]; exact end17 _ _ _ _ _ _ _ _ (by simp; omega))
  rw [take_min'] at h
  simpa using h
theorem c17 (d : Dep) (S : List Bx) : run 17 [d.av] S = some (.ret (cutDep d).av none, S) := by
  refine eqn rfl ?_
  have hloop := fun A B A' B' => loop17 A B A' B' d.sets S
  simp only [st17, Int.natCast_zero, Int.ofNat_zero] at hloop
  have g1 : (0 : Int) ≤ min (d.consts.length : Int) 18 := by omega
  have g2 : min (d.consts.length : Int) 18 ≤ (d.consts.length : Int) := by omega
  have g3 : (min (d.consts.length : Int) 18).toNat = min d.consts.length 18 := by omega
  have g4 : min 18 d.consts.length * 8 ≤ 140737488355328 := by omega
  have g5 : (d.consts.map iav).take (min d.consts.length 18) = (d.consts.map iav).take 18 := by have := take_min (d.consts.map iav) 18; simpa using this
  have e1 : (0 : Int) ≤ min (d.equal.length : Int) 18 := by omega
  have e2 : min (d.equal.length : Int) 18 ≤ (d.equal.length : Int) := by omega
  have e3 : (min (d.equal.length : Int) 18).toNat = min d.equal.length 18 := by omega
  have e4 : min 18 d.equal.length * 16 ≤ 140737488355328 := by omega
  have e5 : (d.equal.map pav).take (min d.equal.length 18) = (d.equal.map pav).take 18 := by have := take_min (d.equal.map pav) 18; simpa using this
  simp [a17, Dep.av, intsAV, pairsAV, setsAV, cutDep, g1, g2, g3, g4, g5, e1, e2, e3, e4, e5, hloop]
end Go.Av
