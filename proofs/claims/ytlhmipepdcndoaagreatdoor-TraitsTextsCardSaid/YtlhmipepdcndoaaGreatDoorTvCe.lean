/- Part of a proof: ref18.Asked. -/
import Derived.Test.YtlhmipepdcndoaaGreatDoorTvCd
set_option maxRecDepth 100000
set_option linter.unusedSimpArgs false
set_option linter.unusedVariables false
namespace Go.Av
open Go Go.Proofs
attribute [local simp] afun acode aops aoper aopB blkOk aop apure aenter St.av St.avs St.sv SV.av Slots.get Slots.set Slots.kill SV.kill St.put St.drop St.right St.move St.keep Slots.keep Locs.keep Locs.get Locs.set rightOf normal AV.isDat AV.cells St.cellsAt aload abin aun AOp.dst AOp.addr aresult ares aresAll afinish List.filter_cons St.freeze Slots.freeze SV.frozen Locs.del isNilAV boundOf astore putCells dropCells nilOk optOwn nilsOf nilsGo isNilSl aleave_same abuild chunk

theorem lt_len (m l : Nat) : decide ((m : Int) < (l : Int)) = decide (m < l) := by simp
theorem loop_all {α : Type} {f : St → Option (AEx × St)} (l : List α) (p : α → Bool) (st : Nat → St) {bad good : AEx × St} (hb : bad.1 ≠ .normal) (hg : good.1 ≠ .normal)
    (hround : ∀ (i : Nat) x, l[i]? = some x → f (st i) = if p x then some (.normal, st (i + 1)) else some bad) (hend : f (st l.length) = some good) :
    aloopW f (st 0) = if l.all p then some good else some bad := by
  rcases first_not p l with h | ⟨j, x, h1, h2, h3⟩
  · rw [h, if_pos rfl]
    refine loop_upto hg l.length 0 (fun k _ hk => ?_) (by rw [Nat.zero_add]; exact hend)
    have hk' : k < l.length := by omega
    rw [hround k l[k] (by simp [hk']), List.all_eq_true.1 h _ (List.getElem_mem hk')]; rfl
  · have hall : l.all p = false := by
      rw [List.all_eq_false]
      exact ⟨x, List.mem_of_getElem? h1, by simp [h2]⟩
    rw [hall]
    have hj : j < l.length := (List.getElem?_eq_some_iff.1 h1).1
    refine loop_upto hb j 0 (fun k _ hk => ?_) (by rw [Nat.zero_add, hround j x h1, h2]; rfl)
    have hk' : k < l.length := by omega
    rw [hround k l[k] (by simp [hk']), h3 k (by omega) l[k] (by simp [hk'])]; rfl

def st79 (n : Int) (l : List Int) (S : List Bx) (i : Nat) : St := { σ := [(0, .v (.int .i64 n)), (1, .v (.slice 1 (l.map iav))), (5, .v (.int .i64 i))], own := [], loc := [], S := S }
theorem c79 (n : Int) (l : List Int) (S : List Bx) (hl : l.length ≤ 9223372036854775807) : run 79 [iav n, intsAV l] S = some (.ret (.bool (l.all (inB n))) none, S) := by
  refine eqn rfl ?_
  have hloop := loop_all (f := acode run a79_l0) l (inB n) (st79 n l S) (bad := (.ret, { σ := [(4, .v (.bool false))], own := [], loc := [], S := S })) (good := (.exit 0, { σ := [], own := [], loc := [], S := S })) (by simp) (by simp)
    (fun i k hk => by
      have hi : i < l.length := (List.getElem?_eq_some_iff.1 hk).1
      have hw : IntKind.wrap .i64 ((i : Int) + 1) = (i : Int) + 1 := wrap64 (by omega) (by omega)
      have hi' : (i : Int) < (l.length : Int) := by omega
      by_cases h1 : k < 0
      · have h2 : ¬ (0 ≤ k) := by omega
        simp [a79_l0, st79, inB, hk, iav, hi', h1, h2]
      · have h2 : 0 ≤ k := by omega
        by_cases h3 : n ≤ k
        · have h4 : ¬ (k < n) := by omega
          simp [a79_l0, st79, inB, hk, iav, hi', h1, h2, h3, h4]
        · have h4 : k < n := by omega
          simp [a79_l0, st79, inB, hk, iav, hi', h1, h2, h3, h4, hw])
    (by simp [a79_l0, st79])
  simp only [st79, Int.natCast_zero, Int.ofNat_zero] at hloop
  cases h : l.all (inB n) <;> rw [h] at hloop <;> simp [a79, iav, intsAV, hloop]

def st19 (n : Int) (ls : List (List K)) (S : List Bx) (i : Nat) : St := { σ := [(0, .v (.int .i64 n)), (2, .v (.slice 1 (ls.map keysAV))), (7, .v (.int .i64 i))], own := [], loc := [], S := S }
def keysB (n : Int) (ks : List K) : Bool := ks.all (okK n) && decide (ks.length ≤ 32)
def st49 (n : Int) (d : Dep) (S : List Bx) (i : Nat) : St := { σ := [(0, .v (.int .i64 n)), (3, .l 3 0), (5, .v (.int .i64 i))], own := [], loc := [(3, { cells := [intsAV d.consts, pairsAV d.equal, setsAV d.sets], own := [] })], S := S }
def st49b (n : Int) (d : Dep) (S : List Bx) (i : Nat) : St := { σ := [(0, .v (.int .i64 n)), (3, .l 3 0), (6, .v (.int .i64 i))], own := [], loc := [(3, { cells := [intsAV d.consts, pairsAV d.equal, setsAV d.sets], own := [] })], S := S }
set_option maxHeartbeats 4000000 in
theorem c49 (n : Int) (d : Dep) (S : List Bx) (hd : d.Small) : run 49 [iav n, d.av] S = some (.ret (.bool (knownB n d)) none, S) := by
  refine eqn rfl ?_
  have q0 := c79 n d.consts S hd.c
  have l1 := loop_all (f := acode run a49_l0) d.equal (fun p => inB n p.1 && inB n p.2) (st49 n d S) (bad := (.ret, { σ := [(4, .v (.bool false))], own := [], loc := [], S := S }))
    (good := (.exit 0, { σ := [(0, .v (.int .i64 n)), (3, .l 3 0)], own := [], loc := [(3, { cells := [intsAV d.consts, pairsAV d.equal, setsAV d.sets], own := [] })], S := S })) (by simp) (by simp)
    (fun i k hk => by
      have hi : i < d.equal.length := (List.getElem?_eq_some_iff.1 hk).1
      have hw : IntKind.wrap .i64 ((i : Int) + 1) = (i : Int) + 1 := wrap64 (by have := hd.e; omega) (by have := hd.e; omega)
      have hi' : (i : Int) < (d.equal.length : Int) := by omega
      have q := c79 n [k.1, k.2] S (by simp)
      simp only [iav, intsAV, List.map_cons, List.map_nil, List.all_cons, List.all_nil, Bool.and_true] at q
      cases hb : (inB n k.1 && inB n k.2) <;> rw [hb] at q <;> simp [a49_l0, st49, pairsAV, pav, hk, hi', hw, q])
    (by simp [a49_l0, st49, pairsAV])
  have l2 := loop_all (f := acode run a49_l1) d.sets (setB n) (st49b n d S) (bad := (.ret, { σ := [(4, .v (.bool false))], own := [], loc := [], S := S }))
    (good := (.exit 2, { σ := [], own := [], loc := [], S := S })) (by simp) (by simp)
    (fun i k hk => by
      have hi : i < d.sets.length := (List.getElem?_eq_some_iff.1 hk).1
      have hw : IntKind.wrap .i64 ((i : Int) + 1) = (i : Int) + 1 := wrap64 (by have := hd.s; omega) (by have := hd.s; omega)
      have hi' : (i : Int) < (d.sets.length : Int) := by omega
      have q := c79 n k S (hd.ss k (List.mem_of_getElem? hk))
      simp only [iav, intsAV] at q
      have e : decide ((16 : Int) < (k.length : Int)) = decide (16 < k.length) := lt_len 16 _
      by_cases hb : k.length ≤ 16
      · have hb' : ¬ (16 < k.length) := by omega
        cases hc : k.all (inB n) <;> rw [hc] at q <;> simp [a49_l1, st49b, setsAV, intsAV, iav, hk, hi', hw, q, e, hb, hb', setB, hc]
      · have hb' : 16 < k.length := by omega
        simp [a49_l1, st49b, setsAV, intsAV, iav, hk, hi', hw, e, hb, hb', setB])
    (by simp [a49_l1, st49b, setsAV])
  simp only [st49, st49b, Int.natCast_zero, Int.ofNat_zero] at l1 l2
  simp only [iav, intsAV] at q0
  have e1 : decide ((16 : Int) < (d.consts.length : Int)) = decide (16 < d.consts.length) := lt_len 16 _
  have e2 : decide ((16 : Int) < (d.equal.length : Int)) = decide (16 < d.equal.length) := lt_len 16 _
  have e3 : decide ((16 : Int) < (d.sets.length : Int)) = decide (16 < d.sets.length) := lt_len 16 _
  simp only [intsAV, pairsAV, setsAV] at l1 l2
  by_cases g1 : d.consts.length ≤ 16
  · have g1' : ¬ (16 < d.consts.length) := by omega
    by_cases g2 : d.equal.length ≤ 16
    · have g2' : ¬ (16 < d.equal.length) := by omega
      by_cases g3 : d.sets.length ≤ 16
      · have g3' : ¬ (16 < d.sets.length) := by omega
        cases g4 : d.consts.all (inB n) with
        | false => rw [g4] at q0; simp [a49, iav, Dep.av, intsAV, pairsAV, setsAV, knownB, q0, l1, l2, e1, e2, e3, g1, g2, g3, g1', g2', g3', g4]
        | true =>
          rw [g4] at q0
          cases g5 : d.equal.all (fun p => inB n p.1 && inB n p.2) with
          | false => rw [g5] at l1; simp [a49, iav, Dep.av, intsAV, pairsAV, setsAV, knownB, q0, l1, l2, e1, e2, e3, g1, g2, g3, g1', g2', g3', g4, g5]
          | true =>
            rw [g5] at l1
            cases g6 : d.sets.all (setB n) with
            | false => rw [g6] at l2; simp [a49, iav, Dep.av, intsAV, pairsAV, setsAV, knownB, q0, l1, l2, e1, e2, e3, g1, g2, g3, g1', g2', g3', g4, g5, g6]
            | true => rw [g6] at l2; simp [a49, iav, Dep.av, intsAV, pairsAV, setsAV, knownB, q0, l1, l2, e1, e2, e3, g1, g2, g3, g1', g2', g3', g4, g5, g6]
      · have g3' : 16 < d.sets.length := by omega
        simp [a49, iav, Dep.av, intsAV, pairsAV, setsAV, knownB, q0, l1, l2, e1, e2, e3, g1, g2, g3, g1', g2', g3']
    · have g2' : 16 < d.equal.length := by omega
      simp [a49, iav, Dep.av, intsAV, pairsAV, setsAV, knownB, q0, l1, l2, e1, e2, e3, g1, g2, g1', g2']
  · have g1' : 16 < d.consts.length := by omega
    simp [a49, iav, Dep.av, intsAV, pairsAV, setsAV, knownB, q0, l1, l2, e1, e2, e3, g1, g1']
theorem keysB_eq (n : Int) (ks : List K) : (ks.all (okK n) && decide (ks.length ≤ 32)) = areKeysB n ks := by
  unfold areKeysB
  rw [Bool.and_comm]
  rfl
set_option maxHeartbeats 2000000 in
theorem c19 (n : Int) (d : Dep) (ls : List (List K)) (S : List Bx) (hd : d.Small) (h1 : ls.length ≤ 9223372036854775807) (h2 : ∀ l ∈ ls, l.length ≤ 9223372036854775807) :
    run 19 [iav n, d.av, listsAV ls] S = some (.ret (.int .i64 (rightE n d ls)) none, S) := by
  refine eqn rfl ?_
  have k1 := c49 n d S hd
  have hloop := loop_all (f := acode run a19_l0) ls (areKeysB n) (st19 n ls S) (bad := (.ret, { σ := [(6, .v (.int .i64 180))], own := [], loc := [], S := S })) (good := (.exit 0, { σ := [], own := [], loc := [], S := S })) (by simp) (by simp)
    (fun i k hk => by
      have hi : i < ls.length := (List.getElem?_eq_some_iff.1 hk).1
      have hw : IntKind.wrap .i64 ((i : Int) + 1) = (i : Int) + 1 := wrap64 (by omega) (by omega)
      have hi' : (i : Int) < (ls.length : Int) := by omega
      have q := c50 n k S (h2 k (List.mem_of_getElem? hk))
      rw [keysB_eq] at q
      simp only [keysAV] at q
      cases hb : areKeysB n k <;> rw [hb] at q <;> simp [a19_l0, st19, keysAV, hk, hi', hw, q])
    (by simp [a19_l0, st19])
  simp only [st19, Int.natCast_zero, Int.ofNat_zero] at hloop
  simp only [iav, Dep.av] at k1
  by_cases g1 : n < 1
  · simp [a19, iav, Dep.av, listsAV, rightE, g1]
  · by_cases g2 : 16 < n
    · simp [a19, iav, Dep.av, listsAV, rightE, g1, g2]
    · cases g3 : knownB n d with
      | false => rw [g3] at k1; simp [a19, iav, Dep.av, listsAV, rightE, g1, g2, g3, k1]
      | true =>
        rw [g3] at k1
        cases g4 : ls.all (areKeysB n) with
        | false => rw [g4] at hloop; simp [a19, iav, Dep.av, listsAV, rightE, g1, g2, g3, g4, k1, hloop]
        | true => rw [g4] at hloop; simp [a19, iav, Dep.av, listsAV, rightE, g1, g2, g3, g4, k1, hloop]
end Go.Av
