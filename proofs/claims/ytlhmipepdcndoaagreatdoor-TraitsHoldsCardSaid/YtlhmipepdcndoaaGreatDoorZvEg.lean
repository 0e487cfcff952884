/- Part of a proof: traits.Holds and traits.Sorted. -/
import Derived.Test.YtlhmipepdcndoaaGreatDoorZvEf
import Derived.Test.YtlhmipepdcndoaaGreatDoorZvDh
import Derived.Test.YtlhmipepdcndoaaGreatDoorZvEb
set_option maxRecDepth 100000
set_option linter.unusedSimpArgs false
set_option linter.unusedVariables false
namespace Go.Av
open Go Go.Proofs

theorem c35 (r r0 : List V) (l : List (List V)) (c : Int) (S : List Bx) (h0 : l[0]? = some r0) (hc : 0 ≤ c) (h1 : c < r.length) (h2 : c < r0.length) :
    run 35 [rowAV r, .sptr [iav c], .sptr [rowsAV l]] S = some (.ret (.bool (eqV (vAt r c) (vAt r0 c))) none, S) := by
  refine eqn rfl ?_
  have g1 := vAt_get (r := r) (k := ⟨c, false⟩) ⟨hc, h1⟩
  have g0 := vAt_get (r := r0) (k := ⟨c, false⟩) ⟨hc, h2⟩
  simp only at g1 g0
  have q := eqCells_V (vAt r c) (vAt r0 c)
  generalize vAt r c = v at *
  generalize vAt r0 c = v0 at *
  generalize eqV v v0 = B at *
  simp [-eqCells, -eqCell, a35, rowsAV, rowAV, iav, V.av, h0, hc, g1, g0, q]
theorem c38 (r : List V) (p : Int × Int) (S : List Bx) (hx : 0 ≤ p.1 ∧ p.1 < r.length) (hy : 0 ≤ p.2 ∧ p.2 < r.length) :
    run 38 [rowAV r, .sptr [.int .i64 p.1, .int .i64 p.2]] S = some (.ret (.bool (eqV (vAt r p.1) (vAt r p.2))) none, S) := by
  refine eqn rfl ?_
  have g1 := vAt_get (r := r) (k := ⟨p.1, false⟩) hx
  have g0 := vAt_get (r := r) (k := ⟨p.2, false⟩) hy
  simp only at g1 g0
  obtain ⟨x, y⟩ := p
  simp only at *
  have q := eqCells_V (vAt r x) (vAt r y)
  generalize vAt r x = v at *
  generalize vAt r y = v0 at *
  generalize eqV v v0 = B at *
  have hx0 := hx.1
  have hy0 := hy.1
  simp [-eqCells, -eqCell, a38, rowAV, V.av, hx0, hy0, g1, g0, q]
theorem c33 (l : List (List V)) (c : Int) (S : List Bx) (hl : l.length ≤ 1000000) (hc : ∀ r ∈ l, 0 ≤ c ∧ c < r.length) :
    run 33 [iav c, .sptr [rowsAV l]] S = some (.ret (.bool (l.all fun r => eqV (vAt r c) (vAt (l.getD 0 []) c))) none, S) := by
  refine eqn rfl ?_
  have q := c34 l 35 [] [.sptr [iav c], .sptr [rowsAV l]] (fun r => eqV (vAt r c) (vAt (l.getD 0 []) c)) S (by omega) (fun r hr => by
    have hlt := List.length_pos_of_mem hr
    obtain ⟨r0, h0⟩ : ∃ r0, l[0]? = some r0 := ⟨l[0], by simp⟩
    rw [getD_of h0]
    have h1 := hc r hr
    exact c35 r r0 l c S h0 h1.1 h1.2 (hc r0 (List.mem_of_getElem? h0)).2)
  simp only [rowsAV, clo, iav] at q
  generalize (l.all fun r => eqV (vAt r c) (vAt (l.getD 0 []) c)) = B at *
  simp [a33, rowsAV, iav, q]
theorem c37 (l : List (List V)) (p : Int × Int) (S : List Bx) (hl : l.length ≤ 1000000) (hc : ∀ r ∈ l, (0 ≤ p.1 ∧ p.1 < r.length) ∧ (0 ≤ p.2 ∧ p.2 < r.length)) :
    run 37 [pav p, .sptr [rowsAV l]] S = some (.ret (.bool (l.all fun r => eqV (vAt r p.1) (vAt r p.2))) none, S) := by
  refine eqn rfl ?_
  have q := c34 l 38 [] [.sptr [.int .i64 p.1, .int .i64 p.2]] (fun r => eqV (vAt r p.1) (vAt r p.2)) S (by omega) (fun r hr => c38 r p S (hc r hr).1 (hc r hr).2)
  simp only [rowsAV, clo] at q
  generalize (l.all fun r => eqV (vAt r p.1) (vAt r p.2)) = B at *
  simp [a37, rowsAV, pav, q]
theorem c40 (l : List (List V)) (set : List Int) (S : List Bx) (hr : ∀ r ∈ l, (∀ v ∈ r, goodV v) ∧ ∀ c ∈ set, 0 ≤ c ∧ c < r.length) (hsl : set.length ≤ 1000) (hl : l.length ≤ 1000000) :
    run 40 [intsAV set, .sptr [rowsAV l]] S = some (.ret (.bool (uniqGo set [] l)) none, S) := by
  refine eqn rfl ?_
  have q := c41 l set S hr hsl hl
  simp only [rowsAV, intsAV] at q
  generalize uniqGo set [] l = B at *
  simp [a40, rowsAV, intsAV, q]
def holdsP (f : Dep) (l : List (List V)) : Bool :=
  ((f.consts.all fun c => l.all fun r => eqV (vAt r c) (vAt (l.getD 0 []) c)) && (f.equal.all fun p => l.all fun r => eqV (vAt r p.1) (vAt r p.2))) && (f.sets.all fun s => uniqGo s [] l)
def holdsE (n : Int) (f : Dep) (l : List (List V)) : Bool × Int :=
  if rightE n f [] ≠ 0 then (false, rightE n f []) else if areRowsB n l then (holdsP f l, 0) else (false, 20)
theorem rows_of {n : Int} {l : List (List V)} (h : areRowsB n l = true) (hi : ∀ r ∈ l, ∀ v ∈ r, valI v) : l.length ≤ 20000 ∧ ∀ r ∈ l, (r.length : Int) = n ∧ ∀ v ∈ r, goodV v := by
  unfold areRowsB at h
  simp only [Bool.and_eq_true, decide_eq_true_eq, List.all_eq_true] at h
  exact ⟨h.1, fun r hr => ⟨(h.2 r hr).1, fun v hv => ⟨(h.2 r hr).2 v hv, hi r hr v hv⟩⟩⟩
set_option maxHeartbeats 2000000 in
theorem c12 (n : Int) (f : Dep) (l : List (List V)) (S : List Bx) (hd : f.Small) (hr : rowsOk l) (hl : l.length ≤ 9223372036854775807) (hi : ∀ r ∈ l, ∀ v ∈ r, valI v) :
    run 12 [iav n, f.av, rowsAV l] S = some (.ret (tupB (holdsE n f l).1 (holdsE n f l).2) none, S) := by
  refine eqn rfl ?_
  have q1 := c30 n f [] S hd (by simp) (by simp)
  have q2 := c31 n l S hr hl
  unfold holdsE
  simp only [Dep.av, iav, listsAV, List.map_nil] at q1
  by_cases h0 : rightE n f [] = 0
  · obtain ⟨n1, n2, hk, _⟩ := right_ok h0
    have hin := inN_of hd hk n1 n2
    rw [if_neg (by omega)]
    rw [h0] at q1
    cases hb : areRowsB n l with
    | false =>
      rw [hb] at q2
      simp only [rowsAV] at q2
      simp [a12, Dep.av, iav, intsAV, pairsAV, setsAV, rowsAV, tupB] at q1 ⊢
      simp [q1, q2]
    | true =>
      rw [hb] at q2
      obtain ⟨l1, l2⟩ := rows_of hb hi
      have hcol : ∀ c : Int, 0 ≤ c ∧ c < (n.toNat : Int) → ∀ r ∈ l, 0 ≤ c ∧ c < (r.length : Int) := fun c hc r hr' => by
        have := (l2 r hr').1
        omega
      have q3 := c32 f.consts 33 [] [.sptr [rowsAV l]] (fun c => l.all fun r => eqV (vAt r c) (vAt (l.getD 0 []) c)) S hd.c (fun c hc => by
        simpa using c33 l c S (by omega) (hcol c (hin.c c hc)))
      have q4 := c36 f.equal 37 [] [.sptr [rowsAV l]] (fun p => l.all fun r => eqV (vAt r p.1) (vAt r p.2)) S hd.e (fun p hp => by
        obtain ⟨x0, x1, y0, y1⟩ := hin.e p hp
        simpa using c37 l p S (by omega) (fun r hr' => ⟨hcol p.1 ⟨x0, x1⟩ r hr', hcol p.2 ⟨y0, y1⟩ r hr'⟩))
      have q5 := c39 f.sets 40 [] [.sptr [rowsAV l]] (fun s => uniqGo s [] l) S hd.s (fun s hs => by
        have hset : s.length ≤ 1000 := by
          simp only [knownB, Bool.and_eq_true, decide_eq_true_eq, List.all_eq_true] at hk
          have := hk.2 s hs
          simp only [setB, Bool.and_eq_true, decide_eq_true_eq] at this
          omega
        simpa using c40 l s S (fun r hr' => ⟨(l2 r hr').2, fun c hc => hcol c ((hin.s s hs).2 c hc) r hr'⟩) hset (by omega))
      unfold holdsP
      generalize (f.consts.all fun c => l.all fun r => eqV (vAt r c) (vAt (l.getD 0 []) c)) = B1 at *
      generalize (f.equal.all fun p => l.all fun r => eqV (vAt r p.1) (vAt r p.2)) = B2 at *
      generalize (f.sets.all fun s => uniqGo s [] l) = B3 at *
      simp only [rowsAV, clo, intsAV, pairsAV, setsAV] at q2 q3 q4 q5
      simp [intsAV, pairsAV, setsAV] at q1
      cases B1 <;> cases B2 <;> simp [a12, Dep.av, iav, intsAV, pairsAV, setsAV, rowsAV, tupB, q1, q2, q3, q4, q5]
  · rw [if_pos h0]
    simp [a12, Dep.av, iav, intsAV, pairsAV, setsAV, rowsAV, tupB] at q1 ⊢
    simp [q1, h0]
def sortE (n : Int) (ks : List K) (l : List (List V)) : Bool × Int :=
  if rightE n dep0 [ks] ≠ 0 then (false, rightE n dep0 [ks]) else if areRowsB n l then (sortedB ks l, 0) else (false, 20)
set_option maxHeartbeats 2000000 in
theorem c13 (n : Int) (ks : List K) (l : List (List V)) (S : List Bx) (hks : ks.length ≤ 1000) (hr : rowsOk l) (hl : l.length ≤ 9223372036854775807) :
    run 13 [iav n, keysAV ks, rowsAV l] S = some (.ret (tupB (sortE n ks l).1 (sortE n ks l).2) none, S) := by
  refine eqn rfl ?_
  have q1 := c30 n dep0 [ks] S dep0_small (by simp) (by simp; omega)
  have q2 := c31 n l S hr hl
  unfold sortE
  simp only [Dep.av, iav, listsAV, intsAV, pairsAV, setsAV, keysAV, List.map_nil, List.map_cons] at q1
  by_cases h0 : rightE n dep0 [ks] = 0
  · obtain ⟨n1, n2, hk, hks'⟩ := right_ok h0
    have hin := keys_in (hks' ks (by simp)) n1
    rw [if_neg (by omega)]
    rw [h0] at q1
    cases hb : areRowsB n l with
    | false =>
      rw [hb] at q2
      simp only [rowsAV] at q2
      simp [a13, iav, keysAV, rowsAV, tupB, q1, q2]
    | true =>
      rw [hb] at q2
      unfold areRowsB at hb
      simp only [Bool.and_eq_true, decide_eq_true_eq, List.all_eq_true] at hb
      have q3 := c42 ks l S (fun r hr' => ⟨fun k hk' => ⟨(hin k hk').1, by have := (hin k hk').2; have := (hb.2 r hr').1; omega⟩, (hr r hr').1, by have := (hb.2 r hr').1; omega⟩) hl (by omega)
      simp only [rowsAV, keysAV] at q2 q3
      generalize sortedB ks l = B at *
      simp [a13, iav, keysAV, rowsAV, tupB, q1, q2, q3]
  · rw [if_pos h0]
    simp [a13, iav, keysAV, rowsAV, tupB, q1, h0]
end Go.Av
