/- Part of a proof: Holds of the definition. -/
import Derived.Test.YtlhmipepdcndoaaGreatDoorZvDg
import Derived.Test.YtlhmipepdcndoaaGreatDoorZvCo
set_option maxRecDepth 100000
set_option linter.unusedSimpArgs false
set_option linter.unusedVariables false
namespace Go.Av
open Go Go.Proofs

def eqV (a b : V) : Bool := (a.k == b.k) && ((a.n == b.n) && (a.t == b.t))
theorem eqCells_V (x y : V) : eqCells [0, 0, 2] [.int .i64 x.k, .int .i64 x.n, .str (bs x.t)] [.int .i64 y.k, .int .i64 y.n, .str (bs y.t)] = some (eqV x y) := by
  simp only [eqCells, eqCell, if_true, bs_toList, eqV, Bool.and_true]
theorem eqV_iff (a b : V) : eqV a b = true ↔ a = b := by
  obtain ⟨a1, a2, a3⟩ := a
  obtain ⟨b1, b2, b3⟩ := b
  simp [eqV]
def constB (f : Dep) (r0 r : List V) : Bool := f.consts.all fun k => eqV (vAt r k) (vAt r0 k)
def equalB (f : Dep) (r : List V) : Bool := f.equal.all fun p => eqV (vAt r p.1) (vAt r p.2)
def setB1 (l : List (List V)) (i : Nat) (s : List Int) : Bool := (List.range i).all fun j => !decide (cmpRow (atR (l.getD i []) s) (atR (l.getD j []) s) = 0)
def rowB (f : Dep) (l : List (List V)) (i : Nat) : Bool := constB f (l.getD 0 []) (l.getD i []) && equalB f (l.getD i []) && f.sets.all (setB1 l i)
def holdsB (f : Dep) (l : List (List V)) : Bool := (List.range l.length).all (rowB f l)

abbrev lH (f : Dep) : Locs := [(2, { cells := [intsAV f.consts, pairsAV f.equal, setsAV f.sets], own := [] })]
def badH (S : List Bx) : AEx × St := (.ret, { σ := [(4, .v (.bool false))], own := [], loc := [], S := S })
def st0_15 (f : Dep) (l : List (List V)) (S : List Bx) (i k : Nat) : St :=
  { σ := [(1, .v (rowsAV l)), (2, .l 2 0), (5, .v (.int .i64 i)), (6, .v (.int .i64 k))], own := [], loc := lH f, S := S }
def stH15 (f : Dep) (l : List (List V)) (S : List Bx) (i : Nat) : St :=
  { σ := [(1, .v (rowsAV l)), (2, .l 2 0), (5, .v (.int .i64 i))], own := [], loc := lH f, S := S }
theorem getD_of {α : Type} {l : List α} {i : Nat} {x d : α} (h : l[i]? = some x) : l.getD i d = x := by simp [List.getD, h]

theorem loop0_15 (n : Nat) (f : Dep) (l : List (List V)) (S : List Bx) (hd : f.InN n) (hr : ∀ r ∈ l, r.length = n) (i : Nat) (hi : i < l.length) (hl : l.length ≤ 1000000) :
    aloopW (acode run a15_l0) (st0_15 f l S i 0) = if constB f (l.getD 0 []) (l.getD i []) then some (.exit 2, stH15 f l S i) else some (badH S) := by
  obtain ⟨r, hri⟩ : ∃ r, l[i]? = some r := ⟨l[i], by simp [hi]⟩
  obtain ⟨r0, hr0⟩ : ∃ r, l[0]? = some r := ⟨l[0], by simp⟩
  rw [getD_of hri, getD_of hr0]
  have ln := hr r (List.mem_of_getElem? hri)
  have l0n := hr r0 (List.mem_of_getElem? hr0)
  have hi' : (i : Int) < (l.length : Int) := by omega
  have h0' : (0 : Int) < (l.length : Int) := by omega
  refine loop_all (f := acode run a15_l0) f.consts (fun k => eqV (vAt r k) (vAt r0 k)) (st0_15 f l S i) (bad := badH S) (good := (.exit 2, stH15 f l S i)) (by simp [badH]) (by simp) (fun k c hx => ?_) ?_
  · have h1 := ilt hx
    have hc := hd.c c (List.mem_of_getElem? hx)
    have hcl := hd.cl
    have g1 := vAt_get (r := r) (k := ⟨c, false⟩) ⟨hc.1, by rw [ln]; exact hc.2⟩
    have g0 := vAt_get (r := r0) (k := ⟨c, false⟩) ⟨hc.1, by rw [l0n]; exact hc.2⟩
    have c1 : c < (r.length : Int) := by rw [ln]; exact hc.2
    have c2 : c < (r0.length : Int) := by rw [l0n]; exact hc.2
    have hc0 := hc.1
    simp only at g1 g0
    have q := eqCells_V (vAt r c) (vAt r0 c)
    generalize vAt r c = v at *
    generalize vAt r0 c = v0 at *
    have hlt := (List.getElem?_eq_some_iff.1 hx).1
    rw [acode_k]
    cases he : eqV v v0 <;> rw [he] at q <;>
      simp [-eqCells, -eqCell, a15_l0, st0_15, badH, hx, h1, hri, hr0, hi', h0', iav, hc0, g1, g0, V.av, q, rowsAV, rowAV, intsAV, w64s (n := k) (by omega)]
  · rw [acode_k]
    simp [a15_l0, st0_15, stH15, intsAV]

def st1_15 (f : Dep) (l : List (List V)) (S : List Bx) (i k : Nat) : St :=
  { σ := [(1, .v (rowsAV l)), (2, .l 2 0), (5, .v (.int .i64 i)), (7, .v (.int .i64 k))], own := [], loc := lH f, S := S }
theorem loop1_15 (n : Nat) (f : Dep) (l : List (List V)) (S : List Bx) (hd : f.InN n) (hr : ∀ r ∈ l, r.length = n) (i : Nat) (hi : i < l.length) (hl : l.length ≤ 1000000) :
    aloopW (acode run a15_l1) (st1_15 f l S i 0) = if equalB f (l.getD i []) then some (.exit 4, stH15 f l S i) else some (badH S) := by
  obtain ⟨r, hri⟩ : ∃ r, l[i]? = some r := ⟨l[i], by simp [hi]⟩
  rw [getD_of hri]
  have ln := hr r (List.mem_of_getElem? hri)
  have hi' : (i : Int) < (l.length : Int) := by omega
  refine loop_all (f := acode run a15_l1) f.equal (fun p => eqV (vAt r p.1) (vAt r p.2)) (st1_15 f l S i) (bad := badH S) (good := (.exit 4, stH15 f l S i)) (by simp [badH]) (by simp) (fun k p hx => ?_) ?_
  · have h1 := ilt hx
    obtain ⟨x0, x1, y0, y1⟩ := hd.e p (List.mem_of_getElem? hx)
    have hel := hd.el
    have g1 := vAt_get (r := r) (k := ⟨p.1, false⟩) ⟨x0, by rw [ln]; exact x1⟩
    have g0 := vAt_get (r := r) (k := ⟨p.2, false⟩) ⟨y0, by rw [ln]; exact y1⟩
    have c1 : p.1 < (r.length : Int) := by rw [ln]; exact x1
    have c2 : p.2 < (r.length : Int) := by rw [ln]; exact y1
    simp only at g1 g0
    obtain ⟨x, y⟩ := p
    simp only at *
    have q := eqCells_V (vAt r x) (vAt r y)
    generalize vAt r x = v at *
    generalize vAt r y = v0 at *
    have hlt := (List.getElem?_eq_some_iff.1 hx).1
    rw [acode_k]
    cases he : eqV v v0 <;> rw [he] at q <;>
      simp [-eqCells, -eqCell, a15_l1, st1_15, badH, hx, h1, hri, hi', pav, x0, y0, g1, g0, V.av, q, rowsAV, rowAV, pairsAV, w64s (n := k) (by omega)]
  · rw [acode_k]
    simp [a15_l1, st1_15, stH15, pairsAV]

theorem range_get {n j j' : Nat} (h : (List.range n)[j]? = some j') : j < n ∧ j = j' := by
  have h0 := (List.getElem?_eq_some_iff.1 h).1
  rw [List.length_range] at h0
  rw [List.getElem?_range h0] at h
  exact ⟨h0, by simpa using h⟩
def st2_15 (f : Dep) (l : List (List V)) (S : List Bx) (i k j : Nat) : St :=
  { σ := [(1, .v (rowsAV l)), (2, .l 2 0), (5, .v (.int .i64 i)), (8, .v (.int .i64 k)), (9, .v (.int .i64 j))], own := [], loc := lH f, S := S }
def st3_15 (f : Dep) (l : List (List V)) (S : List Bx) (i k : Nat) : St :=
  { σ := [(1, .v (rowsAV l)), (2, .l 2 0), (5, .v (.int .i64 i)), (8, .v (.int .i64 k))], own := [], loc := lH f, S := S }
theorem atR_ok {r : List V} (h : okR r) (s : List Int) (hs : ∀ c ∈ s, 0 ≤ c ∧ c < r.length) : okR (atR r s) := by
  intro v hv
  simp only [atR, List.mem_map] at hv
  obtain ⟨c, hc, rfl⟩ := hv
  have hg := vAt_get (r := r) (k := ⟨c, false⟩) (hs c hc)
  exact h _ (List.mem_of_getElem? hg)
theorem loop2_15 (n : Nat) (f : Dep) (l : List (List V)) (S : List Bx) (hd : f.InN n) (hr : ∀ r ∈ l, r.length = n ∧ okR r) (i : Nat) (hi : i < l.length) (hl : l.length ≤ 1000000) (k : Nat) (s : List Int) (hs : f.sets[k]? = some s) (hsl : s.length ≤ 1000000) :
    aloopW (acode run a15_l2) (st2_15 f l S i k 0) = if setB1 l i s then some (.exit 8, st3_15 f l S i k) else some (badH S) := by
  obtain ⟨r, hri⟩ : ∃ r, l[i]? = some r := ⟨l[i], by simp [hi]⟩
  obtain ⟨ln, ok⟩ := hr r (List.mem_of_getElem? hri)
  have hi' : (i : Int) < (l.length : Int) := by omega
  have hset := hd.s s (List.mem_of_getElem? hs)
  have k1 := ilt hs
  have hk1 := (List.getElem?_eq_some_iff.1 hs).1
  have hin : ∀ c ∈ s, 0 ≤ c ∧ c < (r.length : Int) := fun c hc => by rw [ln]; exact hset.2 c hc
  have q1 := c47 r s S hsl hin
  have okA := atR_ok ok s hin
  have e : setB1 l i s = (List.range i).all fun j => !decide (cmpRow (atR r s) (atR (l.getD j []) s) = 0) := by rw [setB1, getD_of hri]
  rw [e]
  have hlen : (List.range i).length = i := List.length_range
  refine loop_all (f := acode run a15_l2) (List.range i) (fun j => !decide (cmpRow (atR r s) (atR (l.getD j []) s) = 0)) (st2_15 f l S i k) (bad := badH S) (good := (.exit 8, st3_15 f l S i k)) (by simp [badH]) (by simp) (fun j j' hx => ?_) ?_
  · obtain ⟨hlt, rfl⟩ := range_get hx
    obtain ⟨rj, hrj⟩ : ∃ r, l[j]? = some r := ⟨l[j], by simp [show j < l.length by omega]⟩
    obtain ⟨lnj, okj⟩ := hr rj (List.mem_of_getElem? hrj)
    have hinj : ∀ c ∈ s, 0 ≤ c ∧ c < (rj.length : Int) := fun c hc => by rw [lnj]; exact hset.2 c hc
    have q2 := c47 rj s S hsl hinj
    have q3 := c46 (atR r s) (atR rj s) S okA (by simp [atR]; omega)
    rw [getD_of hrj]
    have hji : (j : Int) < (i : Int) := by omega
    have hjl : (j : Int) < (l.length : Int) := by omega
    generalize atR r s = A at *
    generalize atR rj s = B at *
    simp only [intsAV, rowAV] at q1 q2 q3
    rw [acode_k]
    by_cases hc : cmpRow A B = 0 <;>
      simp [a15_l2, st2_15, badH, hji, hjl, hi', hri, hrj, hs, k1, rowsAV, rowAV, setsAV, intsAV, q1, q2, q3, hc, w64s (n := j) (by omega)]
  · rw [acode_k, hlen]
    simp [a15_l2, st2_15, st3_15]
theorem loop3_15 (n : Nat) (f : Dep) (l : List (List V)) (S : List Bx) (hd : f.InN n) (hr : ∀ r ∈ l, r.length = n ∧ okR r) (i : Nat) (hi : i < l.length) (hl : l.length ≤ 1000000) (hsl : ∀ s ∈ f.sets, s.length ≤ 1000000) :
    aloopW (acode run a15_l3) (st3_15 f l S i 0) = if f.sets.all (setB1 l i) then some (.exit 6, stH15 f l S i) else some (badH S) := by
  refine loop_all (f := acode run a15_l3) f.sets (setB1 l i) (st3_15 f l S i) (bad := badH S) (good := (.exit 6, stH15 f l S i)) (by simp [badH]) (by simp) (fun k s hx => ?_) ?_
  · have h1 := ilt hx
    have hlt := (List.getElem?_eq_some_iff.1 hx).1
    have hsl' := hd.sl
    have q := loop2_15 n f l S hd hr i hi hl k s hx (hsl s (List.mem_of_getElem? hx))
    simp only [st2_15, st3_15, Int.natCast_zero, Int.ofNat_zero, badH, lH, setsAV] at q
    rw [acode_k]
    cases hb : setB1 l i s <;> rw [hb] at q <;> simp at q <;> simp [a15_l3, st3_15, badH, h1, setsAV, q, w64s (n := k) (by omega)]
  · rw [acode_k]
    simp [a15_l3, st3_15, stH15, setsAV]
theorem c15 (n : Nat) (f : Dep) (l : List (List V)) (S : List Bx) (hd : f.InN n) (hr : ∀ r ∈ l, r.length = n ∧ okR r) (hl : l.length ≤ 1000000) (hsl : ∀ s ∈ f.sets, s.length ≤ 1000000) :
    run 15 [f.av, rowsAV l] S = some (.ret (.bool (holdsB f l)) none, S) := by
  refine eqn rfl ?_
  have hlen : (List.range l.length).length = l.length := List.length_range
  have h := loop_all (f := acode run a15_l4) (List.range l.length) (rowB f l) (stH15 f l S) (bad := badH S) (good := (.exit 0, { σ := [], own := [], loc := [], S := S })) (by simp [badH]) (by simp)
    (fun i i' hx => by
      obtain ⟨hlt, rfl⟩ := range_get hx
      have hi' : (i : Int) < (l.length : Int) := by omega
      have q0 := loop0_15 n f l S hd (fun r h => (hr r h).1) i hlt hl
      have q1 := loop1_15 n f l S hd (fun r h => (hr r h).1) i hlt hl
      have q3 := loop3_15 n f l S hd hr i hlt hl hsl
      simp only [st0_15, stH15, st1_15, st3_15, Int.natCast_zero, Int.ofNat_zero, badH] at q0 q1 q3
      rw [acode_k, rowB]
      cases hb0 : constB f (l.getD 0 []) (l.getD i []) <;> rw [hb0] at q0
      · simp at q0
        simp [rowsAV] at q0
        simp [a15_l4, stH15, badH, hi', rowsAV, q0]
      · cases hb1 : equalB f (l.getD i []) <;> rw [hb1] at q1
        · simp [rowsAV] at q0 q1
          simp [a15_l4, stH15, badH, hi', rowsAV, q0, q1]
        · cases hb3 : f.sets.all (setB1 l i) <;> rw [hb3] at q3
          · simp [rowsAV] at q0 q1 q3
            simp [a15_l4, stH15, badH, hi', rowsAV, q0, q1, q3]
          · simp [rowsAV] at q0 q1 q3
            simp [a15_l4, stH15, badH, hi', rowsAV, q0, q1, q3, w64s (n := i) (by omega)])
    (by
      rw [acode_k, hlen]
      simp [a15_l4, stH15, rowsAV])
  have eb : (List.range l.length).all (rowB f l) = holdsB f l := rfl
  rw [eb] at h
  simp only [stH15, Int.natCast_zero, Int.ofNat_zero, badH] at h
  generalize holdsB f l = B at *
  cases B <;> simp [rowsAV] at h <;> simp [a15, Dep.av, rowsAV, h]
end Go.Av
