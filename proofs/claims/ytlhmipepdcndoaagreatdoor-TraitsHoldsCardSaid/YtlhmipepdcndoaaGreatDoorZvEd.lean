/- Part of a proof: What is a value; which rows are right. -/
import Derived.Test.YtlhmipepdcndoaaGreatDoorZvEc
set_option maxRecDepth 100000
set_option linter.unusedSimpArgs false
set_option linter.unusedVariables false
namespace Go.Av
open Go Go.Proofs

def okByte (b : UInt8) : Bool := decide (32 ≤ b.toNat) && decide (b.toNat ≤ 126)
def isV (v : V) : Bool :=
  if v.k = 0 then decide (v.n = 0) && v.t.isEmpty
  else if v.k = 1 then v.t.isEmpty
  else if v.k = 2 then (decide (v.n = 0) || decide (v.n = 1)) && v.t.isEmpty
  else if v.k = 3 then (decide (v.n = 0) && decide (v.t.length ≤ 200)) && v.t.all okByte
  else false
def st103 (l : List UInt8) (S : List Bx) (i : Nat) : St :=
  { σ := [(0, .v (.str (bs l))), (5, .v (.int .i64 l.length)), (6, .v (.int .i64 i))], own := [], loc := [], S := S }
theorem c103 (l : List UInt8) (S : List Bx) (hl : l.length ≤ 9223372036854775807) : run 103 [.str (bs l)] S = some (.ret (.bool (l.all okByte)) none, S) := by
  refine eqn rfl ?_
  have h := loop_all (f := acode run a103_l0) l okByte (st103 l S) (bad := (.ret, { σ := [(2, .v (.bool false))], own := [], loc := [], S := S })) (good := (.exit 0, { σ := [], own := [], loc := [], S := S })) (by simp) (by simp)
    (fun i x hx => by
      have h1 := ilt hx
      have hlt := (List.getElem?_eq_some_iff.1 hx).1
      rw [acode_k]
      unfold okByte
      by_cases b1 : x.toNat < 32
      · have b2 : ¬ (32 ≤ x.toNat) := by omega
        have b3 : (x.toNat : Int) < 32 := by omega
        simp [a103_l0, st103, bs_get, hx, h1, b1, b2, b3]
      · have b2 : 32 ≤ x.toNat := by omega
        have b3 : ¬ ((x.toNat : Int) < 32) := by omega
        by_cases b4 : x.toNat ≤ 126
        · have b5 : ¬ ((126 : Int) < x.toNat) := by omega
          simp [a103_l0, st103, bs_get, hx, h1, b1, b2, b3, b4, b5, w64s (n := i) (by omega)]
        · have b5 : (126 : Int) < x.toNat := by omega
          simp [a103_l0, st103, bs_get, hx, h1, b1, b2, b3, b4, b5])
    (by
      rw [acode_k]
      simp [a103_l0, st103])
  simp only [st103, Int.natCast_zero, Int.ofNat_zero] at h
  generalize l.all okByte = B at *
  cases B <;> simp at h <;> simp [a103, bs_size, h]
def st139 (l : List UInt8) (S : List Bx) (i : Nat) : St :=
  { σ := [(0, .v (.str (bs l))), (3, .v (.int .i64 i))], own := [], loc := [], S := S }
theorem c139 (l : List UInt8) (S : List Bx) (hl : l.length ≤ 9223372036854775807) : run 139 [.str (bs l)] S = some (.ret (.bool (l.all okByte)) none, S) := by
  refine eqn rfl ?_
  have h := loop_all (f := acode run a139_l0) l okByte (st139 l S) (bad := (.ret, { σ := [(2, .v (.bool false))], own := [], loc := [], S := S })) (good := (.exit 0, { σ := [], own := [], loc := [], S := S })) (by simp) (by simp)
    (fun i x hx => by
      have h1 := ilt hx
      have hlt := (List.getElem?_eq_some_iff.1 hx).1
      rw [acode_k]
      unfold okByte
      by_cases b1 : x.toNat < 32
      · have b2 : ¬ (32 ≤ x.toNat) := by omega
        have b3 : (x.toNat : Int) < 32 := by omega
        simp [a139_l0, st139, bs_get, bs_size, hx, h1, b1, b2, b3]
      · have b2 : 32 ≤ x.toNat := by omega
        have b3 : ¬ ((x.toNat : Int) < 32) := by omega
        by_cases b4 : x.toNat ≤ 126
        · have b5 : ¬ ((126 : Int) < x.toNat) := by omega
          simp [a139_l0, st139, bs_get, bs_size, hx, h1, b1, b2, b3, b4, b5, w64s (n := i) (by omega)]
        · have b5 : (126 : Int) < x.toNat := by omega
          simp [a139_l0, st139, bs_get, bs_size, hx, h1, b1, b2, b3, b4, b5])
    (by
      rw [acode_k]
      simp [a139_l0, st139, bs_size])
  simp only [st139, Int.natCast_zero, Int.ofNat_zero] at h
  generalize l.all okByte = B at *
  cases B <;> simp at h <;> simp [a139, h]
theorem c67 (v : V) (S : List Bx) (hl : v.t.length ≤ 9223372036854775807) : run 67 [v.av] S = some (.ret (.bool (isV v)) none, S) := by
  refine eqn rfl ?_
  obtain ⟨k, n, t⟩ := v
  have q := c103 t S hl
  have e : ∀ t, (bs t).toList = t := bs_toList
  have e' : (t.isEmpty) = decide (t = []) := by cases t <;> simp
  unfold isV
  simp only [V.av] at *
  generalize t.all okByte = B at *
  rw [e']
  have hlen : (((bs t).size : Int) ≤ 200) ↔ t.length ≤ 200 := by rw [bs_size]; omega
  by_cases h0 : k = 0
  · subst h0
    by_cases hn : n = 0 <;> by_cases ht : t = [] <;> simp [a67, hn, e, ht]
  · by_cases h1 : k = 1
    · subst h1
      by_cases ht : t = [] <;> simp [a67, e, ht]
    · by_cases h2 : k = 2
      · subst h2
        by_cases hn : n = 0
        · subst hn; by_cases ht : t = [] <;> simp [a67, e, ht]
        · by_cases hn1 : n = 1
          · subst hn1; by_cases ht : t = [] <;> simp [a67, e, ht]
          · by_cases ht : t = [] <;> simp [a67, e, ht, hn, hn1]
      · by_cases h3 : k = 3
        · subst h3
          by_cases hn : n = 0
          · by_cases hl2 : t.length ≤ 200
            · cases B <;> simp [a67, hn, q, hlen, hl2]
            · cases B <;> simp [a67, hn, q, hlen, hl2]
          · simp [a67, hn]
        · simp [a67, h0, h1, h2, h3]
theorem c114 (v : V) (S : List Bx) (hl : v.t.length ≤ 9223372036854775807) : run 114 [v.av] S = some (.ret (.bool (isV v)) none, S) := by
  refine eqn rfl ?_
  obtain ⟨k, n, t⟩ := v
  have q := c139 t S hl
  have e : ∀ t, (bs t).toList = t := bs_toList
  have e' : (t.isEmpty) = decide (t = []) := by cases t <;> simp
  unfold isV
  simp only [V.av] at *
  generalize t.all okByte = B at *
  rw [e']
  have hlen : (((bs t).size : Int) ≤ 200) ↔ t.length ≤ 200 := by rw [bs_size]; omega
  by_cases h0 : k = 0
  · subst h0
    by_cases hn : n = 0 <;> by_cases ht : t = [] <;> simp [a114, hn, e, ht]
  · by_cases h1 : k = 1
    · subst h1
      by_cases ht : t = [] <;> simp [a114, e, ht]
    · by_cases h2 : k = 2
      · subst h2
        by_cases hn : n = 0
        · subst hn; by_cases ht : t = [] <;> simp [a114, e, ht]
        · by_cases hn1 : n = 1
          · subst hn1; by_cases ht : t = [] <;> simp [a114, e, ht]
          · by_cases ht : t = [] <;> simp [a114, e, ht, hn, hn1]
      · by_cases h3 : k = 3
        · subst h3
          by_cases hn : n = 0
          · by_cases hl2 : t.length ≤ 200
            · cases B <;> simp [a114, hn, q, hlen, hl2]
            · cases B <;> simp [a114, hn, q, hlen, hl2]
          · simp [a114, hn]
        · simp [a114, h0, h1, h2, h3]

/-! ### rows -/
def st78 (r : List V) (S : List Bx) (i : Nat) : St := { σ := [(0, .v (rowAV r)), (3, .v (.int .i64 i))], own := [], loc := [], S := S }
theorem c78 (r : List V) (S : List Bx) (hr : okR r) (hl : r.length ≤ 9223372036854775807) : run 78 [rowAV r] S = some (.ret (.bool (r.all isV)) none, S) := by
  refine eqn rfl ?_
  have h := loop_all (f := acode run a78_l0) r isV (st78 r S) (bad := (.ret, { σ := [(2, .v (.bool false))], own := [], loc := [], S := S })) (good := (.exit 0, { σ := [], own := [], loc := [], S := S })) (by simp) (by simp)
    (fun i x hx => by
      have h1 := ilt hx
      have hlt := (List.getElem?_eq_some_iff.1 hx).1
      have q := c114 x S (hr x (List.mem_of_getElem? hx))
      simp only [V.av] at q
      generalize isV x = B at *
      rw [acode_k]
      cases B <;> simp [a78_l0, st78, rowAV, V.av, hx, h1, q, w64s (n := i) (by omega)])
    (by
      rw [acode_k]
      simp [a78_l0, st78, rowAV])
  simp only [st78, Int.natCast_zero, Int.ofNat_zero, rowAV] at h
  generalize r.all isV = B at *
  cases B <;> simp at h <;> simp [a78, rowAV, h]
def st45 (l : List (List V)) (S : List Bx) (i : Nat) : St := { σ := [(0, .v (rowsAV l)), (3, .v (.int .i64 i))], own := [], loc := [], S := S }
def rowsOk (l : List (List V)) : Prop := ∀ r ∈ l, okR r ∧ r.length ≤ 9223372036854775807
theorem c45 (l : List (List V)) (S : List Bx) (hr : rowsOk l) (hl : l.length ≤ 9223372036854775807) : run 45 [rowsAV l] S = some (.ret (.bool (l.all fun r => r.all isV)) none, S) := by
  refine eqn rfl ?_
  have h := loop_all (f := acode run a45_l0) l (fun r => r.all isV) (st45 l S) (bad := (.ret, { σ := [(2, .v (.bool false))], own := [], loc := [], S := S })) (good := (.exit 0, { σ := [], own := [], loc := [], S := S })) (by simp) (by simp)
    (fun i x hx => by
      have h1 := ilt hx
      have hlt := (List.getElem?_eq_some_iff.1 hx).1
      obtain ⟨o1, o2⟩ := hr x (List.mem_of_getElem? hx)
      have q := c78 x S o1 o2
      simp only [rowAV] at q
      generalize x.all isV = B at *
      rw [acode_k]
      cases B <;> simp [a45_l0, st45, rowsAV, rowAV, hx, h1, q, w64s (n := i) (by omega)])
    (by
      rw [acode_k]
      simp [a45_l0, st45, rowsAV])
  simp only [st45, Int.natCast_zero, Int.ofNat_zero, rowsAV] at h
  generalize (l.all fun r => r.all isV) = B at *
  cases B <;> simp at h <;> simp [a45, rowsAV, h]
/-- Rows of n values each, not too many. -/
def areRowsB (n : Int) (l : List (List V)) : Bool := decide (l.length ≤ 20000) && l.all (fun r => decide ((r.length : Int) = n) && r.all isV)
theorem areRowsB_split (n : Int) (l : List (List V)) : areRowsB n l = ((l.all fun r => decide ((r.length : Int) = n)) && (decide (l.length ≤ 20000) && (l.all fun r => r.all isV))) := by
  unfold areRowsB
  have : ∀ l : List (List V), (l.all fun r => decide ((r.length : Int) = n) && r.all isV) = ((l.all fun r => decide ((r.length : Int) = n)) && (l.all fun r => r.all isV)) := by
    intro l
    induction l with
    | nil => rfl
    | cons r l ih => simp only [List.all_cons, ih]; cases decide ((r.length : Int) = n) <;> cases r.all isV <;> simp
  rw [this]
  cases decide (l.length ≤ 20000) <;> simp
def st14 (n : Int) (l : List (List V)) (S : List Bx) (i : Nat) : St := { σ := [(0, .v (.int .i64 n)), (1, .v (rowsAV l)), (5, .v (.int .i64 i))], own := [], loc := [], S := S }
theorem c14 (n : Int) (l : List (List V)) (S : List Bx) (hr : rowsOk l) (hl : l.length ≤ 9223372036854775807) : run 14 [.int .i64 n, rowsAV l] S = some (.ret (.bool (areRowsB n l)) none, S) := by
  refine eqn rfl ?_
  have h := loop_all (f := acode run a14_l0) l (fun r => decide ((r.length : Int) = n)) (st14 n l S) (bad := (.ret, { σ := [(4, .v (.bool false))], own := [], loc := [], S := S })) (good := (.exit 0, { σ := [(1, .v (rowsAV l))], own := [], loc := [], S := S })) (by simp) (by simp)
    (fun i x hx => by
      have h1 := ilt hx
      have hlt := (List.getElem?_eq_some_iff.1 hx).1
      rw [acode_k]
      by_cases hn : (x.length : Int) = n
      · simp [a14_l0, st14, rowsAV, rowAV, hx, h1, hn, w64s (n := i) (by omega)]
      · simp [a14_l0, st14, rowsAV, rowAV, hx, h1, hn])
    (by
      rw [acode_k]
      simp [a14_l0, st14, rowsAV])
  have q := c45 l S hr hl
  rw [areRowsB_split]
  simp only [st14, Int.natCast_zero, Int.ofNat_zero, rowsAV] at h q
  have hlen : ((l.length : Int) ≤ 20000) ↔ l.length ≤ 20000 := by omega
  generalize (l.all fun r => decide ((r.length : Int) = n)) = B at *
  generalize (l.all fun r => r.all isV) = C at *
  cases B
  · simp at h
    simp [a14, rowsAV, h]
  · simp at h
    by_cases hl2 : l.length ≤ 20000
    · cases C <;> simp [a14, rowsAV, h, q, hlen, hl2]
    · simp [a14, rowsAV, h, hlen, hl2]
theorem c65 (n : Int) (r : List V) (S : List Bx) (hr : okR r) (hl : r.length ≤ 9223372036854775807) : run 65 [rowAV r, .sptr [.int .i64 n]] S = some (.ret (.bool (decide ((r.length : Int) = n) && r.all isV)) none, S) := by
  refine eqn rfl ?_
  have q := c66 r 67 [] [] isV S hl (fun v hv => by simpa using c67 v S (hr v hv))
  simp only [rowAV, clo] at q
  by_cases hn : (r.length : Int) = n
  · cases hB : r.all isV <;> rw [hB] at q <;> simp [a65, rowAV, q, hn]
  · simp [a65, rowAV, hn]
theorem c31 (n : Int) (l : List (List V)) (S : List Bx) (hr : rowsOk l) (hl : l.length ≤ 9223372036854775807) : run 31 [.int .i64 n, rowsAV l] S = some (.ret (.bool (areRowsB n l)) none, S) := by
  refine eqn rfl ?_
  have q := c34 l 65 [] [.sptr [.int .i64 n]] (fun r => decide ((r.length : Int) = n) && r.all isV) S hl (fun r hv => by simpa using c65 n r S (hr r hv).1 (hr r hv).2)
  simp only [rowsAV, clo] at q
  have hlen : ((l.length : Int) ≤ 20000) ↔ l.length ≤ 20000 := by omega
  unfold areRowsB
  generalize (l.all fun r => decide ((r.length : Int) = n) && r.all isV) = B at *
  by_cases hl2 : l.length ≤ 20000
  · cases B <;> simp [a31, rowsAV, hlen, hl2, q]
  · simp [a31, rowsAV, hlen, hl2]
theorem c11 (l : List (List V)) (S : List Bx) (hl : l.length ≤ 9223372036854775807) : run 11 [rowsAV l] S = some (.ret (rowsAV (l.take 30)) none, S) := by
  refine eqn rfl ?_
  have e1 : (min (l.length : Int) 30).toNat = min l.length 30 := by omega
  have e2 : l.take (min l.length 30) = l.take 30 := by
    rcases Nat.le_total l.length 30 with h | h
    · rw [Nat.min_eq_left h, List.take_of_length_le h, List.take_of_length_le (Nat.le_refl _)]
    · rw [Nat.min_eq_right h]
  have e3 : (0 : Int) ≤ min (l.length : Int) 30 := by omega
  have e4 : min (l.length : Int) 30 ≤ (l.length : Int) := by omega
  have e5 := congrArg (List.map rowAV) e2
  rw [List.map_take, List.map_take] at e5
  simp [-List.map_take, a11, rowsAV, e1, e3, e4, e5, List.map_take]
end Go.Av
