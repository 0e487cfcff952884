/- Part of a proof: Tame rows of whole numbers. -/
import Derived.Test.YtlhmipepdcndoaaGreatDoorZvCn
set_option maxRecDepth 100000
set_option linter.unusedSimpArgs false
set_option linter.unusedVariables false
namespace Go.Av
open Go Go.Proofs

theorem c91 (S : List Bx) : run 91 [] S = some (.ret (.agg [.int .i64 0, .int .i64 0, .str ⟨#[]⟩]) none, S) := by
  refine eqn rfl ?_
  simp [a91]
theorem c94 (n : Int) (S : List Bx) : run 94 [.int .i64 n] S = some (.ret (.agg [.int .i64 1, .int .i64 n, .str ⟨#[]⟩]) none, S) := by
  refine eqn rfl ?_
  simp [a94]
def u64 (n : Int) : Int := n % 18446744073709551616
def tameAs1 (v : V) (nul : Bool) : V :=
  if nul = true ∧ (v.k = 0 ∨ u64 v.n % 5 = 4) then ⟨0, 0, []⟩ else if u64 v.n % 16 = 15 then ⟨1, v.n, []⟩ else ⟨1, u64 v.n % 7 - 2, []⟩
theorem c60 (v : V) (nul : Bool) (S : List Bx) : run 60 [v.av, .agg [.int .i64 1, .bool nul]] S = some (.ret (tameAs1 v nul).av none, S) := by
  refine eqn rfl ?_
  have q0 := c91 S
  have q1 := fun n => c94 n S
  have hu : IntKind.wrap .u64 v.n = u64 v.n := by simp [wrap_u64, u64]
  have e5 : (u64 v.n).tmod 5 = u64 v.n % 5 := Int.tmod_eq_emod_of_nonneg (by unfold u64; omega)
  have e16 : (u64 v.n).tmod 16 = u64 v.n % 16 := Int.tmod_eq_emod_of_nonneg (by unfold u64; omega)
  have e7 : (u64 v.n).tmod 7 = u64 v.n % 7 := Int.tmod_eq_emod_of_nonneg (by unfold u64; omega)
  have w7 : IntKind.wrap .i64 (u64 v.n % 7) = u64 v.n % 7 := wr64 (by omega) (by omega)
  have w7' : IntKind.wrap .i64 (u64 v.n % 7 - 2) = u64 v.n % 7 - 2 := wr64 (by omega) (by omega)
  have eb : bs [] = ⟨#[]⟩ := rfl
  obtain ⟨k, n, t⟩ := v
  simp only at hu e5 e16 e7 w7 w7'
  by_cases h16 : u64 n % 16 = 15
  · cases nul
    · simp [a60, V.av, tameAs1, q0, q1, hu, e5, e16, h16, eb]
    · by_cases hk : k = 0
      · simp [a60, V.av, tameAs1, q0, q1, hu, e5, e16, h16, hk, eb]
      · by_cases h5 : u64 n % 5 = 4
        · simp [a60, V.av, tameAs1, q0, q1, hu, e5, e16, h16, hk, h5, eb]
        · simp [a60, V.av, tameAs1, q0, q1, hu, e5, e16, h16, hk, h5, eb]
  · cases nul
    · simp [a60, V.av, tameAs1, q0, q1, hu, e5, e16, h16, e7, w7, w7', eb]
    · by_cases hk : k = 0
      · simp [a60, V.av, tameAs1, q0, q1, hu, e5, e16, h16, hk, eb]
      · by_cases h5 : u64 n % 5 = 4
        · simp [a60, V.av, tameAs1, q0, q1, hu, e5, e16, h16, hk, h5, eb]
        · simp [a60, V.av, tameAs1, q0, q1, hu, e5, e16, h16, hk, h5, e7, w7, w7', eb]
/-- The value that is made tame: the k-th one, round the row. -/
def rawV (r : List V) (k : Nat) : V := match r[k % r.length]? with
  | some v => ⟨v.k, IntKind.wrap .i64 (v.n + (k / r.length : Nat)), v.t⟩
  | none => ⟨0, 0, []⟩
def colB (k : Nat) : Bool := decide (k % 2 = 1)
def colAV (k : Nat) : AV := .agg [.int .i64 1, .bool (colB k)]
def tameRow (m : Nat) (r : List V) : List V := (List.range m).map fun k => tameAs1 (rawV r k) (colB k)
def st27 (m : Nat) (l : List (List V)) (most : Int) (acc : List (List V)) (S : List Bx) (i : Nat) (row : List V) (k : Nat) : St :=
  { σ := [(0, .v (.slice 2 ((List.range m).map colAV))), (1, .v (.slice 1 (l.map rowAV))), (2, .v (.int .i64 most)), (7, .v (.slice 1 (acc.map rowAV))), (8, .v (.int .i64 i)), (9, .v (.slice 3 (row.map V.av))), (10, .v (.int .i64 k))], own := [(7, 69), (9, 71)], loc := [], S := S }
theorem inner27 (m : Nat) (l : List (List V)) (most : Int) (acc : List (List V)) (S : List Bx) (i : Nat) (r : List V) (hm : m ≤ 100) (hr : l[i]? = some r) (hrl : r.length ≤ 9223372036854775807) :
    aloopW (acode run a27_l0) (st27 m l most acc S i [] 0) = some (.exit 2, { σ := [(0, .v (.slice 2 ((List.range m).map colAV))), (1, .v (.slice 1 (l.map rowAV))), (2, .v (.int .i64 most)), (7, .v (.slice 1 (acc.map rowAV))), (8, .v (.int .i64 i)), (9, .v (.slice 3 ((tameRow m r).map V.av)))], own := [(7, 69), (9, 71)], loc := [], S := S }) := by
  have h := loop_range (f := acode run a27_l0) m (fun row k => st27 m l most acc S i row k) (fun row k => row ++ [tameAs1 (rawV r k) (colB k)])
    (fun row => (.exit 2, { σ := [(0, .v (.slice 2 ((List.range m).map colAV))), (1, .v (.slice 1 (l.map rowAV))), (2, .v (.int .i64 most)), (7, .v (.slice 1 (acc.map rowAV))), (8, .v (.int .i64 i)), (9, .v (.slice 3 (row.map V.av)))], own := [(7, 69), (9, 71)], loc := [], S := S })) (fun k row => row.length ≤ k) (b0 := []) (by simp)
    (fun k row hrow hlt => by
      refine ⟨?_, by simp; omega⟩
      show acode run a27_l0 (st27 m l most acc S i row k) = _
      rw [acode_k]
      have hc : (List.range m)[k]? = some k := List.getElem?_range hlt
      have h1 : (k : Int) < (m : Int) := by omega
      have hb : (row.length + 1) * 32 ≤ 140737488355328 := by omega
      have q := fun v => c60 v (colB k) S
      have hw := w64s (n := k) (by omega)
      by_cases h0 : r.length = 0
      · have hr0 : r = [] := List.eq_nil_of_length_eq_zero h0
        subst hr0
        have q0 := q ⟨0, 0, []⟩
        have e0 : rawV [] k = ⟨0, 0, []⟩ := by simp [rawV]
        rw [e0]
        generalize tameAs1 ⟨0, 0, []⟩ (colB k) = w at *
        have eb : bs [] = ⟨#[]⟩ := rfl
        simp only [V.av, eb] at q0
        simp [a27_l0, st27, hr, rowAV, h1, hc, colAV, q0, hb, hw, V.av]
      · have hpos : 0 < (r.length : Int) := by omega
        have hpos' : 0 < r.length := by omega
        have hne' : ¬ r = [] := fun e => h0 (by rw [e]; rfl)
        have hlt2 : k % r.length < r.length := Nat.mod_lt _ (by omega)
        have hg : r[k % r.length]? = some r[k % r.length] := by simp [hlt2]
        have hmod : (k : Int).tmod (r.length : Int) = ((k % r.length : Nat) : Int) := by rw [Int.tmod_eq_emod_of_nonneg (by omega)]; rfl
        have hdiv : (k : Int).tdiv (r.length : Int) = ((k / r.length : Nat) : Int) := by rw [Int.tdiv_eq_ediv_of_nonneg (by omega)]; rfl
        have hne : ¬ (r.length : Int) = 0 := by omega
        have hwd : IntKind.wrap .i64 ((k / r.length : Nat) : Int) = ((k / r.length : Nat) : Int) := by
          have hq := Nat.div_le_self k r.length
          revert hq
          generalize k / r.length = kd
          intro hq
          exact wr64 (by omega) (by omega)
        have q1 := q (rawV r k)
        have e1 : rawV r k = ⟨r[k % r.length].k, IntKind.wrap .i64 (r[k % r.length].n + (k / r.length : Nat)), r[k % r.length].t⟩ := by simp [rawV, hg]
        rw [e1] at q1 ⊢
        generalize r[k % r.length] = x at *
        generalize k % r.length = km at *
        generalize k / r.length = kd at *
        generalize tameAs1 _ (colB k) = w at *
        simp only [V.av] at q1
        simp [a27_l0, st27, hr, rowAV, h1, hc, colAV, hpos', hne', hmod, hdiv, hwd, hg, q1, hb, hw, V.av])
    (fun row _ => by
      show acode run a27_l0 (st27 m l most acc S i row m) = _
      rw [acode_k]
      simp [a27_l0, st27])
    (fun _ => by simp)
  have e : ∀ (q : List Nat) (row : List V), q.foldl (fun row k => row ++ [tameAs1 (rawV r k) (colB k)]) row = row ++ q.map (fun k => tameAs1 (rawV r k) (colB k)) := by
    intro q
    induction q with
    | nil => simp
    | cons c q ih => intro row; simp [ih]
  rw [e, List.nil_append] at h
  exact h
def st27b (m : Nat) (l : List (List V)) (most : Int) (acc : List (List V)) (S : List Bx) (i : Nat) : St :=
  { σ := [(0, .v (.slice 2 ((List.range m).map colAV))), (1, .v (.slice 1 (l.map rowAV))), (2, .v (.int .i64 most)), (7, .v (.slice 1 (acc.map rowAV))), (8, .v (.int .i64 i))], own := [(7, 69)], loc := [], S := S }
theorem loop_few' {f : St → Option (AEx × St)} {α β : Type} (l : List α) (n : Nat) (g : α → β) (st : List β → Nat → St) {r : List β → AEx × St} (hr : ∀ a, (r a).1 ≠ .normal)
    (hround : ∀ (i : Nat) (acc : List β) x, l[i]? = some x → i < n → acc.length = i → f (st acc i) = some (.normal, st (acc ++ [g x]) (i + 1)))
    (hend : ∀ (i : Nat) acc, ¬ (i < l.length ∧ i < n) → f (st acc i) = some (r acc)) : aloopW f (st [] 0) = some (r ((l.take n).map g)) := by
  have h := loop_upto (f := f) (st := fun i => st ((l.take i).map g) i) (r := r ((l.take (min l.length n)).map g)) (hr _) (min l.length n) 0
    (fun k _ hk => by
      have hk' : k < l.length := by omega
      have hg : l[k]? = some l[k] := by simp [hk']
      show f (st _ k) = _
      rw [hround k _ l[k] hg (by omega) (by simp; omega), List.take_add_one, hg]
      simp only [List.map_append, Option.toList_some, List.map_cons, List.map_nil])
    (by rw [Nat.zero_add]; exact hend _ _ (by omega))
  rw [take_min'] at h
  simpa using h
def tameRows (m most : Nat) (l : List (List V)) : List (List V) := (l.take most).map (tameRow m)
theorem c27 (m most : Nat) (l : List (List V)) (S : List Bx) (hm : m ≤ 100) (hmost : most ≤ 1000) (hl : ∀ r ∈ l, r.length ≤ 9223372036854775807) :
    run 27 [.slice 2 ((List.range m).map colAV), rowsAV l, .int .i64 most] S = some (.ret (rowsAV (tameRows m most l)) (some 69), S) := by
  refine eqn rfl ?_
  have h := loop_few' (f := acode run a27_l1) l most (tameRow m) (fun acc i => st27b m l most acc S i)
    (r := fun acc => (.exit 0, { σ := [(7, .v (.slice 1 (acc.map rowAV)))], own := [(7, 69)], loc := [], S := S })) (by simp)
    (fun i acc r hx hi hlen => by
      rw [acode_k]
      have h1 := ilt hx
      have h2 : (i : Int) < (most : Int) := by omega
      have hb : (acc.length + 1) * 24 ≤ 140737488355328 := by omega
      have q := inner27 m l most acc S i r hm hx (hl r (List.mem_of_getElem? hx))
      simp only [st27, List.map_nil, Int.natCast_zero, Int.ofNat_zero] at q
      generalize tameRow m r = w at *
      simp [a27_l1, st27b, h1, h2, q, hb, rowAV, w64s (n := i) (by omega)])
    (fun i acc hn => by
      rw [acode_k]
      by_cases h1 : (i : Int) < (l.length : Int)
      · have h2 : ¬ (i : Int) < (most : Int) := by omega
        simp [a27_l1, st27b, h1, h2]
      · simp [a27_l1, st27b, h1])
  have e : (l.take most).map (tameRow m) = tameRows m most l := rfl
  rw [e] at h
  simp only [st27b, List.map_nil, Int.natCast_zero, Int.ofNat_zero] at h
  simp [a27, rowsAV, h]
def st8 (n : Nat) (l : List (List V)) (most : Int) (S : List Bx) (acc : List Nat) (i : Nat) : St :=
  { σ := [(0, .v (.int .i64 n)), (1, .v (.slice 1 (l.map rowAV))), (2, .v (.int .i64 most)), (7, .v (.slice 2 (acc.map colAV))), (8, .v (.int .i64 i))], own := [(7, 67)], loc := [], S := S }
theorem c8 (m most : Nat) (l : List (List V)) (S : List Bx) (hm : m ≤ 100) (hmost : most ≤ 1000) (hl : ∀ r ∈ l, r.length ≤ 9223372036854775807) :
    run 8 [.int .i64 m, rowsAV l, .int .i64 most] S = some (.ret (rowsAV (tameRows m most l)) (some 69), S) := by
  refine eqn rfl ?_
  have h := loop_range (f := acode run a8_l0) m (fun acc i => st8 m l most S acc i) (fun acc k => acc ++ [k])
    (fun acc => (.exit 0, { σ := [(1, .v (.slice 1 (l.map rowAV))), (2, .v (.int .i64 most)), (7, .v (.slice 2 (acc.map colAV)))], own := [(7, 67)], loc := [], S := S })) (fun k acc => acc.length ≤ k) (b0 := []) (by simp)
    (fun k acc hacc hlt => by
      refine ⟨?_, by simp; omega⟩
      show acode run a8_l0 (st8 m l most S acc k) = _
      rw [acode_k]
      have h1 : (k : Int) < (m : Int) := by omega
      have hb : (acc.length + 1) * 16 ≤ 140737488355328 := by omega
      have hmod : (k : Int).tmod 2 = ((k % 2 : Nat) : Int) := by rw [Int.tmod_eq_emod_of_nonneg (by omega)]; rfl
      by_cases h2 : k % 2 = 1
      · have hd : ((k : Int) % 2 = 1) := by omega
        simp [a8_l0, st8, h1, hmod, hb, colAV, colB, h2, hd, w64s (n := k) (by omega)]
      · have hd : ¬ ((k : Int) % 2 = 1) := by omega
        simp [a8_l0, st8, h1, hmod, hb, colAV, colB, h2, hd, w64s (n := k) (by omega)])
    (fun acc _ => by
      show acode run a8_l0 (st8 m l most S acc m) = _
      rw [acode_k]
      simp [a8_l0, st8])
    (fun _ => by simp)
  have e : ∀ (q : List Nat) (acc : List Nat), q.foldl (fun acc k => acc ++ [k]) acc = acc ++ q := by
    intro q
    induction q with
    | nil => simp
    | cons c q ih => intro acc; simp [ih]
  rw [e, List.nil_append] at h
  have q := c27 m most l S hm hmost hl
  simp only [rowsAV] at q
  simp only [st8, List.map_nil, Int.natCast_zero, Int.ofNat_zero] at h
  simp [a8, rowsAV, h, q]
end Go.Av
