/- Part of a proof: Through. -/
import Derived.Test.YtlhmipepdcndoaaDoorAvCi
set_option maxRecDepth 100000
set_option linter.unusedSimpArgs false
set_option linter.unusedVariables false
namespace Go.Av
open Go Go.Proofs

def isAt (c : Int) (e : E) : Bool := decide (e.op = 1) && decide (e.n = c)
theorem c71 (e : E) (k : K) (S : List Bx) : run 71 [e.av, .sptr [.int .i64 k.c, .bool k.d]] S = some (.ret (.bool (isAt k.c e)) none, S) := by
  refine eqn rfl ?_
  by_cases h : e.op = 1 <;> simp [a71, E.av, isAt, h]
  rfl
/-- The keys behind expressions. -/
def carried (es : List E) : List K → List K
  | [] => []
  | k :: ks => if idx es (isAt k.c) < 0 then [] else ⟨idx es (isAt k.c), k.d⟩ :: carried es ks
def carStep (es : List E) (out : List K → AEx × St) (acc : List K) (k : K) : List K ⊕ (AEx × St) :=
  if idx es (isAt k.c) < 0 then .inr (out acc) else .inl (acc ++ [⟨idx es (isAt k.c), k.d⟩])
theorem car_walk (es : List E) (out : List K → AEx × St) : ∀ (ks acc : List K), walkL (carStep es out) out ks acc = out (acc ++ carried es ks)
  | [], acc => by simp [walkL, carried]
  | k :: ks, acc => by
    simp only [walkL, carStep, carried]
    by_cases h : idx es (isAt k.c) < 0
    · simp [h]
    · simp only [if_neg h]
      rw [car_walk es out ks]
      simp
theorem carried_len (es : List E) : ∀ (ks : List K), (carried es ks).length ≤ ks.length
  | [] => by simp [carried]
  | k :: ks => by
    have := carried_len es ks
    simp only [carried]
    split <;> simp <;> omega
theorem idx_lt {α : Type} (l : List α) (p : α → Bool) : idx l p < l.length ∨ idx l p = -1 := by
  unfold idx
  cases h : l.findIdx? p with
  | none => exact .inr rfl
  | some j =>
    left
    rw [List.findIdx?_eq_some_iff_getElem] at h
    obtain ⟨h1, _⟩ := h
    show (j : Int) < _
    omega
def st53 (ks : List K) (es : List E) (S : List Bx) (acc : List K) (i : Nat) : St :=
  { σ := [(1, .v (.slice 9 (es.map E.av))), (5, .v (.slice 2 (acc.map K.av))), (9, .v (.slice 2 (ks.map K.av))), (10, .v (.int .i64 ks.length)), (11, .v (.int .i64 i))], own := [(5, 78)], loc := [], S := S }
def out53 (S : List Bx) (acc : List K) : AEx × St := (.exit 0, { σ := [(5, .v (.slice 2 (acc.map K.av)))], own := [(5, 78)], loc := [], S := S })
theorem c53 (ks : List K) (es : List E) (S : List Bx) (hk : ks.length ≤ 1000) (he : es.length ≤ 1000) : run 53 [keysAV ks, exprsAV es] S = some (.ret (keysAV (carried es ks)) (some 78), S) := by
  refine eqn rfl ?_
  have hloop := loop_walk (f := acode run a53_l0) ks (st53 ks es S) (carStep es (out53 S)) (out53 S) (fun i acc => acc.length ≤ i) (b0 := []) (by simp)
    (fun i acc k hi hx => by
      have h1 := ilt hx
      have q := c70 es 71 [] [.sptr [.int .i64 k.c, .bool k.d]] (isAt k.c) S (by omega) (fun e _ => by simpa using c71 e k S)
      simp only [exprsAV, clo] at q
      have hb : (acc.length + 1) * 16 ≤ 140737488355328 := by omega
      by_cases h : idx es (isAt k.c) < 0
      · refine .inr ⟨out53 S acc, by simp [carStep, h], ?_, by simp [out53]⟩
        rw [acode_k]
        simp [a53_l0, st53, out53, q, hx, h1, h, K.av]
      · refine .inl ⟨acc ++ [⟨idx es (isAt k.c), k.d⟩], by simp [carStep, h], ?_, by simp; omega⟩
        rw [acode_k]
        simp [a53_l0, st53, q, hx, h1, h, hb, w64s (n := i) (by omega), K.av])
    (fun acc _ => by
      refine ⟨?_, by simp [out53]⟩
      rw [acode_k]
      simp [a53_l0, st53, out53])
  rw [car_walk, List.nil_append] at hloop
  simp only [st53, out53, Int.natCast_zero, Int.ofNat_zero, List.map_nil] at hloop
  simp [a53, keysAV, exprsAV, hloop]
def throughE (n : Int) (ks : List K) (es : List E) : List K × Int :=
  if rightE n dep0 [ks] = 0 then (if es.length < 1 ∨ 16 < es.length then ([], 180) else (carried es ks, 0)) else ([], rightE n dep0 [ks])
theorem c29 (n : Int) (ks : List K) (es : List E) (S : List Bx) (hk : ks.length ≤ 1000) (he : es.length ≤ 1000) : run 29 [iav n, keysAV ks, exprsAV es] S = some (.ret (tup2 (throughE n ks es).1 (throughE n ks es).2) none, S) := by
  refine eqn rfl ?_
  have q := c39 n dep0 [ks] S dep0_small (by simp) (by simp; omega)
  simp only [iav, Dep.av, intsAV, pairsAV, setsAV, listsAV, List.map_cons, List.map_nil, keysAV] at q
  have q2 := c53 ks es S hk he
  simp only [exprsAV, keysAV] at q2
  by_cases h : rightE n dep0 [ks] = 0
  · rw [h] at q
    by_cases h1 : (es.length : Int) < 1
    · have h1' : es.length < 1 := by omega
      simp [a29, iav, keysAV, exprsAV, q, throughE, h, tup2, h1, h1']
    · have h1' : ¬ es.length < 1 := by omega
      by_cases h2 : (16 : Int) < (es.length : Int)
      · have h2' : 16 < es.length := by omega
        simp [a29, iav, keysAV, exprsAV, q, throughE, h, tup2, h1, h1', h2, h2']
      · have h2' : ¬ 16 < es.length := by omega
        simp [a29, iav, keysAV, exprsAV, q, q2, throughE, h, tup2, h1, h1', h2, h2']
  · simp [a29, iav, keysAV, exprsAV, q, throughE, h, tup2]

/-! ### the definition's way: from the last expression to the first -/
/-- The least place from i on, or -1. -/
def idxFrom (es : List E) (c : Int) (i : Nat) : Int := match (es.drop i).findIdx? (isAt c) with | some j => i + j | none => -1
theorem idxFrom_zero (es : List E) (c : Int) : idxFrom es c 0 = idx es (isAt c) := by
  unfold idxFrom idx
  simp only [List.drop_zero]
  cases es.findIdx? (isAt c) with
  | none => rfl
  | some j => show ((0 : Nat) : Int) + (j : Int) = j; omega
theorem idxFrom_end (es : List E) (c : Int) : idxFrom es c es.length = -1 := by simp [idxFrom]
theorem idxFrom_step (es : List E) (c : Int) (i : Nat) (e : E) (h : es[i]? = some e) : idxFrom es c i = if isAt c e then (i : Int) else idxFrom es c (i + 1) := by
  have hi := (List.getElem?_eq_some_iff.1 h).1
  have hd : es.drop i = e :: es.drop (i + 1) := by
    rw [List.drop_eq_getElem_cons hi]
    have : es[i] = e := by have := h; rw [List.getElem?_eq_getElem hi] at this; exact Option.some.inj this
    rw [this]
  unfold idxFrom
  rw [hd, List.findIdx?_cons]
  by_cases hp : isAt c e = true
  · simp [hp]
  · simp only [hp, if_false, Bool.false_eq_true]
    cases (es.drop (i + 1)).findIdx? (isAt c) with
    | none => rfl
    | some j => show (i : Int) + ((j + 1 : Nat) : Int) = ((i + 1 : Nat) : Int) + (j : Int); omega
def st31 (ks : List K) (es : List E) (S : List Bx) (acc : List K) (i : Nat) (at' : Int) (k : Int) : St :=
  { σ := [(0, .v (.slice 2 (ks.map K.av))), (1, .v (.slice 9 (es.map E.av))), (5, .v (.slice 2 (acc.map K.av))), (6, .v (.int .i64 i)), (7, .v (.int .i64 at')), (8, .v (.int .i64 k))], own := [(5, 78)], loc := [], S := S }
theorem w64p {x : Int} (h : -1 ≤ x ∧ x ≤ 100000) : IntKind.wrap .i64 (x - 1) = x - 1 := wr64 (by omega) (by omega)
theorem down31 (ks : List K) (es : List E) (S : List Bx) (acc : List K) (i : Nat) (k : K) (hk : ks[i]? = some k) (he : es.length ≤ 1000) : ∀ (j : Nat), j ≤ es.length →
    aloopW (acode run a31_l0) (st31 ks es S acc i (idxFrom es k.c j) ((j : Int) - 1)) =
      some (.exit 2, { σ := [(0, .v (.slice 2 (ks.map K.av))), (1, .v (.slice 9 (es.map E.av))), (5, .v (.slice 2 (acc.map K.av))), (6, .v (.int .i64 i)), (7, .v (.int .i64 (idx es (isAt k.c))))], own := [(5, 78)], loc := [], S := S })
  | 0, _ => by
    rw [idxFrom_zero]
    refine aloopW_stop ?_ (by simp)
    rw [acode_k]
    simp [a31_l0, st31]
  | j + 1, hj => by
    have hj' : j < es.length := by omega
    have hx : es[j]? = some es[j] := by simp [hj']
    have ih := down31 ks es S acc i k hk he j (by omega)
    refine (aloopW_step ?_).trans ih
    have e1 : ((j + 1 : Nat) : Int) - 1 = (j : Int) := by omega
    rw [e1, idxFrom_step es k.c j _ hx, acode_k]
    generalize es[j] = e at *
    have hw : IntKind.wrap .i64 ((j : Int) - 1) = (j : Int) - 1 := w64p (by omega)
    generalize idxFrom es k.c (j + 1) = old at *
    by_cases h1 : e.op = 1
    · by_cases h2 : e.n = k.c
      · simp [a31_l0, st31, hx, hk, E.av, K.av, h1, h2, isAt, hw]
      · simp [a31_l0, st31, hx, hk, E.av, K.av, h1, h2, isAt, hw]
    · simp [a31_l0, st31, hx, hk, E.av, K.av, h1, isAt, hw]
def st31b (ks : List K) (es : List E) (S : List Bx) (acc : List K) (i : Nat) : St :=
  { σ := [(0, .v (.slice 2 (ks.map K.av))), (1, .v (.slice 9 (es.map E.av))), (5, .v (.slice 2 (acc.map K.av))), (6, .v (.int .i64 i))], own := [(5, 78)], loc := [], S := S }
def outR31 (S : List Bx) (acc : List K) : AEx × St := (.ret, { σ := [(4, .v (.slice 2 (acc.map K.av)))], own := [(4, 78)], loc := [], S := S })
theorem car_walk2 (es : List E) (o1 o2 : List K → AEx × St) : ∀ (ks acc : List K), walkL (carStep es o1) o2 ks acc = if ks.any (fun k => decide (idx es (isAt k.c) < 0)) then o1 (acc ++ carried es ks) else o2 (acc ++ carried es ks)
  | [], acc => by simp [walkL, carried]
  | k :: ks, acc => by
    simp only [walkL, carStep, carried]
    by_cases h : idx es (isAt k.c) < 0
    · simp [h]
    · simp only [if_neg h]
      rw [car_walk2 es o1 o2 ks]
      simp [h]
theorem c31 (ks : List K) (es : List E) (S : List Bx) (hk : ks.length ≤ 1000) (he : es.length ≤ 1000) : run 31 [keysAV ks, exprsAV es] S = some (.ret (keysAV (carried es ks)) (some 78), S) := by
  refine eqn rfl ?_
  have hloop := loop_walk (f := acode run a31_l1) ks (st31b ks es S) (carStep es (outR31 S)) (out53 S) (fun i acc => acc.length ≤ i) (b0 := []) (by simp)
    (fun i acc k hi hx => by
      have h1 := ilt hx
      have q := down31 ks es S acc i k hx he es.length (Nat.le_refl _)
      rw [idxFrom_end] at q
      simp only [st31] at q
      have hw : IntKind.wrap .i64 ((es.length : Int) - 1) = (es.length : Int) - 1 := w64p (by omega)
      have hb : (acc.length + 1) * 16 ≤ 140737488355328 := by omega
      by_cases h : idx es (isAt k.c) < 0
      · refine .inr ⟨outR31 S acc, by simp [carStep, h], ?_, by simp [outR31]⟩
        rw [acode_k]
        simp [a31_l1, st31b, outR31, q, hx, h1, h, K.av, hw]
      · refine .inl ⟨acc ++ [⟨idx es (isAt k.c), k.d⟩], by simp [carStep, h], ?_, by simp; omega⟩
        rw [acode_k]
        simp [a31_l1, st31b, q, hx, h1, h, hb, w64s (n := i) (by omega), K.av, hw])
    (fun acc _ => by
      refine ⟨?_, by simp [out53]⟩
      rw [acode_k]
      simp [a31_l1, st31b, out53])
  rw [car_walk2, List.nil_append] at hloop
  simp only [st31b, Int.natCast_zero, Int.ofNat_zero, List.map_nil] at hloop
  split at hloop <;> simp only [out53, outR31] at hloop <;> simp [a31, keysAV, exprsAV, hloop]
end Go.Av
