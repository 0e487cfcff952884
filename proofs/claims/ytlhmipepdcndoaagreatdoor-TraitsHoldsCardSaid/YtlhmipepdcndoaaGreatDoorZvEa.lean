/- Part of a proof: The order of values; what is a value. -/
import Derived.Test.YtlhmipepdcndoaaGreatDoorZvDj
set_option maxRecDepth 100000
set_option linter.unusedSimpArgs false
set_option linter.unusedVariables false
namespace Go.Av
open Go Go.Proofs

def cmpInt (a b : Int) : Int := if a < b then -1 else if a > b then 1 else 0
theorem c137 (a : Int) (S : List Bx) : run 137 [.int .i64 a] S = some (.ret (.bool false) none, S) := by
  refine eqn rfl ?_
  simp [a137]
theorem c136 (a : Int) (S : List Bx) : run 136 [.int .i64 a] S = some (.ret (.bool false) none, S) := by
  refine eqn rfl ?_
  simp [a136]
theorem c138 (s : ByteArray) (S : List Bx) : run 138 [.str s] S = some (.ret (.bool false) none, S) := by
  refine eqn rfl ?_
  simp [a138]
theorem c112 (a b : Int) (S : List Bx) : run 112 [.int .i64 a, .int .i64 b] S = some (.ret (.int .i64 (cmpInt a b)) none, S) := by
  refine eqn rfl ?_
  have q1 := c137 a S
  have q2 := c137 b S
  unfold cmpInt
  by_cases h1 : a < b
  · simp [a112, q1, q2, h1]
  · by_cases h2 : a > b
    · simp [a112, q1, q2, h1, h2]
    · have h3 : ¬ (b < a) := h2
      simp [a112, q1, q2, h1, h3]
theorem c111 (a b : Int) (S : List Bx) : run 111 [.int .i64 a, .int .i64 b] S = some (.ret (.int .i64 (cmpInt a b)) none, S) := by
  refine eqn rfl ?_
  have q1 := c136 a S
  have q2 := c136 b S
  unfold cmpInt
  by_cases h1 : a < b
  · simp [a111, q1, q2, h1]
  · by_cases h2 : a > b
    · simp [a111, q1, q2, h1, h2]
    · have h3 : ¬ (b < a) := h2
      simp [a111, q1, q2, h1, h3]
theorem bytesLess_cmpL : ∀ (l r : List UInt8), cmpL l r = if Op.bytesLess l r = true then -1 else if l = r then 0 else 1
  | [], [] => by simp [cmpL, Op.bytesLess]
  | [], b :: r => by simp [cmpL, Op.bytesLess]
  | a :: l, [] => by simp [cmpL, Op.bytesLess]
  | a :: l, b :: r => by
    have ih := bytesLess_cmpL l r
    simp only [cmpL, Op.bytesLess]
    by_cases e : a = b
    · subst e
      simp [ih]
    · by_cases h : a < b
      · simp [e, h]
      · simp [e, h]
theorem c113 (l r : List UInt8) (S : List Bx) : run 113 [.str (bs l), .str (bs r)] S = some (.ret (.int .i64 (cmpL l r)) none, S) := by
  refine eqn rfl ?_
  have q1 := c138 (bs l) S
  have q2 := c138 (bs r) S
  rw [bytesLess_cmpL]
  by_cases h1 : Op.bytesLess l r = true
  · simp [a113, q1, q2, bs_toList, h1]
  · by_cases h2 : l = r
    · subst h2
      have h1' : Op.bytesLess l l = false := by simpa using h1
      simp [a113, q1, q2, bs_toList, h1']
    · have h1' : Op.bytesLess l r = false := by simpa using h1
      simp [a113, q1, q2, bs_toList, h1', h2]
def orI : List Int → Int
  | [] => 0
  | x :: l => if x = 0 then orI l else x
theorem c110 (a b c : Int) (S : List Bx) : run 110 [.slice 1 [.int .i64 a, .int .i64 b, .int .i64 c]] S = some (.ret (.int .i64 (orI [a, b, c])) none, S) := by
  refine eqn rfl ?_
  have h := loop_walk (f := acode run a110_l0) [a, b, c] (fun (_ : Unit) i => { σ := [(3, .v (.int .i64 0)), (6, .v (.slice 1 [.int .i64 a, .int .i64 b, .int .i64 c])), (7, .v (.int .i64 3)), (8, .v (.int .i64 i))], own := [], loc := [], S := S })
    (fun _ x => if x = 0 then .inl () else .inr (.ret, { σ := [(2, .v (.int .i64 x))], own := [], loc := [], S := S })) (fun _ => (.exit 0, { σ := [(3, .v (.int .i64 0))], own := [], loc := [], S := S })) (fun _ _ => True) (b0 := ()) trivial
    (fun i _ x _ hx => by
      have hi : i < 3 := by simpa using (List.getElem?_eq_some_iff.1 hx).1
      have hi' : (i : Int) < 3 := by omega
      have hg : ([AV.int .i64 a, AV.int .i64 b, AV.int .i64 c] : List AV)[i]? = some (.int .i64 x) := by
        have := congrArg (Option.map (AV.int .i64)) hx
        simpa [← List.getElem?_map] using this
      by_cases h0 : x = 0
      · left
        refine ⟨(), by simp [h0], ?_, trivial⟩
        rw [acode_k]
        subst h0
        simp [a110_l0, hi', hg, w64s (n := i) (by omega)]
      · right
        refine ⟨_, by rw [if_neg h0], ?_, by simp⟩
        rw [acode_k]
        simp [a110_l0, hi', hg, h0])
    (fun _ _ => ⟨by
      rw [acode_k]
      simp [a110_l0], by simp⟩)
  have e : ∀ (l : List Int) (k : Int → AEx × St) (f : AEx × St), f = k 0 → True := fun _ _ _ _ => trivial
  simp only [Int.natCast_zero, Int.ofNat_zero] at h
  by_cases h1 : a = 0
  · by_cases h2 : b = 0
    · by_cases h3 : c = 0
      · subst h1; subst h2; subst h3
        simp [walkL] at h
        simp [a110, h, orI]
      · subst h1; subst h2
        simp [walkL, h3] at h
        simp [a110, h, orI, h3]
    · subst h1
      simp [walkL, h2] at h
      simp [a110, h, orI, h2]
  · simp [walkL, h1] at h
    simp [a110, h, orI, h1]
theorem cmpV_or (v w : V) : orI [cmpInt v.k w.k, cmpInt v.n w.n, cmpL v.t w.t] = cmpV v w := by
  simp only [orI, cmpInt, cmpV]
  by_cases h1 : v.k = w.k
  · by_cases h2 : v.n = w.n
    · have h1' : ¬ w.k < w.k := by omega
      have h2' : ¬ w.n < w.n := by omega
      simp only [h1, h2, h1', h2', gt_iff_lt, if_false, if_true, ne_eq, not_true_eq_false]
      split
      · rename_i h; rw [h]
      · rfl
    · have h1' : ¬ w.k < w.k := by omega
      simp only [h1, h1', gt_iff_lt, if_false, if_true, ne_eq, not_true_eq_false, h2, not_false_eq_true]
      by_cases h3 : v.n < w.n
      · simp [h3]
      · have h4 : w.n < v.n := by omega
        simp [h3, h4]
  · simp only [ne_eq, h1, not_false_eq_true, if_true]
    by_cases h3 : v.k < w.k
    · simp [h3]
    · have h4 : w.k < v.k := by omega
      simp [h3, h4]
theorem c77 (v w : V) (S : List Bx) : run 77 [v.av, w.av] S = some (.ret (.int .i64 (cmpV v w)) none, S) := by
  refine eqn rfl ?_
  have q1 := c111 v.k w.k S
  have q2 := c112 v.n w.n S
  have q3 := c113 v.t w.t S
  have q4 := c110 (cmpInt v.k w.k) (cmpInt v.n w.n) (cmpL v.t w.t) S
  rw [cmpV_or] at q4
  generalize cmpInt v.k w.k = x1 at *
  generalize cmpInt v.n w.n = x2 at *
  generalize cmpL v.t w.t = x3 at *
  generalize cmpV v w = x at *
  simp [a77, V.av, q1, q2, q3, q4]
end Go.Av
