/- Part of a proof: Numbers and signs of tokens: strconv's, strings.HasPrefix, value.Read at the empty string. -/
import Derived.Test.YtmfgdgfamfpopaaGreatDoorKvGd
set_option maxRecDepth 100000
set_option linter.unusedSimpArgs false
set_option linter.unusedVariables false
namespace Go.Av
open Go Go.Proofs

theorem c42 (s : List UInt8) (S : List Bx) (hs : s.length ≤ 1000000) : run 42 [.str (bs s), .int .i64 10, .int .i64 64] S = some (.ret (atoiA 110 (bs s)) none, S) := by
  refine recL_ext (hh := xParseInt 110) rfl ?_
  simp only [xParseInt, bs_size]
  rw [if_pos ⟨by omega, trivial, trivial⟩]
theorem c43 (n : Int) (h0 : -9223372036854775808 ≤ n) (h1 : n ≤ 9223372036854775807) (S : List Bx) : run 43 [.int .i64 n, .int .i64 10] S = some (.ret (.str (bs (itoaL n))) none, S) := by
  refine recL_ext (hh := xFormatInt) rfl ?_
  simp [xFormatInt, h0, h1, itoaB_L]
theorem c36N (S : List Bx) : run 36 [.str (bs [])] S = some (.ret (.tuple [zeroV, .bool false]) none, S) := by
  refine eqn rfl ?_
  have q := c42 [] S (by simp)
  have e : atoiA 110 (bs []) = .tuple [.int .i64 0, .iface 110 (.sptr [])] := by rfl
  rw [e] at q
  have z : bs [] = ⟨#[]⟩ := rfl
  rw [z] at q ⊢
  have e0 : (⟨#[]⟩ : ByteArray).size = 0 := rfl
  have e1 : (⟨#[]⟩ : ByteArray).toList = [] := bs_toList []
  unfold zeroV
  simp [a36, q, e0, e1]
theorem c52 (s p : List UInt8) (S : List Bx) (hs : s.length ≤ 1000000) (hp : p.length ≤ 1000000) : run 52 [.str (bs s), .str (bs p)] S = some (.ret (.bool (p.isPrefixOf s)) none, S) := by
  refine eqn rfl ?_
  have z1 : (bs s).size = s.length := bs_size s
  have z2 : (bs p).size = p.length := bs_size p
  have ex : (bs s).extract 0 p.length = bs (s.take p.length) := by rw [bs_extract]; simp
  by_cases h : p.length ≤ s.length
  · have h' : (p.length : Int) ≤ (s.length : Int) := by omega
    have e : p.isPrefixOf s = decide (s.take p.length = p) := by
      rw [Bool.eq_iff_iff, List.isPrefixOf_iff_prefix, decide_eq_true_eq]
      exact ⟨fun h => (List.prefix_iff_eq_take.1 h).symm, fun h => h ▸ List.take_prefix _ _⟩
    rw [e]
    by_cases hq : s.take p.length = p
    · simp [a52, z1, z2, h, h', ex, hq, bs_toList]
    · simp [a52, z1, z2, h, h', ex, hq, bs_toList]
  · have h' : ¬ (p.length : Int) ≤ (s.length : Int) := by omega
    have e : p.isPrefixOf s = false := by
      cases hb : p.isPrefixOf s with
      | false => rfl
      | true => exact absurd (List.isPrefixOf_iff_prefix.1 hb).length_le h
    rw [e]
    simp [a52, z1, z2, h, h']
theorem c34 (s p : List UInt8) (S : List Bx) (hs : s.length ≤ 1000000) (hp : p.length ≤ 1000000) : run 34 [.str (bs s), .str (bs p)] S = some (.ret (.bool (p.isPrefixOf s)) none, S) := by
  refine eqn rfl ?_
  have q := c52 s p S hs hp
  simp [a34, q]
end Go.Av
