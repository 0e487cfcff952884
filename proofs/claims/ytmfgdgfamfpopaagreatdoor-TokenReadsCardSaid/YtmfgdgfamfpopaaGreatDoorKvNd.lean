/- Part of a proof: Texts of the definition. -/
import Derived.Test.YtmfgdgfamfpopaaGreatDoorKvNc
set_option maxRecDepth 100000
set_option linter.unusedSimpArgs false
set_option linter.unusedVariables false
namespace Go.Av
open Go Go.Proofs Go.RowKit
def st69 (s : List UInt8) (S : List Bx) (i : Nat) : St := { σ := [(0, .v (.str (bs s))), (3, .v (.int .i64 (i : Int)))], own := [], loc := [], S := S }
theorem c69 (s : List UInt8) (S : List Bx) (hs : s.length ≤ 1000000) : run1 69 [.str (bs s)] S = some (.ret (.bool (s.all prB)) none, S) := by
  refine eqn1 rfl ?_
  have h := loop_all (f := acode run1 a69_l0) s prB (st69 s S) (bad := (.ret, { σ := [(2, .v (.bool false))], own := [], loc := [], S := S })) (good := (.exit 0, { σ := [], own := [], loc := [], S := S })) (by simp) (by simp)
    (fun i c hx => by
      have h1 := ilt hx
      have hlt := (List.getElem?_eq_some_iff.1 hx).1
      have w := w64s (n := i) (by omega)
      have g : (bs s)[i]? = some c := by rw [bs_get]; exact hx
      have hz : (bs s).size = s.length := bs_size s
      rw [acode_k]
      unfold prB
      by_cases c1 : 32 ≤ c.toNat
      · have c1' : ¬ (c.toNat : Int) < 32 := by omega
        by_cases c2 : c.toNat ≤ 126
        · have c2' : ¬ (126 : Int) < (c.toNat : Int) := by omega
          simp [-getElem?_pos, List.getElem?_cons_zero, List.getElem?_cons_succ, a69_l0, st69, hz, g, h1, w, c1, c2, c1', c2']
        · have c2' : (126 : Int) < (c.toNat : Int) := by omega
          simp [-getElem?_pos, List.getElem?_cons_zero, List.getElem?_cons_succ, a69_l0, st69, hz, g, h1, w, c1, c2, c1', c2']
      · have c1' : (c.toNat : Int) < 32 := by omega
        simp [-getElem?_pos, List.getElem?_cons_zero, List.getElem?_cons_succ, a69_l0, st69, hz, g, h1, w, c1, c1'])
    (by
      rw [acode_k]
      have hz : (bs s).size = s.length := bs_size s
      simp [a69_l0, st69, hz])
  have hz : (bs s).size = s.length := bs_size s
  simp only [st69, Int.natCast_zero, Int.ofNat_zero] at h
  generalize s.all prB = b at *
  cases b
  · simp at h
    simp [a69, hz, h]
  · simp at h
    simp [a69, hz, h]
theorem c46T (t : List UInt8) (S : List Bx) (hs : t.length ≤ 1000000) : run1 46 [textAV t] S = some (.ret (.bool (decide (t.length ≤ 200) && t.all prB)) none, S) := by
  refine eqn1 rfl ?_
  have q := c69 t S hs
  have hz : (bs t).size = t.length := bs_size t
  unfold textAV
  generalize t.all prB = b at *
  by_cases h1 : t.length ≤ 200
  · have h1' : (t.length : Int) ≤ 200 := by omega
    simp [a46, hz, h1, h1', q]
  · have h1' : ¬ (t.length : Int) ≤ 200 := by omega
    simp [a46, hz, h1, h1']
theorem c45 (t : List UInt8) (S : List Bx) : run1 45 [.str (bs t)] S = some (.ret (textAV t) none, S) := by
  refine eqn1 rfl ?_
  unfold textAV
  simp [a45]
/-! ### the string of a text -/
def stX (t : List UInt8) (S : List Bx) (acc : List UInt8) (i : Nat) : St := { σ := [(1, .l 1 0), (3, .v (.str (bs acc))), (4, .v (.int .i64 (i : Int)))], own := [], loc := [(1, { cells := [.int .i64 3, .int .i64 0, .str (bs t)] })], S := S }
theorem dbl_snoc (l : List UInt8) (c : UInt8) : dbl (l ++ [c]) = dbl l ++ (if c = 39 then [39, 39] else [c]) := by
  induction l with
  | nil => simp [dbl]
  | cons d l ih =>
    simp only [List.cons_append, dbl, ih]
    split <;> simp
theorem c47T (t : List UInt8) (S : List Bx) (hs : t.length ≤ 100000) : run1 47 [textAV t] S = some (.ret (.str (bs (39 :: (dbl t ++ [39])))) none, S) := by
  refine eqn1 rfl ?_
  have hz : (bs t).size = t.length := bs_size t
  have h := loop_upto (f := acode run1 a47_l0) (st := fun i => stX t S (39 :: dbl (t.take i)) i) (r := (.exit 1, { σ := [(3, .v (.str (bs (39 :: dbl t))))], own := [], loc := [], S := S })) (by simp) t.length 0
    (fun i _ hi => by
      have hi : i < t.length := by omega
      obtain ⟨c, hc⟩ : ∃ c, t[i]? = some c := ⟨t[i], List.getElem?_eq_getElem hi⟩
      have h1 : (i : Int) < (t.length : Int) := by omega
      have h2 : (i : Int) + 1 ≤ (t.length : Int) := by omega
      have w := w64s (n := i) (by omega)
      have g : (bs t)[i]? = some c := by rw [bs_get]; exact hc
      have ht : t.take (i + 1) = t.take i ++ [c] := by rw [List.take_add_one, hc]; rfl
      have ex : (bs t).extract i (i + 1) = bs [c] := by rw [bs_extract, ht, List.drop_append_of_le_length (by rw [List.length_take]; omega), List.drop_take]; simp
      have hl := dbl_len (t.take i)
      have hl2 : (t.take i).length ≤ t.length := by rw [List.length_take]; omega
      show acode run1 _ (stX t S (39 :: dbl (t.take i)) i) = some (.normal, stX t S (39 :: dbl (t.take (i + 1))) (i + 1))
      rw [ht, dbl_snoc]
      generalize dbl (t.take i) = D at *
      have e39 : (⟨#[39]⟩ : ByteArray) = bs [39] := rfl
      have n0 : (0 : Int) ≤ (i : Int) + 1 := by omega
      have tn : ((i : Int) + 1).toNat = i + 1 := by omega
      have b1 : D.length + 1 + 1 ≤ 9223372036854775807 := by omega
      have b2 : D.length + 1 + 1 + 1 ≤ 9223372036854775807 := by omega
      rw [acode_k]
      by_cases h39 : c = 39
      · subst h39
        simp [-getElem?_pos, List.getElem?_cons_zero, List.getElem?_cons_succ, a47_l0, stX, hz, h1, h2, w, g, ex, n0, tn, e39, bs_append, bs_size, b1, b2]
        omega
      · have c39' : ¬ c.toNat = 39 := fun e => h39 (UInt8.toNat_inj.1 e)
        have c39i : ¬ (c.toNat : Int) = 39 := by omega
        simp [-getElem?_pos, List.getElem?_cons_zero, List.getElem?_cons_succ, a47_l0, stX, hz, h1, h2, w, g, ex, n0, tn, e39, bs_append, bs_size, b1, b2, h39, c39', c39i]
        omega)
    (by
      rw [Nat.zero_add, List.take_length]
      rw [acode_k]
      simp [a47_l0, stX, hz])
  have e0 : dbl (t.take 0) = [] := rfl
  have e39 : (⟨#[39]⟩ : ByteArray) = bs [39] := rfl
  have hl := dbl_len t
  simp only [e0, stX, Int.natCast_zero, Int.ofNat_zero] at h
  unfold textAV
  have b1 : (dbl t).length + 1 + 1 ≤ 9223372036854775807 := by omega
  simp [a47, e39, h, bs_append, bs_size, b1]
end Go.Av
