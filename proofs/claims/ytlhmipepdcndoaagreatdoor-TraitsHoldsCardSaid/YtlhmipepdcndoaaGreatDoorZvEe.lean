/- Part of a proof: A value's string; rows that are different in some columns. -/
import Derived.Test.YtlhmipepdcndoaaGreatDoorZvEd
import Derived.Lib.ReplaceLaws
set_option maxRecDepth 100000
set_option linter.unusedSimpArgs false
set_option linter.unusedVariables false
namespace Go.Av
open Go Go.Proofs

/-! ### replacing -/
theorem rep_nil {old new : List UInt8} (h : old ≠ []) : Lib.replaceAll [] old new = [] := by
  unfold Lib.replaceAll Lib.replace
  split
  · rfl
  · have e : Lib.index [] old = -1 := by cases old with | nil => exact absurd rfl h | cons => rfl
    have c := Lib.count_miss e
    unfold Lib.replaceNum
    rw [if_pos (.inl (by omega)), c, Lib.replaceK]
theorem rep_eq {old new s : List UInt8} (h : (old == new) = false) : Lib.replaceAll s old new = Lib.replaceK old new (Lib.count s old) s := by
  unfold Lib.replaceAll Lib.replace
  rw [h]
  simp only [Bool.false_eq_true, if_false]
  unfold Lib.replaceNum
  rw [if_pos (.inl (by omega))]
theorem rep_hit {old new r : List UInt8} (h : (old == new) = false) (ho : old ≠ []) : Lib.replaceAll (old ++ r) old new = new ++ Lib.replaceAll r old new := by
  have e : Lib.index (old ++ r) old = ((0 : Nat) : Int) := by
    cases old with
    | nil => exact absurd rfl ho
    | cons a l =>
      have : (a :: l).isPrefixOf (a :: l ++ r) = true := by simp [List.isPrefixOf_iff_prefix]
      rw [List.cons_append] at this ⊢
      unfold Lib.index
      rw [if_pos this]; rfl
  rw [rep_eq h, rep_eq h, Lib.count_hit ho e, Nat.add_comm, Lib.replaceK_hit _ _ _ _ _ e]
  simp
theorem rep_miss {old new : List UInt8} {b : UInt8} {l : List UInt8} (h : (old == new) = false) (ho : old ≠ []) (hp : old.isPrefixOf (b :: l) = false) : Lib.replaceAll (b :: l) old new = b :: Lib.replaceAll l old new := by
  rw [rep_eq h, rep_eq h]
  have e : Lib.index (b :: l) old = if Lib.index l old == -1 then -1 else Lib.index l old + 1 := by
    conv => lhs; unfold Lib.index
    rw [if_neg (by rw [hp]; simp)]
  by_cases hm : Lib.index l old = -1
  · rw [hm] at e
    have e' : Lib.index (b :: l) old = -1 := e
    rw [Lib.count_miss hm, Lib.count_miss e', Lib.replaceK, Lib.replaceK]
  · have hge := Lib.index_ge l old
    obtain ⟨i, hi⟩ : ∃ i : Nat, Lib.index l old = i := ⟨(Lib.index l old).toNat, by omega⟩
    have e' : Lib.index (b :: l) old = ((i + 1 : Nat) : Int) := by
      rw [e, hi]
      have : ((i : Int) == -1) = false := by rw [beq_eq_false_iff_ne]; omega
      rw [this]; simp
    rw [Lib.count_hit ho e', Lib.count_hit ho hi, Nat.add_comm 1, Nat.add_comm 1, Lib.replaceK_hit _ _ _ _ _ e', Lib.replaceK_hit _ _ _ _ _ hi, show i + 1 + old.length = i + old.length + 1 by omega]
    simp

def itoaL (n : Int) : List UInt8 := if n < 0 then 45 :: Lib.decDigits n.natAbs else Lib.decDigits n.toNat
theorem itoaB_L {n : Int} (h0 : -9223372036854775808 ≤ n) (h1 : n ≤ 9223372036854775807) : itoaB n = bs (itoaL n) := itoaB_eq h0 h1
/-- Each quote twice. -/
def dbl : List UInt8 → List UInt8
  | [] => []
  | c :: l => if c = 39 then 39 :: 39 :: dbl l else c :: dbl l
theorem rep_dbl : ∀ (l : List UInt8), Lib.replaceAll l [39] [39, 39] = dbl l
  | [] => rep_nil (by simp)
  | c :: l => by
    have ih := rep_dbl l
    unfold dbl
    split
    · rename_i h
      subst h
      have := rep_hit (old := [39]) (new := [39, 39]) (r := l) (by decide) (by simp)
      simp only [List.singleton_append] at this
      rw [this, ih]; rfl
    · rename_i h
      rw [rep_miss (by decide) (by simp) (by simp [List.isPrefixOf]; exact fun e => h e.symm), ih]
theorem dbl_len : ∀ (l : List UInt8), (dbl l).length ≤ 2 * l.length
  | [] => by simp [dbl]
  | c :: l => by
    have := dbl_len l
    unfold dbl
    split <;> simp <;> omega
def wrL (v : V) : List UInt8 :=
  if v.k = 1 then itoaL v.n
  else if v.k = 2 then (if v.n = 0 then [102, 97, 108, 115, 101] else [116, 114, 117, 101])
  else if v.k = 3 then 39 :: dbl v.t ++ [39]
  else [110, 117, 108, 108]

/-! ### digits -/
theorem decDigits_len : ∀ (k n : Nat), n < 10 ^ (k + 1) → (Lib.decDigits n).length ≤ k + 1
  | 0, n, h => by rw [Lib.decDigits]; simp at h; simp [h]
  | k + 1, n, h => by
    rw [Lib.decDigits]
    split
    · simp
    · have : n / 10 < 10 ^ (k + 1) := by rw [Nat.pow_succ] at h; omega
      have := decDigits_len k (n / 10) this
      simp; omega
theorem itoaL_len {n : Int} (h0 : -9223372036854775808 ≤ n) (h1 : n ≤ 9223372036854775807) : (itoaL n).length ≤ 21 := by
  unfold itoaL
  split
  · have := decDigits_len 19 n.natAbs (by omega)
    simp; omega
  · have := decDigits_len 19 n.toNat (by omega)
    omega
def valI (v : V) : Prop := -9223372036854775808 ≤ v.n ∧ v.n ≤ 9223372036854775807
theorem wrL_len {v : V} (h : isV v = true) (hi : valI v) : (wrL v).length ≤ 402 := by
  unfold wrL
  split
  · have := itoaL_len hi.1 hi.2; omega
  · rename_i h1
    split
    · split <;> simp
    · rename_i h2
      split
      · rename_i h3
        unfold isV at h
        rw [if_neg (by omega), if_neg h1, if_neg h2, if_pos h3] at h
        simp only [Bool.and_eq_true, decide_eq_true_eq] at h
        have := dbl_len v.t
        simp; omega
      · simp
theorem c108 (n : Int) (h0 : -9223372036854775808 ≤ n) (h1 : n ≤ 9223372036854775807) (S : List Bx) : run 108 [.int .i64 n, .int .i64 10] S = some (.ret (.str (bs (itoaL n))) none, S) := by
  refine recL_ext (hh := xFormatInt) rfl ?_
  simp [xFormatInt, h0, h1, itoaB_L]
theorem c109 (l : List UInt8) (hl : l.length ≤ 100000) (S : List Bx) : run 109 [.str (bs l), .str ⟨#[39]⟩, .str ⟨#[39, 39]⟩] S = some (.ret (.str (bs (dbl l))) none, S) := by
  refine recL_ext (hh := xReplaceAll) rfl ?_
  have e1 : (⟨#[39]⟩ : ByteArray).size = 1 := rfl
  have e2 : (⟨#[39, 39]⟩ : ByteArray).size = 2 := rfl
  have e3 : repB (bs l) ⟨#[39]⟩ ⟨#[39, 39]⟩ = bs (dbl l) := by
    unfold repB
    rw [bs_data, ← rep_dbl]; rfl
  simp only [xReplaceAll, e1, e2, bs_size, e3]
  rw [if_pos ⟨by omega, by omega, by omega⟩]
theorem c76 (v : V) (hv : isV v = true) (hi : valI v) (S : List Bx) : run 76 [v.av] S = some (.ret (.str (bs (wrL v))) none, S) := by
  refine eqn rfl ?_
  obtain ⟨k, n, t⟩ := v
  simp only [V.av, valI] at *
  have q1 := c108 n hi.1 hi.2 S
  unfold isV at hv
  simp only at hv
  unfold wrL
  simp only
  by_cases h1 : k = 1
  · subst h1
    simp [a76, q1]
  · by_cases h2 : k = 2
    · subst h2
      simp at hv
      rcases hv.1 with h | h
      · subst h; simp [a76]; rfl
      · subst h; simp [a76]; rfl
    · by_cases h3 : k = 3
      · subst h3
        simp at hv
        have hl := dbl_len t
        have q2 := c109 t (by omega) S
        have e0 : (⟨#[39]⟩ : ByteArray) = bs [39] := rfl
        have s1 : (1 : Nat) + (dbl t).length ≤ 9223372036854775807 := by omega
        have s2 : (1 : Nat) + (dbl t).length + 1 ≤ 9223372036854775807 := by omega
        have s3 : (dbl t).length + 1 + 1 ≤ 9223372036854775807 := by omega
        simp only [e0] at q2
        simp [a76, e0, q2, bs_append, bs_size, s1, s2, s3]
      · simp [a76, h1, h2, h3]; rfl
end Go.Av
