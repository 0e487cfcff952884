/- Part of a proof: Digits and numbers; the strings of keys. -/
import Derived.Test.YtmfgdgfamfpopaaGreatDoorKvHa
import Derived.Test.YtmfgdgfamfpopaaGreatDoorKvCe
set_option maxRecDepth 100000
set_option linter.unusedSimpArgs false
set_option linter.unusedVariables false
namespace Go.Av
open Go Go.Proofs

theorem itoaL_small {n : Int} (h : 0 ≤ n) (h1 : n < 10) : itoaL n = [UInt8.ofNat (48 + n.toNat)] := by
  rw [itoaL_nat h, Lib.decDigits, dif_pos (by omega)]
theorem itoaL_big {n : Int} (h : 10 ≤ n) : itoaL n = itoaL (n / 10) ++ [UInt8.ofNat (48 + n.toNat % 10)] := by
  rw [itoaL_nat (by omega), itoaL_nat (by omega), Lib.decDigits, dif_neg (by omega)]
  rw [show (n / 10).toNat = n.toNat / 10 by omega]
theorem itoaL_neg {m : Nat} (h : 1 ≤ m) : itoaL (-(m : Int)) = 45 :: Lib.decDigits m := by
  unfold itoaL
  rw [if_pos (by omega)]
  simp
theorem bytes_one {v : Int} (h0 : 0 ≤ v) (h1 : v < 256) : bytesA [.int .u8 v] = some [UInt8.ofNat v.toNat] := by
  simp [bytesA, h0, h1]
theorem wr8 {v : Int} (h0 : 0 ≤ v) (h1 : v < 256) : IntKind.wrap .u8 v = v := by
  simp [IntKind.wrap, IntKind.bits, IntKind.signed]
  omega
theorem c49 : ∀ (k : Nat) (n : Int) (S : List Bx), n.natAbs ≤ k → n.natAbs ≤ 9223372036854775808 → n ≤ 9223372036854775807 → run 49 [.int .i64 n] S = some (.ret (.str (bs (itoaL n))) none, S) := by
  intro k
  induction k using Nat.strongRecOn with
  | _ k ih =>
    intro n S hk hn hn1
    refine eqn rfl ?_
    have e45 : (⟨#[45]⟩ : ByteArray) = bs [45] := rfl
    by_cases h0 : n < 0
    · obtain ⟨m, rfl⟩ : ∃ m : Nat, n = -(m : Int) := ⟨n.natAbs, by omega⟩
      have hm : 1 ≤ m := by omega
      have e1 : (-(m : Int)).tmod 10 = -((m % 10 : Nat) : Int) := by rw [Int.neg_tmod]; rfl
      have e2 : IntKind.wrap .i64 (48 - -((m % 10 : Nat) : Int)) = ((48 + m % 10 : Nat) : Int) := by rw [wr64 (by omega) (by omega)]; omega
      have e3 : IntKind.wrap .u8 ((48 + m % 10 : Nat) : Int) = ((48 + m % 10 : Nat) : Int) := wr8 (by omega) (by omega)
      have e4 := bytes_one (v := ((48 + m % 10 : Nat) : Int)) (by omega) (by omega)
      rw [Int.toNat_natCast] at e4
      have e4' : (⟨([UInt8.ofNat (48 + m % 10)] : List UInt8).toArray⟩ : ByteArray) = bs [UInt8.ofNat (48 + m % 10)] := rfl
      have hlen1 : (2 : Nat) ≤ 9223372036854775807 := by omega
      by_cases h10 : m < 10
      · have hi : itoaL (-(m : Int)) = [45, UInt8.ofNat (48 + m % 10)] := by
          rw [itoaL_neg hm, Lib.decDigits, dif_pos h10, Nat.mod_eq_of_lt h10]
        have g1 : (-(m : Int)) > -10 := by omega
        have g1' : (-10 : Int) < -(m : Int) := by omega
        rw [hi]
        generalize (-((m % 10 : Nat) : Int)) = t at *
        generalize UInt8.ofNat (48 + m % 10) = c at *
        generalize ((48 + m % 10 : Nat) : Int) = v at *
        generalize (-(m : Int)) = n at *
        simp [a49, h0, e1, e2, e3, e4, g1, g1', e45, e4', bs_append, bs_size]
      · have hi : itoaL (-(m : Int)) = itoaL (-((m / 10 : Nat) : Int)) ++ [UInt8.ofNat (48 + m % 10)] := by
          rw [itoaL_neg hm, itoaL_neg (by omega), Lib.decDigits, dif_neg h10]; rfl
        have g1' : ¬ (-10 : Int) < -(m : Int) := by omega
        have e5 : (-(m : Int)).tdiv 10 = -((m / 10 : Nat) : Int) := by rw [Int.neg_tdiv]; rfl
        have e6 : IntKind.wrap .i64 (-((m / 10 : Nat) : Int)) = -((m / 10 : Nat) : Int) := wr64 (by omega) (by omega)
        have q := ih (m / 10) (by omega) (-((m / 10 : Nat) : Int)) S (by omega) (by omega) (by omega)
        have hl := itoaL_len (n := -((m / 10 : Nat) : Int)) (by omega) (by omega)
        rw [hi]
        generalize itoaL (-((m / 10 : Nat) : Int)) = L at *
        generalize (-((m / 10 : Nat) : Int)) = n2 at *
        generalize (-((m % 10 : Nat) : Int)) = t at *
        generalize UInt8.ofNat (48 + m % 10) = c at *
        generalize ((48 + m % 10 : Nat) : Int) = v at *
        generalize (-(m : Int)) = n at *
        have s1 : L.length + 1 ≤ 9223372036854775807 := by omega
        simp [a49, h0, e1, e2, e3, e4, e4', e5, e6, g1', q, bs_append, bs_size, s1]
    · have e1 : n.tmod 10 = n % 10 := Int.tmod_eq_emod_of_nonneg (by omega)
      have e2 : IntKind.wrap .i64 (48 + n % 10) = 48 + n % 10 := wr64 (by omega) (by omega)
      have e3 : IntKind.wrap .u8 (48 + n % 10) = 48 + n % 10 := wr8 (by omega) (by omega)
      have e4 := bytes_one (v := 48 + n % 10) (by omega) (by omega)
      have e4' : (⟨([UInt8.ofNat (48 + n % 10).toNat] : List UInt8).toArray⟩ : ByteArray) = bs [UInt8.ofNat (48 + n % 10).toNat] := rfl
      by_cases h10 : n < 10
      · have hi : itoaL n = [UInt8.ofNat (48 + n % 10).toNat] := by
          rw [itoaL_small (by omega) h10]
          congr 2; omega
        rw [hi]
        generalize UInt8.ofNat (48 + n % 10).toNat = c at *
        generalize hv : 48 + n % 10 = v at *
        generalize hu : n % 10 = u at *
        simp [a49, h0, h10, e1, hv, e2, e3, e4, e4']
      · have hi : itoaL n = itoaL (n / 10) ++ [UInt8.ofNat (48 + n % 10).toNat] := by
          rw [itoaL_big (by omega)]
          congr 3; omega
        have e5 : n.tdiv 10 = n / 10 := Int.tdiv_eq_ediv_of_nonneg (by omega)
        have e6 : IntKind.wrap .i64 (n / 10) = n / 10 := wr64 (by omega) (by omega)
        have q := ih (n / 10).natAbs (by omega) (n / 10) S (by omega) (by omega) (by omega)
        have hl := itoaL_len (n := n / 10) (by omega) (by omega)
        rw [hi]
        generalize itoaL (n / 10) = L at *
        generalize UInt8.ofNat (48 + n % 10).toNat = c at *
        generalize hv : 48 + n % 10 = v at *
        generalize hu : n % 10 = u at *
        generalize n / 10 = n2 at *
        have s1 : L.length + 1 ≤ 9223372036854775807 := by omega
        simp [a49, h0, h10, e1, hv, e2, e3, e4, e4', e5, e6, q, bs_append, bs_size, s1]

/-! ### the strings of keys -/
theorem joinSp_snocH : ∀ (l : List (List UInt8)) (x : List UInt8), joinSp (l ++ [x]) = joinSp l ++ ((if l = [] then [] else [32]) ++ x)
  | [], x => by simp [joinSp]
  | y :: l, x => by simp [joinSp]
theorem joinK_succ {ks : List K} {i : Nat} {k : K} (h : ks[i]? = some k) : joinSp ((ks.take (i + 1)).map wrK) = joinSp ((ks.take i).map wrK) ++ ((if i = 0 then [] else [32]) ++ wrK k) := by
  have hlt := (List.getElem?_eq_some_iff.1 h).1
  rw [List.take_add_one, h]
  simp only [Option.toList_some, List.map_append, List.map_cons, List.map_nil]
  rw [joinSp_snocH]
  have e : ((ks.take i).map wrK = []) ↔ i = 0 := by
    rw [List.map_eq_nil_iff, List.take_eq_nil_iff]
    constructor
    · rintro (h | h)
      · exact h
      · rw [h] at hlt; simp at hlt
    · exact .inl
  by_cases h0 : i = 0
  · rw [if_pos h0, if_pos (e.2 h0)]
  · rw [if_neg h0, if_neg (fun h => h0 (e.1 h))]
def keysFit (ks : List K) : Prop := ∀ k ∈ ks, 0 ≤ k.c ∧ k.c ≤ 9223372036854775807
theorem wrK_len {k : K} (h : 0 ≤ k.c ∧ k.c ≤ 9223372036854775807) : (wrK k).length ≤ 22 := by
  have := itoaL_len (n := k.c) (by omega) h.2
  unfold wrK
  split <;> simp <;> omega
end Go.Av
