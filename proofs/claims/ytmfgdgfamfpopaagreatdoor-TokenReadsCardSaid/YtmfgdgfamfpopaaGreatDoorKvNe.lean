/- Part of a proof: The definition's Parse at what stands in quotes. -/
import Derived.Test.YtmfgdgfamfpopaaGreatDoorKvNd
set_option maxRecDepth 100000
set_option linter.unusedSimpArgs false
set_option linter.unusedVariables false
namespace Go.Av
open Go Go.Proofs Go.RowKit
def zVal : Bx := { cells := [.int .i64 0, .int .i64 0, .str ⟨#[]⟩] }
def stP (s : List UInt8) (S : List Bx) (acc : List UInt8) (i : Nat) : St := { σ := [(0, .v (.str (bs s))), (2, .l 2 0), (4, .v (.str (bs acc))), (5, .v (.int .i64 (i : Int)))], own := [], loc := [(2, zVal)], S := S }
def stPe (s : List UInt8) (S : List Bx) (t : List UInt8) : St := { σ := [(0, .v (.str (bs s))), (2, .l 2 0), (4, .v (.str (bs t)))], own := [], loc := [(2, zVal)], S := S }
theorem loop26 (s : List UInt8) (S : List Bx) (hs : s.length ≤ 100000) : ∀ (k : Nat) (r acc : List UInt8) (i : Nat), r.length ≤ k → paired r = true → s.drop i = r ++ [39] → acc.length ≤ i → i + r.length + 1 = s.length →
    ∃ t, aloopW (acode run1 a26_l0) (stP s S acc i) = some (.exit 0, stPe s S t) ∧ ((acc ++ und r).length ≤ 200 → t = acc ++ und r) ∧ (200 < (acc ++ und r).length → 200 < t.length) ∧ t.length ≤ s.length := by
  have hz : (bs s).size = s.length := bs_size s
  have stop : ∀ (acc : List UInt8) (i : Nat), ¬ ((i : Int) < (s.length : Int) - 1 ∧ acc.length ≤ 200) → 1 ≤ s.length → aloopW (acode run1 a26_l0) (stP s S acc i) = some (.exit 0, stPe s S acc) := by
    intro acc i hn h1
    have w : IntKind.wrap .i64 ((s.length : Int) - 1) = (s.length : Int) - 1 := wr64 (by omega) (by omega)
    have az : (bs acc).size = acc.length := bs_size acc
    refine aloopW_stop ?_ (by simp)
    rw [acode_k]
    by_cases c1 : (i : Int) < (s.length : Int) - 1
    · have c2 : ¬ acc.length ≤ 200 := fun h => hn ⟨c1, h⟩
      have c2' : ¬ (acc.length : Int) ≤ 200 := by omega
      simp [a26_l0, stP, stPe, zVal, hz, az, w, c1, c2, c2']
    · simp [a26_l0, stP, stPe, zVal, hz, az, w, c1]
  intro k
  induction k with
  | zero =>
    intro r acc i hk hp hd ha hi
    obtain rfl : r = [] := List.length_eq_zero_iff.1 (by omega)
    refine ⟨acc, stop acc i (fun h => by simp at hi; omega) (by omega), fun _ => by simp [und], fun h => by simpa [und] using h, by omega⟩
  | succ k ih =>
    intro r acc i hk hp hd ha hi
    cases r with
    | nil => exact ⟨acc, stop acc i (fun h => by simp at hi; omega) (by omega), fun _ => by simp [und], fun h => by simpa [und] using h, by omega⟩
    | cons c r' =>
      simp only [List.length_cons] at hk hi
      by_cases hbig : 200 < acc.length
      · refine ⟨acc, stop acc i (fun h => by omega) (by omega), fun h => ?_, fun _ => hbig, by omega⟩
        rw [List.length_append] at h; omega
      · have hc : s[i]? = some c := by
          have := congrArg (fun z => z[0]?) hd
          simpa [List.getElem?_drop] using this
        have h1 : (i : Int) < (s.length : Int) - 1 := by omega
        have h2 : acc.length ≤ 200 := by omega
        have h2' : (acc.length : Int) ≤ 200 := by omega
        have w : IntKind.wrap .i64 ((s.length : Int) - 1) = (s.length : Int) - 1 := wr64 (by omega) (by omega)
        have w1 := w64s (n := i) (by omega)
        have w2 : IntKind.wrap .i64 ((i : Int) + 1 + 1) = ((i + 2 : Nat) : Int) := by rw [wr64 (by omega) (by omega)]; omega
        have az : (bs acc).size = acc.length := bs_size acc
        have g : (bs s)[i]? = some c := by rw [bs_get]; exact hc
        have ht : s.take (i + 1) = s.take i ++ [c] := by rw [List.take_add_one, hc]; rfl
        have ex : (bs s).extract i (i + 1) = bs [c] := by rw [bs_extract, ht, List.drop_append_of_le_length (by rw [List.length_take]; omega), List.drop_take]; simp
        have n0 : (0 : Int) ≤ (i : Int) + 1 := by omega
        have tn : ((i : Int) + 1).toNat = i + 1 := by omega
        have n2 : (i : Int) + 1 ≤ (s.length : Int) := by omega
        have b1 : acc.length + 1 ≤ 9223372036854775807 := by omega
        by_cases h39 : c = 39
        · subst h39
          cases r' with
          | nil => simp [paired] at hp
          | cons d r2 =>
            simp only [paired, if_true, Bool.and_eq_true, decide_eq_true_eq] at hp
            obtain ⟨rfl, hp2⟩ := hp
            have hd2 : s.drop (i + 2) = r2 ++ [39] := by
              have : s.drop (i + 2) = (s.drop i).drop 2 := by rw [List.drop_drop]
              rw [this, hd]; rfl
            simp only [List.length_cons] at hk hi
            obtain ⟨t, q1, q2, q3⟩ := ih r2 (acc ++ [39]) (i + 2) (by omega) hp2 hd2 (by simp; omega) (by omega)
            have eu : acc ++ und (39 :: 39 :: r2) = (acc ++ [39]) ++ und r2 := by simp [und]
            rw [eu]
            refine ⟨t, ?_, q2, q3⟩
            rw [← q1]
            refine aloopW_step ?_
            rw [acode_k]
            simp [-getElem?_pos, List.getElem?_cons_zero, List.getElem?_cons_succ, a26_l0, stP, zVal, hz, az, w, w1, w2, h1, h2, h2', g, ex, n0, tn, n2, bs_append, bs_size, b1]
            omega
        · have c39' : ¬ c.toNat = 39 := fun e => h39 (UInt8.toNat_inj.1 e)
          have c39i : ¬ (c.toNat : Int) = 39 := by omega
          have hp2 : paired r' = true := by
            cases r' with
            | nil => rfl
            | cons d r2 => simpa [paired, h39] using hp
          have hd2 : s.drop (i + 1) = r' ++ [39] := by
            have : s.drop (i + 1) = (s.drop i).drop 1 := by rw [List.drop_drop]
            rw [this, hd]; rfl
          obtain ⟨t, q1, q2, q3⟩ := ih r' (acc ++ [c]) (i + 1) (by omega) hp2 hd2 (by simp; omega) (by omega)
          have eu : acc ++ und (c :: r') = (acc ++ [c]) ++ und r' := by
            cases r' with
            | nil => simp [und]
            | cons d r2 => simp [und, h39]
          rw [eu]
          refine ⟨t, ?_, q2, q3⟩
          rw [← q1]
          refine aloopW_step ?_
          rw [acode_k]
          simp [-getElem?_pos, List.getElem?_cons_zero, List.getElem?_cons_succ, a26_l0, stP, zVal, hz, az, w, w1, h1, h2, h2', g, ex, n0, tn, n2, bs_append, bs_size, b1, h39, c39', c39i]
          omega
theorem c26Q (m : List UInt8) (S : List Bx) (hs : m.length ≤ 90000) (hp : paired m = true) : ∃ t, run1 26 [.str (bs (39 :: (m ++ [39])))] S = some (.ret (.tuple [textAV t, .bool (okText m)]) none, S) := by
  have hl : (39 :: (m ++ [39])).length = m.length + 2 := by simp
  obtain ⟨t, q1, q2, q3, q4⟩ := loop26 (39 :: (m ++ [39])) S (by omega) m.length m [] 1 (Nat.le_refl _) hp rfl (by simp) (by rw [hl]; omega)
  refine ⟨t, eqn1 rfl ?_⟩
  have hu := und_len m
  rw [hl] at q4
  obtain ⟨n1, n2, n3⟩ := text_ne (m := m)
  have hz : (bs (39 :: (m ++ [39]))).size = m.length + 2 := by rw [bs_size, hl]
  have g0 : (bs (39 :: (m ++ [39])))[0]? = some 39 := by rw [bs_get]; rfl
  have p1 := c45 t S
  have i1 : (0 : Int) < ((m.length + 2 : Nat) : Int) := by omega
  have i2 : 0 < m.length + 2 := by omega
  have i3 : m.length + 2 ≠ 0 := by omega
  have e0 : bs [] = (⟨#[]⟩ : ByteArray) := rfl
  simp only [stP, stPe, zVal, Int.natCast_one, Int.ofNat_one, e0] at q1
  simp only [List.nil_append] at q2 q3
  have eo : okText m = (decide ((und m).length ≤ 200) && (und m).all prB) := rfl
  unfold textAV at p1 ⊢
  by_cases hsm : (und m).length ≤ 200
  · have e := q2 hsm
    subst e
    have p2 := c46T (und m) S (by omega)
    have p3 := c47T (und m) S (by omega)
    rw [dbl_und m hp] at p3
    rw [← eo] at p2
    unfold textAV at p2 p3
    generalize okText m = ok at *
    generalize bs (und m) = U at *
    generalize bs (39 :: (m ++ [39])) = B at *
    generalize m.length + 2 = N at *
    cases ok
    · simp [-getElem?_pos, a26, n1, n2, n3, hz, g0, i1, i2, i3, q1, p1, p2, p3]
    · simp [-getElem?_pos, a26, n1, n2, n3, hz, g0, i1, i2, i3, q1, p1, p2, p3]
  · have hb := q3 (by omega)
    have hno : okText m = false := by rw [eo]; simp [hsm]
    have p2 := c46T t S (by omega)
    have hr : (decide (t.length ≤ 200) && t.all prB) = false := by
      rw [decide_eq_false (by omega)]; rfl
    rw [hr] at p2
    rw [hno]
    unfold textAV at p2
    generalize bs t = U at *
    generalize bs (39 :: (m ++ [39])) = B at *
    generalize m.length + 2 = N at *
    simp [-getElem?_pos, a26, n1, n2, n3, hz, g0, i1, i2, i3, q1, p1, p2]
theorem c48 (n : Int) (S : List Bx) : run1 48 [.int .i64 n] S = some (.ret (.agg [.int .i64 1, .int .i64 n, .str ⟨#[]⟩]) none, S) := by
  refine eqn1 rfl ?_
  simp [a48]
theorem c26N (S : List Bx) : run1 26 [.str (bs [])] S = some (.ret (.tuple [.agg [.int .i64 1, .int .i64 0, .str ⟨#[]⟩], .bool false]) none, S) := by
  refine eqn1 rfl ?_
  have q := lift (c30 [] S (by simp))
  have e : numE [] = .tuple [.int .i64 0, .bool false] := by rfl
  rw [e] at q
  have q2 := c48 0 S
  have z : bs [] = ⟨#[]⟩ := rfl
  rw [z] at q ⊢
  have e0 : (⟨#[]⟩ : ByteArray).size = 0 := rfl
  have e1 : (⟨#[]⟩ : ByteArray).toList = [] := bs_toList []
  simp [a26, q, q2, e0, e1]
end Go.Av
