/- Part of a proof: Numbers' strings: the two ways to tell them. -/
import Derived.Test.YtmfgdgfamfpopaaGreatDoorKvHe
import Derived.Test.YtmfgdgfamfpopaaGreatDoorKvMh
set_option maxRecDepth 100000
set_option linter.unusedSimpArgs false
set_option linter.unusedVariables false
namespace Go.Av
open Go Go.Proofs Go.RowKit
def numR (b : List UInt8) : Bool := match numberL b with
  | some v => decide (0 ≤ v)
  | none => false
theorem itoaL_head {n : Int} (h : 0 ≤ n) : ∃ c r, itoaL n = c :: r ∧ digB c = true := by
  obtain ⟨h1, h2⟩ := decDigits_dig n.toNat
  rw [itoaL_nat h]
  cases hd : Lib.decDigits n.toNat with
  | nil => exact absurd hd h1
  | cons c r =>
    rw [hd] at h2
    have := h2 c (.head _)
    refine ⟨c, r, rfl, ?_⟩
    unfold isDig at this
    simp only [digB, Bool.and_eq_true, decide_eq_true_eq]
    exact this
theorem num_same (b : List UInt8) : numR b = numP b := by
  rw [Bool.eq_iff_iff]
  constructor
  · intro h
    unfold numR at h
    cases hn : numberL b with
    | none => rw [hn] at h; cases h
    | some v =>
      rw [hn] at h
      simp only [decide_eq_true_eq] at h
      have he := numberL_ok hn
      have hv : v ≤ 9223372036854775807 := by
        unfold numberL at hn
        have hr := numVal_range b 0 (by omega)
        change -9223372036854775808 ≤ numVal b ∧ numVal b ≤ 9223372036854775807 at hr
        split at hn
        · cases hn
        · split at hn
          · simp only [Option.some.injEq] at hn; omega
          · split at hn
            · simp only [Option.some.injEq] at hn; omega
            · cases hn
      obtain ⟨c, r, e1, e2⟩ := itoaL_head h
      have ha := atoi_itoa h hv
      rw [he] at e1 ha
      subst e1
      show (digB c && numM (c :: r)) = true
      unfold numM
      rw [ha, e2]
      simp [he]
  · intro h
    cases b with
    | nil => simp [numP] at h
    | cons c r =>
      change (digB c && numM (c :: r)) = true at h
      unfold numM at h
      simp only [Bool.and_eq_true] at h
      obtain ⟨hd, h⟩ := h
      cases ha : Lib.atoiAll (c :: r) with
      | ok v =>
        rw [ha] at h
        simp only [decide_eq_true_eq] at h
        have hb := Lib.atoiAll_bounds ha
        have hv : 0 ≤ v := by
          rcases Int.lt_or_le v 0 with hneg | hge
          · exfalso
            unfold itoaL at h
            rw [if_pos hneg] at h
            simp only [List.cons.injEq] at h
            rw [← h.1] at hd
            revert hd; decide
          · exact hge
        have := numberL_wr hv hb.2
        rw [h] at this
        unfold numR
        rw [this]
        simpa using hv
      | _ => rw [ha] at h; cases h

/-! ### bytes and texts of the definition -/
theorem c28 (c : UInt8) (S : List Bx) : run1 28 [.int .u8 (c.toNat : Int)] S = some (.ret (.int .u8 ((smallB c).toNat : Int)) none, S) := by
  refine eqn1 rfl ?_
  have h := c.toNat_lt
  rw [smallB_int]
  generalize c.toNat = n at *
  by_cases h1 : 65 ≤ n
  · by_cases h2 : n ≤ 90
    · have h1' : (65 : Int) ≤ (n : Int) := by omega
      have h2' : (n : Int) ≤ 90 := by omega
      have e1 : IntKind.wrap .u8 ((n : Int) + 32) = (n : Int) + 32 := wr8' (by omega) (by omega)
      simp [a28, h1, h2, h1', h2', e1]
    · have h1' : (65 : Int) ≤ (n : Int) := by omega
      have h2' : ¬ (n : Int) ≤ 90 := by omega
      simp [a28, h1, h2, h1', h2']
  · have h1' : ¬ (65 : Int) ≤ (n : Int) := by omega
    simp [a28, h1, h1']
def st25 (s : List UInt8) (S : List Bx) (n : Nat) : St := { σ := [(0, .v (.str (bs s))), (3, .v (.int .i64 (n : Int)))], own := [], loc := [], S := S }
end Go.Av
