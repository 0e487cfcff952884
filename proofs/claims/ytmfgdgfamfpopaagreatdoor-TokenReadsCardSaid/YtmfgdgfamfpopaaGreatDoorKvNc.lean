/- Part of a proof: The definition's quoted. -/
import Derived.Test.YtmfgdgfamfpopaaGreatDoorKvNb
set_option maxRecDepth 100000
set_option linter.unusedSimpArgs false
set_option linter.unusedVariables false
namespace Go.Av
open Go Go.Proofs Go.RowKit
theorem loop25 (s : List UInt8) (S : List Bx) (hs : s.length ≤ 1000000) : ∀ (k n : Nat), s.length ≤ n + k → n ≤ 1000001 → aloopW (acode run1 a25_l0) (st25 s S n) = qEnd S (qGo n (s.drop n)) := by
  have hsz : (bs s).size = s.length := bs_size s
  intro k
  induction k with
  | zero =>
    intro n h hn
    have e : s.drop n = [] := List.drop_eq_nil_of_le (by omega)
    have h1 : ¬ (n : Int) < (s.length : Int) := by omega
    rw [e]
    refine aloopW_stop (r := (.exit 0, { σ := [], own := [], loc := [], S := S })) ?_ (by simp)
    rw [acode_k]
    simp [a25_l0, st25, hsz, h1]
  | succ k ih =>
    intro n h hn
    by_cases hlt : n < s.length
    · obtain ⟨c, hc⟩ : ∃ c, s[n]? = some c := ⟨s[n], List.getElem?_eq_getElem hlt⟩
      have h1 : (n : Int) < (s.length : Int) := by omega
      have w := w64s (n := n) (by omega)
      have g : (bs s)[n]? = some c := by rw [bs_get]; exact hc
      rw [drop_some hc]
      by_cases h39 : c = 39
      · subst h39
        by_cases hlt2 : n + 1 < s.length
        · obtain ⟨d, hd⟩ : ∃ d, s[n + 1]? = some d := ⟨s[n + 1], List.getElem?_eq_getElem hlt2⟩
          have h2 : (n : Int) + 1 < (s.length : Int) := by omega
          have h2' : ¬ (s.length : Int) ≤ (n : Int) + 1 := by omega
          have w4 : IntKind.wrap .i64 ((n : Int) + 2) = ((n + 2 : Nat) : Int) := by rw [wr64 (by omega) (by omega)]; omega
          have g2 : (bs s)[n + 1]? = some d := by rw [bs_get]; exact hd
          have w2 : IntKind.wrap .i64 ((n : Int) + 1 + 1) = ((n + 2 : Nat) : Int) := by rw [wr64 (by omega) (by omega)]; omega
          have tn : ((n : Int) + 1).toNat = n + 1 := by omega
          have n0 : (0 : Int) ≤ (n : Int) + 1 := by omega
          rw [drop_some hd]
          by_cases d39 : d = 39
          · subst d39
            have e : qGo n (39 :: 39 :: s.drop (n + 1 + 1)) = qGo (n + 2) (s.drop (n + 2)) := by simp [qGo]
            rw [e, ← ih (n + 2) (by omega) (by omega)]
            refine aloopW_step ?_
            rw [acode_k]
            simp [-getElem?_pos, List.getElem?_cons_zero, List.getElem?_cons_succ, a25_l0, st25, hsz, h1, h2, h2', g, g2, w, w2, w4, tn, n0]
          · have e : qGo n (39 :: d :: s.drop (n + 1 + 1)) = n + 1 := by simp [qGo, d39]
            have d39' : ¬ d.toNat = 39 := fun e => d39 (UInt8.toNat_inj.1 e)
            have d39i : ¬ (d.toNat : Int) = 39 := by omega
            rw [e]
            refine aloopW_stop (r := (.ret, { σ := [(2, .v (.int .i64 ((n : Int) + 1)))], own := [], loc := [], S := S })) ?_ (by simp)
            rw [acode_k]
            simp [-getElem?_pos, List.getElem?_cons_zero, List.getElem?_cons_succ, a25_l0, st25, hsz, h1, h2, h2', g, g2, w, w2, w4, tn, n0, d39, d39', d39i]
        · have h2 : ¬ (n : Int) + 1 < (s.length : Int) := by omega
          have h2' : (s.length : Int) ≤ (n : Int) + 1 := by omega
          have e0 : s.drop (n + 1) = [] := List.drop_eq_nil_of_le (by omega)
          have e : qGo n (39 :: s.drop (n + 1)) = n + 1 := by rw [e0]; simp [qGo]
          rw [e]
          refine aloopW_stop (r := (.ret, { σ := [(2, .v (.int .i64 ((n : Int) + 1)))], own := [], loc := [], S := S })) ?_ (by simp)
          rw [acode_k]
          simp [-getElem?_pos, List.getElem?_cons_zero, List.getElem?_cons_succ, a25_l0, st25, hsz, h1, h2, h2', g, w]
      · have e : ∀ x, qGo n (c :: x) = qGo (n + 1) x := fun x => by cases x <;> simp [qGo, h39]
        have c39' : ¬ c.toNat = 39 := fun e => h39 (UInt8.toNat_inj.1 e)
        have c39i : ¬ (c.toNat : Int) = 39 := by omega
        rw [e, ← ih (n + 1) (by omega) (by omega)]
        refine aloopW_step ?_
        rw [acode_k]
        simp [-getElem?_pos, List.getElem?_cons_zero, List.getElem?_cons_succ, a25_l0, st25, hsz, h1, g, w, h39, c39', c39i]
    · have e : s.drop n = [] := List.drop_eq_nil_of_le (by omega)
      have h1 : ¬ (n : Int) < (s.length : Int) := by omega
      rw [e]
      refine aloopW_stop (r := (.exit 0, { σ := [], own := [], loc := [], S := S })) ?_ (by simp)
      rw [acode_k]
      simp [a25_l0, st25, hsz, h1]
theorem c25 (s : List UInt8) (S : List Bx) (hs : s.length ≤ 1000000) : run1 25 [.str (bs s)] S = some (.ret (.int .i64 (quotedL s : Int)) none, S) := by
  refine eqn1 rfl ?_
  have h := loop25 s S hs s.length 1 (by omega) (by omega)
  simp only [st25, Int.natCast_one, Int.ofNat_one, qEnd] at h
  unfold quotedL
  generalize qGo 1 (s.drop 1) = q at *
  by_cases h0 : q = 0
  · subst h0
    simp at h
    simp [a25, h]
  · rw [if_neg h0] at h
    simp [a25, h]
end Go.Av
