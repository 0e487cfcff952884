/- Part of a proof: The definition's Number and Parse. -/
import Derived.Test.YtmfgdgfamfpopaaGreatDoorKvHb
set_option maxRecDepth 100000
set_option linter.unusedSimpArgs false
set_option linter.unusedVariables false
namespace Go.Av
open Go Go.Proofs

def wrapI (n : Int) : Int := IntKind.wrap .i64 n
theorem wrapI_range (n : Int) : -9223372036854775808 ≤ wrapI n ∧ wrapI n ≤ 9223372036854775807 := by
  unfold wrapI
  constructor <;> (simp [IntKind.wrap, IntKind.bits, IntKind.signed]; omega)
def numStep (n : Int) (c : UInt8) : Int := if 48 ≤ c.toNat ∧ c.toNat ≤ 57 then wrapI (wrapI (n * 10) - ((c.toNat : Int) - 48)) else n
def numVal (s : List UInt8) : Int := s.foldl numStep 0
theorem numStep_range {n : Int} (h : -9223372036854775808 ≤ n ∧ n ≤ 9223372036854775807) (c : UInt8) : -9223372036854775808 ≤ numStep n c ∧ numStep n c ≤ 9223372036854775807 := by
  unfold numStep
  split
  · exact wrapI_range _
  · exact h
theorem numVal_range : ∀ (s : List UInt8) (n : Int), (-9223372036854775808 ≤ n ∧ n ≤ 9223372036854775807) → -9223372036854775808 ≤ s.foldl numStep n ∧ s.foldl numStep n ≤ 9223372036854775807
  | [], n, h => h
  | c :: s, n, h => numVal_range s _ (numStep_range h c)
def numberL (s : List UInt8) : Option Int :=
  if s.length = 0 ∨ 20 < s.length then none
  else if itoaL (numVal s) = s then some (numVal s)
  else if numVal s ≠ -9223372036854775808 ∧ itoaL (-numVal s) = s then some (-numVal s)
  else none
def st30 (s : List UInt8) (S : List Bx) (n : Int) (i : Nat) : St := { σ := [(0, .v (.str (bs s))), (4, .v (.int .i64 n)), (5, .v (.int .i64 i))], own := [], loc := [], S := S }
def numE (s : List UInt8) : AV := match numberL s with
  | some n => .tuple [.int .i64 n, .bool true]
  | none => .tuple [.int .i64 0, .bool false]
theorem c30 (s : List UInt8) (S : List Bx) (hs : s.length ≤ 1000000) : run 30 [.str (bs s)] S = some (.ret (numE s) none, S) := by
  refine eqn rfl ?_
  unfold numE numberL
  by_cases h0 : s.length = 0 ∨ 20 < s.length
  · rw [if_pos h0]
    rcases h0 with h0 | h0
    · simp [a30, bs_size, h0]
    · have h0' : ¬ s.length = 0 := by omega
      have h0z : ¬ (s.length : Int) = 0 := by omega
      have h1 : (20 : Int) < (s.length : Int) := by omega
      simp [a30, bs_size, h0, h0', h0z, h1]
  · rw [if_neg h0]
    have h0' : ¬ s.length = 0 := by omega
    have h0z : ¬ (s.length : Int) = 0 := by omega
    have h1' : ¬ 20 < s.length := by omega
    have h1 : ¬ (20 : Int) < (s.length : Int) := by omega
    have h := loop_fold (f := acode run a30_l0) s (fun n i => st30 s S n i) numStep (fun n => (.exit 0, { σ := [(0, .v (.str (bs s))), (4, .v (.int .i64 n))], own := [], loc := [], S := S })) (fun _ _ => True) (b0 := 0) trivial
      (fun i n c _ hx => by
        have hlt := (List.getElem?_eq_some_iff.1 hx).1
        have h2 := ilt hx
        have w := w64s (n := i) (by omega)
        have hc := c.toNat_lt
        refine ⟨?_, trivial⟩
        unfold numStep
        by_cases c1 : 48 ≤ c.toNat
        · by_cases c2 : c.toNat ≤ 57
          · have c1' : (48 : Int) ≤ c.toNat := by omega
            have c2' : (c.toNat : Int) ≤ 57 := by omega
            have e1 : IntKind.wrap .u8 ((c.toNat : Int) - 48) = (c.toNat : Int) - 48 := wr8 (by omega) (by omega)
            have e2 : IntKind.wrap .i64 ((c.toNat : Int) - 48) = (c.toNat : Int) - 48 := wr64 (by omega) (by omega)
            rw [if_pos ⟨c1, c2⟩, acode_k]
            simp [-getElem?_pos, a30_l0, st30, bs_size, bs_get, hx, h2, c1', c2', e1, e2, wrapI, w]
          · have c1' : (48 : Int) ≤ c.toNat := by omega
            have c2' : ¬ (c.toNat : Int) ≤ 57 := by omega
            rw [if_neg (by omega), acode_k]
            simp [-getElem?_pos, a30_l0, st30, bs_size, bs_get, hx, h2, c1', c2', w]
        · have c1' : ¬ (48 : Int) ≤ c.toNat := by omega
          rw [if_neg (by omega), acode_k]
          simp [-getElem?_pos, a30_l0, st30, bs_size, bs_get, hx, h2, c1', w])
      (fun n _ => by
        rw [acode_k]
        simp [a30_l0, st30, bs_size])
      (fun _ => by simp)
    have hr := numVal_range s 0 (by omega)
    change aloopW (acode run a30_l0) (st30 s S 0 0) = some (.exit 0, { σ := [(0, .v (.str (bs s))), (4, .v (.int .i64 (numVal s)))], own := [], loc := [], S := S }) at h
    change -9223372036854775808 ≤ numVal s ∧ numVal s ≤ 9223372036854775807 at hr
    have q1 := c49 (numVal s).natAbs (numVal s) S (Nat.le_refl _) (by omega) (by omega)
    simp only [st30, Int.natCast_zero, Int.ofNat_zero] at h
    by_cases e1 : itoaL (numVal s) = s
    · rw [if_pos e1]
      rw [e1] at q1
      generalize numVal s = n at *
      simp [a30, bs_size, bs_toList, h0', h0z, h1, h1', h, q1]
    · rw [if_neg e1]
      by_cases e2 : numVal s = -9223372036854775808
      · rw [if_neg (fun h => h.1 e2)]
        generalize itoaL (numVal s) = I at *
        rw [e2] at q1 h
        simp [a30, bs_size, bs_toList, h0', h0z, h1, h1', h, q1, e1]
      · have q2 := c49 (-numVal s).natAbs (-numVal s) S (Nat.le_refl _) (by omega) (by omega)
        have w2 : IntKind.wrap .i64 (-numVal s) = -numVal s := wr64 (by omega) (by omega)
        have w3 : IntKind.wrap .i64 (0 - numVal s) = -numVal s := by rw [wr64 (by omega) (by omega)]; omega
        generalize itoaL (numVal s) = I at *
        by_cases e3 : itoaL (-numVal s) = s
        · rw [if_pos ⟨e2, e3⟩]
          rw [e3] at q2
          generalize hm : -numVal s = m at *
          generalize numVal s = n at *
          simp [a30, bs_size, bs_toList, h0', h0z, h1, h1', h, q1, q2, w2, w3, e1, e2, hm]
        · rw [if_neg (fun h => e3 h.2)]
          generalize itoaL (-numVal s) = I2 at *
          generalize hm : -numVal s = m at *
          generalize numVal s = n at *
          simp [a30, bs_size, bs_toList, h0', h0z, h1, h1', h, q1, q2, w2, w3, e1, e2, e3, hm]
/-- Number of digits. -/
theorem numVal_dec : ∀ (l : List UInt8) (a : Nat), (∀ c ∈ l, isDig c) → l.foldl (fun a c => a * 10 + (c.toNat - 48)) a < 9223372036854775808 → l.foldl numStep (-(a : Int)) = -((l.foldl (fun a c => a * 10 + (c.toNat - 48)) a : Nat) : Int)
  | [], a, _, _ => rfl
  | c :: l, a, hd, hv => by
    have hc := hd c (.head _)
    unfold isDig at hc
    have grow : ∀ (l : List UInt8) (a : Nat), a ≤ l.foldl (fun a c => a * 10 + (c.toNat - 48)) a := by
      intro l
      induction l with
      | nil => intro a; exact Nat.le_refl _
      | cons c l ih => intro a; rw [List.foldl_cons]; exact Nat.le_trans (by omega) (ih _)
    rw [List.foldl_cons] at hv
    rw [List.foldl_cons, List.foldl_cons]
    have := grow l (a * 10 + (c.toNat - 48))
    have e : numStep (-(a : Int)) c = -((a * 10 + (c.toNat - 48) : Nat) : Int) := by
      unfold numStep wrapI
      have w1 : IntKind.wrap .i64 (-(a : Int) * 10) = -(a : Int) * 10 := wr64 (by omega) (by omega)
      rw [if_pos hc, w1, wr64 (by omega) (by omega)]
      omega
    rw [e]
    exact numVal_dec l _ (fun c hc => hd c (.tail _ hc)) hv
theorem numberL_wr {n : Int} (h0 : 0 ≤ n) (h1 : n ≤ 9223372036854775807) : numberL (itoaL n) = some n := by
  obtain ⟨hne, hd⟩ := decDigits_dig n.toNat
  have hv := decVal_dec n.toNat
  have hl := decDigits_len 19 n.toNat (by omega)
  have hnv : numVal (itoaL n) = -n := by
    rw [itoaL_nat h0]
    have := numVal_dec (Lib.decDigits n.toNat) 0 hd (by unfold decVal at hv; rw [hv]; omega)
    unfold decVal at hv
    rw [hv] at this
    unfold numVal
    simp at this
    rw [this]; omega
  have hlen : (itoaL n).length ≠ 0 ∧ (itoaL n).length ≤ 20 := by
    rw [itoaL_nat h0]
    exact ⟨by simpa using hne, hl⟩
  unfold numberL
  rw [if_neg (by omega), hnv]
  by_cases hz : n = 0
  · subst hz; simp
  · rw [if_neg (fun e => by have := itoaL_inj e; omega), if_pos ⟨by omega, by rw [Int.neg_neg]⟩]
    simp
theorem numberL_ok {s : List UInt8} {n : Int} (h : numberL s = some n) : itoaL n = s := by
  unfold numberL at h
  split at h
  · cases h
  · split at h
    · rename_i e
      obtain rfl := Option.some.inj h
      exact e
    · split at h
      · rename_i e
        obtain rfl := Option.some.inj h
        exact e.2
      · cases h

end Go.Av
