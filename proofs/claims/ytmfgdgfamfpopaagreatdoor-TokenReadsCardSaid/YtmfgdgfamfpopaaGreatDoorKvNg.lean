/- Part of a proof: The definition's one. -/
import Derived.Test.YtmfgdgfamfpopaaGreatDoorKvNf
set_option maxRecDepth 100000
set_option linter.unusedSimpArgs false
set_option linter.unusedVariables false
namespace Go.Av
open Go Go.Proofs Go.RowKit
theorem one16B0 (r : List UInt8) (S : List Bx) (hs : r.length ≤ 80000) (hq : quotedL (39 :: r) = 0) :
    run1 16 [.str (bs (39 :: r))] S = some (.ret (.tuple [emptyTok, .int .i64 0]) none, S) := by
  refine eqn1 rfl ?_
  have q := c25 (39 :: r) S (by simp; omega)
  rw [hq] at q
  have q2 := c26N S
  have g : (bs (39 :: r))[0]? = some 39 := by rw [bs_get]; rfl
  have z : bs [] = ByteArray.empty := rfl
  rw [z] at q2
  generalize bs (39 :: r) = B at *
  unfold emptyTok
  simp (maxSteps := 1000000) [-getElem?_pos, List.getElem?_cons_zero, List.getElem?_cons_succ, a16, q, q2, g]
theorem one16B1 (s mid : List UInt8) (S : List Bx) (hs : s.length ≤ 80000) (h0 : s[0]? = some 39) (hq : quotedL s = mid.length + 2) (hm : paired mid = true)
    (ht : s.take (mid.length + 2) = 39 :: (mid ++ [39])) :
    run1 16 [.str (bs s)] S = some (.ret (if okText mid then .tuple [tokAV 4 (39 :: (mid ++ [39])), .int .i64 ((mid.length + 2 : Nat) : Int)] else .tuple [emptyTok, .int .i64 0]) none, S) := by
  refine eqn1 rfl ?_
  have hl : mid.length + 2 ≤ s.length := by
    have := congrArg List.length ht
    simp only [List.length_take, List.length_cons, List.length_append, List.length_nil] at this
    omega
  have hz : (bs s).size = s.length := bs_size s
  have q := c25 s S (by omega)
  rw [hq] at q
  obtain ⟨t, q2⟩ := c26Q mid S (by omega) hm
  have g : (bs s)[0]? = some 39 := by rw [bs_get]; exact h0
  have ex : (bs s).extract 0 (mid.length + 2) = bs (39 :: (mid ++ [39])) := by rw [bs_extract, ht]; rfl
  unfold textAV at q2
  unfold emptyTok tokAV
  generalize bs (39 :: (mid ++ [39])) = T at *
  generalize bs s = B at *
  generalize bs t = U at *
  have i1 : ((mid.length + 2 : Nat) : Int) ≤ (s.length : Int) := by omega
  have i2 : ¬ ((mid.length + 2 : Nat) : Int) = 0 := by omega
  generalize hN : mid.length + 2 = N at *
  have i3 : N ≠ 0 := by omega
  cases hok : okText mid <;> rw [hok] at q2 <;> simp only [Bool.false_eq_true, if_false, if_true] at q2 ⊢
  · simp (maxSteps := 1000000) [-getElem?_pos, List.getElem?_cons_zero, List.getElem?_cons_succ, a16, q, q2, g, ex, i1, i2, i3, hz]
  · simp (maxSteps := 1000000) [-getElem?_pos, List.getElem?_cons_zero, List.getElem?_cons_succ, a16, q, q2, g, ex, i1, i2, i3, hz]
theorem one16C (s : List UInt8) (S : List Bx) (hs : s.length ≤ 80000) (c0 : UInt8) (h0 : s[0]? = some c0) (hc : c0 ≠ 39) (b : List UInt8) (hb : (s.takeWhile nmB).map smallB = b) :
    run1 16 [.str (bs s)] S = some (.ret (match (if b = [] then (signsL.find? fun x => x.isPrefixOf s).map fun x => ((5 : Int), x) else if b ∈ wordsL then some (1, b) else if formedL b then some (2, b) else if numR b then some (3, b) else none) with
      | some (k, t) => .tuple [tokAV k t, .int .i64 (t.length : Int)]
      | none => .tuple [emptyTok, .int .i64 0]) none, S) := by
  refine eqn1 rfl ?_
  have hl := loop016 s S (by omega) s.length 0 (by omega) (by omega)
  rw [List.take_zero, List.drop_zero, Nat.zero_add, take_while, hb] at hl
  have g : (bs s)[0]? = some c0 := by rw [bs_get]; exact h0
  have c39 : ¬ c0.toNat = 39 := fun e => hc (UInt8.toNat_inj.1 e)
  have c39i : ¬ (c0.toNat : Int) = 39 := by omega
  have hbl : b.length ≤ s.length := by
    rw [← hb, List.length_map]; exact (List.takeWhile_sublist _).length_le
  have ba := bytesA_L b
  have e0 : bytesL [] = [] := rfl
  have eb : (⟨b.toArray⟩ : ByteArray) = bs b := rfl
  simp only [stB, zTok, List.map_nil, e0] at hl
  by_cases hbe : b = []
  · subst hbe
    rw [if_pos rfl]
    have l1 := loop116 s S (by omega)
    have qs := c31 S
    simp only [stG, zTok, Int.natCast_zero, Int.ofNat_zero] at l1
    have z : bs [] = (⟨#[]⟩ : ByteArray) := rfl
    have z2 : (⟨#[]⟩ : ByteArray).toList = [] := bs_toList []
    rw [e0] at hl ba
    generalize strsL signsL = X at *
    cases hf : signsL.find? fun x => x.isPrefixOf s with
    | none =>
      rw [hf] at l1
      simp only [Option.elim_none, Option.map_none] at l1 ⊢
      unfold emptyTok
      generalize bs s = B at *
      simp (maxSteps := 1000000) [-getElem?_pos, List.getElem?_cons_zero, List.getElem?_cons_succ, a16, hl, g, hc, c39, c39i, ba, l1, qs, z2]
    | some x =>
      rw [hf] at l1
      simp only [Option.elim_some, Option.map_some] at l1 ⊢
      unfold tokAV
      generalize bs s = B at *
      simp (maxSteps := 1000000) [-getElem?_pos, List.getElem?_cons_zero, List.getElem?_cons_succ, a16, hl, g, hc, c39, c39i, ba, l1, qs, z2]
  · rw [if_neg hbe]
    have bz : (bs b).size = b.length := bs_size b
    have bt : (bs b).toList = b := bs_toList b
    have qw := c14 b S
    have qf := c29 b S (by omega)
    have qn := lift (c30 b S (by omega))
    unfold numE at qn
    unfold tokAV emptyTok
    generalize hBL : bytesL b = BL at *
    generalize hBB : bs b = BB at *
    generalize bs s = B at *
    by_cases hw : b ∈ wordsL
    · simp only [hw, decide_true, if_true] at qw ⊢
      simp (maxSteps := 1000000) [-getElem?_pos, List.getElem?_cons_zero, List.getElem?_cons_succ, a16, hl, g, hc, c39, c39i, ba, eb, hBB, bz, bt, hbe, qw]
    · simp only [hw, decide_false, if_false] at qw ⊢
      cases hf : formedL b
      · rw [hf] at qf
        simp only [Bool.false_eq_true, if_false]
        unfold numR
        cases hn : numberL b with
        | none =>
          rw [hn] at qn
          simp (maxSteps := 1000000) [-getElem?_pos, List.getElem?_cons_zero, List.getElem?_cons_succ, a16, hl, g, hc, c39, c39i, ba, eb, hBB, bz, bt, hbe, qw, qf, qn]
        | some v =>
          rw [hn] at qn
          by_cases hv : 0 ≤ v
          · have hv' : ¬ v < 0 := by omega
            simp (maxSteps := 1000000) [-getElem?_pos, List.getElem?_cons_zero, List.getElem?_cons_succ, a16, hl, g, hc, c39, c39i, ba, eb, hBB, bz, bt, hbe, qw, qf, qn, hv, hv']
          · have hv' : v < 0 := by omega
            simp (maxSteps := 1000000) [-getElem?_pos, List.getElem?_cons_zero, List.getElem?_cons_succ, a16, hl, g, hc, c39, c39i, ba, eb, hBB, bz, bt, hbe, qw, qf, qn, hv, hv']
      · rw [hf] at qf
        simp only [if_true]
        simp (maxSteps := 1000000) [-getElem?_pos, List.getElem?_cons_zero, List.getElem?_cons_succ, a16, hl, g, hc, c39, c39i, ba, eb, hBB, bz, bt, hbe, qw, qf]
end Go.Av
