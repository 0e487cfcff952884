/- Part of a proof: Names and words: lexicon, token, and the definition. -/
import Derived.Test.YtmfgdgfamfpopaaGreatDoorKvGk
set_option maxRecDepth 100000
set_option linter.unusedSimpArgs false
set_option linter.unusedVariables false
namespace Go.Av
open Go Go.Proofs Go.RowKit

theorem c27 (c : UInt8) (S : List Bx) : run1 27 [.int .u8 (c.toNat : Int)] S = some (.ret (.bool (inNm c)) none, S) := by
  refine eqn1 rfl ?_
  have h := c.toNat_lt
  unfold inNm lowB digB
  generalize c.toNat = n at *
  by_cases h1 : 97 ≤ n <;> by_cases h2 : n ≤ 122 <;> by_cases h3 : 48 ≤ n <;> by_cases h4 : n ≤ 57 <;> by_cases h5 : n = 95 <;> first | (exfalso; omega; done) |
    (have h1' : (97 ≤ (n : Int)) ↔ (97 ≤ n) := by omega
     have h2' : ((n : Int) ≤ 122) ↔ (n ≤ 122) := by omega
     have h3' : (48 ≤ (n : Int)) ↔ (48 ≤ n) := by omega
     have h4' : ((n : Int) ≤ 57) ↔ (n ≤ 57) := by omega
     have h5' : ((n : Int) = 95) ↔ (n = 95) := by omega
     simp [a27, h1', h2', h3', h4', h5', h1, h2, h3, h4, h5])
theorem c18 (S : List Bx) : run1 18 [] S = some (.ret (.slice 1 (strsL wordsL)) (some 9), S) := by
  refine eqn1 rfl ?_
  simp [a18]
  rfl
theorem c17 : run1 17 [] [] = some (.ret (.slice 1 (strsL wordsL)) none, []) := recL_run (n := 60) (by kernel_rfl)
theorem c9 : run1 9 [] [] = some (.ret (.slice 1 (strsL wordsL)) none, []) := by
  refine eqn1 rfl ?_
  have q := c17
  generalize strsL wordsL = X at *
  simp [a9, q]
theorem c10 (S : List Bx) : run1 10 [] S = some (.ret (.slice 1 (strsL wordsL)) (some 9), S) := by
  refine eqn1 rfl ?_
  have q := c18 S
  generalize strsL wordsL = X at *
  simp [a10, q]
/-! ### the definition's IsWord -/
def stW (s : List UInt8) (S : List Bx) (i : Nat) : St := { σ := [(0, .v (.str (bs s))), (3, .v (.slice 1 (strsL wordsL))), (4, .v (.int .i64 (i : Int)))], own := [(3, 9)], loc := [], S := S }
theorem c22 (s : List UInt8) (S : List Bx) : run1 22 [.str (bs s)] S = some (.ret (.bool (decide (s ∈ wordsL))) none, S) := by
  refine eqn1 rfl ?_
  have hlen : (strsL wordsL).length = wordsL.length := by simp [strsL]
  have hwl : wordsL.length ≤ 1000 := by decide
  have h := loop_all (f := acode run1 a22_l0) wordsL (fun w => decide (w ≠ s)) (stW s S) (bad := (.ret, { σ := [(2, .v (.bool true))], own := [], loc := [], S := S })) (good := (.exit 0, { σ := [], own := [], loc := [], S := S })) (by simp) (by simp)
    (fun i w hx => by
      have h1 := ilt hx
      have hlt := (List.getElem?_eq_some_iff.1 hx).1
      have w1 := w64s (n := i) (by omega)
      have g : (strsL wordsL)[i]? = some (.str (bs w)) := by unfold strsL; rw [List.getElem?_map, hx]; rfl
      rw [acode_k]
      generalize hX : strsL wordsL = X at *
      by_cases e : w = s
      · subst e
        simp [-getElem?_pos, List.getElem?_cons_zero, List.getElem?_cons_succ, a22_l0, stW, h1, hlen, w1, g, hX]
      · have e' : ¬ (bs w).toList = (bs s).toList := by rw [bs_toList, bs_toList]; exact e
        simp [-getElem?_pos, List.getElem?_cons_zero, List.getElem?_cons_succ, a22_l0, stW, h1, hlen, w1, g, e, e', hX])
    (by
      rw [acode_k]
      simp [a22_l0, stW, hlen])
  have q := c18 S
  have e0 : (wordsL.all fun w => decide (w ≠ s)) = !decide (s ∈ wordsL) := by
    rw [Bool.eq_iff_iff]
    simp only [List.all_eq_true, decide_eq_true_eq, Bool.not_eq_true', decide_eq_false_iff_not]
    exact ⟨fun h hm => h s hm rfl, fun h w hw e => h (e ▸ hw)⟩
  rw [e0] at h
  simp only [stW, Int.natCast_zero, Int.ofNat_zero] at h
  generalize strsL wordsL = X at *
  by_cases hm : s ∈ wordsL
  · simp only [hm, decide_true, Bool.not_true, Bool.false_eq_true, if_false] at h ⊢
    simp [a22, q, h]
  · simp only [hm, decide_false, Bool.not_false, if_true] at h ⊢
    simp [a22, q, h]

/-! ### Formed -/
def stF (s : List UInt8) (S : List Bx) (i : Nat) : St := { σ := [(0, .v (.str (bs s))), (3, .v (.int .i64 (i : Int)))], own := [], loc := [], S := S }
theorem loop29 (s : List UInt8) (S : List Bx) (hs : s.length ≤ 1000000) :
    aloopW (acode run1 a29_l0) (stF s S 0) = (if s.all inNm then some (.exit 0, { σ := [], own := [], loc := [], S := S }) else some (.ret, { σ := [(2, .v (.bool false))], own := [], loc := [], S := S })) := by
  have hsz : (bs s).size = s.length := bs_size s
  refine loop_all (f := acode run1 a29_l0) s inNm (stF s S) (bad := (.ret, { σ := [(2, .v (.bool false))], own := [], loc := [], S := S })) (good := (.exit 0, { σ := [], own := [], loc := [], S := S })) (by simp) (by simp)
    (fun i c hx => by
      have h1 := ilt hx
      have hlt := (List.getElem?_eq_some_iff.1 hx).1
      have w := w64s (n := i) (by omega)
      have q := c27 c S
      have g : (bs s)[i]? = some c := by rw [bs_get]; exact hx
      rw [acode_k]
      cases hb : inNm c
      · rw [hb] at q
        simp [-getElem?_pos, List.getElem?_cons_zero, List.getElem?_cons_succ, a29_l0, stF, hsz, g, h1, w, q]
      · rw [hb] at q
        simp [-getElem?_pos, List.getElem?_cons_zero, List.getElem?_cons_succ, a29_l0, stF, hsz, g, h1, w, q])
    (by
      rw [acode_k]
      simp [a29_l0, stF, hsz])
theorem c29 (s : List UInt8) (S : List Bx) (hs : s.length ≤ 1000000) : run1 29 [.str (bs s)] S = some (.ret (.bool (formedL s)) none, S) := by
  refine eqn1 rfl ?_
  have h := loop29 s S hs
  cases s with
  | nil =>
    have hz : (bs []).size = 0 := bs_size []
    simp [a29, hz, formedL]
  | cons c r =>
    have hc := c.toNat_lt
    have g0 : (bs (c :: r))[0]? = some c := by rw [bs_get]; rfl
    unfold formedL lowB
    simp only [stF, Int.natCast_zero, Int.ofNat_zero] at h
    have hz : (bs (c :: r)).size = (c :: r).length := bs_size _
    have l1 : ¬ ((c :: r).length : Int) < 1 := by simp only [List.length_cons]; omega
    have l2 : (c :: r).length ≠ 0 := by simp
    by_cases hl : (c :: r).length ≤ 20
    · have hl' : ¬ (20 : Int) < ((c :: r).length : Int) := by omega
      generalize (c :: r).length = n at *
      generalize (c :: r).all inNm = b at *
      generalize bs (c :: r) = B at *
      by_cases h1 : 97 ≤ c.toNat
      · by_cases h2 : c.toNat ≤ 122
        · have h1' : ¬ (c.toNat : Int) < 97 := by omega
          have h2' : ¬ (122 : Int) < (c.toNat : Int) := by omega
          cases b
          · simp [-getElem?_pos, a29, hz, hl, hl', l1, l2, g0, h1, h2, h1', h2', h]
          · simp [-getElem?_pos, a29, hz, hl, hl', l1, l2, g0, h1, h2, h1', h2', h]
        · have h1' : ¬ (c.toNat : Int) < 97 := by omega
          have h2' : (122 : Int) < (c.toNat : Int) := by omega
          simp [-getElem?_pos, a29, hz, hl, hl', l1, l2, g0, h1, h2, h1', h2']
      · have h1' : (c.toNat : Int) < 97 := by omega
        simp [-getElem?_pos, a29, hz, hl, hl', l1, l2, g0, h1, h1']
    · have hl' : (20 : Int) < ((c :: r).length : Int) := by omega
      generalize (c :: r).length = n at *
      generalize (c :: r).all inNm = b at *
      generalize bs (c :: r) = B at *
      simp [a29, hz, hl, hl', l1, l2]
def nameL (s : List UInt8) : Bool := formedL s && !decide (s ∈ wordsL)
theorem c14 (s : List UInt8) (S : List Bx) : run1 14 [.str (bs s)] S = some (.ret (.bool (decide (s ∈ wordsL))) none, S) := by
  refine eqn1 rfl ?_
  have q := c22 s S
  simp [a14, q]
theorem c21 (s : List UInt8) (S : List Bx) (hs : s.length ≤ 1000000) : run1 21 [.str (bs s)] S = some (.ret (.bool (nameL s)) none, S) := by
  refine eqn1 rfl ?_
  have q := c29 s S hs
  have q2 := c22 s S
  unfold nameL
  generalize formedL s = b at *
  generalize decide (s ∈ wordsL) = w at *
  cases b <;> simp [a21, q, q2]
theorem c13 (s : List UInt8) (S : List Bx) (hs : s.length ≤ 1000000) : run1 13 [.str (bs s)] S = some (.ret (.bool (nameL s)) none, S) := by
  refine eqn1 rfl ?_
  have q := c21 s S hs
  simp [a13, q]
theorem leave_b (wb : Bx) (b : Bool) : aleave 0 [] [wb] (.ret (.bool b) none) = some (.ret (.bool b) none, []) := by
  unfold aleave
  rw [if_neg (by simp), if_pos ⟨fun i x h => absurd h (by simp), rfl⟩]
  rfl
theorem c11 (s : List UInt8) : run1 11 [.str (bs s)] [] = some (.ret (.bool (decide (s ∈ wordsL))) none, []) := by
  refine eqn1 rfl ?_
  have q := lift c19
  have qm := mget_words s wordsL
  change mget none wordsBox.cells _ = _ at qm
  have hm : wordsBox.map = true := rfl
  generalize wordsBox = wb at *
  by_cases hw : s ∈ wordsL
  · rw [if_pos hw] at qm
    simp [a11, q, qm, hm, isKeyA, lookRes, hw, leave_b]
  · rw [if_neg hw] at qm
    simp [a11, q, qm, hm, isKeyA, lookRes, hw, leave_b]
theorem c20 (s : List UInt8) (hs : s.length ≤ 1000000) : run1 20 [.str (bs s)] [] = some (.ret (.bool (nameL s)) none, []) := by
  refine eqn1 rfl ?_
  have q := lift c19
  have q2 := lift (c33 s [] hs)
  have qm := mget_words s wordsL
  change mget none wordsBox.cells _ = _ at qm
  have hm : wordsBox.map = true := rfl
  unfold nameL
  generalize wordsBox = wb at *
  generalize formedL s = f at *
  cases f
  · simp [a20, q2]
  · by_cases hw : s ∈ wordsL
    · rw [if_pos hw] at qm
      simp [a20, q, q2, qm, hm, isKeyA, lookRes, hw, leave_b]
    · rw [if_neg hw] at qm
      simp [a20, q, q2, qm, hm, isKeyA, lookRes, hw, leave_b]
theorem c12 (s : List UInt8) (hs : s.length ≤ 1000000) : run1 12 [.str (bs s)] [] = some (.ret (.bool (nameL s)) none, []) := by
  refine eqn1 rfl ?_
  have q := c20 s hs
  simp [a12, q]
/-! ### the law -/
theorem words_not_names : ∀ w ∈ wordsL, nameL w = false ∧ w.length ≤ 100 := by
  intro w hw
  have h2 : ∀ w ∈ wordsL, w.length ≤ 100 := by decide
  exact ⟨by simp [nameL, hw], h2 w hw⟩
def stV (s : List UInt8) (i : Nat) : St := { σ := [(3, .v (.str (bs s))), (4, .v (.slice 1 (strsL wordsL))), (5, .v (.slice 1 (strsL wordsL))), (6, .v (.int .i64 (i : Int)))], own := [(5, 9)], loc := [], S := [] }
theorem loop4 (s : List UInt8) :
    aloopW (acode run1 a4_l0) (stV s 0) = some (.exit 0, { σ := [(3, .v (.str (bs s))), (4, .v (.slice 1 (strsL wordsL))), (5, .v (.slice 1 (strsL wordsL)))], own := [(5, 9)], loc := [], S := [] }) := by
  have hlen : (strsL wordsL).length = wordsL.length := by simp [strsL]
  have hwl : wordsL.length ≤ 1000 := by decide
  have h := loop_all (f := acode run1 a4_l0) wordsL (fun _ => true) (stV s) (bad := (.ret, default)) (good := (.exit 0, { σ := [(3, .v (.str (bs s))), (4, .v (.slice 1 (strsL wordsL))), (5, .v (.slice 1 (strsL wordsL)))], own := [(5, 9)], loc := [], S := [] })) (by simp) (by simp)
    (fun i w hx => by
      have h1 := ilt hx
      have hlt := (List.getElem?_eq_some_iff.1 hx).1
      have hm := List.mem_of_getElem? hx
      obtain ⟨n1, n2⟩ := words_not_names w hm
      have w1 := w64s (n := i) (by omega)
      have g : (strsL wordsL)[i]? = some (.str (bs w)) := by unfold strsL; rw [List.getElem?_map, hx]; rfl
      have q1 := c11 w
      have q2 := c12 w (by omega)
      rw [n1] at q2
      simp only [hm, decide_true] at q1
      simp only [if_true]
      rw [acode_k]
      generalize hX : strsL wordsL = X at *
      generalize bs w = BW at *
      simp [-getElem?_pos, List.getElem?_cons_zero, List.getElem?_cons_succ, a4_l0, stV, h1, hlen, w1, g, hX, q1, q2])
    (by
      rw [acode_k]
      simp [a4_l0, stV, hlen])
  simpa using h
theorem c4 (s0 : List UInt8) (h0 : s0.length ≤ 9223372036854775807) : run1 4 [.str (bs s0)] [] = some (.ret (.bool true) none, []) := by
  refine eqn1 rfl ?_
  have hz : (bs s0).size = s0.length := bs_size s0
  obtain ⟨N, hN, hN2⟩ : ∃ N : Nat, min (s0.length : Int) 100 = (N : Int) ∧ N ≤ s0.length ∧ N ≤ 100 := ⟨min s0.length 100, by omega, by omega, by omega⟩
  have ex : (bs s0).extract 0 N = bs (s0.take N) := by rw [bs_extract, List.drop_zero]
  have hs : (s0.take N).length ≤ 100 := by rw [List.length_take]; omega
  have i1 : (N : Int) ≤ (s0.length : Int) := by omega
  have h := loop4 (s0.take N)
  have q1 := c9
  have q2 := c10 []
  have q3 := c12 (s0.take N) (by omega)
  have q4 := c13 (s0.take N) [] (by omega)
  have q5 := c11 (s0.take N)
  have q6 := c14 (s0.take N) []
  have aw := awake1
  simp only [stV, Int.natCast_zero, Int.ofNat_zero] at h
  generalize nameL (s0.take N) = nm at *
  generalize decide (s0.take N ∈ wordsL) = wd at *
  generalize bs (s0.take N) = B at *
  generalize bs s0 = B0 at *
  generalize strsL wordsL = X at *
  simp [-getElem?_pos, List.getElem?_cons_zero, List.getElem?_cons_succ, a4, hz, hN, ex, i1, q1, q2, q3, q4, q5, q6, aw, h]
theorem run_law1 {W : World} (hL : LaidV W) (f : Nat) : SoundFun Tryz.prog W f (run1 f) := recSound_iff.1 (recL_sound (run_sound1 hL)) f
end Go.Av
