/- Part of a proof: Bytes of tokens: lexicon.InName, Shaped, token.small, isDigit, quoted. -/
import Derived.Test.YtmfgdgfamfpopaaGreatDoorKvJb
import Derived.Test.YtmfgdgfamfpopaaGreatDoorKvCe
set_option maxRecDepth 100000
set_option linter.unusedSimpArgs false
set_option linter.unusedVariables false
namespace Go.Av
open Go Go.Proofs

theorem c37 (c : UInt8) (S : List Bx) : run 37 [.int .u8 (c.toNat : Int)] S = some (.ret (.bool (inNm c)) none, S) := by
  refine eqn rfl ?_
  have h := c.toNat_lt
  unfold inNm lowB digB
  generalize c.toNat = n at *
  by_cases h1 : 97 ≤ n <;> by_cases h2 : n ≤ 122 <;> by_cases h3 : 48 ≤ n <;> by_cases h4 : n ≤ 57 <;> by_cases h5 : n = 95 <;> first | (exfalso; omega; done) |
    (have h1' : (97 ≤ (n : Int)) ↔ (97 ≤ n) := by omega
     have h2' : ((n : Int) ≤ 122) ↔ (n ≤ 122) := by omega
     have h3' : (48 ≤ (n : Int)) ↔ (48 ≤ n) := by omega
     have h4' : ((n : Int) ≤ 57) ↔ (n ≤ 57) := by omega
     have h5' : ((n : Int) = 95) ↔ (n = 95) := by omega
     simp [a37, h1', h2', h3', h4', h5', h1, h2, h3, h4, h5])

theorem wr8' {x : Int} (h0 : 0 ≤ x) (h1 : x ≤ 255) : IntKind.wrap .u8 x = x := by
  simp [IntKind.wrap, IntKind.bits, IntKind.signed]
  omega
theorem smallB_int (c : UInt8) : ((smallB c).toNat : Int) = if 65 ≤ c.toNat ∧ c.toNat ≤ 90 then (c.toNat : Int) + 32 else (c.toNat : Int) := by
  rw [smallB_nat]
  unfold upB
  simp only [Bool.and_eq_true, decide_eq_true_eq]
  split <;> simp
theorem c38 (c : UInt8) (S : List Bx) : run 38 [.int .u8 (c.toNat : Int)] S = some (.ret (.int .u8 ((smallB c).toNat : Int)) none, S) := by
  refine eqn rfl ?_
  have h := c.toNat_lt
  rw [smallB_int]
  generalize c.toNat = n at *
  by_cases h1 : 65 ≤ n
  · by_cases h2 : n ≤ 90
    · have h1' : (65 : Int) ≤ (n : Int) := by omega
      have h2' : (n : Int) ≤ 90 := by omega
      have e1 : IntKind.wrap .u8 ((n : Int) + 97) = (n : Int) + 97 := wr8' (by omega) (by omega)
      have e2 : IntKind.wrap .u8 ((n : Int) + 97 - 65) = (n : Int) + 32 := by rw [wr8' (by omega) (by omega)]; omega
      simp [a38, h1, h2, h1', h2', e1, e2]
    · have h1' : (65 : Int) ≤ (n : Int) := by omega
      have h2' : ¬ (n : Int) ≤ 90 := by omega
      simp [a38, h1, h2, h1', h2']
  · have h1' : ¬ (65 : Int) ≤ (n : Int) := by omega
    simp [a38, h1, h1']
theorem c41 (c : UInt8) (S : List Bx) : run 41 [.int .u8 (c.toNat : Int)] S = some (.ret (.bool (digB c)) none, S) := by
  refine eqn rfl ?_
  have h := c.toNat_lt
  unfold digB
  generalize c.toNat = n at *
  by_cases h3 : 48 ≤ n <;> by_cases h4 : n ≤ 57 <;> first | (exfalso; omega; done) |
    (have h3' : (48 ≤ (n : Int)) ↔ (48 ≤ n) := by omega
     have h4' : ((n : Int) ≤ 57) ↔ (n ≤ 57) := by omega
     simp [a41, h3', h4', h3, h4])

/-! ### Shaped -/
def st33 (s : List UInt8) (S : List Bx) (i : Nat) : St := { σ := [(0, .v (.str (bs s))), (22, .v (.int .i64 (s.length : Int))), (23, .v (.int .i64 (i : Int)))], own := [], loc := [], S := S }
theorem loop33 (s : List UInt8) (S : List Bx) (hs : s.length ≤ 1000000) :
    aloopW (acode run a33_l0) (st33 s S 0) = (if s.all inNm then some (.exit 0, { σ := [], own := [], loc := [], S := S }) else some (.ret, { σ := [(2, .v (.bool false))], own := [], loc := [], S := S })) := by
  have h := loop_all (f := acode run a33_l0) s inNm (st33 s S) (bad := (.ret, { σ := [(2, .v (.bool false))], own := [], loc := [], S := S })) (good := (.exit 0, { σ := [], own := [], loc := [], S := S })) (by simp) (by simp)
    (fun i c hx => by
      have h1 := ilt hx
      have hlt := (List.getElem?_eq_some_iff.1 hx).1
      have w := w64s (n := i) (by omega)
      have q := c37 c S
      rw [acode_k]
      cases hb : inNm c
      · rw [hb] at q
        simp [-getElem?_pos, List.getElem?_cons_zero, List.getElem?_cons_succ, a33_l0, st33, bs_get, hx, h1, w, q]
      · rw [hb] at q
        simp [-getElem?_pos, List.getElem?_cons_zero, List.getElem?_cons_succ, a33_l0, st33, bs_get, hx, h1, w, q])
    (by
      rw [acode_k]
      simp [a33_l0, st33])
  exact h
theorem c33 (s : List UInt8) (S : List Bx) (hs : s.length ≤ 1000000) : run 33 [.str (bs s)] S = some (.ret (.bool (formedL s)) none, S) := by
  refine eqn rfl ?_
  have h := loop33 s S hs
  cases s with
  | nil =>
    have e : bs [] = ⟨#[]⟩ := rfl
    simp [a33, e, formedL]
  | cons c r =>
    have hc := c.toNat_lt
    have hne : ¬ bs (c :: r) = ⟨#[]⟩ := fun e => by simp [bs] at e
    have g0 : (bs (c :: r))[0]? = some c := by rw [bs_get]; rfl
    unfold formedL lowB
    simp only [st33, Int.natCast_zero, Int.ofNat_zero] at h
    have hne2 : ¬ (bs (c :: r)).toList = [] := by rw [bs_toList]; simp
    by_cases hl : (c :: r).length ≤ 20
    · have hl' : ¬ (20 : Int) < ((c :: r).length : Int) := by omega
      have hz : (bs (c :: r)).size = (c :: r).length := bs_size _
      generalize (c :: r).length = n at *
      generalize (c :: r).all inNm = b at *
      generalize bs (c :: r) = B at *
      by_cases h1 : 97 ≤ c.toNat
      · by_cases h2 : c.toNat ≤ 122
        · have h1' : ¬ (c.toNat : Int) < 97 := by omega
          have h2' : ¬ (122 : Int) < (c.toNat : Int) := by omega
          cases b
          · simp [-getElem?_pos, a33, hne, hne2, hz, hl, hl', g0, h1, h2, h1', h2', h]
          · simp [-getElem?_pos, a33, hne, hne2, hz, hl, hl', g0, h1, h2, h1', h2', h]
        · have h1' : ¬ (c.toNat : Int) < 97 := by omega
          have h2' : (122 : Int) < (c.toNat : Int) := by omega
          simp [-getElem?_pos, a33, hne, hne2, hz, hl, hl', g0, h1, h2, h1', h2']
      · have h1' : (c.toNat : Int) < 97 := by omega
        simp [-getElem?_pos, a33, hne, hne2, hz, hl, hl', g0, h1, h1']
    · have hl' : (20 : Int) < ((c :: r).length : Int) := by omega
      have hz : (bs (c :: r)).size = (c :: r).length := bs_size _
      generalize (c :: r).length = n at *
      generalize (c :: r).all inNm = b at *
      generalize bs (c :: r) = B at *
      simp [a33, hne, hne2, hz, hl, hl']

/-! ### quoted -/
def st35 (s : List UInt8) (S : List Bx) (n : Nat) : St := { σ := [(0, .v (.str (bs s))), (3, .v (.int .i64 (n : Int)))], own := [], loc := [], S := S }
def qEnd (S : List Bx) (q : Nat) : Option (AEx × St) := if q = 0 then some (.exit 0, { σ := [], own := [], loc := [], S := S }) else some (.ret, { σ := [(2, .v (.int .i64 (q : Int)))], own := [], loc := [], S := S })
theorem drop_some {s : List UInt8} {n : Nat} {c : UInt8} (h : s[n]? = some c) : s.drop n = c :: s.drop (n + 1) := by
  obtain ⟨hlt, e⟩ := List.getElem?_eq_some_iff.1 h
  rw [List.drop_eq_getElem_cons hlt, e]
theorem loop35 (s : List UInt8) (S : List Bx) (hs : s.length ≤ 1000000) : ∀ (k n : Nat), s.length ≤ n + k → n ≤ 1000001 → aloopW (acode run a35_l0) (st35 s S n) = qEnd S (qGo n (s.drop n)) := by
  have hsz : (bs s).size = s.length := bs_size s
  intro k
  induction k with
  | zero =>
    intro n h hn
    have e : s.drop n = [] := List.drop_eq_nil_of_le (by omega)
    have h1 : ¬ (n : Int) < (s.length : Int) := by omega
    rw [e]
    refine aloopW_stop (r := (.exit 0, { σ := [], own := [], loc := [], S := S })) ?_ (by simp)
    rw [acode_k]
    simp [a35_l0, st35, hsz, h1]
  | succ k ih =>
    intro n h hn
    by_cases hlt : n < s.length
    · obtain ⟨c, hc⟩ : ∃ c, s[n]? = some c := ⟨s[n], List.getElem?_eq_getElem hlt⟩
      have h1 : (n : Int) < (s.length : Int) := by omega
      have w := w64s (n := n) (by omega)
      have g : (bs s)[n]? = some c := by rw [bs_get]; exact hc
      rw [drop_some hc]
      by_cases h39 : c = 39
      · subst h39
        by_cases hlt2 : n + 1 < s.length
        · obtain ⟨d, hd⟩ : ∃ d, s[n + 1]? = some d := ⟨s[n + 1], List.getElem?_eq_getElem hlt2⟩
          have h2 : (n : Int) + 1 < (s.length : Int) := by omega
          have g2 : (bs s)[n + 1]? = some d := by rw [bs_get]; exact hd
          have w2 : IntKind.wrap .i64 ((n : Int) + 1 + 1) = ((n + 2 : Nat) : Int) := by rw [wr64 (by omega) (by omega)]; omega
          have tn : ((n : Int) + 1).toNat = n + 1 := by omega
          have n0 : (0 : Int) ≤ (n : Int) + 1 := by omega
          rw [drop_some hd]
          by_cases d39 : d = 39
          · subst d39
            have e : qGo n (39 :: 39 :: s.drop (n + 1 + 1)) = qGo (n + 2) (s.drop (n + 2)) := by simp [qGo]
            rw [e, ← ih (n + 2) (by omega) (by omega)]
            refine aloopW_step ?_
            rw [acode_k]
            simp [-getElem?_pos, List.getElem?_cons_zero, List.getElem?_cons_succ, a35_l0, st35, hsz, h1, h2, g, g2, w, w2, tn, n0]
          · have e : qGo n (39 :: d :: s.drop (n + 1 + 1)) = n + 1 := by simp [qGo, d39]
            have d39' : ¬ d.toNat = 39 := fun e => d39 (UInt8.toNat_inj.1 e)
            have d39i : ¬ (d.toNat : Int) = 39 := by omega
            rw [e]
            refine aloopW_stop (r := (.ret, { σ := [(2, .v (.int .i64 ((n : Int) + 1)))], own := [], loc := [], S := S })) ?_ (by simp)
            rw [acode_k]
            simp [-getElem?_pos, List.getElem?_cons_zero, List.getElem?_cons_succ, a35_l0, st35, hsz, h1, h2, g, g2, w, w2, tn, n0, d39, d39', d39i]
        · have h2 : ¬ (n : Int) + 1 < (s.length : Int) := by omega
          have e0 : s.drop (n + 1) = [] := List.drop_eq_nil_of_le (by omega)
          have e : qGo n (39 :: s.drop (n + 1)) = n + 1 := by rw [e0]; simp [qGo]
          rw [e]
          refine aloopW_stop (r := (.ret, { σ := [(2, .v (.int .i64 ((n : Int) + 1)))], own := [], loc := [], S := S })) ?_ (by simp)
          rw [acode_k]
          simp [-getElem?_pos, List.getElem?_cons_zero, List.getElem?_cons_succ, a35_l0, st35, hsz, h1, h2, g, w]
      · have e : ∀ x, qGo n (c :: x) = qGo (n + 1) x := fun x => by cases x <;> simp [qGo, h39]
        have c39' : ¬ c.toNat = 39 := fun e => h39 (UInt8.toNat_inj.1 e)
        have c39i : ¬ (c.toNat : Int) = 39 := by omega
        rw [e, ← ih (n + 1) (by omega) (by omega)]
        refine aloopW_step ?_
        rw [acode_k]
        simp [-getElem?_pos, List.getElem?_cons_zero, List.getElem?_cons_succ, a35_l0, st35, hsz, h1, g, w, h39, c39', c39i]
    · have e : s.drop n = [] := List.drop_eq_nil_of_le (by omega)
      have h1 : ¬ (n : Int) < (s.length : Int) := by omega
      rw [e]
      refine aloopW_stop (r := (.exit 0, { σ := [], own := [], loc := [], S := S })) ?_ (by simp)
      rw [acode_k]
      simp [a35_l0, st35, hsz, h1]
theorem c35 (s : List UInt8) (S : List Bx) (hs : s.length ≤ 1000000) : run 35 [.str (bs s)] S = some (.ret (.int .i64 (quotedL s : Int)) none, S) := by
  refine eqn rfl ?_
  have h := loop35 s S hs s.length 1 (by omega) (by omega)
  simp only [st35, Int.natCast_one, Int.ofNat_one, qEnd] at h
  unfold quotedL
  generalize qGo 1 (s.drop 1) = q at *
  by_cases h0 : q = 0
  · subst h0
    simp at h
    simp [a35, h]
  · rw [if_neg h0] at h
    simp [a35, h]
end Go.Av
