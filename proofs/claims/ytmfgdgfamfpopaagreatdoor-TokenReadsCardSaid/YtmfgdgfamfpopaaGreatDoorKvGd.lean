/- Part of a proof: A text's string: value.printable, Is, Written, Read at what stands in quotes. -/
import Derived.Test.YtmfgdgfamfpopaaGreatDoorKvGc
import Derived.Lib.ReplaceLaws
set_option maxRecDepth 100000
set_option linter.unusedSimpArgs false
set_option linter.unusedVariables false
namespace Go.Av
open Go Go.Proofs

/-! ### replacing -/
theorem rep_nil {old new : List UInt8} (h : old ≠ []) : Lib.replaceAll [] old new = [] := by
  unfold Lib.replaceAll Lib.replace
  split
  · rfl
  · have e : Lib.index [] old = -1 := by cases old with | nil => exact absurd rfl h | cons => rfl
    have c := Lib.count_miss e
    unfold Lib.replaceNum
    rw [if_pos (.inl (by omega)), c, Lib.replaceK]
theorem rep_eq {old new s : List UInt8} (h : (old == new) = false) : Lib.replaceAll s old new = Lib.replaceK old new (Lib.count s old) s := by
  unfold Lib.replaceAll Lib.replace
  rw [h]
  simp only [Bool.false_eq_true, if_false]
  unfold Lib.replaceNum
  rw [if_pos (.inl (by omega))]
theorem rep_hit {old new r : List UInt8} (h : (old == new) = false) (ho : old ≠ []) : Lib.replaceAll (old ++ r) old new = new ++ Lib.replaceAll r old new := by
  have e : Lib.index (old ++ r) old = ((0 : Nat) : Int) := by
    cases old with
    | nil => exact absurd rfl ho
    | cons a l =>
      have : (a :: l).isPrefixOf (a :: l ++ r) = true := by simp [List.isPrefixOf_iff_prefix]
      rw [List.cons_append] at this ⊢
      unfold Lib.index
      rw [if_pos this]; rfl
  rw [rep_eq h, rep_eq h, Lib.count_hit ho e, Nat.add_comm, Lib.replaceK_hit _ _ _ _ _ e]
  simp
theorem rep_miss {old new : List UInt8} {b : UInt8} {l : List UInt8} (h : (old == new) = false) (ho : old ≠ []) (hp : old.isPrefixOf (b :: l) = false) : Lib.replaceAll (b :: l) old new = b :: Lib.replaceAll l old new := by
  rw [rep_eq h, rep_eq h]
  have e : Lib.index (b :: l) old = if Lib.index l old == -1 then -1 else Lib.index l old + 1 := by
    conv => lhs; unfold Lib.index
    rw [if_neg (by rw [hp]; simp)]
  by_cases hm : Lib.index l old = -1
  · rw [hm] at e
    have e' : Lib.index (b :: l) old = -1 := e
    rw [Lib.count_miss hm, Lib.count_miss e', Lib.replaceK, Lib.replaceK]
  · have hge := Lib.index_ge l old
    obtain ⟨i, hi⟩ : ∃ i : Nat, Lib.index l old = i := ⟨(Lib.index l old).toNat, by omega⟩
    have e' : Lib.index (b :: l) old = ((i + 1 : Nat) : Int) := by
      rw [e, hi]
      have : ((i : Int) == -1) = false := by rw [beq_eq_false_iff_ne]; omega
      rw [this]; simp
    rw [Lib.count_hit ho e', Lib.count_hit ho hi, Nat.add_comm 1, Nat.add_comm 1, Lib.replaceK_hit _ _ _ _ _ e', Lib.replaceK_hit _ _ _ _ _ hi, show i + 1 + old.length = i + old.length + 1 by omega]
    simp

/-- Each quote twice. -/
def dbl : List UInt8 → List UInt8
  | [] => []
  | c :: l => if c = 39 then 39 :: 39 :: dbl l else c :: dbl l
theorem rep_dbl : ∀ (l : List UInt8), Lib.replaceAll l [39] [39, 39] = dbl l
  | [] => rep_nil (by simp)
  | c :: l => by
    have ih := rep_dbl l
    unfold dbl
    split
    · rename_i h
      subst h
      have := rep_hit (old := [39]) (new := [39, 39]) (r := l) (by decide) (by simp)
      simp only [List.singleton_append] at this
      rw [this, ih]; rfl
    · rename_i h
      rw [rep_miss (by decide) (by simp) (by simp [List.isPrefixOf]; exact fun e => h e.symm), ih]
theorem dbl_len : ∀ (l : List UInt8), (dbl l).length ≤ 2 * l.length
  | [] => by simp [dbl]
  | c :: l => by
    have := dbl_len l
    unfold dbl
    split <;> simp <;> omega

theorem rep_und : ∀ (l : List UInt8), Lib.replaceAll l [39, 39] [39] = und l
  | [] => rep_nil (by simp)
  | [c] => by
    rw [rep_miss (by decide) (by simp) (by simp [List.isPrefixOf]), rep_nil (by simp)]; rfl
  | c :: d :: r => by
    unfold und
    split
    · rename_i h
      obtain ⟨rfl, rfl⟩ := h
      have := rep_hit (old := [39, 39]) (new := [39]) (r := r) (by decide) (by simp)
      simp only [List.cons_append, List.nil_append] at this
      rw [this, rep_und r]
    · rename_i h
      rw [rep_miss (by decide) (by simp) (by
        simp only [List.isPrefixOf, Bool.and_eq_false_iff, beq_eq_false_iff_ne, ne_eq]
        by_cases h1 : c = 39
        · right; left; intro e; exact h ⟨h1, e.symm⟩
        · left; exact fun e => h1 e.symm), rep_und (d :: r)]
theorem und_len : ∀ (l : List UInt8), (und l).length ≤ l.length
  | [] => by simp [und]
  | [c] => by simp [und]
  | c :: d :: r => by
    have h1 := und_len r
    have h2 := und_len (d :: r)
    unfold und
    split <;> simp at * <;> omega
/-- Quotes stand in pairs alone. -/
def paired : List UInt8 → Bool
  | [] => true
  | [c] => decide (c ≠ 39)
  | c :: d :: r => if c = 39 then decide (d = 39) && paired r else paired (d :: r)
theorem dbl_und : ∀ (l : List UInt8), paired l = true → dbl (und l) = l
  | [], _ => rfl
  | [c], h => by
    simp only [paired, decide_eq_true_eq] at h
    simp [und, dbl, h]
  | c :: d :: r, h => by
    by_cases hc : c = 39
    · simp only [paired, hc, if_true, Bool.and_eq_true, decide_eq_true_eq] at h
      obtain ⟨rfl, h2⟩ := h
      simp [und, hc, dbl, dbl_und r h2]
    · simp only [paired, hc, if_false] at h
      simp [und, hc, dbl, dbl_und (d :: r) h]
/-- What quoted finds. -/
theorem qGo_paired : ∀ (k n : Nat) (r : List UInt8), r.length ≤ k → qGo n r ≠ 0 → ∃ mid z, r = mid ++ 39 :: z ∧ paired mid = true ∧ qGo n r = n + mid.length + 1
  | k, n, [], _, h => absurd rfl h
  | 0, n, c :: r, h, _ => by simp at h
  | k + 1, n, [c], hk, h => by
    by_cases hc : c = 39
    · subst hc
      exact ⟨[], [], rfl, rfl, by simp [qGo]⟩
    · simp [qGo, hc] at h
  | k + 1, n, c :: d :: r, hk, h => by
    simp only [List.length_cons] at hk
    by_cases hc : c = 39
    · subst hc
      by_cases hd : d = 39
      · subst hd
        have e : qGo n (39 :: 39 :: r) = qGo (n + 2) r := by simp [qGo]
        rw [e] at h ⊢
        obtain ⟨mid, z, h1, h2, h3⟩ := qGo_paired k (n + 2) r (by omega) h
        exact ⟨39 :: 39 :: mid, z, by rw [h1]; rfl, by simp [paired, h2], by rw [h3]; simp; omega⟩
      · exact ⟨[], d :: r, rfl, rfl, by simp [qGo, hd]⟩
    · have e : qGo n (c :: d :: r) = qGo (n + 1) (d :: r) := by simp [qGo, hc]
      rw [e] at h ⊢
      obtain ⟨mid, z, h1, h2, h3⟩ := qGo_paired k (n + 1) (d :: r) (by simp; omega) h
      refine ⟨c :: mid, z, by rw [h1]; rfl, ?_, by rw [h3]; simp; omega⟩
      cases mid with
      | nil => simp [paired, hc]
      | cons m0 mr => simp [paired, hc]; exact h2

def prB (b : UInt8) : Bool := decide (32 ≤ b.toNat) && decide (b.toNat ≤ 126)
def st72 (s : List UInt8) (S : List Bx) (i : Nat) : St := { σ := [(0, .v (.str (bs s))), (5, .v (.int .i64 (s.length : Int))), (6, .v (.int .i64 (i : Int)))], own := [], loc := [], S := S }
theorem c72 (s : List UInt8) (S : List Bx) (hs : s.length ≤ 1000000) : run 72 [.str (bs s)] S = some (.ret (.bool (s.all prB)) none, S) := by
  refine eqn rfl ?_
  have h := loop_all (f := acode run a72_l0) s prB (st72 s S) (bad := (.ret, { σ := [(2, .v (.bool false))], own := [], loc := [], S := S })) (good := (.exit 0, { σ := [], own := [], loc := [], S := S })) (by simp) (by simp)
    (fun i c hx => by
      have h1 := ilt hx
      have hlt := (List.getElem?_eq_some_iff.1 hx).1
      have w := w64s (n := i) (by omega)
      have g : (bs s)[i]? = some c := by rw [bs_get]; exact hx
      rw [acode_k]
      unfold prB
      by_cases c1 : 32 ≤ c.toNat
      · have c1' : ¬ (c.toNat : Int) < 32 := by omega
        by_cases c2 : c.toNat ≤ 126
        · have c2' : ¬ (126 : Int) < (c.toNat : Int) := by omega
          simp [-getElem?_pos, List.getElem?_cons_zero, List.getElem?_cons_succ, a72_l0, st72, g, h1, w, c1, c2, c1', c2']
        · have c2' : (126 : Int) < (c.toNat : Int) := by omega
          simp [-getElem?_pos, List.getElem?_cons_zero, List.getElem?_cons_succ, a72_l0, st72, g, h1, w, c1, c2, c1', c2']
      · have c1' : (c.toNat : Int) < 32 := by omega
        simp [-getElem?_pos, List.getElem?_cons_zero, List.getElem?_cons_succ, a72_l0, st72, g, h1, w, c1, c1'])
    (by
      rw [acode_k]
      simp [a72_l0, st72])
  have hz : (bs s).size = s.length := bs_size s
  simp only [st72, Int.natCast_zero, Int.ofNat_zero] at h
  generalize s.all prB = b at *
  cases b
  · simp at h
    simp [a72, hz, h]
  · simp at h
    simp [a72, hz, h]
def textAV (t : List UInt8) : AV := .agg [.int .i64 3, .int .i64 0, .str (bs t)]
theorem c56T (t : List UInt8) (S : List Bx) (hs : t.length ≤ 1000000) : run 56 [textAV t] S = some (.ret (.bool (decide (t.length ≤ 200) && t.all prB)) none, S) := by
  refine eqn rfl ?_
  have q := c72 t S hs
  have hz : (bs t).size = t.length := bs_size t
  unfold textAV
  generalize t.all prB = b at *
  by_cases h1 : t.length ≤ 200
  · have h1' : (t.length : Int) ≤ 200 := by omega
    simp [a56, hz, h1, h1', q]
  · have h1' : ¬ (t.length : Int) ≤ 200 := by omega
    simp [a56, hz, h1, h1']
theorem c55 (l : List UInt8) (hl : l.length ≤ 100000) (S : List Bx) : run 55 [.str (bs l), .str ⟨#[39]⟩, .str ⟨#[39, 39]⟩] S = some (.ret (.str (bs (dbl l))) none, S) := by
  refine recL_ext (hh := xReplaceAll) rfl ?_
  have e1 : (⟨#[39]⟩ : ByteArray).size = 1 := rfl
  have e2 : (⟨#[39, 39]⟩ : ByteArray).size = 2 := rfl
  have e3 : repB (bs l) ⟨#[39]⟩ ⟨#[39, 39]⟩ = bs (dbl l) := by
    unfold repB
    rw [bs_data, ← rep_dbl]; rfl
  simp only [xReplaceAll, e1, e2, bs_size, e3]
  rw [if_pos ⟨by omega, by omega, by omega⟩]
theorem c55U (l : List UInt8) (hl : l.length ≤ 100000) (S : List Bx) : run 55 [.str (bs l), .str ⟨#[39, 39]⟩, .str ⟨#[39]⟩] S = some (.ret (.str (bs (und l))) none, S) := by
  refine recL_ext (hh := xReplaceAll) rfl ?_
  have e1 : (⟨#[39]⟩ : ByteArray).size = 1 := rfl
  have e2 : (⟨#[39, 39]⟩ : ByteArray).size = 2 := rfl
  have e3 : repB (bs l) ⟨#[39, 39]⟩ ⟨#[39]⟩ = bs (und l) := by
    unfold repB
    rw [bs_data, ← rep_und]; rfl
  simp only [xReplaceAll, e1, e2, bs_size, e3]
  rw [if_pos ⟨by omega, by omega, by omega⟩]
theorem c57T (t : List UInt8) (S : List Bx) (hs : t.length ≤ 100000) : run 57 [textAV t] S = some (.ret (.str (bs (39 :: (dbl t ++ [39])))) none, S) := by
  refine eqn rfl ?_
  have q := c55 t hs S
  have e : (⟨#[39]⟩ : ByteArray) ++ bs (dbl t) ++ (⟨#[39]⟩ : ByteArray) = bs (39 :: (dbl t ++ [39])) := by
    change bs [39] ++ bs (dbl t) ++ bs [39] = _
    rw [bs_append, bs_append]; rfl
  unfold textAV
  have e1 : (⟨#[39]⟩ : ByteArray).size = 1 := rfl
  have e2 := dbl_len t
  simp [a57, q, e, e1, bs_size]
  omega

theorem text_ne {m : List UInt8} : ¬ (bs (39 :: (m ++ [39]))).toList = [110, 117, 108, 108] ∧ ¬ (bs (39 :: (m ++ [39]))).toList = [116, 114, 117, 101] ∧ ¬ (bs (39 :: (m ++ [39]))).toList = [102, 97, 108, 115, 101] := by
  rw [bs_toList]
  refine ⟨?_, ?_, ?_⟩ <;> (intro h; simp at h)
def zeroV : AV := .agg [.int .i64 0, .int .i64 0, .str ⟨#[]⟩]
def readE (m : List UInt8) : AV := .tuple [if okText m then textAV (und m) else zeroV, .bool (okText m)]
theorem c36Q (m : List UInt8) (S : List Bx) (hs : m.length ≤ 100000) (hp : paired m = true) : run 36 [.str (bs (39 :: (m ++ [39])))] S = some (.ret (readE m) none, S) := by
  refine eqn rfl ?_
  have hu := und_len m
  have q1 := c55U m hs S
  have q2 := c56T (und m) S (by omega)
  have q3 := c57T (und m) S (by omega)
  rw [dbl_und m hp] at q3
  obtain ⟨n1, n2, n3⟩ := text_ne (m := m)
  have hz : (bs (39 :: (m ++ [39]))).size = m.length + 2 := by rw [bs_size]; simp
  have g0 : (bs (39 :: (m ++ [39])))[0]? = some 39 := by rw [bs_get]; rfl
  have g1 : (bs (39 :: (m ++ [39])))[m.length + 1]? = some 39 := by rw [bs_get]; simp
  have ex : (bs (39 :: (m ++ [39]))).extract 1 (m.length + 1) = bs m := by rw [bs_extract]; simp
  have eo : okText m = (decide ((und m).length ≤ 200) && (und m).all prB) := rfl
  unfold readE textAV zeroV
  unfold textAV at q2 q3
  rw [← eo] at q2
  generalize okText m = ok at *
  generalize und m = u at *
  generalize bs (39 :: (m ++ [39])) = B at *
  have i1 : (1 : Int) < ((m.length + 2 : Nat) : Int) := by omega
  have i2 : IntKind.wrap .i64 (((m.length + 2 : Nat) : Int) - 1) = ((m.length + 1 : Nat) : Int) := by rw [wr64 (by omega) (by omega)]; omega
  generalize hN : m.length + 2 = N at *
  cases ok
  · simp [-getElem?_pos, a36, n1, n2, n3, hz, g0, g1, ex, q1, q2, q3, i1, i2]
    omega
  · simp [-getElem?_pos, a36, n1, n2, n3, hz, g0, g1, ex, q1, q2, q3, i1, i2]
    omega
end Go.Av
