/- Part of a proof: The definition's Tokens; TokenReads. -/
import Derived.Test.YtmfgdgfamfpopaaGreatDoorKvNg
set_option maxRecDepth 100000
set_option linter.unusedSimpArgs false
set_option linter.unusedVariables false
namespace Go.Av
open Go Go.Proofs Go.RowKit
def toksAV (l : List Tok) : AV := .slice 3 (l.map Tok.av)
theorem toks_get {l : List Tok} {i : Nat} {x : Tok} (h : l[i]? = some x) : (l.map Tok.av)[i]? = some (.agg [.int .i64 x.k, .str (bs x.t), .int .i64 (x.at' : Int)]) := by
  rw [List.getElem?_map, h]; rfl
theorem toks_len {s : List UInt8} {l : List Tok} (h : toksOf s = some l) : l.length ≤ s.length + 1 := by
  have hy := yd_tok s (s.length + 1) 0 (by omega) (Nat.zero_le _)
  rw [List.drop_zero] at hy
  unfold toksOf at h
  rw [h] at hy
  have := ydL_length nxB (bs s) (s.length + 1) 0
  obtain ⟨_, _, y3⟩ := hy
  omega
theorem c16 (s : List UInt8) (S : List Bx) (hs : s.length ≤ 80000) (h0 : s ≠ []) : run1 16 [.str (bs s)] S = some (.ret (nextE s) none, S) := by
  obtain ⟨c0, r, rfl⟩ : ∃ c r, s = c :: r := by cases s with | nil => exact absurd rfl h0 | cons c r => exact ⟨c, r, rfl⟩
  by_cases hc : c0 = 39
  · subst hc
    by_cases hq : quotedL (39 :: r) = 0
    · rw [one16B0 r _ (by simp at hs; omega) hq]
      have ho : oneT numP (39 :: r) = none := by
        unfold oneT
        rw [if_pos (show (39 :: r).head? = some 39 from rfl), if_pos hq]
      unfold nextE
      rw [ho]
    · obtain ⟨mid, z, h1, h2, h3⟩ := qGo_paired r.length 1 r (Nat.le_refl _) hq
      have hq2 : quotedL (39 :: r) = mid.length + 2 := by unfold quotedL; simp only [List.drop_one, List.tail_cons]; omega
      have ht : (39 :: r).take (mid.length + 2) = 39 :: (mid ++ [39]) := by
        rw [List.take_succ_cons, h1]
        have e : mid ++ 39 :: z = (mid ++ [39]) ++ z := by simp
        rw [e, List.take_append_of_le_length (by simp), List.take_of_length_le (by simp)]
      rw [one16B1 _ mid _ (by omega) rfl hq2 h2 ht]
      have hm : midL (39 :: (mid ++ [39])) = mid := by unfold midL; simp
      have ho : oneT numP (39 :: r) = if okText mid then some (4, 39 :: (mid ++ [39])) else none := by
        unfold oneT
        rw [if_pos (show (39 :: r).head? = some 39 from rfl), if_neg hq, hq2, ht, hm]
      unfold nextE
      rw [ho]
      cases okText mid
      · simp
      · simp; omega
  · have hh : ¬ (c0 :: r).head? = some 39 := by simp [hc]
    rw [one16C _ S hs c0 rfl hc _ rfl, num_same]
    have ho : oneT numP (c0 :: r) = (if ((c0 :: r).takeWhile nmB).map smallB = [] then (signsL.find? fun x => x.isPrefixOf (c0 :: r)).map fun x => ((5 : Int), x) else if ((c0 :: r).takeWhile nmB).map smallB ∈ wordsL then some (1, ((c0 :: r).takeWhile nmB).map smallB) else if formedL (((c0 :: r).takeWhile nmB).map smallB) then some (2, ((c0 :: r).takeWhile nmB).map smallB) else if numP (((c0 :: r).takeWhile nmB).map smallB) then some (3, ((c0 :: r).takeWhile nmB).map smallB) else none) := by
      unfold oneT
      rw [if_neg hh]
      rfl
    rw [← ho]
    unfold nextE
    rcases oneT numP (c0 :: r) with _ | ⟨k, t⟩ <;> rfl
/-! ### Tokens -/
def stK (s : List UInt8) (acc : List Tok) (i : Nat) : St := { σ := [(0, .v (.str (bs s))), (4, .v (toksAV acc)), (5, .v (.int .i64 (i : Int)))], own := [(4, 41)], loc := [], S := [] }
theorem loop7 (s : List UInt8) (hs : s.length ≤ 4000) : ∀ (f i : Nat) (acc : List Tok), s.length < i + f → i ≤ s.length → acc.length ≤ i →
    aloopW (acode run1 a7_l0) (stK s acc i) = (match tokF numP f (s.drop i) i with
      | some l => some (.exit 0, { σ := [(4, .v (toksAV (acc ++ l)))], own := [(4, 41)], loc := [], S := [] })
      | none => some (.ret, { σ := [(2, .v (.slice 3 [])), (3, .v (.bool false))], own := [(2, 41)], loc := [], S := [] })) := by
  have hz : (bs s).size = s.length := bs_size s
  intro f
  induction f with
  | zero => intro i acc h1 h2 h3; omega
  | succ f ih =>
    intro i acc h1 h2 h3
    by_cases hlt : i < s.length
    · obtain ⟨c, hc⟩ : ∃ c, s[i]? = some c := ⟨s[i], List.getElem?_eq_getElem hlt⟩
      have hd := drop_some hc
      have b1 : (i : Int) < (s.length : Int) := by omega
      have w := w64s (n := i) (by omega)
      have g : (bs s)[i]? = some c := by rw [bs_get]; exact hc
      cases hb : blankB c with
      | true =>
        have e : tokF numP (f + 1) (s.drop i) i = tokF numP f (s.drop (i + 1)) (i + 1) := by
          rw [hd, tokF, if_pos hb]
        rw [e, ← ih (i + 1) acc (by omega) (by omega) (by omega)]
        refine aloopW_step ?_
        rw [acode_k]
        have hbn : c.toNat = 32 ∨ c.toNat = 10 := by
          simp only [blankB, Bool.or_eq_true, decide_eq_true_eq] at hb
          rcases hb with rfl | rfl
          · left; rfl
          · right; rfl
        generalize hB : bs s = B at *
        rcases hbn with e | e
        · have e' : (c.toNat : Int) = 32 := by omega
          simp [-getElem?_pos, List.getElem?_cons_zero, List.getElem?_cons_succ, a7_l0, stK, hB, hz, b1, w, g, e, e']
        · have e' : (c.toNat : Int) = 10 := by omega
          simp [-getElem?_pos, List.getElem?_cons_zero, List.getElem?_cons_succ, a7_l0, stK, hB, hz, b1, w, g, e, e']
      | false =>
        have c32 : ¬ c.toNat = 32 := fun e => by
          have : c = 32 := UInt8.toNat_inj.1 e
          subst this; revert hb; decide
        have c10 : ¬ c.toNat = 10 := fun e => by
          have : c = 10 := UInt8.toNat_inj.1 e
          subst this; revert hb; decide
        have c32i : ¬ (c.toNat : Int) = 32 := by omega
        have c10i : ¬ (c.toNat : Int) = 10 := by omega
        have q := c16 (s.drop i) [] (by rw [List.length_drop]; omega) (by rw [hd]; simp)
        have ex : (bs s).extract i s.length = bs (s.drop i) := by rw [bs_extract]; simp
        have htf : tokF numP (f + 1) (s.drop i) i = match oneT numP (s.drop i) with
            | some (k, t) => (tokF numP f ((s.drop i).drop t.length) (i + t.length)).map fun l => ⟨k, t, i⟩ :: l
            | none => none := by
          conv => lhs; rw [hd, tokF, if_neg (by rw [hb]; simp)]
          rw [hd]
          rcases oneT numP (c :: s.drop (i + 1)) with _ | ⟨k, t⟩ <;> rfl
        rw [htf]
        unfold nextE at q
        have b2 : (i : Int) ≤ (s.length : Int) := by omega
        cases ho : oneT numP (s.drop i) with
        | none =>
          rw [ho] at q
          simp only at q ⊢
          refine aloopW_stop ?_ (by simp)
          unfold emptyTok at q
          rw [acode_k]
          generalize bs (s.drop i) = BD at *
          generalize hB : bs s = B at *
          simp [-getElem?_pos, List.getElem?_cons_zero, List.getElem?_cons_succ, a7_l0, stK, hB, hz, b1, b2, w, g, c32, c10, c32i, c10i, q, ex]
        | some p =>
          obtain ⟨k, t⟩ := p
          rw [ho] at q
          simp only at q ⊢
          obtain ⟨l1, l2⟩ := oneT_len ho
          rw [List.length_drop] at l2
          have w2 : IntKind.wrap .i64 ((i : Int) + (t.length : Int)) = ((i + t.length : Nat) : Int) := by rw [wr64 (by omega) (by omega)]; omega
          have hn : ¬ (t.length : Int) = 0 := by omega
          have hn2 : t.length ≠ 0 := by omega
          have al : (acc.length + 1) * 32 ≤ 140737488355328 := by omega
          have ih' := ih (i + t.length) (acc ++ [⟨k, t, i⟩]) (by omega) (by omega) (by rw [List.length_append, List.length_singleton]; omega)
          have step : aloopW (acode run1 a7_l0) (stK s acc i) = aloopW (acode run1 a7_l0) (stK s (acc ++ [⟨k, t, i⟩]) (i + t.length)) := by
            refine aloopW_step ?_
            unfold tokAV at q
            have ea : toksAV (acc ++ [⟨k, t, i⟩]) = .slice 3 (acc.map Tok.av ++ [.agg [.int .i64 k, .str (bs t), .int .i64 (i : Int)]]) := by
              unfold toksAV
              rw [List.map_append]; rfl
            have hla : (acc.map Tok.av).length = acc.length := by simp
            unfold stK
            rw [ea]
            unfold toksAV
            rw [acode_k]
            generalize acc.map Tok.av = A at *
            generalize bs t = T at *
            generalize bs (s.drop i) = BD at *
            generalize bs s = B at *
            simp [-getElem?_pos, List.getElem?_cons_zero, List.getElem?_cons_succ, a7_l0, hz, b1, b2, w, w2, g, c32, c10, c32i, c10i, q, ex, hn, hn2, hla, al, srcElems]
          rw [step, ih', List.drop_drop]
          cases tokF numP f (s.drop (i + t.length)) (i + t.length) <;> simp
    · have e : s.drop i = [] := List.drop_eq_nil_of_le (by omega)
      have b1 : ¬ (i : Int) < (s.length : Int) := by omega
      rw [e, tokF]
      simp only [List.append_nil]
      refine aloopW_stop ?_ (by simp)
      rw [acode_k]
      simp [a7_l0, stK, hz, b1]
theorem c7 (s : List UInt8) (hs : s.length ≤ 4000) : run1 7 [.str (bs s)] [] = some (.ret (match toksOf s with
    | some l => .tuple [toksAV l, .bool true]
    | none => .tuple [.slice 3 [], .bool false]) none, []) := by
  refine eqn1 rfl ?_
  have h := loop7 s hs (s.length + 1) 0 [] (by omega) (Nat.zero_le _) (Nat.le_refl _)
  have e : toksAV [] = .slice 3 [] := rfl
  rw [List.drop_zero] at h
  simp only [stK, e, Int.natCast_zero, Int.ofNat_zero, List.nil_append] at h
  change _ = (match toksOf s with | some l => _ | none => _) at h
  cases ht : toksOf s with
  | none =>
    rw [ht] at h
    simp only at h ⊢
    simp [a7, h]
  | some l =>
    rw [ht] at h
    simp only at h ⊢
    generalize toksAV l = L at *
    simp [a7, h]

/-! ### the law -/
theorem loop8 (l : List Tok) (hl : l.length ≤ 4001) :
    aloopW (acode run1 a8_l0) { σ := [(0, .v (toksAV l)), (1, .v (toksAV l)), (5, .v (.int .i64 0))], own := [], loc := [], S := [] } = some (.exit 0, { σ := [(0, .v (toksAV l)), (1, .v (toksAV l))], own := [], loc := [], S := [] }) := by
  have hlenl : (l.map Tok.av).length = l.length := by simp
  have h := loop_all (f := acode run1 a8_l0) l (fun _ => true) (fun i => { σ := [(0, .v (toksAV l)), (1, .v (toksAV l)), (5, .v (.int .i64 (i : Int)))], own := [], loc := [], S := [] }) (bad := (.ret, default))
    (good := (.exit 0, { σ := [(0, .v (toksAV l)), (1, .v (toksAV l))], own := [], loc := [], S := [] })) (by simp) (by simp)
    (fun i x hx => by
      have hi := ilt hx
      have hlt := (List.getElem?_eq_some_iff.1 hx).1
      have w := w64s (n := i) (by omega)
      have g1 := toks_get hx
      have i1 : (i : Int) < ((l.map Tok.av).length : Int) := by rw [hlenl]; exact hi
      simp only [if_true]
      rw [acode_k]
      generalize hL : l.map Tok.av = L at *
      generalize hT : bs x.t = T at *
      simp [-getElem?_pos, List.getElem?_cons_zero, List.getElem?_cons_succ, a8_l0, toksAV, hL, i1, g1, w])
    (by
      rw [acode_k]
      generalize hL : l.map Tok.av = L at *
      simp [a8_l0, toksAV, hL, hlenl])
  simpa using h
theorem c8 (l : List Tok) (hl : l.length ≤ 4001) : run1 8 [toksAV l, toksAV l] [] = some (.ret (.bool true) none, []) := by
  refine eqn1 rfl ?_
  have h := loop8 l hl
  unfold toksAV at *
  generalize l.map Tok.av = L at *
  simp [a8, h]
theorem c3 (s0 : List UInt8) (h0 : s0.length ≤ 9223372036854775807) : run1 3 [.str (bs s0)] [] = some (.ret (.bool true) none, []) := by
  refine eqn1 rfl ?_
  have hz : (bs s0).size = s0.length := bs_size s0
  obtain ⟨N, hN, hN2⟩ : ∃ N : Nat, min (s0.length : Int) 4002 = (N : Int) ∧ N ≤ s0.length ∧ N ≤ 4002 := ⟨min s0.length 4002, by omega, by omega, by omega⟩
  have ex : (bs s0).extract 0 N = bs (s0.take N) := by rw [bs_extract, List.drop_zero]
  have hs : (s0.take N).length ≤ 4002 := by rw [List.length_take]; omega
  have i1 : (N : Int) ≤ (s0.length : Int) := by omega
  have q1 := c5 (s0.take N)
  have aw := awake1
  generalize s0.take N = s at *
  have sz : (bs s).size = s.length := bs_size s
  unfold tokE at q1
  by_cases hbig : 4000 < s.length
  · have hbig' : (4000 : Int) < (s.length : Int) := by omega
    rw [if_pos hbig] at q1
    generalize bs s0 = B0 at *
    generalize bs s = B at *
    simp [-getElem?_pos, List.getElem?_cons_zero, List.getElem?_cons_succ, a3, hz, hN, ex, i1, sz, hbig, hbig', q1, aw]
  · have hbig' : ¬ (4000 : Int) < (s.length : Int) := by omega
    rw [if_neg hbig] at q1
    have q2 := c7 s (by omega)
    cases ht : toksOf s with
    | none =>
      rw [ht] at q1 q2
      simp only at q1 q2
      generalize bs s0 = B0 at *
      generalize bs s = B at *
      simp [-getElem?_pos, List.getElem?_cons_zero, List.getElem?_cons_succ, a3, hz, hN, ex, i1, sz, hbig, hbig', q1, q2, aw]
    | some l =>
      rw [ht] at q1 q2
      simp only at q1 q2
      have hl := toks_len ht
      have q3 := c8 l (by omega)
      unfold toksAV at *
      generalize l.map Tok.av = L at *
      generalize bs s0 = B0 at *
      generalize bs s = B at *
      simp [-getElem?_pos, List.getElem?_cons_zero, List.getElem?_cons_succ, a3, hz, hN, ex, i1, sz, hbig, hbig', q1, q2, q3, aw]
end Go.Av
