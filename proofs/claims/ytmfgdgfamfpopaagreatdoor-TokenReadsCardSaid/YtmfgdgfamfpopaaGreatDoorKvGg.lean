/- Part of a proof: token.next: the whole. -/
import Derived.Test.YtmfgdgfamfpopaaGreatDoorKvGf
import Derived.Lib.AtoiAllCases
set_option maxRecDepth 100000
set_option linter.unusedSimpArgs false
set_option linter.unusedVariables false
namespace Go.Av
open Go Go.Proofs

theorem next24A (s : List UInt8) (S : List Bx) (hs : s.length ≤ 1000000) {x : List UInt8} (hx : (signsL.find? fun x => x.isPrefixOf s) = some x) :
    run 24 [.str (bs s), .mapp 0] S = some (.ret (.tuple [tokAV 5 x, .int .i64 (x.length : Int)]) none, S) := by
  refine eqn rfl ?_
  have h := loop024 s S hs
  rw [hx] at h
  simp only [stS, signsAV, zTok, Int.natCast_zero, Int.ofNat_zero, Option.elim_some] at h
  generalize bs s = B at *
  unfold tokAV
  simp (maxSteps := 1000000) [a24, h]
theorem next24B0 (r : List UInt8) (S : List Bx) (hs : r.length ≤ 100000) (hx : (signsL.find? fun x => x.isPrefixOf (39 :: r)) = none) (hq : quotedL (39 :: r) = 0) :
    run 24 [.str (bs (39 :: r)), .mapp 0] S = some (.ret (.tuple [emptyTok, .int .i64 0]) none, S) := by
  refine eqn rfl ?_
  have h := loop024 (39 :: r) S (by simp; omega)
  rw [hx] at h
  simp only [stS, signsAV, zTok, Int.natCast_zero, Int.ofNat_zero, Option.elim_none] at h
  have q := c35 (39 :: r) S (by simp; omega)
  rw [hq] at q
  have q2 := c36N S
  have g : (bs (39 :: r))[0]? = some 39 := by rw [bs_get]; rfl
  have z : bs [] = ByteArray.empty := rfl
  rw [z] at q2
  generalize bs (39 :: r) = B at *
  unfold emptyTok
  unfold zeroV at q2
  simp (maxSteps := 1000000) [-getElem?_pos, List.getElem?_cons_zero, List.getElem?_cons_succ, a24, h, q, q2, g]
theorem next24B1 (s mid : List UInt8) (S : List Bx) (hs : s.length ≤ 100000) (h0 : s[0]? = some 39) (hx : (signsL.find? fun x => x.isPrefixOf s) = none) (hq : quotedL s = mid.length + 2) (hm : paired mid = true)
    (ht : s.take (mid.length + 2) = 39 :: (mid ++ [39])) :
    run 24 [.str (bs s), .mapp 0] S = some (.ret (if okText mid then .tuple [tokAV 4 (39 :: (mid ++ [39])), .int .i64 ((mid.length + 2 : Nat) : Int)] else .tuple [emptyTok, .int .i64 0]) none, S) := by
  refine eqn rfl ?_
  have h := loop024 s S (by omega)
  rw [hx] at h
  simp only [stS, signsAV, zTok, Int.natCast_zero, Int.ofNat_zero, Option.elim_none] at h
  have hl : mid.length + 2 ≤ s.length := by
    have := congrArg List.length ht
    simp only [List.length_take, List.length_cons, List.length_append, List.length_nil] at this
    omega
  have hz : (bs s).size = s.length := bs_size s
  have q := c35 s S (by omega)
  rw [hq] at q
  have q2 := c36Q mid S (by omega) hm
  have g : (bs s)[0]? = some 39 := by rw [bs_get]; exact h0
  have ex : (bs s).extract 0 (mid.length + 2) = bs (39 :: (mid ++ [39])) := by rw [bs_extract, ht]; rfl
  unfold readE textAV zeroV at q2
  unfold emptyTok tokAV
  generalize bs (39 :: (mid ++ [39])) = T at *
  generalize bs s = B at *
  generalize bs (und mid) = U at *
  have i1 : ((mid.length + 2 : Nat) : Int) ≤ (s.length : Int) := by omega
  have i2 : ¬ ((mid.length + 2 : Nat) : Int) = 0 := by omega
  generalize hN : mid.length + 2 = N at *
  have i3 : N ≠ 0 := by omega
  cases hok : okText mid <;> rw [hok] at q2 <;> simp only [Bool.false_eq_true, if_false, if_true] at q2 ⊢
  · simp (maxSteps := 1000000) [-getElem?_pos, List.getElem?_cons_zero, List.getElem?_cons_succ, a24, h, q, q2, g, ex, i1, i2, i3, hz]
  · simp (maxSteps := 1000000) [-getElem?_pos, List.getElem?_cons_zero, List.getElem?_cons_succ, a24, h, q, q2, g, ex, i1, i2, i3, hz]

theorem lowR_small (c : UInt8) : lowR c = smallB c := by
  unfold lowR smallB upB
  simp only [Bool.and_eq_true, decide_eq_true_eq]
theorem c39 (l : List UInt8) (S : List Bx) (hl : l.length ≤ 1000000) (ha : ∀ b ∈ l, b.toNat < 128) : run 39 [.clos (.func 40) [] [], .str (bs l)] S = some (.ret (.str (bs (l.map smallB))) none, S) := by
  refine recL_ext (hh := xMapS 40) rfl ?_
  have e : l.map lowR = l.map smallB := List.map_congr_left fun c _ => lowR_small c
  simp only [xMapS, bs_size, bs_data]
  rw [if_pos ⟨trivial, hl, List.all_eq_true.2 fun b hb => by simpa using ha b hb⟩, e]
  rfl
theorem nm_ascii {c : UInt8} (h : nmB c = true) : c.toNat < 128 := by
  unfold nmB at h
  have := smallB_nat c
  simp only [inNm, lowB, digB, upB, Bool.or_eq_true, Bool.and_eq_true, decide_eq_true_eq] at h this
  split at this <;> omega
theorem take_while (s : List UInt8) (p : UInt8 → Bool) : s.take (s.takeWhile p).length = s.takeWhile p := by
  have h := List.takeWhile_prefix (l := s) p
  exact (List.prefix_iff_eq_take.1 h).symm
theorem next24C0 (s : List UInt8) (S : List Bx) (hs : s.length ≤ 100000) (c0 : UInt8) (h0 : s[0]? = some c0) (hc : c0 ≠ 39) (hx : (signsL.find? fun x => x.isPrefixOf s) = none) (hn : s.takeWhile nmB = []) :
    run 24 [.str (bs s), .mapp 0] S = some (.ret (.tuple [emptyTok, .int .i64 0]) none, S) := by
  refine eqn rfl ?_
  have h := loop024 s S (by omega)
  rw [hx] at h
  simp only [stS, signsAV, zTok, Int.natCast_zero, Int.ofNat_zero, Option.elim_none] at h
  have hl := loop124 s S (by omega) s.length 0 (by omega) (by omega)
  rw [List.drop_zero, hn] at hl
  simp only [stN, zTok, Int.natCast_zero, Int.ofNat_zero, List.length_nil, Nat.add_zero] at hl
  have q := c39 [] S (by simp) (by simp)
  have g : (bs s)[0]? = some c0 := by rw [bs_get]; exact h0
  have z : bs [] = ByteArray.empty := rfl
  simp only [List.map_nil] at q
  rw [z] at q
  have c39 : ¬ c0.toNat = 39 := fun e => hc (UInt8.toNat_inj.1 e)
  have c39i : ¬ (c0.toNat : Int) = 39 := by omega
  generalize bs s = B at *
  unfold emptyTok
  simp (maxSteps := 1000000) [-getElem?_pos, List.getElem?_cons_zero, List.getElem?_cons_succ, a24, h, hl, q, g, hc, c39, c39i]
/-- What a name, a word or a number comes to. -/
def nameE (b : List UInt8) : AV := if b ∈ wordsL then .tuple [tokAV 1 b, .int .i64 (b.length : Int)] else if formedL b then .tuple [tokAV 2 b, .int .i64 (b.length : Int)] else .tuple [emptyTok, .int .i64 0]
theorem next24C2 (s : List UInt8) (hs : s.length ≤ 100000) (c0 : UInt8) (h0 : s[0]? = some c0) (hc : c0 ≠ 39) (hd : digB c0 = false) (hx : (signsL.find? fun x => x.isPrefixOf s) = none) (n : Nat) (hn : (s.takeWhile nmB).length = n) (hn0 : 0 < n) :
    run 24 [.str (bs s), .mapp 0] [wordsBox] = some (.ret (nameE ((s.takeWhile nmB).map smallB)) none, [wordsBox]) := by
  refine eqn rfl ?_
  have h := loop024 s [wordsBox] (by omega)
  rw [hx] at h
  simp only [stS, signsAV, zTok, Int.natCast_zero, Int.ofNat_zero, Option.elim_none] at h
  have hl := loop124 s [wordsBox] (by omega) s.length 0 (by omega) (by omega)
  rw [List.drop_zero, hn] at hl
  simp only [stN, zTok, Int.natCast_zero, Int.ofNat_zero, Nat.zero_add] at hl
  have hle : n ≤ s.length := by rw [← hn]; exact (List.takeWhile_sublist _).length_le
  have q := c39 (s.takeWhile nmB) [wordsBox] (by omega) (fun b hb => nm_ascii (by
    have := List.all_takeWhile (p := nmB) (l := s)
    rw [List.all_eq_true] at this
    exact this b hb))
  have g : (bs s)[0]? = some c0 := by rw [bs_get]; exact h0
  have hz : (bs s).size = s.length := bs_size s
  have ex : (bs s).extract 0 n = bs (s.takeWhile nmB) := by rw [bs_extract, List.drop_zero, ← hn, take_while]
  have c39 : ¬ c0.toNat = 39 := fun e => hc (UInt8.toNat_inj.1 e)
  have c39i : ¬ (c0.toNat : Int) = 39 := by omega
  have qd := c41 c0 [wordsBox]
  rw [hd] at qd
  have hb : ((s.takeWhile nmB).map smallB).length = n := by rw [List.length_map]; exact hn
  have qm := mget_words ((s.takeWhile nmB).map smallB) wordsL
  have qs := c33 ((s.takeWhile nmB).map smallB) [wordsBox] (by omega)
  change mget none wordsBox.cells _ = _ at qm
  have hm : wordsBox.map = true := rfl
  have i1 : (n : Int) ≤ (s.length : Int) := by omega
  have i2 : ¬ (n : Int) = 0 := by omega
  have i3 : ¬ n = 0 := by omega
  unfold nameE
  rw [hb]
  unfold emptyTok tokAV
  generalize bs (s.takeWhile nmB) = X at *
  generalize (s.takeWhile nmB).map smallB = b at *
  generalize bs b = T at *
  generalize bs s = B at *
  generalize wordsBox = wb at *
  by_cases hw : b ∈ wordsL
  · rw [if_pos hw] at qm ⊢
    simp (maxSteps := 1000000) [-getElem?_pos, List.getElem?_cons_zero, List.getElem?_cons_succ, a24, h, hl, q, g, hc, c39, c39i, hz, ex, qd, qm, hm, i1, i2, i3, isKeyA, lookRes]
  · rw [if_neg hw] at qm ⊢
    cases hf : formedL b
    · rw [hf] at qs
      simp (maxSteps := 1000000) [-getElem?_pos, List.getElem?_cons_zero, List.getElem?_cons_succ, a24, h, hl, q, g, hc, c39, c39i, hz, ex, qd, qm, qs, hm, i1, i2, i3, isKeyA, lookRes]
    · rw [hf] at qs
      simp (maxSteps := 1000000) [-getElem?_pos, List.getElem?_cons_zero, List.getElem?_cons_succ, a24, h, hl, q, g, hc, c39, c39i, hz, ex, qd, qm, qs, hm, i1, i2, i3, isKeyA, lookRes]
theorem next24C1 (s : List UInt8) (S : List Bx) (hs : s.length ≤ 100000) (c0 : UInt8) (h0 : s[0]? = some c0) (hc : c0 ≠ 39) (hd : digB c0 = true) (hx : (signsL.find? fun x => x.isPrefixOf s) = none) (n : Nat) (hn : (s.takeWhile nmB).length = n) (hn0 : 0 < n) (b : List UInt8) (hbb : (s.takeWhile nmB).map smallB = b) :
    run 24 [.str (bs s), .mapp 0] S = some (.ret (if numM b then .tuple [tokAV 3 b, .int .i64 (n : Int)] else .tuple [emptyTok, .int .i64 0]) none, S) := by
  refine eqn rfl ?_
  have h := loop024 s S (by omega)
  rw [hx] at h
  simp only [stS, signsAV, zTok, Int.natCast_zero, Int.ofNat_zero, Option.elim_none] at h
  have hl := loop124 s S (by omega) s.length 0 (by omega) (by omega)
  rw [List.drop_zero, hn] at hl
  simp only [stN, zTok, Int.natCast_zero, Int.ofNat_zero, Nat.zero_add] at hl
  have hle : n ≤ s.length := by rw [← hn]; exact (List.takeWhile_sublist _).length_le
  have q := c39 (s.takeWhile nmB) S (by omega) (fun b hb => nm_ascii (by
    have := List.all_takeWhile (p := nmB) (l := s)
    rw [List.all_eq_true] at this
    exact this b hb))
  have g : (bs s)[0]? = some c0 := by rw [bs_get]; exact h0
  have hz : (bs s).size = s.length := bs_size s
  have ex : (bs s).extract 0 n = bs (s.takeWhile nmB) := by rw [bs_extract, List.drop_zero, ← hn, take_while]
  have c39 : ¬ c0.toNat = 39 := fun e => hc (UInt8.toNat_inj.1 e)
  have c39i : ¬ (c0.toNat : Int) = 39 := by omega
  have qd := c41 c0 S
  rw [hd] at qd
  have hb : b.length = n := by rw [← hbb, List.length_map]; exact hn
  rw [hbb] at q
  have qp := c42 b S (by omega)
  have i1 : (n : Int) ≤ (s.length : Int) := by omega
  have i2 : ¬ (n : Int) = 0 := by omega
  have i3 : ¬ n = 0 := by omega
  unfold emptyTok tokAV numM
  rcases hr : Lib.atoiAll b with v | _ | _
  · obtain ⟨v0, v1⟩ := Lib.atoiAll_bounds hr
    have qf := c43 v v0 v1 S
    have ea : atoiA 110 (bs b) = .tuple [.int .i64 v, .niliface] := by unfold atoiA; rw [bs_data, hr]
    rw [ea] at qp
    by_cases hi : itoaL v = b
    · rw [hi] at qf
      generalize bs (s.takeWhile nmB) = X at *
      generalize bs b = T at *
      generalize bs s = B at *
      simp (maxSteps := 1000000) [-getElem?_pos, List.getElem?_cons_zero, List.getElem?_cons_succ, a24, h, hl, q, g, hc, c39, c39i, hz, ex, qd, i1, i2, i3, qp, qf, hi]
    · have tne : ¬ (bs (itoaL v)).toList = (bs b).toList := by rw [bs_toList, bs_toList]; exact hi
      generalize bs (s.takeWhile nmB) = X at *
      generalize bs (itoaL v) = I at *
      generalize bs b = T at *
      generalize bs s = B at *
      simp (maxSteps := 1000000) [-getElem?_pos, List.getElem?_cons_zero, List.getElem?_cons_succ, a24, h, hl, q, g, hc, c39, c39i, hz, ex, qd, i1, i2, i3, qp, qf, hi, tne]
  · have ea : atoiA 110 (bs b) = .tuple [.int .i64 0, .iface 110 (.sptr [])] := by unfold atoiA; rw [bs_data, hr]
    rw [ea] at qp
    generalize bs (s.takeWhile nmB) = X at *
    generalize bs b = T at *
    generalize bs s = B at *
    simp (maxSteps := 1000000) [-getElem?_pos, List.getElem?_cons_zero, List.getElem?_cons_succ, a24, h, hl, q, g, hc, c39, c39i, hz, ex, qd, i1, i2, i3, qp]
  · have ea : atoiA 110 (bs b) = .tuple [.int .i64 (Lib.atoiSat b), .iface 110 (.sptr [])] := by unfold atoiA; rw [bs_data, hr]
    rw [ea] at qp
    generalize bs (s.takeWhile nmB) = X at *
    generalize bs b = T at *
    generalize bs s = B at *
    simp (maxSteps := 1000000) [-getElem?_pos, List.getElem?_cons_zero, List.getElem?_cons_succ, a24, h, hl, q, g, hc, c39, c39i, hz, ex, qd, i1, i2, i3, qp]

theorem words_low : ∀ w ∈ wordsL, ∃ c r, w = c :: r ∧ lowB c = true := by
  have h : wordsL.all (fun w => match w with | [] => false | c :: _ => lowB c) = true := by decide
  intro w hw
  have := List.all_eq_true.1 h w hw
  cases w with
  | nil => simp at this
  | cons c r => exact ⟨c, r, rfl, this⟩
theorem dig_small {c : UInt8} (h : digB c = true) : smallB c = c ∧ lowB c = false ∧ c ≠ 39 := by
  simp only [digB, Bool.and_eq_true, decide_eq_true_eq] at h
  have hu : upB c = false := by simp [upB]; omega
  refine ⟨by unfold smallB; rw [hu]; rfl, by simp [lowB]; omega, fun e => ?_⟩
  have := congrArg UInt8.toNat e
  simp at this
  omega
theorem small_dig {c : UInt8} (h : digB c = false) : digB (smallB c) = false := by
  have hn := smallB_nat c
  simp only [digB, Bool.and_eq_false_iff, decide_eq_false_iff_not] at h ⊢
  split at hn
  · rename_i hu
    simp only [upB, Bool.and_eq_true, decide_eq_true_eq] at hu
    omega
  · omega
theorem oneT_name {p : List UInt8 → Bool} {s b : List UInt8} (hh : ¬ s.head? = some 39) (hb : (s.takeWhile nmB).map smallB = b) (hne : b ≠ []) :
    oneT p s = if b ∈ wordsL then some (1, b) else if formedL b then some (2, b) else if p b then some (3, b) else none := by
  unfold oneT
  rw [if_neg hh]
  have hb' : (s.takeWhile fun c => inNm (smallB c)).map smallB = b := hb
  simp only [hb']
  rw [if_neg hne]
theorem c24 (s : List UInt8) (hs : s.length ≤ 100000) (h0 : s ≠ []) : run 24 [.str (bs s), .mapp 0] [wordsBox] = some (.ret (nextE s) none, [wordsBox]) := by
  cases hx : signsL.find? fun x => x.isPrefixOf s with
  | some x =>
    rw [next24A s _ (by omega) hx]
    unfold nextE
    rw [oneT_sign hx]
  | none =>
    obtain ⟨c0, r, rfl⟩ : ∃ c r, s = c :: r := by cases s with | nil => exact absurd rfl h0 | cons c r => exact ⟨c, r, rfl⟩
    by_cases hc : c0 = 39
    · subst hc
      by_cases hq : quotedL (39 :: r) = 0
      · rw [next24B0 r _ (by simp at hs; omega) hx hq]
        have ho : oneT numP (39 :: r) = none := by
          unfold oneT
          rw [if_pos (show (39 :: r).head? = some 39 from rfl), if_pos hq]
        unfold nextE
        rw [ho]
      · obtain ⟨mid, z, h1, h2, h3⟩ := qGo_paired r.length 1 r (Nat.le_refl _) hq
        have hq2 : quotedL (39 :: r) = mid.length + 2 := by unfold quotedL; simp only [List.drop_one, List.tail_cons]; omega
        have ht : (39 :: r).take (mid.length + 2) = 39 :: (mid ++ [39]) := by
          rw [List.take_succ_cons, h1]
          have e : mid ++ 39 :: z = (mid ++ [39]) ++ z := by simp
          rw [e, List.take_append_of_le_length (by simp), List.take_of_length_le (by simp)]
        rw [next24B1 _ mid _ (by omega) rfl hx hq2 h2 ht]
        have hm : midL (39 :: (mid ++ [39])) = mid := by unfold midL; simp
        have ho : oneT numP (39 :: r) = if okText mid then some (4, 39 :: (mid ++ [39])) else none := by
          unfold oneT
          rw [if_pos (show (39 :: r).head? = some 39 from rfl), if_neg hq, hq2, ht, hm]
        unfold nextE
        rw [ho]
        cases okText mid
        · simp
        · simp; omega
    · have hh : ¬ (c0 :: r).head? = some 39 := by simp [hc]
      have e1 : ((c0 :: r).takeWhile fun c => inNm (smallB c)) = (c0 :: r).takeWhile nmB := rfl
      by_cases hn : (c0 :: r).takeWhile nmB = []
      · rw [next24C0 _ _ (by omega) c0 rfl hc hx hn]
        unfold nextE oneT
        rw [if_neg hh, e1, hn]
        simp only [List.map_nil, if_true]
        rw [hx]; rfl
      · obtain ⟨t, ht⟩ : ∃ t, (c0 :: r).takeWhile nmB = c0 :: t := by
          rw [List.takeWhile_cons] at hn ⊢
          split at hn
          · rename_i h; rw [if_pos h]; exact ⟨_, rfl⟩
          · exact absurd rfl hn
        have hne : ((c0 :: r).takeWhile nmB).map smallB ≠ [] := by rw [ht]; simp
        have hpos : 0 < ((c0 :: r).takeWhile nmB).length := List.length_pos_iff.2 hn
        cases hd : digB c0 with
        | true =>
          obtain ⟨d1, d2, d3⟩ := dig_small hd
          have hb : ((c0 :: r).takeWhile nmB).map smallB = c0 :: t.map smallB := by rw [ht, List.map_cons, d1]
          rw [next24C1 _ _ (by omega) c0 rfl hc hd hx _ rfl hpos _ hb]
          have hw : ¬ (c0 :: t.map smallB) ∈ wordsL := fun hw => by
            obtain ⟨c, r', e, hl⟩ := words_low _ hw
            simp only [List.cons.injEq] at e
            rw [← e.1, d2] at hl; cases hl
          have hf : formedL (c0 :: t.map smallB) = false := by simp [formedL, d2]
          have ho := oneT_name (p := numP) hh hb (by simp)
          rw [if_neg hw, hf] at ho
          have hlen : ((c0 :: r).takeWhile nmB).length = (c0 :: t.map smallB).length := by rw [ht]; simp
          unfold nextE
          rw [ho, hlen]
          simp only [Bool.false_eq_true, if_false, numP, hd, Bool.true_and]
          cases numM (c0 :: t.map smallB) <;> simp
        | false =>
          rw [next24C2 _ (by omega) c0 rfl hc hd hx _ rfl hpos]
          have hb : ((c0 :: r).takeWhile nmB).map smallB = smallB c0 :: t.map smallB := by rw [ht, List.map_cons]
          have hp : numP (smallB c0 :: t.map smallB) = false := by simp [numP, small_dig hd]
          have ho := oneT_name (p := numP) hh hb (by simp)
          rw [hp] at ho
          unfold nextE nameE
          rw [ho, hb]
          generalize smallB c0 :: t.map smallB = b
          by_cases hw : b ∈ wordsL
          · rw [if_pos hw, if_pos hw]
          · rw [if_neg hw, if_neg hw]
            cases formedL b <;> simp
end Go.Av
