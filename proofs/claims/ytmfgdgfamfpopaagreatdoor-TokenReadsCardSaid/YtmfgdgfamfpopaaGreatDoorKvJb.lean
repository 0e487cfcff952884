/- Part of a proof: Tokens of joined tokens. -/
import Derived.Test.YtmfgdgfamfpopaaGreatDoorKvJa
set_option maxRecDepth 100000
set_option linter.unusedSimpArgs false
set_option linter.unusedVariables false
namespace Go.Av
open Go Go.Proofs

def okEnd (z : List UInt8) : Prop := z = [] ∨ ∃ y, z = 32 :: y
theorem head_of {s : List UInt8} {c : UInt8} (h : s.head? = some c) : ∃ r, s = c :: r := by
  cases s with
  | nil => simp at h
  | cons d r => simp at h; exact ⟨r, by rw [h]⟩
theorem small_name (s : List UInt8) : ∀ c ∈ (s.takeWhile fun c => inNm (smallB c)).map smallB, inNm c = true := by
  intro c hc
  obtain ⟨d, hd, rfl⟩ := List.mem_map.1 hc
  have := List.all_takeWhile (p := fun c => inNm (smallB c)) (l := s)
  rw [List.all_eq_true] at this
  exact this d hd
theorem name_again {t z : List UInt8} (ht : ∀ c ∈ t, inNm c = true) (hz : okEnd z) : ((t ++ z).takeWhile fun c => inNm (smallB c)).map smallB = t := by
  rw [List.takeWhile_append_of_pos (fun c hc => by rw [small_in (ht c hc)]; exact ht c hc)]
  have hz' : z.takeWhile (fun c => inNm (smallB c)) = [] := by
    rcases hz with rfl | ⟨y, rfl⟩
    · rfl
    · rw [List.takeWhile_cons, if_neg (by rw [in_blank]; simp)]
  rw [hz', List.append_nil]
  have : ∀ t : List UInt8, (∀ c ∈ t, inNm c = true) → t.map smallB = t := by
    intro t
    induction t with
    | nil => intro _; rfl
    | cons c t ih => intro h; rw [List.map_cons, small_in (h c (.head _)), ih (fun c hc => h c (.tail _ hc))]
  exact this t ht
theorem sign_again (x : List UInt8) (hx : x ∈ signsL) (z : List UInt8) (hz : okEnd z) :
    (x ++ z).head? ≠ some 39 ∧ ((x ++ z).takeWhile fun c => inNm (smallB c)) = [] ∧ (signsL.find? fun y => y.isPrefixOf (x ++ z)) = some x ∧ ∃ c r, x = c :: r ∧ blankB c = false := by
  unfold signsL at hx ⊢
  simp only [List.mem_cons, List.not_mem_nil, or_false] at hx
  rcases hz with rfl | ⟨y, rfl⟩ <;>
  rcases hx with rfl | rfl | rfl | rfl | rfl | rfl | rfl | rfl | rfl | rfl | rfl | rfl | rfl | rfl | rfl | rfl | rfl <;>
  exact ⟨by simp, by rfl, by first | rfl | simp [List.find?, List.isPrefixOf], _, _, rfl, by decide⟩

theorem oneT_stable {numOk : List UInt8 → Bool} {s : List UInt8} {k : Int} {t : List UInt8} (h : oneT numOk s = some (k, t)) :
    (∀ z, okEnd z → oneT numOk (t ++ z) = some (k, t)) ∧ (∃ c r, t = c :: r ∧ blankB c = false) := by
  have names : ∀ b : List UInt8, b = (s.takeWhile fun c => inNm (smallB c)).map smallB → b ≠ [] → ∀ k : Int,
      (if b ∈ wordsL then some ((1 : Int), b) else if formedL b then some (2, b) else if numOk b then some (3, b) else none) = some (k, t) →
      (∀ z, okEnd z → oneT numOk (t ++ z) = some (k, t)) ∧ (∃ c r, t = c :: r ∧ blankB c = false) := by
    intro b hb hne k hk
    have hin : ∀ c ∈ b, inNm c = true := by rw [hb]; exact small_name s
    have ht : t = b := by
      split at hk
      · simp only [Option.some.injEq, Prod.mk.injEq] at hk; exact hk.2.symm
      · split at hk
        · simp only [Option.some.injEq, Prod.mk.injEq] at hk; exact hk.2.symm
        · split at hk
          · simp only [Option.some.injEq, Prod.mk.injEq] at hk; exact hk.2.symm
          · cases hk
    subst ht
    cases t with
    | nil => exact absurd rfl hne
    | cons c r =>
      have hc := hin c (.head _)
      refine ⟨fun z hz => ?_, c, r, rfl, ?_⟩
      · have h39 : ¬ ((c :: r) ++ z).head? = some 39 := by
          simp only [List.cons_append, List.head?_cons, Option.some.injEq]
          rintro rfl
          revert hc; decide
        unfold oneT
        rw [if_neg h39, name_again hin hz]
        simp only
        rw [if_neg hne]
        exact hk
      · cases hbl : blankB c with
        | false => rfl
        | true =>
          exfalso
          simp only [blankB, Bool.or_eq_true, decide_eq_true_eq] at hbl
          rcases hbl with rfl | rfl
          · revert hc; decide
          · revert hc; decide
  by_cases hq : s.head? = some 39
  · obtain ⟨r, rfl⟩ := head_of hq
    unfold oneT at h
    rw [if_pos hq] at h
    split at h
    · cases h
    · rename_i hn
      split at h
      · rename_i ho
        simp only [Option.some.injEq, Prod.mk.injEq] at h
        obtain ⟨rfl, rfl⟩ := h
        unfold quotedL at hn ho ⊢
        simp only [List.drop_one, List.tail_cons] at hn ho ⊢
        rcases qGo_spec _ 1 r (Nat.le_refl _) with h0 | ⟨h1, h2, h3, h4⟩
        · exact absurd h0 hn
        · generalize hQ : qGo 1 r = Q at *
          obtain ⟨q, rfl⟩ : ∃ q, Q = q + 1 := ⟨Q - 1, by omega⟩
          simp only [Nat.add_sub_cancel] at h2 h3 h4
          refine ⟨fun z hz => ?_, 39, r.take q, by simp, by decide⟩
          have hz39 : z.head? ≠ some 39 := by
            rcases hz with rfl | ⟨y, rfl⟩ <;> simp
          have e := h4 z hz39
          have e2 : quotedL ((39 :: r).take (q + 1) ++ z) = q + 1 := by
            unfold quotedL
            simp only [List.take_succ_cons, List.cons_append, List.drop_one, List.tail_cons]
            exact e
          have e3 : ((39 :: r).take (q + 1) ++ z).take (q + 1) = (39 :: r).take (q + 1) := by
            rw [List.take_append_of_le_length (by simp; omega), List.take_take, Nat.min_self]
          unfold oneT
          rw [if_pos (by simp), e2, if_neg (by omega), e3, if_pos ho]
      · cases h
  · have h' := h
    unfold oneT at h
    rw [if_neg hq] at h
    simp only at h
    by_cases hb : (s.takeWhile fun c => inNm (smallB c)).map smallB = []
    · rw [if_pos hb] at h
      simp only [Option.map_eq_some_iff, Prod.mk.injEq] at h
      obtain ⟨x, hx, rfl, rfl⟩ := h
      have hm := List.mem_of_find?_eq_some hx
      refine ⟨fun z hz => ?_, (sign_again x hm [] (.inl rfl)).2.2.2⟩
      obtain ⟨g1, g2, g3, _⟩ := sign_again x hm z hz
      unfold oneT
      rw [if_neg g1, g2]
      simp only [List.map_nil, if_true]
      rw [g3]; rfl
    · rw [if_neg hb] at h
      exact names _ rfl hb k h
theorem tok_join {numOk : List UInt8 → Bool} : ∀ (l : List (Int × List UInt8)), (∀ p ∈ l, (∀ z, okEnd z → oneT numOk (p.2 ++ z) = some p) ∧ (∃ c r, p.2 = c :: r ∧ blankB c = false)) → ∀ (f n : Nat), (joinSp (l.map Prod.snd)).length < f →
    ∃ m, tokF numOk f (joinSp (l.map Prod.snd)) n = some m ∧ m.map (fun x => (x.k, x.t)) = l
  | [], _, f, n, hf => by
    match f, hf with
    | f + 1, _ => exact ⟨[], rfl, rfl⟩
  | p :: l, h, f, n, hf => by
    obtain ⟨h1, c, r, hc, hb⟩ := h p (.head _)
    obtain ⟨k, t⟩ := p
    simp only at h1 hc
    match f, hf with
    | f + 1, hf =>
      simp only [List.map_cons, joinSp] at hf ⊢
      have hz : okEnd ((l.map Prod.snd).map (fun y => (32 : UInt8) :: y)).flatten := by
        cases l with
        | nil => exact .inl rfl
        | cons x l => exact .inr ⟨_, by simp only [List.map_cons, List.flatten_cons, List.cons_append]; rfl⟩
      have h1' := h1 _ hz
      generalize hZ : ((l.map Prod.snd).map (fun y => (32 : UInt8) :: y)).flatten = Z at *
      have hd : (t ++ Z).drop t.length = Z := List.drop_left ..
      rw [hc] at h1' hd hf ⊢
      simp only [List.cons_append] at h1' hd hf ⊢
      rw [tokF, hb]
      simp only [Bool.false_eq_true, if_false]
      rw [h1']
      simp only
      rw [hd]
      simp only [List.length_cons, List.length_append] at hf
      -- what is left: nothing, or a blank and the others
      have rest : ∃ m, tokF numOk f Z (n + (c :: r).length) = some m ∧ m.map (fun x => (x.k, x.t)) = l := by
        cases l with
        | nil =>
          simp at hZ
          subst hZ
          obtain ⟨g, rfl⟩ : ∃ g, f = g + 1 := ⟨f - 1, by omega⟩
          exact ⟨[], rfl, rfl⟩
        | cons x l =>
          have hZ' : Z = 32 :: joinSp ((x :: l).map Prod.snd) := by
            rw [← hZ]; simp [joinSp]
          obtain ⟨g, rfl⟩ : ∃ g, f = g + 1 := ⟨f - 1, by omega⟩
          have hlen := congrArg List.length hZ'
          simp only [List.length_cons] at hlen
          rw [hZ', tokF, show blankB 32 = true by decide]
          simp only [if_true]
          exact tok_join (x :: l) (fun p hp => h p (.tail _ hp)) g _ (by omega)
      obtain ⟨m, hm1, hm2⟩ := rest
      rw [hm1]
      exact ⟨⟨k, c :: r, n⟩ :: m, rfl, by simp [hm2]⟩
/-- What a token is of the string. -/
theorem oneT_bytes {numOk : List UInt8 → Bool} {s : List UInt8} {k : Int} {t : List UInt8} (h : oneT numOk s = some (k, t)) :
    ∀ (j : Nat) (b : UInt8), t[j]? = some b → ∃ a, s[j]? = some a ∧ (a = b ∨ (k ≠ 4 ∧ upB a = true ∧ b.toNat = a.toNat + 32)) := by
  have pre : ∀ t : List UInt8, t <+: s → ∀ (j : Nat) (b : UInt8), t[j]? = some b → s[j]? = some b := by
    rintro t ⟨z, rfl⟩ j b hb
    rw [List.getElem?_append_left (List.getElem?_eq_some_iff.1 hb).1]
    exact hb
  intro j b hb
  by_cases hq : s.head? = some 39
  · unfold oneT at h
    rw [if_pos hq] at h
    split at h
    · cases h
    · split at h
      · simp only [Option.some.injEq, Prod.mk.injEq] at h
        obtain ⟨rfl, rfl⟩ := h
        exact ⟨b, pre _ (List.take_prefix _ _) j b hb, .inl rfl⟩
      · cases h
  · unfold oneT at h
    rw [if_neg hq] at h
    simp only at h
    split at h
    · simp only [Option.map_eq_some_iff, Prod.mk.injEq] at h
      obtain ⟨x, hx, rfl, rfl⟩ := h
      have := List.find?_some hx
      exact ⟨b, pre _ (List.isPrefixOf_iff_prefix.1 this) j b hb, .inl rfl⟩
    · have key : k ≠ 4 ∧ t = (s.takeWhile fun c => inNm (smallB c)).map smallB := by
        split at h
        · simp only [Option.some.injEq, Prod.mk.injEq] at h; exact ⟨by omega, h.2.symm⟩
        · split at h
          · simp only [Option.some.injEq, Prod.mk.injEq] at h; exact ⟨by omega, h.2.symm⟩
          · split at h
            · simp only [Option.some.injEq, Prod.mk.injEq] at h; exact ⟨by omega, h.2.symm⟩
            · cases h
      obtain ⟨hk, rfl⟩ := key
      rw [List.getElem?_map, Option.map_eq_some_iff] at hb
      obtain ⟨a, ha, rfl⟩ := hb
      refine ⟨a, pre _ (List.takeWhile_prefix _) j a ha, ?_⟩
      unfold smallB
      cases hu : upB a with
      | false => exact .inl (by simp)
      | true =>
        refine .inr ⟨hk, rfl, ?_⟩
        have := smallB_nat a
        unfold smallB at this
        rw [hu] at this
        exact this
end Go.Av
