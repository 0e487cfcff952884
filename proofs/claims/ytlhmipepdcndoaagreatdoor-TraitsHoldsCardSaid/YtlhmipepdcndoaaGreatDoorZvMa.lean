/- Part of a proof: The orders of rows: plain laws. -/
import Derived.Test.YtlhmipepdcndoaaGreatDoorZvCo
import Derived.Test.YtlhmipepdcndoaaGreatDoorZvCj
set_option linter.unusedSimpArgs false
set_option linter.unusedVariables false
namespace Go.Av

theorem cmpL_anti : ∀ (a b : List UInt8), cmpL b a = -cmpL a b
  | [], [] => rfl
  | [], b :: r => rfl
  | a :: l, [] => rfl
  | a :: l, b :: r => by
    simp only [cmpL]
    by_cases h : a = b
    · subst h; simp [cmpL_anti l r]
    · have h' : ¬ b = a := fun e => h e.symm
      simp only [h, h', if_false]
      by_cases h1 : a < b
      · have : ¬ b < a := by rw [UInt8.lt_iff_toNat_lt] at *; omega
        simp [h1, this]
      · have : b < a := by
          rw [UInt8.lt_iff_toNat_lt] at *
          have : a.toNat ≠ b.toNat := fun e => h (UInt8.toNat_inj.1 e)
          omega
        simp [h1, this]
theorem cmpV_anti (a b : V) : cmpV b a = -cmpV a b := by
  unfold cmpV
  by_cases h : a.k = b.k
  · by_cases h2 : a.n = b.n
    · simp [h, h2, cmpL_anti a.t b.t]
    · have h2' : ¬ b.n = a.n := fun e => h2 e.symm
      simp only [h, ne_eq, not_true_eq_false, if_false, h2, h2', not_false_eq_true, if_true]
      by_cases h3 : a.n < b.n
      · have : ¬ b.n < a.n := by omega
        simp [h3, this]
      · have : b.n < a.n := by omega
        simp [h3, this]
  · have h' : ¬ b.k = a.k := fun e => h e.symm
    simp only [h, h', ne_eq, not_false_eq_true, if_true]
    by_cases h3 : a.k < b.k
    · have : ¬ b.k < a.k := by omega
      simp [h3, this]
    · have : b.k < a.k := by omega
      simp [h3, this]
theorem cmpRow_anti : ∀ (a b : List V), cmpRow b a = -cmpRow a b
  | [], [] => rfl
  | [], b :: r => rfl
  | a :: l, [] => rfl
  | a :: l, b :: r => by
    simp only [cmpRow]
    rw [cmpV_anti a b]
    by_cases h : cmpV a b = 0
    · simp [h, cmpRow_anti l r]
    · have : ¬ -cmpV a b = 0 := by omega
      simp [h]
theorem keyCmp_anti (k : K) (a b : List V) : keyCmp k b a = -keyCmp k a b := by
  unfold keyCmp
  rw [cmpV_anti (vAt a k.c) (vAt b k.c)]
  split <;> rfl
theorem keysCmp_anti : ∀ (ks : List K) (a b : List V), keysCmp ks b a = -keysCmp ks a b
  | [], a, b => rfl
  | k :: ks, a, b => by
    simp only [keysCmp]
    rw [keyCmp_anti k a b]
    by_cases h : keyCmp k a b = 0
    · simp [h, keysCmp_anti ks a b]
    · have : ¬ -keyCmp k a b = 0 := by omega
      simp [h]
theorem byK_anti (ks : List K) (a b : List V) : byK ks b a = -byK ks a b := by
  rw [byK_keys, byK_keys, keysCmp_anti ks a b, cmpRow_anti a b]
  by_cases h : keysCmp ks a b = 0
  · simp [h]
  · have : ¬ -keysCmp ks a b = 0 := by omega
    simp [h]
/-- Neighbours are in order. -/
def chainR (ks : List K) : List (List V) → Prop
  | a :: b :: l => byK ks a b ≤ 0 ∧ chainR ks (b :: l)
  | _ => True
theorem chainR_cons {ks : List K} {a : List V} {l : List (List V)} (h : chainR ks l) (ha : ∀ b, l.head? = some b → byK ks a b ≤ 0) : chainR ks (a :: l) := by
  cases l with
  | nil => trivial
  | cons b l => exact ⟨ha b rfl, h⟩
theorem chainR_tail {ks : List K} {a : List V} {l : List (List V)} (h : chainR ks (a :: l)) : chainR ks l := by
  cases l with
  | nil => trivial
  | cons b l => exact h.2
theorem chainR_head {ks : List K} {a : List V} {l : List (List V)} (h : chainR ks (a :: l)) : ∀ b, l.head? = some b → byK ks a b ≤ 0 := by
  intro b hb
  cases l with
  | nil => cases hb
  | cons c l => obtain rfl := Option.some.inj hb; exact h.1
theorem mergeR_head (ks : List K) (a b : List (List V)) (x : List V) (h : (mergeR ks a b).head? = some x) : a.head? = some x ∨ b.head? = some x := by
  match a, b with
  | [], b => right; simpa [mergeR] using h
  | a :: l, [] => left; simpa [mergeR] using h
  | a :: l, b :: r =>
    rw [mergeR] at h
    split at h
    · left; simpa using h
    · right; simpa using h
theorem mergeR_chain (ks : List K) : ∀ (a b : List (List V)), chainR ks a → chainR ks b → chainR ks (mergeR ks a b) := by
  intro a b
  induction hsz : a.length + b.length using Nat.strongRecOn generalizing a b with
  | ind sz ih =>
    intro ha hb
    match a, b with
    | [], b => simpa [mergeR] using hb
    | x :: a, [] => simpa [mergeR] using ha
    | x :: a, y :: b =>
      rw [mergeR]
      split
      · rename_i hle
        refine chainR_cons (ih (a.length + (b.length + 1)) (by simp at hsz; omega) a (y :: b) (by simp) (chainR_tail ha) hb) fun z hz => ?_
        rcases mergeR_head ks a (y :: b) z hz with h | h
        · exact chainR_head ha z h
        · obtain rfl := Option.some.inj h; exact hle
      · rename_i hle
        refine chainR_cons (ih (a.length + 1 + b.length) (by simp at hsz; omega) (x :: a) b (by simp) ha (chainR_tail hb)) fun z hz => ?_
        rcases mergeR_head ks (x :: a) b z hz with h | h
        · obtain rfl := Option.some.inj h
          rw [byK_anti]; omega
        · exact chainR_head hb z h
theorem orderedR_chain (ks : List K) : ∀ (l : List (List V)), chainR ks (orderedR ks l) := by
  intro l
  induction hsz : l.length using Nat.strongRecOn generalizing l with
  | ind sz ih =>
    rw [orderedR]
    split
    · rename_i h
      match l, h with
      | [], _ => trivial
      | [a], _ => trivial
      | a :: b :: l, h => simp at h; omega
    · rename_i h
      exact mergeR_chain ks _ _ (ih (l.take (l.length / 2)).length (by simp; omega) _ rfl) (ih (l.drop (l.length / 2)).length (by simp; omega) _ rfl)
theorem byK_keysCmp {ks : List K} {a b : List V} (h : byK ks a b ≤ 0) : keysCmp ks a b ≤ 0 := by
  rw [byK_keys] at h
  split at h <;> omega
theorem chain_sorted {ks : List K} : ∀ {l : List (List V)}, chainR ks l → sortedB ks l = true
  | [], _ => rfl
  | [a], _ => rfl
  | a :: b :: l, h => by
    simp only [sortedB, Bool.and_eq_true, decide_eq_true_eq]
    exact ⟨byK_keysCmp h.1, chain_sorted h.2⟩
theorem ordered_sorted (ks : List K) (l : List (List V)) : sortedB ks (orderedR ks l) = true := chain_sorted (orderedR_chain ks l)

/-! ### through columns -/
def colE (n : Int) : E := ⟨1, n, .int .i64 0, .int .i64 0, .int .i64 0, .int .i64 0, .str ⟨#[]⟩, .slice 9 [], .slice 15 []⟩
theorem idx_col {at' : List Int} {c : Int} {j : Int} (h : idx (at'.map colE) (isAt c) = j) (hj : 0 ≤ j) : j < at'.length ∧ at'[j.toNat]? = some c := by
  unfold idx at h
  cases hf : (at'.map colE).findIdx? (isAt c) with
  | none => rw [hf] at h; simp at h; omega
  | some i =>
    rw [hf] at h
    simp only at h
    rw [List.findIdx?_eq_some_iff_getElem] at hf
    obtain ⟨h1, h2, _⟩ := hf
    simp at h1
    subst h
    refine ⟨by omega, ?_⟩
    simp [isAt, colE] at h2
    simp [h1, h2]
theorem vAt_at {r : List V} {at' : List Int} {j : Nat} {c : Int} (h : at'[j]? = some c) : vAt (atR r at') (j : Int) = vAt r c := by
  have hj := (List.getElem?_eq_some_iff.1 h).1
  have e : at'[j] = c := by have := h; rw [List.getElem?_eq_getElem hj] at this; exact Option.some.inj this
  simp [vAt, atR, List.getD, hj, e]
theorem carried_cmp (at' : List Int) (a b : List V) : ∀ (ks : List K), keysCmp ks a b ≤ 0 → keysCmp (carried (at'.map colE) ks) (atR a at') (atR b at') ≤ 0
  | [], _ => by simp [carried, keysCmp]
  | k :: ks, h => by
    simp only [carried]
    split
    · simp [keysCmp]
    · rename_i hj
      obtain ⟨j1, j2⟩ := idx_col (at' := at') (c := k.c) rfl (by omega)
      generalize idx (at'.map colE) (isAt k.c) = j at *
      have ej : ((j.toNat : Nat) : Int) = j := by omega
      have ha := vAt_at (r := a) j2
      have hb := vAt_at (r := b) j2
      rw [ej] at ha hb
      have ek : keyCmp ⟨j, k.d⟩ (atR a at') (atR b at') = keyCmp k a b := by simp only [keyCmp, ha, hb]
      simp only [keysCmp, ek] at h ⊢
      split
      · rename_i h0
        rw [if_pos h0] at h
        exact carried_cmp at' a b ks h
      · rename_i h0
        rw [if_neg h0] at h
        exact h
theorem through_sorted (at' : List Int) (ks : List K) : ∀ (l : List (List V)), sortedB ks l = true → sortedB (carried (at'.map colE) ks) (l.map (atR · at')) = true
  | [], _ => rfl
  | [a], _ => rfl
  | a :: b :: l, h => by
    simp only [sortedB, Bool.and_eq_true, decide_eq_true_eq, List.map_cons] at h ⊢
    exact ⟨carried_cmp at' a b ks h.1, through_sorted at' ks (b :: l) h.2⟩
end Go.Av
