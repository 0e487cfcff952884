/- Part of a proof: Class: the columns that are the same as one. -/
import Derived.Test.YtlhmipepdcndoaaGreatDoorZvDf
set_option linter.unusedSimpArgs false
set_option linter.unusedVariables false
namespace Go.Av

def cnt (v : List Bool) : Nat := v.countP id
theorem cnt_le (v : List Bool) : cnt v ≤ v.length := List.countP_le_length
theorem cnt_set : ∀ (v : List Bool) (i : Nat), i < v.length → cnt (v.set i true) = cnt v + (if v.getD i false then 0 else 1)
  | [], i, h => by simp at h
  | b :: v, 0, h => by cases b <;> simp [cnt, List.getD]
  | b :: v, i + 1, h => by
    have := cnt_set v i (by simpa using h)
    have e : (b :: v).getD (i + 1) false = v.getD i false := by simp [List.getD]
    rw [e]
    simp only [List.set_cons_succ, cnt, List.countP_cons] at this ⊢
    omega
theorem set_same : ∀ (v : List Bool) (i : Nat), i < v.length → v.getD i false = true → v.set i true = v
  | [], i, h, _ => by simp at h
  | b :: v, 0, h, e => by simp [List.getD] at e; simp [e]
  | b :: v, i + 1, h, e => by
    have e' : v.getD i false = true := by simpa [List.getD] using e
    rw [List.set_cons_succ, set_same v i (by simpa using h) e']
/-- A step leaves all as it is, or there are more. -/
theorem stepC_cnt {n : Nat} {v : List Bool} (hv : v.length = n) {p : Int × Int} (hp : inN n p) : stepC v p = v ∨ cnt v < cnt (stepC v p) := by
  obtain ⟨h1, h2, h3, h4⟩ := hp
  unfold stepC
  split
  · rename_i hc
    have i1 : p.1.toNat < v.length := by omega
    have i2 : p.2.toNat < (v.set p.1.toNat true).length := by rw [List.length_set]; omega
    have c1 := cnt_set v p.1.toNat i1
    have c2 := cnt_set (v.set p.1.toNat true) p.2.toNat i2
    rw [getD_setB _ _ _ _ i1] at c2
    cases ha : v.getD p.1.toNat false with
    | true =>
      rw [set_same v _ i1 ha] at c2 ⊢
      cases hb : v.getD p.2.toNat false with
      | true => left; exact set_same v _ (by omega) hb
      | false =>
        right
        by_cases e : p.1.toNat = p.2.toNat
        · rw [e, hb] at ha; cases ha
        · rw [if_neg e, hb] at c2; simp at c2; omega
    | false =>
      right
      rw [ha] at c1
      simp at c1
      split at c2 <;> simp at c2
      · omega
      · split at c2 <;> omega
  · exact .inl rfl
theorem roundC_cnt {n : Nat} : ∀ (E : List (Int × Int)) (v : List Bool), v.length = n → (∀ p ∈ E, inN n p) → cnt v ≤ cnt (roundC E v) ∧ (roundC E v = v ∨ cnt v < cnt (roundC E v)) ∧ (roundC E v = v → ∀ p ∈ E, stepC v p = v)
  | [], v, hv, hE => ⟨Nat.le_refl _, .inl rfl, fun _ p hp => by cases hp⟩
  | p :: E, v, hv, hE => by
    have e : roundC (p :: E) v = roundC E (stepC v p) := rfl
    obtain ⟨q1, q2, q3⟩ := roundC_cnt E (stepC v p) (by rw [stepC_len]; exact hv) (fun x hx => hE x (.tail _ hx))
    rw [e]
    rcases stepC_cnt hv (hE p (.head _)) with h | h
    · rw [h] at q1 q2 q3 ⊢
      refine ⟨q1, q2, fun hr x hx => ?_⟩
      rcases List.mem_cons.1 hx with rfl | hx
      · exact h
      · exact q3 hr x hx
    · refine ⟨by omega, .inr (by omega), fun hr => ?_⟩
      rw [hr] at q1
      omega
def iterC (E : List (Int × Int)) : Nat → List Bool → List Bool
  | 0, v => v
  | r + 1, v => roundC E (iterC E r v)
theorem iterC_range (E : List (Int × Int)) (v : List Bool) : ∀ (n : Nat), (List.range n).foldl (fun v _ => roundC E v) v = iterC E n v
  | 0 => rfl
  | n + 1 => by rw [List.range_succ, List.foldl_append, iterC_range E v n]; rfl
theorem iterC_len (E : List (Int × Int)) (v : List Bool) : ∀ (r : Nat), (iterC E r v).length = v.length
  | 0 => rfl
  | r + 1 => by rw [iterC, roundC_len, iterC_len E v r]
theorem iterC_fix {n : Nat} (E : List (Int × Int)) (v : List Bool) (hv : v.length = n) (hE : ∀ p ∈ E, inN n p) : ∀ (r : Nat), roundC E (iterC E r v) = iterC E r v ∨ cnt v + r ≤ cnt (iterC E r v)
  | 0 => .inr (Nat.le_refl _)
  | r + 1 => by
    rcases iterC_fix E v hv hE r with h | h
    · left
      rw [iterC, h, h]
    · rcases (roundC_cnt E (iterC E r v) (by rw [iterC_len]; exact hv) hE).2.1 with h' | h'
      · left
        rw [iterC, h', h']
      · right
        rw [iterC]
        omega
theorem classK_fix {n : Nat} (E : List (Int × Int)) (col : Int) (hE : ∀ p ∈ E, inN n p) (hc : 0 ≤ col ∧ col < n) : roundC E (classK E n col) = classK E n col ∧ (classK E n col).length = n := by
  have hlen : ((List.replicate n false).set col.toNat true).length = n := by simp
  have hl2 : (classK E n col).length = n := by unfold classK; rw [iterC_range, iterC_len]; exact hlen
  refine ⟨?_, hl2⟩
  unfold classK at hl2 ⊢
  rw [iterC_range] at hl2 ⊢
  rcases iterC_fix E _ hlen hE n with h | h
  · exact h
  · have h1 := cnt_le (iterC E n ((List.replicate n false).set col.toNat true))
    have h2 := cnt_set (List.replicate n false) col.toNat (by simp; omega)
    have h3 : (List.replicate n false).getD col.toNat false = false := by
      simp only [List.getD, List.getElem?_replicate]; split <;> rfl
    rw [h3] at h2
    simp at h2
    omega
/-- All of them are the same as the column. -/
def SoundC (E : List (Int × Int)) (col : Nat) (v : List Bool) : Prop := ∀ j, v.getD j false = true → Conn E col j
theorem soundC_step {n : Nat} {E : List (Int × Int)} {col : Nat} {v : List Bool} (hv : v.length = n) (s : SoundC E col v) {p : Int × Int} (hp : p ∈ E) (hin : inN n p) : SoundC E col (stepC v p) := by
  obtain ⟨h1, h2, h3, h4⟩ := hin
  have hpair : Conn E p.1.toNat p.2.toNat := .pair hp
  unfold stepC
  split
  · rename_i hc
    intro j hj
    rw [getD_setB _ _ _ _ (by rw [List.length_set]; omega), getD_setB _ _ _ _ (by omega)] at hj
    have both : Conn E col p.1.toNat ∧ Conn E col p.2.toNat := by
      rcases Bool.or_eq_true _ _ ▸ hc with h | h
      · exact ⟨s _ h, (s _ h).trans hpair⟩
      · exact ⟨(s _ h).trans hpair.symm, s _ h⟩
    split at hj
    · rename_i e; rw [← e]; exact both.2
    · split at hj
      · rename_i e; rw [← e]; exact both.1
      · exact s j hj
  · exact s
theorem soundC_round {n : Nat} {E0 : List (Int × Int)} {col : Nat} (hE : ∀ p ∈ E0, inN n p) : ∀ (E : List (Int × Int)) (v : List Bool), (∀ p ∈ E, p ∈ E0) → v.length = n → SoundC E0 col v → SoundC E0 col (roundC E v)
  | [], v, _, _, s => s
  | p :: E, v, hs, hv, s => soundC_round hE E (stepC v p) (fun x hx => hs x (.tail _ hx)) (by rw [stepC_len]; exact hv) (soundC_step hv s (hs p (.head _)) (hE p (hs p (.head _))))
theorem classK_sound {n : Nat} (E : List (Int × Int)) (col : Int) (hE : ∀ p ∈ E, inN n p) (hc : 0 ≤ col ∧ col < n) : SoundC E col.toNat (classK E n col) := by
  unfold classK
  rw [iterC_range]
  have h0 : SoundC E col.toNat ((List.replicate n false).set col.toNat true) := by
    intro j hj
    rw [getD_setB _ _ _ _ (by simp; omega)] at hj
    split at hj
    · rename_i e; rw [e]; exact .refl _
    · simp only [List.getD, List.getElem?_replicate] at hj
      split at hj <;> simp at hj
  have key : ∀ r, SoundC E col.toNat (iterC E r ((List.replicate n false).set col.toNat true)) := by
    intro r
    induction r with
    | zero => exact h0
    | succ r ih => exact soundC_round hE E _ (fun p hp => hp) (by rw [iterC_len]; simp) ih
  exact key n
theorem classK_closed {n : Nat} (E : List (Int × Int)) (col : Int) (hE : ∀ p ∈ E, inN n p) (hc : 0 ≤ col ∧ col < n) {i j : Nat} (c : Conn E i j) : (classK E n col).getD i false = (classK E n col).getD j false := by
  obtain ⟨hf, hl⟩ := classK_fix E col hE hc
  have hs := (roundC_cnt E (classK E n col) hl hE).2.2 hf
  induction c with
  | refl i => rfl
  | symm _ ih => exact ih.symm
  | trans _ _ ih1 ih2 => exact ih1.trans ih2
  | @pair p hp =>
    have h1 := hs p hp
    obtain ⟨p1, p2, p3, p4⟩ := hE p hp
    generalize classK E n col = v at *
    unfold stepC at h1
    split at h1
    · rename_i hc
      have e1 : v.getD p.1.toNat false = true := by
        rw [← h1, getD_setB _ _ _ _ (by rw [List.length_set]; omega), getD_setB _ _ _ _ (by omega)]
        simp
      have e2 : v.getD p.2.toNat false = true := by
        rw [← h1, getD_setB _ _ _ _ (by rw [List.length_set]; omega)]
        simp
      rw [e1, e2]
    · rename_i hc
      simp only [Bool.or_eq_true, not_or, Bool.not_eq_true] at hc
      rw [hc.1, hc.2]
theorem iterC_col (E : List (Int × Int)) (c : Nat) : ∀ (E' : List (Int × Int)) (v : List Bool), v.getD c false = true → (roundC E' v).getD c false = true
  | [], v, h => h
  | p :: E', v, h => by
    refine iterC_col E c E' (stepC v p) ?_
    unfold stepC
    split
    · have : ∀ (w : List Bool) (i : Nat), w.getD c false = true → (w.set i true).getD c false = true := by
        intro w i hw
        by_cases hi : i < w.length
        · rw [getD_setB _ _ _ _ hi]
          split
          · rfl
          · exact hw
        · rw [List.set_eq_of_length_le (by omega)]; exact hw
      exact this _ _ (this _ _ h)
    · exact h
/-- Class, told. -/
theorem classK_iff {n : Nat} (E : List (Int × Int)) (col : Int) (hE : ∀ p ∈ E, inN n p) (hc : 0 ≤ col ∧ col < n) (j : Nat) : (classK E n col).getD j false = true ↔ Conn E col.toNat j := by
  refine ⟨classK_sound E col hE hc j, fun c => ?_⟩
  rw [← classK_closed E col hE hc c]
  unfold classK
  rw [iterC_range]
  have key : ∀ r, (iterC E r ((List.replicate n false).set col.toNat true)).getD col.toNat false = true := by
    intro r
    induction r with
    | zero => rw [iterC, getD_setB _ _ _ _ (by simp; omega)]; simp
    | succ r ih => exact iterC_col E _ E _ ih
  exact key n
theorem inP_of {n : Nat} (hn : n ≤ 16) {p : Int × Int} (h : inN n p) : inP p := ⟨h.1, by have := h.2.1; omega, h.2.2.1, by have := h.2.2.2; omega⟩
/-- Both are the same just if their heads are. -/
theorem class_head {n : Nat} (hn : n ≤ 16) {E : List (Int × Int)} (hE : ∀ p ∈ E, inN n p) (g : Good E (hOf E)) {col b : Int} (hc : 0 ≤ col ∧ col < n) (hb : 0 ≤ b ∧ b < n) : (classK E n col).getD b.toNat false = decide (headK E b = headK E col) := by
  have hE' : ∀ p ∈ E, inP p := fun p hp => inP_of hn (hE p hp)
  rw [Bool.eq_iff_iff, classK_iff E col hE hc, decide_eq_true_eq]
  constructor
  · intro c
    exact (g.same hE' c).symm
  · intro e
    exact g.conn (by omega) (by omega) e.symm
end Go.Av
