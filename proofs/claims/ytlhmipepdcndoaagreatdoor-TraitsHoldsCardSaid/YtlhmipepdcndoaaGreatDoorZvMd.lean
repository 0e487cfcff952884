/- Part of a proof: The orders are total; a sort of what is sorted; the full order; Reduce of Reduce: plain laws. -/
import Derived.Test.YtlhmipepdcndoaaGreatDoorZvDh
import Derived.Test.YtlhmipepdcndoaaGreatDoorZvMa
set_option linter.unusedSimpArgs false
set_option linter.unusedVariables false
namespace Go.Av

/-! ### comparisons -/
structure TotalCmp {α : Type} (c : α → α → Int) : Prop where
  anti : ∀ a b, c b a = -c a b
  trans : ∀ a b d, c a b ≤ 0 → c b d ≤ 0 → c a d ≤ 0
theorem TotalCmp.zero {α : Type} {c : α → α → Int} (h : TotalCmp c) {a b d : α} (e : c a b = 0) : (c a d ≤ 0 ↔ c b d ≤ 0) ∧ (0 ≤ c a d ↔ 0 ≤ c b d) := by
  have e' : c b a = 0 := by rw [h.anti a b, e]; rfl
  refine ⟨⟨fun q => h.trans b a d (by omega) q, fun q => h.trans a b d (by omega) q⟩, ?_⟩
  have x1 := h.anti a d
  have x2 := h.anti b d
  constructor
  · intro q
    have := h.trans d a b (by omega) (by omega)
    omega
  · intro q
    have := h.trans d b a (by omega) (by omega)
    omega
def lexC {α : Type} (c d : α → α → Int) (a b : α) : Int := if c a b = 0 then d a b else c a b
theorem TotalCmp.lex {α : Type} {c d : α → α → Int} (hc : TotalCmp c) (hd : TotalCmp d) : TotalCmp (lexC c d) := by
  constructor
  · intro a b
    unfold lexC
    rw [hc.anti a b, hd.anti a b]
    by_cases h : c a b = 0
    · simp [h]
    · have : ¬ -c a b = 0 := by omega
      simp [h]
  · intro a b e h1 h2
    unfold lexC at *
    by_cases ha : c a b = 0
    · rw [if_pos ha] at h1
      obtain ⟨z1, z2⟩ := hc.zero (d := e) ha
      by_cases hb : c b e = 0
      · rw [if_pos hb] at h2
        have : c a e = 0 := by omega
        rw [if_pos this]
        exact hd.trans a b e h1 h2
      · rw [if_neg hb] at h2
        have : ¬ c a e = 0 := by omega
        rw [if_neg this]; omega
    · rw [if_neg ha] at h1
      have hbe : c b e ≤ 0 := by
        split at h2 <;> omega
      have hae := hc.trans a b e h1 hbe
      have : ¬ c a e = 0 := by
        intro h0
        -- e ≤ a ≤ b ≤ e, so a is b
        have x1 := hc.anti a e
        have := hc.trans b e a hbe (by omega)
        have x2 := hc.anti a b
        omega
      rw [if_neg this]; exact hae
theorem TotalCmp.neg {α : Type} {c : α → α → Int} (h : TotalCmp c) : TotalCmp (fun a b => -c a b) := by
  constructor
  · intro a b; show -c b a = - -c a b; rw [h.anti a b]
  · intro a b d h1 h2
    have x1 := h.anti a b
    have x2 := h.anti b d
    have x3 := h.anti a d
    have := h.trans d b a (by omega) (by omega)
    omega
theorem TotalCmp.comap {α β : Type} {c : α → α → Int} (h : TotalCmp c) (f : β → α) : TotalCmp (fun a b => c (f a) (f b)) :=
  ⟨fun a b => h.anti _ _, fun a b d h1 h2 => h.trans _ _ _ h1 h2⟩
def cmpI (a b : Int) : Int := if a = b then 0 else if a < b then -1 else 1
theorem total_cmpI : TotalCmp cmpI := by
  constructor
  · intro a b
    unfold cmpI
    by_cases h : a = b
    · simp [h]
    · have h' : ¬ b = a := fun e => h e.symm
      simp only [h, h', if_false]
      by_cases h1 : a < b
      · have : ¬ b < a := by omega
        simp [h1, this]
      · have : b < a := by omega
        simp [h1, this]
  · intro a b d h1 h2
    unfold cmpI at *
    split at h1 <;> split at h2 <;> (try split at h1) <;> (try split at h2) <;> (try omega) <;> (split <;> (try split) <;> omega)
theorem total_cmpL : TotalCmp cmpL := by
  refine ⟨cmpL_anti, ?_⟩
  intro a
  induction a with
  | nil =>
    intro b d h1 h2
    cases d with
    | nil => simp [cmpL]
    | cons y d => simp [cmpL]
  | cons x a ih =>
    intro b d h1 h2
    cases b with
    | nil => simp [cmpL] at h1
    | cons y b =>
      cases d with
      | nil => simp [cmpL] at h2
      | cons z d =>
        simp only [cmpL] at h1 h2 ⊢
        by_cases e1 : x = y
        · subst e1
          rw [if_pos rfl] at h1
          by_cases e2 : x = z
          · subst e2
            rw [if_pos rfl] at h2
            rw [if_pos rfl]
            exact ih b d h1 h2
          · rw [if_neg e2] at h2 ⊢; exact h2
        · rw [if_neg e1] at h1
          have l1 : x < y := by
            by_cases q : x < y
            · exact q
            · rw [if_neg q] at h1; omega
          by_cases e2 : y = z
          · subst e2
            rw [if_neg e1, if_pos l1]; omega
          · rw [if_neg e2] at h2
            have l2 : y < z := by
              by_cases q : y < z
              · exact q
              · rw [if_neg q] at h2; omega
            have l3 : x < z := by
              rw [UInt8.lt_iff_toNat_lt] at *; omega
            have e3 : ¬ x = z := fun e => by subst e; rw [UInt8.lt_iff_toNat_lt] at l3; omega
            rw [if_neg e3, if_pos l3]; omega
theorem cmpV_lex (a b : V) : cmpV a b = lexC (fun a b : V => cmpI a.k b.k) (lexC (fun a b : V => cmpI a.n b.n) (fun a b => cmpL a.t b.t)) a b := by
  unfold cmpV lexC cmpI
  by_cases h : a.k = b.k
  · simp only [h, ne_eq, not_true_eq_false, if_false, if_true]
    by_cases h2 : a.n = b.n
    · simp only [h2, not_true_eq_false, if_false, if_true]
    · simp only [h2, not_false_eq_true, if_true, if_false]
      by_cases h3 : a.n < b.n <;> simp [h3]
  · simp only [h, ne_eq, not_false_eq_true, if_true, if_false]
    by_cases h3 : a.k < b.k <;> simp [h3]
theorem total_cmpV : TotalCmp cmpV := by
  have := (total_cmpI.comap (fun v : V => v.k)).lex ((total_cmpI.comap (fun v : V => v.n)).lex (total_cmpL.comap (fun v : V => v.t)))
  constructor
  · intro a b; rw [cmpV_lex, cmpV_lex]; exact this.anti a b
  · intro a b d h1 h2; rw [cmpV_lex] at *; exact this.trans a b d h1 h2
theorem total_cmpRow : TotalCmp cmpRow := by
  refine ⟨cmpRow_anti, ?_⟩
  intro a
  induction a with
  | nil =>
    intro b d h1 h2
    cases d with
    | nil => simp [cmpRow]
    | cons y d => simp [cmpRow]
  | cons x a ih =>
    intro b d h1 h2
    cases b with
    | nil => simp [cmpRow] at h1
    | cons y b =>
      cases d with
      | nil => simp [cmpRow] at h2
      | cons z d =>
        simp only [cmpRow] at h1 h2 ⊢
        by_cases e1 : cmpV x y = 0
        · rw [if_pos e1] at h1
          obtain ⟨z1, z2⟩ := total_cmpV.zero (d := z) e1
          by_cases e2 : cmpV y z = 0
          · rw [if_pos e2] at h2
            have : cmpV x z = 0 := by omega
            rw [if_pos this]
            exact ih b d h1 h2
          · rw [if_neg e2] at h2
            have : ¬ cmpV x z = 0 := by omega
            rw [if_neg this]; omega
        · rw [if_neg e1] at h1
          have hyz : cmpV y z ≤ 0 := by split at h2 <;> omega
          have hxz := total_cmpV.trans x y z h1 hyz
          have : ¬ cmpV x z = 0 := by
            intro h0
            have x1 := total_cmpV.anti x z
            have := total_cmpV.trans y z x hyz (by omega)
            have x2 := total_cmpV.anti x y
            omega
          rw [if_neg this]; exact hxz
theorem total_keyCmp (k : K) : TotalCmp (keyCmp k) := by
  have h := total_cmpV.comap (fun r : List V => vAt r k.c)
  cases hd : k.d with
  | true =>
    have e : keyCmp k = fun a b => -cmpV (vAt a k.c) (vAt b k.c) := by funext a b; simp [keyCmp, hd]
    rw [e]; exact h.neg
  | false =>
    have e : keyCmp k = fun a b => cmpV (vAt a k.c) (vAt b k.c) := by funext a b; simp [keyCmp, hd]
    rw [e]; exact h
theorem total_keysCmp : ∀ (ks : List K), TotalCmp (keysCmp ks)
  | [] => ⟨fun _ _ => rfl, fun _ _ _ _ _ => by simp [keysCmp]⟩
  | k :: ks => by
    have e : keysCmp (k :: ks) = lexC (keyCmp k) (keysCmp ks) := by funext a b; rfl
    rw [e]; exact (total_keyCmp k).lex (total_keysCmp ks)
theorem total_byK (ks : List K) : TotalCmp (byK ks) := by
  have e : byK ks = lexC (keysCmp ks) cmpRow := by funext a b; rw [byK_keys]; rfl
  rw [e]; exact (total_keysCmp ks).lex total_cmpRow

/-! ### a sort of what is sorted -/
theorem chain_le {ks : List K} : ∀ {l : List (List V)} {a : List V}, chainR ks (a :: l) → ∀ b ∈ l, byK ks a b ≤ 0
  | [], a, _, b, hb => by cases hb
  | c :: l, a, h, b, hb => by
    rcases List.mem_cons.1 hb with rfl | hb
    · exact h.1
    · exact (total_byK ks).trans a c b h.1 (chain_le h.2 b hb)
theorem merge_chain_id (ks : List K) : ∀ (a b : List (List V)), chainR ks (a ++ b) → mergeR ks a b = a ++ b
  | [], b, _ => by simp [mergeR]
  | x :: a, [], _ => by simp [mergeR]
  | x :: a, y :: b, h => by
    rw [mergeR, if_pos (chain_le h y (by simp)), merge_chain_id ks a (y :: b) (chainR_tail h)]
    rfl
theorem chain_take {ks : List K} : ∀ {a b : List (List V)}, chainR ks (a ++ b) → chainR ks a ∧ chainR ks b
  | [], b, h => ⟨trivial, h⟩
  | [x], b, h => ⟨trivial, chainR_tail h⟩
  | x :: y :: a, b, h => by
    obtain ⟨h1, h2⟩ := chain_take (a := y :: a) (b := b) (chainR_tail h)
    exact ⟨⟨h.1, h1⟩, h2⟩
theorem ordered_id (ks : List K) : ∀ (l : List (List V)), chainR ks l → orderedR ks l = l := by
  intro l
  induction hsz : l.length using Nat.strongRecOn generalizing l with
  | ind sz ih =>
    intro h
    rw [orderedR]
    split
    · rfl
    · rename_i h2
      have hcat : l.take (l.length / 2) ++ l.drop (l.length / 2) = l := List.take_append_drop _ _
      have hs := chain_take (ks := ks) (a := l.take (l.length / 2)) (b := l.drop (l.length / 2)) (by rw [hcat]; exact h)
      rw [ih (l.take (l.length / 2)).length (by simp; omega) _ rfl hs.1, ih (l.drop (l.length / 2)).length (by simp; omega) _ rfl hs.2, merge_chain_id ks _ _ (by rw [hcat]; exact h), hcat]
/-! ### the same comparison, the same sort -/
theorem merge_congr {k1 k2 : List K} : ∀ (a b : List (List V)), (∀ x ∈ a, ∀ y ∈ b, byK k1 x y = byK k2 x y) → mergeR k1 a b = mergeR k2 a b := by
  intro a b
  induction hsz : a.length + b.length using Nat.strongRecOn generalizing a b with
  | ind sz ih =>
    intro h
    match a, b with
    | [], b => simp [mergeR]
    | x :: a, [] => simp [mergeR]
    | x :: a, y :: b =>
      rw [mergeR, mergeR, h x (.head _) y (.head _)]
      split
      · rw [ih (a.length + (b.length + 1)) (by simp at hsz; omega) a (y :: b) (by simp) (fun u hu v hv => h u (.tail _ hu) v hv)]
      · rw [ih (a.length + 1 + b.length) (by simp at hsz; omega) (x :: a) b (by simp) (fun u hu v hv => h u hu v (.tail _ hv))]
theorem ordered_congr {k1 k2 : List K} : ∀ (l : List (List V)), (∀ x ∈ l, ∀ y ∈ l, byK k1 x y = byK k2 x y) → orderedR k1 l = orderedR k2 l := by
  intro l
  induction hsz : l.length using Nat.strongRecOn generalizing l with
  | ind sz ih =>
    intro h
    by_cases h2 : l.length < 2
    · have e1 : orderedR k1 l = l := by rw [orderedR, dif_pos h2]
      have e2 : orderedR k2 l = l := by rw [orderedR, dif_pos h2]
      rw [e1, e2]
    · have e1 : orderedR k1 l = mergeR k1 (orderedR k1 (l.take (l.length / 2))) (orderedR k1 (l.drop (l.length / 2))) := by rw [orderedR, dif_neg h2]
      have e2 : orderedR k2 l = mergeR k2 (orderedR k2 (l.take (l.length / 2))) (orderedR k2 (l.drop (l.length / 2))) := by rw [orderedR, dif_neg h2]
      rw [e1, e2, ih (l.take (l.length / 2)).length (by simp; omega) _ rfl (fun x hx y hy => h x (List.mem_of_mem_take hx) y (List.mem_of_mem_take hy)),
        ih (l.drop (l.length / 2)).length (by simp; omega) _ rfl (fun x hx y hy => h x (List.mem_of_mem_drop hx) y (List.mem_of_mem_drop hy))]
      exact merge_congr _ _ fun x hx y hy => h x (List.mem_of_mem_take ((orderedR_mem k2 _ x).1 hx)) y (List.mem_of_mem_drop ((orderedR_mem k2 _ y).1 hy))

/-! ### the full order -/
/-- Rows that are alike at columns c, c + 1, .. are alike from there on. -/
theorem fullK_eq (n : Nat) (ks : List K) : fullK n ks = ks ++ ((List.range n).filter (fun c : Nat => !ks.any (fun k => decide (k.c = (c : Int))))).map (fun c : Nat => (⟨(c : Nat), false⟩ : K)) := by
  unfold fullK
  rw [Int.toNat_natCast]
  have : ∀ (l : List Nat) (acc : List K), l.foldl (fullStep ks) acc = acc ++ (l.filter (fun c : Nat => !ks.any (fun k => decide (k.c = (c : Int))))).map (fun c : Nat => (⟨(c : Nat), false⟩ : K)) := by
    intro l
    induction l with
    | nil => intro acc; simp
    | cons c l ih =>
      intro acc
      rw [List.foldl_cons, ih]
      unfold fullStep
      cases h : ks.any (fun k => decide (k.c = (c : Int))) <;> simp [h]
  exact this _ _
theorem keysCmp_append (k1 k2 : List K) (a b : List V) : keysCmp (k1 ++ k2) a b = if keysCmp k1 a b = 0 then keysCmp k2 a b else keysCmp k1 a b := by
  induction k1 with
  | nil => simp [keysCmp]
  | cons k ks ih =>
    simp only [List.cons_append, keysCmp]
    by_cases h : keyCmp k a b = 0
    · simp only [h, if_true, ih]
    · simp [h]
theorem keysCmp_zero {ks : List K} {a b : List V} (h : keysCmp ks a b = 0) : ∀ k ∈ ks, keyCmp k a b = 0 := by
  induction ks with
  | nil => intro k hk; cases hk
  | cons q ks ih =>
    intro k hk
    simp only [keysCmp] at h
    by_cases hq : keyCmp q a b = 0
    · rw [if_pos hq] at h
      rcases List.mem_cons.1 hk with rfl | hk
      · exact hq
      · exact ih h k hk
    · rw [if_neg hq] at h; exact absurd h hq
theorem vAt_cons (x : V) (a : List V) (c : Nat) : vAt (x :: a) ((c + 1 : Nat) : Int) = vAt a (c : Int) := by
  unfold vAt
  simp [List.getD]
/-- Rows of one length, from a column on, by the columns that are asked: as all columns, if they are alike at the others. -/
theorem cmpRow_cols (p : Nat → Bool) : ∀ (m : Nat) (f : Nat → Nat) (a b : List V), a.length = m → b.length = m → (∀ i, i < m → p i = false → cmpV (vAt a (i : Int)) (vAt b (i : Int)) = 0) →
    keysCmp (((List.range m).filter p).map (fun c : Nat => (⟨(c : Nat), false⟩ : K))) a b = cmpRow a b
  | 0, f, a, b, ha, hb, h => by
    have := List.eq_nil_of_length_eq_zero ha
    have := List.eq_nil_of_length_eq_zero hb
    subst a; subst b
    simp [keysCmp, cmpRow]
  | m + 1, f, x :: a, y :: b, ha, hb, h => by
    have ih := cmpRow_cols (fun i => p (i + 1)) m f a b (by simpa using ha) (by simpa using hb) (fun i hi hp => by
      have := h (i + 1) (by omega) hp
      rw [vAt_cons, vAt_cons] at this
      exact this)
    have shift : ∀ (l : List Nat), keysCmp ((l.map (· + 1)).map (fun c : Nat => (⟨(c : Nat), false⟩ : K))) (x :: a) (y :: b) = keysCmp (l.map (fun c : Nat => (⟨(c : Nat), false⟩ : K))) a b := by
      intro l
      induction l with
      | nil => rfl
      | cons c l ih =>
        simp only [List.map_cons, keysCmp, keyCmp, vAt_cons, ih]
    have h0x : vAt (x :: a) ((0 : Nat) : Int) = x := by simp [vAt, List.getD]
    have h0y : vAt (y :: b) ((0 : Nat) : Int) = y := by simp [vAt, List.getD]
    rw [List.range_succ_eq_map, List.filter_cons]
    have hf : ((List.range m).map Nat.succ).filter p = ((List.range m).filter (fun i => p (i + 1))).map (· + 1) := by
      rw [List.filter_map]; rfl
    rw [hf]
    cases hp : p 0 with
    | true =>
      simp only [if_true, List.map_cons, keysCmp, cmpRow]
      have ek : keyCmp ⟨((0 : Nat) : Int), false⟩ (x :: a) (y :: b) = cmpV x y := by simp only [keyCmp, h0x, h0y]; simp
      rw [ek, shift, ih]
    | false =>
      have := h 0 (by omega) hp
      rw [h0x, h0y] at this
      simp only [Bool.false_eq_true, if_false, cmpRow, this, if_true]
      rw [shift, ih]
  | m + 1, f, [], b, ha, hb, h => by simp at ha
  | m + 1, f, x :: a, [], ha, hb, h => by simp at hb
/-- By the full order, and by the keys: the same. -/
theorem byK_full {m : Nat} (ks : List K) {a b : List V} (ha : a.length = m) (hb : b.length = m) : byK (fullK m ks) a b = byK ks a b ∧ (keysCmp (fullK m ks) a b = byK ks a b) := by
  have key : keysCmp (fullK m ks) a b = byK ks a b := by
    rw [fullK_eq, keysCmp_append, byK_keys]
    by_cases h : keysCmp ks a b = 0
    · rw [if_pos h, if_pos h]
      refine cmpRow_cols (fun c : Nat => !ks.any (fun k => decide (k.c = (c : Int)))) m id a b ha hb fun i hi hp => ?_
      simp only [Bool.not_eq_false', List.any_eq_true, decide_eq_true_eq] at hp
      obtain ⟨k, hk, e⟩ := hp
      have := keysCmp_zero h k hk
      unfold keyCmp at this
      rw [e] at this
      split at this <;> omega
    · rw [if_neg h, if_neg h]
  refine ⟨?_, key⟩
  rw [byK_keys (ks := fullK m ks), key]
  split
  · rename_i h0
    rw [h0]
    rw [byK_keys] at h0
    split at h0
    · exact h0
    · rename_i hne; exact absurd h0 hne
  · rfl
end Go.Av
