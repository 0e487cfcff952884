/- Part of a proof: Both definitions of what holds of rows are one. -/
import Derived.Test.YtlhmipepdcndoaaGreatDoorZvEg
set_option maxRecDepth 100000
set_option linter.unusedSimpArgs false
set_option linter.unusedVariables false
namespace Go.Av
open Go Go.Proofs

/-! ### digits -/
def decVal (l : List UInt8) : Nat := l.foldl (fun a c => a * 10 + (c.toNat - 48)) 0
theorem decVal_snoc (l : List UInt8) (c : UInt8) : decVal (l ++ [c]) = decVal l * 10 + (c.toNat - 48) := by simp [decVal]
theorem decVal_dec (u : Nat) : decVal (Lib.decDigits u) = u := by
  induction u using Nat.strongRecOn with
  | _ u ih =>
    rw [Lib.decDigits]
    split
    · rename_i h
      simp [decVal, UInt8.toNat_ofNat']; omega
    · rename_i h
      rw [decVal_snoc, ih (u / 10) (by omega)]
      simp [UInt8.toNat_ofNat']; omega
theorem decDigits_inj {a b : Nat} (h : Lib.decDigits a = Lib.decDigits b) : a = b := by rw [← decVal_dec a, h, decVal_dec]
theorem decDigits_dig (u : Nat) : Lib.decDigits u ≠ [] ∧ ∀ c ∈ Lib.decDigits u, 48 ≤ c.toNat ∧ c.toNat ≤ 57 := by
  induction u using Nat.strongRecOn with
  | _ u ih =>
    rw [Lib.decDigits]
    split
    · rename_i h
      refine ⟨by simp, fun c hc => ?_⟩
      obtain rfl := List.mem_singleton.1 hc
      simp [UInt8.toNat_ofNat']; omega
    · rename_i h
      refine ⟨by simp, fun c hc => ?_⟩
      rcases List.mem_append.1 hc with hc | hc
      · exact (ih (u / 10) (by omega)).2 c hc
      · obtain rfl := List.mem_singleton.1 hc
        simp [UInt8.toNat_ofNat']; omega

/-! ### a value's string says which value it is -/
/-- The first byte of a string of digits. -/
theorem itoaL_head (n : Int) : ∃ c l, itoaL n = c :: l ∧ (c.toNat = 45 ∨ (48 ≤ c.toNat ∧ c.toNat ≤ 57)) ∧ ∀ b ∈ itoaL n, b.toNat = 45 ∨ (48 ≤ b.toNat ∧ b.toNat ≤ 57) := by
  unfold itoaL
  split
  · exact ⟨45, _, rfl, .inl rfl, fun b hb => by
      rcases List.mem_cons.1 hb with rfl | hb
      · exact .inl rfl
      · exact .inr ((decDigits_dig _).2 b hb)⟩
  · obtain ⟨h1, h2⟩ := decDigits_dig n.toNat
    cases hd : Lib.decDigits n.toNat with
    | nil => exact absurd hd h1
    | cons c l =>
      rw [hd] at h2
      exact ⟨c, l, rfl, .inr (h2 c (.head _)), fun b hb => .inr (h2 b hb)⟩
theorem itoaL_inj {a b : Int} (h : itoaL a = itoaL b) : a = b := by
  have neg : ∀ (x y : Int), x < 0 → ¬ y < 0 → itoaL x ≠ itoaL y := by
    intro x y hx hy e
    unfold itoaL at e
    rw [if_pos hx, if_neg hy] at e
    have := (decDigits_dig y.toNat).2 45 (by rw [← e]; simp)
    simp at this
  by_cases ha : a < 0
  · by_cases hb : b < 0
    · unfold itoaL at h
      rw [if_pos ha, if_pos hb] at h
      have := decDigits_inj (List.cons.inj h).2
      omega
    · exact absurd h (neg a b ha hb)
  · by_cases hb : b < 0
    · exact absurd h.symm (neg b a hb ha)
    · unfold itoaL at h
      rw [if_neg ha, if_neg hb] at h
      have := decDigits_inj h
      omega
/-- What is before the first comma. -/
theorem comma_split : ∀ {a b x y : List UInt8}, (∀ c ∈ a, c ≠ 44) → (∀ c ∈ b, c ≠ 44) → a ++ 44 :: x = b ++ 44 :: y → a = b ∧ x = y
  | [], [], x, y, _, _, h => ⟨rfl, by simpa using h⟩
  | [], c :: b, x, y, _, hb, h => by
    simp only [List.nil_append, List.cons_append, List.cons.injEq] at h
    exact absurd h.1.symm (hb c (.head _))
  | c :: a, [], x, y, ha, _, h => by
    simp only [List.nil_append, List.cons_append, List.cons.injEq] at h
    exact absurd h.1 (ha c (.head _))
  | c :: a, d :: b, x, y, ha, hb, h => by
    simp only [List.cons_append, List.cons.injEq] at h
    obtain ⟨h1, h2⟩ := comma_split (fun c hc => ha c (.tail _ hc)) (fun c hc => hb c (.tail _ hc)) h.2
    exact ⟨by rw [h.1, h1], h2⟩
theorem dbl_split : ∀ {a b x y : List UInt8}, dbl a ++ 39 :: 44 :: x = dbl b ++ 39 :: 44 :: y → a = b ∧ x = y
  | [], [], x, y, h => ⟨rfl, by simpa [dbl] using h⟩
  | [], c :: b, x, y, h => by
    simp only [dbl] at h
    split at h
    · simp at h
    · rename_i hc
      simp only [List.nil_append, List.cons_append, List.cons.injEq] at h
      exact absurd h.1.symm hc
  | c :: a, [], x, y, h => by
    simp only [dbl] at h
    split at h
    · simp at h
    · rename_i hc
      simp only [List.nil_append, List.cons_append, List.cons.injEq] at h
      exact absurd h.1 hc
  | c :: a, d :: b, x, y, h => by
    simp only [dbl] at h
    split at h
    · rename_i hc
      split at h
      · rename_i hd
        simp only [List.cons_append, List.cons.injEq, true_and] at h
        obtain ⟨h1, h2⟩ := dbl_split h
        exact ⟨by rw [hc, hd, h1], h2⟩
      · rename_i hd
        simp only [List.cons_append, List.cons.injEq] at h
        exact absurd h.1.symm hd
    · rename_i hc
      split at h
      · rename_i hd
        simp only [List.cons_append, List.cons.injEq] at h
        exact absurd h.1 hc
      · simp only [List.cons_append, List.cons.injEq] at h
        obtain ⟨h1, h2⟩ := dbl_split h.2
        exact ⟨by rw [h.1, h1], h2⟩
/-- The kinds apart, by what the string is. -/
inductive WrIs (v : V) : Prop where
  | int (hk : v.k = 1) (ht : v.t = []) (h : wrL v = itoaL v.n)
  | fls (hk : v.k = 2) (ht : v.t = []) (hn : v.n = 0) (h : wrL v = [102, 97, 108, 115, 101])
  | tru (hk : v.k = 2) (ht : v.t = []) (hn : v.n = 1) (h : wrL v = [116, 114, 117, 101])
  | txt (hk : v.k = 3) (hn : v.n = 0) (h : wrL v = 39 :: dbl v.t ++ [39])
  | nul (hk : v.k = 0) (hn : v.n = 0) (ht : v.t = []) (h : wrL v = [110, 117, 108, 108])
theorem wrIs {v : V} (h : isV v = true) : WrIs v := by
  unfold isV at h
  split at h
  · rename_i hk
    simp at h
    exact .nul hk h.1 h.2 (by unfold wrL; rw [if_neg (by omega), if_neg (by omega), if_neg (by omega)])
  · split at h
    · rename_i hk
      exact .int hk (by simpa using h) (by unfold wrL; rw [if_pos hk])
    · split at h
      · rename_i hk
        simp at h
        rcases h.1 with hn | hn
        · exact .fls hk h.2 hn (by unfold wrL; rw [if_neg (by omega), if_pos hk, if_pos hn])
        · exact .tru hk h.2 hn (by unfold wrL; rw [if_neg (by omega), if_pos hk, if_neg (by omega)])
      · split at h
        · rename_i hk
          simp at h
          exact .txt hk h.1.1 (by unfold wrL; rw [if_neg (by omega), if_neg (by omega), if_pos hk])
        · cases h
theorem itoaL_no {n : Int} {b : UInt8} (hb : b.toNat ≠ 45 ∧ ¬ (48 ≤ b.toNat ∧ b.toNat ≤ 57)) : ∀ c ∈ itoaL n, c ≠ b := by
  intro c hc e
  subst e
  obtain ⟨_, _, _, _, h⟩ := itoaL_head n
  rcases h c hc with h | h
  · exact hb.1 h
  · exact hb.2 h
theorem V.ext' {v w : V} (h1 : v.k = w.k) (h2 : v.n = w.n) (h3 : v.t = w.t) : v = w := by cases v; cases w; simp_all
theorem wr_split {v w : V} {x y : List UInt8} (hv : isV v = true) (hw : isV w = true) (h : wrL v ++ 44 :: x = wrL w ++ 44 :: y) : v = w ∧ x = y := by
  have dig : ∀ (n : Int) (c : UInt8) (l r z : List UInt8), (c.toNat ≠ 45 ∧ ¬ (48 ≤ c.toNat ∧ c.toNat ≤ 57)) → itoaL n ++ r ≠ c :: l := by
    intro n c l r z hc e
    obtain ⟨d, l', h1, h2, _⟩ := itoaL_head n
    rw [h1] at e
    simp only [List.cons_append, List.cons.injEq] at e
    rw [e.1] at h2
    rcases h2 with h2 | h2
    · exact hc.1 h2
    · exact hc.2 h2
  rcases wrIs hv with ⟨k1, t1, e1⟩ | ⟨k1, t1, n1, e1⟩ | ⟨k1, t1, n1, e1⟩ | ⟨k1, n1, e1⟩ | ⟨k1, n1, t1, e1⟩ <;>
  rcases wrIs hw with ⟨k2, t2, e2⟩ | ⟨k2, t2, n2, e2⟩ | ⟨k2, t2, n2, e2⟩ | ⟨k2, n2, e2⟩ | ⟨k2, n2, t2, e2⟩ <;> rw [e1, e2] at h
  case int.int =>
    obtain ⟨h1, h2⟩ := comma_split (itoaL_no (by decide)) (itoaL_no (by decide)) h
    exact ⟨V.ext' (by omega) (itoaL_inj h1) (by rw [t1, t2]), h2⟩
  case txt.txt =>
    simp only [List.cons_append, List.append_assoc, List.cons.injEq, true_and, List.nil_append] at h
    obtain ⟨h1, h2⟩ := dbl_split h
    exact ⟨V.ext' (by omega) (by omega) h1, h2⟩
  case fls.fls => exact ⟨V.ext' (by omega) (by omega) (by rw [t1, t2]), by simpa using h⟩
  case tru.tru => exact ⟨V.ext' (by omega) (by omega) (by rw [t1, t2]), by simpa using h⟩
  case nul.nul => exact ⟨V.ext' (by omega) (by omega) (by rw [t1, t2]), by simpa using h⟩
  all_goals first
    | (simp at h; done)
    | (exact absurd h (dig _ _ _ _ [] (by decide)))
    | (exact absurd h.symm (dig _ _ _ _ [] (by decide)))
theorem name_inj {a b : List V} (ha : ∀ v ∈ a, goodV v) (hb : ∀ v ∈ b, goodV v) : ∀ {s : List Int}, (∀ c ∈ s, 0 ≤ c ∧ c < a.length) → (∀ c ∈ s, 0 ≤ c ∧ c < b.length) → nameL a s = nameL b s → atR a s = atR b s
  | [], _, _, _ => rfl
  | c :: s, h1, h2, h => by
    have g1 := vAt_get (r := a) (k := ⟨c, false⟩) (h1 c (.head _))
    have g2 := vAt_get (r := b) (k := ⟨c, false⟩) (h2 c (.head _))
    simp only [nameL, List.map_cons, List.flatten_cons, List.append_assoc, List.singleton_append] at h
    obtain ⟨e1, e2⟩ := wr_split (ha _ (List.mem_of_getElem? g1)).1 (hb _ (List.mem_of_getElem? g2)).1 h
    have ih := name_inj ha hb (fun c hc => h1 c (.tail _ hc)) (fun c hc => h2 c (.tail _ hc)) e2
    simp only [atR, List.map_cons] at ih ⊢
    simp only at e1
    rw [e1, ih]
theorem name_congr {a b : List V} {s : List Int} (h : atR a s = atR b s) : nameL a s = nameL b s := by
  have e : ∀ r, nameL r s = ((atR r s).map fun v => wrL v ++ [44]).flatten := fun r => by simp [nameL, atR]; rfl
  rw [e, e, h]

/-! ### no two rows -/
theorem uniqGo_iff (s : List Int) : ∀ (l : List (List V)) (met : List (List UInt8)), uniqGo s met l = true ↔ (∀ r ∈ l, nameL r s ∉ met) ∧ l.Pairwise (fun a b => nameL a s ≠ nameL b s)
  | [], met => by simp [uniqGo]
  | r :: l, met => by
    have ih := uniqGo_iff s l (met ++ [nameL r s])
    unfold uniqGo
    by_cases h : nameL r s ∈ met
    · simp [h]
    · rw [if_neg h, ih, List.pairwise_cons]
      constructor
      · rintro ⟨h1, h2⟩
        refine ⟨fun x hx => ?_, fun x hx e => ?_, h2⟩
        · rcases List.mem_cons.1 hx with rfl | hx
          · exact h
          · exact fun e => h1 x hx (List.mem_append.2 (.inl e))
        · exact h1 x hx (List.mem_append.2 (.inr (by simp [e])))
      · rintro ⟨h1, h2, h3⟩
        refine ⟨fun x hx e => ?_, h3⟩
        rcases List.mem_append.1 e with e | e
        · exact h1 x (.tail _ hx) e
        · exact h2 x hx (List.mem_singleton.1 e).symm
theorem eqV_iff' {a b : V} : eqV a b = true ↔ a = b := eqV_iff a b
theorem cmpL_zero : ∀ {a b : List UInt8}, cmpL a b = 0 → a = b
  | [], [], _ => rfl
  | [], _ :: _, h => by simp [cmpL] at h
  | _ :: _, [], h => by simp [cmpL] at h
  | a :: l, b :: r, h => by
    simp only [cmpL] at h
    split at h
    · rename_i e; rw [e, cmpL_zero h]
    · split at h <;> omega
theorem cmpV_zero' {a b : V} (h : cmpV a b = 0) : a = b := by
  unfold cmpV at h
  split at h
  · split at h <;> omega
  · split at h
    · split at h <;> omega
    · rename_i h1 h2
      exact V.ext' (by simpa using h1) (by simpa using h2) (cmpL_zero h)
theorem cmpRow_zero' : ∀ {a b : List V}, cmpRow a b = 0 ↔ a = b
  | [], [] => by simp [cmpRow]
  | [], _ :: _ => by simp [cmpRow]
  | _ :: _, [] => by simp [cmpRow]
  | a :: l, b :: r => by
    have ih := cmpRow_zero' (a := l) (b := r)
    simp only [cmpRow]
    by_cases h : cmpV a b = 0
    · have := cmpV_zero' h
      subst this
      rw [if_pos h, ih]; simp
    · rw [if_neg h]
      constructor
      · intro e; exact absurd e h
      · intro e
        simp only [List.cons.injEq] at e
        obtain ⟨rfl, rfl⟩ := e
        exfalso
        have := cmpV_anti a a
        omega
theorem holds_same {f : Dep} {l : List (List V)} {n : Nat} (hd : f.InN n) (hl : ∀ r ∈ l, r.length = n ∧ ∀ v ∈ r, goodV v) : holdsP f l = holdsB f l := by
  have hset : ∀ s ∈ f.sets, (uniqGo s [] l = true ↔ ∀ (i : Nat) (hi : i < l.length), setB1 l i s = true) := by
    intro s hs
    have hcol : ∀ r ∈ l, ∀ c ∈ s, 0 ≤ c ∧ c < (r.length : Int) := fun r hr c hc => by
      have := (hl r hr).1
      have := (hd.s s hs).2 c hc
      omega
    rw [uniqGo_iff, List.pairwise_iff_getElem]
    constructor
    · rintro ⟨_, h⟩ i hi
      unfold setB1
      rw [List.all_eq_true]
      intro j hj
      rw [List.mem_range] at hj
      simp only [Bool.not_eq_true', decide_eq_false_iff_not]
      intro e
      have e' := cmpRow_zero'.1 e
      rw [getD_of (x := l[i]) (by simp [hi]), getD_of (x := l[j]) (by simp [show j < l.length by omega])] at e'
      exact h j i (by omega) hi hj (name_congr e'.symm)
    · intro h
      refine ⟨by simp, fun i j hi hj hij e => ?_⟩
      have h1 := h j hj
      unfold setB1 at h1
      rw [List.all_eq_true] at h1
      have h2 := h1 i (List.mem_range.2 hij)
      simp only [Bool.not_eq_true', decide_eq_false_iff_not] at h2
      apply h2
      have gi : l.getD i [] = l[i] := getD_of (List.getElem?_eq_getElem hi)
      have gj : l.getD j [] = l[j] := getD_of (List.getElem?_eq_getElem hj)
      rw [gi, gj, cmpRow_zero']
      have m1 := List.getElem_mem hi
      have m2 := List.getElem_mem hj
      exact (name_inj (hl _ m1).2 (hl _ m2).2 (hcol _ m1) (hcol _ m2) e).symm
  rw [Bool.eq_iff_iff]
  unfold holdsP holdsB rowB constB equalB
  simp only [Bool.and_eq_true, List.all_eq_true, List.mem_range]
  constructor
  · rintro ⟨⟨h1, h2⟩, h3⟩ i hi
    have hm := List.getElem_mem hi
    have hg : l.getD i [] = l[i] := getD_of (by simp [hi])
    rw [hg]
    exact ⟨⟨fun c hc => h1 c hc _ hm, fun p hp => h2 p hp _ hm⟩, fun s hs => (hset s hs).1 (h3 s hs) i hi⟩
  · intro h
    have key : ∀ r ∈ l, ∃ i, ∃ hi : i < l.length, l.getD i [] = r := fun r hr => by
      obtain ⟨i, hi, e⟩ := List.getElem_of_mem hr
      exact ⟨i, hi, by rw [← e]; exact getD_of (by simp [hi])⟩
    refine ⟨⟨fun c hc r hr => ?_, fun p hp r hr => ?_⟩, fun s hs => (hset s hs).2 fun i hi => (h i hi).2 s hs⟩
    · obtain ⟨i, hi, rfl⟩ := key r hr
      exact (h i hi).1.1 c hc
    · obtain ⟨i, hi, rfl⟩ := key r hr
      exact (h i hi).1.2 p hp
end Go.Av
