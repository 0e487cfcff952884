/- Part of a proof: Digits, words, and the text of keys: the plain law. -/
import Derived.Test.YtmfgdgfamfpopaaGreatDoorKvKs
import Derived.Test.YtmfgdgfamfpopaaGreatDoorKvCa
import Derived.Lib.ItoaNum
import Derived.Lib.AtoiAll
import Derived.Lib.Fields
set_option maxRecDepth 100000
set_option linter.unusedSimpArgs false
set_option linter.unusedVariables false
namespace Go.Av
open Go Go.Proofs

def itoaL (n : Int) : List UInt8 := if n < 0 then 45 :: Lib.decDigits n.natAbs else Lib.decDigits n.toNat
theorem itoaB_L {n : Int} (h0 : -9223372036854775808 ≤ n) (h1 : n ≤ 9223372036854775807) : itoaB n = bs (itoaL n) := itoaB_eq h0 h1
def decVal (l : List UInt8) : Nat := l.foldl (fun a c => a * 10 + (c.toNat - 48)) 0
theorem decVal_snoc (l : List UInt8) (c : UInt8) : decVal (l ++ [c]) = decVal l * 10 + (c.toNat - 48) := by simp [decVal]
theorem decVal_dec (u : Nat) : decVal (Lib.decDigits u) = u := by
  induction u using Nat.strongRecOn with
  | _ u ih =>
    rw [Lib.decDigits]
    split
    · rename_i h
      simp [decVal, UInt8.toNat_ofNat']; omega
    · rename_i h
      rw [decVal_snoc, ih (u / 10) (by omega)]
      simp [UInt8.toNat_ofNat']; omega
theorem decDigits_inj {a b : Nat} (h : Lib.decDigits a = Lib.decDigits b) : a = b := by rw [← decVal_dec a, h, decVal_dec]
def isDig (c : UInt8) : Prop := 48 ≤ c.toNat ∧ c.toNat ≤ 57
theorem decDigits_dig (u : Nat) : Lib.decDigits u ≠ [] ∧ ∀ c ∈ Lib.decDigits u, isDig c := by
  induction u using Nat.strongRecOn with
  | _ u ih =>
    rw [Lib.decDigits]
    split
    · rename_i h
      refine ⟨by simp, fun c hc => ?_⟩
      obtain rfl := List.mem_singleton.1 hc
      simp [isDig, UInt8.toNat_ofNat']; omega
    · rename_i h
      refine ⟨by simp, fun c hc => ?_⟩
      rcases List.mem_append.1 hc with hc | hc
      · exact (ih (u / 10) (by omega)).2 c hc
      · obtain rfl := List.mem_singleton.1 hc
        simp [isDig, UInt8.toNat_ofNat']; omega
theorem decDigits_len : ∀ (k n : Nat), n < 10 ^ (k + 1) → (Lib.decDigits n).length ≤ k + 1
  | 0, n, h => by rw [Lib.decDigits]; simp at h; simp [h]
  | k + 1, n, h => by
    rw [Lib.decDigits]
    split
    · simp
    · have : n / 10 < 10 ^ (k + 1) := by rw [Nat.pow_succ] at h; omega
      have := decDigits_len k (n / 10) this
      simp; omega
theorem itoaL_len {n : Int} (h0 : -9223372036854775808 ≤ n) (h1 : n ≤ 9223372036854775807) : (itoaL n).length ≤ 21 := by
  unfold itoaL
  split
  · have := decDigits_len 19 n.natAbs (by omega)
    simp; omega
  · have := decDigits_len 19 n.toNat (by omega)
    omega
theorem itoaL_nat {n : Int} (h : 0 ≤ n) : itoaL n = Lib.decDigits n.toNat := by unfold itoaL; rw [if_neg (by omega)]
theorem itoaL_inj {a b : Int} (h : itoaL a = itoaL b) : a = b := by
  have neg : ∀ (x y : Int), x < 0 → ¬ y < 0 → itoaL x ≠ itoaL y := by
    intro x y hx hy e
    unfold itoaL at e
    rw [if_pos hx, if_neg hy] at e
    have := (decDigits_dig y.toNat).2 45 (by rw [← e]; simp)
    simp [isDig] at this
  by_cases ha : a < 0
  · by_cases hb : b < 0
    · unfold itoaL at h
      rw [if_pos ha, if_pos hb] at h
      have := decDigits_inj (List.cons.inj h).2
      omega
    · exact absurd h (neg a b ha hb)
  · by_cases hb : b < 0
    · exact absurd h.symm (neg b a hb ha)
    · unfold itoaL at h
      rw [if_neg ha, if_neg hb] at h
      have := decDigits_inj h
      omega

/-! ### reading digits -/
theorem parse_dec : ∀ (l : List UInt8) (acc : Nat), (∀ c ∈ l, isDig c) → l.foldl (fun a c => a * 10 + (c.toNat - 48)) acc < 9223372036854775808 → Lib.parseUint10 acc l = .ok (l.foldl (fun a c => a * 10 + (c.toNat - 48)) acc)
  | [], acc, _, _ => rfl
  | c :: l, acc, hd, hv => by
    have hc := hd c (.head _)
    have grow : ∀ (l : List UInt8) (a : Nat), a ≤ l.foldl (fun a c => a * 10 + (c.toNat - 48)) a := by
      intro l
      induction l with
      | nil => intro a; exact Nat.le_refl _
      | cons c l ih => intro a; rw [List.foldl_cons]; exact Nat.le_trans (by omega) (ih _)
    rw [List.foldl_cons] at hv ⊢
    have := grow l (acc * 10 + (c.toNat - 48))
    unfold isDig at hc
    rw [Lib.parseUint10, if_pos hc, if_neg (by omega), if_neg (by omega)]
    exact parse_dec l _ (fun c hc => hd c (.tail _ hc)) hv
theorem atoi_itoa {n : Int} (h0 : 0 ≤ n) (h1 : n ≤ 9223372036854775807) : Lib.atoiAll (itoaL n) = .ok n := by
  rw [itoaL_nat h0]
  obtain ⟨hne, hd⟩ := decDigits_dig n.toNat
  have hv := decVal_dec n.toNat
  have hp := parse_dec (Lib.decDigits n.toNat) 0 hd (by unfold decVal at hv; rw [hv]; omega)
  cases hl : Lib.decDigits n.toNat with
  | nil => exact absurd hl hne
  | cons c l =>
    rw [hl] at hd hp hv
    have hc := hd c (.head _)
    unfold isDig at hc
    unfold Lib.atoiAll
    have h43 : ¬ c.toNat = 43 := by omega
    have h45 : ¬ c.toNat = 45 := by omega
    simp only [h43, h45, or_self, if_false]
    have hm : Lib.parseMag (c :: l) = .ok n.toNat := by
      unfold Lib.parseMag
      rw [if_neg (by simp), hp]
      unfold decVal at hv
      rw [hv]
    rw [hm]
    have hn : ¬ 9223372036854775808 ≤ n.toNat := by omega
    simp [hn]
    omega

/-! ### the text of keys -/
def wrK (k : K) : List UInt8 := itoaL k.c ++ (if k.d then [45] else [])
def joinSp : List (List UInt8) → List UInt8
  | [] => []
  | x :: r => x ++ (r.map (fun y => 32 :: y)).flatten
def wrKs (ks : List K) : List UInt8 := 91 :: joinSp (ks.map wrK) ++ [93]
def colOk (k : K) : Prop := 0 ≤ k.c ∧ k.c ≤ 2147483647
def wbyte (b : UInt8) : Prop := isDig b ∨ b = 45
theorem wrK_bytes {k : K} (h : 0 ≤ k.c) : wrK k ≠ [] ∧ ∀ b ∈ wrK k, wbyte b := by
  unfold wrK
  rw [itoaL_nat h]
  obtain ⟨h1, h2⟩ := decDigits_dig k.c.toNat
  refine ⟨by simp [h1], fun b hb => ?_⟩
  rcases List.mem_append.1 hb with hb | hb
  · exact .inl (h2 b hb)
  · split at hb
    · exact .inr (List.mem_singleton.1 hb)
    · cases hb
theorem wrK_inj {a b : K} (ha : 0 ≤ a.c) (hb : 0 ≤ b.c) (h : wrK a = wrK b) : a = b := by
  obtain ⟨a1, a2⟩ := a
  obtain ⟨b1, b2⟩ := b
  simp only at ha hb
  have last : ∀ (x y : Int), 0 ≤ x → 0 ≤ y → itoaL x ++ [45] ≠ itoaL y := by
    intro x y hx hy e
    have := (decDigits_dig y.toNat).2 45 (by rw [← itoaL_nat hy, ← e]; simp)
    simp [isDig] at this
  unfold wrK at h
  cases a2 <;> cases b2 <;> simp at h
  · rw [itoaL_inj h]
  · exact absurd h.symm (last b1 a1 hb ha)
  · exact absurd h (last a1 b1 ha hb)
  · rw [itoaL_inj h]
/-- Words of digits: a split at blanks. -/
theorem join_split : ∀ {a b : List (List UInt8)}, (∀ w ∈ a, ∀ c ∈ w, c ≠ 32) → (∀ w ∈ b, ∀ c ∈ w, c ≠ 32) → (a.map (fun y => (32 : UInt8) :: y)).flatten = (b.map (fun y => 32 :: y)).flatten → a = b
  | [], [], _, _, _ => rfl
  | [], w :: b, _, _, h => by simp at h
  | w :: a, [], _, _, h => by simp at h
  | w :: a, v :: b, ha, hb, h => by
    simp only [List.map_cons, List.flatten_cons, List.cons_append, List.cons.injEq, true_and] at h
    have key : ∀ (w v : List UInt8), (∀ c ∈ w, c ≠ 32) → (∀ c ∈ v, c ≠ 32) → w ++ (a.map (fun y => (32 : UInt8) :: y)).flatten = v ++ (b.map (fun y => 32 :: y)).flatten → w = v ∧ (a.map (fun y => (32 : UInt8) :: y)).flatten = (b.map (fun y => 32 :: y)).flatten := by
      intro w
      induction w with
      | nil =>
        intro v _ hv h
        cases v with
        | nil => exact ⟨rfl, h⟩
        | cons c v =>
          exfalso
          simp only [List.nil_append, List.cons_append] at h
          cases a with
          | nil => simp at h
          | cons x a =>
            simp only [List.map_cons, List.flatten_cons, List.cons_append, List.cons.injEq] at h
            exact hv c (.head _) h.1.symm
      | cons d w ih =>
        intro v hw hv h
        cases v with
        | nil =>
          exfalso
          simp only [List.nil_append, List.cons_append] at h
          cases b with
          | nil => simp at h
          | cons x b =>
            simp only [List.map_cons, List.flatten_cons, List.cons_append, List.cons.injEq] at h
            exact hw d (.head _) h.1
        | cons c v =>
          simp only [List.cons_append, List.cons.injEq] at h
          obtain ⟨h1, h2⟩ := ih v (fun c hc => hw c (.tail _ hc)) (fun c hc => hv c (.tail _ hc)) h.2
          exact ⟨by rw [h.1, h1], h2⟩
    obtain ⟨h1, h2⟩ := key w v (ha w (.head _)) (hb v (.head _)) h
    rw [h1, join_split (fun w hw => ha w (.tail _ hw)) (fun w hw => hb w (.tail _ hw)) h2]
theorem wbyte_ne {b : UInt8} (h : wbyte b) : b ≠ 32 ∧ Lib.isSp b = false ∧ b.toNat < 128 := by
  have hb : b.toNat = 45 ∨ isDig b := by
    rcases h with h | rfl
    · exact .inr h
    · exact .inl rfl
  unfold isDig at hb
  have ne : ∀ c : UInt8, b.toNat ≠ c.toNat → (b == c) = false := fun c hc => by
    rw [beq_eq_false_iff_ne]
    rintro rfl
    exact hc rfl
  refine ⟨?_, ?_, by omega⟩
  · rintro rfl
    simp at hb
  · unfold Lib.isSp
    rw [ne 9 (by simp; omega), ne 10 (by simp; omega), ne 11 (by simp; omega), ne 12 (by simp; omega), ne 13 (by simp; omega), ne 32 (by simp; omega)]
    rfl
theorem wrKs_inj {a b : List K} (ha : ∀ k ∈ a, 0 ≤ k.c) (hb : ∀ k ∈ b, 0 ≤ k.c) (h : wrKs a = wrKs b) : a = b := by
  have words : ∀ l : List K, (∀ k ∈ l, 0 ≤ k.c) → ∀ w ∈ l.map wrK, ∀ c ∈ w, c ≠ 32 := by
    intro l hl w hw c hc
    obtain ⟨k, hk, rfl⟩ := List.mem_map.1 hw
    exact (wbyte_ne ((wrK_bytes (hl k hk)).2 c hc)).1
  have h' : joinSp (a.map wrK) = joinSp (b.map wrK) := by
    simp only [wrKs, List.cons_append, List.cons.injEq, true_and] at h
    exact List.append_cancel_right h
  have inj : ∀ {a b : List K}, (∀ k ∈ a, 0 ≤ k.c) → (∀ k ∈ b, 0 ≤ k.c) → a.map wrK = b.map wrK → a = b := by
    intro a
    induction a with
    | nil => intro b _ _ h; cases b with | nil => rfl | cons _ _ => simp at h
    | cons x a ih =>
      intro b ha hb h
      cases b with
      | nil => simp at h
      | cons y b =>
        simp only [List.map_cons, List.cons.injEq] at h
        rw [wrK_inj (ha x (.head _)) (hb y (.head _)) h.1, ih (fun k hk => ha k (.tail _ hk)) (fun k hk => hb k (.tail _ hk)) h.2]
  apply inj ha hb
  cases a with
  | nil =>
    cases b with
    | nil => rfl
    | cons y b =>
      exfalso
      simp only [List.map_nil, List.map_cons, joinSp] at h'
      have := (wrK_bytes (hb y (.head _))).1
      cases hw : wrK y with
      | nil => exact this hw
      | cons c l => rw [hw] at h'; simp at h'
  | cons x a =>
    cases b with
    | nil =>
      exfalso
      simp only [List.map_nil, List.map_cons, joinSp] at h'
      have := (wrK_bytes (ha x (.head _))).1
      cases hw : wrK x with
      | nil => exact this hw
      | cons c l => rw [hw] at h'; simp at h'
    | cons y b =>
      have h2 : (((x :: a).map wrK).map (fun z => (32 : UInt8) :: z)).flatten = (((y :: b).map wrK).map (fun z => 32 :: z)).flatten := by
        simp only [List.map_cons, joinSp] at h'
        simp only [List.map_cons, List.flatten_cons, List.cons_append]
        rw [h']
      exact join_split (words _ ha) (words _ hb) h2
/-- The words of a text of keys. -/
theorem fields_join (w : List UInt8) (hw : w ≠ []) (hs : ∀ c ∈ w, Lib.isSp c = false) : ∀ (cur : List UInt8) (r : List (List UInt8)), (∀ v ∈ r, v ≠ [] ∧ ∀ c ∈ v, Lib.isSp c = false) → Lib.fieldsGo cur (w ++ (r.map (fun y => 32 :: y)).flatten) = (cur ++ w) :: r := by
  have run : ∀ (w : List UInt8), (∀ c ∈ w, Lib.isSp c = false) → ∀ (cur rest : List UInt8), Lib.fieldsGo cur (w ++ rest) = Lib.fieldsGo (cur ++ w) rest := by
    intro w
    induction w with
    | nil => intro _ cur rest; simp
    | cons c w ih =>
      intro h cur rest
      rw [List.cons_append, Lib.fieldsGo_more _ _ _ (h c (.head _)), ih (fun c hc => h c (.tail _ hc))]
      simp
  have fin : ∀ (r : List (List UInt8)), (∀ v ∈ r, v ≠ [] ∧ ∀ c ∈ v, Lib.isSp c = false) → ∀ cur, cur ≠ [] → Lib.fieldsGo cur (r.map (fun y => (32 : UInt8) :: y)).flatten = cur :: r := by
    intro r
    induction r with
    | nil =>
      intro _ cur hc
      simp only [List.map_nil, List.flatten_nil, Lib.fieldsGo]
      cases cur with
      | nil => exact absurd rfl hc
      | cons _ _ => rfl
    | cons v r ih =>
      intro h cur hc
      obtain ⟨v1, v2⟩ := h v (.head _)
      rw [List.map_cons, List.flatten_cons, List.cons_append, Lib.fieldsGo_end _ _ _ (by decide) hc, run v v2, List.nil_append, ih (fun v hv => h v (.tail _ hv)) v v1]
  intro cur r hr
  rw [run w hs, fin r hr _ (by simp [hw])]
theorem fields_keys {ks : List K} (hk : ∀ k ∈ ks, 0 ≤ k.c) : Lib.fields (joinSp (ks.map wrK)) = ks.map wrK := by
  cases ks with
  | nil => rfl
  | cons x r =>
    have hx := wrK_bytes (hk x (.head _))
    unfold Lib.fields
    simp only [List.map_cons, joinSp]
    rw [fields_join (wrK x) hx.1 (fun c hc => (wbyte_ne (hx.2 c hc)).2.1) [] (r.map wrK) (fun v hv => by
      obtain ⟨k, hk', rfl⟩ := List.mem_map.1 hv
      have h := wrK_bytes (hk k (.tail _ hk'))
      exact ⟨h.1, fun c hc => (wbyte_ne (h.2 c hc)).2.1⟩)]
    simp
theorem joinSp_ascii {ks : List K} (hk : ∀ k ∈ ks, 0 ≤ k.c) : ∀ b ∈ joinSp (ks.map wrK), b.toNat < 128 := by
  have h : ∀ k ∈ ks, ∀ b ∈ wrK k, b.toNat < 128 := fun k hk' b hb => (wbyte_ne ((wrK_bytes (hk k hk')).2 b hb)).2.2
  cases ks with
  | nil => intro b hb; simp [joinSp] at hb
  | cons x r =>
    intro b hb
    simp only [List.map_cons, joinSp, List.mem_append, List.mem_flatten, List.mem_map] at hb
    rcases hb with hb | ⟨l, ⟨w, ⟨k, hk', rfl⟩, rfl⟩, hb⟩
    · exact h x (.head _) b hb
    · rcases List.mem_cons.1 hb with rfl | hb
      · decide
      · exact h k (.tail _ hk') b hb
theorem joinSp_len {ks : List K} (hk : ∀ k ∈ ks, 0 ≤ k.c ∧ k.c ≤ 9223372036854775807) : (joinSp (ks.map wrK)).length ≤ 24 * ks.length := by
  have hw : ∀ k ∈ ks, (wrK k).length ≤ 22 := fun k hk' => by
    have := itoaL_len (n := k.c) (by have := hk k hk'; omega) (hk k hk').2
    unfold wrK
    split <;> simp <;> omega
  have hr : ∀ (r : List K), (∀ k ∈ r, (wrK k).length ≤ 22) → (((r.map wrK).map (fun y => (32 : UInt8) :: y)).flatten).length ≤ 24 * r.length := by
    intro r
    induction r with
    | nil => intro _; simp
    | cons x r ih =>
      intro h
      have h1 := h x (.head _)
      have h2 := ih (fun k hk => h k (.tail _ hk))
      simp only [List.map_cons, List.flatten_cons, List.length_append, List.length_cons] at h2 ⊢
      omega
  cases ks with
  | nil => simp [joinSp]
  | cons x r =>
    have h1 := hw x (.head _)
    have h2 := hr r (fun k hk => hw k (.tail _ hk))
    simp only [List.map_cons, joinSp, List.length_append, List.length_cons] at h2 ⊢
    omega
end Go.Av
