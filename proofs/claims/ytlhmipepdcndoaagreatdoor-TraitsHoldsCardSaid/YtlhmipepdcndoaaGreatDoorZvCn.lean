/- Part of a proof: Rows: At, Sorted, Equal. -/
import Derived.Test.YtlhmipepdcndoaaGreatDoorZvCm
set_option maxRecDepth 100000
set_option linter.unusedSimpArgs false
set_option linter.unusedVariables false
namespace Go.Av
open Go Go.Proofs

/-! ### At -/
def atR (r : List V) (cs : List Int) : List V := cs.map (vAt r)
def st47 (r : List V) (cs : List Int) (S : List Bx) (acc : List V) (i : Nat) : St :=
  { σ := [(0, .v (.slice 3 (r.map V.av))), (1, .v (.slice 1 (cs.map iav))), (5, .v (.slice 3 (acc.map V.av))), (6, .v (.int .i64 i))], own := [(5, 71)], loc := [], S := S }
theorem c47 (r : List V) (cs : List Int) (S : List Bx) (hl : cs.length ≤ 1000000) (hc : ∀ c ∈ cs, 0 ≤ c ∧ c < r.length) : run 47 [rowAV r, intsAV cs] S = some (.ret (rowAV (atR r cs)) (some 71), S) := by
  refine eqn rfl ?_
  have h := loop_fold (f := acode run a47_l0) cs (fun acc i => st47 r cs S acc i) (fun acc c => acc ++ [vAt r c])
    (fun acc => (.exit 0, { σ := [(5, .v (.slice 3 (acc.map V.av)))], own := [(5, 71)], loc := [], S := S })) (fun i acc => acc.length ≤ i) (b0 := []) (by simp)
    (fun i acc c hi hx => by
      refine ⟨?_, by simp; omega⟩
      show acode run a47_l0 (st47 r cs S acc i) = _
      rw [acode_k]
      have h1 := ilt hx
      obtain ⟨c0, c1⟩ := hc c (List.mem_of_getElem? hx)
      have hg := vAt_get (r := r) (k := ⟨c, false⟩) ⟨c0, c1⟩
      simp only at hg
      have hb : (acc.length + 1) * 32 ≤ 140737488355328 := by omega
      generalize vAt r c = v at *
      simp [a47_l0, st47, hx, h1, iav, c0, hg, V.av, hb, w64s (n := i) (by omega)])
    (fun acc _ => by
      show acode run a47_l0 (st47 r cs S acc cs.length) = _
      rw [acode_k]
      simp [a47_l0, st47])
    (fun _ => by simp)
  have e : ∀ (m : List Int) (acc : List V), m.foldl (fun acc c => acc ++ [vAt r c]) acc = acc ++ m.map (vAt r) := by
    intro m
    induction m with
    | nil => simp
    | cons c m ih => intro acc; simp [ih]
  rw [e, List.nil_append] at h
  simp only [st47, Int.natCast_zero, Int.ofNat_zero, List.map_nil] at h
  have e2 : cs.map (vAt r) = atR r cs := rfl
  rw [e2] at h
  simp [a47, rowAV, intsAV, h]

/-! ### Sorted -/
def st16 (ks : List K) (l : List (List V)) (S : List Bx) (i : Nat) (c : Int) (k : Nat) : St :=
  { σ := [(0, .v (.slice 2 (ks.map K.av))), (1, .v (.slice 1 (l.map rowAV))), (5, .v (.int .i64 i)), (6, .v (.int .i64 c)), (7, .v (.int .i64 k))], own := [], loc := [], S := S }
def out16 (ks : List K) (l : List (List V)) (S : List Bx) (i : Nat) (c : Int) : AEx × St :=
  (.exit 2, { σ := [(0, .v (.slice 2 (ks.map K.av))), (1, .v (.slice 1 (l.map rowAV))), (5, .v (.int .i64 i)), (6, .v (.int .i64 c))], own := [], loc := [], S := S })
theorem keyCmp_range (k : K) (a b : List V) : keyCmp k a b = -1 ∨ keyCmp k a b = 0 ∨ keyCmp k a b = 1 := by
  unfold keyCmp
  have := cmpV_range (vAt a k.c) (vAt b k.c)
  split <;> omega
theorem keysCmp_range : ∀ (ks : List K) (a b : List V), keysCmp ks a b = -1 ∨ keysCmp ks a b = 0 ∨ keysCmp ks a b = 1
  | [], a, b => by simp [keysCmp]
  | k :: ks, a, b => by
    simp only [keysCmp]
    split
    · exact keysCmp_range ks a b
    · exact keyCmp_range k a b
theorem inner16 (ks : List K) (l : List (List V)) (S : List Bx) (i : Nat) (a b : List V) (ha : l[i]? = some a) (hb : l[i + 1]? = some b) (fa : fitR ks a) (fb : fitR ks b) (hi : i < 9223372036854775800) (hks : ks.length ≤ 1000000) :
    ∀ (m pre : List K), ks = pre ++ m → aloopW (acode run a16_l0) (st16 ks l S (i + 1) 0 pre.length) = some (out16 ks l S (i + 1) (keysCmp m a b))
  | [], pre, e => by
    refine aloopW_stop ?_ (by simp [out16])
    have hl : ks.length = pre.length := by rw [e]; simp
    rw [acode_k]
    simp [a16_l0, st16, out16, hl, keysCmp]
  | k :: m, pre, e => by
    have hx : ks[pre.length]? = some k := by rw [e]; simp
    have h1 := ilt hx
    have hmem := List.mem_of_getElem? hx
    obtain ⟨hka0, hka1⟩ := fa.1 k hmem
    have ga := vAt_get (fa.1 k hmem)
    have gb := vAt_get (fb.1 k hmem)
    have q := c48 (vAt a k.c) (vAt b k.c) S (fa.2.1 _ (List.mem_of_getElem? ga))
    have hr := cmpV_range (vAt a k.c) (vAt b k.c)
    have hkc : keyCmp k a b = if k.d then -cmpV (vAt a k.c) (vAt b k.c) else cmpV (vAt a k.c) (vAt b k.c) := rfl
    have hlen : pre.length < ks.length := by rw [e]; simp
    have w1 : IntKind.wrap .i64 (((i + 1 : Nat) : Int) - 1) = (i : Int) := by rw [wr64 (by omega) (by omega)]; omega
    have w1' : IntKind.wrap .i64 (i : Int) = (i : Int) := wr64 (by omega) (by omega)
    have w2 : ((i : Int) + 1).toNat = i + 1 := by omega
    have w3 : (0 : Int) ≤ (i : Int) + 1 := by omega
    generalize vAt a k.c = va at *
    generalize vAt b k.c = vb at *
    simp only [V.av] at q
    have hw := wneg hr
    have w4 : IntKind.wrap .i64 ((pre.length : Int) + 1) = (pre.length : Int) + 1 := w64s (by omega)
    have step : acode run a16_l0 (st16 ks l S (i + 1) 0 pre.length) = some (.normal, st16 ks l S (i + 1) (keyCmp k a b) (pre.length + 1)) := by
      rw [acode_k, hkc]
      cases hd : k.d <;> simp [a16_l0, st16, hx, h1, ha, hb, K.av, V.av, rowAV, ga, gb, hka0, q, hd, hw, w1', w2, w3, w4]
    rw [aloopW_step step]
    by_cases h0 : keyCmp k a b = 0
    · rw [h0]
      have := inner16 ks l S i a b ha hb fa fb hi hks m (pre ++ [k]) (by rw [e]; simp)
      simp only [List.length_append, List.length_cons, List.length_nil, Nat.zero_add] at this
      rw [this, keysCmp, if_pos h0]
    · rw [keysCmp, if_neg h0]
      refine aloopW_stop ?_ (by simp [out16])
      rw [acode_k]
      by_cases h2 : ((pre.length : Int) + 1) < (ks.length : Int)
      · simp [a16_l0, st16, out16, h0, h2]
      · simp [a16_l0, st16, out16, h0, h2]
def sortedB (ks : List K) : List (List V) → Bool
  | a :: b :: l => decide (keysCmp ks a b ≤ 0) && sortedB ks (b :: l)
  | _ => true
def st16b (ks : List K) (l : List (List V)) (S : List Bx) (i : Nat) : St :=
  { σ := [(0, .v (.slice 2 (ks.map K.av))), (1, .v (.slice 1 (l.map rowAV))), (5, .v (.int .i64 i))], own := [], loc := [], S := S }
theorem loop16 (ks : List K) (l : List (List V)) (S : List Bx) (hf : ∀ r ∈ l, fitR ks r) (hl : l.length ≤ 1000000) (hks : ks.length ≤ 1000000) : ∀ (m pre : List (List V)), l = pre ++ m → m ≠ [] →
    aloopW (acode run a16_l1) (st16b ks l S (pre.length + 1)) = some (if sortedB ks m then (.exit 0, { σ := [], own := [], loc := [], S := S }) else (.ret, { σ := [(4, .v (.bool false))], own := [], loc := [], S := S }))
  | [], pre, e, hne => absurd rfl hne
  | [a], pre, e, _ => by
    refine aloopW_stop ?_ (by simp [sortedB])
    have h : l.length = pre.length + 1 := by rw [e]; simp
    rw [acode_k]
    simp [a16_l1, st16b, h, sortedB]
  | a :: b :: m, pre, e, _ => by
    have ha : l[pre.length]? = some a := by rw [e]; simp
    have hb : l[pre.length + 1]? = some b := by rw [e]; simp
    have h1 := ilt hb
    have hlen : pre.length + 1 < l.length := by rw [e]; simp
    have q := inner16 ks l S pre.length a b ha hb (hf a (List.mem_of_getElem? ha)) (hf b (List.mem_of_getElem? hb)) (by omega) hks ks [] rfl
    simp only [st16, List.length_nil, Int.natCast_zero, Int.ofNat_zero, out16] at q
    have w4 : IntKind.wrap .i64 (((pre.length : Int) + 1) + 1) = (pre.length : Int) + 1 + 1 := wr64 (by omega) (by omega)
    have h1' : (pre.length : Int) + 1 < (l.length : Int) := by omega
    by_cases hc : keysCmp ks a b ≤ 0
    · have step : acode run a16_l1 (st16b ks l S (pre.length + 1)) = some (.normal, st16b ks l S (pre.length + 1 + 1)) := by
        rw [acode_k]
        have hc' : ¬ (0 < keysCmp ks a b) := by omega
        simp at q
        simp [a16_l1, st16b, h1', q, hc', hc, w4]
      rw [aloopW_step step]
      have := loop16 ks l S hf hl hks (b :: m) (pre ++ [a]) (by rw [e]; simp) (by simp)
      simp only [List.length_append, List.length_cons, List.length_nil, Nat.zero_add] at this
      rw [this, sortedB]
      simp [hc]
    · refine aloopW_stop ?_ (by simp only [sortedB, hc]; simp)
      have hc' : 0 < keysCmp ks a b := by omega
      have e2 : sortedB ks (a :: b :: m) = false := by simp [sortedB, hc]
      rw [acode_k, e2]
      simp at q
      simp [a16_l1, st16b, h1', q, hc', hc]
theorem c16 (ks : List K) (l : List (List V)) (S : List Bx) (hf : ∀ r ∈ l, fitR ks r) (hl : l.length ≤ 1000000) (hks : ks.length ≤ 1000000) : run 16 [keysAV ks, rowsAV l] S = some (.ret (.bool (sortedB ks l)) none, S) := by
  refine eqn rfl ?_
  match l, hf, hl with
  | [], hf, hl =>
    have h : aloopW (acode run a16_l1) (st16b ks [] S 1) = some (.exit 0, { σ := [], own := [], loc := [], S := S }) := by
      refine aloopW_stop ?_ (by simp)
      rw [acode_k]
      simp [a16_l1, st16b]
    simp [st16b] at h
    simp [a16, keysAV, rowsAV, h, sortedB]
  | a :: l, hf, hl =>
    have h := loop16 ks (a :: l) S hf hl hks (a :: l) [] rfl (by simp)
    generalize a :: l = m at *
    simp only [st16b, List.length_nil, Nat.zero_add] at h
    simp at h
    cases hs : sortedB ks m <;> rw [hs] at h <;> simp at h <;> simp [a16, keysAV, rowsAV, h]
end Go.Av
