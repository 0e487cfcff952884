/- Part of a proof: Rows: the definition's orders. -/
import Derived.Test.YtlhmipepdcndoaaGreatDoorZvCk
set_option maxRecDepth 100000
set_option linter.unusedSimpArgs false
set_option linter.unusedVariables false
namespace Go.Av
open Go Go.Proofs

theorem cmpL_range : ∀ (l r : List UInt8), cmpL l r = -1 ∨ cmpL l r = 0 ∨ cmpL l r = 1
  | [], [] => by simp [cmpL]
  | [], b :: r => by simp [cmpL]
  | a :: l, [] => by simp [cmpL]
  | a :: l, b :: r => by
    simp only [cmpL]
    split
    · exact cmpL_range l r
    · split <;> simp
theorem cmpV_range (a b : V) : cmpV a b = -1 ∨ cmpV a b = 0 ∨ cmpV a b = 1 := by
  unfold cmpV
  split
  · split <;> simp
  · split
    · split <;> simp
    · exact cmpL_range _ _
/-- Texts of rows are short enough. -/
def okR (r : List V) : Prop := ∀ v ∈ r, v.t.length ≤ 9223372036854775807
def cmpRow : List V → List V → Int
  | [], [] => 0
  | [], _ :: _ => -1
  | _ :: _, [] => 1
  | a :: l, b :: r => if cmpV a b = 0 then cmpRow l r else cmpV a b
def st46 (a b : List V) (S : List Bx) (i : Nat) : St :=
  { σ := [(0, .v (.slice 3 (a.map V.av))), (1, .v (.slice 3 (b.map V.av))), (5, .v (.int .i64 i))], own := [], loc := [], S := S }
def ret46 (r : Int) (S : List Bx) : AEx × St := (.ret, { σ := [(4, .v (.int .i64 r))], own := [], loc := [], S := S })
def out46 (a b : List V) (S : List Bx) : AEx × St := (.exit 0, { σ := [(0, .v (.slice 3 (a.map V.av))), (1, .v (.slice 3 (b.map V.av)))], own := [], loc := [], S := S })
theorem r46 (a b : List V) (S : List Bx) (i : Nat) (x y : V) (hx : a[i]? = some x) (hy : b[i]? = some y) (hi : i < 9223372036854775807) (hok : x.t.length ≤ 9223372036854775807) :
    acode run a46_l0 (st46 a b S i) = if cmpV x y = 0 then some (.normal, st46 a b S (i + 1)) else some (ret46 (cmpV x y) S) := by
  rw [acode_k]
  have h1 := ilt hx
  have h2 := ilt hy
  have q := c48 x y S hok
  simp only [V.av] at q
  by_cases h : cmpV x y = 0 <;> simp [a46_l0, st46, hx, hy, h1, h2, w64s hi, V.av, q, h, ret46]
theorem e46 (a b : List V) (S : List Bx) (i : Nat) (h : a.length ≤ i ∨ b.length ≤ i) : acode run a46_l0 (st46 a b S i) = some (out46 a b S) := by
  rw [acode_k]
  by_cases h1 : (i : Int) < (a.length : Int)
  · have h2 : ¬ ((i : Int) < (b.length : Int)) := by omega
    simp [a46_l0, st46, h1, h2, out46]
  · simp [a46_l0, st46, h1, out46]
def diffR : List V → List V → Option Int
  | a :: l, b :: r => if cmpV a b = 0 then diffR l r else some (cmpV a b)
  | _, _ => none
theorem diffR_cmp : ∀ (l r : List V), cmpRow l r = match diffR l r with | some d => d | none => if l.length = r.length then 0 else if l.length < r.length then -1 else 1
  | [], [] => rfl
  | [], b :: r => by simp [cmpRow, diffR]
  | a :: l, [] => by simp [cmpRow, diffR]
  | a :: l, b :: r => by
    simp only [cmpRow, diffR]
    by_cases h : cmpV a b = 0
    · simp only [h, if_true]
      rw [diffR_cmp l r]
      simp
    · simp only [h, if_false]
theorem loop46 (S : List Bx) (a b : List V) (hok : okR a) : ∀ (m n pa pb : List V), a = pa ++ m → b = pb ++ n → pa.length = pb.length → a.length ≤ 9223372036854775807 →
    aloopW (acode run a46_l0) (st46 a b S pa.length) = match diffR m n with | some d => some (ret46 d S) | none => some (out46 a b S)
  | [], n, pa, pb, ea, eb, hl, hn => by
    rw [aloopW_stop (e46 a b S pa.length (.inl (by simp [ea]))) (by simp [out46])]
    simp [diffR]
  | x :: m, [], pa, pb, ea, eb, hl, hn => by
    rw [aloopW_stop (e46 a b S pa.length (.inr (by simp [eb, hl]))) (by simp [out46])]
    simp [diffR]
  | x :: m, y :: n, pa, pb, ea, eb, hl, hn => by
    have h1 : a.length = pa.length + (m.length + 1) := by rw [ea]; simp
    have hx : a[pa.length]? = some x := by rw [ea]; simp
    have hy : b[pa.length]? = some y := by rw [eb, hl]; simp
    have hr := r46 a b S pa.length x y hx hy (by omega) (hok x (List.mem_of_getElem? hx))
    by_cases hxy : cmpV x y = 0
    · rw [if_pos hxy] at hr
      rw [aloopW_step hr]
      have := loop46 S a b hok m n (pa ++ [x]) (pb ++ [y]) (by rw [ea]; simp) (by rw [eb]; simp) (by simp [hl]) hn
      simp only [List.length_append, List.length_cons, List.length_nil, Nat.zero_add] at this
      rw [this, diffR, if_pos hxy]
    · rw [if_neg hxy] at hr
      rw [aloopW_stop hr (by simp [ret46]), diffR, if_neg hxy]
theorem c46 (a b : List V) (S : List Bx) (hok : okR a) (hn : a.length ≤ 9223372036854775807) : run 46 [rowAV a, rowAV b] S = some (.ret (.int .i64 (cmpRow a b)) none, S) := by
  refine eqn rfl ?_
  have h := loop46 S a b hok a b [] [] rfl rfl rfl hn
  simp only [st46, List.length_nil, Int.natCast_zero, Int.ofNat_zero] at h
  have hc := diffR_cmp a b
  cases hd : diffR a b with
  | some d =>
    rw [hd] at h hc
    simp [a46, rowAV, h, ret46, hc]
  | none =>
    rw [hd] at h hc
    by_cases h3 : a.length = b.length
    · simp [a46, rowAV, h, out46, hc, h3]
    · have h3' : ¬ (a.length : Int) = (b.length : Int) := by omega
      by_cases h4 : a.length < b.length
      · have h4' : (a.length : Int) < (b.length : Int) := by omega
        simp [a46, rowAV, h, out46, hc, h3, h3', h4, h4']
      · have h4' : ¬ (a.length : Int) < (b.length : Int) := by omega
        simp [a46, rowAV, h, out46, hc, h3, h3', h4, h4']

/-! ### Copy -/
def st28 (l acc : List AV) (S : List Bx) (i : Nat) : St :=
  { σ := [(0, .v (.slice 1 l)), (3, .v (.slice 1 acc)), (4, .v (.int .i64 i))], own := [(3, 69)], loc := [], S := S }
theorem c28 (l : List (List V)) (S : List Bx) (hl : l.length ≤ 1000000) (hr : ∀ r ∈ l, r.length ≤ 1000000) : run 28 [rowsAV l] S = some (.ret (rowsAV l) (some 69), S) := by
  refine eqn rfl ?_
  have h := loop_fold (f := acode run a28_l0) l (fun acc i => st28 (l.map rowAV) acc S i) (fun acc r => acc ++ [rowAV r])
    (fun acc => (.exit 0, { σ := [(3, .v (.slice 1 acc))], own := [(3, 69)], loc := [], S := S })) (fun i acc => acc.length ≤ i) (b0 := []) (by simp)
    (fun i acc r hi hx => by
      refine ⟨?_, by simp; omega⟩
      show acode run a28_l0 (st28 (l.map rowAV) acc S i) = _
      rw [acode_k]
      have h1 := ilt hx
      have h2 := hr r (List.mem_of_getElem? hx)
      have hb : (acc.length + 1) * 24 ≤ 140737488355328 := by omega
      have hb2 : r.length * 32 ≤ 140737488355328 := by omega
      simp [a28_l0, st28, hx, h1, rowAV, hb, hb2, w64s (n := i) (by omega)])
    (fun acc _ => by
      show acode run a28_l0 (st28 (l.map rowAV) acc S l.length) = _
      rw [acode_k]
      simp [a28_l0, st28])
    (fun _ => by simp)
  have e : ∀ (m : List (List V)) (acc : List AV), m.foldl (fun acc r => acc ++ [rowAV r]) acc = acc ++ m.map rowAV := by
    intro m
    induction m with
    | nil => simp
    | cons r m ih => intro acc; simp [ih]
  rw [e, List.nil_append] at h
  simp only [st28, Int.natCast_zero, Int.ofNat_zero] at h
  simp [a28, rowsAV, h]

/-! ### by keys -/
def vAt (r : List V) (c : Int) : V := r.getD c.toNat ⟨0, 0, []⟩
def inR (k : K) (r : List V) : Prop := 0 ≤ k.c ∧ k.c < r.length
theorem vAt_get {r : List V} {k : K} (h : inR k r) : r[k.c.toNat]? = some (vAt r k.c) := by
  obtain ⟨h1, h2⟩ := h
  have : k.c.toNat < r.length := by omega
  simp [vAt, List.getD, this]
def keyCmp (k : K) (a b : List V) : Int := if k.d then -cmpV (vAt a k.c) (vAt b k.c) else cmpV (vAt a k.c) (vAt b k.c)
def keysCmp : List K → List V → List V → Int
  | [], a, b => 0
  | k :: ks, a, b => if keyCmp k a b = 0 then keysCmp ks a b else keyCmp k a b
def byK : List K → List V → List V → Int
  | [], a, b => cmpRow a b
  | k :: ks, a, b => if keyCmp k a b = 0 then byK ks a b else keyCmp k a b
def st29 (ks : List K) (a b : List V) (S : List Bx) (i : Nat) : St :=
  { σ := [(0, .v (.slice 2 (ks.map K.av))), (1, .v (.slice 3 (a.map V.av))), (2, .v (.slice 3 (b.map V.av))), (7, .v (.int .i64 i))], own := [], loc := [], S := S }
def ret29 (r : Int) (S : List Bx) : AEx × St := (.ret, { σ := [(6, .v (.int .i64 r))], own := [], loc := [], S := S })
def out29 (a b : List V) (S : List Bx) : AEx × St := (.exit 0, { σ := [(1, .v (.slice 3 (a.map V.av))), (2, .v (.slice 3 (b.map V.av)))], own := [], loc := [], S := S })
def byStep (a b : List V) (S : List Bx) (_ : Unit) (k : K) : Unit ⊕ (AEx × St) := if keyCmp k a b = 0 then .inl () else .inr (ret29 (keyCmp k a b) S)
theorem wneg {x : Int} (h : x = -1 ∨ x = 0 ∨ x = 1) : IntKind.wrap .i64 (-x) = -x := wr64 (by omega) (by omega)
theorem loop29 (ks : List K) (a b : List V) (S : List Bx) (hk : ∀ k ∈ ks, inR k a ∧ inR k b) (hok : okR a) (hl : ks.length ≤ 9223372036854775807) :
    aloopW (acode run a29_l0) (st29 ks a b S 0) = some (walkL (byStep a b S) (fun _ => out29 a b S) ks ()) :=
  loop_walk (f := acode run a29_l0) ks (fun _ i => st29 ks a b S i) (byStep a b S) (fun _ => out29 a b S) (fun _ _ => True) trivial
    (fun i u k _ hx => by
      have h1 := ilt hx
      obtain ⟨hka, hkb⟩ := hk k (List.mem_of_getElem? hx)
      have ga := vAt_get hka
      have gb := vAt_get hkb
      have q := c48 (vAt a k.c) (vAt b k.c) S (hok _ (List.mem_of_getElem? ga))
      have hr := cmpV_range (vAt a k.c) (vAt b k.c)
      have hk0 := hka.1
      have hkc : keyCmp k a b = if k.d then -cmpV (vAt a k.c) (vAt b k.c) else cmpV (vAt a k.c) (vAt b k.c) := rfl
      generalize vAt a k.c = va at *
      generalize vAt b k.c = vb at *
      simp only [V.av] at q
      have hw := wneg hr
      have e0 : byStep a b S u k = if keyCmp k a b = 0 then .inl () else .inr (ret29 (keyCmp k a b) S) := rfl
      by_cases h : cmpV va vb = 0
      · have h0 : keyCmp k a b = 0 := by rw [hkc, h]; simp
        rw [e0, if_pos h0]
        refine .inl ⟨(), rfl, ?_, trivial⟩
        rw [acode_k]
        rw [h] at q
        simp [a29_l0, st29, hx, h1, K.av, V.av, ga, gb, hk0, q, w64s (n := i) (by omega)]
      · have h0 : ¬ keyCmp k a b = 0 := by rw [hkc]; split <;> omega
        rw [e0, if_neg h0]
        refine .inr ⟨_, rfl, ?_, by simp [ret29]⟩
        rw [acode_k, hkc]
        cases hd : k.d <;> simp [a29_l0, st29, hx, h1, K.av, V.av, ga, gb, hk0, q, h, hd, ret29, hw])
    (fun u _ => by
      refine ⟨?_, by simp [out29]⟩
      rw [acode_k]
      simp [a29_l0, st29, out29])
theorem by_walk (a b : List V) (S : List Bx) : ∀ (ks : List K), walkL (byStep a b S) (fun _ => out29 a b S) ks () = if keysCmp ks a b = 0 then out29 a b S else ret29 (keysCmp ks a b) S
  | [] => by simp [walkL, keysCmp]
  | k :: ks => by
    simp only [walkL, byStep, keysCmp]
    by_cases h : keyCmp k a b = 0
    · simp only [h, if_true]
      exact by_walk a b S ks
    · simp [h]
theorem byK_keys (a b : List V) : ∀ (ks : List K), byK ks a b = if keysCmp ks a b = 0 then cmpRow a b else keysCmp ks a b
  | [] => by simp [byK, keysCmp]
  | k :: ks => by
    simp only [byK, keysCmp]
    by_cases h : keyCmp k a b = 0
    · simp only [h, if_true]
      exact byK_keys a b ks
    · simp [h]
theorem c29 (ks : List K) (a b : List V) (S : List Bx) (hk : ∀ k ∈ ks, inR k a ∧ inR k b) (hok : okR a) (hl : ks.length ≤ 9223372036854775807) (hn : a.length ≤ 9223372036854775807) :
    run 29 [keysAV ks, rowAV a, rowAV b] S = some (.ret (.int .i64 (byK ks a b)) none, S) := by
  refine eqn rfl ?_
  have h := loop29 ks a b S hk hok hl
  rw [by_walk] at h
  have q := c46 a b S hok hn
  simp only [rowAV] at q
  simp only [st29, Int.natCast_zero, Int.ofNat_zero] at h
  rw [byK_keys]
  by_cases h0 : keysCmp ks a b = 0
  · simp only [h0, if_true, out29] at h ⊢
    simp [a29, keysAV, rowAV, h, q]
  · simp only [h0, if_false, ret29] at h ⊢
    simp [a29, keysAV, rowAV, h]
end Go.Av
