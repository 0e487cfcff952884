/- Part of a proof: Reduce, Implies, Common, Both. -/
import Derived.Test.YtlhmipepdcndoaaDoorAvDg
import Derived.Test.YtlhmipepdcndoaaDoorAvCj
set_option maxRecDepth 100000
set_option linter.unusedSimpArgs false
set_option linter.unusedVariables false
namespace Go.Av
open Go Go.Proofs

def st54 (a b : List K) (S : List Bx) (i : Nat) : St :=
  { σ := [(0, .v (.slice 2 (a.map K.av))), (1, .v (.slice 2 (b.map K.av))), (5, .v (.int .i64 i))], own := [], loc := [], S := S }
def out54 (S : List Bx) (i : Nat) : AEx × St := (.exit 0, { σ := [(5, .v (.int .i64 i))], own := [], loc := [], S := S })
theorem r54 (a b : List K) (S : List Bx) (i : Nat) (x y : K) (hx : a[i]? = some x) (hy : b[i]? = some y) (hi : i < 9223372036854775807) :
    acode run a54_l0 (st54 a b S i) = if x = y then some (.normal, st54 a b S (i + 1)) else some (out54 S i) := by
  rw [acode_k]
  have h1 := ilt hx
  have h2 := ilt hy
  obtain ⟨xc, xd⟩ := x
  obtain ⟨yc, yd⟩ := y
  by_cases hc : xc = yc <;> by_cases hd : xd = yd <;> simp [a54_l0, st54, out54, hx, hy, h1, h2, K.av, w64s hi, hc, hd]
theorem e54 (a b : List K) (S : List Bx) (i : Nat) (h : a.length ≤ i ∨ b.length ≤ i) :
    acode run a54_l0 (st54 a b S i) = some (out54 S i) := by
  rw [acode_k]
  by_cases h1 : (i : Int) < (a.length : Int)
  · have h2 : ¬ ((i : Int) < (b.length : Int)) := by omega
    simp [a54_l0, st54, out54, h1, h2]
  · simp [a54_l0, st54, out54, h1]
theorem loop54 (S : List Bx) (a b : List K) : ∀ (m n pa pb : List K), a = pa ++ m → b = pb ++ n → pa.length = pb.length → a.length ≤ 9223372036854775807 →
    aloopW (acode run a54_l0) (st54 a b S pa.length) = some (out54 S (pa.length + (commonK m n).length))
  | [], n, pa, pb, ea, eb, hl, hn => by
    rw [aloopW_stop (e54 a b S pa.length (.inl (by simp [ea]))) (by simp [out54])]
    simp [commonK]
  | x :: m, [], pa, pb, ea, eb, hl, hn => by
    rw [aloopW_stop (e54 a b S pa.length (.inr (by simp [eb, hl]))) (by simp [out54])]
    simp [commonK]
  | x :: m, y :: n, pa, pb, ea, eb, hl, hn => by
    have h1 : a.length = pa.length + (m.length + 1) := by rw [ea]; simp
    have hx : a[pa.length]? = some x := by rw [ea]; simp
    have hy : b[pa.length]? = some y := by rw [eb, hl]; simp
    have hr := r54 a b S pa.length x y hx hy (by omega)
    by_cases hxy : x = y
    · rw [if_pos hxy] at hr
      rw [aloopW_step hr]
      have := loop54 S a b m n (pa ++ [x]) (pb ++ [y]) (by rw [ea]; simp) (by rw [eb]; simp) (by simp [hl]) hn
      simp only [List.length_append, List.length_cons, List.length_nil, Nat.zero_add] at this
      rw [this, commonK, if_pos hxy, List.length_cons]
      congr 2
      omega
    · rw [if_neg hxy] at hr
      rw [aloopW_stop hr (by simp [out54]), commonK, if_neg hxy]
      simp
theorem c54 (a b : List K) (S : List Bx) (hn : a.length ≤ 9223372036854775807) : run 54 [keysAV a, keysAV b] S = some (.ret (.int .i64 (commonK a b).length) none, S) := by
  refine eqn rfl ?_
  have h := loop54 S a b a b [] [] rfl rfl rfl hn
  simp only [st54, out54, List.length_nil, Int.natCast_zero, Int.ofNat_zero, Nat.zero_add] at h
  simp [a54, keysAV, h]
def begP (have' need : List K) : Bool := decide ((commonK have' need).length = need.length)
theorem c42 (a b : List K) (S : List Bx) (hn : a.length ≤ 9223372036854775807) : run 42 [keysAV a, keysAV b] S = some (.ret (.bool (begP a b)) none, S) := by
  refine eqn rfl ?_
  have h := c54 a b S hn
  simp only [keysAV] at h
  simp [a42, keysAV, h, begP, natBeq]
theorem reduceK_len (d : Dep) (ks : List K) : (reduceK d ks).length ≤ ks.length := by
  have : ∀ (ks : List K) (x : List Int × List K), (ks.foldl (redStepK d) x).2.length ≤ x.2.length + ks.length := by
    intro ks
    induction ks with
    | nil => intro x; simp
    | cons k ks ih =>
      intro x
      have := ih (redStepK d x k)
      have h2 : (redStepK d x k).2.length ≤ x.2.length + 1 := by
        simp only [redStepK]
        split
        · omega
        · simp
      simp only [List.foldl_cons, List.length_cons]
      omega
  have := this ks ([], [])
  simpa [reduceK] using this
/-- What is known, cut or tame, and right: its columns. -/
theorem inN_of {n : Int} {d : Dep} (hd : d.Small) (h : knownB n d = true) (h1 : 1 ≤ n) (h2 : n ≤ 16) : d.InN n.toNat := by
  simp only [knownB, Bool.and_eq_true, decide_eq_true_eq, List.all_eq_true] at h
  obtain ⟨⟨⟨⟨⟨k1, k2⟩, k3⟩, k4⟩, k5⟩, k6⟩ := h
  have hin : ∀ c, inB n c = true → 0 ≤ c ∧ c < (n.toNat : Int) := fun c hc => by
    simp only [inB, Bool.and_eq_true, decide_eq_true_eq] at hc
    omega
  refine ⟨by omega, fun p hp => ?_, hd.e, fun c hc => hin c (k4 c hc), hd.c, fun s hs => ⟨hd.ss s hs, fun c hc => ?_⟩, hd.s⟩
  · have := k5 p hp
    exact ⟨(hin _ this.1).1, (hin _ this.1).2, (hin _ this.2).1, (hin _ this.2).2⟩
  · have := k6 s hs
    simp only [setB, Bool.and_eq_true, decide_eq_true_eq, List.all_eq_true] at this
    exact hin c (this.2 c hc)
theorem keys_in {n : Int} {ks : List K} (h : areKeysB n ks = true) (h1 : 1 ≤ n) : ∀ k ∈ ks, 0 ≤ k.c ∧ k.c < (n.toNat : Int) := by
  intro k hk
  simp only [areKeysB, Bool.and_eq_true, decide_eq_true_eq, List.all_eq_true] at h
  have := h.2 k hk
  simp only [inB, Bool.and_eq_true, decide_eq_true_eq] at this
  omega
theorem redRun {n : Int} {d : Dep} (hd : d.Small) {ls : List (List K)} (h : rightE n d ls = 0) {ks : List K} (hk : ks ∈ ls) (S : List Bx) : run 40 [d.av, keysAV ks] S = some (.ret (keysAV (reduceK d ks)) (some 78), S) := by
  obtain ⟨h1, h2, h3, h4⟩ := right_ok h
  have hin := (inN_of hd h3 h1 h2)
  have hki := keys_in (h4 ks hk) h1
  exact (c40k d ks S hin.in (fun k hk' => ⟨(hki k hk').1, by have := (hki k hk').2; omega⟩) (by have := keys_len (h4 ks hk); omega)).1
def redE (n : Int) (d : Dep) (r : List K) (ks : List K) : List K × Int := if rightE n d [ks] = 0 then (r, 0) else ([], rightE n d [ks])
theorem c13 (n : Int) (d : Dep) (ks : List K) (S : List Bx) (hd : d.Small) (hk : ks.length ≤ 1000) : run 13 [iav n, d.av, keysAV ks] S = some (.ret (tup2 (redE n d (reduceK d ks) ks).1 (redE n d (reduceK d ks) ks).2) none, S) := by
  refine eqn rfl ?_
  have q := c39 n d [ks] S hd (by simp) (by simp; omega)
  simp only [iav, Dep.av, intsAV, pairsAV, setsAV, listsAV, List.map_cons, List.map_nil, keysAV] at q
  by_cases h : rightE n d [ks] = 0
  · have q2 := redRun hd h (ks := ks) (by simp) S
    simp only [iav, Dep.av, intsAV, pairsAV, setsAV, keysAV] at q2
    rw [h] at q
    simp [a13, iav, keysAV, Dep.av, intsAV, pairsAV, setsAV, q, q2, redE, h, tup2]
  · simp [a13, iav, keysAV, Dep.av, intsAV, pairsAV, setsAV, q, redE, h, tup2]
def tupB (b : Bool) (e : Int) : AV := .tuple [.bool b, .int .i64 e]
def impE (n : Int) (d : Dep) (b : Bool) (x y : List K) : Bool × Int := if rightE n d [x, y] = 0 then (b, 0) else (false, rightE n d [x, y])
theorem c15 (n : Int) (d : Dep) (x y : List K) (S : List Bx) (hd : d.Small) (hx : x.length ≤ 1000) (hy : y.length ≤ 1000) :
    run 15 [iav n, d.av, keysAV x, keysAV y] S = some (.ret (tupB (impE n d (begP (reduceK d x) (reduceK d y)) x y).1 (impE n d (begP (reduceK d x) (reduceK d y)) x y).2) none, S) := by
  refine eqn rfl ?_
  have q := c39 n d [x, y] S hd (by simp) (by simp; omega)
  simp only [iav, Dep.av, intsAV, pairsAV, setsAV, listsAV, List.map_cons, List.map_nil, keysAV] at q
  by_cases h : rightE n d [x, y] = 0
  · have q2 := redRun hd h (ks := x) (by simp) S
    have q3 := redRun hd h (ks := y) (by simp) S
    have q4 := c42 (reduceK d x) (reduceK d y) S (by have := reduceK_len d x; omega)
    simp only [iav, Dep.av, intsAV, pairsAV, setsAV, keysAV] at q2 q3 q4
    rw [h] at q
    generalize begP (reduceK d x) (reduceK d y) = B at *
    simp [a15, iav, keysAV, Dep.av, intsAV, pairsAV, setsAV, q, q2, q3, q4, impE, h, tupB]
  · simp [a15, iav, keysAV, Dep.av, intsAV, pairsAV, setsAV, q, impE, h, tupB]
def comE (n : Int) (d : Dep) (r : List K) (x y : List K) : List K × Int := if rightE n d [x, y] = 0 then (r, 0) else ([], rightE n d [x, y])
theorem commonK_take : ∀ (a b : List K), a.take (commonK a b).length = commonK a b
  | [], b => by simp [commonK]
  | a :: l, [] => by simp [commonK]
  | a :: l, b :: r => by
    simp only [commonK]
    split
    · simp [commonK_take l r]
    · simp
theorem c33 (n : Int) (d : Dep) (x y : List K) (S : List Bx) (hd : d.Small) (hx : x.length ≤ 1000) (hy : y.length ≤ 1000) :
    run 33 [iav n, d.av, keysAV x, keysAV y] S = some (.ret (tup2 (comE n d (commonK (reduceK d x) (reduceK d y)) x y).1 (comE n d (commonK (reduceK d x) (reduceK d y)) x y).2) none, S) := by
  refine eqn rfl ?_
  have q := c39 n d [x, y] S hd (by simp) (by simp; omega)
  simp only [iav, Dep.av, intsAV, pairsAV, setsAV, listsAV, List.map_cons, List.map_nil, keysAV] at q
  by_cases h : rightE n d [x, y] = 0
  · have q2 := redRun hd h (ks := x) (by simp) S
    have q3 := redRun hd h (ks := y) (by simp) S
    have q4 := c54 (reduceK d x) (reduceK d y) S (by have := reduceK_len d x; omega)
    have hcl := commonK_len (reduceK d x) (reduceK d y)
    have hct := commonK_take (reduceK d x) (reduceK d y)
    have hct' : ((reduceK d x).map K.av).take (commonK (reduceK d x) (reduceK d y)).length = (commonK (reduceK d x) (reduceK d y)).map K.av := by rw [← List.map_take, hct]
    simp only [iav, Dep.av, intsAV, pairsAV, setsAV, keysAV] at q2 q3 q4
    rw [h] at q
    generalize commonK (reduceK d x) (reduceK d y) = C at *
    have hcl' : (C.length : Int) ≤ ((reduceK d x).length : Int) := by omega
    simp [a33, iav, keysAV, Dep.av, intsAV, pairsAV, setsAV, q, q2, q3, q4, comE, h, tup2, hcl, hcl', hct']
  · simp [a33, iav, keysAV, Dep.av, intsAV, pairsAV, setsAV, q, comE, h, tup2]
def longerK (a b : List K) : List K × Bool := if a.length < b.length then (b, begP b a) else (a, begP a b)
theorem c52 (a b : List K) (S : List Bx) (ha : a.length ≤ 1000) (hb : b.length ≤ 1000) : run 52 [keysAV a, keysAV b] S = some (.ret (.tuple [keysAV (longerK a b).1, .bool (longerK a b).2]) none, S) := by
  refine eqn rfl ?_
  have q1 := c42 a b S (by omega)
  have q2 := c42 b a S (by omega)
  simp only [keysAV] at q1 q2
  by_cases h : (a.length : Int) < (b.length : Int)
  · have h' : a.length < b.length := by omega
    simp [a52, keysAV, q2, longerK, h, h']
  · have h' : ¬ a.length < b.length := by omega
    simp [a52, keysAV, q1, longerK, h, h']
def bothE (n : Int) (d : Dep) (l : List K × Bool) (x y : List K) : List K × Int := if rightE n d [x, y] = 0 then (if l.2 then (l.1, 0) else ([], 4)) else ([], rightE n d [x, y])
theorem c28 (n : Int) (d : Dep) (x y : List K) (S : List Bx) (hd : d.Small) (hx : x.length ≤ 1000) (hy : y.length ≤ 1000) :
    run 28 [iav n, d.av, keysAV x, keysAV y] S = some (.ret (tup2 (bothE n d (longerK (reduceK d x) (reduceK d y)) x y).1 (bothE n d (longerK (reduceK d x) (reduceK d y)) x y).2) none, S) := by
  refine eqn rfl ?_
  have q := c39 n d [x, y] S hd (by simp) (by simp; omega)
  simp only [iav, Dep.av, intsAV, pairsAV, setsAV, listsAV, List.map_cons, List.map_nil, keysAV] at q
  by_cases h : rightE n d [x, y] = 0
  · have q2 := redRun hd h (ks := x) (by simp) S
    have q3 := redRun hd h (ks := y) (by simp) S
    have q4 := c52 (reduceK d x) (reduceK d y) S (by have := reduceK_len d x; omega) (by have := reduceK_len d y; omega)
    simp only [iav, Dep.av, intsAV, pairsAV, setsAV, keysAV] at q2 q3 q4
    rw [h] at q
    generalize longerK (reduceK d x) (reduceK d y) = L at *
    obtain ⟨l, b⟩ := L
    simp only at q4
    cases b <;> simp [a28, iav, keysAV, Dep.av, intsAV, pairsAV, setsAV, q, q2, q3, q4, bothE, h, tup2]
  · simp [a28, iav, keysAV, Dep.av, intsAV, pairsAV, setsAV, q, bothE, h, tup2]
/-! ### the definition -/
theorem c35 (n : Nat) (d : Dep) (x y : List K) (S : List Bx) (hd : d.InN n) (hx : ∀ k ∈ x, 0 ≤ k.c ∧ k.c < n) (hy : ∀ k ∈ y, 0 ≤ k.c ∧ k.c < n) (lx : x.length ≤ 1000) (ly : y.length ≤ 1000) :
    run 35 [.int .i64 n, d.av, keysAV x, keysAV y] S = some (.ret (.bool (beginsK (reduceK d y) (reduceK d x))) none, S) := by
  refine eqn rfl ?_
  have q1 := c34 n d x S hd hx lx
  have q2 := c34 n d y S hd hy ly
  have q3 := c41 (reduceK d y) (reduceK d x) S (by have := reduceK_len d y; omega)
  simp only [Dep.av, intsAV, pairsAV, setsAV, keysAV] at q1 q2 q3
  simp [a35, keysAV, Dep.av, intsAV, pairsAV, setsAV, q1, q2, q3]
def bothK (x y : List K) : List K × Bool := if beginsK x y then (y, true) else if beginsK y x then (x, true) else ([], false)
theorem c37 (n : Nat) (d : Dep) (x y : List K) (S : List Bx) (hd : d.InN n) (hx : ∀ k ∈ x, 0 ≤ k.c ∧ k.c < n) (hy : ∀ k ∈ y, 0 ≤ k.c ∧ k.c < n) (lx : x.length ≤ 1000) (ly : y.length ≤ 1000) :
    run 37 [.int .i64 n, d.av, keysAV x, keysAV y] S = some (.ret (.tuple [keysAV (bothK (reduceK d x) (reduceK d y)).1, .bool (bothK (reduceK d x) (reduceK d y)).2]) none, S) := by
  refine eqn rfl ?_
  have q1 := c34 n d x S hd hx lx
  have q2 := c34 n d y S hd hy ly
  have q3 := c41 (reduceK d x) (reduceK d y) S (by have := reduceK_len d x; omega)
  have q4 := c41 (reduceK d y) (reduceK d x) S (by have := reduceK_len d y; omega)
  simp only [Dep.av, intsAV, pairsAV, setsAV, keysAV] at q1 q2 q3 q4
  cases h1 : beginsK (reduceK d x) (reduceK d y) <;> cases h2 : beginsK (reduceK d y) (reduceK d x) <;> rw [h1] at q3 <;> rw [h2] at q4 <;> simp [a37, keysAV, Dep.av, intsAV, pairsAV, setsAV, q1, q2, q3, q4, bothK, h1, h2]
end Go.Av
