/- Part of a proof: Reduce, Implies, Common, Both. -/
import Derived.Test.YtlhmipepdcndoaaGreatDoorZvDg
import Derived.Test.YtlhmipepdcndoaaGreatDoorZvCj
set_option maxRecDepth 100000
set_option linter.unusedSimpArgs false
set_option linter.unusedVariables false
namespace Go.Av
open Go Go.Proofs

def st117 (a b : List K) (S : List Bx) (i : Nat) : St :=
  { σ := [(0, .v (.slice 2 (a.map K.av))), (1, .v (.slice 2 (b.map K.av))), (5, .v (.int .i64 i))], own := [], loc := [], S := S }
def out117 (S : List Bx) (i : Nat) : AEx × St := (.exit 0, { σ := [(5, .v (.int .i64 i))], own := [], loc := [], S := S })
theorem r117 (a b : List K) (S : List Bx) (i : Nat) (x y : K) (hx : a[i]? = some x) (hy : b[i]? = some y) (hi : i < 9223372036854775807) :
    acode run a117_l0 (st117 a b S i) = if x = y then some (.normal, st117 a b S (i + 1)) else some (out117 S i) := by
  rw [acode_k]
  have h1 := ilt hx
  have h2 := ilt hy
  obtain ⟨xc, xd⟩ := x
  obtain ⟨yc, yd⟩ := y
  by_cases hc : xc = yc <;> by_cases hd : xd = yd <;> simp [a117_l0, st117, out117, hx, hy, h1, h2, K.av, w64s hi, hc, hd]
theorem e117 (a b : List K) (S : List Bx) (i : Nat) (h : a.length ≤ i ∨ b.length ≤ i) :
    acode run a117_l0 (st117 a b S i) = some (out117 S i) := by
  rw [acode_k]
  by_cases h1 : (i : Int) < (a.length : Int)
  · have h2 : ¬ ((i : Int) < (b.length : Int)) := by omega
    simp [a117_l0, st117, out117, h1, h2]
  · simp [a117_l0, st117, out117, h1]
theorem loop117 (S : List Bx) (a b : List K) : ∀ (m n pa pb : List K), a = pa ++ m → b = pb ++ n → pa.length = pb.length → a.length ≤ 9223372036854775807 →
    aloopW (acode run a117_l0) (st117 a b S pa.length) = some (out117 S (pa.length + (commonK m n).length))
  | [], n, pa, pb, ea, eb, hl, hn => by
    rw [aloopW_stop (e117 a b S pa.length (.inl (by simp [ea]))) (by simp [out117])]
    simp [commonK]
  | x :: m, [], pa, pb, ea, eb, hl, hn => by
    rw [aloopW_stop (e117 a b S pa.length (.inr (by simp [eb, hl]))) (by simp [out117])]
    simp [commonK]
  | x :: m, y :: n, pa, pb, ea, eb, hl, hn => by
    have h1 : a.length = pa.length + (m.length + 1) := by rw [ea]; simp
    have hx : a[pa.length]? = some x := by rw [ea]; simp
    have hy : b[pa.length]? = some y := by rw [eb, hl]; simp
    have hr := r117 a b S pa.length x y hx hy (by omega)
    by_cases hxy : x = y
    · rw [if_pos hxy] at hr
      rw [aloopW_step hr]
      have := loop117 S a b m n (pa ++ [x]) (pb ++ [y]) (by rw [ea]; simp) (by rw [eb]; simp) (by simp [hl]) hn
      simp only [List.length_append, List.length_cons, List.length_nil, Nat.zero_add] at this
      rw [this, commonK, if_pos hxy, List.length_cons]
      congr 2
      omega
    · rw [if_neg hxy] at hr
      rw [aloopW_stop hr (by simp [out117]), commonK, if_neg hxy]
      simp
theorem c117 (a b : List K) (S : List Bx) (hn : a.length ≤ 9223372036854775807) : run 117 [keysAV a, keysAV b] S = some (.ret (.int .i64 (commonK a b).length) none, S) := by
  refine eqn rfl ?_
  have h := loop117 S a b a b [] [] rfl rfl rfl hn
  simp only [st117, out117, List.length_nil, Int.natCast_zero, Int.ofNat_zero, Nat.zero_add] at h
  simp [a117, keysAV, h]
def begP (have' need : List K) : Bool := decide ((commonK have' need).length = need.length)
theorem c81 (a b : List K) (S : List Bx) (hn : a.length ≤ 9223372036854775807) : run 81 [keysAV a, keysAV b] S = some (.ret (.bool (begP a b)) none, S) := by
  refine eqn rfl ?_
  have h := c117 a b S hn
  simp only [keysAV] at h
  simp [a81, keysAV, h, begP, natBeq]
theorem reduceK_len (d : Dep) (ks : List K) : (reduceK d ks).length ≤ ks.length := by
  have : ∀ (ks : List K) (x : List Int × List K), (ks.foldl (redStepK d) x).2.length ≤ x.2.length + ks.length := by
    intro ks
    induction ks with
    | nil => intro x; simp
    | cons k ks ih =>
      intro x
      have := ih (redStepK d x k)
      have h2 : (redStepK d x k).2.length ≤ x.2.length + 1 := by
        simp only [redStepK]
        split
        · omega
        · simp
      simp only [List.foldl_cons, List.length_cons]
      omega
  have := this ks ([], [])
  simpa [reduceK] using this
/-- What is known, cut or tame, and right: its columns. -/
theorem inN_of {n : Int} {d : Dep} (hd : d.Small) (h : knownB n d = true) (h1 : 1 ≤ n) (h2 : n ≤ 16) : d.InN n.toNat := by
  simp only [knownB, Bool.and_eq_true, decide_eq_true_eq, List.all_eq_true] at h
  obtain ⟨⟨⟨⟨⟨k1, k2⟩, k3⟩, k4⟩, k5⟩, k6⟩ := h
  have hin : ∀ c, inB n c = true → 0 ≤ c ∧ c < (n.toNat : Int) := fun c hc => by
    simp only [inB, Bool.and_eq_true, decide_eq_true_eq] at hc
    omega
  refine ⟨by omega, fun p hp => ?_, hd.e, fun c hc => hin c (k4 c hc), hd.c, fun s hs => ⟨hd.ss s hs, fun c hc => ?_⟩, hd.s⟩
  · have := k5 p hp
    exact ⟨(hin _ this.1).1, (hin _ this.1).2, (hin _ this.2).1, (hin _ this.2).2⟩
  · have := k6 s hs
    simp only [setB, Bool.and_eq_true, decide_eq_true_eq, List.all_eq_true] at this
    exact hin c (this.2 c hc)
theorem keys_in {n : Int} {ks : List K} (h : areKeysB n ks = true) (h1 : 1 ≤ n) : ∀ k ∈ ks, 0 ≤ k.c ∧ k.c < (n.toNat : Int) := by
  intro k hk
  simp only [areKeysB, Bool.and_eq_true, decide_eq_true_eq, List.all_eq_true] at h
  have := h.2 k hk
  simp only [inB, Bool.and_eq_true, decide_eq_true_eq] at this
  omega
theorem redRun {n : Int} {d : Dep} (hd : d.Small) {ls : List (List K)} (h : rightE n d ls = 0) {ks : List K} (hk : ks ∈ ls) (S : List Bx) : run 80 [d.av, keysAV ks] S = some (.ret (keysAV (reduceK d ks)) (some 52), S) := by
  obtain ⟨h1, h2, h3, h4⟩ := right_ok h
  have hin := (inN_of hd h3 h1 h2)
  have hki := keys_in (h4 ks hk) h1
  exact (c80k d ks S hin.in (fun k hk' => ⟨(hki k hk').1, by have := (hki k hk').2; omega⟩) (by have := keys_len (h4 ks hk); omega)).1
def redE (n : Int) (d : Dep) (r : List K) (ks : List K) : List K × Int := if rightE n d [ks] = 0 then (r, 0) else ([], rightE n d [ks])
theorem c51 (n : Int) (d : Dep) (ks : List K) (S : List Bx) (hd : d.Small) (hk : ks.length ≤ 1000) : run 51 [iav n, d.av, keysAV ks] S = some (.ret (tup2 (redE n d (reduceK d ks) ks).1 (redE n d (reduceK d ks) ks).2) none, S) := by
  refine eqn rfl ?_
  have q := c30 n d [ks] S hd (by simp) (by simp; omega)
  simp only [iav, Dep.av, intsAV, pairsAV, setsAV, listsAV, List.map_cons, List.map_nil, keysAV] at q
  by_cases h : rightE n d [ks] = 0
  · have q2 := redRun hd h (ks := ks) (by simp) S
    simp only [iav, Dep.av, intsAV, pairsAV, setsAV, keysAV] at q2
    rw [h] at q
    simp [a51, iav, keysAV, Dep.av, intsAV, pairsAV, setsAV, q, q2, redE, h, tup2]
  · simp [a51, iav, keysAV, Dep.av, intsAV, pairsAV, setsAV, q, redE, h, tup2]
def tupB (b : Bool) (e : Int) : AV := .tuple [.bool b, .int .i64 e]
def impE (n : Int) (d : Dep) (b : Bool) (x y : List K) : Bool × Int := if rightE n d [x, y] = 0 then (b, 0) else (false, rightE n d [x, y])
theorem c52 (n : Int) (d : Dep) (x y : List K) (S : List Bx) (hd : d.Small) (hx : x.length ≤ 1000) (hy : y.length ≤ 1000) :
    run 52 [iav n, d.av, keysAV x, keysAV y] S = some (.ret (tupB (impE n d (begP (reduceK d x) (reduceK d y)) x y).1 (impE n d (begP (reduceK d x) (reduceK d y)) x y).2) none, S) := by
  refine eqn rfl ?_
  have q := c30 n d [x, y] S hd (by simp) (by simp; omega)
  simp only [iav, Dep.av, intsAV, pairsAV, setsAV, listsAV, List.map_cons, List.map_nil, keysAV] at q
  by_cases h : rightE n d [x, y] = 0
  · have q2 := redRun hd h (ks := x) (by simp) S
    have q3 := redRun hd h (ks := y) (by simp) S
    have q4 := c81 (reduceK d x) (reduceK d y) S (by have := reduceK_len d x; omega)
    simp only [iav, Dep.av, intsAV, pairsAV, setsAV, keysAV] at q2 q3 q4
    rw [h] at q
    generalize begP (reduceK d x) (reduceK d y) = B at *
    simp [a52, iav, keysAV, Dep.av, intsAV, pairsAV, setsAV, q, q2, q3, q4, impE, h, tupB]
  · simp [a52, iav, keysAV, Dep.av, intsAV, pairsAV, setsAV, q, impE, h, tupB]
def comE (n : Int) (d : Dep) (r : List K) (x y : List K) : List K × Int := if rightE n d [x, y] = 0 then (r, 0) else ([], rightE n d [x, y])
theorem commonK_take : ∀ (a b : List K), a.take (commonK a b).length = commonK a b
  | [], b => by simp [commonK]
  | a :: l, [] => by simp [commonK]
  | a :: l, b :: r => by
    simp only [commonK]
    split
    · simp [commonK_take l r]
    · simp
def longerK (a b : List K) : List K × Bool := if a.length < b.length then (b, begP b a) else (a, begP a b)
def bothE (n : Int) (d : Dep) (l : List K × Bool) (x y : List K) : List K × Int := if rightE n d [x, y] = 0 then (if l.2 then (l.1, 0) else ([], 4)) else ([], rightE n d [x, y])
/-! ### the definition -/
def bothK (x y : List K) : List K × Bool := if beginsK x y then (y, true) else if beginsK y x then (x, true) else ([], false)
end Go.Av
