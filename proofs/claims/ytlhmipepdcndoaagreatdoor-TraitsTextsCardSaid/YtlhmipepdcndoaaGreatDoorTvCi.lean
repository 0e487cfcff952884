/- Part of a proof: Full and Through. -/
import Derived.Test.YtlhmipepdcndoaaGreatDoorTvL4
import Derived.Test.YtlhmipepdcndoaaGreatDoorTvCbE
import Derived.Test.YtlhmipepdcndoaaGreatDoorTvKl
set_option maxRecDepth 100000
set_option linter.unusedSimpArgs false
set_option linter.unusedVariables false
namespace Go.Av
open Go Go.Proofs

/-! ### lists of keys that are the same -/
theorem K.ext_iff' (a b : K) : a = b ↔ a.c = b.c ∧ a.d = b.d := by
  cases a; cases b; simp
instance : DecidableEq K := fun a b => decidable_of_iff _ (K.ext_iff' a b).symm
def commonK : List K → List K → List K
  | a :: l, b :: r => if a = b then a :: commonK l r else []
  | _, _ => []
def st90 (a b acc : List K) (S : List Bx) (i : Nat) : St :=
  { σ := [(0, .v (.slice 2 (a.map K.av))), (1, .v (.slice 2 (b.map K.av))), (5, .v (.slice 2 (acc.map K.av))), (6, .v (.int .i64 i))], own := [(5, 52)], loc := [], S := S }
theorem r90 (a b acc : List K) (S : List Bx) (i : Nat) (hl : acc.length ≤ 100000) (x y : K) (hx : a[i]? = some x) (hy : b[i]? = some y) (hi : i < 9223372036854775807) :
    acode run a90_l0 (st90 a b acc S i) = if x = y then some (.normal, st90 a b (acc ++ [x]) S (i + 1)) else some (.exit 0, { σ := [(5, .v (.slice 2 (acc.map K.av)))], own := [(5, 52)], loc := [], S := S }) := by
  rw [acode_k]
  have h1 := ilt hx
  have h2 := ilt hy
  have hb : (acc.length + 1) * 16 ≤ 140737488355328 := by omega
  simp [a90_l0, st90, hx, hy, h1, h2, K.av, hb, w64s hi]
  obtain ⟨xc, xd⟩ := x
  obtain ⟨yc, yd⟩ := y
  by_cases hc : xc = yc <;> by_cases hd : xd = yd <;> simp [hc, hd, K.av]
theorem e90 (a b acc : List K) (S : List Bx) (i : Nat) (h : a.length ≤ i ∨ b.length ≤ i) :
    acode run a90_l0 (st90 a b acc S i) = some (.exit 0, { σ := [(5, .v (.slice 2 (acc.map K.av)))], own := [(5, 52)], loc := [], S := S }) := by
  rw [acode_k]
  by_cases h1 : (i : Int) < (a.length : Int)
  · have h2 : ¬ ((i : Int) < (b.length : Int)) := by omega
    simp [a90_l0, st90, h1, h2]
  · simp [a90_l0, st90, h1]
theorem loop90 (S : List Bx) (a b : List K) : ∀ (m n pa pb acc : List K), a = pa ++ m → b = pb ++ n → pa.length = pb.length → acc.length ≤ pa.length → a.length ≤ 100000 → 
    aloopW (acode run a90_l0) (st90 a b acc S pa.length) = some (.exit 0, { σ := [(5, .v (.slice 2 ((acc ++ commonK m n).map K.av)))], own := [(5, 52)], loc := [], S := S })
  | [], n, pa, pb, acc, ea, eb, hl, ha, hn => by
    rw [aloopW_stop (e90 a b acc S pa.length (.inl (by simp [ea]))) (by simp)]
    simp [commonK]
  | x :: m, [], pa, pb, acc, ea, eb, hl, ha, hn => by
    rw [aloopW_stop (e90 a b acc S pa.length (.inr (by simp [eb, hl]))) (by simp)]
    simp [commonK]
  | x :: m, y :: n, pa, pb, acc, ea, eb, hl, ha, hn => by
    have h1 : a.length = pa.length + (m.length + 1) := by rw [ea]; simp
    have hx : a[pa.length]? = some x := by rw [ea]; simp
    have hy : b[pa.length]? = some y := by rw [eb, hl]; simp
    have hr := r90 a b acc S pa.length (by omega) x y hx hy (by omega)
    by_cases hxy : x = y
    · rw [if_pos hxy] at hr
      rw [aloopW_step hr]
      have := loop90 S a b m n (pa ++ [x]) (pb ++ [y]) (acc ++ [x]) (by rw [ea]; simp) (by rw [eb]; simp) (by simp [hl]) (by simpa using ha) hn
      simp only [List.length_append, List.length_cons, List.length_nil, Nat.zero_add] at this
      rw [this, commonK, if_pos hxy]
      simp
    · rw [if_neg hxy] at hr
      rw [aloopW_stop hr (by simp), commonK, if_neg hxy]
      simp
theorem c90 (a b : List K) (S : List Bx) (hn : a.length ≤ 100000) : run 90 [keysAV a, keysAV b] S = some (.ret (keysAV (commonK a b)) (some 52), S) := by
  refine eqn rfl ?_
  have h := loop90 S a b a b [] [] [] rfl rfl rfl (by simp) hn
  simp only [st90, List.length_nil, Int.natCast_zero, Int.ofNat_zero, List.map_nil, List.nil_append] at h
  simp [a90, keysAV, h]
theorem commonK_len : ∀ (a b : List K), (commonK a b).length ≤ a.length
  | [], b => by simp [commonK]
  | a :: l, [] => by simp [commonK]
  | a :: l, b :: r => by
    have := commonK_len l r
    simp only [commonK]
    split <;> simp <;> omega
def beginsK (a b : List K) : Bool := decide ((commonK a b).length = a.length)
theorem c59 (a b : List K) (S : List Bx) (hn : a.length ≤ 100000) : run 59 [keysAV a, keysAV b] S = some (.ret (.bool (beginsK a b)) none, S) := by
  refine eqn rfl ?_
  have h := c90 a b S hn
  simp only [keysAV] at h
  simp [a59, keysAV, h, beginsK, natBeq]
def sameK (a b : List K) : Bool := decide (a.length = b.length) && beginsK a b
theorem c25 (a b : List K) (S : List Bx) (hn : a.length ≤ 100000) : run 25 [keysAV a, keysAV b] S = some (.ret (.bool (sameK a b)) none, S) := by
  refine eqn rfl ?_
  have h := c59 a b S hn
  simp only [keysAV] at h
  by_cases hl : (a.length : Int) = (b.length : Int)
  · have hl' : a.length = b.length := by omega
    simp [a25, keysAV, h, sameK, hl, hl']
  · have hl' : ¬ a.length = b.length := by omega
    simp [a25, keysAV, h, sameK, hl, hl']
theorem commonK_self : ∀ (a : List K), commonK a a = a
  | [] => rfl
  | a :: l => by simp [commonK, commonK_self l]
theorem sameK_self (a : List K) : sameK a a = true := by simp [sameK, beginsK, commonK_self]

/-! ### the full order -/
theorem c120 (k : K) (c : Int) (S : List Bx) : run 120 [k.av, .sptr [.int .i64 c]] S = some (.ret (.bool (decide (k.c = c))) none, S) := by
  refine eqn rfl ?_
  simp [a120, K.av]
  rfl

def fullStep (ks : List K) (acc : List K) (c : Nat) : List K := if ks.any (fun k => decide (k.c = (c : Int))) then acc else acc ++ [⟨c, false⟩]
def fullK (n : Int) (ks : List K) : List K := (List.range n.toNat).foldl (fullStep ks) ks
theorem fullStep_len (ks acc : List K) (c : Nat) : (fullStep ks acc c).length ≤ acc.length + 1 := by
  unfold fullStep
  split <;> simp
theorem c118 (ks : List K) (S : List Bx) (h : ks.length ≤ 100000) : run 118 [keysAV ks] S = some (.ret (keysAV ks) (some 52), S) := by
  refine recL_ext (hh := xClone 2 52 16) rfl ?_
  have : ks.length * 16 ≤ 140737488355328 := by omega
  simp [xClone, keysAV, this]
def st82 (n : Nat) (ks acc : List K) (S : List Bx) (i : Nat) : St :=
  { σ := [(1, .v (.slice 2 (ks.map K.av))), (5, .v (.slice 2 (acc.map K.av))), (9, .v (.int .i64 n)), (10, .v (.int .i64 i))], own := [(5, 52)], loc := [], S := S }
theorem c82 (n : Int) (ks : List K) (S : List Bx) (h0 : 0 ≤ n) (h1 : n ≤ 16) (hk : ks.length ≤ 1000) : run 82 [iav n, keysAV ks] S = some (.ret (keysAV (fullK n ks)) (some 52), S) := by
  refine eqn rfl ?_
  obtain ⟨m, rfl⟩ : ∃ m : Nat, n = (m : Int) := ⟨n.toNat, by omega⟩
  have q := c118 ks S (by omega)
  have hloop := loop_range (f := acode run a82_l0) m (fun acc i => st82 m ks acc S i) (fullStep ks)
    (fun acc => (.exit 0, { σ := [(5, .v (.slice 2 (acc.map K.av)))], own := [(5, 52)], loc := [], S := S })) (fun i acc => acc.length ≤ 1000 + i) (b0 := ks) (by omega)
    (fun i acc hi hlt => by
      refine ⟨?_, by have := fullStep_len ks acc i; omega⟩
      show acode run a82_l0 (st82 m ks acc S i) = _
      rw [acode_k]
      have q := c119 ks 120 [] [.sptr [.int .i64 i]] (fun k => decide (k.c = (i : Int))) S (by omega) (fun k _ => by simpa using c120 k i S)
      simp only [keysAV, clo] at q
      have hlt' : (i : Int) < (m : Int) := by omega
      have hb : (acc.length + 1) * 16 ≤ 140737488355328 := by omega
      cases ha : ks.any (fun k => decide (k.c = (i : Int))) <;> rw [ha] at q <;> simp [a82_l0, st82, q, fullStep, ha, hlt', hb, w64s (n := i) (by omega), K.av])
    (fun acc _ => by
      show acode run a82_l0 (st82 m ks acc S m) = _
      rw [acode_k]
      simp [a82_l0, st82])
    (fun _ => by simp)
  simp only [st82, Int.natCast_zero, Int.ofNat_zero] at hloop
  simp only [keysAV] at q
  simp [a82, iav, keysAV, q, hloop, fullK]
def tup2 (l : List K) (e : Int) : AV := .tuple [keysAV l, .int .i64 e]
abbrev dep0 : Dep := ⟨[], [], []⟩
theorem dep0_small : dep0.Small := ⟨by simp, by simp, by simp, by simp⟩
def fullE (n : Int) (ks : List K) : List K × Int := if rightE n dep0 [ks] = 0 then (fullK n ks, 0) else ([], rightE n dep0 [ks])
theorem right_ok {n : Int} {d : Dep} {ls : List (List K)} (h : rightE n d ls = 0) : 1 ≤ n ∧ n ≤ 16 ∧ knownB n d = true ∧ ∀ l ∈ ls, areKeysB n l = true := by
  unfold rightE at h
  split at h
  · simp at h
  · split at h
    · rename_i h1 h2
      simp only [Bool.and_eq_true, List.all_eq_true] at h2
      exact ⟨by omega, by omega, h2.1, h2.2⟩
    · simp at h
theorem keys_len {n : Int} {l : List K} (h : areKeysB n l = true) : l.length ≤ 32 := by
  simp only [areKeysB, Bool.and_eq_true, decide_eq_true_eq] at h
  exact h.1
theorem c53 (n : Int) (ks : List K) (S : List Bx) (hk : ks.length ≤ 1000) : run 53 [iav n, keysAV ks] S = some (.ret (tup2 (fullE n ks).1 (fullE n ks).2) none, S) := by
  refine eqn rfl ?_
  have q := c30 n dep0 [ks] S dep0_small (by simp) (by simp; omega)
  simp only [iav, Dep.av, intsAV, pairsAV, setsAV, listsAV, List.map_cons, List.map_nil, keysAV] at q
  by_cases h : rightE n dep0 [ks] = 0
  · obtain ⟨h1, h2, _, _⟩ := right_ok h
    have q2 := c82 n ks S (by omega) h2 hk
    simp only [iav, keysAV] at q2
    rw [h] at q
    simp [a53, iav, keysAV, q, q2, fullE, h, tup2]
  · simp [a53, iav, keysAV, q, fullE, h, tup2]
end Go.Av
