/- Part of a proof: Values and rows: the definition's comparisons. -/
import Derived.Test.YtlhmipepdcndoaaGreatDoorZvCi
import Derived.Test.YtlhmipepdcndoaaGreatDoorZvKs
set_option maxRecDepth 100000
set_option linter.unusedSimpArgs false
set_option linter.unusedVariables false
namespace Go.Av
open Go Go.Proofs

structure V where
  k : Int
  n : Int
  t : List UInt8
def V.av (v : V) : AV := .agg [.int .i64 v.k, .int .i64 v.n, .str (bs v.t)]
def rowAV (r : List V) : AV := .slice 3 (r.map V.av)
def rowsAV (l : List (List V)) : AV := .slice 1 (l.map rowAV)
def maxI : Nat := 9223372036854775807

def cmpL : List UInt8 → List UInt8 → Int
  | [], [] => 0
  | [], _ :: _ => -1
  | _ :: _, [] => 1
  | a :: l, b :: r => if a = b then cmpL l r else if a < b then -1 else 1
def cmpV (a b : V) : Int := if a.k ≠ b.k then (if a.k < b.k then -1 else 1) else if a.n ≠ b.n then (if a.n < b.n then -1 else 1) else cmpL a.t b.t
abbrev l48 (a b : V) : Locs := [(2, { cells := [.int .i64 a.k, .int .i64 a.n, .str (bs a.t)], own := [] }), (3, { cells := [.int .i64 b.k, .int .i64 b.n, .str (bs b.t)], own := [] })]
def st48 (a b : V) (S : List Bx) (i : Nat) : St :=
  { σ := [(2, .l 2 0), (3, .l 3 0), (5, .v (.int .i64 i))], own := [], loc := l48 a b, S := S }
theorem u8ne (a b : UInt8) : ((a.toNat : Int) = (b.toNat : Int)) ↔ a = b := by
  constructor
  · intro h
    exact UInt8.toNat_inj.1 (by omega)
  · rintro rfl; rfl
theorem u8lt (a b : UInt8) : ((a.toNat : Int) < (b.toNat : Int)) ↔ a < b := by
  rw [UInt8.lt_iff_toNat_lt]; omega
def big : Nat := 9223372036854775807
def ret48 (r : Int) (S : List Bx) : AEx × St := (.ret, { σ := [(4, .v (.int .i64 r))], own := [], loc := [], S := S })
def out48 (a b : V) (S : List Bx) : AEx × St := (.exit 0, { σ := [(2, .l 2 0), (3, .l 3 0)], own := [], loc := l48 a b, S := S })
theorem r48 (a b : V) (S : List Bx) (i : Nat) (x y : UInt8) (hx : a.t[i]? = some x) (hy : b.t[i]? = some y) (hi : i < 9223372036854775807) :
    acode run a48_l0 (st48 a b S i) = if x = y then some (.normal, st48 a b S (i + 1)) else some (ret48 (if x < y then -1 else 1) S) := by
  rw [acode_k]
  have h1 := ilt hx
  have h2 := ilt hy
  by_cases hxy : x = y
  · subst hxy
    simp [a48_l0, st48, bs_size, bs_get, hx, hy, h1, h2, w64s hi]
  · have e1 : ¬ ((x.toNat : Int) = (y.toNat : Int)) := fun h => hxy ((u8ne x y).1 h)
    by_cases hlt : x < y
    · have e2 := (u8lt x y).2 hlt
      simp [a48_l0, st48, bs_size, bs_get, hx, hy, h1, h2, hxy, hlt, ret48, e1, e2]
    · have e2 : ¬ ((x.toNat : Int) < (y.toNat : Int)) := fun h => hlt ((u8lt x y).1 h)
      simp [a48_l0, st48, bs_size, bs_get, hx, hy, h1, h2, hxy, hlt, ret48, e1, e2]
theorem e48 (a b : V) (S : List Bx) (i : Nat) (h : a.t.length ≤ i ∨ b.t.length ≤ i) : acode run a48_l0 (st48 a b S i) = some (out48 a b S) := by
  rw [acode_k]
  by_cases h1 : (i : Int) < (a.t.length : Int)
  · have h2 : ¬ ((i : Int) < (b.t.length : Int)) := by omega
    simp [a48_l0, st48, bs_size, h1, h2, out48]
  · simp [a48_l0, st48, bs_size, h1, out48]
/-- The first difference, if there is one. -/
def diffL : List UInt8 → List UInt8 → Option Int
  | a :: l, b :: r => if a = b then diffL l r else some (if a < b then -1 else 1)
  | _, _ => none
theorem diff_cmp : ∀ (l r : List UInt8), cmpL l r = match diffL l r with | some d => d | none => if l.length = r.length then 0 else if l.length < r.length then -1 else 1
  | [], [] => rfl
  | [], b :: r => by simp [cmpL, diffL]
  | a :: l, [] => by simp [cmpL, diffL]
  | a :: l, b :: r => by
    simp only [cmpL, diffL]
    by_cases h : a = b
    · simp only [h, if_true]
      rw [diff_cmp l r]
      simp
    · simp only [h, if_false]
theorem loop48 (S : List Bx) (a b : V) : ∀ (m n pa pb : List UInt8), a.t = pa ++ m → b.t = pb ++ n → pa.length = pb.length → a.t.length ≤ 9223372036854775807 →
    aloopW (acode run a48_l0) (st48 a b S pa.length) = match diffL m n with | some d => some (ret48 d S) | none => some (out48 a b S)
  | [], n, pa, pb, ea, eb, hl, hn => by
    rw [aloopW_stop (e48 a b S pa.length (.inl (by simp [ea]))) (by simp [out48])]
    simp [diffL]
  | x :: m, [], pa, pb, ea, eb, hl, hn => by
    rw [aloopW_stop (e48 a b S pa.length (.inr (by simp [eb, hl]))) (by simp [out48])]
    simp [diffL]
  | x :: m, y :: n, pa, pb, ea, eb, hl, hn => by
    have h1 : a.t.length = pa.length + (m.length + 1) := by rw [ea]; simp
    have hx : a.t[pa.length]? = some x := by rw [ea]; simp
    have hy : b.t[pa.length]? = some y := by rw [eb, hl]; simp
    have hr := r48 a b S pa.length x y hx hy (by omega)
    by_cases hxy : x = y
    · rw [if_pos hxy] at hr
      rw [aloopW_step hr]
      have := loop48 S a b m n (pa ++ [x]) (pb ++ [y]) (by rw [ea]; simp) (by rw [eb]; simp) (by simp [hl]) hn
      simp only [List.length_append, List.length_cons, List.length_nil, Nat.zero_add] at this
      rw [this, diffL, if_pos hxy]
    · rw [if_neg hxy] at hr
      rw [aloopW_stop hr (by simp [ret48]), diffL, if_neg hxy]
theorem c48 (a b : V) (S : List Bx) (hn : a.t.length ≤ 9223372036854775807) : run 48 [a.av, b.av] S = some (.ret (.int .i64 (cmpV a b)) none, S) := by
  refine eqn rfl ?_
  have h := loop48 S a b a.t b.t [] [] rfl rfl rfl hn
  simp only [st48, List.length_nil, Int.natCast_zero, Int.ofNat_zero] at h
  have hc := diff_cmp a.t b.t
  obtain ⟨ak, an, at'⟩ := a
  obtain ⟨bk, bn, bt⟩ := b
  simp only at h hc hn
  by_cases h1 : ak = bk
  · subst h1
    by_cases h2 : an = bn
    · subst h2
      cases hd : diffL at' bt with
      | some d =>
        rw [hd] at h hc
        simp [a48, V.av, h, ret48, cmpV, hc]
      | none =>
        rw [hd] at h hc
        by_cases h3 : at'.length = bt.length
        · simp [a48, V.av, h, out48, cmpV, hc, h3, bs_size]
        · have h3' : ¬ (at'.length : Int) = (bt.length : Int) := by omega
          by_cases h4 : at'.length < bt.length
          · have h4' : (at'.length : Int) < (bt.length : Int) := by omega
            simp [a48, V.av, h, out48, cmpV, hc, h3, h3', h4, h4', bs_size]
          · have h4' : ¬ (at'.length : Int) < (bt.length : Int) := by omega
            simp [a48, V.av, h, out48, cmpV, hc, h3, h3', h4, h4', bs_size]
    · by_cases h4 : an < bn <;> simp [a48, V.av, h2, h4, cmpV]
  · by_cases h4 : ak < bk <;> simp [a48, V.av, h1, h4, cmpV]
end Go.Av
