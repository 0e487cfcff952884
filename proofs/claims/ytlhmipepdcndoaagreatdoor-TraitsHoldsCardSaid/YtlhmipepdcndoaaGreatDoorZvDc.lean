/- Part of a proof: settle, settled, reduced. -/
import Derived.Test.YtlhmipepdcndoaaGreatDoorZvDb
set_option maxRecDepth 100000
set_option linter.unusedSimpArgs false
set_option linter.unusedVariables false
namespace Go.Av
open Go Go.Proofs

def boxC (h : List Nat) (sets : AV) (is : List Bool) : List AV := h.map nav ++ [sets] ++ is.map AV.bool
theorem boxC_h {h : List Nat} (H : Heads h) (sets : AV) (is : List Bool) {i : Nat} (hi : i < 16) : (boxC h sets is)[i]? = some (.int .i64 ((h.getD i 0 : Nat) : Int)) := by
  have hl := H.len
  have hg := (H.get hi).1
  unfold boxC
  rw [List.getElem?_append_left (by simp; omega), List.getElem?_append_left (by simp; omega), List.getElem?_map, hg]
  rfl
theorem boxC_s {h : List Nat} (H : Heads h) (sets : AV) (is : List Bool) : (boxC h sets is)[16]? = some sets := by
  have hl := H.len
  unfold boxC
  rw [List.getElem?_append_left (by simp; omega), List.getElem?_append_right (by simp; omega)]
  simp [hl]
theorem boxC_b {h : List Nat} (H : Heads h) (sets : AV) (is : List Bool) (hb : is.length = 16) {j : Nat} (hj : j < 16) : (boxC h sets is)[17 + j]? = some (.bool (is.getD j false)) := by
  have hl := H.len
  unfold boxC
  rw [List.getElem?_append_right (by simp; omega)]
  have e : 17 + j - (h.map nav ++ [sets]).length = j := by simp [hl]
  rw [e, List.getElem?_map]
  have : j < is.length := by omega
  simp [List.getD, this]
theorem boxC_len {h : List Nat} (H : Heads h) (sets : AV) (is : List Bool) (hb : is.length = 16) : (boxC h sets is).length = 33 := by
  have hl := H.len
  simp [boxC, hl, hb]
theorem boxC_put {h : List Nat} (H : Heads h) (sets : AV) (is : List Bool) (hb : is.length = 16) {j : Nat} (hj : j < 16) (b : Bool) : putCells (boxC h sets is) (17 + j) [.bool b] = boxC h sets (is.set j b) := by
  have hl := H.len
  unfold boxC putCells
  have e1 : (h.map nav ++ [sets]).length = 17 := by simp [hl]
  rw [List.take_append, List.drop_append, e1]
  have e2 : 17 + j - 17 = j := by omega
  have e3 : 17 + j + [AV.bool b].length - 17 = j + 1 := by simp; omega
  rw [e2, e3, List.take_of_length_le (by omega), List.drop_of_length_le (by rw [e1]; simp; omega), List.set_eq_take_append_cons_drop, if_pos (by omega)]
  simp
def inC (c : Int) : Prop := 0 ≤ c ∧ c < 16
def isAtH (h : List Nat) (is : List Bool) (c : Int) : Bool := is.getD (h.getD c.toNat 0) false
def settledB (h : List Nat) (sets : List (List Int)) (is : List Bool) (c : Int) : Bool := isAtH h is c || sets.any (fun set => set.all (isAtH h is))

/-! ### settled -/
def st0_116 (k : Nat) (sets : List (List Int)) (set : List Int) (S : List Bx) (j i : Nat) : St :=
  { σ := [(0, .v (.ptr k 0)), (23, .v (.slice 1 (sets.map intsAV))), (24, .v (.int .i64 sets.length)), (25, .v (.int .i64 j)), (29, .v (.slice 1 (set.map iav))), (30, .v (.int .i64 set.length)), (31, .v (.int .i64 i))], own := [], loc := [], S := S }
def stepS (h : List Nat) (is : List Bool) (bad : AEx × St) (_ : Unit) (c : Int) : Unit ⊕ (AEx × St) := if isAtH h is c then .inl () else .inr bad
theorem walkS (h : List Nat) (is : List Bool) (bad good : AEx × St) : ∀ (set : List Int), walkL (stepS h is bad) (fun _ => good) set () = if set.all (isAtH h is) then good else bad
  | [] => by simp [walkL]
  | c :: set => by
    simp only [walkL, stepS, List.all_cons]
    by_cases hc : isAtH h is c = true
    · simp only [hc, if_true, Bool.true_and]
      exact walkS h is bad good set
    · simp [hc]
theorem loop0_116 (k : Nat) (h : List Nat) (H : Heads h) (is : List Bool) (hb : is.length = 16) (sets : List (List Int)) (set : List Int) (S : List Bx) (j : Nat) (hS : S[k]? = some { cells := boxC h (setsAV sets) is, own := [] })
    (hc : ∀ c ∈ set, inC c) (hl : set.length ≤ 9223372036854775807) :
    aloopW (acode run a116_l0) (st0_116 k sets set S j 0) = some (if set.all (isAtH h is) then (.exit 2, { σ := [], own := [], loc := [], S := S }) else
      (.exit 1, { σ := [(0, .v (.ptr k 0)), (23, .v (.slice 1 (sets.map intsAV))), (24, .v (.int .i64 sets.length)), (25, .v (.int .i64 j))], own := [], loc := [], S := S })) := by
  rw [← walkS]
  exact loop_walk (f := acode run a116_l0) set (fun _ i => st0_116 k sets set S j i) (stepS h is _) (fun _ => _) (fun _ _ => True) trivial
    (fun i u c _ hx => by
      have h1 := ilt hx
      obtain ⟨c0, c1⟩ := hc c (List.mem_of_getElem? hx)
      have g1 := boxC_h H (setsAV sets) is (i := c.toNat) (by omega)
      have l1 := (H.get (i := c.toNat) (by omega)).2
      have g2 := boxC_b H (setsAV sets) is hb l1
      have eA : isAtH h is c = is.getD (h.getD c.toNat 0) false := rfl
      have l1' : ((h.getD c.toNat 0 : Nat) : Int) < 16 := by omega
      have e0 : ∀ bad, stepS h is bad u c = if isAtH h is c then .inl () else .inr bad := fun _ => rfl
      generalize h.getD c.toNat 0 = m at *
      generalize boxC h (setsAV sets) is = C at *
      cases hA : isAtH h is c with
      | true =>
        rw [eA] at hA
        rw [hA] at g2
        refine .inl ⟨(), by rw [e0, eA, hA]; rfl, ?_, trivial⟩
        rw [acode_k]
        simp [a116_l0, st0_116, hx, h1, iav, c0, c1, hS, g1, g2, l1', w64s (n := i) (by omega)]
      | false =>
        rw [eA] at hA
        rw [hA] at g2
        refine .inr ⟨_, by rw [e0, eA, hA]; rfl, ?_, by simp⟩
        rw [acode_k]
        simp [a116_l0, st0_116, hx, h1, iav, c0, c1, hS, g1, g2, l1'])
    (fun u _ => by
      refine ⟨?_, by simp⟩
      rw [acode_k]
      simp [a116_l0, st0_116])
def st1_116 (k : Nat) (sets : List (List Int)) (S : List Bx) (j : Nat) : St :=
  { σ := [(0, .v (.ptr k 0)), (23, .v (.slice 1 (sets.map intsAV))), (24, .v (.int .i64 sets.length)), (25, .v (.int .i64 j))], own := [], loc := [], S := S }
theorem loop1_116 (k : Nat) (h : List Nat) (H : Heads h) (is : List Bool) (hb : is.length = 16) (sets : List (List Int)) (S : List Bx) (hS : S[k]? = some { cells := boxC h (setsAV sets) is, own := [] })
    (hc : ∀ set ∈ sets, set.length ≤ 9223372036854775807 ∧ ∀ c ∈ set, inC c) (hl : sets.length ≤ 9223372036854775807) :
    aloopW (acode run a116_l1) (st1_116 k sets S 0) = if sets.all (fun set => !set.all (isAtH h is)) then some (.exit 0, { σ := [], own := [], loc := [], S := S }) else some (.ret, { σ := [(4, .v (.bool true))], own := [], loc := [], S := S }) :=
  loop_all (f := acode run a116_l1) sets (fun set => !set.all (isAtH h is)) (st1_116 k sets S) (by simp) (by simp)
    (fun j set hx => by
      have h1 := ilt hx
      obtain ⟨l1, c1⟩ := hc set (List.mem_of_getElem? hx)
      have q := loop0_116 k h H is hb sets set S j hS c1 l1
      simp only [st0_116, Int.natCast_zero, Int.ofNat_zero] at q
      rw [acode_k]
      cases hA : set.all (isAtH h is) <;> rw [hA] at q <;> simp at q <;> simp [a116_l1, st1_116, hx, h1, intsAV, q, w64s (n := j) (by omega)])
    (by
      rw [acode_k]
      simp [a116_l1, st1_116])
theorem c116 (k : Nat) (h : List Nat) (H : Heads h) (is : List Bool) (hb : is.length = 16) (sets : List (List Int)) (c : Int) (S : List Bx) (hS : S[k]? = some { cells := boxC h (setsAV sets) is, own := [] })
    (hc : ∀ set ∈ sets, set.length ≤ 9223372036854775807 ∧ ∀ c ∈ set, inC c) (hl : sets.length ≤ 9223372036854775807) (hcc : inC c) :
    run 116 [.ptr k 0, .int .i64 c] S = some (.ret (.bool (settledB h sets is c)) none, S) := by
  refine eqn rfl ?_
  have q := loop1_116 k h H is hb sets S hS hc hl
  simp only [st1_116, Int.natCast_zero, Int.ofNat_zero] at q
  obtain ⟨c0, c1⟩ := hcc
  have g1 := boxC_h H (setsAV sets) is (i := c.toNat) (by omega)
  have gs := boxC_s H (setsAV sets) is
  have l1 := (H.get (i := c.toNat) (by omega)).2
  have g2 := boxC_b H (setsAV sets) is hb l1
  have eA : isAtH h is c = is.getD (h.getD c.toNat 0) false := rfl
  have l1' : ((h.getD c.toNat 0 : Nat) : Int) < 16 := by omega
  have eB : settledB h sets is c = (isAtH h is c || !sets.all (fun set => !set.all (isAtH h is))) := by
    rw [List.not_all_eq_any_not]
    simp only [settledB, Bool.not_not]
  rw [eB]
  generalize h.getD c.toNat 0 = m at *
  generalize boxC h (setsAV sets) is = C at *
  cases hA : isAtH h is c with
  | true =>
    rw [eA] at hA
    rw [hA] at g2
    simp [a116, c0, c1, hS, g1, g2, l1']
  | false =>
    rw [eA] at hA
    rw [hA] at g2
    cases hB : sets.all (fun set => !set.all (isAtH h is)) <;> rw [hB] at q <;> simp at q <;> simp [a116, c0, c1, hS, g1, g2, gs, l1', q, setsAV]
end Go.Av
