/- Part of a proof: joined: columns that are the same. -/
import Derived.Test.YtlhmipepdcndoaaGreatDoorZvCi
set_option maxRecDepth 100000
set_option linter.unusedSimpArgs false
set_option linter.unusedVariables false
namespace Go.Av
open Go Go.Proofs

def nav (n : Nat) : AV := .int .i64 (n : Int)
theorem putCells_set {α : Type} (f : α → AV) (h : List α) (i : Nat) (v : α) (hi : i < h.length) : putCells (h.map f) i [f v] = (h.set i v).map f := by
  unfold putCells
  rw [List.set_eq_take_append_cons_drop, if_pos hi]
  simp
theorem pc2 (c d a b : AV) : putCells [c, d] 0 [a, b] = [a, b] := rfl
def stepP (h : List Nat) (p : Int × Int) : List Nat :=
  let a := h.getD p.1.toNat 0
  let b := h.getD p.2.toNat 0
  if a = b then h else ((h.set p.1.toNat (min a b)).set p.2.toNat (min a b)).set (max a b) (min a b)
def moved (h : List Nat) (p : Int × Int) : Bool := decide (h.getD p.1.toNat 0 ≠ h.getD p.2.toNat 0)
/-- Sixteen heads. -/
structure Heads (h : List Nat) : Prop where
  len : h.length = 16
  lt : ∀ x ∈ h, x < 16
def inP (p : Int × Int) : Prop := 0 ≤ p.1 ∧ p.1 < 16 ∧ 0 ≤ p.2 ∧ p.2 < 16
theorem Heads.get {h : List Nat} (H : Heads h) {i : Nat} (hi : i < 16) : h[i]? = some (h.getD i 0) ∧ h.getD i 0 < 16 := by
  have hl : i < h.length := by rw [H.len]; exact hi
  have e : h[i]? = some h[i] := by simp [hl]
  have e2 : h.getD i 0 = h[i] := by simp [List.getD, hl]
  rw [e2]
  exact ⟨e, H.lt _ (List.getElem_mem hl)⟩
theorem mem_set_sub {α : Type} {l : List α} {i : Nat} {x y : α} (h : y ∈ l.set i x) : y ∈ l ∨ y = x := by
  rcases List.mem_or_eq_of_mem_set h with h | h
  · exact .inl h
  · exact .inr h
theorem Heads.set {h : List Nat} (H : Heads h) (i : Nat) {v : Nat} (hv : v < 16) : Heads (h.set i v) :=
  ⟨by rw [List.length_set]; exact H.len, fun x hx => by
    rcases mem_set_sub hx with h1 | rfl
    · exact H.lt x h1
    · exact hv⟩
theorem Heads.step {h : List Nat} (H : Heads h) {p : Int × Int} (hp : inP p) : Heads (stepP h p) := by
  obtain ⟨h1, h2, h3, h4⟩ := hp
  have ga := H.get (i := p.1.toNat) (by omega)
  have gb := H.get (i := p.2.toNat) (by omega)
  simp only [stepP]
  split
  · exact H
  · exact ((H.set _ (by omega)).set _ (by omega)).set _ (by omega)
abbrev zeros16 : List AV := List.replicate 16 (.int .i64 0)
def l84 (c e s : AV) (h : List Nat) : Locs := [(1, { cells := [c, e, s], own := [] }), (2, { cells := zeros16, own := [] }), (3, { cells := h.map nav, own := [] })]
def st0_140 (c e s : AV) (S : List Bx) (i : Nat) : St :=
  { σ := [(1, .l 1 0), (2, .l 2 0), (3, .l 3 0), (10, .v (.int .i64 i))], own := [], loc := l84 c e s (List.range i ++ List.replicate (16 - i) 0), S := S }
theorem init140 (c e s : AV) (S : List Bx) : aloopW (acode run a140_l0) (st0_140 c e s S 0) = some (.exit 0, { σ := [(1, .l 1 0), (2, .l 2 0), (3, .l 3 0)], own := [], loc := l84 c e s (List.range 16), S := S }) := by
  have h := loop_upto (f := acode run a140_l0) (st := st0_140 c e s S) (r := (.exit 0, { σ := [(1, .l 1 0), (2, .l 2 0), (3, .l 3 0)], own := [], loc := l84 c e s (List.range 16), S := S })) (by simp) 16 0
    (fun i _ hi => by
      rw [acode_k]
      have hi' : (i : Int) < 16 := by omega
      have hlen : (List.range i ++ List.replicate (16 - i) 0).length = 16 := by simp; omega
      have e : (List.range i ++ List.replicate (16 - i) 0).set i i = List.range (i + 1) ++ List.replicate (16 - (i + 1)) 0 := by
        rw [List.set_append_right _ _ (by simp)]
        have : 16 - i = (16 - (i + 1)) + 1 := by omega
        rw [this, List.replicate_succ, List.range_succ]
        simp
      have hp := putCells_set nav (List.range i ++ List.replicate (16 - i) 0) i i (by omega)
      rw [e] at hp
      have hi16 : i + 1 ≤ 16 := by omega
      simp only [st0_140]
      generalize List.range i ++ List.replicate (16 - i) 0 = h0 at *
      generalize List.range (i + 1) ++ List.replicate (16 - (i + 1)) 0 = h1 at *
      simp only [nav] at hp
      simp [-putCells, a140_l0, st0_140, l84, hi', hlen, hi16, hp, w64s (n := i) (by omega), nav])
    (by
      rw [acode_k]
      simp [a140_l0, st0_140, l84])
  exact h
def st1_140 (c s : AV) (E : List (Int × Int)) (S : List Bx) (h : List Nat) (again : Bool) (i : Nat) : St :=
  { σ := [(1, .l 1 0), (2, .l 2 0), (3, .l 3 0), (5, .v (.bool again)), (19, .v (.slice 2 (E.map pav))), (20, .v (.int .i64 E.length)), (21, .v (.int .i64 i))], own := [], loc := l84 c (pairsAV E) s h, S := S }
def out1_140 (c s : AV) (E : List (Int × Int)) (S : List Bx) (h : List Nat) (again : Bool) : AEx × St :=
  (.exit 4, { σ := [(1, .l 1 0), (2, .l 2 0), (3, .l 3 0), (5, .v (.bool again))], own := [], loc := l84 c (pairsAV E) s h, S := S })
theorem r1_140 (c s : AV) (E : List (Int × Int)) (S : List Bx) (h : List Nat) (again : Bool) (i : Nat) (p : Int × Int) (H : Heads h) (hp : E[i]? = some p) (hP : inP p) (hE : E.length ≤ 9223372036854775807) :
    acode run a140_l1 (st1_140 c s E S h again i) = some (.normal, st1_140 c s E S (stepP h p) (again || moved h p) (i + 1)) := by
  have h1 := ilt hp
  obtain ⟨p1, p2, p3, p4⟩ := hP
  obtain ⟨ga, la⟩ := H.get (i := p.1.toNat) (by omega)
  obtain ⟨gb, lb⟩ := H.get (i := p.2.toNat) (by omega)
  have hlen := H.len
  have i1 : p.1.toNat < 16 := by omega
  have i2 : p.2.toNat < 16 := by omega
  have eS : stepP h p = if h.getD p.1.toNat 0 = h.getD p.2.toNat 0 then h else ((h.set p.1.toNat (min (h.getD p.1.toNat 0) (h.getD p.2.toNat 0))).set p.2.toNat (min (h.getD p.1.toNat 0) (h.getD p.2.toNat 0))).set (max (h.getD p.1.toNat 0) (h.getD p.2.toNat 0)) (min (h.getD p.1.toNat 0) (h.getD p.2.toNat 0)) := rfl
  have eM : moved h p = decide (h.getD p.1.toNat 0 ≠ h.getD p.2.toNat 0) := rfl
  rw [eS, eM]
  generalize h.getD p.1.toNat 0 = a at *
  generalize h.getD p.2.toNat 0 = b at *
  obtain ⟨x, y⟩ := p
  simp only at *
  have hw := w64s (n := i) (by omega)
  rw [acode_k]
  by_cases hab : a = b
  · subst hab
    simp [-putCells, -getElem?_pos, List.getElem?_cons_zero, List.getElem?_cons_succ, pc2, a140_l1, st1_140, l84, hp, h1, pav, pairsAV, p1, p2, p3, p4, ga, gb, nav, hw]
  · have hab' : ¬ (a : Int) = (b : Int) := by omega
    have e1 : min (a : Int) (b : Int) = ((min a b : Nat) : Int) := by omega
    have e2 : max (a : Int) (b : Int) = ((max a b : Nat) : Int) := by omega
    have lm : min a b < 16 := by omega
    have lx : max a b < 16 := by omega
    have q1 := putCells_set nav h x.toNat (min a b) (by omega)
    have q2 := putCells_set nav (h.set x.toNat (min a b)) y.toNat (min a b) (by rw [List.length_set]; omega)
    have q3 := putCells_set nav ((h.set x.toNat (min a b)).set y.toNat (min a b)) (max a b) (min a b) (by rw [List.length_set, List.length_set]; omega)
    have lx' : ((max a b : Nat) : Int) < 16 := by omega
    generalize hm : min a b = m at *
    generalize hx : max a b = M at *
    generalize hs1 : h.set x.toNat m = s1 at *
    have ls1 : s1.length = 16 := by rw [← hs1, List.length_set]; exact hlen
    generalize hs2 : s1.set y.toNat m = s2 at *
    have ls2 : s2.length = 16 := by rw [← hs2, List.length_set]; exact ls1
    generalize s2.set M m = s3 at *
    simp only [nav] at q1 q2 q3
    have i1' : x.toNat + 1 ≤ 16 := by omega
    have i2' : y.toNat + 1 ≤ 16 := by omega
    have i3' : M + 1 ≤ 16 := by omega
    simp [-putCells, -getElem?_pos, List.getElem?_cons_zero, List.getElem?_cons_succ, pc2, a140_l1, st1_140, l84, hp, h1, pav, pairsAV, p1, p2, p3, p4, ga, gb, nav, hw, hab, hab', e1, e2, lx', q1, q2, q3, hlen, ls1, ls2, i1', i2', i3']
end Go.Av
