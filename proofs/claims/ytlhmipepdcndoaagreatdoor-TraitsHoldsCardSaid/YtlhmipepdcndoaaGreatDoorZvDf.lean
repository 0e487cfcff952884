/- Part of a proof: Class, Head, fixed, Settled, Reduce of the definition. -/
import Derived.Test.YtlhmipepdcndoaaGreatDoorZvMb
set_option maxRecDepth 100000
set_option linter.unusedSimpArgs false
set_option linter.unusedVariables false
namespace Go.Av
open Go Go.Proofs

def bools (v : List Bool) : AV := .slice 1 (v.map AV.bool)
def stepC (v : List Bool) (p : Int × Int) : List Bool := if v.getD p.1.toNat false || v.getD p.2.toNat false then (v.set p.1.toNat true).set p.2.toNat true else v
def roundC (E : List (Int × Int)) (v : List Bool) : List Bool := E.foldl stepC v
def classK (E : List (Int × Int)) (n : Nat) (col : Int) : List Bool := (List.range n).foldl (fun v _ => roundC E v) ((List.replicate n false).set col.toNat true)
def inN (n : Nat) (p : Int × Int) : Prop := 0 ≤ p.1 ∧ p.1 < n ∧ 0 ≤ p.2 ∧ p.2 < n
theorem stepC_len (v : List Bool) (p : Int × Int) : (stepC v p).length = v.length := by unfold stepC; split <;> simp
theorem roundC_len (E : List (Int × Int)) : ∀ (v : List Bool), (roundC E v).length = v.length := by
  induction E with
  | nil => intro v; rfl
  | cons p E ih => intro v; show (roundC E (stepC v p)).length = _; rw [ih, stepC_len]
theorem get_bool {v : List Bool} {i : Nat} (hi : i < v.length) : v[i]? = some (v.getD i false) := by simp [List.getD, hi]
def l73 (c s : AV) (E : List (Int × Int)) (v : List Bool) : Locs := [(4, { cells := [c, pairsAV E, s], own := [] }), (11, { cells := v.map AV.bool, own := [] })]
theorem chunk_one (f : Bool → AV) : ∀ (v : List Bool), chunk false 1 v.length (v.map f) = some (v.map f)
  | [] => rfl
  | b :: v => by simp [chunk, aload, chunk_one f v]
theorem rep_flat (n : Nat) : (List.replicate n [AV.bool false]).flatten = (List.replicate n false).map AV.bool := by
  induction n with
  | zero => rfl
  | succ n ih => rw [List.replicate_succ, List.flatten_cons, ih, List.replicate_succ]; rfl
end Go.Av
