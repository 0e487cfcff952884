/- Part of a proof: Through. -/
import Derived.Test.YtlhmipepdcndoaaGreatDoorZvCi
set_option maxRecDepth 100000
set_option linter.unusedSimpArgs false
set_option linter.unusedVariables false
namespace Go.Av
open Go Go.Proofs

def isAt (c : Int) (e : E) : Bool := decide (e.op = 1) && decide (e.n = c)
/-- The keys behind expressions. -/
def carried (es : List E) : List K → List K
  | [] => []
  | k :: ks => if idx es (isAt k.c) < 0 then [] else ⟨idx es (isAt k.c), k.d⟩ :: carried es ks
def carStep (es : List E) (out : List K → AEx × St) (acc : List K) (k : K) : List K ⊕ (AEx × St) :=
  if idx es (isAt k.c) < 0 then .inr (out acc) else .inl (acc ++ [⟨idx es (isAt k.c), k.d⟩])
theorem car_walk (es : List E) (out : List K → AEx × St) : ∀ (ks acc : List K), walkL (carStep es out) out ks acc = out (acc ++ carried es ks)
  | [], acc => by simp [walkL, carried]
  | k :: ks, acc => by
    simp only [walkL, carStep, carried]
    by_cases h : idx es (isAt k.c) < 0
    · simp [h]
    · simp only [if_neg h]
      rw [car_walk es out ks]
      simp
theorem carried_len (es : List E) : ∀ (ks : List K), (carried es ks).length ≤ ks.length
  | [] => by simp [carried]
  | k :: ks => by
    have := carried_len es ks
    simp only [carried]
    split <;> simp <;> omega
theorem idx_lt {α : Type} (l : List α) (p : α → Bool) : idx l p < l.length ∨ idx l p = -1 := by
  unfold idx
  cases h : l.findIdx? p with
  | none => exact .inr rfl
  | some j =>
    left
    rw [List.findIdx?_eq_some_iff_getElem] at h
    obtain ⟨h1, _⟩ := h
    show (j : Int) < _
    omega
def throughE (n : Int) (ks : List K) (es : List E) : List K × Int :=
  if rightE n dep0 [ks] = 0 then (if es.length < 1 ∨ 16 < es.length then ([], 180) else (carried es ks, 0)) else ([], rightE n dep0 [ks])
/-! ### the definition's way: from the last expression to the first -/
/-- The least place from i on, or -1. -/
def idxFrom (es : List E) (c : Int) (i : Nat) : Int := match (es.drop i).findIdx? (isAt c) with | some j => i + j | none => -1
theorem idxFrom_zero (es : List E) (c : Int) : idxFrom es c 0 = idx es (isAt c) := by
  unfold idxFrom idx
  simp only [List.drop_zero]
  cases es.findIdx? (isAt c) with
  | none => rfl
  | some j => show ((0 : Nat) : Int) + (j : Int) = j; omega
theorem idxFrom_end (es : List E) (c : Int) : idxFrom es c es.length = -1 := by simp [idxFrom]
theorem idxFrom_step (es : List E) (c : Int) (i : Nat) (e : E) (h : es[i]? = some e) : idxFrom es c i = if isAt c e then (i : Int) else idxFrom es c (i + 1) := by
  have hi := (List.getElem?_eq_some_iff.1 h).1
  have hd : es.drop i = e :: es.drop (i + 1) := by
    rw [List.drop_eq_getElem_cons hi]
    have : es[i] = e := by have := h; rw [List.getElem?_eq_getElem hi] at this; exact Option.some.inj this
    rw [this]
  unfold idxFrom
  rw [hd, List.findIdx?_cons]
  by_cases hp : isAt c e = true
  · simp [hp]
  · simp only [hp, if_false, Bool.false_eq_true]
    cases (es.drop (i + 1)).findIdx? (isAt c) with
    | none => rfl
    | some j => show (i : Int) + ((j + 1 : Nat) : Int) = ((i + 1 : Nat) : Int) + (j : Int); omega
theorem w64p {x : Int} (h : -1 ≤ x ∧ x ≤ 100000) : IntKind.wrap .i64 (x - 1) = x - 1 := wr64 (by omega) (by omega)
theorem car_walk2 (es : List E) (o1 o2 : List K → AEx × St) : ∀ (ks acc : List K), walkL (carStep es o1) o2 ks acc = if ks.any (fun k => decide (idx es (isAt k.c) < 0)) then o1 (acc ++ carried es ks) else o2 (acc ++ carried es ks)
  | [], acc => by simp [walkL, carried]
  | k :: ks, acc => by
    simp only [walkL, carStep, carried]
    by_cases h : idx es (isAt k.c) < 0
    · simp [h]
    · simp only [if_neg h]
      rw [car_walk2 es o1 o2 ks]
      simp [h]
end Go.Av
