/- Part of a proof: Loops, told by what a round does. -/
import Derived.Test.YtmfgdgfamfpopaaGreatDoorF3
set_option linter.unusedVariables false
set_option linter.unusedSimpArgs false
namespace Go.Av
open Go

theorem aloopW_step {f : St → Option (AEx × St)} {s t : St} (h : f s = some (.normal, t)) : aloopW f s = aloopW f t := by rw [aloopW_eq, h]
theorem aloopW_stop {f : St → Option (AEx × St)} {s : St} {r : AEx × St} (h : f s = some r) (hr : r.1 ≠ .normal) : aloopW f s = some r := by
  rw [aloopW_eq, h]
  obtain ⟨x, t⟩ := r
  cases x <;> simp_all

/-- A walk through a list that may end early. -/
def walkL {α β γ : Type} (step : β → α → β ⊕ γ) (fin : β → γ) : List α → β → γ
  | [], b => fin b
  | x :: l, b => match step b x with
    | .inl b' => walkL step fin l b'
    | .inr r => r

theorem loop_walk {f : St → Option (AEx × St)} {α β : Type} (l : List α) (st : β → Nat → St) (step : β → α → β ⊕ (AEx × St)) (fin : β → AEx × St) (Inv : Nat → β → Prop) {b0 : β} (h0 : Inv 0 b0)
    (hround : ∀ (i : Nat) b x, Inv i b → l[i]? = some x → (∃ b', step b x = .inl b' ∧ f (st b i) = some (.normal, st b' (i + 1)) ∧ Inv (i + 1) b') ∨ (∃ r, step b x = .inr r ∧ f (st b i) = some r ∧ r.1 ≠ .normal))
    (hend : ∀ b, Inv l.length b → f (st b l.length) = some (fin b) ∧ (fin b).1 ≠ .normal) : aloopW f (st b0 0) = some (walkL step fin l b0) := by
  have key : ∀ (m : List α) (pre : List α) (b : β), l = pre ++ m → Inv pre.length b → aloopW f (st b pre.length) = some (walkL step fin m b) := by
    intro m
    induction m with
    | nil =>
      intro pre b e hi
      simp only [List.append_nil] at e
      subst e
      obtain ⟨h1, h2⟩ := hend b hi
      rw [aloopW_stop h1 h2]; rfl
    | cons x m ih =>
      intro pre b e hi
      have hx : l[pre.length]? = some x := by rw [e]; simp
      rcases hround pre.length b x hi hx with ⟨b', h1, h2, h3⟩ | ⟨r, h1, h2, h3⟩
      · rw [aloopW_step h2]
        have := ih (pre ++ [x]) b' (by rw [e]; simp) (by simpa using h3)
        simp only [List.length_append, List.length_cons, List.length_nil, Nat.zero_add] at this
        rw [this, walkL, h1]
      · rw [aloopW_stop h2 h3, walkL, h1]
  exact key l [] b0 rfl h0

theorem loop_fold {f : St → Option (AEx × St)} {α β : Type} (l : List α) (st : β → Nat → St) (g : β → α → β) (fin : β → AEx × St) (Inv : Nat → β → Prop) {b0 : β} (h0 : Inv 0 b0)
    (hround : ∀ (i : Nat) b x, Inv i b → l[i]? = some x → f (st b i) = some (.normal, st (g b x) (i + 1)) ∧ Inv (i + 1) (g b x))
    (hend : ∀ b, Inv l.length b → f (st b l.length) = some (fin b)) (hfin : ∀ b, (fin b).1 ≠ .normal) : aloopW f (st b0 0) = some (fin (l.foldl g b0)) := by
  have h := loop_walk (f := f) l st (fun b x => .inl (g b x)) fin Inv h0 (fun i b x hi hx => .inl ⟨g b x, rfl, hround i b x hi hx⟩) (fun b hb => ⟨hend b hb, hfin b⟩)
  have e : ∀ (l : List α) b, walkL (fun b x => .inl (g b x)) fin l b = fin (l.foldl g b) := by
    intro l
    induction l with
    | nil => intro b; rfl
    | cons x l ih => intro b; simp only [walkL, List.foldl_cons, ih]
  rw [h, e]

/-- Numbers from 0 on. -/
theorem loop_range {f : St → Option (AEx × St)} {β : Type} (n : Nat) (st : β → Nat → St) (g : β → Nat → β) (fin : β → AEx × St) (Inv : Nat → β → Prop) {b0 : β} (h0 : Inv 0 b0)
    (hround : ∀ (i : Nat) b, Inv i b → i < n → f (st b i) = some (.normal, st (g b i) (i + 1)) ∧ Inv (i + 1) (g b i))
    (hend : ∀ b, Inv n b → f (st b n) = some (fin b)) (hfin : ∀ b, (fin b).1 ≠ .normal) : aloopW f (st b0 0) = some (fin ((List.range n).foldl g b0)) := by
  refine loop_fold (List.range n) st g fin Inv h0 (fun i b x hi hx => ?_) (fun b hb => ?_) hfin
  · have hlt : i < n := by
      have := (List.getElem?_eq_some_iff.1 hx).1
      simpa using this
    rw [List.getElem?_range hlt] at hx
    obtain rfl := Option.some.inj hx
    exact hround i b hi hlt
  · rw [List.length_range] at hb ⊢
    exact hend b hb

theorem ilt {α : Type} {l : List α} {i : Nat} {x : α} (h : l[i]? = some x) : (i : Int) < (l.length : Int) := by
  have := (List.getElem?_eq_some_iff.1 h).1
  omega
theorem wr64 {x : Int} (h0 : -9223372036854775808 ≤ x) (h1 : x ≤ 9223372036854775807) : IntKind.wrap .i64 x = x := by
  simp [IntKind.wrap, IntKind.bits, IntKind.signed]
  omega
theorem w64s {n : Nat} (h : n < 9223372036854775807) : IntKind.wrap .i64 ((n : Int) + 1) = (n : Int) + 1 := wr64 (by omega) (by omega)
theorem foldl_any {α : Type} (p : α → Bool) : ∀ (l : List α) (b : Bool), l.foldl (fun b x => b || p x) b = (b || l.any p)
  | [], b => by simp
  | x :: l, b => by rw [List.foldl_cons, foldl_any p l]; simp [Bool.or_assoc]
theorem foldl_all {α : Type} (p : α → Bool) : ∀ (l : List α) (b : Bool), l.foldl (fun b x => b && p x) b = (b && l.all p)
  | [], b => by simp
  | x :: l, b => by rw [List.foldl_cons, foldl_all p l]; simp [Bool.and_assoc]
theorem natBeq (a b : Nat) : ((a : Int) == (b : Int)) = decide (a = b) := by
  by_cases h : a = b
  · simp [h]
  · have : ¬ (a : Int) = (b : Int) := by omega
    simp [h, this]
end Go.Av
