/- Part of a proof of syntax_sames. -/
import Derived.Test.YtdcknoijcepibaaGreatDoorQ3
set_option linter.unusedVariables false
set_option linter.unusedSimpArgs false
namespace Go.Av
open Go
theorem aloopW_step {f : St→Option (AEx×St)} {s t : St} (h : f s = some (.normal,t)) : aloopW f s = aloopW f t:=by rw [aloopW_eq,h]
theorem aloopW_stop {f : St→Option (AEx×St)} {s : St} {r : AEx×St} (h : f s = some r) (hr : r.1≠.normal) : aloopW f s = some r:=by
  rw [aloopW_eq,h]
  obtain ⟨x,t⟩:=r
  cases x <;> simp_all
def walkL {α β γ : Type} (step : β→α→β ⊕ γ) (fin : β→γ) : List α→β→γ
  | [],b=>fin b
  | x :: l, b => match step b x with
    | .inl b'=>walkL step fin l b'
    | .inr r=>r
theorem loop_walk {f : St→Option (AEx×St)} {α β : Type} (l : List α) (st : β→Nat→St) (step : β→α→β ⊕ (AEx×St)) (fin : β→AEx×St) (Inv : Nat→β→Prop) {b0 : β} (h0 : Inv 0 b0)
    (hround : ∀ (i : Nat) b x,Inv i b→l[i]? = some x→(∃ b',step b x = .inl b'∧f (st b i) = some (.normal,st b' (i + 1))∧Inv (i + 1) b')∨(∃ r,step b x = .inr r∧f (st b i) = some r∧r.1≠.normal))
    (hend : ∀ b,Inv l.length b→f (st b l.length) = some (fin b)∧(fin b).1≠.normal) : aloopW f (st b0 0) = some (walkL step fin l b0):=by
  have key : ∀ (m : List α) (pre : List α) (b : β),l = pre++m→Inv pre.length b→aloopW f (st b pre.length) = some (walkL step fin m b):=by
    intro m
    induction m with
    | nil =>
      intro pre b e hi
      simp only [List.append_nil] at e
      subst e
      obtain ⟨h1,h2⟩:=hend b hi
      rw [aloopW_stop h1 h2]; rfl
    | cons x m ih =>
      intro pre b e hi
      have hx : l[pre.length]? = some x:=by rw [e]; simp
      rcases hround pre.length b x hi hx with ⟨b',h1,h2,h3⟩ | ⟨r,h1,h2,h3⟩
      · rw [aloopW_step h2]
        have:=ih (pre++[x]) b' (by rw [e]; simp) (by simpa using h3)
        simp only [List.length_append,List.length_cons,List.length_nil,Nat.zero_add] at this
        rw [this,walkL,h1]
      · rw [aloopW_stop h2 h3,walkL,h1]
  exact key l [] b0 rfl h0
theorem ilt {α : Type} {l : List α} {i : Nat} {x : α} (h : l[i]? = some x) : (i : Int) < (l.length : Int):=by
  have:=(List.getElem?_eq_some_iff.1 h).1
  omega
theorem wr64 {x : Int} (h0 : -9223372036854775808≤x) (h1 : x≤9223372036854775807) : IntKind.wrap .i64 x = x:=by
  simp [IntKind.wrap,IntKind.bits,IntKind.signed]
  omega
theorem w64s {n : Nat} (h : n < 9223372036854775807) : IntKind.wrap .i64 ((n : Int) + 1) = (n : Int) + 1:=wr64 (by omega) (by omega)
end Go.Av
set_option linter.unusedVariables false
set_option linter.unusedSimpArgs false
namespace Go.Av
open Go
def bs (l : List UInt8) : ByteArray:=⟨l.toArray⟩
theorem bs_of (s : ByteArray) : s = bs s.data.toList:=by cases s; simp [bs]
theorem bs_size (l : List UInt8) : (bs l).size = l.length:=by simp [bs,ByteArray.size]
theorem bs_data (l : List UInt8) : (bs l).data.toList = l:=by simp [bs]
theorem bs_toList (l : List UInt8) : (bs l).toList = l:=by
  rw [ByteArray.toList_eq]; simp [bs]
theorem bs_get (l : List UInt8) (i : Nat) : (bs l)[i]? = l[i]?:=by
  by_cases h : i < l.length
  · rw [getElem?_pos (bs l) i (by rw [bs_size]; exact h), List.getElem?_eq_getElem h]
    rfl
  · rw [getElem?_neg (bs l) i (by rw [bs_size]; exact h),List.getElem?_eq_none (by omega)]
theorem bs_append (l r : List UInt8) : bs l++bs r = bs (l++r):=by
  apply ByteArray.ext
  simp [bs]
theorem bs_extract (l : List UInt8) (i j : Nat) : (bs l).extract i j = bs ((l.take j).drop i):=by
  apply ByteArray.ext
  simp [bs,List.drop_take]
theorem bs_inj {l r : List UInt8} (h : bs l = bs r) : l = r:=by
  have:=congrArg (fun s=>s.data.toList) h
  simpa [bs] using this
end Go.Av
