/- Part of a proof: Rows that are different in some columns, told by their strings. -/
import Derived.Test.YtlhmipepdcndoaaGreatDoorZvEe
set_option maxRecDepth 100000
set_option linter.unusedSimpArgs false
set_option linter.unusedVariables false
namespace Go.Av
open Go Go.Proofs

def goodV (v : V) : Prop := isV v = true ∧ valI v
def nameL (r : List V) (set : List Int) : List UInt8 := (set.map fun c => wrL (vAt r c) ++ [44]).flatten
theorem nameL_len {r : List V} (hr : ∀ v ∈ r, goodV v) : ∀ {set : List Int}, (∀ c ∈ set, 0 ≤ c ∧ c < r.length) → (nameL r set).length ≤ 403 * set.length
  | [], _ => by simp [nameL]
  | c :: set, h => by
    have ih := nameL_len hr (set := set) (fun c hc => h c (.tail _ hc))
    have hg := vAt_get (r := r) (k := ⟨c, false⟩) (h c (.head _))
    have hv := hr _ (List.mem_of_getElem? hg)
    have := wrL_len hv.1 hv.2
    simp only [nameL, List.map_cons, List.flatten_cons, List.length_append, List.length_cons, List.length_nil] at ih ⊢
    simp only at this
    omega
def mcells (met : List (List UInt8)) : List AV := (met.map fun n => [AV.str (bs n), .bool true]).flatten
theorem mget_met (n : List UInt8) : ∀ (met : List (List UInt8)), mget none (mcells met) (.str (bs n)) = some (if n ∈ met then some (.bool true) else none)
  | [] => rfl
  | m :: met => by
    have ih := mget_met n met
    simp only [mcells, List.map_cons, List.flatten_cons, List.cons_append, List.nil_append, mget, isKeyA, if_true, keyEq, bs_toList] at ih ⊢
    by_cases h : n = m
    · subst h; simp
    · rw [if_neg (by simpa using h), ih]
      simp [h]
theorem mset_met (n : List UInt8) : ∀ (met : List (List UInt8)), n ∉ met → mset none (mcells met) (.str (bs n)) (.bool true) = some (mcells (met ++ [n]))
  | [], _ => rfl
  | m :: met, h => by
    simp only [List.mem_cons, not_or] at h
    have ih := mset_met n met h.2
    simp only [mcells, List.map_cons, List.flatten_cons, List.cons_append, List.nil_append, mset, isKeyA, if_true, keyEq, bs_toList] at ih ⊢
    rw [if_neg (by simpa using h.1), ih]
    rfl
def uniqGo (set : List Int) : List (List UInt8) → List (List V) → Bool
  | _, [] => true
  | met, r :: l => if nameL r set ∈ met then false else uniqGo set (met ++ [nameL r set]) l
def mbox (met : List (List UInt8)) : Bx := { cells := mcells met, map := true }
theorem kleave_boolM (S : List Bx) (x : Bx) (b : Bool) (own : Option Nat) : aleave 0 S (S ++ [x]) (.ret (.bool b) own) = some (.ret (.bool b) own, S) := by
  unfold aleave
  rw [if_neg (by simp), if_pos]
  · simp
  · refine ⟨fun i y hi hy => ?_, rfl⟩
    left
    rw [List.getElem?_append_left (by simpa using hi)] at hy
    exact hy
def st0_41 (S : List Bx) (m : Nat) (l : List (List V)) (set : List Int) (i : Nat) (r : List V) (acc : List UInt8) (k : Nat) : St :=
  { σ := [(1, .v (intsAV set)), (5, .v (.mapp m)), (7, .v (rowAV r)), (8, .v (.str (bs acc))), (12, .v (rowsAV l)), (13, .v (.int .i64 l.length)), (14, .v (.int .i64 i)), (18, .v (intsAV set)), (19, .v (.int .i64 set.length)), (20, .v (.int .i64 k))], own := [], loc := [], S := S }
theorem loop0_41 (S : List Bx) (m : Nat) (l : List (List V)) (set : List Int) (i : Nat) (r : List V) (hr : ∀ v ∈ r, goodV v) (hset : ∀ c ∈ set, 0 ≤ c ∧ c < r.length) (hsl : set.length ≤ 1000) :
    aloopW (acode run a41_l0) (st0_41 S m l set i r [] 0) = some (.exit 2, { σ := [(1, .v (intsAV set)), (5, .v (.mapp m)), (8, .v (.str (bs (nameL r set)))), (12, .v (rowsAV l)), (13, .v (.int .i64 l.length)), (14, .v (.int .i64 i))], own := [], loc := [], S := S }) := by
  have h := loop_fold (f := acode run a41_l0) set (fun acc k => st0_41 S m l set i r acc k) (fun acc c => acc ++ (wrL (vAt r c) ++ [44]))
    (fun acc => (.exit 2, { σ := [(1, .v (intsAV set)), (5, .v (.mapp m)), (8, .v (.str (bs acc))), (12, .v (rowsAV l)), (13, .v (.int .i64 l.length)), (14, .v (.int .i64 i))], own := [], loc := [], S := S })) (fun k acc => acc.length ≤ 403 * k) (b0 := []) (by simp)
    (fun k acc c ha hx => by
      have h1 := ilt hx
      have hlt := (List.getElem?_eq_some_iff.1 hx).1
      have hc := hset c (List.mem_of_getElem? hx)
      have hg := vAt_get (r := r) (k := ⟨c, false⟩) hc
      simp only at hg
      have hv := hr _ (List.mem_of_getElem? hg)
      have hw := wrL_len hv.1 hv.2
      have q := c76 (vAt r c) hv.1 hv.2 S
      refine ⟨?_, by simp; omega⟩
      obtain ⟨hc0, hc1⟩ := hc
      generalize vAt r c = v at *
      simp only [V.av] at q
      generalize wrL v = w at *
      have e0 : (⟨#[44]⟩ : ByteArray) = bs [44] := rfl
      have s1 : w.length + 1 ≤ 9223372036854775807 := by omega
      have s2 : acc.length + (w.length + 1) ≤ 9223372036854775807 := by omega
      rw [acode_k]
      simp [a41_l0, st0_41, intsAV, rowAV, V.av, hx, h1, iav, hc0, hg, q, e0, bs_append, bs_size, s1, s2, w64s (n := k) (by omega)])
    (fun acc _ => by
      rw [acode_k]
      simp [a41_l0, st0_41, intsAV])
    (fun _ => by simp)
  have e : ∀ (s : List Int) (acc : List UInt8), s.foldl (fun acc c => acc ++ (wrL (vAt r c) ++ [44])) acc = acc ++ nameL r s := by
    intro s
    induction s with
    | nil => intro acc; simp [nameL]
    | cons c s ih => intro acc; rw [List.foldl_cons, ih]; simp [nameL]
  rw [e, List.nil_append] at h
  exact h
def st1_41 (S : List Bx) (l : List (List V)) (set : List Int) (met : List (List UInt8)) (i : Nat) : St :=
  { σ := [(1, .v (intsAV set)), (5, .v (.mapp S.length)), (12, .v (rowsAV l)), (13, .v (.int .i64 l.length)), (14, .v (.int .i64 i))], own := [], loc := [], S := S ++ [mbox met] }
theorem c41 (l : List (List V)) (set : List Int) (S : List Bx) (hr : ∀ r ∈ l, (∀ v ∈ r, goodV v) ∧ ∀ c ∈ set, 0 ≤ c ∧ c < r.length) (hsl : set.length ≤ 1000) (hl : l.length ≤ 1000000) :
    run 41 [rowsAV l, intsAV set] S = some (.ret (.bool (uniqGo set [] l)) none, S) := by
  refine eqn rfl ?_
  have h := loop_walk (f := acode run a41_l1) l (fun met i => st1_41 S l set met i)
    (fun met r => if nameL r set ∈ met then .inr (.ret, { σ := [(4, .v (.bool false))], own := [], loc := [], S := S ++ [mbox met] }) else .inl (met ++ [nameL r set]))
    (fun met => (.exit 0, { σ := [], own := [], loc := [], S := S ++ [mbox met] })) (fun _ _ => True) (b0 := []) trivial
    (fun i met r _ hx => by
      have h1 := ilt hx
      have hlt := (List.getElem?_eq_some_iff.1 hx).1
      obtain ⟨g1, g2⟩ := hr r (List.mem_of_getElem? hx)
      have q := loop0_41 (S ++ [mbox met]) S.length l set i r g1 g2 hsl
      have m1 := mget_met (nameL r set) met
      have m2 := mset_met (nameL r set) met
      generalize nameL r set = n at *
      simp only [st0_41, Int.natCast_zero, Int.ofNat_zero, intsAV, rowAV, rowsAV] at q
      have hb : bs [] = (⟨#[]⟩ : ByteArray) := rfl
      rw [hb] at q
      by_cases hn : n ∈ met
      · right
        rw [if_pos hn] at m1
        refine ⟨_, by rw [if_pos hn], ?_, by simp⟩
        rw [acode_k]
        simp [mbox] at q
        simp [a41_l1, st1_41, rowsAV, rowAV, intsAV, hx, h1, q, mbox, m1]
      · left
        rw [if_neg hn] at m1
        refine ⟨_, by rw [if_neg hn], ?_, trivial⟩
        rw [acode_k]
        simp [mbox] at q
        simp [a41_l1, st1_41, rowsAV, rowAV, intsAV, hx, h1, q, mbox, m1, m2 hn, w64s (n := i) (by omega)])
    (fun met _ => ⟨by
      rw [acode_k]
      simp [a41_l1, st1_41], by simp⟩)
  have e : ∀ (m : List (List V)) (met : List (List UInt8)), ∃ met', walkL (fun met r => if nameL r set ∈ met then .inr ((.ret, { σ := [(4, .v (.bool false))], own := [], loc := [], S := S ++ [mbox met] }) : AEx × St) else .inl (met ++ [nameL r set]))
      (fun met => ((.exit 0, { σ := [], own := [], loc := [], S := S ++ [mbox met] }) : AEx × St)) m met = if uniqGo set met m then (.exit 0, { σ := [], own := [], loc := [], S := S ++ [mbox met'] }) else (.ret, { σ := [(4, .v (.bool false))], own := [], loc := [], S := S ++ [mbox met'] }) := by
    intro m
    induction m with
    | nil => intro met; exact ⟨met, rfl⟩
    | cons r m ih =>
      intro met
      simp only [walkL, uniqGo]
      by_cases hn : nameL r set ∈ met
      · exact ⟨met, by simp [hn]⟩
      · obtain ⟨met', h⟩ := ih (met ++ [nameL r set])
        exact ⟨met', by simp only [if_neg hn]; exact h⟩
  obtain ⟨met', e⟩ := e l []
  rw [e] at h
  simp only [st1_41, Int.natCast_zero, Int.ofNat_zero, intsAV, rowsAV] at h
  have hm : mbox [] = { cells := [], map := true } := rfl
  rw [hm] at h
  generalize uniqGo set [] l = B at *
  cases B <;> simp at h <;> simp [a41, rowsAV, intsAV, h, kleave_boolM]
end Go.Av
