/- Part of a proof: Head, fixed, Settled, Reduce of the definition. -/
import Derived.Test.YtlhmipepdcndoaaDoorAvMc
set_option maxRecDepth 100000
set_option linter.unusedSimpArgs false
set_option linter.unusedVariables false
namespace Go.Av
open Go Go.Proofs

/-- What is known is right for n columns. -/
structure Dep.InN (d : Dep) (n : Nat) : Prop where
  n16 : n ≤ 16
  e : ∀ p ∈ d.equal, inN n p
  el : d.equal.length ≤ 9223372036854775807
  c : ∀ c ∈ d.consts, 0 ≤ c ∧ c < n
  cl : d.consts.length ≤ 9223372036854775807
  s : ∀ set ∈ d.sets, set.length ≤ 9223372036854775807 ∧ ∀ c ∈ set, 0 ≤ c ∧ c < n
  sl : d.sets.length ≤ 9223372036854775807
theorem Dep.InN.in {d : Dep} {n : Nat} (h : d.InN n) : d.In :=
  ⟨fun p hp => inP_of h.n16 (h.e p hp), h.el, fun c hc => ⟨(h.c c hc).1, by have := (h.c c hc).2; have := h.n16; omega⟩, h.cl, fun s hs => ⟨(h.s s hs).1, fun c hc => ⟨((h.s s hs).2 c hc).1, by have := ((h.s s hs).2 c hc).2; have := h.n16; omega⟩⟩, h.sl⟩
theorem good_of {d : Dep} (hd : d.In) : Good d.equal (hOf d.equal) := by
  obtain ⟨h', _, H, q, m⟩ := c84 d [] hd.e hd.el (lowQ0 d.equal) (fun h p H q hp => lowQ_step hd.e h p H q hp)
  exact hOf_good ⟨H, q, m⟩

/-! ### fixed -/
def st072 (d : Dep) (by' : List Int) (v : List Bool) (S : List Bx) (i : Nat) : St :=
  { σ := [(2, .v (.slice 1 (by'.map iav))), (5, .l 5 0), (9, .v (.slice 1 (v.map AV.bool))), (10, .v (.int .i64 i))], own := [], loc := [(5, { cells := [intsAV d.consts, pairsAV d.equal, setsAV d.sets], own := [] })], S := S }
def st172 (d : Dep) (v : List Bool) (S : List Bx) (i : Nat) : St :=
  { σ := [(5, .l 5 0), (9, .v (.slice 1 (v.map AV.bool))), (11, .v (.int .i64 i))], own := [], loc := [(5, { cells := [intsAV d.consts, pairsAV d.equal, setsAV d.sets], own := [] })], S := S }
theorem c72 (n : Nat) (d : Dep) (by' : List Int) (col : Int) (S : List Bx) (hd : d.InN n) (hb : ∀ b ∈ by', 0 ≤ b ∧ b < n) (hbl : by'.length ≤ 9223372036854775807) (hc : 0 ≤ col ∧ col < n) :
    run 72 [.int .i64 n, d.av, .slice 1 (by'.map iav), .int .i64 col] S = some (.ret (.bool (fixedK d by' col)) none, S) := by
  refine eqn rfl ?_
  have hn := hd.n16
  have q := c73 n d col S (by omega) hd.e hd.el hc
  have hl : (classK d.equal n col).length = n := (classK_fix d.equal col hd.e hc).2
  have hcls : ∀ b : Int, 0 ≤ b ∧ b < n → (classK d.equal n col)[b.toNat]? = some (decide (headK d.equal b = headK d.equal col)) := fun b hb => by
    rw [get_bool (by omega), class_head hn hd.e (good_of hd.in) hc hb]
  have eF : fixedK d by' col = (by'.any (fun b => decide (headK d.equal b = headK d.equal col)) || d.consts.any (fun b => decide (headK d.equal b = headK d.equal col))) := by
    unfold fixedK; rw [List.any_append]
  generalize classK d.equal n col = v at *
  have l0 := loop_all (f := acode run a72_l0) by' (fun b => !decide (headK d.equal b = headK d.equal col)) (st072 d by' v S) (bad := (.ret, { σ := [(8, .v (.bool true))], own := [], loc := [], S := S }))
    (good := (.exit 0, { σ := [(5, .l 5 0), (9, .v (.slice 1 (v.map AV.bool)))], own := [], loc := [(5, { cells := [intsAV d.consts, pairsAV d.equal, setsAV d.sets], own := [] })], S := S })) (by simp) (by simp)
    (fun i b hx => by
      have h1 := ilt hx
      have hbb := hb b (List.mem_of_getElem? hx)
      have hg := hcls b hbb
      have hb0 := hbb.1
      rw [acode_k]
      by_cases e : headK d.equal b = headK d.equal col
      · rw [decide_eq_true e] at hg
        simp [a72_l0, st072, hx, h1, iav, hb0, hg, e]
      · rw [decide_eq_false e] at hg
        simp [a72_l0, st072, hx, h1, iav, hb0, hg, e, w64s (n := i) (by omega)])
    (by
      rw [acode_k]
      simp [a72_l0, st072])
  have l1 := loop_all (f := acode run a72_l1) d.consts (fun b => !decide (headK d.equal b = headK d.equal col)) (st172 d v S) (bad := (.ret, { σ := [(8, .v (.bool true))], own := [], loc := [], S := S }))
    (good := (.exit 2, { σ := [], own := [], loc := [], S := S })) (by simp) (by simp)
    (fun i b hx => by
      have h1 := ilt hx
      have hbb := hd.c b (List.mem_of_getElem? hx)
      have hg := hcls b hbb
      have hb0 := hbb.1
      have hdl := hd.cl
      rw [acode_k]
      by_cases e : headK d.equal b = headK d.equal col
      · rw [decide_eq_true e] at hg
        simp [a72_l1, st172, intsAV, hx, h1, iav, hb0, hg, e]
      · rw [decide_eq_false e] at hg
        simp [a72_l1, st172, intsAV, hx, h1, iav, hb0, hg, e, w64s (n := i) (by omega)])
    (by
      rw [acode_k]
      simp [a72_l1, st172, intsAV])
  have e0 : by'.all (fun b => !decide (headK d.equal b = headK d.equal col)) = !by'.any (fun b => decide (headK d.equal b = headK d.equal col)) := by rw [List.not_any_eq_all_not]
  have e1 : d.consts.all (fun b => !decide (headK d.equal b = headK d.equal col)) = !d.consts.any (fun b => decide (headK d.equal b = headK d.equal col)) := by rw [List.not_any_eq_all_not]
  rw [e0] at l0
  rw [e1] at l1
  rw [eF]
  generalize by'.any (fun b => decide (headK d.equal b = headK d.equal col)) = B0 at *
  generalize d.consts.any (fun b => decide (headK d.equal b = headK d.equal col)) = B1 at *
  simp only [st072, st172, Int.natCast_zero, Int.ofNat_zero, intsAV, pairsAV, setsAV] at l0 l1
  simp only [Dep.av, intsAV, pairsAV, setsAV, bools] at q ⊢
  cases B0 <;> cases B1 <;> simp at l0 l1 <;> simp [a72, q, l0, l1]

/-! ### Head -/
def st56 (n : Nat) (col : Int) (v : List Bool) (S : List Bx) (i : Nat) : St :=
  { σ := [(0, .v (.int .i64 n)), (2, .v (.int .i64 col)), (7, .v (.slice 1 (v.map AV.bool))), (8, .v (.int .i64 i))], own := [], loc := [], S := S }
theorem c56 (n : Nat) (d : Dep) (col : Int) (S : List Bx) (hd : d.InN n) (hc : 0 ≤ col ∧ col < n) :
    run 56 [.int .i64 n, d.av, .int .i64 col] S = some (.ret (.int .i64 (headK d.equal col : Nat)) none, S) := by
  refine eqn rfl ?_
  have hn := hd.n16
  have hI := hd.in
  have g := good_of hI
  have q := c73 n d col S (by omega) hd.e hd.el hc
  have hl : (classK d.equal n col).length = n := (classK_fix d.equal col hd.e hc).2
  have hiff := classK_iff d.equal col hd.e hc
  have hconn : Conn d.equal col.toNat (headK d.equal col) := (g.q col.toNat (by omega)).2.symm
  have hle : headK d.equal col ≤ col.toNat := (g.q col.toNat (by omega)).1
  have hleast : ∀ j, Conn d.equal col.toNat j → headK d.equal col ≤ j := fun j c => g.least hI.e (by omega) c.symm
  have h1 := (hiff (headK d.equal col)).2 hconn
  have h2 : ∀ j, j < headK d.equal col → (classK d.equal n col).getD j false = false := fun j hj => by
    cases e : (classK d.equal n col).getD j false with
    | false => rfl
    | true => have := hleast j ((hiff j).1 e); omega
  generalize headK d.equal col = m at *
  generalize classK d.equal n col = v at *
  have hloop := loop_upto (f := acode run a56_l0) (st := st56 n col v S) (r := (.ret, { σ := [(6, .v (.int .i64 m))], own := [], loc := [], S := S })) (by simp) m 0
    (fun j _ hj => by
      have hj' : j < m := by omega
      have hg := get_bool (v := v) (i := j) (by omega)
      rw [h2 j hj'] at hg
      have hlt : (j : Int) < (n : Int) := by omega
      rw [acode_k]
      simp [a56_l0, st56, hlt, hg, w64s (n := j) (by omega)])
    (by
      rw [Nat.zero_add]
      have hg := get_bool (v := v) (i := m) (by omega)
      rw [h1] at hg
      have hlt : (m : Int) < (n : Int) := by omega
      rw [acode_k]
      simp [a56_l0, st56, hlt, hg])
  simp only [st56, Int.natCast_zero, Int.ofNat_zero] at hloop
  simp only [Dep.av, intsAV, pairsAV, setsAV, bools] at q ⊢
  simp [a56, q, hloop]

/-! ### Settled -/
def l55 (d : Dep) : Locs := [(5, { cells := [intsAV d.consts, pairsAV d.equal, setsAV d.sets], own := [] })]
def st055 (n : Nat) (d : Dep) (by' : List Int) (col : Int) (S : List Bx) (j : Nat) (b : Bool) (i : Nat) : St :=
  { σ := [(0, .v (.int .i64 n)), (2, .v (.slice 1 (by'.map iav))), (3, .v (.int .i64 col)), (5, .l 5 0), (9, .v (.int .i64 j)), (10, .v (.bool b)), (11, .v (.int .i64 i))], own := [], loc := l55 d, S := S }
def st155 (n : Nat) (d : Dep) (by' : List Int) (col : Int) (S : List Bx) (j : Nat) : St :=
  { σ := [(0, .v (.int .i64 n)), (2, .v (.slice 1 (by'.map iav))), (3, .v (.int .i64 col)), (5, .l 5 0), (9, .v (.int .i64 j))], own := [], loc := l55 d, S := S }
theorem loop055 (n : Nat) (d : Dep) (by' : List Int) (col : Int) (S : List Bx) (j : Nat) (set : List Int) (hj : d.sets[j]? = some set) (hd : d.InN n) (hb : ∀ b ∈ by', 0 ≤ b ∧ b < n) (hbl : by'.length ≤ 9223372036854775807) :
    aloopW (acode run a55_l0) (st055 n d by' col S j true 0) = some (.exit 2, { σ := [(0, .v (.int .i64 n)), (2, .v (.slice 1 (by'.map iav))), (3, .v (.int .i64 col)), (5, .l 5 0), (9, .v (.int .i64 j)), (10, .v (.bool (set.all (fixedK d by'))))], own := [], loc := l55 d, S := S }) := by
  obtain ⟨hsl, hsc⟩ := hd.s set (List.mem_of_getElem? hj)
  have h := loop_fold (f := acode run a55_l0) set (fun b i => st055 n d by' col S j b i) (fun b c => b && fixedK d by' c)
    (fun b => (.exit 2, { σ := [(0, .v (.int .i64 n)), (2, .v (.slice 1 (by'.map iav))), (3, .v (.int .i64 col)), (5, .l 5 0), (9, .v (.int .i64 j)), (10, .v (.bool b))], own := [], loc := l55 d, S := S })) (fun _ _ => True) (b0 := true) trivial
    (fun i b c _ hx => by
      refine ⟨?_, trivial⟩
      have h1 := ilt hx
      have q := c72 n d by' c S hd hb hbl (hsc c (List.mem_of_getElem? hx))
      generalize fixedK d by' c = fb at *
      simp only [Dep.av, intsAV, pairsAV, setsAV] at q
      rw [acode_k]
      cases b
      · simp [a55_l0, st055, l55, intsAV, pairsAV, setsAV, hj, hx, h1, iav, q, w64s (n := i) (by omega)]
      · simp [a55_l0, st055, l55, intsAV, pairsAV, setsAV, hj, hx, h1, iav, q, w64s (n := i) (by omega)])
    (fun b _ => by
      rw [acode_k]
      simp [a55_l0, st055, l55, intsAV, pairsAV, setsAV, hj])
    (fun _ => by simp)
  rw [foldl_all, Bool.true_and] at h
  exact h
theorem c55 (n : Nat) (d : Dep) (by' : List Int) (col : Int) (S : List Bx) (hd : d.InN n) (hb : ∀ b ∈ by', 0 ≤ b ∧ b < n) (hbl : by'.length ≤ 9223372036854775807) (hc : 0 ≤ col ∧ col < n) :
    run 55 [.int .i64 n, d.av, .slice 1 (by'.map iav), .int .i64 col] S = some (.ret (.bool (settledK d by' col)) none, S) := by
  refine eqn rfl ?_
  have q := c72 n d by' col S hd hb hbl hc
  have l1 := loop_all (f := acode run a55_l1) d.sets (fun set => !set.all (fixedK d by')) (st155 n d by' col S) (bad := (.ret, { σ := [(8, .v (.bool true))], own := [], loc := [], S := S }))
    (good := (.exit 0, { σ := [(0, .v (.int .i64 n)), (2, .v (.slice 1 (by'.map iav))), (3, .v (.int .i64 col)), (5, .l 5 0)], own := [], loc := l55 d, S := S })) (by simp) (by simp)
    (fun j set hx => by
      have h1 := ilt hx
      have hsl := hd.sl
      have q0 := loop055 n d by' col S j set hx hd hb hbl
      simp only [st055, Int.natCast_zero, Int.ofNat_zero, l55, intsAV, pairsAV, setsAV] at q0
      rw [acode_k]
      cases hA : set.all (fixedK d by') <;> rw [hA] at q0 <;> simp [a55_l1, st155, l55, intsAV, pairsAV, setsAV, h1, q0, w64s (n := j) (by omega)])
    (by
      rw [acode_k]
      simp [a55_l1, st155, l55, intsAV, pairsAV, setsAV])
  have e0 : d.sets.all (fun set => !set.all (fixedK d by')) = !d.sets.any (fun set => set.all (fixedK d by')) := by rw [List.not_any_eq_all_not]
  have eS : settledK d by' col = (d.sets.any (fun set => set.all (fixedK d by')) || fixedK d by' col) := by unfold settledK; rw [Bool.or_comm]
  rw [e0] at l1
  rw [eS]
  generalize d.sets.any (fun set => set.all (fixedK d by')) = B0 at *
  generalize fixedK d by' col = B1 at *
  simp only [st155, Int.natCast_zero, Int.ofNat_zero, l55, intsAV, pairsAV, setsAV] at l1
  simp only [Dep.av, intsAV, pairsAV, setsAV] at q ⊢
  cases B0 <;> simp at l1 <;> simp [a55, q, l1]

/-! ### Reduce -/
def st34 (n : Nat) (d : Dep) (ks : List K) (S : List Bx) (x : List Int × List K) (i : Nat) : St :=
  { σ := [(0, .v (.int .i64 n)), (2, .v (.slice 2 (ks.map K.av))), (4, .l 4 0), (7, .v (.slice 2 (x.2.map K.av))), (8, .v (.slice 1 (x.1.map iav))), (9, .v (.int .i64 i))], own := [(7, 78), (8, 3)],
    loc := [(4, { cells := [intsAV d.consts, pairsAV d.equal, setsAV d.sets], own := [] })], S := S }
theorem c34 (n : Nat) (d : Dep) (ks : List K) (S : List Bx) (hd : d.InN n) (hk : ∀ k ∈ ks, 0 ≤ k.c ∧ k.c < n) (hkl : ks.length ≤ 1000) :
    run 34 [.int .i64 n, d.av, keysAV ks] S = some (.ret (keysAV (reduceK d ks)) (some 78), S) := by
  refine eqn rfl ?_
  have h := loop_fold (f := acode run a34_l0) ks (fun x i => st34 n d ks S x i) (redStepK d)
    (fun x => (.exit 0, { σ := [(7, .v (.slice 2 (x.2.map K.av)))], own := [(7, 78)], loc := [], S := S })) (fun i x => x.1.length ≤ i ∧ x.2.length ≤ i ∧ ∀ b ∈ x.1, 0 ≤ b ∧ b < n) (b0 := ([], [])) ⟨by simp, by simp, by simp⟩
    (fun i x k hx hki => by
      obtain ⟨by', acc⟩ := x
      obtain ⟨hbl, hal, hb⟩ := hx
      simp only at hbl hal hb
      have h1 := ilt hki
      have hkk := hk k (List.mem_of_getElem? hki)
      have eR : redStepK d (by', acc) k = (by' ++ [k.c], if settledK d by' k.c then acc else acc ++ [⟨(headK d.equal k.c : Nat), k.d⟩]) := rfl
      rw [eR]
      refine ⟨?_, by simp; omega, by
        show (if settledK d by' k.c = true then acc else acc ++ [⟨(headK d.equal k.c : Nat), k.d⟩]).length ≤ i + 1
        split
        · omega
        · rw [List.length_append]; simp only [List.length_cons, List.length_nil]; omega, fun b hbm => by
          rcases List.mem_append.1 hbm with h | h
          · exact hb b h
          · rw [List.mem_singleton.1 h]; exact hkk⟩
      have q1 := c55 n d by' k.c S hd hb (by omega) hkk
      have q2 := c56 n d k.c S hd hkk
      have hb1 : (by'.length + 1) * 8 ≤ 140737488355328 := by omega
      have hb2 : (acc.length + 1) * 16 ≤ 140737488355328 := by omega
      have hw := w64s (n := i) (by omega)
      simp only [Dep.av, intsAV, pairsAV, setsAV] at q1 q2
      generalize headK d.equal k.c = m at *
      rw [acode_k]
      obtain ⟨kc, kd⟩ := k
      simp only at *
      cases hA : settledK d by' kc <;> rw [hA] at q1 <;> simp [a34_l0, st34, intsAV, pairsAV, setsAV, hki, h1, K.av, q1, q2, hb1, hb2, hw, iav])
    (fun x _ => by
      rw [acode_k]
      simp [a34_l0, st34, intsAV, pairsAV, setsAV])
    (fun _ => by simp)
  have e : (ks.foldl (redStepK d) ([], [])).2 = reduceK d ks := rfl
  rw [e] at h
  simp only [st34, Int.natCast_zero, Int.ofNat_zero, List.map_nil, intsAV, pairsAV, setsAV] at h
  simp only [Dep.av, intsAV, pairsAV, setsAV, keysAV]
  simp [a34, h]
end Go.Av
