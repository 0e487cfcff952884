/- Part of a proof: Tame, and TraitsChecks. -/
import Derived.Test.YtlhmipepdcndoaaGreatDoorTvCg
import Derived.Test.YtlhmipepdcndoaaGreatDoorTvKl
set_option maxRecDepth 100000
set_option linter.unusedSimpArgs false
set_option linter.unusedVariables false
namespace Go.Av
open Go Go.Proofs

theorem len_of {α : Type} {l : List α} {i : Nat} {x : α} (h : l[i]? = some x) : i < l.length := (List.getElem?_eq_some_iff.1 h).1
abbrev nil3 : List AV := [.slice 1 [], .slice 2 [], .slice 1 []]
abbrev own3 : List (Nat × Nat) := [(0, 3), (1, 63), (2, 22)]
abbrev l6 (A B C r0 r1 r2 : List AV) (own : List (Nat × Nat)) : Locs :=
  [(3, { cells := [.slice 1 A, .slice 2 B, .slice 1 C], own := [] }), (4, { cells := nil3, own := own3 }), (5, { cells := [.slice 1 r0, .slice 2 r1, .slice 1 r2], own := own })]
def st6 (m : Int) (A B C r0 r1 r2 : List AV) (own : List (Nat × Nat)) (j : Nat) (S : List Bx) (i : Nat) : St :=
  { σ := [(0, .v (.int .i64 m)), (3, .l 3 0), (4, .l 4 0), (5, .l 5 0), (j, .v (.int .i64 i))], own := [], loc := l6 A B C r0 r1 r2 own, S := S }
def out6 (m : Int) (A B C r0 r1 r2 : List AV) (own : List (Nat × Nat)) (S : List Bx) : St :=
  { σ := [(0, .v (.int .i64 m)), (3, .l 3 0), (4, .l 4 0), (5, .l 5 0)], own := [], loc := l6 A B C r0 r1 r2 own, S := S }
theorem q38 {c m : Int} {S : List Bx} (h0 : 1 ≤ m) (h1 : m ≤ 100000) : run 26 [.int .i64 c, .int .i64 m] S = some (.ret (.int .i64 (modOf c m)) none, S) := c26 c m S h0 h1
theorem r11a (m : Int) (A B C r0 r1 r2 : List AV) (S : List Bx) (i : Nat) (x : Int) (hm : 1 ≤ m) (hm2 : m ≤ 100000) (h2 : i < 2) (hl : r0.length ≤ 100) (hk : A[i]? = some (.int .i64 x)) :
    acode run a6_l0 (st6 m A B C r0 r1 r2 own3 6 S i) = some (.normal, st6 m A B C (r0 ++ [.int .i64 (modOf x m)]) r1 r2 own3 6 S (i + 1)) := by
  rw [acode_k]
  have hi := ilt hk
  have h2' : (i : Int) < 2 := by omega
  have hb : (r0.length + 1) * 8 ≤ 140737488355328 := by omega
  simp [a6_l0, st6, hk, hi, h2', hb, q38 hm hm2, w64s (n := i) (by omega)]
theorem e11a (m : Int) (A B C r0 r1 r2 : List AV) (S : List Bx) (i : Nat) (h : ¬ (i < A.length ∧ i < 2)) :
    acode run a6_l0 (st6 m A B C r0 r1 r2 own3 6 S i) = some (.exit 0, out6 m A B C r0 r1 r2 own3 S) := by
  rw [acode_k]
  by_cases h1 : (i : Int) < (A.length : Int)
  · have h2 : ¬ ((i : Int) < 2) := by omega
    simp [a6_l0, st6, out6, h1, h2]
  · simp [a6_l0, st6, out6, h1]
theorem r11b (m : Int) (A B C r0 r1 r2 : List AV) (ow : List (Nat × Nat)) (how : ow = own3 ∨ ow = [(1, 63), (0, 3), (2, 22)]) (S : List Bx) (i : Nat) (x y : Int) (hm : 1 ≤ m) (hm2 : m ≤ 100000) (h2 : i < 3) (hl : r1.length ≤ 100) (hk : B[i]? = some (.agg [.int .i64 x, .int .i64 y])) :
    acode run a6_l1 (st6 m A B C r0 r1 r2 ow 7 S i) = some (.normal, st6 m A B C r0 (r1 ++ [.agg [.int .i64 (modOf x m), .int .i64 (modOf y m)]]) r2 [(1, 63), (0, 3), (2, 22)] 7 S (i + 1)) := by
  rw [acode_k]
  have hi := ilt hk
  have h2' : (i : Int) < 3 := by omega
  have hb : (r1.length + 1) * 16 ≤ 140737488355328 := by omega
  rcases how with rfl | rfl <;> simp [a6_l1, st6, hk, hi, h2', hb, q38 hm hm2, w64s (n := i) (by omega)]
theorem e11b (m : Int) (A B C r0 r1 r2 : List AV) (ow : List (Nat × Nat)) (S : List Bx) (i : Nat) (h : ¬ (i < B.length ∧ i < 3)) :
    acode run a6_l1 (st6 m A B C r0 r1 r2 ow 7 S i) = some (.exit 2, out6 m A B C r0 r1 r2 ow S) := by
  rw [acode_k]
  by_cases h1 : (i : Int) < (B.length : Int)
  · have h2 : ¬ ((i : Int) < 3) := by omega
    simp [a6_l1, st6, out6, h1, h2]
  · simp [a6_l1, st6, out6, h1]
def st6c (m : Int) (A B C r0 r1 r2 : List AV) (own : List (Nat × Nat)) (j : Nat) (S : List Bx) (acc : List AV) (i : Nat) : St :=
  { σ := [(0, .v (.int .i64 m)), (3, .l 3 0), (4, .l 4 0), (5, .l 5 0), (8, .v (.int .i64 j)), (9, .v (.slice 1 acc)), (10, .v (.int .i64 i))], own := [(9, 3)], loc := l6 A B C r0 r1 r2 own, S := S }
theorem r11c (m : Int) (A B C r0 r1 r2 : List AV) (ow : List (Nat × Nat)) (S : List Bx) (j i : Nat) (D acc : List AV) (x : Int) (hm : 1 ≤ m) (hm2 : m ≤ 100000) (h2 : i < 3) (hl : acc.length ≤ 100) (hj : C[j]? = some (.slice 1 D)) (hk : D[i]? = some (.int .i64 x)) :
    acode run a6_l2 (st6c m A B C r0 r1 r2 ow j S acc i) = some (.normal, st6c m A B C r0 r1 r2 ow j S (acc ++ [.int .i64 (modOf x m)]) (i + 1)) := by
  rw [acode_k]
  have hi := ilt hk
  have h2' : (i : Int) < 3 := by omega
  have hb : (acc.length + 1) * 8 ≤ 140737488355328 := by omega
  simp [a6_l2, st6c, hk, hi, hj, h2', hb, q38 hm hm2, w64s (n := i) (by omega)]
theorem e11c (m : Int) (A B C r0 r1 r2 : List AV) (ow : List (Nat × Nat)) (S : List Bx) (j i : Nat) (D acc : List AV) (hj : C[j]? = some (.slice 1 D)) (h : ¬ (i < D.length ∧ i < 3)) :
    acode run a6_l2 (st6c m A B C r0 r1 r2 ow j S acc i) = some (.exit 6, { σ := [(0, .v (.int .i64 m)), (3, .l 3 0), (4, .l 4 0), (5, .l 5 0), (8, .v (.int .i64 j)), (9, .v (.slice 1 acc))], own := [(9, 3)], loc := l6 A B C r0 r1 r2 ow, S := S }) := by
  rw [acode_k]
  by_cases h1 : (i : Int) < (D.length : Int)
  · have h2 : ¬ ((i : Int) < 3) := by omega
    simp [a6_l2, st6c, h1, h2, hj]
  · simp [a6_l2, st6c, h1, hj]

/-- The first few elements, changed one by one: what a loop over them leaves. -/
theorem loop_few {f : St → Option (AEx × St)} {α : Type} (l : List α) (n : Nat) (g : α → AV) (st : List AV → Nat → St) {r : List AV → AEx × St} (hr : ∀ a, (r a).1 ≠ .normal)
    (hround : ∀ (i : Nat) (acc : List AV) x, l[i]? = some x → i < n → acc.length = i → f (st acc i) = some (.normal, st (acc ++ [g x]) (i + 1)))
    (hend : ∀ (i : Nat) acc, ¬ (i < l.length ∧ i < n) → f (st acc i) = some (r acc)) : aloopW f (st [] 0) = some (r ((l.take n).map g)) := by
  have h := loop_upto (f := f) (st := fun i => st ((l.take i).map g) i) (r := r ((l.take (min l.length n)).map g)) (hr _) (min l.length n) 0
    (fun k _ hk => by
      have hk' : k < l.length := by omega
      have hg : l[k]? = some l[k] := by simp [hk']
      show f (st _ k) = _
      rw [hround k _ l[k] hg (by omega) (by simp; omega), List.take_add_one, hg]
      simp only [List.map_append, Option.toList_some, List.map_cons, List.map_nil])
    (by rw [Nat.zero_add]; exact hend _ _ (by omega))
  rw [take_min'] at h
  simpa using h

def tameDep (m : Int) (d : Dep) : Dep := ⟨(d.consts.take 2).map (modOf · m), (d.equal.take 3).map (fun p => (modOf p.1 m, modOf p.2 m)), (d.sets.take 2).map (fun l => (l.take 3).map (modOf · m))⟩
theorem loop6a (m : Int) (A : List Int) (B C r1 r2 : List AV) (S : List Bx) (hm : 1 ≤ m) (hm2 : m ≤ 100000) :
    aloopW (acode run a6_l0) (st6 m (A.map iav) B C [] r1 r2 own3 6 S 0) = some (.exit 0, out6 m (A.map iav) B C ((A.take 2).map fun x => iav (modOf x m)) r1 r2 own3 S) :=
  loop_few A 2 (fun x => iav (modOf x m)) (fun acc i => st6 m (A.map iav) B C acc r1 r2 own3 6 S i) (r := fun acc => (.exit 0, out6 m (A.map iav) B C acc r1 r2 own3 S)) (by simp)
    (fun i acc x hx hi hl => r11a m _ _ _ _ _ _ S i x hm hm2 hi (by omega) (by simp [hx, iav]))
    (fun i acc h => e11a m _ _ _ _ _ _ S i (by simpa using h))
theorem loop6b (m : Int) (A : List AV) (B : List (Int × Int)) (C r0 r2 : List AV) (S : List Bx) (hm : 1 ≤ m) (hm2 : m ≤ 100000) :
    ∃ ow, (ow = own3 ∨ ow = [(1, 63), (0, 3), (2, 22)]) ∧ aloopW (acode run a6_l1) (st6 m A (B.map pav) C r0 [] r2 own3 7 S 0) = some (.exit 2, out6 m A (B.map pav) C r0 ((B.take 3).map fun p => pav (modOf p.1 m, modOf p.2 m)) r2 ow S) := by
  let ow : List AV → List (Nat × Nat) := fun l => if l = [] then own3 else [(1, 63), (0, 3), (2, 22)]
  have how : ∀ l, ow l = own3 ∨ ow l = [(1, 63), (0, 3), (2, 22)] := fun l => by
    by_cases h : l = []
    · exact .inl (if_pos h)
    · exact .inr (if_neg h)
  refine ⟨ow ((B.take 3).map fun p => pav (modOf p.1 m, modOf p.2 m)), how _, ?_⟩
  exact loop_few B 3 (fun p => pav (modOf p.1 m, modOf p.2 m)) (fun acc i => st6 m A (B.map pav) C r0 acc r2 (ow acc) 7 S i) (r := fun acc => (.exit 2, out6 m A (B.map pav) C r0 acc r2 (ow acc) S)) (by simp)
    (fun i acc x hx hi hl => by
      rw [r11b m A (B.map pav) C r0 acc r2 (ow acc) (how acc) S i x.1 x.2 hm hm2 hi (by omega) (by simp [hx, pav])]
      simp [ow, pav])
    (fun i acc h => e11b m _ _ _ _ _ _ _ S i (by simpa using h))
theorem loop6c (m : Int) (A B C r0 r1 r2 : List AV) (ow : List (Nat × Nat)) (S : List Bx) (j : Nat) (D : List Int) (hm : 1 ≤ m) (hm2 : m ≤ 100000) (hj : C[j]? = some (.slice 1 (D.map iav))) :
    aloopW (acode run a6_l2) (st6c m A B C r0 r1 r2 ow j S [] 0) = some (.exit 6, { σ := [(0, .v (.int .i64 m)), (3, .l 3 0), (4, .l 4 0), (5, .l 5 0), (8, .v (.int .i64 j)), (9, .v (.slice 1 ((D.take 3).map fun x => iav (modOf x m))))], own := [(9, 3)], loc := l6 A B C r0 r1 r2 ow, S := S }) :=
  loop_few D 3 (fun x => iav (modOf x m)) (fun acc i => st6c m A B C r0 r1 r2 ow j S acc i) (r := fun acc => (.exit 6, { σ := [(0, .v (.int .i64 m)), (3, .l 3 0), (4, .l 4 0), (5, .l 5 0), (8, .v (.int .i64 j)), (9, .v (.slice 1 acc))], own := [(9, 3)], loc := l6 A B C r0 r1 r2 ow, S := S })) (by simp)
    (fun i acc x hx hi hl => r11c m _ _ _ _ _ _ _ S j i _ _ x hm hm2 hi (by omega) hj (by simp [hx, iav]))
    (fun i acc h => e11c m _ _ _ _ _ _ _ S j i _ _ hj (by simpa using h))
theorem r11d (m : Int) (A B C r0 r1 r2 : List AV) (ow : List (Nat × Nat)) (S : List Bx) (j : Nat) (D : List Int) (hm : 1 ≤ m) (hm2 : m ≤ 100000) (h2 : j < 2) (hl : r2.length ≤ 100) (hj : C[j]? = some (.slice 1 (D.map iav))) 
    (how : ow = own3 ∨ ow = [(1, 63), (0, 3), (2, 22)] ∨ ow = [(2, 22), (0, 3), (1, 63)] ∨ ow = [(2, 22), (1, 63), (0, 3)]) :
    ∃ ow', (ow' = own3 ∨ ow' = [(1, 63), (0, 3), (2, 22)] ∨ ow' = [(2, 22), (0, 3), (1, 63)] ∨ ow' = [(2, 22), (1, 63), (0, 3)]) ∧
    acode run a6_l3 (st6 m A B C r0 r1 r2 ow 8 S j) = some (.normal, st6 m A B C r0 r1 (r2 ++ [.slice 1 ((D.take 3).map fun x => iav (modOf x m))]) ow' 8 S (j + 1)) := by
  have hi := ilt hj
  have h2' : (j : Int) < 2 := by omega
  have hb : (r2.length + 1) * 24 ≤ 140737488355328 := by omega
  have q := fun ow => loop6c m A B C r0 r1 r2 ow S j D hm hm2 hj
  simp only [st6c, Int.natCast_zero, Int.ofNat_zero] at q
  rcases how with rfl | rfl | rfl | rfl
  · refine ⟨[(2, 22), (0, 3), (1, 63)], by simp, ?_⟩
    rw [acode_k]
    simp [a6_l3, st6, hi, h2', hb, q, w64s (n := j) (by omega)]
  · refine ⟨[(2, 22), (1, 63), (0, 3)], by simp, ?_⟩
    rw [acode_k]
    simp [a6_l3, st6, hi, h2', hb, q, w64s (n := j) (by omega)]
  · refine ⟨[(2, 22), (0, 3), (1, 63)], by simp, ?_⟩
    rw [acode_k]
    simp [a6_l3, st6, hi, h2', hb, q, w64s (n := j) (by omega)]
  · refine ⟨[(2, 22), (1, 63), (0, 3)], by simp, ?_⟩
    rw [acode_k]
    simp [a6_l3, st6, hi, h2', hb, q, w64s (n := j) (by omega)]
theorem loop6d (m : Int) (A B r0 r1 : List AV) (C : List (List Int)) (ow : List (Nat × Nat)) (S : List Bx) (hm : 1 ≤ m) (hm2 : m ≤ 100000)
    (how : ow = own3 ∨ ow = [(1, 63), (0, 3), (2, 22)]) :
    ∃ ow', aloopW (acode run a6_l3) (st6 m A B (C.map intsAV) r0 r1 [] ow 8 S 0) = some (.exit 4, { σ := [(4, .l 4 0), (5, .l 5 0)], own := [], loc := [(4, { cells := nil3, own := own3 }), (5, { cells := [.slice 1 r0, .slice 2 r1, .slice 1 ((C.take 2).map fun D => .slice 1 ((D.take 3).map fun x => iav (modOf x m)))], own := ow' })], S := S }) := by
  have e : ∀ (j : Nat) r2 ow, ¬ (j < C.length ∧ j < 2) → acode run a6_l3 (st6 m A B (C.map intsAV) r0 r1 r2 ow 8 S j) = some (.exit 4, { σ := [(4, .l 4 0), (5, .l 5 0)], own := [], loc := [(4, { cells := nil3, own := own3 }), (5, { cells := [.slice 1 r0, .slice 2 r1, .slice 1 r2], own := ow })], S := S }) := by
    intro j r2 ow h
    rw [acode_k]
    by_cases h1 : (j : Int) < (C.length : Int)
    · have h2 : ¬ ((j : Int) < 2) := by omega
      simp [a6_l3, st6, h1, h2]
    · simp [a6_l3, st6, h1]
  have step : ∀ (j : Nat) (r2 : List AV) D ow, C[j]? = some D → j < 2 → r2.length = j → (ow = own3 ∨ ow = [(1, 63), (0, 3), (2, 22)] ∨ ow = [(2, 22), (0, 3), (1, 63)] ∨ ow = [(2, 22), (1, 63), (0, 3)]) →
      ∃ ow', (ow' = own3 ∨ ow' = [(1, 63), (0, 3), (2, 22)] ∨ ow' = [(2, 22), (0, 3), (1, 63)] ∨ ow' = [(2, 22), (1, 63), (0, 3)]) ∧ aloopW (acode run a6_l3) (st6 m A B (C.map intsAV) r0 r1 r2 ow 8 S j) = aloopW (acode run a6_l3) (st6 m A B (C.map intsAV) r0 r1 (r2 ++ [.slice 1 ((D.take 3).map fun x => iav (modOf x m))]) ow' 8 S (j + 1)) := by
    intro j r2 D ow hj h2 hl how
    obtain ⟨ow', h', hr⟩ := r11d m A B (C.map intsAV) r0 r1 r2 ow S j D hm hm2 h2 (by omega) (by simp [hj, intsAV]) how
    exact ⟨ow', h', by rw [aloopW_eq, hr]⟩
  have stop : ∀ (j : Nat) r2 ow, ¬ (j < C.length ∧ j < 2) → aloopW (acode run a6_l3) (st6 m A B (C.map intsAV) r0 r1 r2 ow 8 S j) = some (.exit 4, { σ := [(4, .l 4 0), (5, .l 5 0)], own := [], loc := [(4, { cells := nil3, own := own3 }), (5, { cells := [.slice 1 r0, .slice 2 r1, .slice 1 r2], own := ow })], S := S }) := by
    intro j r2 ow h
    rw [aloopW_eq, e j r2 ow h]
  have how0 : ow = own3 ∨ ow = [(1, 63), (0, 3), (2, 22)] ∨ ow = [(2, 22), (0, 3), (1, 63)] ∨ ow = [(2, 22), (1, 63), (0, 3)] := by
    rcases how with h | h <;> simp [h]
  match C, e, step, stop with
  | [], e, step, stop => exact ⟨ow, stop 0 [] ow (by simp)⟩
  | [D], e, step, stop =>
    obtain ⟨o1, h1, q1⟩ := step 0 [] D ow rfl (by omega) rfl how0
    exact ⟨o1, q1.trans (stop 1 _ o1 (by simp))⟩
  | D :: E :: C', e, step, stop =>
    obtain ⟨o1, h1, q1⟩ := step 0 [] D ow rfl (by omega) rfl how0
    obtain ⟨o2, h2, q2⟩ := step 1 [_] E o1 rfl (by omega) rfl h1
    exact ⟨o2, (q1.trans q2).trans (stop 2 _ o2 (by simp))⟩
theorem c6 (m : Int) (d : Dep) (S : List Bx) (hm : 1 ≤ m) (hm2 : m ≤ 100000) : run 6 [.int .i64 m, d.av] S = some (.ret (tameDep m d).av none, S) := by
  refine eqn rfl ?_
  have q0 := fun B C r1 r2 => loop6a m d.consts B C r1 r2 S hm hm2
  obtain ⟨ow1, h1, q1⟩ := loop6b m (d.consts.map iav) d.equal (d.sets.map intsAV) ((d.consts.take 2).map fun x => iav (modOf x m)) [] S hm hm2
  obtain ⟨ow2, q2⟩ := loop6d m (d.consts.map iav) (d.equal.map pav) ((d.consts.take 2).map fun x => iav (modOf x m)) ((d.equal.take 3).map fun p => pav (modOf p.1 m, modOf p.2 m)) d.sets ow1 S hm hm2 h1
  simp only [st6, Int.natCast_zero, Int.ofNat_zero] at q0 q1 q2
  have goal : (tameDep m d).av = .agg [.slice 1 ((d.consts.take 2).map fun x => iav (modOf x m)), .slice 2 ((d.equal.take 3).map fun p => pav (modOf p.1 m, modOf p.2 m)), .slice 1 ((d.sets.take 2).map fun D => .slice 1 ((D.take 3).map fun x => iav (modOf x m)))] := by
    simp [tameDep, Dep.av, intsAV, pairsAV, setsAV, Function.comp_def]
  rw [goal]
  generalize ((d.consts.take 2).map fun x => iav (modOf x m)) = L0 at *
  generalize ((d.equal.take 3).map fun p => pav (modOf p.1 m, modOf p.2 m)) = L1 at *
  generalize ((d.sets.take 2).map fun D => AV.slice 1 ((D.take 3).map fun x => iav (modOf x m))) = L2 at *
  simp [a6, Dep.av, intsAV, pairsAV, setsAV, q0, out6, q1, q2]
end Go.Av
