/- Part of a proof: Kept of the definition. -/
import Derived.Test.YtlhmipepdcndoaaGreatDoorZvDi
set_option maxRecDepth 100000
set_option linter.unusedSimpArgs false
set_option linter.unusedVariables false
namespace Go.Av
open Go Go.Proofs

/-! ### a row as cells -/
def V.cs (v : V) : List AV := [.int .i64 v.k, .int .i64 v.n, .str (bs v.t)]
def cellsR (r : List V) : List AV := (r.map V.cs).flatten
theorem cellsR_len (r : List V) : (cellsR r).length = r.length * 3 := by
  induction r with
  | nil => rfl
  | cons v r ih => simp only [cellsR, List.map_cons, List.flatten_cons, List.length_append, List.length_cons] at ih ⊢; simp [V.cs] at ih ⊢; omega
theorem cellsR_cons (v : V) (r : List V) : cellsR (v :: r) = .int .i64 v.k :: .int .i64 v.n :: .str (bs v.t) :: cellsR r := rfl
theorem cellsR_load : ∀ {r : List V} {i : Nat} {v : V}, r[i]? = some v → aload (cellsR r) 3 true (i * 3) = some v.av
  | v :: r, 0, w, h => by
    obtain rfl : v = w := by simpa using h
    have := cellsR_len r
    simp [aload, cellsR_cons, V.av]
  | v :: r, i + 1, w, h => by
    have ih := cellsR_load (r := r) (i := i) (v := w) (by simpa using h)
    simp only [aload, if_true] at ih ⊢
    rw [cellsR_cons, show (i + 1) * 3 = i * 3 + 3 by omega]
    simp only [List.length_cons, List.drop_succ_cons]
    split at ih
    · rw [if_pos (by omega)]; exact ih
    · cases ih
theorem cellsR_take {r : List V} {i : Nat} {v : V} (h : r[i]? = some v) : i * 3 + 3 ≤ (cellsR r).length ∧ ((cellsR r).drop (i * 3)).take 3 = [.int .i64 v.k, .int .i64 v.n, .str (bs v.t)] := by
  have := cellsR_load h
  simp only [aload, if_true] at this
  split at this
  · rename_i h1
    exact ⟨h1, by simpa [V.av] using this⟩
  · cases this
theorem cellsR_put : ∀ {r : List V} {i : Nat} (v : V), i < r.length → putCells (cellsR r) (i * 3) [.int .i64 v.k, .int .i64 v.n, .str (bs v.t)] = cellsR (r.set i v)
  | w :: r, 0, v, h => by simp [putCells, cellsR_cons]
  | w :: r, i + 1, v, h => by
    have ih := cellsR_put (r := r) (i := i) v (by simpa using h)
    simp only [putCells, List.length_cons, List.length_nil] at ih ⊢
    rw [List.set_cons_succ, cellsR_cons, cellsR_cons, ← ih, show (i + 1) * 3 = i * 3 + 1 + 1 + 1 by omega, show i * 3 + 1 + 1 + 1 + (0 + 1 + 1 + 1) = i * 3 + (0 + 1 + 1 + 1) + 1 + 1 + 1 by omega]
    simp only [List.take_succ_cons, List.drop_succ_cons, List.cons_append]
theorem cellsR_chunk : ∀ (r : List V), chunk true 3 r.length (cellsR r) = some (r.map V.av)
  | [] => rfl
  | v :: r => by
    have ih := cellsR_chunk r
    simp [chunk, aload, cellsR_cons, ih, V.av]
theorem cellsR_of (r : List V) : ((r.map V.av).map AV.cells).flatten = cellsR r := by
  rw [List.map_map]; rfl

/-! ### what it comes to -/
def setC (o0 : List V) (row : List V) (c : Int) : List V := row.set c.toNat (vAt o0 c)
def setE (row : List V) (p : Int × Int) : List V := row.set p.2.toNat (vAt row p.1)
def rowC (f : Dep) (out : List (List V)) (r : List V) : List V := match out with
  | [] => r
  | o0 :: _ => f.consts.foldl (setC o0) r
def rowE (f : Dep) (r : List V) : List V := (List.range f.equal.length).foldl (fun row _ => f.equal.foldl setE row) r
def keptStep (f : Dep) (out : List (List V)) (r : List V) : List (List V) :=
  if holdsB f (out ++ [rowE f (rowC f out r)]) then out ++ [rowE f (rowC f out r)] else out
def keptR (f : Dep) (l : List (List V)) : List (List V) := l.foldl (keptStep f) []
theorem fold_len {α : Type} (g : List V → α → List V) (h : ∀ r x, (g r x).length = r.length) : ∀ (l : List α) (r : List V), (l.foldl g r).length = r.length
  | [], r => rfl
  | x :: l, r => by rw [List.foldl_cons, fold_len g h l, h]
theorem setC_len (o0 r : List V) (c : Int) : (setC o0 r c).length = r.length := by simp [setC]
theorem setE_len (r : List V) (p : Int × Int) : (setE r p).length = r.length := by simp [setE]
theorem rowC_len (f : Dep) (out : List (List V)) (r : List V) : (rowC f out r).length = r.length := by
  unfold rowC; split
  · rfl
  · exact fold_len _ (setC_len _) _ _
theorem rowE_len (f : Dep) (r : List V) : (rowE f r).length = r.length := fold_len _ (fun r _ => fold_len _ setE_len _ _) _ _
theorem ok_set {r : List V} (h : okR r) {v : V} (hv : v.t.length ≤ 9223372036854775807) (i : Nat) : okR (r.set i v) := by
  intro x hx
  rcases List.mem_or_eq_of_mem_set hx with h1 | rfl
  · exact h x h1
  · exact hv
theorem ok_at {r : List V} (h : okR r) (c : Int) : (vAt r c).t.length ≤ 9223372036854775807 := by
  unfold vAt
  rw [List.getD]
  cases hx : r[c.toNat]? with
  | none => simp
  | some v => exact h v (List.mem_of_getElem? hx)
theorem fold_ok {α : Type} (g : List V → α → List V) (h : ∀ r x, okR r → okR (g r x)) : ∀ (l : List α) (r : List V), okR r → okR (l.foldl g r)
  | [], r, hr => hr
  | x :: l, r, hr => fold_ok g h l _ (h r x hr)
theorem rowC_ok (f : Dep) {out : List (List V)} (ho : ∀ r ∈ out, okR r) {r : List V} (h : okR r) : okR (rowC f out r) := by
  unfold rowC; split
  · exact h
  · rename_i o0 _
    exact fold_ok _ (fun r c hr => ok_set hr (ok_at (ho o0 (.head _)) c) _) _ _ h
theorem rowE_ok (f : Dep) {r : List V} (h : okR r) : okR (rowE f r) :=
  fold_ok _ (fun r _ hr => fold_ok _ (fun r p hr => ok_set hr (ok_at hr p.1) _) _ _ hr) _ _ h

/-! ### the walk -/
abbrev lK (f : Dep) (row : List V) : Locs := [(2, { cells := [intsAV f.consts, pairsAV f.equal, setsAV f.sets], own := [] }), (23, { cells := cellsR row, own := [] })]
abbrev ownK : List (Nat × Nat) := [(5, 69)]
def stK (f : Dep) (l out : List (List V)) (S : List Bx) (i : Nat) (n : Nat) (row : List V) : St :=
  { σ := [(1, .v (rowsAV l)), (2, .l 2 0), (5, .v (rowsAV out)), (6, .v (.int .i64 i)), (7, .ls 23 3 true n)], own := ownK, loc := lK f row, S := S }
def stK0 (f : Dep) (l out : List (List V)) (S : List Bx) (i : Nat) (n : Nat) (row : List V) (k : Nat) : St :=
  { σ := [(1, .v (rowsAV l)), (2, .l 2 0), (5, .v (rowsAV out)), (6, .v (.int .i64 i)), (7, .ls 23 3 true n), (8, .v (.int .i64 k))], own := ownK, loc := lK f row, S := S }
theorem loop0_9 (n : Nat) (f : Dep) (l out : List (List V)) (S : List Bx) (i : Nat) (hd : f.InN n) (ho : ∀ r ∈ out, r.length = n) (r : List V) (hr : r.length = n) :
    aloopW (acode run a9_l0) (stK0 f l out S i n r 0) = some (.exit 2, stK f l out S i n (rowC f out r)) := by
  match out, ho with
  | [], ho =>
    refine aloopW_stop ?_ (by simp)
    rw [acode_k]
    by_cases h : 0 < f.consts.length
    · have h' : (0 : Int) < (f.consts.length : Int) := by omega
      simp [a9_l0, stK0, stK, rowsAV, intsAV, rowC, h']
    · have h' : ¬ (0 : Int) < (f.consts.length : Int) := by omega
      simp [a9_l0, stK0, stK, rowsAV, intsAV, rowC, h']
  | o0 :: out, ho =>
    have l0 := ho o0 (.head _)
    refine loop_fold (f := acode run a9_l0) f.consts (fun row k => stK0 f l (o0 :: out) S i n row k) (setC o0) (fun row => (.exit 2, stK f l (o0 :: out) S i n row)) (fun _ row => row.length = n) (b0 := r) hr (fun k row c hrow hx => ?_) (fun row hrow => ?_) (fun _ => by simp)
    · refine ⟨?_, by rw [setC_len]; exact hrow⟩
      have h1 := ilt hx
      have hc := hd.c c (List.mem_of_getElem? hx)
      have hcl := hd.cl
      have hlt := (List.getElem?_eq_some_iff.1 hx).1
      have g0 := vAt_get (r := o0) (k := ⟨c, false⟩) ⟨hc.1, by rw [l0]; exact hc.2⟩
      have hc0 := hc.1
      have hc1 := hc.2
      simp only at g0
      have hcn : c.toNat < row.length := by omega
      have hp := cellsR_put (r := row) (i := c.toNat) (vAt o0 c) hcn
      have hle : c.toNat * 3 + 3 ≤ (cellsR row).length := by rw [cellsR_len]; omega
      show acode run a9_l0 _ = some (.normal, stK0 f l (o0 :: out) S i n (row.set c.toNat (vAt o0 c)) (k + 1))
      generalize vAt o0 c = v at *
      generalize row.set c.toNat v = row' at *
      rw [acode_k]
      simp [-putCells, a9_l0, stK0, rowsAV, rowAV, intsAV, hx, h1, iav, hc0, hc1, g0, V.av, hp, hle, w64s (n := k) (by omega)]
    · rw [acode_k]
      simp [a9_l0, stK0, stK, rowsAV, intsAV]

def stK1 (f : Dep) (l out : List (List V)) (S : List Bx) (i : Nat) (n : Nat) (j : Nat) (row : List V) (k : Nat) : St :=
  { σ := [(1, .v (rowsAV l)), (2, .l 2 0), (5, .v (rowsAV out)), (6, .v (.int .i64 i)), (7, .ls 23 3 true n), (9, .v (.int .i64 j)), (10, .v (.int .i64 k))], own := ownK, loc := lK f row, S := S }
def stK2 (f : Dep) (l out : List (List V)) (S : List Bx) (i : Nat) (n : Nat) (row : List V) (j : Nat) : St :=
  { σ := [(1, .v (rowsAV l)), (2, .l 2 0), (5, .v (rowsAV out)), (6, .v (.int .i64 i)), (7, .ls 23 3 true n), (9, .v (.int .i64 j))], own := ownK, loc := lK f row, S := S }
theorem loop1_9 (n : Nat) (f : Dep) (l out : List (List V)) (S : List Bx) (i : Nat) (hd : f.InN n) (j : Nat) (r : List V) (hr : r.length = n) :
    aloopW (acode run a9_l1) (stK1 f l out S i n j r 0) = some (.exit 6, stK2 f l out S i n (f.equal.foldl setE r) j) := by
  refine loop_fold (f := acode run a9_l1) f.equal (fun row k => stK1 f l out S i n j row k) setE (fun row => (.exit 6, stK2 f l out S i n row j)) (fun _ row => row.length = n) (b0 := r) hr (fun k row p hrow hx => ?_) (fun row hrow => ?_) (fun _ => by simp)
  · refine ⟨?_, by rw [setE_len]; exact hrow⟩
    have h1 := ilt hx
    obtain ⟨x0, x1, y0, y1⟩ := hd.e p (List.mem_of_getElem? hx)
    have hel := hd.el
    have hlt := (List.getElem?_eq_some_iff.1 hx).1
    have g0 := vAt_get (r := row) (k := ⟨p.1, false⟩) ⟨x0, by rw [hrow]; exact x1⟩
    simp only at g0
    have hyn : p.2.toNat < row.length := by omega
    have hp := cellsR_put (r := row) (i := p.2.toNat) (vAt row p.1) hyn
    obtain ⟨hlx, hld⟩ := cellsR_take g0
    have hle : p.2.toNat * 3 + 3 ≤ (cellsR row).length := by rw [cellsR_len]; omega
    show acode run a9_l1 _ = some (.normal, stK1 f l out S i n j (row.set p.2.toNat (vAt row p.1)) (k + 1))
    obtain ⟨x, y⟩ := p
    simp only at *
    generalize vAt row x = v at *
    generalize row.set y.toNat v = row' at *
    rw [acode_k]
    simp [-putCells, a9_l1, stK1, pairsAV, hx, h1, pav, x0, x1, y0, y1, hlx, hld, hp, hle, w64s (n := k) (by omega)]
  · rw [acode_k]
    simp [a9_l1, stK1, stK2, pairsAV]
theorem loop2_9 (n : Nat) (f : Dep) (l out : List (List V)) (S : List Bx) (i : Nat) (hd : f.InN n) (r : List V) (hr : r.length = n) :
    aloopW (acode run a9_l2) (stK2 f l out S i n r 0) = some (.exit 4, stK f l out S i n (rowE f r)) := by
  refine loop_range (f := acode run a9_l2) f.equal.length (fun row j => stK2 f l out S i n row j) (fun row _ => f.equal.foldl setE row) (fun row => (.exit 4, stK f l out S i n row)) (fun _ row => row.length = n) (b0 := r) hr (fun j row hrow hj => ?_) (fun row hrow => ?_) (fun _ => by simp)
  · refine ⟨?_, by rw [fold_len _ setE_len]; exact hrow⟩
    have hel := hd.el
    have q := loop1_9 n f l out S i hd j row hrow
    have hj' : (j : Int) < (f.equal.length : Int) := by omega
    generalize f.equal.foldl setE row = row' at *
    simp only [stK1, stK2, lK, ownK, Int.natCast_zero, Int.ofNat_zero, pairsAV] at q
    rw [acode_k]
    simp [a9_l2, stK2, pairsAV, hj', q, w64s (n := j) (by omega)]
  · rw [acode_k]
    simp [a9_l2, stK2, stK, pairsAV]
def stK3 (f : Dep) (l out : List (List V)) (S : List Bx) (i : Nat) : St :=
  { σ := [(1, .v (rowsAV l)), (2, .l 2 0), (5, .v (rowsAV out)), (6, .v (.int .i64 i))], own := ownK, loc := lH f, S := S }
def rightRows (n : Nat) (l : List (List V)) : Prop := ∀ r ∈ l, r.length = n ∧ okR r
theorem keptStep_right {n : Nat} (f : Dep) {out : List (List V)} (ho : rightRows n out) {r : List V} (hr : r.length = n ∧ okR r) : rightRows n (keptStep f out r) := by
  unfold keptStep
  split
  · intro x hx
    rcases List.mem_append.1 hx with h | h
    · exact ho x h
    · obtain rfl := List.mem_singleton.1 h
      exact ⟨by rw [rowE_len, rowC_len]; exact hr.1, rowE_ok f (rowC_ok f (fun r h => (ho r h).2) hr.2)⟩
  · exact ho
theorem keptStep_len (f : Dep) (out : List (List V)) (r : List V) : (keptStep f out r).length ≤ out.length + 1 := by
  unfold keptStep; split <;> simp
theorem round3_9 (n : Nat) (f : Dep) (l out : List (List V)) (S : List Bx) (hd : f.InN n) (hn : 1 ≤ n) (hsl : ∀ s ∈ f.sets, s.length ≤ 1000000) (ho : rightRows n out) (i : Nat) (r : List V) (hx : l[i]? = some r) (hr : r.length = n ∧ okR r) (hol : out.length ≤ i) (hil : i < 100000) :
    acode run a9_l3 (stK3 f l out S i) = some (.normal, stK3 f l (keptStep f out r) S (i + 1)) := by
  have h1 := ilt hx
  have h16 := hd.n16
  have q0 := loop0_9 n f l out S i hd (fun r h => (ho r h).1) r hr.1
  have hC : (rowC f out r).length = n := by rw [rowC_len]; exact hr.1
  have q2 := loop2_9 n f l out S i hd (rowC f out r) hC
  have hE : (rowE f (rowC f out r)).length = n := by rw [rowE_len]; exact hC
  have okE := rowE_ok f (rowC_ok f (fun r h => (ho r h).2) hr.2)
  have q3 := c15 n f (out ++ [rowE f (rowC f out r)]) S hd (fun x hx => by
    rcases List.mem_append.1 hx with h | h
    · exact ho x h
    · obtain rfl := List.mem_singleton.1 h
      exact ⟨hE, okE⟩) (by simp; omega) hsl
  rw [keptStep]
  generalize rowE f (rowC f out r) = rE at *
  generalize rowC f out r = rC at *
  have hch := cellsR_chunk rE
  rw [hE] at hch
  have hfl := cellsR_of r
  have hne : r ≠ [] := by rintro rfl; simp at hr; omega
  have hne' : r.isEmpty = false := by cases r with | nil => exact absurd rfl hne | cons => rfl
  have hrl := hr.1
  have hb1 : n * 32 ≤ 140737488355328 := by omega
  have hb2 : out.length * 24 ≤ 140737488355328 := by omega
  have hb3 : (out.length + 1) * 24 ≤ 140737488355328 := by omega
  simp only [stK0, stK1, stK2, stK, lK, ownK, Int.natCast_zero, Int.ofNat_zero, rowsAV, Dep.av] at q0 q2 q3
  simp [rowAV] at q3
  rw [acode_k]
  generalize holdsB f (out ++ [rE]) = B at *
  cases B <;> simp [-List.map_map, a9_l3, stK3, rowsAV, rowAV, hx, h1, hfl, hne, hne', hrl, hb1, hb2, hb3, q0, q2, q3, hch, w64s (n := i) (by omega)]
theorem c9 (n : Nat) (f : Dep) (l : List (List V)) (S : List Bx) (hd : f.InN n) (hn : 1 ≤ n) (hsl : ∀ s ∈ f.sets, s.length ≤ 1000000) (hr : rightRows n l) (hl : l.length ≤ 10000) :
    run 9 [f.av, rowsAV l] S = some (.ret (rowsAV (keptR f l)) (some 69), S) ∧ rightRows n (keptR f l) ∧ (keptR f l).length ≤ l.length := by
  have h := loop_fold (f := acode run a9_l3) l (fun out i => stK3 f l out S i) (keptStep f) (fun out => (.exit 0, { σ := [(5, .v (rowsAV out))], own := ownK, loc := [], S := S })) (fun i out => rightRows n out ∧ out.length ≤ i) (b0 := []) ⟨by intro r h; simp at h, by simp⟩
    (fun i out r hi hx => by
      have hlt := (List.getElem?_eq_some_iff.1 hx).1
      have hrr := hr r (List.mem_of_getElem? hx)
      refine ⟨round3_9 n f l out S hd hn hsl hi.1 i r hx hrr hi.2 (by omega), keptStep_right f hi.1 hrr, ?_⟩
      have := keptStep_len f out r
      omega)
    (fun out hi => by
      rw [acode_k]
      simp [a9_l3, stK3, rowsAV])
    (fun _ => by simp)
  have hk : ∀ (m : List (List V)) (out : List (List V)), rightRows n m → rightRows n out → rightRows n (m.foldl (keptStep f) out) ∧ (m.foldl (keptStep f) out).length ≤ out.length + m.length := by
    intro m
    induction m with
    | nil => intro out _ h; exact ⟨h, by simp⟩
    | cons r m ih =>
      intro out hm ho
      obtain ⟨h1, h2⟩ := ih (keptStep f out r) (fun x hx => hm x (.tail _ hx)) (keptStep_right f ho (hm r (.head _)))
      have := keptStep_len f out r
      exact ⟨h1, by rw [List.foldl_cons, List.length_cons]; omega⟩
  obtain ⟨k1, k2⟩ := hk l [] hr (by intro r h; simp at h)
  have e : l.foldl (keptStep f) [] = keptR f l := rfl
  rw [e] at h k1 k2
  refine ⟨?_, k1, by simpa using k2⟩
  generalize keptR f l = KR at *
  refine eqn rfl ?_
  simp only [stK3, lH, ownK, rowsAV, Int.natCast_zero, Int.ofNat_zero, List.map_nil] at h
  clear hk k1 k2 e
  simp only [rowsAV]
  generalize KR.map rowAV = O at *
  simp [a9, Dep.av, rowsAV, h]
end Go.Av
