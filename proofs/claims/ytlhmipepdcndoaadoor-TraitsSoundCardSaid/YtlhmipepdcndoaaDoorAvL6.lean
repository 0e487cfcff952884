/- Part of a proof: TraitsThrough. -/
import Derived.Test.YtlhmipepdcndoaaDoorAvCj
import Derived.Test.YtlhmipepdcndoaaDoorAvMa
set_option maxRecDepth 100000
set_option linter.unusedSimpArgs false
set_option linter.unusedVariables false
namespace Go.Av
open Go Go.Proofs

def litE : E := ⟨3, 0, .int .i64 0, .int .i64 1, .int .i64 1, .int .i64 0, .str ⟨#[]⟩, .slice 9 [], .slice 15 []⟩
def st6 (n m : Int) (ks tk : List K) (x : List E) (acc : List E) (i : Nat) : St :=
  { σ := [(0, .v (.int .i64 n)), (1, .v (.slice 2 (ks.map K.av))), (7, .v (.int .i64 m)), (8, .v (.slice 2 (tk.map K.av))), (9, .v (.slice 9 (x.map E.av))), (10, .v (.slice 9 (acc.map E.av))), (11, .v (.int .i64 i))], own := [(8, 78), (10, 64)], loc := [], S := [] }
def out6 (n m : Int) (ks tk : List K) (x : List E) (acc : List E) : AEx × St :=
  (.exit 0, { σ := [(0, .v (.int .i64 n)), (1, .v (.slice 2 (ks.map K.av))), (7, .v (.int .i64 m)), (8, .v (.slice 2 (tk.map K.av))), (9, .v (.slice 9 (x.map E.av))), (10, .v (.slice 9 (acc.map E.av)))], own := [(8, 78), (10, 64)], loc := [], S := [] })
def colsE (m : Int) (x : List E) : List E := (x.take 5).map (fun e => colE (modOf e.n (m + 1)))
theorem loop6 (n m : Int) (ks tk : List K) (x : List E) (h0 : 1 ≤ m) (h1 : m ≤ 16) :
    aloopW (acode run a6_l0) (st6 n m ks tk x [] 0) = some (out6 n m ks tk x (colsE m x)) := by
  have h := loop_upto (f := acode run a6_l0) (st := fun i => st6 n m ks tk x (colsE m (x.take i)) i) (r := out6 n m ks tk x (colsE m (x.take (min x.length 5)))) (by simp [out6]) (min x.length 5) 0
    (fun i _ hi => by
      have hi' : i < x.length := by omega
      have hg : x[i]? = some x[i] := by simp [hi']
      show acode run a6_l0 (st6 n m ks tk x (colsE m (x.take i)) i) = _
      have eS : colsE m (x.take (i + 1)) = colsE m (x.take i) ++ [colE (modOf x[i].n (m + 1))] := by
        unfold colsE
        rw [List.take_of_length_le (l := x.take (i + 1)) (by simp; omega), List.take_of_length_le (l := x.take i) (by simp; omega), List.take_add_one, hg]
        simp only [List.map_append, Option.toList_some, List.map_cons, List.map_nil]
      have hlen : (colsE m (x.take i)).length ≤ 5 := by simp [colsE]; omega
      rw [eS, acode_k]
      clear eS
      generalize colsE m (x.take i) = acc at *
      generalize x[i] = e at *
      have h1' := ilt hg
      have h5 : (i : Int) < 5 := by omega
      have hb : (acc.length + 1) * 112 ≤ 140737488355328 := by omega
      have w1 : IntKind.wrap .i64 (m + 1) = m + 1 := wr64 (by omega) (by omega)
      have w2 : (m + 1) % 18446744073709551616 = m + 1 := by omega
      have w3 : ¬ (m + 1 = 0) := by omega
      have w4 : (e.n % 18446744073709551616).tmod (m + 1) = modOf e.n (m + 1) := Int.tmod_eq_emod_of_nonneg (by omega)
      have w5 : 0 ≤ modOf e.n (m + 1) ∧ modOf e.n (m + 1) < m + 1 := ⟨Int.emod_nonneg _ w3, Int.emod_lt_of_pos _ (by omega)⟩
      have w6 : IntKind.wrap .i64 (modOf e.n (m + 1)) = modOf e.n (m + 1) := wr64 (by omega) (by omega)
      simp [a6_l0, st6, hg, h1', h5, hb, E.av, colE, wrap_u64, w1, w2, w3, w4, w6, w64s (n := i) (by omega)])
    (by
      rw [Nat.zero_add]
      show acode run a6_l0 (st6 n m ks tk x (colsE m (x.take (min x.length 5))) (min x.length 5)) = _
      rw [acode_k]
      by_cases hl : x.length ≤ 5
      · rw [Nat.min_eq_left hl]
        simp [a6_l0, st6, out6]
      · rw [Nat.min_eq_right (by omega)]
        have : (5 : Int) < (x.length : Int) := by omega
        simp [a6_l0, st6, out6, this])
  have e2 : colsE m (x.take (min x.length 5)) = colsE m x := by
    unfold colsE
    rw [take_min', List.take_take, Nat.min_self]
  rw [e2] at h
  exact h

theorem taken {α : Type} (l : List α) (f : α → AV) (n : Nat) : ((l.map f).take (min ((l.length : Int)) n).toNat) = (l.take n).map f := by
  have : (min (l.length : Int) n).toNat = min l.length n := by omega
  rw [this, ← List.map_take, take_min']
set_option maxHeartbeats 4000000 in
theorem c6 (n : Int) (ks : List K) (xs : List E) : run 6 [iav n, keysAV ks, exprsAV xs] [] = some (.ret (.bool true) none, []) := by
  refine eqn rfl ?_
  obtain ⟨m1, m2⟩ := columns_ok n
  have m3 : columnsOf n ≤ 16 := by omega
  have hq := c10 n []
  have h1 := c12 (columnsOf n) ks [] m1 m3
  have h2 := c24 ks []
  have hx : (xs.take 18).length ≤ 18 := len_take 18 xs
  have htk : (tameKeys (columnsOf n) ks).length ≤ 6 := by simp only [tameKeys, List.length_map]; exact len_take 6 ks
  have hck : (cutKeys ks).length ≤ 34 := len_take 34 ks
  have hr : rightE (columnsOf n) dep0 [tameKeys (columnsOf n) ks] = 0 := by
    have k1 : ¬ (columnsOf n < 1 ∨ 16 < columnsOf n) := by omega
    simp [rightE, k1, knownB, tame_keysB m1 m3]
  have hs : min (xs.length : Int) 18 ≤ (xs.length : Int) := by omega
  have hs0 : (0 : Int) ≤ min (xs.length : Int) 18 := by omega
  have htak : (xs.map E.av).take (min (xs.length : Int) 18).toNat = (xs.take 18).map E.av := taken xs E.av 18
  have hl := loop6 n (columnsOf n) ks (tameKeys (columnsOf n) ks) (xs.take 18) m1 m3
  have hy : (colsE (columnsOf n) (xs.take 18)).length ≤ 5 := by simp only [colsE, List.length_map]; exact len_take 5 _
  generalize tameKeys (columnsOf n) ks = tk at *
  generalize cutKeys ks = ck at *
  generalize xs.take 18 = x at *
  generalize columnsOf n = m at *
  generalize hgy : colsE m x = y at *
  have b1 := c16 m tk [] (by omega)
  have b2 := c29 m tk (y ++ [litE]) [] (by omega) (by simp; omega)
  have b3 := c30 m tk [] (by omega) m3 (by omega)
  have b4 := c31 tk (y ++ [litE]) [] (by omega) (by simp; omega)
  have hfl : (fullK m tk).length ≤ 22 := by
    have : ∀ (l : List Nat) (acc : List K), (l.foldl (fullStep tk) acc).length ≤ acc.length + l.length := by
      intro l
      induction l with
      | nil => intro acc; simp
      | cons c l ih => intro acc; have := ih (fullStep tk acc c); have := fullStep_len tk acc c; simp only [List.foldl_cons, List.length_cons]; omega
    have := this (List.range m.toNat) tk
    simp only [List.length_range] at this
    show (List.foldl (fullStep tk) tk (List.range m.toNat)).length ≤ 22
    omega
  have b5 := c14 (fullK m tk) (fullK m tk) [] (by omega)
  have b6 := c14 (carried (y ++ [litE]) tk) (carried (y ++ [litE]) tk) [] (by have := carried_len (y ++ [litE]) tk; omega)
  have d1 := c16 n ck [] (by omega)
  have d2 := c29 n ck x [] (by omega) (by omega)
  have d3 := c26 n dep0 [ck] [] dep0_small (by simp) (by simp; omega)
  have d6 := c31 ck x [] (by omega) (by omega)
  have d7 := c14 (carried x ck) (carried x ck) [] (by have := carried_len x ck; omega)
  rw [sameK_self] at b5 b6 d7
  have f1 : fullE m tk = (fullK m tk, 0) := by simp [fullE, hr]
  have f2 : throughE m tk (y ++ [litE]) = (carried (y ++ [litE]) tk, 0) := by
    have k1 : ¬ (16 : Nat) < y.length + 1 := by omega
    simp [throughE, hr, k1]
  rw [f1] at b1
  rw [f2] at b2
  have hb : (y.length + 1) * 112 ≤ 140737488355328 := by omega
  have c22' := c22
  have elit : y.map E.av ++ [litE.av] = (y ++ [litE]).map E.av := by simp
  have rr : rightE n dep0 [ck] = 0 ∨ rightE n dep0 [ck] ≠ 0 := by omega
  simp only [iav, Dep.av, intsAV, pairsAV, setsAV, listsAV, List.map_cons, List.map_nil, keysAV, exprsAV, tup2] at hq h1 h2 b1 b2 b3 b4 b5 b6 d1 d2 d3 d6 d7 ⊢
  simp only [st6, out6, List.map_nil, Int.natCast_zero, Int.ofNat_zero] at hl
  generalize hY : (y ++ [litE]).map E.av = Y at *
  simp only [litE, E.av] at elit
  rcases rr with rr | rr
  · obtain ⟨k1, k2, _, k4⟩ := right_ok rr
    have d4 := c30 n ck [] (by omega) k2 (by omega)
    have hfl2 : (fullK n ck).length ≤ 1000 := by
      have : ∀ (l : List Nat) (acc : List K), (l.foldl (fullStep ck) acc).length ≤ acc.length + l.length := by
        intro l
        induction l with
        | nil => intro acc; simp
        | cons c l ih => intro acc; have := ih (fullStep ck acc c); have := fullStep_len ck acc c; simp only [List.foldl_cons, List.length_cons]; omega
      have := this (List.range n.toNat) ck
      simp only [List.length_range] at this
      show (List.foldl (fullStep ck) ck (List.range n.toNat)).length ≤ 1000
      omega
    have d5 := c14 (fullK n ck) (fullK n ck) [] (by omega)
    rw [sameK_self] at d5
    have f3 : fullE n ck = (fullK n ck, 0) := by simp [fullE, rr]
    rw [f3] at d1
    rw [rr] at d3
    simp only [keysAV, iav] at d4 d5
    by_cases x1 : x.length < 1
    · have x1' : (x.length : Int) < 1 := by omega
      have f4 : throughE n ck x = ([], 180) := by simp [throughE, rr, x1]
      rw [f4] at d2
      simp [a6, hq, h1, h2, hs, hs0, htak, hl, hb, elit, b1, b2, b3, b4, b5, b6, d1, d2, d3, d4, d5, c22', x1']
    · have x1' : ¬ (x.length : Int) < 1 := by omega
      by_cases x2 : 16 < x.length
      · have x2' : (16 : Int) < (x.length : Int) := by omega
        have f4 : throughE n ck x = ([], 180) := by simp [throughE, rr, x1, x2]
        rw [f4] at d2
        simp [a6, hq, h1, h2, hs, hs0, htak, hl, hb, elit, b1, b2, b3, b4, b5, b6, d1, d2, d3, d4, d5, c22', x1', x2']
      · have x2' : ¬ (16 : Int) < (x.length : Int) := by omega
        have f4 : throughE n ck x = (carried x ck, 0) := by simp only [throughE, rr, if_true]; rw [if_neg (by omega)]
        rw [f4] at d2
        simp [a6, hq, h1, h2, hs, hs0, htak, hl, hb, elit, b1, b2, b3, b4, b5, b6, d1, d2, d3, d4, d5, d6, d7, c22', x1', x2']
  · have f3 : fullE n ck = ([], rightE n dep0 [ck]) := by simp [fullE, rr]
    have f4 : throughE n ck x = ([], rightE n dep0 [ck]) := by simp [throughE, rr]
    rw [f3] at d1
    rw [f4] at d2
    simp [a6, hq, h1, h2, hs, hs0, htak, hl, hb, elit, b1, b2, b3, b4, b5, b6, d1, d2, d3, c22', rr]
theorem ty_op {a : AV} (h : HasTy Tryd.prog 57 a) : ∃ n, a = iav n := by
  obtain ⟨n, rfl, _⟩ := h.int_inv Tryd.underlying57
  exact ⟨n, rfl⟩
theorem ty_expr {a : AV} (h : HasTy Tryd.prog 64 a) : ∃ e : E, a = e.av ∧ True := by
  obtain ⟨cs, rfl, hl, hf⟩ := h.struct_inv Tryd.underlying64
  have hc : Tryd.prog.cellsOf 64 = 9 := by kernel_rfl
  rw [hc] at hl
  match cs, hl with
  | [x, y, z2, z3, z4, z5, z6, z7, z8], _ =>
    have h1 := hf _ (List.mem_cons_self)
    have h2 := hf _ (List.mem_cons_of_mem _ (List.mem_cons_self))
    rw [pick1 (by kernel_rfl)] at h1
    rw [pick1 (by kernel_rfl)] at h2
    obtain ⟨n, e1⟩ := ty_op h1
    obtain ⟨m, e2, _⟩ := ty_int h2
    have e1' : x = iav n := e1
    have e2' : y = iav m := e2
    subst e1' e2'
    exact ⟨⟨n, m, z2, z3, z4, z5, z6, z7, z8⟩, rfl, trivial⟩
theorem ty_exprs {a : AV} (h : HasTy Tryd.prog 56 a) : ∃ ks : List E, a = exprsAV ks ∧ ks.length ≤ maxLen ∧ ∀ k ∈ ks, True :=
  list_of Tryd.underlying56 (by kernel_rfl) (fun x hx => ty_expr hx) h
theorem law6 : LawTrue Tryd.prog 6 Tryd.f6.params.toList fun _ => True :=
  lawTrue_of fun W _ => ⟨_, run_law W 6, fun args hl hty => by
    rw [Tryd.params6] at hl hty
    match args, hl with
    | [a, b, c], _ =>
      obtain ⟨n, rfl, _⟩ := ty_int (hty 0 _ a rfl rfl)
      obtain ⟨ks, rfl, hk, _⟩ := ty_keys (hty 1 _ b rfl rfl)
      obtain ⟨es, rfl, _, _⟩ := ty_exprs (hty 2 _ c rfl rfl)
      exact ⟨[], none, c6 n ks es⟩⟩
end Go.Av
