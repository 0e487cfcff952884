/- Part of a proof: TraitsSettled. -/
import Derived.Test.YtlhmipepdcndoaaDoorAvMe
import Derived.Test.YtlhmipepdcndoaaDoorAvL7
import Derived.Test.YtlhmipepdcndoaaDoorAvL8
set_option maxRecDepth 100000
set_option linter.unusedSimpArgs false
set_option linter.unusedVariables false
namespace Go.Av
open Go Go.Proofs

/-! ### Equal -/
def equalR (a b : List (List V)) : Bool := decide (a.length = b.length) && (a.zip b).all (fun p => decide (cmpRow p.1 p.2 = 0))
def st19 (a b : List (List V)) (S : List Bx) (i : Nat) : St :=
  { σ := [(0, .v (.slice 1 (a.map rowAV))), (1, .v (.slice 1 (b.map rowAV))), (5, .v (.int .i64 i))], own := [], loc := [], S := S }
theorem c19 (a b : List (List V)) (S : List Bx) (ha : ∀ r ∈ a, okR r ∧ r.length ≤ 9223372036854775807) (hl : a.length ≤ 9223372036854775807) : run 19 [rowsAV a, rowsAV b] S = some (.ret (.bool (equalR a b)) none, S) := by
  refine eqn rfl ?_
  by_cases hlen : a.length = b.length
  · have hz : (a.zip b).length = a.length := by rw [List.length_zip]; omega
    have h := loop_all (f := acode run a19_l0) (a.zip b) (fun p => decide (cmpRow p.1 p.2 = 0)) (st19 a b S) (bad := (.ret, { σ := [(4, .v (.bool false))], own := [], loc := [], S := S })) (good := (.exit 0, { σ := [], own := [], loc := [], S := S })) (by simp) (by simp)
      (fun i p hx => by
        obtain ⟨x, y⟩ := p
        rw [List.getElem?_zip_eq_some] at hx
        obtain ⟨hx1, hx2⟩ := hx
        have h1 := ilt hx1
        obtain ⟨o1, o2⟩ := ha x (List.mem_of_getElem? hx1)
        have q := c45 x y S o1 o2
        simp only [rowAV] at q
        rw [acode_k]
        by_cases hc : cmpRow x y = 0 <;> simp [a19_l0, st19, hx1, hx2, h1, rowAV, q, hc, w64s (n := i) (by omega)])
      (by
        rw [hz, acode_k]
        simp [a19_l0, st19])
    have hlen' : (a.length : Int) = (b.length : Int) := by omega
    have e : equalR a b = (a.zip b).all (fun p => decide (cmpRow p.1 p.2 = 0)) := by simp [equalR, hlen]
    rw [e]
    generalize (a.zip b).all (fun p => decide (cmpRow p.1 p.2 = 0)) = B at *
    simp only [st19, Int.natCast_zero, Int.ofNat_zero] at h
    cases B <;> simp at h <;> simp [a19, rowsAV, hlen', h]
  · have hlen' : ¬ (a.length : Int) = (b.length : Int) := by omega
    simp [a19, rowsAV, hlen', equalR, hlen]
theorem cmpRow_self (a : List V) : cmpRow a a = 0 := by have := cmpRow_anti a a; omega
theorem equalR_self : ∀ (a : List (List V)), equalR a a = true
  | [] => rfl
  | x :: a => by
    have := equalR_self a
    simp only [equalR, decide_true, Bool.true_and] at this ⊢
    simp [cmpRow_self, this]

set_option maxHeartbeats 8000000 in
theorem c3 (n : Int) (d : Dep) (k1 k2 k3 : List K) (rest : Int) (l : List (List V)) (hr0 : 0 ≤ rest) (hr1 : rest ≤ 255) (hl : ∀ r ∈ l, r.length ≤ 9223372036854775807) :
    run 3 [iav n, d.av, .agg [keysAV k1, keysAV k2, keysAV k3], .int .u8 rest, rowsAV l] [] = some (.ret (.bool true) none, []) := by
  refine eqn rfl ?_
  obtain ⟨m1, m2⟩ := columns_ok n
  have hq := c10 n []
  generalize columnsOf n = mm at *
  obtain ⟨m, rfl⟩ : ∃ m : Nat, mm = (m : Int) := ⟨mm.toNat, by omega⟩
  have m3 : (m : Int) ≤ 16 := by omega
  have t1 := c11 m d [] m1 m3
  have t2 := c12 m k1 [] m1 m3
  have t3 := c12 m k2 [] m1 m3
  have t4 := c12 m k3 [] m1 m3
  have sT := tame_small m d
  have la : (tameKeys m k1).length ≤ 6 := by simp only [tameKeys, List.length_map]; exact len_take 6 k1
  have lb : (tameKeys m k2).length ≤ 6 := by simp only [tameKeys, List.length_map]; exact len_take 6 k2
  have lc : (tameKeys m k3).length ≤ 6 := by simp only [tameKeys, List.length_map]; exact len_take 6 k3
  have hkn := tame_known m1 m3 d
  have hA := tame_keysB m1 m3 k1
  have hB := tame_keysB m1 m3 k2
  have hC := tame_keysB m1 m3 k3
  have hin := inN_of sT hkn m1 m3
  have ka := keys_in hA m1
  rw [Int.toNat_natCast] at hin ka
  generalize tameDep m d = f at *
  generalize tameKeys m k1 = a at *
  generalize tameKeys m k2 = b at *
  generalize tameKeys m k3 = c at *
  have g := good_of hin.in
  have kac : ∀ k ∈ a, inC k.c := fun k hk => ⟨(ka k hk).1, by have := (ka k hk).2; omega⟩
  have rla := reduceK_len f a
  have hidem := reduceK_idem hin.in g a kac
  have kr := reduceK_in g hin.n16 a ([], []) ka (by simp)
  have hR : areKeysB m (reduceK f a) = true := by
    simp only [areKeysB, Bool.and_eq_true, decide_eq_true_eq, List.all_eq_true]
    refine ⟨by omega, fun k hk => ?_⟩
    have := kr k hk
    simp [inB, this]
  have right0 : ∀ ls : List (List K), (∀ l ∈ ls, areKeysB m l = true) → rightE m f ls = 0 := by
    intro ls hls
    have k1 : ¬ ((m : Int) < 1 ∨ 16 < (m : Int)) := by omega
    have k2 : ls.all (areKeysB m) = true := List.all_eq_true.2 hls
    rw [rightE, if_neg k1, hkn, k2]; rfl
  -- Reduce, twice
  have p1 := c13 m f a [] sT (by omega)
  have p2 := c13 m f (reduceK f a) [] sT (by omega)
  have e1 : redE m f (reduceK f a) a = (reduceK f a, 0) := by simp [redE, right0 [a] (by simpa using hA)]
  have e2 : redE m f (reduceK f (reduceK f a)) (reduceK f a) = (reduceK f a, 0) := by simp [redE, right0 [reduceK f a] (by simpa using hR), hidem]
  rw [e1] at p1
  rw [e2] at p2
  have w1 := c14 (reduceK f a) (reduceK f a) [] (by omega)
  rw [sameK_self] at w1
  -- Implies
  have i1 := c15 m f a b [] sT (by omega) (by omega)
  have i2 := c15 m f b c [] sT (by omega) (by omega)
  have i3 := c15 m f a c [] sT (by omega) (by omega)
  have f1 : impE m f (begP (reduceK f a) (reduceK f b)) a b = (begP (reduceK f a) (reduceK f b), 0) := by simp [impE, right0 [a, b] (by simp [hA, hB])]
  have f2 : impE m f (begP (reduceK f b) (reduceK f c)) b c = (begP (reduceK f b) (reduceK f c), 0) := by simp [impE, right0 [b, c] (by simp [hB, hC])]
  have f3 : impE m f (begP (reduceK f a) (reduceK f c)) a c = (begP (reduceK f a) (reduceK f c), 0) := by simp [impE, right0 [a, c] (by simp [hA, hC])]
  rw [f1] at i1
  rw [f2] at i2
  rw [f3] at i3
  have htr : begP (reduceK f a) (reduceK f b) = true → begP (reduceK f b) (reduceK f c) = true → begP (reduceK f a) (reduceK f c) = true := by
    rw [begP_prefix, begP_prefix, begP_prefix]
    exact fun h1 h2 => h2.trans h1
  -- a beginning
  obtain ⟨cut, hcut⟩ : ∃ cut : Nat, rest.tmod ((a.length : Int) + 1) = (cut : Int) ∧ cut ≤ a.length := by
    have h1 : rest.tmod ((a.length : Int) + 1) = rest % ((a.length : Int) + 1) := Int.tmod_eq_emod_of_nonneg hr0
    have h2 := Int.emod_nonneg rest (b := (a.length : Int) + 1) (by omega)
    have h3 := Int.emod_lt_of_pos rest (b := (a.length : Int) + 1) (by omega)
    exact ⟨(rest % ((a.length : Int) + 1)).toNat, by rw [h1]; omega, by omega⟩
  obtain ⟨hcut, hcle⟩ := hcut
  have i4 := c15 m f a (a.take cut) [] sT (by omega) (by simp; omega)
  have hT : areKeysB m (a.take cut) = true := by
    simp only [areKeysB, Bool.and_eq_true, decide_eq_true_eq, List.all_eq_true] at hA ⊢
    exact ⟨by simp; omega, fun k hk => hA.2 k (List.mem_of_mem_take hk)⟩
  have f4 : impE m f (begP (reduceK f a) (reduceK f (a.take cut))) a (a.take cut) = (true, 0) := by
    have : begP (reduceK f a) (reduceK f (a.take cut)) = true := begP_prefix.2 (reduce_take f a cut)
    simp [impE, right0 [a, a.take cut] (by simp [hA, hT]), this]
  rw [f4] at i4
  have hw1 : IntKind.wrap .i64 rest = rest := wr64 (by omega) (by omega)
  have hw2 : IntKind.wrap .i64 ((a.length : Int) + 1) = (a.length : Int) + 1 := wr64 (by omega) (by omega)
  have hw3 : ¬ ((a.length : Int) + 1 = 0) := by omega
  have hcle' : (cut : Int) ≤ (a.length : Int) := by omega
  have htk : (a.map K.av).take cut = (a.take cut).map K.av := by rw [List.map_take]
  -- the full order
  have u1 := c16 m a [] (by omega)
  have e5 : fullE m a = (fullK m a, 0) := by
    have k1 : ¬ ((m : Int) < 1 ∨ 16 < (m : Int)) := by omega
    simp [fullE, rightE, k1, knownB, hA]
  rw [e5] at u1
  have hfl : (fullK m a).length ≤ 22 := by
    rw [fullK_eq]
    have := List.length_filter_le (fun c : Nat => !a.any fun k => decide (k.c = (c : Int))) (List.range m)
    simp at this ⊢
    omega
  have hfin : ∀ k ∈ fullK m a, 0 ≤ k.c ∧ k.c < (m : Int) := by
    intro k hk
    rw [fullK_eq] at hk
    rcases List.mem_append.1 hk with h | h
    · exact ka k h
    · obtain ⟨i, hi, rfl⟩ := List.mem_map.1 h
      have := (List.mem_filter.1 hi).1
      simp at this
      simp only
      omega
  have u2 := c17 m (fullK m a) [] (by omega)
  have hall : (fullK m a).all (okK (m : Int)) = true := by
    rw [List.all_eq_true]
    intro k hk
    have := hfin k hk
    simp [okK, this]
  rw [hall] at u2
  have hle32 : (fullK m a).length ≤ 32 := by omega
  -- rows
  have v1 : run 18 [.int .i64 m, rowsAV l, .int .i64 10] [] = some (.ret (rowsAV (tameRows m 10 l)) (some 68), []) := c18 m 10 l [] (by omega) (by omega) hl
  have hfa := tameRows_fit m (by omega) a ka 10 l
  have hff := tameRows_fit m (by omega) (fullK m a) hfin 10 l
  have hrl := tameRows_len m 10 l
  have hrm : ∀ r ∈ tameRows m 10 l, r.length = m := by
    intro r hr
    simp only [tameRows, List.mem_map] at hr
    obtain ⟨r', _, rfl⟩ := hr
    exact tameRow_len m r'
  generalize tameRows m 10 l = R at *
  have v2 := c20 (fullK m a) (by omega) R [] hff (by omega)
  have v3 := c20 a (by omega) R [] hfa (by omega)
  have hsame : orderedR (fullK m a) R = orderedR a R := ordered_congr R fun x hx y hy => (byK_full a (hrm x hx) (hrm y hy)).1
  rw [hsame] at v2
  have hol := orderedR_len a R
  have hof : ∀ r ∈ orderedR a R, okR r ∧ r.length ≤ 9223372036854775807 := fun r hr => by
    have := hfa r ((orderedR_mem a R r).1 hr)
    exact ⟨this.2.1, by have := this.2.2; omega⟩
  have v4 := c19 (orderedR a R) (orderedR a R) [] hof (by omega)
  rw [equalR_self] at v4
  have v5 := c21 (fullK m a) R [] hff (by omega) (by omega)
  have hsort : sortedB (fullK m a) R = true → orderedR a R = R := by
    intro hs
    refine ordered_id a R ?_
    have : ∀ (L : List (List V)), (∀ r ∈ L, r.length = m) → sortedB (fullK m a) L = true → chainR a L := by
      intro L
      induction L with
      | nil => intro _ _; trivial
      | cons x L ih =>
        intro hm hs
        cases L with
        | nil => trivial
        | cons y L =>
          simp only [sortedB, Bool.and_eq_true, decide_eq_true_eq] at hs
          refine ⟨?_, ih (fun r hr => hm r (.tail _ hr)) hs.2⟩
          rw [← (byK_full a (hm x (.head _)) (hm y (.tail _ (.head _)))).2]
          exact hs.1
    exact this R hrm hs
  have v6 := c19 R R [] (fun r hr => ⟨(hfa r hr).2.1, by have := (hfa r hr).2.2; omega⟩) (by omega)
  rw [equalR_self] at v6
  have c22' := c22
  generalize a.take cut = ac at *
  generalize reduceK f a = ra at *
  generalize begP ra (reduceK f b) = B1 at *
  generalize begP (reduceK f b) (reduceK f c) = B2 at *
  generalize begP ra (reduceK f c) = B3 at *
  generalize fullK m a = FK at *
  have hB : ¬ (B1 = true ∧ B2 = true ∧ B3 = false) := fun ⟨h1, h2, h3⟩ => by have := htr h1 h2; rw [h3] at this; cases this
  simp only [iav, Dep.av, intsAV, pairsAV, setsAV, keysAV, rowsAV, tup2, tupB] at *
  cases hs : sortedB FK R with
  | false =>
    rw [hs] at v5
    generalize orderedR a R = O at *
    simp (maxSteps := 1000000) [a3, hq, t1, t2, t3, t4, p1, p2, w1, i1, i2, i3, i4, hw1, hw2, hw3, hcut, hcle, hcle', htk, u1, u2, hle32, v1, v2, v3, v4, v5, c22']
    cases B1 <;> cases B2 <;> cases B3 <;> first
      | (exact absurd ⟨rfl, rfl, rfl⟩ hB)
      | simp
  | true =>
    rw [hs] at v5
    rw [hsort hs] at v2 v3 v4
    simp (maxSteps := 1000000) [a3, hq, t1, t2, t3, t4, p1, p2, w1, i1, i2, i3, i4, hw1, hw2, hw3, hcut, hcle, hcle', htk, u1, u2, hle32, v1, v2, v3, v4, v5, v6, c22']
    cases B1 <;> cases B2 <;> cases B3 <;> first
      | (exact absurd ⟨rfl, rfl, rfl⟩ hB)
      | simp
theorem ty_keys3 {a : AV} (h : HasTy Tryd.prog 28 a) : ∃ k1 k2 k3 : List K, a = .agg [keysAV k1, keysAV k2, keysAV k3] := by
  obtain ⟨cs, rfl, hl, hf⟩ := h.array_inv Tryd.underlying28
  have hc : Tryd.prog.cellsOf 28 = 3 := by kernel_rfl
  have hc3 : Tryd.prog.cellsOf 27 = 1 := by kernel_rfl
  rw [hc] at hl
  match cs, hl with
  | [x, y, z], _ =>
    have h1 := hf 0 (by omega)
    have h2 := hf 1 (by omega)
    have h3 := hf 2 (by omega)
    rw [pick1 (by kernel_rfl), hc3] at h1
    rw [pick1 (by kernel_rfl), hc3] at h2
    rw [pick1 (by kernel_rfl), hc3] at h3
    obtain ⟨k1, e1, _⟩ := ty_keys h1
    obtain ⟨k2, e2, _⟩ := ty_keys h2
    obtain ⟨k3, e3, _⟩ := ty_keys h3
    have e1' : x = keysAV k1 := e1
    have e2' : y = keysAV k2 := e2
    have e3' : z = keysAV k3 := e3
    subst e1' e2' e3'
    exact ⟨k1, k2, k3, rfl⟩
theorem wf_u8 {n : Int} (h : (Lit.int .u8 n).wf = true) : 0 ≤ n ∧ n ≤ 255 := by
  simp [Lit.wf, IntKind.min, IntKind.max, IntKind.bits, IntKind.signed] at h
  omega
theorem law3 : LawTrue Tryd.prog 3 Tryd.f3.params.toList fun _ => True :=
  lawTrue_of fun W _ => ⟨_, run_law W 3, fun args hl hty => by
    rw [Tryd.params3] at hl hty
    match args, hl with
    | [a, b, c, e, r], _ =>
      obtain ⟨n, rfl, _⟩ := ty_int (hty 0 _ a rfl rfl)
      obtain ⟨d, rfl, _⟩ := ty_dep (hty 1 _ b rfl rfl)
      obtain ⟨k1, k2, k3, rfl⟩ := ty_keys3 (hty 2 _ c rfl rfl)
      obtain ⟨u, rfl, hw⟩ := (hty 3 _ e rfl rfl).int_inv Tryd.underlying5
      obtain ⟨l, rfl, _, hl⟩ := ty_rows (hty 4 _ r rfl rfl)
      obtain ⟨u0, u1⟩ := wf_u8 hw
      have em := maxLen_eq
      exact ⟨[], none, c3 n d k1 k2 k3 u l u0 u1 (fun r hr => by have := (hl r hr).1; omega)⟩⟩
end Go.Av
