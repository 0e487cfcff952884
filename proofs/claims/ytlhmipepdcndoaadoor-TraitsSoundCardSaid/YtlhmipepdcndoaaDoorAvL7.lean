/- Part of a proof: TraitsRows. -/
import Derived.Test.YtlhmipepdcndoaaDoorAvL6
set_option maxRecDepth 100000
set_option linter.unusedSimpArgs false
set_option linter.unusedVariables false
namespace Go.Av
open Go Go.Proofs

def stA7 (cols : List Int) (m : Int) (tk : List K) (x : List (List V)) (acc : List Int) (i : Nat) : St :=
  { σ := [(2, .v (.slice 1 (cols.map iav))), (9, .v (.int .i64 m)), (10, .v (.slice 2 (tk.map K.av))), (11, .v (.slice 1 (x.map rowAV))), (12, .v (.slice 9 ((acc.map colE).map E.av))), (13, .v (.slice 1 (acc.map iav))), (14, .v (.int .i64 i))],
    own := [(10, 78), (11, 68), (12, 64), (13, 3)], loc := [], S := [] }
def outA7 (m : Int) (tk : List K) (x : List (List V)) (acc : List Int) : AEx × St :=
  (.exit 0, { σ := [(9, .v (.int .i64 m)), (10, .v (.slice 2 (tk.map K.av))), (11, .v (.slice 1 (x.map rowAV))), (12, .v (.slice 9 ((acc.map colE).map E.av))), (13, .v (.slice 1 (acc.map iav)))], own := [(10, 78), (11, 68), (12, 64), (13, 3)], loc := [], S := [] })
def atOf (m : Int) (cols : List Int) : List Int := (cols.take 5).map (modOf · m)
theorem loopA7 (cols : List Int) (m : Int) (tk : List K) (x : List (List V)) (h0 : 1 ≤ m) (h1 : m ≤ 16) :
    aloopW (acode run a7_l0) (stA7 cols m tk x [] 0) = some (outA7 m tk x (atOf m cols)) :=
  loop_few' (f := acode run a7_l0) cols 5 (modOf · m) (fun acc i => stA7 cols m tk x acc i) (r := fun acc => outA7 m tk x acc) (by simp [outA7])
    (fun i acc c hx hi hlen => by
      rw [acode_k]
      have hlt := ilt hx
      have h5 : (i : Int) < 5 := by omega
      have hb : (acc.length + 1) * 8 ≤ 140737488355328 := by omega
      have hb2 : (acc.length + 1) * 112 ≤ 140737488355328 := by omega
      have w2 : m % 18446744073709551616 = m := by omega
      have w3 : ¬ (m = 0) := by omega
      have w4 : (c % 18446744073709551616).tmod m = modOf c m := Int.tmod_eq_emod_of_nonneg (by omega)
      have w5 : 0 ≤ modOf c m ∧ modOf c m < m := ⟨Int.emod_nonneg _ w3, Int.emod_lt_of_pos _ (by omega)⟩
      have w6 : IntKind.wrap .i64 (modOf c m) = modOf c m := wr64 (by omega) (by omega)
      have hg : (acc.map iav ++ [AV.int .i64 (modOf c m)])[i]? = some (.int .i64 (modOf c m)) := by rw [List.getElem?_append_right (by simp; omega)]; simp [hlen]
      generalize modOf c m = d at *
      simp [a7_l0, stA7, hx, hlt, h5, hb, hb2, iav, wrap_u64, w2, w3, w4, w6, w64s (n := i) (by omega), E.av, colE, hg])
    (fun i acc hn => by
      rw [acode_k]
      by_cases hlt : (i : Int) < (cols.length : Int)
      · have h2 : ¬ (i : Int) < 5 := by omega
        simp [a7_l0, stA7, outA7, hlt, h2]
      · simp [a7_l0, stA7, outA7, hlt])
def stB7 (x : List (List V)) (at' : List Int) (t : List K) (out : List (List V)) (i : Nat) : St :=
  { σ := [(11, .v (.slice 1 (x.map rowAV))), (13, .v (.slice 1 (at'.map iav))), (15, .v (.slice 2 (t.map K.av))), (17, .v (.slice 1 (out.map rowAV))), (18, .v (.int .i64 i))], own := [(11, 68), (13, 3), (17, 68)], loc := [], S := [] }
theorem loopB7 (x : List (List V)) (at' : List Int) (t : List K) (ha : at'.length ≤ 1000000) (hx : x.length ≤ 1000000) (hc : ∀ r ∈ x, ∀ c ∈ at', 0 ≤ c ∧ c < r.length) :
    aloopW (acode run a7_l1) (stB7 x at' t [] 0) = some (.exit 2, { σ := [(15, .v (.slice 2 (t.map K.av))), (17, .v (.slice 1 ((x.map (atR · at')).map rowAV)))], own := [(17, 68)], loc := [], S := [] }) := by
  have h := loop_fold (f := acode run a7_l1) x (fun out i => stB7 x at' t out i) (fun out r => out ++ [atR r at'])
    (fun out => (.exit 2, { σ := [(15, .v (.slice 2 (t.map K.av))), (17, .v (.slice 1 (out.map rowAV)))], own := [(17, 68)], loc := [], S := [] })) (fun i out => out.length ≤ i) (b0 := []) (by simp)
    (fun i out r hi hr => by
      refine ⟨?_, by simp; omega⟩
      show acode run a7_l1 (stB7 x at' t out i) = _
      rw [acode_k]
      have h1 := ilt hr
      have q := c32 r at' [] ha (hc r (List.mem_of_getElem? hr))
      have hb : (out.length + 1) * 24 ≤ 140737488355328 := by omega
      simp only [rowAV, intsAV] at q
      simp [a7_l1, stB7, hr, h1, rowAV, q, hb, w64s (n := i) (by omega)])
    (fun out _ => by
      show acode run a7_l1 (stB7 x at' t out x.length) = _
      rw [acode_k]
      simp [a7_l1, stB7])
    (fun _ => by simp)
  have e : ∀ (q out : List (List V)), q.foldl (fun out r => out ++ [atR r at']) out = out ++ q.map (atR · at') := by
    intro q
    induction q with
    | nil => simp
    | cons c q ih => intro out; simp [ih]
  rw [e, List.nil_append] at h
  exact h
theorem tameRow_len (m : Nat) (r : List V) : (tameRow m r).length = m := by simp [tameRow]
theorem tameAs1_t (v : V) (b : Bool) : (tameAs1 v b).t = [] := by unfold tameAs1; split <;> (try split) <;> rfl
theorem tameRow_ok (m : Nat) (r : List V) : okR (tameRow m r) := by
  intro v hv
  simp only [tameRow, List.mem_map] at hv
  obtain ⟨k, _, rfl⟩ := hv
  rw [tameAs1_t]; simp
theorem tameRows_fit (m : Nat) (hm : m ≤ 100) (ks : List K) (hk : ∀ k ∈ ks, 0 ≤ k.c ∧ k.c < m) (most : Nat) (l : List (List V)) : ∀ r ∈ tameRows m most l, fitR ks r := by
  intro r hr
  simp only [tameRows, List.mem_map] at hr
  obtain ⟨r', _, rfl⟩ := hr
  refine ⟨fun k hk' => ?_, tameRow_ok m r', by rw [tameRow_len]; omega⟩
  have := hk k hk'
  exact ⟨this.1, by rw [tameRow_len]; exact this.2⟩
theorem tameRows_len (m most : Nat) (l : List (List V)) : (tameRows m most l).length ≤ most := by
  simp only [tameRows, List.length_map]; exact len_take most l
theorem tameKeys_in {m : Int} (h0 : 1 ≤ m) (ks : List K) : ∀ k ∈ tameKeys m ks, 0 ≤ k.c ∧ k.c < m := by
  intro k hk
  simp only [tameKeys, List.mem_map] at hk
  obtain ⟨k', _, rfl⟩ := hk
  exact ⟨Int.emod_nonneg _ (by omega), Int.emod_lt_of_pos _ (by omega)⟩
theorem carried_in (at' : List Int) : ∀ (ks : List K), ∀ k ∈ carried (at'.map colE) ks, 0 ≤ k.c ∧ k.c < at'.length
  | [], k, h => by simp [carried] at h
  | q :: ks, k, h => by
    simp only [carried] at h
    split at h
    · cases h
    · rename_i hj
      rcases List.mem_cons.1 h with rfl | h
      · obtain ⟨j1, _⟩ := idx_col (at' := at') (c := q.c) rfl (by omega)
        exact ⟨by simp only; omega, j1⟩
      · exact carried_in at' ks k h
set_option maxHeartbeats 4000000 in
theorem c7 (n : Int) (ks : List K) (cols : List Int) (l : List (List V)) (hl : ∀ r ∈ l, r.length ≤ 9223372036854775807) : run 7 [iav n, keysAV ks, intsAV cols, rowsAV l] [] = some (.ret (.bool true) none, []) := by
  refine eqn rfl ?_
  obtain ⟨m1, m2⟩ := columns_ok n
  have hq := c10 n []
  generalize columnsOf n = mm at *
  obtain ⟨m, rfl⟩ : ∃ m : Nat, mm = (m : Int) := ⟨mm.toNat, by omega⟩
  have m3 : (m : Int) ≤ 16 := by omega
  have h1 := c12 m ks [] m1 m3
  have hk := tameKeys_in m1 ks
  have htk : (tameKeys m ks).length ≤ 6 := by simp only [tameKeys, List.length_map]; exact len_take 6 ks
  have hr : rightE m dep0 [tameKeys m ks] = 0 := by
    have k1 : ¬ ((m : Int) < 1 ∨ 16 < (m : Int)) := by omega
    simp [rightE, k1, knownB, tame_keysB m1 m3]
  generalize tameKeys m ks = tk at *
  have h2 : run 18 [.int .i64 m, rowsAV l, .int .i64 10] [] = some (.ret (rowsAV (tameRows m 10 l)) (some 68), []) := c18 m 10 l [] (by omega) (by omega) hl
  have hfit := tameRows_fit m (by omega) tk hk 10 l
  have hrl := tameRows_len m 10 l
  have hin : ∀ r ∈ tameRows m 10 l, r.length = m := by
    intro r hr
    simp only [tameRows, List.mem_map] at hr
    obtain ⟨r', _, rfl⟩ := hr
    exact tameRow_len m r'
  generalize tameRows m 10 l = R at *
  have h3 := c20 tk (by omega) R [] hfit (by omega)
  have hxl := orderedR_len tk R
  have hxs := ordered_sorted tk R
  have hfx : ∀ r ∈ orderedR tk R, fitR tk r := fun r hr => hfit r ((orderedR_mem tk R r).1 hr)
  have hxm : ∀ r ∈ orderedR tk R, r.length = m := fun r hr => hin r ((orderedR_mem tk R r).1 hr)
  generalize orderedR tk R = x at *
  have hA := loopA7 cols m tk x m1 m3
  have hat : ∀ c ∈ atOf m cols, 0 ≤ c ∧ c < m := by
    intro c hc
    simp only [atOf, List.mem_map] at hc
    obtain ⟨c', _, rfl⟩ := hc
    exact ⟨Int.emod_nonneg _ (by omega), Int.emod_lt_of_pos _ (by omega)⟩
  have hal : (atOf m cols).length ≤ 5 := by simp only [atOf, List.length_map]; exact len_take 5 cols
  generalize atOf m cols = at' at *
  have hB := loopB7 x at' (carried (at'.map colE) tk) (by omega) (by omega) (fun r hr c hc => by rw [hxm r hr]; exact hat c hc)
  have hci := carried_in at' tk
  have hcl := carried_len (at'.map colE) tk
  have hthr := through_sorted at' tk x hxs
  have b1 := c29 m tk (at'.map colE) [] (by omega) (by simp; omega)
  have b2 := c17 at'.length (carried (at'.map colE) tk) [] (by omega)
  have hall : (carried (at'.map colE) tk).all (okK (at'.length : Int)) = true := by
    rw [List.all_eq_true]
    intro k hk
    have := hci k hk
    simp [okK, this]
  have hle : (carried (at'.map colE) tk).length ≤ 32 := by omega
  have b3 := c21 (carried (at'.map colE) tk) (x.map (atR · at')) [] (by
    intro r hr
    obtain ⟨r', hr', rfl⟩ := List.mem_map.1 hr
    refine ⟨fun k hk => ?_, ?_, by simp [atR]; omega⟩
    · have := hci k hk
      exact ⟨this.1, by simpa [atR] using this.2⟩
    · intro v hv
      simp only [atR, List.mem_map] at hv
      obtain ⟨c, hc, rfl⟩ := hv
      have hcc := hat c hc
      have hg := vAt_get (r := r') (k := ⟨c, false⟩) ⟨hcc.1, by rw [hxm r' hr']; exact hcc.2⟩
      have hrR : fitR tk r' := hfx r' hr'
      exact hrR.2.1 _ (List.mem_of_getElem? hg)) (by simp; omega) (by omega)
  rw [hthr] at b3
  rw [hall] at b2
  have c22' := c22
  simp only [stA7, outA7, List.map_nil, Int.natCast_zero, Int.ofNat_zero] at hA
  simp only [stB7, List.map_nil, Int.natCast_zero, Int.ofNat_zero] at hB
  simp only [keysAV, rowsAV, intsAV, exprsAV, iav, tup2] at hq h1 h2 h3 b1 b2 b3 ⊢
  by_cases h0 : at' = []
  · subst h0
    simp at hA
    simp [a7, hq, h1, h2, h3, hA, c22']
  · have hlen : ¬ at'.length = 0 := fun e => h0 (List.eq_nil_of_length_eq_zero e)
    have hlen' : ¬ (at'.length : Int) = 0 := by omega
    have ht : throughE m tk (at'.map colE) = (carried (at'.map colE) tk, 0) := by
      have k1 : ¬ (at'.length < 1 ∨ 16 < at'.length) := by omega
      simp only [throughE, hr, if_true, List.length_map, if_neg k1]
    rw [ht] at b1
    generalize carried (at'.map colE) tk = t at *
    generalize (x.map (atR · at')).map rowAV = O at *
    generalize (at'.map colE).map E.av = Ex at *
    simp [a7, hq, h1, h2, h3, hA, hB, b1, b2, b3, hle, h0, hlen', c22']
theorem ty_val {a : AV} (h : HasTy Tryd.prog 61 a) : ∃ v : V, a = v.av ∧ v.t.length ≤ maxLen := by
  obtain ⟨cs, rfl, hl, hf⟩ := h.struct_inv Tryd.underlying61
  have hc : Tryd.prog.cellsOf 61 = 3 := by kernel_rfl
  rw [hc] at hl
  match cs, hl with
  | [x, y, z], _ =>
    have h1 := hf _ (List.mem_cons_self)
    have h2 := hf _ (List.mem_cons_of_mem _ (List.mem_cons_self))
    have h3 := hf _ (List.mem_cons_of_mem _ (List.mem_cons_of_mem _ (List.mem_cons_self)))
    rw [pick1 (by kernel_rfl)] at h1
    rw [pick1 (by kernel_rfl)] at h2
    rw [pick1 (by kernel_rfl)] at h3
    obtain ⟨n, e1, _⟩ := h1.int_inv Tryd.underlying59
    obtain ⟨m, e2, _⟩ := h2.int_inv Tryd.underlying2
    obtain ⟨s, e3, hs⟩ := h3.str_inv Tryd.underlying9
    have e1' : x = .int .i64 n := e1
    have e2' : y = .int .i64 m := e2
    have e3' : z = .str s := e3
    subst e1' e2' e3'
    refine ⟨⟨n, m, s.data.toList⟩, ?_, ?_⟩
    · simp only [V.av]
      rw [← bs_of]
    · show s.data.toList.length ≤ maxLen
      rw [Array.length_toList]
      exact hs
theorem ty_row {a : AV} (h : HasTy Tryd.prog 68 a) : ∃ r : List V, a = rowAV r ∧ r.length ≤ maxLen ∧ ∀ v ∈ r, v.t.length ≤ maxLen :=
  list_of Tryd.underlying68 (by kernel_rfl) (fun x hx => ty_val hx) h
theorem ty_rows {a : AV} (h : HasTy Tryd.prog 29 a) : ∃ l : List (List V), a = rowsAV l ∧ l.length ≤ maxLen ∧ ∀ r ∈ l, r.length ≤ maxLen ∧ ∀ v ∈ r, v.t.length ≤ maxLen :=
  list_of Tryd.underlying29 (by kernel_rfl) (fun x hx => ty_row hx) h
theorem law7 : LawTrue Tryd.prog 7 Tryd.f7.params.toList fun _ => True :=
  lawTrue_of fun W _ => ⟨_, run_law W 7, fun args hl hty => by
    rw [Tryd.params7] at hl hty
    match args, hl with
    | [a, b, c, d], _ =>
      obtain ⟨n, rfl, _⟩ := ty_int (hty 0 _ a rfl rfl)
      obtain ⟨ks, rfl, _, _⟩ := ty_keys (hty 1 _ b rfl rfl)
      obtain ⟨cs, rfl, _, _⟩ := ty_ints (hty 2 _ c rfl rfl)
      obtain ⟨l, rfl, _, hl⟩ := ty_rows (hty 3 _ d rfl rfl)
      have e := maxLen_eq
      exact ⟨[], none, c7 n ks cs l (fun r hr => by have := (hl r hr).1; omega)⟩⟩
end Go.Av
