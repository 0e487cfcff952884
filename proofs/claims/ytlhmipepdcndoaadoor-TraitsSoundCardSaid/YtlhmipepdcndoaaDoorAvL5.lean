/- Part of a proof: TraitsSound. -/
import Derived.Test.YtlhmipepdcndoaaDoorAvMf
import Derived.Test.YtlhmipepdcndoaaDoorAvL7
import Derived.Test.YtlhmipepdcndoaaDoorAvL8
set_option maxRecDepth 100000
set_option linter.unusedSimpArgs false
set_option linter.unusedVariables false
namespace Go.Av
open Go Go.Proofs

theorem fit_of {n : Nat} {l : List (List V)} (h : rightRows n l) (hn : n ≤ 16) {ks : List K} (hk : ∀ k ∈ ks, 0 ≤ k.c ∧ k.c < (n : Int)) : ∀ r ∈ l, fitR ks r := fun r hr =>
  ⟨fun k hk' => ⟨(hk k hk').1, by rw [(h r hr).1]; exact (hk k hk').2⟩, (h r hr).2, by rw [(h r hr).1]; omega⟩
def stL (a b : List K) (L : List (List (List V))) (less both : List K) (e : Int) (i : Nat) : St :=
  { σ := [(13, .v (keysAV a)), (14, .v (keysAV b)), (19, .v (.slice 1 (L.map rowsAV))), (20, .v (keysAV less)), (22, .v (keysAV both)), (23, .v (.int .i64 e)), (24, .v (.int .i64 i))], own := [(13, 78), (14, 78), (19, 29)], loc := [], S := [] }
theorem loop5 (a b less both : List K) (L : List (List (List V))) (e : Int) (hL : L.length ≤ 100)
    (fa : ∀ l ∈ L, run 21 [keysAV a, rowsAV l] [] = some (.ret (.bool (sortedB a l)) none, []))
    (fb : ∀ l ∈ L, run 21 [keysAV b, rowsAV l] [] = some (.ret (.bool (sortedB b l)) none, []))
    (fl : ∀ l ∈ L, run 21 [keysAV less, rowsAV l] [] = some (.ret (.bool (sortedB a l)) none, []))
    (fo : e = 0 → ∀ l ∈ L, run 21 [keysAV both, rowsAV l] [] = some (.ret (.bool (sortedB a l && sortedB b l)) none, [])) :
    aloopW (acode run a5_l0) (stL a b L less both e 0) = some (.exit 0, { σ := [], own := [], loc := [], S := [] }) := by
  have h := loop_all (f := acode run a5_l0) L (fun _ => true) (stL a b L less both e) (bad := (.ret, default)) (good := (.exit 0, { σ := [], own := [], loc := [], S := [] })) (by simp) (by simp)
    (fun i l hx => by
      have h1 := ilt hx
      have hlt := (List.getElem?_eq_some_iff.1 hx).1
      have hm := List.mem_of_getElem? hx
      have q1 := fa l hm
      have q2 := fb l hm
      have q3 := fl l hm
      have w := w64s (n := i) (by omega)
      simp only [keysAV, rowsAV] at q1 q2 q3
      by_cases he : e = 0
      · have q4 := fo he l hm
        subst he
        simp only [keysAV, rowsAV] at q4
        generalize sortedB a l = A at *
        generalize sortedB b l = B at *
        rw [acode_k]
        cases A <;> cases B <;> simp at q4 <;> simp [a5_l0, stL, keysAV, rowsAV, hx, h1, q1, q2, q3, q4, w]
      · generalize sortedB a l = A at *
        rw [acode_k]
        simp [a5_l0, stL, keysAV, rowsAV, hx, h1, q1, q3, he, w])
    (by
      rw [acode_k]
      simp [a5_l0, stL])
  rw [h]
  have : L.all (fun _ => true) = true := by rw [List.all_eq_true]; intro _ _; rfl
  rw [this]; rfl
theorem longer_prefix {x y : List K} (h : (longerK x y).2 = true) : ((longerK x y).1 = x ∧ y <+: x) ∨ ((longerK x y).1 = y ∧ x <+: y) := by
  unfold longerK at h ⊢
  split
  · rename_i hl
    rw [if_pos hl] at h
    exact .inr ⟨rfl, begP_prefix.1 h⟩
  · rename_i hl
    rw [if_neg hl] at h
    exact .inl ⟨rfl, begP_prefix.1 h⟩
theorem longer_sorted {x y : List K} (h : (longerK x y).2 = true) (l : List (List V)) : sortedB (longerK x y).1 l = (sortedB x l && sortedB y l) := by
  rcases longer_prefix h with ⟨e, p⟩ | ⟨e, p⟩
  · rw [e]
    cases hs : sortedB x l with
    | false => rfl
    | true => rw [sorted_prefix p hs]; rfl
  · rw [e]
    cases hs : sortedB y l with
    | false => rw [Bool.and_false]
    | true => rw [sorted_prefix p hs]; rfl
set_option maxHeartbeats 8000000 in
theorem c5 (n : Int) (d : Dep) (k1 k2 : List K) (l : List (List V)) (hl : ∀ r ∈ l, r.length ≤ 9223372036854775807) :
    run 5 [iav n, d.av, keysAV k1, keysAV k2, rowsAV l] [] = some (.ret (.bool true) none, []) := by
  refine eqn rfl ?_
  obtain ⟨m1, m2⟩ := columns_ok n
  have hq := c10 n []
  generalize columnsOf n = mm at *
  obtain ⟨m, rfl⟩ : ∃ m : Nat, mm = (m : Int) := ⟨mm.toNat, by omega⟩
  have m3 : (m : Int) ≤ 16 := by omega
  have t1 := c11 m d [] m1 m3
  have t2 := c12 m k1 [] m1 m3
  have t3 := c12 m k2 [] m1 m3
  have sT := tame_small m d
  have la : (tameKeys m k1).length ≤ 6 := by simp only [tameKeys, List.length_map]; exact len_take 6 k1
  have lb : (tameKeys m k2).length ≤ 6 := by simp only [tameKeys, List.length_map]; exact len_take 6 k2
  have hkn := tame_known m1 m3 d
  have hA := tame_keysB m1 m3 k1
  have hB := tame_keysB m1 m3 k2
  have hin := inN_of sT hkn m1 m3
  have ka := keys_in hA m1
  have kb := keys_in hB m1
  rw [Int.toNat_natCast] at hin ka kb
  generalize tameDep m d = f at *
  generalize tameKeys m k1 = a at *
  generalize tameKeys m k2 = b at *
  have g := good_of hin.in
  have hsl : ∀ s ∈ f.sets, s.length ≤ 1000000 := by
    simp only [knownB, Bool.and_eq_true, List.all_eq_true] at hkn
    intro s hs
    have := hkn.2 s hs
    simp only [setB, Bool.and_eq_true, decide_eq_true_eq] at this
    omega
  have kac : ∀ k ∈ a, inC k.c := fun k hk => ⟨(ka k hk).1, by have := (ka k hk).2; omega⟩
  have kbc : ∀ k ∈ b, inC k.c := fun k hk => ⟨(kb k hk).1, by have := (kb k hk).2; omega⟩
  have rla := reduceK_len f a
  have rlb := reduceK_len f b
  have kra := reduceK_in g hin.n16 a ([], []) ka (by simp)
  have krb := reduceK_in g hin.n16 b ([], []) kb (by simp)
  have kra' : ∀ k ∈ reduceK f a, 0 ≤ k.c ∧ k.c < (m : Int) := kra
  have krb' : ∀ k ∈ reduceK f b, 0 ≤ k.c ∧ k.c < (m : Int) := krb
  have right0 : ∀ ls : List (List K), (∀ l ∈ ls, areKeysB m l = true) → rightE m f ls = 0 := by
    intro ls hls
    have k1 : ¬ ((m : Int) < 1 ∨ 16 < (m : Int)) := by omega
    have k2 : ls.all (areKeysB m) = true := List.all_eq_true.2 hls
    rw [rightE, if_neg k1, hkn, k2]; rfl
  -- rows
  have v1 : run 18 [.int .i64 m, rowsAV l, .int .i64 10] [] = some (.ret (rowsAV (tameRows m 10 l)) (some 68), []) := c18 m 10 l [] (by omega) (by omega) hl
  have hrl := tameRows_len m 10 l
  have hrm : rightRows m (tameRows m 10 l) := by
    intro r hr
    simp only [tameRows, List.mem_map] at hr
    obtain ⟨r', _, rfl⟩ := hr
    exact ⟨tameRow_len m r', tameRow_ok m r'⟩
  generalize tameRows m 10 l = R at *
  obtain ⟨v2, hxr, hxl⟩ := c27 m f R [] hin (by omega) hsl hrm (by omega)
  have hxd := holds_pairs (kept_holds f R)
  generalize keptR f R = X at *
  have hX1 : (orderedR a X).length = X.length := orderedR_len a X
  have hX2 : (orderedR b X).length = X.length := orderedR_len b X
  have v3 := c20 a (by omega) X [] (fit_of hxr (by omega) ka) (by omega)
  have v4 := c20 b (by omega) X [] (fit_of hxr (by omega) kb) (by omega)
  have hs1 := ordered_sorted a X
  have hall : ∀ Y ∈ [X, orderedR a X, orderedR b X], rightRows m Y ∧ Y.Pairwise (Diff f) ∧ Y.length ≤ 10 := by
    intro Y hY
    simp only [List.mem_cons, List.not_mem_nil, or_false] at hY
    rcases hY with rfl | rfl | rfl
    · exact ⟨hxr, hxd, by omega⟩
    · exact ⟨fun r hr => hxr r ((orderedR_mem a X r).1 hr), diff_perm hxd (ordered_perm a X), by omega⟩
    · exact ⟨fun r hr => hxr r ((orderedR_mem b X r).1 hr), diff_perm hxd (ordered_perm b X), by omega⟩
  generalize orderedR a X = O1 at *
  generalize orderedR b X = O2 at *
  have srt : ∀ (ks : List K), (∀ k ∈ ks, 0 ≤ k.c ∧ k.c < (m : Int)) → ks.length ≤ 1000 → ∀ Y ∈ [X, O1, O2], run 21 [keysAV ks, rowsAV Y] [] = some (.ret (.bool (sortedB ks Y)) none, []) := fun ks hk hkl Y hY =>
    c21 ks Y [] (fit_of (hall Y hY).1 (by omega) hk) (by have := (hall Y hY).2.2; omega) (by omega)
  -- Implies
  have i1 := c15 m f a b [] sT (by omega) (by omega)
  have f1 : impE m f (begP (reduceK f a) (reduceK f b)) a b = (begP (reduceK f a) (reduceK f b), 0) := by simp [impE, right0 [a, b] (by simp [hA, hB])]
  rw [f1] at i1
  have s1 := srt b kb (by omega) O1 (by simp)
  have himp : begP (reduceK f a) (reduceK f b) = true → sortedB b O1 = true := by
    intro h
    have hp := begP_prefix.1 h
    have hd := (hall O1 (by simp)).2.1
    rw [← sorted_reduce hin.in g hd b kbc]
    refine sorted_prefix hp ?_
    rw [sorted_reduce hin.in g hd a kac]
    exact hs1
  -- Reduce
  have p1 := c13 m f a [] sT (by omega)
  have e1 : redE m f (reduceK f a) a = (reduceK f a, 0) := by simp [redE, right0 [a] (by simpa using hA)]
  rw [e1] at p1
  have u1 := c17 m (reduceK f a) [] (by omega)
  have hk1 : (reduceK f a).all (okK (m : Int)) = true := by
    rw [List.all_eq_true]
    intro k hk
    have := kra' k hk
    simp [okK, this]
  rw [hk1] at u1
  have hle1 : (reduceK f a).length ≤ 32 := by omega
  -- Both
  have b1 := c28 m f a b [] sT (by omega) (by omega)
  have e2 : bothE m f (longerK (reduceK f a) (reduceK f b)) a b = if (longerK (reduceK f a) (reduceK f b)).2 then ((longerK (reduceK f a) (reduceK f b)).1, 0) else ([], 4) := by simp [bothE, right0 [a, b] (by simp [hA, hB])]
  rw [e2] at b1
  have hbk : (longerK (reduceK f a) (reduceK f b)).2 = true → (∀ k ∈ (longerK (reduceK f a) (reduceK f b)).1, 0 ≤ k.c ∧ k.c < (m : Int)) ∧ (longerK (reduceK f a) (reduceK f b)).1.length ≤ 32 ∧
      ∀ Y ∈ [X, O1, O2], sortedB (longerK (reduceK f a) (reduceK f b)).1 Y = (sortedB a Y && sortedB b Y) := by
    intro h
    refine ⟨?_, ?_, fun Y hY => ?_⟩
    · rcases longer_prefix h with ⟨e, _⟩ | ⟨e, _⟩ <;> rw [e]
      · exact kra'
      · exact krb'
    · rcases longer_prefix h with ⟨e, _⟩ | ⟨e, _⟩ <;> rw [e] <;> omega
    · rw [longer_sorted h, sorted_reduce hin.in g (hall Y hY).2.1 a kac, sorted_reduce hin.in g (hall Y hY).2.1 b kbc]
  have fl : ∀ Y ∈ [X, O1, O2], run 21 [keysAV (reduceK f a), rowsAV Y] [] = some (.ret (.bool (sortedB a Y)) none, []) := fun Y hY => by
    rw [srt (reduceK f a) kra' (by omega) Y hY, sorted_reduce hin.in g (hall Y hY).2.1 a kac]
  have lp := fun (both : List K) (e : Int) => loop5 a b (reduceK f a) both [X, O1, O2] e (by simp) (srt a ka (by omega)) (srt b kb (by omega)) fl
  have c22' := c22
  generalize longerK (reduceK f a) (reduceK f b) = lk at *
  generalize begP (reduceK f a) (reduceK f b) = B1 at *
  generalize reduceK f a = ra at *
  obtain ⟨lk1, lk2⟩ := lk
  have hs2 : B1 = true → run 21 [keysAV b, rowsAV O1] [] = some (.ret (.bool true) none, []) := fun h => by rw [s1, himp h]
  cases lk2 with
  | false =>
    have lq := lp [] 4 (by intro h; cases h)
    simp only [stL, Int.natCast_zero, Int.ofNat_zero, List.map_cons, List.map_nil] at lq
    simp only [iav, Dep.av, intsAV, pairsAV, setsAV, keysAV, rowsAV, tup2, tupB] at *
    simp only [List.map_nil] at lq
    cases B1 with
    | false => simp (maxSteps := 1000000) [a5, hq, t1, t2, t3, v1, v2, v3, v4, i1, p1, u1, hle1, b1, lq, c22']
    | true =>
      have hs3 := hs2 rfl
      simp (maxSteps := 1000000) [a5, hq, t1, t2, t3, v1, v2, v3, v4, i1, hs3, p1, u1, hle1, b1, lq, c22']
  | true =>
    obtain ⟨y1, y2, y3⟩ := hbk rfl
    simp only at y1 y2 y3
    have u2 := c17 m lk1 [] (by omega)
    have hk2 : lk1.all (okK (m : Int)) = true := by
      rw [List.all_eq_true]
      intro k hk
      have := y1 k hk
      simp [okK, this]
    rw [hk2] at u2
    have lq := lp lk1 0 (fun _ Y hY => by rw [srt lk1 y1 (by omega) Y hY, y3 Y hY])
    simp only [stL, Int.natCast_zero, Int.ofNat_zero, List.map_cons, List.map_nil] at lq
    simp only [iav, Dep.av, intsAV, pairsAV, setsAV, keysAV, rowsAV, tup2, tupB] at *
    cases B1 with
    | false => simp (maxSteps := 1000000) [a5, hq, t1, t2, t3, v1, v2, v3, v4, i1, p1, u1, u2, hle1, y2, b1, lq, c22']
    | true =>
      have hs3 := hs2 rfl
      simp (maxSteps := 1000000) [a5, hq, t1, t2, t3, v1, v2, v3, v4, i1, hs3, p1, u1, u2, hle1, y2, b1, lq, c22']
theorem law5 : LawTrue Tryd.prog 5 Tryd.f5.params.toList fun _ => True :=
  lawTrue_of fun W _ => ⟨_, run_law W 5, fun args hl hty => by
    rw [Tryd.params5] at hl hty
    match args, hl with
    | [a, b, c, e, r], _ =>
      obtain ⟨n, rfl, _⟩ := ty_int (hty 0 _ a rfl rfl)
      obtain ⟨d, rfl, _⟩ := ty_dep (hty 1 _ b rfl rfl)
      obtain ⟨k1, rfl, _, _⟩ := ty_keys (hty 2 _ c rfl rfl)
      obtain ⟨k2, rfl, _, _⟩ := ty_keys (hty 3 _ e rfl rfl)
      obtain ⟨l, rfl, _, hl⟩ := ty_rows (hty 4 _ r rfl rfl)
      have em := maxLen_eq
      exact ⟨[], none, c5 n d k1 k2 l (fun r hr => by have := (hl r hr).1; omega)⟩⟩
end Go.Av
