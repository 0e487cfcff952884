/- Part of a proof: TraitsTexts. -/
import Derived.Test.YtlhmipepdcndoaaGreatDoorTvHe
import Derived.Test.YtlhmipepdcndoaaGreatDoorTvCf
import Derived.Test.YtlhmipepdcndoaaGreatDoorTvCe
import Derived.Test.YtlhmipepdcndoaaGreatDoorTvTy
import Derived.Test.YtlhmipepdcndoaaGreatDoorTvL4
set_option maxRecDepth 100000
set_option linter.unusedSimpArgs false
set_option linter.unusedVariables false
namespace Go.Av
open Go Go.Proofs

theorem allE_len (ks : List K) (b : Bool) : ks.foldl (fun ok k => ok && decide (0 ≤ k.c)) b = (b && ks.all fun k => decide (0 ≤ k.c)) := by
  rw [foldl_all]
def st0La (a0 a1 : AV) (ks : List K) (s : ByteArray) (e : Int) (S : List Bx) (ok : Bool) (i : Nat) : St :=
  { σ := [(0, .v a0), (1, .v a1), (5, .v (keysAV ks)), (6, .v (.str s)), (7, .v (.int .i64 e)), (8, .v (.bool ok)), (9, .v (.int .i64 i))], own := [(5, 52)], loc := [], S := S }
theorem loop04 (a0 a1 : AV) (ks : List K) (s : ByteArray) (e : Int) (S : List Bx) (ok : Bool) (hl : ks.length ≤ 1000) :
    aloopW (acode run a4_l0) (st0La a0 a1 ks s e S ok 0) = some (.exit 0, { σ := [(0, .v a0), (1, .v a1), (5, .v (keysAV ks)), (6, .v (.str s)), (7, .v (.int .i64 e)), (8, .v (.bool (ok && ks.all fun k => decide (0 ≤ k.c))))], own := [(5, 52)], loc := [], S := S }) := by
  have h := loop_fold (f := acode run a4_l0) ks (fun ok i => st0La a0 a1 ks s e S ok i) (fun ok k => ok && decide (0 ≤ k.c))
    (fun ok => (.exit 0, { σ := [(0, .v a0), (1, .v a1), (5, .v (keysAV ks)), (6, .v (.str s)), (7, .v (.int .i64 e)), (8, .v (.bool ok))], own := [(5, 52)], loc := [], S := S })) (fun _ _ => True) (b0 := ok) trivial
    (fun i ok k _ hx => by
      have h1 := ilt hx
      have hlt := (List.getElem?_eq_some_iff.1 hx).1
      have w := w64s (n := i) (by omega)
      refine ⟨?_, trivial⟩
      rw [acode_k]
      cases ok
      · simp [-getElem?_pos, List.getElem?_cons_zero, List.getElem?_cons_succ, a4_l0, st0La, keysAV, hx, h1, w]
      · by_cases hk : 0 ≤ k.c
        · simp [-getElem?_pos, List.getElem?_cons_zero, List.getElem?_cons_succ, a4_l0, st0La, keysAV, K.av, hx, h1, w, hk]
        · simp [-getElem?_pos, List.getElem?_cons_zero, List.getElem?_cons_succ, a4_l0, st0La, keysAV, K.av, hx, h1, w, hk])
    (fun ok _ => by
      rw [acode_k]
      simp [a4_l0, st0La, keysAV])
    (fun _ => by simp)
  rw [allE_len] at h
  exact h
def st1La (ks : List K) (L : List (List UInt8)) (S : List Bx) (i : Nat) : St :=
  { σ := [(10, .v (keysAV ks)), (11, .v (strsAV L)), (12, .v (.int .i64 i))], own := [(10, 52), (11, 9)], loc := [], S := S }
theorem loop14 (ks : List K) (L : List (List UInt8)) (S : List Bx) (hL : L.length ≤ 1000) (hs : ∀ s ∈ L, s.length ≤ 1000) :
    aloopW (acode run a4_l1) (st1La ks L S 0) = some (.exit 2, { σ := [(10, .v (keysAV ks))], own := [(10, 52)], loc := [], S := S }) := by
  have h := loop_all (f := acode run a4_l1) L (fun _ => true) (st1La ks L S) (bad := (.ret, default)) (good := (.exit 2, { σ := [(10, .v (keysAV ks))], own := [(10, 52)], loc := [], S := S })) (by simp) (by simp)
    (fun i s hx => by
      have h1 := ilt hx
      have hlt := (List.getElem?_eq_some_iff.1 hx).1
      have hm := List.mem_of_getElem? hx
      have w := w64s (n := i) (by omega)
      have q1 := c23 s S (hs s hm)
      have q2 := c24 s S (hs s hm)
      obtain ⟨r1, r2⟩ := same_read s
      unfold parseE at q1
      rw [r1] at q1
      rw [acode_k]
      cases hb : (refS s).2 with
      | false =>
        rw [hb] at q1 q2
        simp only [keysAV, tup2, Bool.false_eq_true, if_false, List.map_nil] at q1 q2
        simp [-getElem?_pos, List.getElem?_cons_zero, List.getElem?_cons_succ, a4_l1, st1La, strsAV, keysAV, hx, h1, w, q1, q2]
      | true =>
        obtain ⟨_, len, _⟩ := refS_ok hb
        have q3 := c25 (refS s).1 (refS s).1 S (by omega)
        rw [sameK_self] at q3
        rw [hb] at q1 q2
        rw [r2 hb] at q1
        simp only [keysAV, tup2, if_true] at q1 q2 q3
        generalize (refS s).1 = o at *
        simp [-getElem?_pos, List.getElem?_cons_zero, List.getElem?_cons_succ, a4_l1, st1La, strsAV, keysAV, hx, h1, w, q1, q2, q3])
    (by
      rw [acode_k]
      simp [a4_l1, st1La, strsAV])
  rw [h]
  have : L.all (fun _ => true) = true := by rw [List.all_eq_true]; intro _ _; rfl
  rw [this]; rfl
theorem tame3000 (ks : List K) : (tameKeys 3000 ks).length ≤ 6 ∧ ∀ k ∈ tameKeys 3000 ks, colOk k := by
  refine ⟨by simp only [tameKeys, List.length_map]; exact len_take 6 ks, fun k hk => ?_⟩
  simp only [tameKeys, List.mem_map] at hk
  obtain ⟨x, _, rfl⟩ := hk
  simp only [tameK, modOf, colOk]
  omega
set_option maxHeartbeats 8000000 in
theorem c4 (k0 : List K) (text : List UInt8) (hk0 : ∀ k ∈ k0, k.c ≤ 9223372036854775807) : run 4 [keysAV k0, .str (bs text)] [] = some (.ret (.bool true) none, []) := by
  refine eqn rfl ?_
  have u1 := c18 k0 []
  have hcl : (cutKeys k0).length ≤ 34 := len_take 34 k0
  have hck : ∀ k ∈ cutKeys k0, k.c ≤ 9223372036854775807 := fun k hk => hk0 k (List.mem_of_mem_take hk)
  generalize cutKeys k0 = y at *
  have u2 := c21 y [] (by omega) hck
  have l0 := loop04 (keysAV k0) (.str (bs text)) y (bs (strE y).1) (strE y).2 [] (decide (y.length ≤ 32)) (by omega)
  have hlb : (decide (y.length ≤ 32) && y.all fun k => decide (0 ≤ k.c)) = isListB y := rfl
  rw [hlb] at l0
  have t1 := c7 3000 k0 [] (by omega) (by omega)
  obtain ⟨tl, tk⟩ := tame3000 k0
  generalize tameKeys 3000 k0 = t at *
  have tf : keysFit t := fun k hk => ⟨(tk k hk).1, by have := (tk k hk).2; omega⟩
  have t2 := c22 t [] tf (by omega)
  have tw : (wrKs t).length ≤ 200 := by
    have := joinSp_len (ks := t) tf
    unfold wrKs
    simp; omega
  have hread := readS_wr tk (by omega)
  generalize hW : wrKs t = W at *
  have b1 := c23 W [] (by omega)
  unfold parseE at b1
  rw [hread] at b1
  simp only [if_true] at b1
  have b2 := c25 t t [] (by omega)
  rw [sameK_self] at b2
  have lt300 := len_take 300 text
  have l1 := loop14 t [W, text.take 300, 91 :: (text.take 300) ++ [93], 91 :: W] [] (by simp) (fun s hs => by
    simp only [List.mem_cons, List.not_mem_nil, or_false] at hs
    rcases hs with rfl | rfl | rfl | rfl
    · omega
    · omega
    · simp; omega
    · simp; omega)
  have e1 : (min (text.length : Int) 300).toNat = min text.length 300 := by omega
  have e2 : text.take (min text.length 300) = text.take 300 := by
    rcases Nat.le_total text.length 300 with h | h
    · rw [Nat.min_eq_left h, List.take_of_length_le h, List.take_of_length_le (Nat.le_refl _)]
    · rw [Nat.min_eq_right h]
  have e3 : (0 : Int) ≤ min (text.length : Int) 300 := by omega
  have e4 : min (text.length : Int) 300 ≤ (text.length : Int) := by omega
  have ex : (bs text).extract 0 (min text.length 300) = bs (text.take 300) := by rw [bs_extract, e2]; rfl
  generalize hT : text.take 300 = T at *
  have e91 : (⟨#[91]⟩ : ByteArray) = bs [91] := rfl
  have e93 : (⟨#[93]⟩ : ByteArray) = bs [93] := rfl
  have s1 : 1 + T.length ≤ 9223372036854775807 := by omega
  have s2 : T.length + 1 + 1 ≤ 9223372036854775807 := by omega
  have s3 : 1 + W.length ≤ 9223372036854775807 := by omega
  have s4 : T.length + 1 ≤ 9223372036854775807 := by omega
  have s5 : W.length + 1 ≤ 9223372036854775807 := by omega
  have c22' := c20
  simp only [st0La, st1La, Int.natCast_zero, Int.ofNat_zero, strsAV, List.map_cons, List.map_nil, List.cons_append] at l0 l1
  obtain ⟨ok, hok1, hok2⟩ : ∃ ok : Bool, decide (y.length ≤ 32) = ok ∧ decide ((y.length : Int) ≤ 32) = ok := ⟨_, rfl, by
    by_cases h : y.length ≤ 32
    · rw [decide_eq_true h, decide_eq_true (by omega)]
    · rw [decide_eq_false h, decide_eq_false (by omega)]⟩
  rw [hok1] at l0
  have hok3 : (y.length ≤ 32) ↔ ok = true := by rw [← hok1]; simp
  have hok4 : ((y.length : Int) ≤ 32) ↔ ok = true := by rw [← hok2]; simp
  unfold strE at u2 l0
  cases hb : isListB y with
  | false =>
    rw [hb] at u2 l0
    simp only [keysAV, tup2, iav, Bool.false_eq_true, if_false] at *
    have eb : bs [] = (⟨#[]⟩ : ByteArray) := rfl
    rw [eb] at u2 l0
    cases ok <;> simp (maxSteps := 1000000) [-List.map_take, a4, u1, u2, l0, t1, t2, b1, b2, l1, hok3, hok4, e1, e3, e4, ex, e91, e93, bs_append, bs_size, s1, s2, s3, s4, s5, c22']
  | true =>
    have yf : keysFit y := fun k hk => by
      unfold isListB at hb
      simp only [Bool.and_eq_true, List.all_eq_true, decide_eq_true_eq] at hb
      exact ⟨hb.2 k hk, hck k hk⟩
    have u3 := c22 y [] yf (by omega)
    rw [hb] at u2 l0
    simp only [keysAV, tup2, iav, if_true] at *
    generalize wrKs y = WY at *
    cases ok <;> simp (maxSteps := 1000000) [-List.map_take, a4, u1, u2, u3, l0, t1, t2, b1, b2, l1, hok3, hok4, e1, e3, e4, ex, e91, e93, bs_append, bs_size, bs_toList, s1, s2, s3, s4, s5, c22']
theorem law4 : LawTrue Tryz.prog 4 Tryz.f4.params.toList LaidV :=
  lawTrue_of fun W hW => ⟨_, run_law hW 4, fun args hl hty => by
    rw [Tryz.params4] at hl hty
    match args, hl with
    | [a, b], _ =>
      obtain ⟨k1, rfl, _, hk⟩ := ty_keys (hty 0 _ a rfl rfl)
      obtain ⟨s, rfl, hs⟩ := (hty 1 _ b rfl rfl).str_inv Tryz.underlying9
      refine ⟨[], none, ?_⟩
      rw [bs_of s]
      exact c4 k1 _ (fun k hk' => (hk k hk').2)⟩
end Go.Av
