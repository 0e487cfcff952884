/- Part of a proof: TraitsReduces. -/
import Derived.Test.YtlhmipepdcndoaaDoorAvDh
set_option maxRecDepth 100000
set_option linter.unusedSimpArgs false
set_option linter.unusedVariables false
namespace Go.Av
open Go Go.Proofs

theorem commonK_symm : ∀ (a b : List K), (commonK a b) = (commonK b a)
  | [], [] => rfl
  | [], b :: r => rfl
  | a :: l, [] => rfl
  | a :: l, b :: r => by
    simp only [commonK]
    by_cases h : a = b
    · subst h; simp [commonK_symm l r]
    · have : ¬ b = a := fun e => h e.symm
      simp [h, this]
theorem begP_begins (a b : List K) : begP a b = beginsK b a := by
  unfold begP beginsK
  rw [commonK_symm a b]
theorem commonK_all : ∀ (a b : List K), (commonK a b).length = a.length → a.length = b.length → a = b
  | [], [], _, _ => rfl
  | [], b :: r, _, h => by simp at h
  | a :: l, [], _, h => by simp at h
  | a :: l, b :: r, h1, h2 => by
    simp only [commonK] at h1
    split at h1
    · rename_i e
      rw [e, commonK_all l r (by simpa using h1) (by simpa using h2)]
    · simp at h1
theorem longer_both (x y : List K) : (longerK x y).2 = (bothK x y).2 ∧ ((longerK x y).2 = true → (longerK x y).1 = (bothK x y).1) := by
  have l1 := commonK_len x y
  have l2 := commonK_len y x
  have e := commonK_symm x y
  unfold longerK bothK
  rw [begP_begins, begP_begins]
  by_cases h : x.length < y.length
  · rw [if_pos h]
    have hyx : beginsK y x = false := by
      simp only [beginsK, decide_eq_false_iff_not]
      rw [← e]; omega
    rw [hyx]
    cases hxy : beginsK x y <;> simp
  · rw [if_neg h]
    cases hxy : beginsK x y with
    | true =>
      have hx : (commonK x y).length = x.length := by simpa [beginsK] using hxy
      have hle : (commonK x y).length ≤ y.length := by rw [e]; exact l2
      have heq := commonK_all x y hx (by omega)
      subst heq
      simp [hxy]
    | false => cases hyx : beginsK y x <;> simp
set_option maxHeartbeats 8000000 in
theorem c8 (n : Int) (d : Dep) (k1 k2 : List K) : run 8 [iav n, d.av, keysAV k1, keysAV k2] [] = some (.ret (.bool true) none, []) := by
  refine eqn rfl ?_
  obtain ⟨m1, m2⟩ := columns_ok n
  have hq := c10 n []
  generalize columnsOf n = mm at *
  obtain ⟨m, rfl⟩ : ∃ m : Nat, mm = (m : Int) := ⟨mm.toNat, by omega⟩
  have m3 : (m : Int) ≤ 16 := by omega
  have t1 := c11 m d [] m1 m3
  have t2 := c12 m k1 [] m1 m3
  have t3 := c12 m k2 [] m1 m3
  have u1 := c23 d []
  have u2 := c24 k1 []
  have u3 := c24 k2 []
  have sT := tame_small m d
  have sC := cut_small d
  have la : (tameKeys m k1).length ≤ 6 := by simp only [tameKeys, List.length_map]; exact len_take 6 k1
  have lb : (tameKeys m k2).length ≤ 6 := by simp only [tameKeys, List.length_map]; exact len_take 6 k2
  have ly : (cutKeys k1).length ≤ 34 := len_take 34 k1
  have lz : (cutKeys k2).length ≤ 34 := len_take 34 k2
  have r1 : rightE m (tameDep m d) [tameKeys m k1] = 0 := tame_right m1 m3 d _ (by simp; exact ⟨k1, rfl⟩)
  have r2 : rightE m (tameDep m d) [tameKeys m k1, tameKeys m k2] = 0 := tame_right m1 m3 d _ (by simp; exact ⟨⟨k1, rfl⟩, ⟨k2, rfl⟩⟩)
  have hin := inN_of sT (tame_known m1 m3 d) m1 m3
  have ka := keys_in (tame_keysB m1 m3 k1) m1
  have kb := keys_in (tame_keysB m1 m3 k2) m1
  rw [Int.toNat_natCast] at hin ka kb
  generalize tameDep m d = f at *
  generalize tameKeys m k1 = a at *
  generalize tameKeys m k2 = b at *
  generalize cutDep d = x at *
  generalize cutKeys k1 = y at *
  generalize cutKeys k2 = z at *
  have p1 := c13 m f a [] sT (by omega)
  have p2 := c15 m f a b [] sT (by omega) (by omega)
  have p3 := c33 m f a b [] sT (by omega) (by omega)
  have p4 := c28 m f a b [] sT (by omega) (by omega)
  have s1 := c34 m f a [] hin ka (by omega)
  have s2 := c34 m f b [] hin kb (by omega)
  have s3 := c35 m f a b [] hin ka kb (by omega) (by omega)
  have s4 := c37 m f a b [] hin ka kb (by omega) (by omega)
  have rla := reduceK_len f a
  have rlb := reduceK_len f b
  have s5 := c36 (reduceK f a) (reduceK f b) [] (by omega)
  have cl := commonK_len (reduceK f a) (reduceK f b)
  have w1 := c14 (reduceK f a) (reduceK f a) [] (by omega)
  have w2 := c14 (commonK (reduceK f a) (reduceK f b)) (commonK (reduceK f a) (reduceK f b)) [] (by omega)
  rw [sameK_self] at w1 w2
  obtain ⟨lb1, lb2⟩ := longer_both (reduceK f a) (reduceK f b)
  have e1 : redE m f (reduceK f a) a = (reduceK f a, 0) := by simp [redE, r1]
  have e2 : impE m f (begP (reduceK f a) (reduceK f b)) a b = (beginsK (reduceK f b) (reduceK f a), 0) := by simp [impE, r2, begP_begins]
  have e3 : comE m f (commonK (reduceK f a) (reduceK f b)) a b = (commonK (reduceK f a) (reduceK f b), 0) := by simp [comE, r2]
  have e4 : bothE m f (longerK (reduceK f a) (reduceK f b)) a b = if (bothK (reduceK f a) (reduceK f b)).2 = true then ((bothK (reduceK f a) (reduceK f b)).1, 0) else ([], 4) := by
    simp only [bothE, r2, if_true, ← lb1]
    split
    · rename_i h; rw [lb2 h]
    · rfl
  have bl : (bothK (reduceK f a) (reduceK f b)).1.length ≤ 1000 := by
    unfold bothK
    split
    · simp only; omega
    · split
      · simp only; omega
      · simp
  have w3 := c14 (bothK (reduceK f a) (reduceK f b)).1 (bothK (reduceK f a) (reduceK f b)).1 [] (by omega)
  rw [sameK_self] at w3
  rw [e1] at p1
  rw [e2] at p2
  rw [e3] at p3
  rw [e4] at p4
  -- anything
  have g1 := c15 n x y z [] sC (by omega) (by omega)
  have g2 := c33 n x y z [] sC (by omega) (by omega)
  have g3 := c28 n x y z [] sC (by omega) (by omega)
  have g4 := c13 n x y [] sC (by omega)
  have g5 := c26 n x [y, z] [] sC (by simp) (by simp; omega)
  have g6 := c26 n x [y] [] sC (by simp) (by simp; omega)
  have c22' := c22
  generalize reduceK f a = ra at *
  generalize reduceK f b = rb at *
  generalize commonK ra rb = cc at *
  generalize beginsK rb ra = bi at *
  generalize bothK ra rb = bk at *
  obtain ⟨bl1, bb⟩ := bk
  simp only at *
  have rr : rightE n x [y, z] = 0 ∨ rightE n x [y, z] ≠ 0 := by omega
  have e8 : (redE n x (reduceK x y) y).2 = rightE n x [y] := by
    unfold redE; split
    · rename_i h; rw [h]
    · rfl
  generalize hre : redE n x (reduceK x y) y = RE at *
  obtain ⟨re1, re2⟩ := RE
  simp only at e8
  subst e8
  rcases rr with rr | rr
  · rw [rr] at g5
    simp only [iav, Dep.av, intsAV, pairsAV, setsAV, keysAV, listsAV, tup2, tupB, List.map_cons, List.map_nil] at *
    cases bb <;> simp at p4 <;> simp [a8, hq, t1, t2, t3, u1, u2, u3, p1, p2, p3, p4, s1, s2, s3, s4, s5, w1, w2, w3, g5, c22']
  · have f1 : impE n x (begP (reduceK x y) (reduceK x z)) y z = (false, rightE n x [y, z]) := by simp [impE, rr]
    have f2 : comE n x (commonK (reduceK x y) (reduceK x z)) y z = ([], rightE n x [y, z]) := by simp [comE, rr]
    have f3 : bothE n x (longerK (reduceK x y) (reduceK x z)) y z = ([], rightE n x [y, z]) := by simp [bothE, rr]
    rw [f1] at g1
    rw [f2] at g2
    rw [f3] at g3
    simp only [iav, Dep.av, intsAV, pairsAV, setsAV, keysAV, listsAV, tup2, tupB, List.map_cons, List.map_nil] at *
    cases bb <;> simp at p4 <;> simp [a8, hq, t1, t2, t3, u1, u2, u3, p1, p2, p3, p4, s1, s2, s3, s4, s5, w1, w2, w3, g1, g2, g3, g4, g5, g6, rr, c22']
theorem law8 : LawTrue Tryd.prog 8 Tryd.f8.params.toList fun _ => True :=
  lawTrue_of fun W _ => ⟨_, run_law W 8, fun args hl hty => by
    rw [Tryd.params8] at hl hty
    match args, hl with
    | [a, b, c, e], _ =>
      obtain ⟨n, rfl, _⟩ := ty_int (hty 0 _ a rfl rfl)
      obtain ⟨d, rfl, _⟩ := ty_dep (hty 1 _ b rfl rfl)
      obtain ⟨k1, rfl, _, _⟩ := ty_keys (hty 2 _ c rfl rfl)
      obtain ⟨k2, rfl, _, _⟩ := ty_keys (hty 3 _ e rfl rfl)
      exact ⟨[], none, c8 n d k1 k2⟩⟩
end Go.Av
