/- Part of a proof: The definition's one: its loops. -/
import Derived.Test.YtmfgdgfamfpopaaGreatDoorKvNe
set_option maxRecDepth 100000
set_option linter.unusedSimpArgs false
set_option linter.unusedVariables false
namespace Go.Av
open Go Go.Proofs Go.RowKit
theorem c31 (S : List Bx) : run1 31 [] S = some (.ret (.slice 1 (strsL signsL)) (some 9), S) := by
  refine eqn1 rfl ?_
  simp [a31]
  rfl
def stB (s b : List UInt8) (S : List Bx) : St := { σ := [(0, .v (.str (bs s))), (2, .l 2 0), (7, .v (.slice 1 (bytesL b)))], own := [(7, 5)], loc := [(2, zTok)], S := S }
theorem loop016 (s : List UInt8) (S : List Bx) (hs : s.length ≤ 1000000) : ∀ (k n : Nat), s.length ≤ n + k → n ≤ s.length →
    aloopW (acode run1 a16_l0) (stB s ((s.take n).map smallB) S) = some (.exit 0, stB s ((s.take (n + ((s.drop n).takeWhile nmB).length)).map smallB) S) := by
  have hsz : (bs s).size = s.length := bs_size s
  have bl : ∀ b : List UInt8, (bytesL b).length = b.length := fun b => by simp [bytesL]
  have stop : aloopW (acode run1 a16_l0) (stB s ((s.take s.length).map smallB) S) = some (.exit 0, stB s ((s.take s.length).map smallB) S) := by
    have hb : (bytesL ((s.take s.length).map smallB)).length = s.length := by rw [bl]; simp
    refine aloopW_stop ?_ (by simp)
    rw [acode_k]
    unfold stB
    generalize hX : bytesL ((s.take s.length).map smallB) = X at *
    simp [a16_l0, zTok, hsz, hb]
  intro k
  induction k with
  | zero =>
    intro n h hn
    obtain rfl : n = s.length := by omega
    have e : s.drop s.length = [] := List.drop_length
    rw [e]
    exact stop
  | succ k ih =>
    intro n h hn
    by_cases hlt : n < s.length
    · obtain ⟨c, hc⟩ : ∃ c, s[n]? = some c := ⟨s[n], List.getElem?_eq_getElem hlt⟩
      have h1 : (n : Int) < (s.length : Int) := by omega
      have g : (bs s)[n]? = some c := by rw [bs_get]; exact hc
      have q1 := c28 c S
      have q2 := c27 (smallB c) S
      have hb : (bytesL ((s.take n).map smallB)).length = n := by rw [bl]; simp; omega
      have ht : s.take (n + 1) = s.take n ++ [c] := by rw [List.take_add_one, hc]; rfl
      have al : n + 1 ≤ 140737488355328 := by omega
      rw [drop_some hc, List.takeWhile_cons]
      unfold nmB
      cases hbn : inNm (smallB c)
      · rw [hbn] at q2
        simp only [Bool.false_eq_true, if_false, List.length_nil, Nat.add_zero]
        refine aloopW_stop ?_ (by simp)
        rw [acode_k]
        unfold stB
        generalize hX : bytesL ((s.take n).map smallB) = X at *
        simp [-getElem?_pos, List.getElem?_cons_zero, List.getElem?_cons_succ, a16_l0, zTok, hsz, hb, h1, g, q1, q2, hlt]
      · rw [hbn] at q2
        have e : n + (c :: (s.drop (n + 1)).takeWhile nmB).length = (n + 1) + ((s.drop (n + 1)).takeWhile nmB).length := by simp; omega
        simp only [if_true]
        change _ = some (AEx.exit 0, stB s ((s.take (n + (c :: (s.drop (n + 1)).takeWhile nmB).length)).map smallB) S)
        rw [e, ← ih (n + 1) (by omega) (by omega)]
        refine aloopW_step ?_
        have eb : bytesL ((s.take (n + 1)).map smallB) = bytesL ((s.take n).map smallB) ++ [.int .u8 ((smallB c).toNat : Int)] := by rw [ht]; simp [bytesL]
        rw [acode_k]
        unfold stB
        rw [eb]
        generalize hX : bytesL ((s.take n).map smallB) = X at *
        simp [-getElem?_pos, List.getElem?_cons_zero, List.getElem?_cons_succ, a16_l0, zTok, hsz, hb, h1, g, q1, q2, hlt, al, srcElems]
    · obtain rfl : n = s.length := by omega
      have e : s.drop s.length = [] := List.drop_length
      rw [e]
      exact stop
def stG (s : List UInt8) (S : List Bx) (i : Nat) : St := { σ := [(0, .v (.str (bs s))), (2, .l 2 0), (11, .v (.slice 1 (strsL signsL))), (12, .v (.int .i64 (i : Int)))], own := [(11, 9)], loc := [(2, zTok)], S := S }
theorem loop116 (s : List UInt8) (S : List Bx) (hs : s.length ≤ 1000000) :
    aloopW (acode run1 a16_l1) (stG s S 0) = some ((signsL.find? fun x => x.isPrefixOf s).elim
      (.exit 3, { σ := [(2, .l 2 0)], own := [], loc := [(2, zTok)], S := S })
      (fun x => (.ret, { σ := [(2, .l 2 0), (3, .v (.int .i64 (x.length : Int)))], own := [], loc := [(2, { cells := [.int .i64 5, .str (bs x), .int .i64 0] })], S := S }))) := by
  have hlen : (strsL signsL).length = signsL.length := by simp [strsL]
  have h17 : signsL.length = 17 := by rfl
  have hz : (bs s).size = s.length := bs_size s
  have h := loop_walk (f := acode run1 a16_l1) signsL (fun (_ : Unit) i => stG s S i)
    (fun _ x => if x.isPrefixOf s then .inr (.ret, { σ := [(2, .l 2 0), (3, .v (.int .i64 (x.length : Int)))], own := [], loc := [(2, { cells := [.int .i64 5, .str (bs x), .int .i64 0] })], S := S }) else .inl ())
    (fun _ => (.exit 3, { σ := [(2, .l 2 0)], own := [], loc := [(2, zTok)], S := S })) (fun _ _ => True) (b0 := ()) trivial
    (fun i _ x _ hx => by
      have hlt := (List.getElem?_eq_some_iff.1 hx).1
      have h1 := ilt hx
      have w := w64s (n := i) (by omega)
      have g : (strsL signsL)[i]? = some (.str (bs x)) := by unfold strsL; rw [List.getElem?_map, hx]; rfl
      have xz : (bs x).size = x.length := bs_size x
      have ex : (bs s).extract 0 x.length = bs (s.take x.length) := by rw [bs_extract]; simp
      cases hb : x.isPrefixOf s
      · left
        refine ⟨(), by simp [hb], ?_, trivial⟩
        rw [acode_k]
        generalize hX : strsL signsL = X at *
        by_cases hle : x.length ≤ s.length
        · have hle' : (x.length : Int) ≤ (s.length : Int) := by omega
          have hne : ¬ s.take x.length = x := fun e => by
            have : x.isPrefixOf s = true := List.isPrefixOf_iff_prefix.2 (e ▸ List.take_prefix _ _)
            rw [hb] at this; cases this
          have hne2 : ¬ (bs (s.take x.length)).toList = (bs x).toList := by rw [bs_toList, bs_toList]; exact hne
          simp [-getElem?_pos, List.getElem?_cons_zero, List.getElem?_cons_succ, a16_l1, stG, zTok, hlen, hX, hz, h1, w, g, xz, ex, hle, hle', hne, hne2]
        · have hle' : ¬ (x.length : Int) ≤ (s.length : Int) := by omega
          simp [-getElem?_pos, List.getElem?_cons_zero, List.getElem?_cons_succ, a16_l1, stG, zTok, hlen, hX, hz, h1, w, g, xz, ex, hle, hle']
      · right
        refine ⟨_, if_pos rfl, ?_, by simp⟩
        have hp := List.isPrefixOf_iff_prefix.1 hb
        have hle := hp.length_le
        have hle' : (x.length : Int) ≤ (s.length : Int) := by omega
        have he : s.take x.length = x := (List.prefix_iff_eq_take.1 hp).symm
        rw [he] at ex
        rw [acode_k]
        generalize hX : strsL signsL = X at *
        simp [-getElem?_pos, List.getElem?_cons_zero, List.getElem?_cons_succ, a16_l1, stG, zTok, hlen, hX, hz, h1, w, g, xz, ex, hle, hle'])
    (fun _ _ => by
      refine ⟨?_, by simp⟩
      rw [acode_k]
      generalize hX : strsL signsL = X at *
      simp [a16_l1, stG, zTok, hlen, hX])
  rw [walkL_find] at h
  exact h
end Go.Av
