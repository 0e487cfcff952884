/- Part of a proof: The whole table's limit; the definition's Join. -/
import Derived.Test.YtmfgdgfamfpopaaDoorJvGj
set_option maxRecDepth 100000
set_option linter.unusedSimpArgs false
set_option linter.unusedVariables false
namespace Go.Av
open Go Go.Proofs Go.RowKit

noncomputable abbrev run1 : Rec := recL (tabOf tabA tabX1)
theorem eqn1 {f : Nat} {fn : AFun} (hT : tabOf tabA tabX1 f = some (.air fn)) {args : List AV} {S : List Bx} {r : AEnd × List Bx} (h : afun run1 fn args S = some r) : run1 f args S = some r := recL_air hT h
theorem tab_sub (f : Nat) (d : Def) (h : tabOf tabA tabX f = some d) : tabOf tabA tabX1 f = some d := by
  have n8 : tabOf tabA tabX 8 = none := rfl
  have n5 : tabOf tabA tabX 5 = none := rfl
  have e8 : f ≠ 8 := fun e => by rw [e, n8] at h; cases h
  have e5 : f ≠ 5 := fun e => by rw [e, n5] at h; cases h
  have : lookX tabX1 f = lookX tabX f := by
    unfold tabX1
    simp only [lookX]
    rw [if_neg (fun e => e8 e.symm), if_neg (fun e => e5 e.symm)]
  unfold tabOf at h ⊢
  rw [this]
  exact h
theorem crun_sub : ∀ n, RecLe (crun (tabOf tabA tabX) n) (crun (tabOf tabA tabX1) n)
  | 0 => fun f args S x h => by cases h
  | n + 1 => fun f args S x h => by
    simp only [crun] at h ⊢
    split at h
    · rename_i fn hf
      rw [tab_sub f _ hf]
      exact cafun_le (crun_sub n) (Nat.le_refl _) h
    · rename_i hh hf
      rw [tab_sub f _ hf]
      exact h
    · cases h
theorem lift {f : Nat} {args : List AV} {S : List Bx} {r : AEnd × List Bx} (h : run f args S = some r) : run1 f args S = some r := by
  obtain ⟨n, hn⟩ := recL_some.1 h
  exact recL_some.2 ⟨n, crun_sub n _ _ _ _ hn⟩
theorem awake1 : run1 7 [] [] = some (.ret (.bool true) none, []) := recL_run (n := 60) (by kernel_rfl)
theorem c8 (s : List UInt8) : run1 8 [.str (bs s)] [] = some (.ret (tokE s) none, []) := by
  refine recL_ext (hh := xTokens) rfl ?_
  simp only [xTokens, bs_data]

/-! ### joining -/
def bytesL (l : List UInt8) : List AV := l.map fun b => .int .u8 (b.toNat : Int)
def strsL (l : List (List UInt8)) : List AV := l.map fun s => .str (bs s)
theorem bytesA_L : ∀ l : List UInt8, bytesA (bytesL l) = some l
  | [] => rfl
  | b :: l => by
    have h := b.toNat_lt
    have ih := bytesA_L l
    unfold bytesL at ih ⊢
    simp only [List.map_cons, bytesA, ih]
    have h2 : (b.toNat : Int) < 256 := by omega
    have h3 : (0 : Int) ≤ (b.toNat : Int) := by omega
    simp [h2, h3]
theorem joinSp_snoc (l : List (List UInt8)) (x : List UInt8) : joinSp (l ++ [x]) = if l = [] then x else joinSp l ++ 32 :: x := by
  cases l with
  | nil => simp [joinSp]
  | cons y l => simp [joinSp]
theorem join_sp (l : List (List UInt8)) : Lib.join l [32] = joinSp l := by
  cases l with
  | nil => rfl
  | cons x r => rw [Lib.join_cons]; rfl
theorem joinSp_pre (l : List (List UInt8)) : ∀ i, (joinSp (l.take i)).length ≤ (joinSp l).length := by
  intro i
  cases l with
  | nil => simp
  | cons x r =>
    cases i with
    | zero => simp [joinSp]
    | succ i =>
      simp only [List.take_succ_cons, joinSp, List.length_append]
      have : ((r.take i).map (fun y => (32 : UInt8) :: y)).flatten.length ≤ (r.map (fun y => (32 : UInt8) :: y)).flatten.length := by
        have e : r.map (fun y => (32 : UInt8) :: y) = (r.take i).map (fun y => (32 : UInt8) :: y) ++ (r.drop i).map (fun y => (32 : UInt8) :: y) := by rw [← List.map_append, List.take_append_drop]
        rw [e, List.flatten_append, List.length_append]
        omega
      omega
def st6 (xs : List (List UInt8)) (S : List Bx) (acc : List UInt8) (i : Nat) : St := { σ := [(0, .v (.slice 1 (strsL xs))), (3, .v (.slice 1 (bytesL acc))), (4, .v (.int .i64 (i : Int)))], own := [(3, 5)], loc := [], S := S }
theorem c6 (xs : List (List UInt8)) (S : List Bx) (hl : xs.length ≤ 1000000) (hj : (joinSp xs).length ≤ 1000000000) : run1 6 [.slice 1 (strsL xs)] S = some (.ret (.str (bs (joinSp xs))) none, S) := by
  refine eqn1 rfl ?_
  have hsl : (strsL xs).length = xs.length := by simp [strsL]
  have h := loop_upto (f := acode run1 a6_l0) (st := fun i => st6 xs S (joinSp (xs.take i)) i) (r := (.exit 0, { σ := [(3, .v (.slice 1 (bytesL (joinSp xs))))], own := [(3, 5)], loc := [], S := S })) (by simp) xs.length 0
    (fun i _ hi => by
      have hi : i < xs.length := by omega
      obtain ⟨x, hx⟩ : ∃ x, xs[i]? = some x := ⟨xs[i], List.getElem?_eq_getElem hi⟩
      have h1 : (i : Int) < (xs.length : Int) := by omega
      have w := w64s (n := i) (by omega)
      have g : (strsL xs)[i]? = some (.str (bs x)) := by unfold strsL; rw [List.getElem?_map, hx]; rfl
      have hp := joinSp_pre xs (i + 1)
      have hp0 := joinSp_pre xs i
      have ht : xs.take (i + 1) = xs.take i ++ [x] := by rw [List.take_add_one, hx]; rfl
      show acode run1 _ (st6 xs S (joinSp (xs.take i)) i) = some (.normal, st6 xs S (joinSp (xs.take (i + 1))) (i + 1))
      rw [ht] at hp ⊢
      rw [joinSp_snoc] at hp ⊢
      rw [acode_k]
      have hsx : (bs x).data.toList = x := bs_data x
      have hsz : (bs x).size = x.length := bs_size x
      have w1 : IntKind.wrap .i64 1 = 1 := wr64 (by omega) (by omega)
      by_cases h0 : i = 0
      · subst h0
        simp only [List.take_zero, if_true] at hp ⊢
        have hb : (x.length : Nat) ≤ 140737488355328 := by omega
        simp [-getElem?_pos, List.getElem?_cons_zero, List.getElem?_cons_succ, a6_l0, st6, hsl, h1, g, joinSp, bytesL, srcElems, hb, hi, hsz, hsx, w1]
      · have hne : ¬ xs.take i = [] := fun e => by
          have := congrArg List.length e
          rw [List.length_take] at this
          simp only [List.length_nil] at this
          omega
        have h2 : (0 : Int) < (i : Int) := by omega
        have hi0 : 0 < i := by omega
        rw [if_neg hne] at hp ⊢
        generalize joinSp (xs.take i) = J at *
        have hb : J.length + 1 ≤ 140737488355328 := by omega
        simp only [List.length_append, List.length_cons] at hp
        have hb2 : J.length + 1 + x.length ≤ 140737488355328 := by omega
        simp [-getElem?_pos, List.getElem?_cons_zero, List.getElem?_cons_succ, a6_l0, st6, hsl, h1, h2, g, w, bytesL, srcElems, hb, hb2, hsz, hsx, hi0])
    (by
      rw [Nat.zero_add, List.take_length]
      rw [acode_k]
      simp [a6_l0, st6, hsl])
  have e0 : joinSp (xs.take 0) = [] := rfl
  simp only [e0, st6, Int.natCast_zero, Int.ofNat_zero] at h
  have hb := bytesA_L (joinSp xs)
  have hn : bytesL [] = [] := rfl
  rw [hn] at h
  have hlen : (bytesL (joinSp xs)).length = (joinSp xs).length := by simp [bytesL]
  generalize bytesL (joinSp xs) = B at *
  generalize joinSp xs = J at *
  generalize strsL xs = X at *
  simp [a6, h, hb]
  rfl
end Go.Av
