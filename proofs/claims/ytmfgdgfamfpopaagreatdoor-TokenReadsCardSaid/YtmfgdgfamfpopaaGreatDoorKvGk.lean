/- Part of a proof: The whole table's limit; the definition's Join. -/
import Derived.Test.YtmfgdgfamfpopaaGreatDoorKvGj
set_option maxRecDepth 100000
set_option linter.unusedSimpArgs false
set_option linter.unusedVariables false
namespace Go.Av
open Go Go.Proofs Go.RowKit

noncomputable abbrev run1 : Rec := recL (tabOf tabA tabX1)
theorem eqn1 {f : Nat} {fn : AFun} (hT : tabOf tabA tabX1 f = some (.air fn)) {args : List AV} {S : List Bx} {r : AEnd × List Bx} (h : afun run1 fn args S = some r) : run1 f args S = some r := recL_air hT h
theorem tab_sub (f : Nat) (d : Def) (h : tabOf tabA tabX f = some d) : tabOf tabA tabX1 f = some d := by
  have n8 : tabOf tabA tabX 5 = none := rfl
  have e8 : f ≠ 5 := fun e => by rw [e, n8] at h; cases h
  have : lookX tabX1 f = lookX tabX f := by
    unfold tabX1
    simp only [lookX]
    rw [if_neg (fun e => e8 e.symm)]
  unfold tabOf at h ⊢
  rw [this]
  exact h
theorem crun_sub : ∀ n, RecLe (crun (tabOf tabA tabX) n) (crun (tabOf tabA tabX1) n)
  | 0 => fun f args S x h => by cases h
  | n + 1 => fun f args S x h => by
    simp only [crun] at h ⊢
    split at h
    · rename_i fn hf
      rw [tab_sub f _ hf]
      exact cafun_le (crun_sub n) (Nat.le_refl _) h
    · rename_i hh hf
      rw [tab_sub f _ hf]
      exact h
    · cases h
theorem lift {f : Nat} {args : List AV} {S : List Bx} {r : AEnd × List Bx} (h : run f args S = some r) : run1 f args S = some r := by
  obtain ⟨n, hn⟩ := recL_some.1 h
  exact recL_some.2 ⟨n, crun_sub n _ _ _ _ hn⟩
theorem awake1 : run1 6 [] [] = some (.ret (.bool true) none, []) := recL_run (n := 60) (by kernel_rfl)
theorem c5 (s : List UInt8) : run1 5 [.str (bs s)] [] = some (.ret (tokE s) none, []) := by
  refine recL_ext (hh := xTokens) rfl ?_
  simp only [xTokens, bs_data]

/-! ### joining -/
def bytesL (l : List UInt8) : List AV := l.map fun b => .int .u8 (b.toNat : Int)
def strsL (l : List (List UInt8)) : List AV := l.map fun s => .str (bs s)
theorem bytesA_L : ∀ l : List UInt8, bytesA (bytesL l) = some l
  | [] => rfl
  | b :: l => by
    have h := b.toNat_lt
    have ih := bytesA_L l
    unfold bytesL at ih ⊢
    simp only [List.map_cons, bytesA, ih]
    have h2 : (b.toNat : Int) < 256 := by omega
    have h3 : (0 : Int) ≤ (b.toNat : Int) := by omega
    simp [h2, h3]
theorem joinSp_snoc (l : List (List UInt8)) (x : List UInt8) : joinSp (l ++ [x]) = if l = [] then x else joinSp l ++ 32 :: x := by
  cases l with
  | nil => simp [joinSp]
  | cons y l => simp [joinSp]
theorem join_sp (l : List (List UInt8)) : Lib.join l [32] = joinSp l := by
  cases l with
  | nil => rfl
  | cons x r => rw [Lib.join_cons]; rfl
theorem joinSp_pre (l : List (List UInt8)) : ∀ i, (joinSp (l.take i)).length ≤ (joinSp l).length := by
  intro i
  cases l with
  | nil => simp
  | cons x r =>
    cases i with
    | zero => simp [joinSp]
    | succ i =>
      simp only [List.take_succ_cons, joinSp, List.length_append]
      have : ((r.take i).map (fun y => (32 : UInt8) :: y)).flatten.length ≤ (r.map (fun y => (32 : UInt8) :: y)).flatten.length := by
        have e : r.map (fun y => (32 : UInt8) :: y) = (r.take i).map (fun y => (32 : UInt8) :: y) ++ (r.drop i).map (fun y => (32 : UInt8) :: y) := by rw [← List.map_append, List.take_append_drop]
        rw [e, List.flatten_append, List.length_append]
        omega
      omega
end Go.Av
