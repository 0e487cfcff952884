/- Part of a proof: TraitsChecks. -/
import Derived.Test.YtlhmipepdcndoaaGreatDoorTvTy
import Derived.Test.YtlhmipepdcndoaaGreatDoorF2
set_option maxRecDepth 100000
set_option linter.unusedSimpArgs false
set_option linter.unusedVariables false
namespace Go.Av
open Go Go.Proofs
theorem c20 : run 20 [] [] = some (.ret (.bool true) none, []) := recL_run awake_run
theorem q10 (n : Int) (S : List Bx) : run 5 [.int .i64 n] S = some (.ret (.int .i64 (columnsOf n)) none, S) := c5 n S
theorem columns_ok (n : Int) : 1 ≤ columnsOf n ∧ columnsOf n ≤ 5 := by unfold columnsOf; omega
theorem maxLen_eq : maxLen = 9223372036854775807 := by decide
theorem Dep.Ok.small {d : Dep} (h : d.Ok) : d.Small := by
  have e := maxLen_eq
  exact ⟨by have := h.c.1; omega, by have := h.e.1; omega, by have := h.s.1; omega, fun l hl => by have := (h.s.2 l hl).1; omega⟩
theorem len_take {α : Type} (n : Nat) (l : List α) : (l.take n).length ≤ n := by simp; omega
theorem cut_small (d : Dep) : (cutDep d).Small := by
  refine ⟨?_, ?_, ?_, ?_⟩ <;> simp only [cutDep, List.length_map]
  · have := len_take 18 d.consts; omega
  · have := len_take 18 d.equal; omega
  · have := len_take 18 d.sets; omega
  · intro l hl
    obtain ⟨l', _, rfl⟩ := List.mem_map.1 hl
    have := len_take 18 l'; omega
theorem tame_small (m : Int) (d : Dep) : (tameDep m d).Small := by
  refine ⟨?_, ?_, ?_, ?_⟩ <;> simp only [tameDep, List.length_map]
  · have := len_take 2 d.consts; omega
  · have := len_take 3 d.equal; omega
  · have := len_take 2 d.sets; omega
  · intro l hl
    obtain ⟨l', _, rfl⟩ := List.mem_map.1 hl
    have := len_take 3 l'
    simp only [List.length_map]; omega
theorem tame_known {m : Int} (h : 1 ≤ m) (h2 : m ≤ 16) (d : Dep) : knownB m (tameDep m d) = true := by
  have hb : ∀ c, inB m (modOf c m) = true := fun c => by
    have : 0 ≤ modOf c m ∧ modOf c m < m := ⟨Int.emod_nonneg _ (by omega), Int.emod_lt_of_pos _ (by omega)⟩
    simp [inB, this]
  have h3 := len_take 2 d.consts
  have h4 := len_take 3 d.equal
  have h5 := len_take 2 d.sets
  have h6 : ∀ l, setB m ((List.take 3 l).map (modOf · m)) = true := fun l => by
    have := len_take 3 l
    simp only [setB, List.length_map, Bool.and_eq_true, decide_eq_true_eq]
    exact ⟨by omega, by simp [-List.map_take, List.all_map, hb]⟩
  simp only [knownB, tameDep, List.length_map, Bool.and_eq_true, decide_eq_true_eq]
  refine ⟨⟨⟨⟨⟨by omega, by omega⟩, by omega⟩, ?_⟩, ?_⟩, ?_⟩ <;> simp only [List.all_map, List.all_eq_true] <;> intros <;> simp [-List.map_take, hb, h6]
theorem tame_keysB {m : Int} (h : 1 ≤ m) (h2 : m ≤ 16) (ks : List K) : areKeysB m (tameKeys m ks) = true := by
  have hb : ∀ c, inB m (modOf c m) = true := fun c => by
    have : 0 ≤ modOf c m ∧ modOf c m < m := ⟨Int.emod_nonneg _ (by omega), Int.emod_lt_of_pos _ (by omega)⟩
    simp [inB, this]
  have h3 := len_take 6 ks
  simp only [areKeysB, tameKeys, List.length_map, Bool.and_eq_true, decide_eq_true_eq]
  exact ⟨by omega, by simp [-List.map_take, List.all_map, tameK, hb]⟩
theorem tame_right {m : Int} (h : 1 ≤ m) (h2 : m ≤ 16) (d : Dep) (ls : List (List K)) (hl : ∀ l ∈ ls, ∃ k, l = tameKeys m k) : rightE m (tameDep m d) ls = 0 := by
  have h1 : ¬ (m < 1 ∨ 16 < m) := by omega
  have h3 : ls.all (areKeysB m) = true := List.all_eq_true.2 fun l hm => by
    obtain ⟨k, rfl⟩ := hl l hm
    exact tame_keysB h h2 k
  rw [rightE, if_neg h1, tame_known h h2, h3]; rfl
theorem run_law {W : World} (hL : LaidV W) (f : Nat) : SoundFun Tryz.prog W f (run f) := recSound_iff.1 (recL_sound (run_sound hL)) f
end Go.Av
