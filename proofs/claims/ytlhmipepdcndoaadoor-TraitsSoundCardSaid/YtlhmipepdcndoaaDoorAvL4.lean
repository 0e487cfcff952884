/- Part of a proof: TraitsChecks. -/
import Derived.Test.YtlhmipepdcndoaaDoorAvTy
import Derived.Test.YtlhmipepdcndoaaDoorF2
set_option maxRecDepth 100000
set_option linter.unusedSimpArgs false
set_option linter.unusedVariables false
namespace Go.Av
open Go Go.Proofs
theorem c22 : run 22 [] [] = some (.ret (.bool true) none, []) := recL_run awake_run
theorem q10 (n : Int) (S : List Bx) : run 10 [.int .i64 n] S = some (.ret (.int .i64 (columnsOf n)) none, S) := c10 n S
theorem columns_ok (n : Int) : 1 ≤ columnsOf n ∧ columnsOf n ≤ 5 := by unfold columnsOf; omega
theorem maxLen_eq : maxLen = 9223372036854775807 := by decide
theorem Dep.Ok.small {d : Dep} (h : d.Ok) : d.Small := by
  have e := maxLen_eq
  exact ⟨by have := h.c.1; omega, by have := h.e.1; omega, by have := h.s.1; omega, fun l hl => by have := (h.s.2 l hl).1; omega⟩
theorem len_take {α : Type} (n : Nat) (l : List α) : (l.take n).length ≤ n := by simp; omega
theorem cut_small (d : Dep) : (cutDep d).Small := by
  refine ⟨?_, ?_, ?_, ?_⟩ <;> simp only [cutDep, List.length_map]
  · have := len_take 18 d.consts; omega
  · have := len_take 18 d.equal; omega
  · have := len_take 18 d.sets; omega
  · intro l hl
    obtain ⟨l', _, rfl⟩ := List.mem_map.1 hl
    have := len_take 18 l'; omega
theorem tame_small (m : Int) (d : Dep) : (tameDep m d).Small := by
  refine ⟨?_, ?_, ?_, ?_⟩ <;> simp only [tameDep, List.length_map]
  · have := len_take 2 d.consts; omega
  · have := len_take 3 d.equal; omega
  · have := len_take 2 d.sets; omega
  · intro l hl
    obtain ⟨l', _, rfl⟩ := List.mem_map.1 hl
    have := len_take 3 l'
    simp only [List.length_map]; omega
theorem tame_known {m : Int} (h : 1 ≤ m) (h2 : m ≤ 16) (d : Dep) : knownB m (tameDep m d) = true := by
  have hb : ∀ c, inB m (modOf c m) = true := fun c => by
    have : 0 ≤ modOf c m ∧ modOf c m < m := ⟨Int.emod_nonneg _ (by omega), Int.emod_lt_of_pos _ (by omega)⟩
    simp [inB, this]
  have h3 := len_take 2 d.consts
  have h4 := len_take 3 d.equal
  have h5 := len_take 2 d.sets
  have h6 : ∀ l, setB m ((List.take 3 l).map (modOf · m)) = true := fun l => by
    have := len_take 3 l
    simp only [setB, List.length_map, Bool.and_eq_true, decide_eq_true_eq]
    exact ⟨by omega, by simp [-List.map_take, List.all_map, hb]⟩
  simp only [knownB, tameDep, List.length_map, Bool.and_eq_true, decide_eq_true_eq]
  refine ⟨⟨⟨⟨⟨by omega, by omega⟩, by omega⟩, ?_⟩, ?_⟩, ?_⟩ <;> simp only [List.all_map, List.all_eq_true] <;> intros <;> simp [-List.map_take, hb, h6]
theorem tame_keysB {m : Int} (h : 1 ≤ m) (h2 : m ≤ 16) (ks : List K) : areKeysB m (tameKeys m ks) = true := by
  have hb : ∀ c, inB m (modOf c m) = true := fun c => by
    have : 0 ≤ modOf c m ∧ modOf c m < m := ⟨Int.emod_nonneg _ (by omega), Int.emod_lt_of_pos _ (by omega)⟩
    simp [inB, this]
  have h3 := len_take 6 ks
  simp only [areKeysB, tameKeys, List.length_map, Bool.and_eq_true, decide_eq_true_eq]
  exact ⟨by omega, by simp [-List.map_take, List.all_map, tameK, hb]⟩
theorem tame_right {m : Int} (h : 1 ≤ m) (h2 : m ≤ 16) (d : Dep) (ls : List (List K)) (hl : ∀ l ∈ ls, ∃ k, l = tameKeys m k) : rightE m (tameDep m d) ls = 0 := by
  have h1 : ¬ (m < 1 ∨ 16 < m) := by omega
  have h3 : ls.all (areKeysB m) = true := List.all_eq_true.2 fun l hm => by
    obtain ⟨k, rfl⟩ := hl l hm
    exact tame_keysB h h2 k
  rw [rightE, if_neg h1, tame_known h h2, h3]; rfl
set_option maxHeartbeats 4000000 in
theorem c4 (n : Int) (d : Dep) (ks : List K) (hk : ks.length ≤ 9223372036854775807) : run 4 [iav n, d.av, keysAV ks] [] = some (.ret (.bool true) none, []) := by
  refine eqn rfl ?_
  obtain ⟨m1, m2⟩ := columns_ok n
  have m3 : columnsOf n ≤ 16 := by omega
  have ha1 := fun S => c23 d S
  have ha2 := fun S => c24 ks S
  have ha3 := fun S => c11 (columnsOf n) d S m1 m3
  have ha4 := fun S => c12 (columnsOf n) ks S m1 m3
  have b1 := fun S => c25 n (cutDep d) (cutKeys ks) S (cut_small d) (by simp [cutKeys]; omega)
  have b2 := fun S => c26 n (cutDep d) [cutKeys ks] S (cut_small d) (by simp) (by simp [cutKeys]; omega)
  have b3 := fun S => c25 (columnsOf n) (tameDep (columnsOf n) d) (tameKeys (columnsOf n) ks) S (tame_small _ d) (by simp [tameKeys]; omega)
  have b4 := fun S => c25 (columnsOf n) (tameDep (columnsOf n) d) (cutKeys ks) S (tame_small _ d) (by simp [cutKeys]; omega)
  have b5 := fun S => c26 (columnsOf n) (tameDep (columnsOf n) d) [cutKeys ks] S (tame_small _ d) (by simp) (by simp [cutKeys]; omega)
  have b6 := fun S => c25 (columnsOf n) (cutDep d) [] S (cut_small d) (by simp)
  have b7 := fun S => c26 (columnsOf n) (cutDep d) [] S (cut_small d) (by simp) (by simp)
  rw [tame_right m1 m3 d _ (by simp; exact ⟨ks, rfl⟩)] at b3
  have hq := fun S => q10 n S
  generalize columnsOf n = m at *
  generalize tameKeys m ks = tk at *
  generalize cutKeys ks = ck at *
  generalize cutDep d = cd at *
  generalize tameDep m d = td at *
  simp only [Dep.av, intsAV, pairsAV, setsAV, keysAV, iav, listsAV, List.map_cons, List.map_nil] at *
  simp [a4, hq, c22, ha1, ha2, ha3, ha4, b1, b2, b3, b4, b5, b6, b7]
  simp [rightE, areKeysB]
theorem run_law (W : World) (f : Nat) : SoundFun Tryd.prog W f (run f) := recSound_iff.1 (recL_sound (run_sound W)) f
theorem law4 : LawTrue Tryd.prog 4 Tryd.f4.params.toList fun _ => True :=
  lawTrue_of fun W _ => ⟨_, run_law W 4, fun args hl hty => by
    rw [Tryd.params4] at hl hty
    match args, hl with
    | [a, b, c], _ =>
      obtain ⟨n, rfl, _⟩ := ty_int (hty 0 3 a rfl rfl)
      obtain ⟨d, rfl, _⟩ := ty_dep (hty 1 26 b rfl rfl)
      obtain ⟨ks, rfl, hk, _⟩ := ty_keys (hty 2 27 c rfl rfl)
      rw [maxLen_eq] at hk
      exact ⟨[], none, c4 n d ks hk⟩⟩
end Go.Av
