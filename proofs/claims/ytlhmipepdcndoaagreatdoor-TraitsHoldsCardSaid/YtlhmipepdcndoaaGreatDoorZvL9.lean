/- Part of a proof: TraitsHolds. -/
import Derived.Test.YtlhmipepdcndoaaGreatDoorZvMg
import Derived.Test.YtlhmipepdcndoaaGreatDoorZvL4
set_option maxRecDepth 100000
set_option linter.unusedSimpArgs false
set_option linter.unusedVariables false
namespace Go.Av
open Go Go.Proofs

/-! ### what the made rows are -/
theorem tameAs_val {v : V} {b : Bool} (h : valI v) : valI (tameAs1 v b) := by
  unfold tameAs1 valI at *
  split
  · simp
  · split
    · simpa using h
    · simp only [u64]
      omega
theorem rawV_val {r : List V} (h : ∀ v ∈ r, valI v) (k : Nat) : valI (rawV r k) := by
  unfold rawV
  split
  · simp only [valI]
    constructor <;> (simp [IntKind.wrap, IntKind.bits, IntKind.signed]; omega)
  · simp [valI]
theorem tameRows_val (m most : Nat) {l : List (List V)} (h : ∀ r ∈ l, ∀ v ∈ r, valI v) : ∀ r ∈ tameRows m most l, ∀ v ∈ r, valI v := by
  intro r hr v hv
  simp only [tameRows, List.mem_map] at hr
  obtain ⟨r', hr', rfl⟩ := hr
  simp only [tameRow, List.mem_map] at hv
  obtain ⟨k, _, rfl⟩ := hv
  exact tameAs_val (rawV_val (h r' (List.mem_of_mem_take hr')) k)
def allV (p : V → Prop) (r : List V) : Prop := ∀ v ∈ r, p v
theorem set_all {p : V → Prop} {r : List V} (h : allV p r) {v : V} (hv : p v) (i : Nat) : allV p (r.set i v) := by
  intro x hx
  rcases List.mem_or_eq_of_mem_set hx with h1 | rfl
  · exact h x h1
  · exact hv
theorem at_all {p : V → Prop} (p0 : p ⟨0, 0, []⟩) {r : List V} (h : allV p r) (c : Int) : p (vAt r c) := by
  unfold vAt
  rw [List.getD]
  cases hx : r[c.toNat]? with
  | none => simpa using p0
  | some v => exact h v (List.mem_of_getElem? hx)
theorem fold_all {p : V → Prop} {α : Type} (g : List V → α → List V) (h : ∀ r x, allV p r → allV p (g r x)) : ∀ (l : List α) (r : List V), allV p r → allV p (l.foldl g r)
  | [], r, hr => hr
  | x :: l, r, hr => fold_all g h l _ (h r x hr)
theorem kept_all {p : V → Prop} (p0 : p ⟨0, 0, []⟩) (f : Dep) : ∀ (l out : List (List V)), (∀ r ∈ out, allV p r) → (∀ r ∈ l, allV p r) → ∀ r ∈ l.foldl (keptStep f) out, allV p r
  | [], out, ho, _ => ho
  | r :: l, out, ho, hl => by
    refine kept_all p0 f l _ (fun x hx => ?_) (fun x hx => hl x (.tail _ hx))
    unfold keptStep at hx
    have hr := hl r (.head _)
    have hC : allV p (rowC f out r) := by
      unfold rowC
      split
      · exact hr
      · rename_i o0 _
        exact fold_all _ (fun r c hr => set_all hr (at_all p0 (ho o0 (.head _)) c) _) _ _ hr
    have hE : allV p (rowE f (rowC f out r)) := fold_all _ (fun r _ hr => fold_all _ (fun r q hr => set_all hr (at_all p0 hr q.1) _) _ _ hr) _ _ hC
    split at hx
    · rcases List.mem_append.1 hx with h | h
      · exact ho x h
      · rw [List.mem_singleton.1 h]; exact hE
    · exact ho x hx

def stL9 (n : Int) (raw f : Dep) (k0 k : List K) (m : Int) (L : List (List (List V))) (i : Nat) : St :=
  { σ := [(0, .v (iav n)), (2, .v (keysAV k0)), (5, .l 5 0), (9, .v (iav m)), (10, .l 10 0), (11, .v (keysAV k)), (13, .v (.slice 1 (L.map rowsAV))), (14, .v (.int .i64 i))],
    own := [(11, 52), (13, 28)], loc := [(5, { cells := [intsAV raw.consts, pairsAV raw.equal, setsAV raw.sets], own := [] }), (10, { cells := [intsAV f.consts, pairsAV f.equal, setsAV f.sets], own := [] })], S := [] }
def outL9 (n : Int) (raw : Dep) (k0 : List K) : AEx × St :=
  (.exit 0, { σ := [(0, .v (iav n)), (2, .v (keysAV k0)), (5, .l 5 0)], own := [], loc := [(5, { cells := [intsAV raw.consts, pairsAV raw.equal, setsAV raw.sets], own := [] })], S := [] })
set_option maxHeartbeats 4000000 in
theorem loop3 (n : Int) (raw f : Dep) (k0 k : List K) (m : Int) (L : List (List (List V))) (hL : L.length ≤ 100) (ok hB sB : List (List V) → Bool)
    (fH : ∀ Y ∈ L, run 12 [iav m, f.av, rowsAV Y] [] = some (.ret (tupB (ok Y && hB Y) (if ok Y then 0 else 20)) none, []))
    (fS : ∀ Y ∈ L, run 13 [iav m, keysAV k, rowsAV Y] [] = some (.ret (tupB (ok Y && sB Y) (if ok Y then 0 else 20)) none, []))
    (fR : ∀ Y ∈ L, run 14 [iav m, rowsAV Y] [] = some (.ret (.bool (ok Y)) none, []))
    (rH : ∀ Y ∈ L, ok Y = true → run 15 [f.av, rowsAV Y] [] = some (.ret (.bool (hB Y)) none, []))
    (rS : ∀ Y ∈ L, ok Y = true → run 16 [keysAV k, rowsAV Y] [] = some (.ret (.bool (sB Y)) none, [])) :
    aloopW (acode run a3_l0) (stL9 n raw f k0 k m L 0) = some (outL9 n raw k0) := by
  have h := loop_all (f := acode run a3_l0) L (fun _ => true) (stL9 n raw f k0 k m L) (bad := (.ret, default)) (good := outL9 n raw k0) (by simp) (by simp [outL9])
    (fun i Y hx => by
      have h1 := ilt hx
      have hlt := (List.getElem?_eq_some_iff.1 hx).1
      have hm := List.mem_of_getElem? hx
      have q1 := fH Y hm
      have q2 := fS Y hm
      have q3 := fR Y hm
      have q4 := rH Y hm
      have q5 := rS Y hm
      have w := w64s (n := i) (by omega)
      simp only [keysAV, rowsAV, iav, Dep.av, tupB] at q1 q2 q3 q4 q5
      generalize ok Y = A at *
      generalize hB Y = B at *
      generalize sB Y = C at *
      rw [acode_k]
      cases A
      · simp at q1 q2
        simp [a3_l0, stL9, keysAV, rowsAV, iav, hx, h1, q1, q2, q3, w]
      · have q4' := q4 rfl
        have q5' := q5 rfl
        simp at q1 q2
        cases B <;> cases C <;> simp [a3_l0, stL9, keysAV, rowsAV, iav, hx, h1, q1, q2, q3, q4', q5', w])
    (by
      rw [acode_k]
      simp [a3_l0, stL9, outL9])
  rw [h]
  have : L.all (fun _ => true) = true := by rw [List.all_eq_true]; intro _ _; rfl
  rw [this]; rfl

theorem tameRowH_len (m : Nat) (r : List V) : (tameRow m r).length = m := by simp [tameRow]
theorem tameAsH_t (v : V) (b : Bool) : (tameAs1 v b).t = [] := by unfold tameAs1; split <;> (try split) <;> rfl
theorem tameRowH_ok (m : Nat) (r : List V) : okR (tameRow m r) := by
  intro v hv
  simp only [tameRow, List.mem_map] at hv
  obtain ⟨k, _, rfl⟩ := hv
  rw [tameAsH_t]; simp
theorem tameRowsH_len (m most : Nat) (l : List (List V)) : (tameRows m most l).length ≤ most := by
  simp only [tameRows, List.length_map]; exact len_take most l
theorem fitH_of {n : Nat} {l : List (List V)} (h : rightRows n l) (hn : n ≤ 16) {ks : List K} (hk : ∀ k ∈ ks, 0 ≤ k.c ∧ k.c < (n : Int)) : ∀ r ∈ l, fitR ks r := fun r hr =>
  ⟨fun k hk' => ⟨(hk k hk').1, by rw [(h r hr).1]; exact (hk k hk').2⟩, (h r hr).2, by rw [(h r hr).1]; omega⟩
theorem rightRows_ok {n : Nat} {l : List (List V)} (h : rightRows n l) (hn : n ≤ 16) : rowsOk l := fun r hr => ⟨(h r hr).2, by rw [(h r hr).1]; omega⟩
set_option maxHeartbeats 8000000 in
theorem c3 (n : Int) (d : Dep) (k1 : List K) (l : List (List V)) (hll : l.length ≤ 9223372036854775807) (hl : rowsOk l) (hi : ∀ r ∈ l, ∀ v ∈ r, valI v) :
    run 3 [iav n, d.av, keysAV k1, rowsAV l] [] = some (.ret (.bool true) none, []) := by
  refine eqn rfl ?_
  obtain ⟨m1, m2⟩ := columns_ok n
  have hq := c5 n []
  generalize columnsOf n = mm at *
  obtain ⟨m, rfl⟩ : ∃ m : Nat, mm = (m : Int) := ⟨mm.toNat, by omega⟩
  have m3 : (m : Int) ≤ 16 := by omega
  have t1 := c6 m d [] m1 m3
  have t2 := c7 m k1 [] m1 m3
  have u1 := c17 d []
  have u2 := c18 k1 []
  have sT := tame_small m d
  have sC := cut_small d
  have la : (tameKeys m k1).length ≤ 6 := by simp only [tameKeys, List.length_map]; exact len_take 6 k1
  have ly : (cutKeys k1).length ≤ 34 := len_take 34 k1
  have hkn := tame_known m1 m3 d
  have hA := tame_keysB m1 m3 k1
  have r0 : rightE m (tameDep m d) [] = 0 := tame_right m1 m3 d [] (by simp)
  have r1 : rightE m dep0 [tameKeys m k1] = 0 := by
    have h1 : ¬ ((m : Int) < 1 ∨ 16 < (m : Int)) := by omega
    have h2 : knownB m dep0 = true := by simp [knownB]
    rw [rightE, if_neg h1, h2]; simp [hA]
  have hin := inN_of sT hkn m1 m3
  have ka := keys_in hA m1
  rw [Int.toNat_natCast] at hin ka
  generalize tameDep m d = f at *
  generalize tameKeys m k1 = a at *
  generalize cutDep d = x at *
  generalize cutKeys k1 = y at *
  have hsl : ∀ s ∈ f.sets, s.length ≤ 1000000 := by
    simp only [knownB, Bool.and_eq_true, List.all_eq_true] at hkn
    intro s hs
    have := hkn.2 s hs
    simp only [setB, Bool.and_eq_true, decide_eq_true_eq] at this
    omega
  -- rows
  have v1 : run 8 [.int .i64 m, rowsAV l, .int .i64 10] [] = some (.ret (rowsAV (tameRows m 10 l)) (some 69), []) := c8 m 10 l [] (by omega) (by omega) (fun r hr => (hl r hr).2)
  have hrl := tameRowsH_len m 10 l
  have hrv := tameRows_val m 10 hi
  have hrm : rightRows m (tameRows m 10 l) := by
    intro r hr
    simp only [tameRows, List.mem_map] at hr
    obtain ⟨r', _, rfl⟩ := hr
    exact ⟨tameRowH_len m r', tameRowH_ok m r'⟩
  generalize tameRows m 10 l = R at *
  obtain ⟨v2, hxr, hxl⟩ := c9 m f R [] hin (by omega) hsl hrm (by omega)
  have hxv : ∀ r ∈ keptR f R, ∀ v ∈ r, valI v := kept_all (by simp [valI]) f R [] (by simp) hrv
  generalize keptR f R = X at *
  have v3 := c10 a (by omega) R [] (fitH_of hrm (by omega) ka) (by omega)
  have hO1 : (orderedR a R).length = R.length := orderedR_len a R
  have hOm := orderedR_mem a R
  generalize orderedR a R = O at *
  have v4 := c11 l [] hll
  have ls := len_take 30 l
  have hall : ∀ Y ∈ [R, X, O, l.take 30], rowsOk Y ∧ Y.length ≤ 100 ∧ ∀ r ∈ Y, ∀ v ∈ r, valI v := by
    intro Y hY
    simp only [List.mem_cons, List.not_mem_nil, or_false] at hY
    rcases hY with rfl | rfl | rfl | rfl
    · exact ⟨rightRows_ok hrm (by omega), by omega, hrv⟩
    · exact ⟨rightRows_ok hxr (by omega), by omega, hxv⟩
    · exact ⟨fun r hr => rightRows_ok hrm (by omega) r ((hOm r).1 hr), by omega, fun r hr => hrv r ((hOm r).1 hr)⟩
    · exact ⟨fun r hr => hl r (List.mem_of_mem_take hr), by omega, fun r hr => hi r (List.mem_of_mem_take hr)⟩
  generalize l.take 30 = T at *
  have fit : ∀ Y ∈ [R, X, O, T], areRowsB m Y = true → ∀ r ∈ Y, (r.length = m ∧ okR r) ∧ ∀ v ∈ r, goodV v := fun Y hY h r hr => by
    obtain ⟨o1, o2, o3⟩ := hall Y hY
    obtain ⟨_, h2⟩ := rows_of h o3
    exact ⟨⟨by have := (h2 r hr).1; omega, (o1 r hr).1⟩, (h2 r hr).2⟩
  have lp := loop3 n d f k1 a m [R, X, O, T] (by simp) (areRowsB m) (holdsP f) (sortedB a)
    (fun Y hY => by
      obtain ⟨o1, o2, o3⟩ := hall Y hY
      have := c12 m f Y [] sT o1 (by omega) o3
      rw [this]
      unfold holdsE
      rw [r0]
      cases areRowsB m Y <;> simp)
    (fun Y hY => by
      obtain ⟨o1, o2, o3⟩ := hall Y hY
      have := c13 m a Y [] (by omega) o1 (by omega)
      rw [this]
      unfold sortE
      rw [r1]
      cases areRowsB m Y <;> simp)
    (fun Y hY => by
      obtain ⟨o1, o2, o3⟩ := hall Y hY
      exact c14 m Y [] o1 (by omega))
    (fun Y hY h => by
      obtain ⟨o1, o2, o3⟩ := hall Y hY
      have hf := fit Y hY h
      rw [holds_same hin (fun r hr => ⟨(hf r hr).1.1, (hf r hr).2⟩)]
      exact c15 m f Y [] hin (fun r hr => (hf r hr).1) (by omega) hsl)
    (fun Y hY h => by
      obtain ⟨o1, o2, o3⟩ := hall Y hY
      have hf := fit Y hY h
      exact c16 a Y [] (fitH_of (fun r hr => (hf r hr).1) (by omega) ka) (by omega) (by omega))
  -- anything, without rows
  have g1 := c12 n x [] [] sC (by intro r hr; cases hr) (by simp) (by intro r hr; cases hr)
  have g2 := c13 n y [] [] (by omega) (by intro r hr; cases hr) (by simp)
  have g3 := c19 n x [] [] sC (by simp) (by simp)
  have g4 := c19 n dep0 [y] [] dep0_small (by simp) (by simp; omega)
  have e1 : (holdsE n x []).2 = rightE n x [] := by
    unfold holdsE
    split
    · rfl
    · rename_i h; simp [areRowsB]; simp at h; rw [h]
  have e2 : (sortE n y []).2 = rightE n dep0 [y] := by
    unfold sortE
    split
    · rfl
    · rename_i h; simp [areRowsB]; simp at h; rw [h]
  rw [e1] at g1
  rw [e2] at g2
  have c22' := c20
  generalize rightE n x [] = E1 at *
  generalize rightE n dep0 [y] = E2 at *
  generalize (holdsE n x []).1 = B1 at *
  generalize (sortE n y []).1 = B2 at *
  simp only [stL9, outL9, Int.natCast_zero, Int.ofNat_zero, List.map_cons, List.map_nil] at lp
  simp only [iav, Dep.av, intsAV, pairsAV, setsAV, keysAV, listsAV, rowsAV, tupB, List.map_cons, List.map_nil] at *
  simp (maxSteps := 1000000) [a3, hq, t1, t2, u1, u2, v1, v2, v3, v4, lp, g1, g2, g3, g4, c22']
theorem tyH_val {a : AV} (h : HasTy Tryz.prog 71 a) : ∃ v : V, a = v.av ∧ v.t.length ≤ maxLen ∧ isI64 v.n := by
  obtain ⟨cs, rfl, hl, hf⟩ := h.struct_inv Tryz.underlying71
  have hc : Tryz.prog.cellsOf 71 = 3 := by kernel_rfl
  rw [hc] at hl
  match cs, hl with
  | [x, y, z], _ =>
    have h1 := hf _ (List.mem_cons_self)
    have h2 := hf _ (List.mem_cons_of_mem _ (List.mem_cons_self))
    have h3 := hf _ (List.mem_cons_of_mem _ (List.mem_cons_of_mem _ (List.mem_cons_self)))
    rw [pick1 (by kernel_rfl)] at h1
    rw [pick1 (by kernel_rfl)] at h2
    rw [pick1 (by kernel_rfl)] at h3
    obtain ⟨n, e1, _⟩ := h1.int_inv Tryz.underlying65
    obtain ⟨m, e2, hm⟩ := h2.int_inv Tryz.underlying2
    obtain ⟨s, e3, hs⟩ := h3.str_inv Tryz.underlying9
    have e1' : x = .int .i64 n := e1
    have e2' : y = .int .i64 m := e2
    have e3' : z = .str s := e3
    subst e1' e2' e3'
    refine ⟨⟨n, m, s.data.toList⟩, ?_, ?_, wf_i64 hm⟩
    · simp only [V.av]
      rw [← bs_of]
    · show s.data.toList.length ≤ maxLen
      rw [Array.length_toList]
      exact hs
theorem tyH_row {a : AV} (h : HasTy Tryz.prog 69 a) : ∃ r : List V, a = rowAV r ∧ r.length ≤ maxLen ∧ ∀ v ∈ r, v.t.length ≤ maxLen ∧ isI64 v.n :=
  list_of Tryz.underlying69 (by kernel_rfl) (fun x hx => tyH_val hx) h
theorem tyH_rows {a : AV} (h : HasTy Tryz.prog 28 a) : ∃ l : List (List V), a = rowsAV l ∧ l.length ≤ maxLen ∧ ∀ r ∈ l, r.length ≤ maxLen ∧ ∀ v ∈ r, v.t.length ≤ maxLen ∧ isI64 v.n :=
  list_of Tryz.underlying28 (by kernel_rfl) (fun x hx => tyH_row hx) h
theorem law3 : LawTrue Tryz.prog 3 Tryz.f3.params.toList LaidV :=
  lawTrue_of fun W hW => ⟨_, run_law hW 3, fun args hl hty => by
    rw [Tryz.params3] at hl hty
    match args, hl with
    | [a, b, c, r], _ =>
      obtain ⟨n, rfl, _⟩ := ty_int (hty 0 _ a rfl rfl)
      obtain ⟨d, rfl, _⟩ := ty_dep (hty 1 _ b rfl rfl)
      obtain ⟨k1, rfl, _, _⟩ := ty_keys (hty 2 _ c rfl rfl)
      obtain ⟨l, rfl, hl0, hl⟩ := tyH_rows (hty 3 _ r rfl rfl)
      have em := maxLen_eq
      exact ⟨[], none, c3 n d k1 l (by omega) (fun r hr => ⟨fun v hv => by have := ((hl r hr).2 v hv).1; omega, by have := (hl r hr).1; omega⟩) (fun r hr v hv => ((hl r hr).2 v hv).2)⟩⟩
end Go.Av
