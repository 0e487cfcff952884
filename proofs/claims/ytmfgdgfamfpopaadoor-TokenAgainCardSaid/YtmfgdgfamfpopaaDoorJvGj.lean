/- Part of a proof: token.Join as what it computes; the whole table. -/
import Derived.Test.YtmfgdgfamfpopaaDoorJvGi
set_option maxRecDepth 100000
set_option linter.unusedSimpArgs false
set_option linter.unusedVariables false
namespace Go.Av
open Go Go.Proofs Go.RowKit

def tkIn : List AV → Option (List Tk)
  | [] => some []
  | .agg [.int .i64 k, .str t, .int .i64 a] :: r => (tkIn r).map fun l => (k, t, a) :: l
  | _ => none
def tkRow (x : Tk) : List Value := [.int .i64 x.1, .string x.2.1, .int .i64 x.2.2]
theorem tkIn_cells {g : Gh} {W : World} : ∀ {es : List AV} {xs : List Tk} {ms : List Value}, tkIn es = some xs → RE g W 3 es ms → ms = (xs.map tkRow).flatten ∧ xs.length = es.length
  | [], xs, ms, h, hE => by
    simp only [tkIn, Option.some.injEq] at h
    subst h
    simp only [RE] at hE
    simp [hE]
  | e :: es, xs, ms, h, hE => by
    unfold tkIn at h
    split at h
    · rename_i h'
      cases h'
    · rename_i k t a r h'
      simp only [List.cons.injEq] at h'
      obtain ⟨rfl, rfl⟩ := h'
      simp only [Option.map_eq_some_iff] at h
      obtain ⟨ys, hy, rfl⟩ := h
      simp only [RE] at hE
      obtain ⟨x, r, rfl, hx, ⟨_, hR⟩, hE⟩ := hE
      obtain ⟨h1, h2⟩ := tkIn_cells hy hE
      simp only [R, RL] at hR
      obtain ⟨x1, y1, f1, ⟨_, g1⟩, x2, y2, f2, ⟨_, g2⟩, x3, y3, f3, ⟨_, g3⟩, f4⟩ := hR
      simp only [List.cons.injEq, and_true] at g1 g2 g3
      subst f4 f3 f2 f1 g1 g2 g3
      simp [h1, h2, tkRow]
    · cases h
theorem rows_at : ∀ (xs : List Tk) (j : Nat) (x : Tk), xs[j]? = some x → (xs.map tkRow).flatten[j * 3]? = some (.int .i64 x.1) ∧ (xs.map tkRow).flatten[j * 3 + 1]? = some (.string x.2.1) ∧ (xs.map tkRow).flatten[j * 3 + 2]? = some (.int .i64 x.2.2)
  | [], j, x, h => by simp at h
  | y :: xs, 0, x, h => by
    simp only [List.getElem?_cons_zero, Option.some.injEq] at h
    subst h
    simp [tkRow]
  | y :: xs, j + 1, x, h => by
    simp only [List.getElem?_cons_succ] at h
    obtain ⟨h1, h2, h3⟩ := rows_at xs j x h
    have e : (j + 1) * 3 = j * 3 + 3 := by omega
    refine ⟨?_, ?_, ?_⟩
    · rw [e]; simpa [tkRow] using h1
    · rw [e]; simpa [tkRow] using h2
    · rw [e]; simpa [tkRow] using h3
def xTokJoin (args : List AV) (S : List Bx) : Option (AEnd × List Bx) :=
  match args with
  | [.slice 3 es] => match tkIn es with
    | some xs => if xs.length ≤ 1000000 ∧ (Lib.join (xs.map (fun x => x.2.1.data.toList)) [32]).length ≤ 140737488355328 then some (.ret (.str ⟨(Lib.join (xs.map (fun x => x.2.1.data.toList)) [32]).toArray⟩) none, S) else none
    | none => none
  | _ => none
theorem soundTokJoin (W0 : World) : SoundFun Tryd.prog W0 5 xTokJoin := by
  intro args S e S' h
  refine ⟨callable Tryd.func5 (by kernel_rfl) (by kernel_rfl), fun g W vs hB hT hS hcalm => ?_⟩
  unfold xTokJoin at h
  split at h
  · rename_i es
    split at h
    · rename_i xs hxs
      split at h
      · rename_i hb
        simp only [Option.some.injEq, Prod.mk.injEq] at h
        obtain ⟨rfl, rfl⟩ := h
        obtain ⟨l⟩ := vs
        simp only [RT] at hT
        obtain ⟨v1, r1, hl, hv1, rfl⟩ := hT
        subst hl
        obtain ⟨p, cap, rfl, hcap, hes⟩ := RV_slice hv1
        have hlen : xs.length = es.length := by
          cases es with
          | nil =>
            simp only [tkIn, Option.some.injEq] at hxs
            subst hxs; rfl
          | cons e0 es0 =>
            rcases hes with hes | ⟨b, o, ms, rfl, hm, hTb, hE⟩
            · cases hes
            · exact (tkIn_cells hxs hE).2
        have hin : TksIn W p W.heap.size xs := by
          rcases hes with rfl | ⟨b, o, ms, rfl, hm, hTb, hE⟩
          · exact .inl (List.length_eq_zero_iff.1 hlen)
          · obtain ⟨rfl, _⟩ := tkIn_cells hxs hE
            rcases xs with _ | ⟨x0, xs0⟩
            · exact .inl rfl
            · refine .inr ⟨b, o, rfl, ?_, fun j x hj => ?_⟩
              · have := hm 0 (.int .i64 x0.1) (by simp [tkRow])
                unfold World.cell? at this
                simp only at this
                rcases Nat.lt_or_ge b W.heap.size with h1 | h1
                · exact h1
                · rw [Array.getElem?_eq_none h1] at this; cases this
              · obtain ⟨h1, h2, h3⟩ := rows_at _ j x hj
                exact ⟨hm _ _ h1, hm _ _ h2, hm _ _ h3⟩
        rw [← hlen]
        refine (Join_in p cap xs W (by omega) (by omega) hin hb.2).mono fun e w' hh => ?_
        obtain ⟨rfl, hbel⟩ := hh
        exact post_str hS hcalm hbel _
      · cases h
    · cases h
  · cases h

/-! ### the whole table -/
def tabX1 : List (Nat × Ext') := (8, xTokens) :: (5, xTokJoin) :: tabX
theorem run_sound1 {W0 : World} (hL : LaidV W0) (n : Nat) : RecSound Tryd.prog W0 (crun (tabOf tabA tabX1) n) := tabOf_sound mixed tabA_ok (by
  intro p hp
  simp only [tabX1, tabX, List.mem_cons, List.mem_nil_iff, or_false] at hp
  rcases hp with rfl | rfl | rfl | rfl | rfl | rfl | rfl | rfl <;> first | exact soundTokens hL | exact soundTokJoin W0 | exact sound10 W0 | exact sound28 hL | exact sound31 hL | exact sound32 hL | exact sound36 hL | exact sound40 hL) n
end Go.Av
