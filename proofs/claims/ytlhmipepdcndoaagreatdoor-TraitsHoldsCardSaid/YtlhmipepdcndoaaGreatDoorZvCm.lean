/- Part of a proof: Rows in order: a sort by merging. -/
import Derived.Test.YtlhmipepdcndoaaGreatDoorZvCl
set_option maxRecDepth 100000
set_option linter.unusedSimpArgs false
set_option linter.unusedVariables false
namespace Go.Av
open Go Go.Proofs

def mergeR (ks : List K) : List (List V) → List (List V) → List (List V)
  | [], bs => bs
  | a :: l, [] => a :: l
  | a :: l, b :: r => if byK ks a b ≤ 0 then a :: mergeR ks l (b :: r) else b :: mergeR ks (a :: l) r
termination_by a b => a.length + b.length
def orderedR (ks : List K) (l : List (List V)) : List (List V) :=
  if h : l.length < 2 then l else mergeR ks (orderedR ks (l.take (l.length / 2))) (orderedR ks (l.drop (l.length / 2)))
termination_by l.length
decreasing_by
  · simp; omega
  · simp; omega
/-- Rows that can be compared by keys. -/
def fitR (ks : List K) (r : List V) : Prop := (∀ k ∈ ks, inR k r) ∧ okR r ∧ r.length ≤ 1000000
def st10 (ks : List K) (a b : List (List V)) (S : List Bx) (acc : List (List V)) (i k : Nat) : St :=
  { σ := [(1, .v (.slice 2 (ks.map K.av))), (5, .v (.slice 1 (a.map rowAV))), (6, .v (.slice 1 (b.map rowAV))), (7, .v (.slice 1 (acc.map rowAV))), (8, .v (.int .i64 i)), (9, .v (.int .i64 k))], own := [(5, 69), (6, 69), (7, 69)], loc := [], S := S }
def out10 (acc : List (List V)) (S : List Bx) : AEx × St := (.exit 0, { σ := [(7, .v (.slice 1 (acc.map rowAV)))], own := [(7, 69)], loc := [], S := S })
theorem merge10 (ks : List K) (a b : List (List V)) (S : List Bx) (ha : ∀ r ∈ a, fitR ks r) (hb : ∀ r ∈ b, fitR ks r) (hla : a.length ≤ 1000000) (hlb : b.length ≤ 1000000) (hks : ks.length ≤ 1000000) :
    ∀ (m n pa pb acc : List (List V)), a = pa ++ m → b = pb ++ n → acc.length ≤ pa.length + pb.length →
    aloopW (acode run a10_l0) (st10 ks a b S acc pa.length pb.length) = some (out10 (acc ++ mergeR ks m n) S) := by
  intro m n
  induction hsz : m.length + n.length using Nat.strongRecOn generalizing m n with
  | ind sz ih =>
    intro pa pb acc ea eb hacc
    have hpa : pa.length + m.length = a.length := by rw [ea]; simp
    have hpb : pb.length + n.length = b.length := by rw [eb]; simp
    have hbd : (acc.length + 1) * 24 ≤ 140737488355328 := by omega
    have takeA : ∀ x m', m = x :: m' → (n = [] ∨ ∃ y n', n = y :: n' ∧ byK ks x y ≤ 0) → acode run a10_l0 (st10 ks a b S acc pa.length pb.length) = some (.normal, st10 ks a b S (acc ++ [x]) (pa.length + 1) pb.length) := by
      intro x m' em hn
      have hx : a[pa.length]? = some x := by rw [ea, em]; simp
      have h1 := ilt hx
      rw [acode_k]
      rcases hn with rfl | ⟨y, n', en, hle⟩
      · have hk : b.length = pb.length := by simpa using hpb.symm
        simp [a10_l0, st10, hx, h1, hk, hbd, rowAV, w64s (n := pa.length) (by omega)]
      · have hy : b[pb.length]? = some y := by rw [eb, en]; simp
        have h2 := ilt hy
        have h3 : ¬ ((pb.length : Int) = (b.length : Int)) := by omega
        have h3' : ¬ (pb.length = b.length) := by omega
        obtain ⟨f1, f2, f3⟩ := ha x (List.mem_of_getElem? hx)
        obtain ⟨g1, g2, g3⟩ := hb y (List.mem_of_getElem? hy)
        have q := c29 ks x y S (fun k hk => ⟨f1 k hk, g1 k hk⟩) f2 (by omega) (by omega)
        simp only [keysAV, rowAV] at q
        simp [a10_l0, st10, hx, hy, h1, h2, h3, h3', hbd, rowAV, q, hle, w64s (n := pa.length) (by omega)]
    have takeB : ∀ y n', n = y :: n' → (m = [] ∨ ∃ x m', m = x :: m' ∧ ¬ byK ks x y ≤ 0) → acode run a10_l0 (st10 ks a b S acc pa.length pb.length) = some (.normal, st10 ks a b S (acc ++ [y]) pa.length (pb.length + 1)) := by
      intro y n' en hm
      have hy : b[pb.length]? = some y := by rw [eb, en]; simp
      have h2 := ilt hy
      have h3 : ¬ ((pb.length : Int) = (b.length : Int)) := by omega
      have h3' : ¬ (pb.length = b.length) := by omega
      rw [acode_k]
      rcases hm with rfl | ⟨x, m', em, hle⟩
      · have h1 : ¬ ((pa.length : Int) < (a.length : Int)) := by simp at hpa; omega
        simp [a10_l0, st10, hy, h1, h2, h3, h3', hbd, rowAV, w64s (n := pb.length) (by omega)]
      · have hx : a[pa.length]? = some x := by rw [ea, em]; simp
        have h1 := ilt hx
        obtain ⟨f1, f2, f3⟩ := ha x (List.mem_of_getElem? hx)
        obtain ⟨g1, g2, g3⟩ := hb y (List.mem_of_getElem? hy)
        have q := c29 ks x y S (fun k hk => ⟨f1 k hk, g1 k hk⟩) f2 (by omega) (by omega)
        simp only [keysAV, rowAV] at q
        simp [a10_l0, st10, hx, hy, h1, h2, h3, h3', hbd, rowAV, q, hle, w64s (n := pb.length) (by omega)]
    match m, n, ih, takeA, takeB, hsz, ea, eb, hpa, hpb with
    | [], [], ih, takeA, takeB, hsz, ea, eb, hpa, hpb =>
      simp only [mergeR, List.append_nil]
      refine aloopW_stop ?_ (by simp [out10])
      rw [acode_k]
      have h1 : ¬ ((pa.length : Int) < (a.length : Int)) := by simp at hpa; omega
      have h2 : ¬ ((pb.length : Int) < (b.length : Int)) := by simp at hpb; omega
      simp [a10_l0, st10, h1, h2, out10]
    | [], y :: n', ih, takeA, takeB, hsz, ea, eb, hpa, hpb =>
      rw [aloopW_step (takeB y n' rfl (.inl rfl))]
      have := ih n'.length (by simp at hsz; omega) [] n' (by simp) pa (pb ++ [y]) (acc ++ [y]) ea (by rw [eb]; simp) (by simp; omega)
      simp only [List.length_append, List.length_cons, List.length_nil, Nat.zero_add] at this
      rw [this]
      simp [mergeR]
    | x :: m', [], ih, takeA, takeB, hsz, ea, eb, hpa, hpb =>
      rw [aloopW_step (takeA x m' rfl (.inl rfl))]
      have := ih m'.length (by simp at hsz; omega) m' [] (by simp) (pa ++ [x]) pb (acc ++ [x]) (by rw [ea]; simp) eb (by simp; omega)
      simp only [List.length_append, List.length_cons, List.length_nil, Nat.zero_add] at this
      rw [this]
      cases m' <;> simp [mergeR]
    | x :: m', y :: n', ih, takeA, takeB, hsz, ea, eb, hpa, hpb =>
      by_cases hle : byK ks x y ≤ 0
      · rw [aloopW_step (takeA x m' rfl (.inr ⟨y, n', rfl, hle⟩))]
        have := ih (m'.length + (n'.length + 1)) (by simp at hsz; omega) m' (y :: n') (by simp) (pa ++ [x]) pb (acc ++ [x]) (by rw [ea]; simp) eb (by simp; omega)
        simp only [List.length_append, List.length_cons, List.length_nil, Nat.zero_add] at this
        rw [this, mergeR, if_pos hle]
        simp
      · rw [aloopW_step (takeB y n' rfl (.inr ⟨x, m', rfl, hle⟩))]
        have := ih (m'.length + 1 + n'.length) (by simp at hsz; omega) (x :: m') n' (by simp) pa (pb ++ [y]) (acc ++ [y]) ea (by rw [eb]; simp) (by simp; omega)
        simp only [List.length_append, List.length_cons, List.length_nil, Nat.zero_add] at this
        rw [this, mergeR, if_neg hle]
        simp
theorem mergeR_mem (ks : List K) : ∀ (a b : List (List V)) (r : List V), r ∈ mergeR ks a b ↔ r ∈ a ∨ r ∈ b := by
  intro a b
  induction hsz : a.length + b.length using Nat.strongRecOn generalizing a b with
  | ind sz ih =>
    intro r
    match a, b with
    | [], b => simp [mergeR]
    | x :: a, [] => simp [mergeR]
    | x :: a, y :: b =>
      rw [mergeR]
      split
      · rw [List.mem_cons, ih (a.length + (b.length + 1)) (by simp at hsz; omega) a (y :: b) (by simp)]
        simp [or_assoc]
      · rw [List.mem_cons, ih (a.length + 1 + b.length) (by simp at hsz; omega) (x :: a) b (by simp)]
        simp
        constructor
        · rintro (h | h | h) <;> simp [h]
        · rintro ((h | h) | h | h) <;> simp [h]
theorem mergeR_len (ks : List K) : ∀ (a b : List (List V)), (mergeR ks a b).length = a.length + b.length := by
  intro a b
  induction hsz : a.length + b.length using Nat.strongRecOn generalizing a b with
  | ind sz ih =>
    match a, b with
    | [], b => simpa [mergeR] using hsz
    | x :: a, [] => simpa [mergeR] using hsz
    | x :: a, y :: b =>
      rw [mergeR]
      split
      · rw [List.length_cons, ih (a.length + (b.length + 1)) (by simp at hsz; omega) a (y :: b) (by simp)]
        simp at hsz; omega
      · rw [List.length_cons, ih (a.length + 1 + b.length) (by simp at hsz; omega) (x :: a) b (by simp)]
        simp at hsz; omega
theorem orderedR_len (ks : List K) : ∀ (l : List (List V)), (orderedR ks l).length = l.length := by
  intro l
  induction hsz : l.length using Nat.strongRecOn generalizing l with
  | ind sz ih =>
    rw [orderedR]
    split
    · exact hsz
    · rename_i h
      rw [mergeR_len, ih (l.take (l.length / 2)).length (by simp; omega) _ rfl, ih (l.drop (l.length / 2)).length (by simp; omega) _ rfl]
      simp; omega
theorem orderedR_mem (ks : List K) : ∀ (l : List (List V)) (r : List V), r ∈ orderedR ks l ↔ r ∈ l := by
  intro l
  induction hsz : l.length using Nat.strongRecOn generalizing l with
  | ind sz ih =>
    intro r
    rw [orderedR]
    split
    · rfl
    · rename_i h
      rw [mergeR_mem, ih (l.take (l.length / 2)).length (by simp; omega) _ rfl, ih (l.drop (l.length / 2)).length (by simp; omega) _ rfl]
      rw [← List.mem_append, List.take_append_drop]
theorem c10 (ks : List K) (hks : ks.length ≤ 1000000) : ∀ (l : List (List V)) (S : List Bx), (∀ r ∈ l, fitR ks r) → l.length ≤ 1000000 → run 10 [rowsAV l, keysAV ks] S = some (.ret (rowsAV (orderedR ks l)) (some 69), S) := by
  intro l
  induction hsz : l.length using Nat.strongRecOn generalizing l with
  | ind sz ih =>
    intro S hf hl
    refine eqn rfl ?_
    by_cases h2 : l.length < 2
    · have h2' : (l.length : Int) < 2 := by omega
      have q := c28 l S (by omega) (fun r hr => (hf r hr).2.2)
      simp only [rowsAV] at q
      have e : orderedR ks l = l := by rw [orderedR, dif_pos h2]
      rw [e]
      simp [a10, rowsAV, keysAV, h2', q]
    · have h2' : ¬ (l.length : Int) < 2 := by omega
      have hh : (l.length : Int).tdiv 2 = ((l.length / 2 : Nat) : Int) := by
        rw [Int.tdiv_eq_ediv_of_nonneg (by omega)]; rfl
      have hw : IntKind.wrap .i64 ((l.length / 2 : Nat) : Int) = ((l.length / 2 : Nat) : Int) := wr64 (by omega) (by omega)
      have qa := ih (l.take (l.length / 2)).length (by simp; omega) (l.take (l.length / 2)) rfl S (fun r hr => hf r (List.mem_of_mem_take hr)) (by simp; omega)
      have qb := ih (l.drop (l.length / 2)).length (by simp; omega) (l.drop (l.length / 2)) rfl S (fun r hr => hf r (List.mem_of_mem_drop hr)) (by simp; omega)
      have hm := merge10 ks (orderedR ks (l.take (l.length / 2))) (orderedR ks (l.drop (l.length / 2))) S
        (fun r hr => hf r (List.mem_of_mem_take ((orderedR_mem ks _ r).1 hr))) (fun r hr => hf r (List.mem_of_mem_drop ((orderedR_mem ks _ r).1 hr)))
        (by rw [orderedR_len]; simp; omega) (by rw [orderedR_len]; simp; omega) hks (orderedR ks (l.take (l.length / 2))) (orderedR ks (l.drop (l.length / 2))) [] [] [] rfl rfl (by simp)
      have e : orderedR ks l = mergeR ks (orderedR ks (l.take (l.length / 2))) (orderedR ks (l.drop (l.length / 2))) := by rw [orderedR, dif_neg h2]
      rw [e]
      have hle : l.length / 2 ≤ l.length := by omega
      simp only [rowsAV, keysAV, List.map_take, List.map_drop] at qa qb
      generalize orderedR ks (l.take (l.length / 2)) = A at *
      generalize orderedR ks (l.drop (l.length / 2)) = B at *
      simp only [st10, List.length_nil, Int.natCast_zero, Int.ofNat_zero, List.map_nil, List.nil_append, out10] at hm
      have hlen : (l.map rowAV).length = l.length := by simp
      have hle' : ((l.length / 2 : Nat) : Int) ≤ (l.length : Int) := by omega
      generalize hH : l.length / 2 = H at *
      have htl : (l.map rowAV).take l.length = l.map rowAV := List.take_of_length_le (by simp)
      simp [a10, rowsAV, keysAV, h2', hh, hw, qa, qb, hm, hle, hle', htl]
end Go.Av
