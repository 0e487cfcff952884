/- Part of a proof: traits.Written, String, Read, Parse. -/
import Derived.Test.YtlhmipepdcndoaaGreatDoorTvHb
import Derived.Test.YtlhmipepdcndoaaGreatDoorTvCb
set_option maxRecDepth 100000
set_option linter.unusedSimpArgs false
set_option linter.unusedVariables false
namespace Go.Av
open Go Go.Proofs

theorem strsOf_bs : ∀ (l : List (List UInt8)), strsOf (l.map fun x => AV.str (bs x)) = some (l.map bs)
  | [] => rfl
  | x :: l => by simp [strsOf, strsOf_bs l]
theorem joinB_bs (l : List (List UInt8)) : joinB (l.map bs) ⟨#[32]⟩ = bs (joinSp l) := by
  cases l with
  | nil => rfl
  | cons x r =>
    simp only [List.map_cons, joinB, joinSp, Lib.joinTail, bs_data, bs]
    congr 3
    simp [bs_data, Function.comp_def, bs]
theorem c86 (l : List (List UInt8)) (S : List Bx) (h1 : l.length ≤ 140737488355328) (h2 : (joinSp l).length ≤ 140737488355328) :
    run 86 [.slice 1 (l.map fun x => .str (bs x)), .str ⟨#[32]⟩] S = some (.ret (.str (bs (joinSp l))) none, S) := by
  refine recL_ext (hh := xJoin) rfl ?_
  simp only [xJoin, strsOf_bs, joinB_bs, bs_size, List.length_map]
  rw [if_pos ⟨h1, h2⟩]
theorem c85 (n : Int) (h0 : -9223372036854775808 ≤ n) (h1 : n ≤ 9223372036854775807) (S : List Bx) : run 85 [.int .i64 n] S = some (.ret (.str (bs (itoaL n))) none, S) := by
  refine recL_ext (hh := xItoa) rfl ?_
  simp [xItoa, h0, h1, itoaB_L]
def strsAV (l : List (List UInt8)) : AV := .slice 1 (l.map fun x => .str (bs x))
def st55 (ks : List K) (S : List Bx) (acc : List (List UInt8)) (i : Nat) : St :=
  { σ := [(3, .v (strsAV acc)), (7, .v (keysAV ks)), (8, .v (.int .i64 ks.length)), (9, .v (.int .i64 i))], own := [(3, 9)], loc := [], S := S }
theorem c55 (ks : List K) (S : List Bx) (hk : keysFit ks) (hl : ks.length ≤ 1000) : run 55 [keysAV ks] S = some (.ret (.str (bs (wrKs ks))) none, S) := by
  refine eqn rfl ?_
  have h := loop_fold (f := acode run a55_l0) ks (fun acc i => st55 ks S acc i) (fun acc k => acc ++ [wrK k]) (fun acc => (.exit 0, { σ := [(3, .v (strsAV acc))], own := [(3, 9)], loc := [], S := S })) (fun i acc => acc.length = i) (b0 := []) rfl
    (fun i acc k ha hx => by
      have h1 := ilt hx
      have hlt := (List.getElem?_eq_some_iff.1 hx).1
      have hkk := hk k (List.mem_of_getElem? hx)
      refine ⟨?_, by simp [ha]⟩
      have q := c85 k.c (by omega) hkk.2 S
      have hI := itoaL_len (n := k.c) (by omega) hkk.2
      have e45 : (⟨#[45]⟩ : ByteArray) = bs [45] := rfl
      have w := w64s (n := i) (by omega)
      obtain ⟨c, d⟩ := k
      unfold wrK
      simp only at *
      generalize itoaL c = I at *
      have s1 : I.length + 1 ≤ 9223372036854775807 := by omega
      have s2 : (acc.length + 1) * 16 ≤ 140737488355328 := by omega
      rw [acode_k]
      cases d <;> simp [-getElem?_pos, List.getElem?_cons_zero, List.getElem?_cons_succ, a55_l0, st55, strsAV, keysAV, hx, h1, K.av, q, e45, bs_append, bs_size, s1, s2, w])
    (fun acc _ => by
      rw [acode_k]
      simp [a55_l0, st55])
    (fun _ => by simp)
  have e : ∀ (l : List K) (acc : List (List UInt8)), l.foldl (fun acc k => acc ++ [wrK k]) acc = acc ++ l.map wrK := by
    intro l
    induction l with
    | nil => intro acc; simp
    | cons k l ih => intro acc; rw [List.foldl_cons, ih]; simp
  rw [e, List.nil_append] at h
  have hJ := joinSp_len (ks := ks) hk
  have q := c86 (ks.map wrK) S (by simp; omega) (by omega)
  have e91 : (⟨#[91]⟩ : ByteArray) = bs [91] := rfl
  have e93 : (⟨#[93]⟩ : ByteArray) = bs [93] := rfl
  unfold wrKs
  simp only [st55, Int.natCast_zero, Int.ofNat_zero, keysAV, strsAV, List.map_nil] at h
  generalize hL : (ks.map wrK) = L at *
  generalize joinSp L = J at *
  have s1 : 1 + J.length ≤ 9223372036854775807 := by omega
  have s2 : J.length + 1 + 1 ≤ 9223372036854775807 := by omega
  simp [a55, keysAV, e91, e93, h, q, bs_append, bs_size, s1, s2] <;> omega
theorem c84 (k : K) (S : List Bx) : run 84 [k.av] S = some (.ret (.bool (decide (0 ≤ k.c))) none, S) := by
  refine eqn rfl ?_
  simp [a84, K.av]
def isListB (ks : List K) : Bool := decide (ks.length ≤ 32) && ks.all (fun k => decide (0 ≤ k.c))
theorem c54 (ks : List K) (S : List Bx) (hl : ks.length ≤ 9223372036854775807) : run 54 [keysAV ks] S = some (.ret (.bool (isListB ks)) none, S) := by
  refine eqn rfl ?_
  have q := c83 ks 84 [] [] (fun k => decide (0 ≤ k.c)) S hl (fun k _ => by simpa using c84 k S)
  have hlen : ((ks.length : Int) ≤ 32) ↔ ks.length ≤ 32 := by omega
  unfold isListB
  simp only [keysAV, clo] at q
  generalize ks.all (fun k => decide (0 ≤ k.c)) = B at *
  by_cases h : ks.length ≤ 32
  · cases B <;> simp [a54, keysAV, hlen, h, q]
  · simp [a54, keysAV, hlen, h]
def strE (ks : List K) : List UInt8 × Int := if isListB ks then (wrKs ks, 0) else ([], 180)
theorem c21 (ks : List K) (S : List Bx) (hl : ks.length ≤ 1000) (hk : ∀ k ∈ ks, k.c ≤ 9223372036854775807) : run 21 [keysAV ks] S = some (.ret (.tuple [.str (bs (strE ks).1), .int .i64 (strE ks).2]) none, S) := by
  refine eqn rfl ?_
  have q1 := c54 ks S (by omega)
  unfold strE
  cases hb : isListB ks with
  | false =>
    rw [hb] at q1
    simp only [keysAV] at q1
    have e0 : bs [] = (⟨#[]⟩ : ByteArray) := rfl
    simp [a21, keysAV, q1, e0]
  | true =>
    rw [hb] at q1
    have hfit : keysFit ks := fun k hk' => by
      unfold isListB at hb
      simp only [Bool.and_eq_true, List.all_eq_true, decide_eq_true_eq] at hb
      exact ⟨hb.2 k hk', hk k hk'⟩
    have q2 := c55 ks S hfit hl
    simp only [keysAV] at q1 q2
    simp [a21, keysAV, q1, q2]

/-! ### a word -/
theorem c145 (w : List UInt8) (S : List Bx) (hw : w.length ≤ 1000000) : run 145 [.str (bs w), .str ⟨#[45]⟩] S = some (.ret (.bool (decide (w.getLast? = some 45))) none, S) := by
  refine eqn rfl ?_
  have e45 : (⟨#[45]⟩ : ByteArray) = bs [45] := rfl
  rcases List.eq_nil_or_concat w with rfl | ⟨l, c, rfl⟩
  · simp [a145, e45, bs_size]
  · rw [List.concat_eq_append] at *
    have hw' : l.length ≤ 1000000 := by simp at hw; omega
    have w1 : IntKind.wrap .i64 (l.length : Int) = (l.length : Int) := wr64 (by omega) (by omega)
    have h1 : (1 : Int) ≤ (l.length : Int) + 1 := by omega
    have h2 : (l.length : Int) ≤ (l.length : Int) + 1 := by omega
    have h3 : ∀ c : UInt8, (l ++ [c]).take (l.length + 1) = l ++ [c] := fun c => List.take_of_length_le (by simp)
    by_cases hc : c = 45
    · subst hc
      simp [a145, e45, bs_size, bs_extract, bs_toList, w1, h1, h2, h3]
    · simp [a145, e45, bs_size, bs_extract, bs_toList, w1, h1, h2, h3, hc]
def cutD (w : List UInt8) : List UInt8 × Bool := if w.getLast? = some 45 then (w.dropLast, true) else (w, false)
theorem c128 (w : List UInt8) (S : List Bx) (hw : w.length ≤ 1000000) : run 128 [.str (bs w), .str ⟨#[45]⟩] S = some (.ret (.tuple [.str (bs (cutD w).1), .bool (cutD w).2]) none, S) := by
  refine eqn rfl ?_
  have q := c145 w S hw
  have e45 : (⟨#[45]⟩ : ByteArray) = bs [45] := rfl
  unfold cutD
  by_cases h : w.getLast? = some 45
  · rw [decide_eq_true h] at q
    rw [if_pos h]
    rcases List.eq_nil_or_concat w with rfl | ⟨l, c, rfl⟩
    · simp at h
    · rw [List.concat_eq_append] at *
      rw [e45] at q
      have hw' : l.length ≤ 1000000 := by simp at hw; omega
      have w1 : IntKind.wrap .i64 (l.length : Int) = (l.length : Int) := wr64 (by omega) (by omega)
      have h2 : (l.length : Int) ≤ (l.length : Int) + 1 := by omega
      simp [a128, e45, q, bs_size, bs_extract, w1, h2]
  · rw [decide_eq_false h] at q
    rw [if_neg h]
    simp [a128, q]
theorem c88 (w : List UInt8) (S : List Bx) (hw : w.length ≤ 1000000) : run 88 [.str (bs w), .str ⟨#[45]⟩] S = some (.ret (.tuple [.str (bs (cutD w).1), .bool (cutD w).2]) none, S) := by
  refine eqn rfl ?_
  have q := c128 w S hw
  simp [a88, q]
theorem c89 (w : List UInt8) (S : List Bx) (hw : w.length ≤ 1000000) : run 89 [.str (bs w)] S = some (.ret (atoiA 171 (bs w)) none, S) := by
  refine recL_ext (hh := xAtoi 171) rfl ?_
  simp only [xAtoi, bs_size]
  rw [if_pos (by omega)]
theorem c87 (l : List UInt8) (S : List Bx) (hw : l.length ≤ 1000000) : run 87 [.str (bs l)] S = some (.ret (strsAV (fieldsF l)) none, S) := by
  refine recL_ext (hh := xFields) rfl ?_
  simp only [xFields, bs_size, bs_data]
  rw [if_pos (by omega)]
  rfl
theorem cutD_len (w : List UInt8) : (cutD w).1.length ≤ w.length := by
  unfold cutD
  split
  · simp
  · exact Nat.le_refl _
def readW (w : List UInt8) : Option K :=
  match Lib.atoiAll (cutD w).1 with
  | .ok n => if n < 0 ∨ 2147483647 < n then none else some ⟨n, (cutD w).2⟩
  | _ => none
def readGo : List K → List (List UInt8) → Option (List K)
  | out, [] => some out
  | out, w :: r => match readW w with
    | some k => readGo (out ++ [k]) r
    | none => none
def st57 (s : List UInt8) (ws : List (List UInt8)) (S : List Bx) (out : List K) (i : Nat) : St :=
  { σ := [(0, .v (.str (bs s))), (4, .v (keysAV out)), (32, .v (strsAV ws)), (33, .v (.int .i64 ws.length)), (34, .v (.int .i64 i))], own := [(4, 52)], loc := [], S := S }
def bad57 (S : List Bx) : AEx × St := (.ret, { σ := [(2, .v (.slice 2 [])), (3, .v (.bool false))], own := [(2, 52)], loc := [], S := S })
def good57 (s : List UInt8) (S : List Bx) (out : List K) : AEx × St := (.exit 0, { σ := [(0, .v (.str (bs s))), (4, .v (keysAV out))], own := [(4, 52)], loc := [], S := S })
theorem loop57 (s : List UInt8) (ws : List (List UInt8)) (S : List Bx) (hw : ∀ w ∈ ws, w.length ≤ 1000000) (hl : ws.length ≤ 1000000) :
    aloopW (acode run a57_l0) (st57 s ws S [] 0) = some (match readGo [] ws with | some out => good57 s S out | none => bad57 S) := by
  have h := loop_walk (f := acode run a57_l0) ws (fun out i => st57 s ws S out i) (fun out w => match readW w with | some k => .inl (out ++ [k]) | none => .inr (bad57 S)) (fun out => good57 s S out)
    (fun i out => out.length = i) (b0 := []) rfl
    (fun i out w ho hx => by
      have h1 := ilt hx
      have hlt := (List.getElem?_eq_some_iff.1 hx).1
      have hwl := hw w (List.mem_of_getElem? hx)
      have q1 := c88 w S hwl
      have q2 := c89 (cutD w).1 S (by have := cutD_len w; omega)
      have s2 : (out.length + 1) * 16 ≤ 140737488355328 := by omega
      have w' := w64s (n := i) (by omega)
      unfold atoiA at q2
      rw [bs_data] at q2
      have hrw : readW w = match Lib.atoiAll (cutD w).1 with
        | .ok n => if n < 0 ∨ 2147483647 < n then none else some ⟨n, (cutD w).2⟩
        | _ => none := rfl
      rw [hrw]
      generalize hcd : cutD w = cd at *
      obtain ⟨dg, d⟩ := cd
      simp only at *
      rcases hr : Lib.atoiAll dg with n | _ | _
      · rw [hr] at q2
        simp only at q2 ⊢
        by_cases h0 : n < 0
        · right
          refine ⟨bad57 S, by simp only [h0, true_or, if_true], ?_, by simp [bad57]⟩
          rw [acode_k]
          simp [-getElem?_pos, List.getElem?_cons_zero, List.getElem?_cons_succ, a57_l0, st57, bad57, strsAV, keysAV, hx, h1, q1, q2, h0]
        · by_cases hb : 2147483647 < n
          · right
            refine ⟨bad57 S, by simp only [hb, or_true, if_true], ?_, by simp [bad57]⟩
            rw [acode_k]
            simp [-getElem?_pos, List.getElem?_cons_zero, List.getElem?_cons_succ, a57_l0, st57, bad57, strsAV, keysAV, hx, h1, q1, q2, h0, hb]
          · left
            refine ⟨out ++ [⟨n, d⟩], by simp only [h0, hb, or_self, if_false], ?_, by simp [ho]⟩
            rw [acode_k]
            simp [-getElem?_pos, List.getElem?_cons_zero, List.getElem?_cons_succ, a57_l0, st57, strsAV, keysAV, K.av, hx, h1, q1, q2, h0, hb, s2, w']
      · rw [hr] at q2
        simp only at q2 ⊢
        right
        refine ⟨_, rfl, ?_, by simp [bad57]⟩
        rw [acode_k]
        simp [-getElem?_pos, List.getElem?_cons_zero, List.getElem?_cons_succ, a57_l0, st57, bad57, strsAV, keysAV, hx, h1, q1, q2]
      · rw [hr] at q2
        simp only at q2 ⊢
        right
        refine ⟨_, rfl, ?_, by simp [bad57]⟩
        rw [acode_k]
        simp [-getElem?_pos, List.getElem?_cons_zero, List.getElem?_cons_succ, a57_l0, st57, bad57, strsAV, keysAV, hx, h1, q1, q2])
    (fun out _ => ⟨by
      rw [acode_k]
      simp [a57_l0, st57, good57], by simp [good57]⟩)
  have e : ∀ (l : List (List UInt8)) (out : List K), walkL (fun out w => match readW w with | some k => .inl (out ++ [k]) | none => .inr (bad57 S)) (fun out => good57 s S out) l out = match readGo out l with | some out => good57 s S out | none => bad57 S := by
    intro l
    induction l with
    | nil => intro out; rfl
    | cons w l ih =>
      intro out
      simp only [walkL, readGo]
      cases readW w with
      | none => rfl
      | some k => exact ih _
  rw [e] at h
  exact h
end Go.Av
