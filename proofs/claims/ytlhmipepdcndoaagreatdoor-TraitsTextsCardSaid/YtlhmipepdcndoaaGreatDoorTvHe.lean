/- Part of a proof: The definition's Number and Parse. -/
import Derived.Test.YtlhmipepdcndoaaGreatDoorTvHd
set_option maxRecDepth 100000
set_option linter.unusedSimpArgs false
set_option linter.unusedVariables false
namespace Go.Av
open Go Go.Proofs

def wrapI (n : Int) : Int := IntKind.wrap .i64 n
theorem wrapI_range (n : Int) : -9223372036854775808 ≤ wrapI n ∧ wrapI n ≤ 9223372036854775807 := by
  unfold wrapI
  constructor <;> (simp [IntKind.wrap, IntKind.bits, IntKind.signed]; omega)
def numStep (n : Int) (c : UInt8) : Int := if 48 ≤ c.toNat ∧ c.toNat ≤ 57 then wrapI (wrapI (n * 10) - ((c.toNat : Int) - 48)) else n
def numVal (s : List UInt8) : Int := s.foldl numStep 0
theorem numStep_range {n : Int} (h : -9223372036854775808 ≤ n ∧ n ≤ 9223372036854775807) (c : UInt8) : -9223372036854775808 ≤ numStep n c ∧ numStep n c ≤ 9223372036854775807 := by
  unfold numStep
  split
  · exact wrapI_range _
  · exact h
theorem numVal_range : ∀ (s : List UInt8) (n : Int), (-9223372036854775808 ≤ n ∧ n ≤ 9223372036854775807) → -9223372036854775808 ≤ s.foldl numStep n ∧ s.foldl numStep n ≤ 9223372036854775807
  | [], n, h => h
  | c :: s, n, h => numVal_range s _ (numStep_range h c)
def numberL (s : List UInt8) : Option Int :=
  if s.length = 0 ∨ 20 < s.length then none
  else if itoaL (numVal s) = s then some (numVal s)
  else if numVal s ≠ -9223372036854775808 ∧ itoaL (-numVal s) = s then some (-numVal s)
  else none
def st58 (s : List UInt8) (S : List Bx) (n : Int) (i : Nat) : St := { σ := [(0, .v (.str (bs s))), (4, .v (.int .i64 n)), (5, .v (.int .i64 i))], own := [], loc := [], S := S }
def numE (s : List UInt8) : AV := match numberL s with
  | some n => .tuple [.int .i64 n, .bool true]
  | none => .tuple [.int .i64 0, .bool false]
theorem c58 (s : List UInt8) (S : List Bx) (hs : s.length ≤ 1000000) : run 58 [.str (bs s)] S = some (.ret (numE s) none, S) := by
  refine eqn rfl ?_
  unfold numE numberL
  by_cases h0 : s.length = 0 ∨ 20 < s.length
  · rw [if_pos h0]
    rcases h0 with h0 | h0
    · simp [a58, bs_size, h0]
    · have h0' : ¬ s.length = 0 := by omega
      have h0z : ¬ (s.length : Int) = 0 := by omega
      have h1 : (20 : Int) < (s.length : Int) := by omega
      simp [a58, bs_size, h0, h0', h0z, h1]
  · rw [if_neg h0]
    have h0' : ¬ s.length = 0 := by omega
    have h0z : ¬ (s.length : Int) = 0 := by omega
    have h1' : ¬ 20 < s.length := by omega
    have h1 : ¬ (20 : Int) < (s.length : Int) := by omega
    have h := loop_fold (f := acode run a58_l0) s (fun n i => st58 s S n i) numStep (fun n => (.exit 0, { σ := [(0, .v (.str (bs s))), (4, .v (.int .i64 n))], own := [], loc := [], S := S })) (fun _ _ => True) (b0 := 0) trivial
      (fun i n c _ hx => by
        have hlt := (List.getElem?_eq_some_iff.1 hx).1
        have h2 := ilt hx
        have w := w64s (n := i) (by omega)
        have hc := c.toNat_lt
        refine ⟨?_, trivial⟩
        unfold numStep
        by_cases c1 : 48 ≤ c.toNat
        · by_cases c2 : c.toNat ≤ 57
          · have c1' : (48 : Int) ≤ c.toNat := by omega
            have c2' : (c.toNat : Int) ≤ 57 := by omega
            have e1 : IntKind.wrap .u8 ((c.toNat : Int) - 48) = (c.toNat : Int) - 48 := wr8 (by omega) (by omega)
            have e2 : IntKind.wrap .i64 ((c.toNat : Int) - 48) = (c.toNat : Int) - 48 := wr64 (by omega) (by omega)
            rw [if_pos ⟨c1, c2⟩, acode_k]
            simp [-getElem?_pos, a58_l0, st58, bs_size, bs_get, hx, h2, c1', c2', e1, e2, wrapI, w]
          · have c1' : (48 : Int) ≤ c.toNat := by omega
            have c2' : ¬ (c.toNat : Int) ≤ 57 := by omega
            rw [if_neg (by omega), acode_k]
            simp [-getElem?_pos, a58_l0, st58, bs_size, bs_get, hx, h2, c1', c2', w]
        · have c1' : ¬ (48 : Int) ≤ c.toNat := by omega
          rw [if_neg (by omega), acode_k]
          simp [-getElem?_pos, a58_l0, st58, bs_size, bs_get, hx, h2, c1', w])
      (fun n _ => by
        rw [acode_k]
        simp [a58_l0, st58, bs_size])
      (fun _ => by simp)
    have hr := numVal_range s 0 (by omega)
    change aloopW (acode run a58_l0) (st58 s S 0 0) = some (.exit 0, { σ := [(0, .v (.str (bs s))), (4, .v (.int .i64 (numVal s)))], own := [], loc := [], S := S }) at h
    change -9223372036854775808 ≤ numVal s ∧ numVal s ≤ 9223372036854775807 at hr
    have q1 := c56 (numVal s).natAbs (numVal s) S (Nat.le_refl _) (by omega) (by omega)
    simp only [st58, Int.natCast_zero, Int.ofNat_zero] at h
    by_cases e1 : itoaL (numVal s) = s
    · rw [if_pos e1]
      rw [e1] at q1
      generalize numVal s = n at *
      simp [a58, bs_size, bs_toList, h0', h0z, h1, h1', h, q1]
    · rw [if_neg e1]
      by_cases e2 : numVal s = -9223372036854775808
      · rw [if_neg (fun h => h.1 e2)]
        generalize itoaL (numVal s) = I at *
        rw [e2] at q1 h
        simp [a58, bs_size, bs_toList, h0', h0z, h1, h1', h, q1, e1]
      · have q2 := c56 (-numVal s).natAbs (-numVal s) S (Nat.le_refl _) (by omega) (by omega)
        have w2 : IntKind.wrap .i64 (-numVal s) = -numVal s := wr64 (by omega) (by omega)
        have w3 : IntKind.wrap .i64 (0 - numVal s) = -numVal s := by rw [wr64 (by omega) (by omega)]; omega
        generalize itoaL (numVal s) = I at *
        by_cases e3 : itoaL (-numVal s) = s
        · rw [if_pos ⟨e2, e3⟩]
          rw [e3] at q2
          generalize hm : -numVal s = m at *
          generalize numVal s = n at *
          simp [a58, bs_size, bs_toList, h0', h0z, h1, h1', h, q1, q2, w2, w3, e1, e2, hm]
        · rw [if_neg (fun h => e3 h.2)]
          generalize itoaL (-numVal s) = I2 at *
          generalize hm : -numVal s = m at *
          generalize numVal s = n at *
          simp [a58, bs_size, bs_toList, h0', h0z, h1, h1', h, q1, q2, w2, w3, e1, e2, e3, hm]
/-- Number of digits. -/
theorem numVal_dec : ∀ (l : List UInt8) (a : Nat), (∀ c ∈ l, isDig c) → l.foldl (fun a c => a * 10 + (c.toNat - 48)) a < 9223372036854775808 → l.foldl numStep (-(a : Int)) = -((l.foldl (fun a c => a * 10 + (c.toNat - 48)) a : Nat) : Int)
  | [], a, _, _ => rfl
  | c :: l, a, hd, hv => by
    have hc := hd c (.head _)
    unfold isDig at hc
    have grow : ∀ (l : List UInt8) (a : Nat), a ≤ l.foldl (fun a c => a * 10 + (c.toNat - 48)) a := by
      intro l
      induction l with
      | nil => intro a; exact Nat.le_refl _
      | cons c l ih => intro a; rw [List.foldl_cons]; exact Nat.le_trans (by omega) (ih _)
    rw [List.foldl_cons] at hv
    rw [List.foldl_cons, List.foldl_cons]
    have := grow l (a * 10 + (c.toNat - 48))
    have e : numStep (-(a : Int)) c = -((a * 10 + (c.toNat - 48) : Nat) : Int) := by
      unfold numStep wrapI
      have w1 : IntKind.wrap .i64 (-(a : Int) * 10) = -(a : Int) * 10 := wr64 (by omega) (by omega)
      rw [if_pos hc, w1, wr64 (by omega) (by omega)]
      omega
    rw [e]
    exact numVal_dec l _ (fun c hc => hd c (.tail _ hc)) hv
theorem numberL_wr {n : Int} (h0 : 0 ≤ n) (h1 : n ≤ 2147483647) : numberL (itoaL n) = some n := by
  obtain ⟨hne, hd⟩ := decDigits_dig n.toNat
  have hv := decVal_dec n.toNat
  have hl := decDigits_len 19 n.toNat (by omega)
  have hnv : numVal (itoaL n) = -n := by
    rw [itoaL_nat h0]
    have := numVal_dec (Lib.decDigits n.toNat) 0 hd (by unfold decVal at hv; rw [hv]; omega)
    unfold decVal at hv
    rw [hv] at this
    unfold numVal
    simp at this
    rw [this]; omega
  have hlen : (itoaL n).length ≠ 0 ∧ (itoaL n).length ≤ 20 := by
    rw [itoaL_nat h0]
    exact ⟨by simpa using hne, hl⟩
  unfold numberL
  rw [if_neg (by omega), hnv]
  by_cases hz : n = 0
  · subst hz; simp
  · rw [if_neg (fun e => by have := itoaL_inj e; omega), if_pos ⟨by omega, by rw [Int.neg_neg]⟩]
    simp
theorem numberL_ok {s : List UInt8} {n : Int} (h : numberL s = some n) : itoaL n = s := by
  unfold numberL at h
  split at h
  · cases h
  · split at h
    · rename_i e
      obtain rfl := Option.some.inj h
      exact e
    · split at h
      · rename_i e
        obtain rfl := Option.some.inj h
        exact e.2
      · cases h

/-! ### Parse of the definition -/
def wordOf (r : List UInt8) : List UInt8 := r.takeWhile (fun c => decide (c ≠ 32))
def keyW (w : List UInt8) : Option K :=
  match numberL (cutD w).1 with
  | some n => if n < 0 ∨ 2147483647 < n then none else some ⟨n, (cutD w).2⟩
  | none => none
def refGo : Nat → List K → List UInt8 → Option (List K)
  | 0, out, _ => some out
  | f + 1, out, r => if r = [] ∨ 32 < out.length then some out else match keyW (wordOf r) with
    | some k => refGo f (out ++ [k]) (r.drop ((wordOf r).length + 1))
    | none => none
def sP0 (s : List UInt8) (S : List Bx) (out : List K) (at' : Nat) (e : Nat) : St :=
  { σ := [(0, .v (.str (bs s))), (4, .v (keysAV out)), (5, .v (.int .i64 at')), (6, .v (.int .i64 e))], own := [(4, 52)], loc := [], S := S }
theorem drop_cons {s : List UInt8} {n a : Nat} {c : UInt8} {r : List UInt8} (h : (s.take n).drop a = c :: r) : a < n ∧ a < s.length ∧ s[a]? = some c ∧ (s.take n).drop (a + 1) = r := by
  have h0 : ((s.take n).drop a)[0]? = some c := by rw [h]; rfl
  rw [List.getElem?_drop, List.getElem?_take] at h0
  simp only [Nat.add_zero] at h0
  split at h0
  · rename_i h1
    refine ⟨h1, (List.getElem?_eq_some_iff.1 h0).1, h0, ?_⟩
    rw [← List.drop_drop, h]; rfl
  · cases h0
theorem inner24 (s : List UInt8) (S : List Bx) (out : List K) (at' : Nat) (hs : s.length ≤ 1000) (hs1 : 1 ≤ s.length) : ∀ (r : List UInt8) (e : Nat), (s.take (s.length - 1)).drop e = r → e ≤ s.length - 1 →
    aloopW (acode run a24_l0) (sP0 s S out at' e) = some (.exit 2, sP0 s S out at' (e + (wordOf r).length))
  | [], e, h, he => by
    have hle : s.length - 1 ≤ e := by
      have := congrArg List.length h
      simp at this
      omega
    have e1 : e = s.length - 1 := by omega
    have wl : IntKind.wrap .i64 ((s.length : Int) - 1) = (e : Int) := by rw [wr64 (by omega) (by omega)]; omega
    refine aloopW_stop ?_ (by simp)
    rw [acode_k]
    simp [a24_l0, sP0, wordOf, bs_size, wl]
  | c :: r, e, h, he => by
    obtain ⟨h1, h2, h3, h4⟩ := drop_cons h
    have wl : IntKind.wrap .i64 ((s.length : Int) - 1) = ((s.length - 1 : Nat) : Int) := by rw [wr64 (by omega) (by omega)]; omega
    have hlt : (e : Int) < ((s.length - 1 : Nat) : Int) := by omega
    have ec : ((c.toNat : Int) = 32) ↔ c = 32 := by rw [show (32 : Int) = ((32 : UInt8).toNat : Int) from rfl]; exact u8neH c 32
    generalize ((s.length - 1 : Nat) : Int) = z at *
    by_cases hc : c = 32
    · refine aloopW_stop ?_ (by simp)
      rw [acode_k]
      simp [-getElem?_pos, a24_l0, sP0, wordOf, bs_size, bs_get, wl, hlt, h3, ec, hc]
    · have ih := inner24 s S out at' hs hs1 r (e + 1) h4 (by omega)
      have w := w64s (n := e) (by omega)
      have hw : wordOf (c :: r) = c :: wordOf r := by unfold wordOf; rw [List.takeWhile_cons]; simp [hc]
      rw [hw, List.length_cons, show e + ((wordOf r).length + 1) = e + 1 + (wordOf r).length by omega, ← ih]
      refine aloopW_step ?_
      rw [acode_k]
      simp [-getElem?_pos, a24_l0, sP0, bs_size, bs_get, wl, hlt, h3, ec, hc, w]
def sP1 (s : List UInt8) (S : List Bx) (out : List K) (at' : Nat) : St :=
  { σ := [(0, .v (.str (bs s))), (4, .v (keysAV out)), (5, .v (.int .i64 at'))], own := [(4, 52)], loc := [], S := S }
def goodP (s : List UInt8) (S : List Bx) (out : List K) : AEx × St := (.exit 0, { σ := [(0, .v (.str (bs s))), (4, .v (keysAV out))], own := [(4, 52)], loc := [], S := S })
def badP (S : List Bx) : AEx × St := (.ret, { σ := [(2, .v (.slice 2 [])), (3, .v (.bool false))], own := [(2, 52)], loc := [], S := S })
theorem wordOf_len (r : List UInt8) : (wordOf r).length ≤ r.length := List.Sublist.length_le (List.takeWhile_sublist _)
theorem wordOf_take (r : List UInt8) : r.take (wordOf r).length = wordOf r := by
  have := List.takeWhile_prefix (l := r) (fun c => decide (c ≠ 32))
  exact (List.prefix_iff_eq_take.1 this).symm
theorem take_word (s : List UInt8) {n a k : Nat} (h : a + k ≤ n) : (s.take (a + k)).drop a = ((s.take n).drop a).take k := by
  rw [List.take_drop, List.take_take, Nat.min_eq_left h]
def stepP (s : List UInt8) (S : List Bx) (out : List K) (at' : Nat) (W : List UInt8) : Prop :=
  acode run a24_l1 (sP1 s S out at') = some (match keyW W with | some k => (.normal, sP1 s S (out ++ [k]) (at' + W.length + 1)) | none => badP S)
set_option maxHeartbeats 4000000 in
theorem round24 (s : List UInt8) (S : List Bx) (out : List K) (at' : Nat) (W : List UInt8) (hs : s.length ≤ 1000) (ho : out.length ≤ 32) (hlt : (at' : Int) < (s.length : Int) - 1) (hW : at' + W.length ≤ s.length - 1)
    (q1 : aloopW (acode run a24_l0) (sP0 s S out at' at') = some (.exit 2, sP0 s S out at' (at' + W.length))) (hext : (bs s).extract at' (at' + W.length) = bs W) : stepP s S out at' W := by
  have wl : IntKind.wrap .i64 ((s.length : Int) - 1) = (s.length : Int) - 1 := wr64 (by omega) (by omega)
  have hl : (out.length : Int) ≤ 32 := by omega
  have s2 : (out.length + 1) * 16 ≤ 140737488355328 := by omega
  have hc := cutD_len W
  have q2 := c58 (cutD W).1 S (by omega)
  have e1 : (0 : Int) ≤ (at' : Int) := by omega
  have e2 : (at' : Int) ≤ ((at' + W.length : Nat) : Int) := by omega
  have e3 : ((at' + W.length : Nat) : Int) ≤ (s.length : Int) := by omega
  have e4 : ((at' + W.length : Nat) : Int).toNat = at' + W.length := Int.toNat_natCast _
  have e5 : (at' : Int).toNat = at' := Int.toNat_natCast _
  have w6 : IntKind.wrap .i64 (((at' + W.length : Nat) : Int) + 1) = ((at' + W.length + 1 : Nat) : Int) := by rw [wr64 (by omega) (by omega)]; omega
  unfold stepP
  rw [acode_k]
  unfold keyW sP1 badP
  unfold numE at q2
  simp only [keysAV]
  rcases List.eq_nil_or_concat W with rfl | ⟨l, c, rfl⟩
  · have hn : numberL (cutD []).1 = none := rfl
    have hc0 : (cutD []).1 = [] := rfl
    rw [hn] at q2 ⊢
    rw [hc0] at q2
    have eb : bs [] = ByteArray.empty := rfl
    rw [eb] at q2
    simp only at q2
    simp only [sP0, keysAV] at q1
    simp only [List.length_nil, Nat.add_zero] at q1 hext e2 e3 e4 w6
    generalize (at' : Int) = z at *
    simp [-getElem?_pos, List.getElem?_cons_zero, List.getElem?_cons_succ, a24_l1, sP1, badP, keysAV, bs_size, wl, hlt, hl, q1, e1, e3, e5, hext, q2]
  · rw [List.concat_eq_append] at *
    have hl0 : (0 : Int) < (l.length : Int) + 1 := by omega
    have hll : l.length ≤ 1000 := by simp at hW; omega
    have w7 : IntKind.wrap .i64 (l.length : Int) = (l.length : Int) := wr64 (by omega) (by omega)
    have h9 : (l.length : Int) ≤ (l.length : Int) + 1 := by omega
    have g1 : (l ++ [c])[l.length]? = some c := by simp
    have g2 : (l ++ [c]).take l.length = l := by simp
    have ec : ((c.toNat : Int) = 45) ↔ c = 45 := by rw [show (45 : Int) = ((45 : UInt8).toNat : Int) from rfl]; exact u8neH c 45
    have hlw : (bs (l ++ [c])).size = l.length + 1 := by rw [bs_size]; simp
    have hlast : (l ++ [c]).getLast? = some c := by simp
    have hcd : cutD (l ++ [c]) = if c = 45 then (l, true) else (l ++ [c], false) := by
      unfold cutD
      rw [hlast]
      by_cases h : c = 45 <;> simp [h]
    rw [hcd] at q2 ⊢
    simp only [sP0, keysAV] at q1
    have hext' : (s.take (at' + (l ++ [c]).length)).drop at' = l ++ [c] := by
      rw [bs_extract] at hext
      exact bs_inj hext
    generalize ((at' + (l ++ [c]).length + 1 : Nat) : Int) = z6 at *
    generalize ((at' + (l ++ [c]).length : Nat) : Int) = z2 at *
    generalize hz3 : at' + (l ++ [c]).length = z3 at *
    generalize (at' : Int) = z at *
    by_cases h45 : c = 45
    · subst h45
      rw [if_pos rfl] at q2 ⊢
      simp only at q2 ⊢
      cases hn : numberL l with
      | none =>
        rw [hn] at q2
        simp [-getElem?_pos, List.getElem?_cons_zero, List.getElem?_cons_succ, a24_l1, bs_get, bs_size, bs_extract, wl, hlt, hl, q1, e1, e2, e3, e4, e5, hext', hlw, hl0, w7, h9, g1, g2, ec, q2]
      | some n =>
        rw [hn] at q2
        simp only at q2 ⊢
        by_cases n0 : n < 0
        · rw [if_pos (.inl n0)]
          simp [-getElem?_pos, List.getElem?_cons_zero, List.getElem?_cons_succ, a24_l1, bs_get, bs_size, bs_extract, wl, hlt, hl, q1, e1, e2, e3, e4, e5, hext', hlw, hl0, w7, h9, g1, g2, ec, q2, n0]
        · by_cases n1 : 2147483647 < n
          · rw [if_pos (.inr n1)]
            simp [-getElem?_pos, List.getElem?_cons_zero, List.getElem?_cons_succ, a24_l1, bs_get, bs_size, bs_extract, wl, hlt, hl, q1, e1, e2, e3, e4, e5, hext', hlw, hl0, w7, h9, g1, g2, ec, q2, n0, n1]
          · rw [if_neg (by omega)]
            simp [-getElem?_pos, List.getElem?_cons_zero, List.getElem?_cons_succ, a24_l1, bs_get, bs_size, bs_extract, wl, hlt, hl, q1, e1, e2, e3, e4, e5, hext', hlw, hl0, w7, h9, g1, g2, ec, q2, n0, n1, s2, w6, K.av]
    · rw [if_neg h45] at q2 ⊢
      simp only at q2 ⊢
      cases hn : numberL (l ++ [c]) with
      | none =>
        rw [hn] at q2
        simp [-getElem?_pos, List.getElem?_cons_zero, List.getElem?_cons_succ, a24_l1, bs_get, bs_size, bs_extract, wl, hlt, hl, q1, e1, e2, e3, e4, e5, hext', hlw, hl0, w7, h9, g1, g2, ec, h45, q2]
      | some n =>
        rw [hn] at q2
        simp only at q2 ⊢
        by_cases n0 : n < 0
        · rw [if_pos (.inl n0)]
          simp [-getElem?_pos, List.getElem?_cons_zero, List.getElem?_cons_succ, a24_l1, bs_get, bs_size, bs_extract, wl, hlt, hl, q1, e1, e2, e3, e4, e5, hext', hlw, hl0, w7, h9, g1, g2, ec, h45, q2, n0]
        · by_cases n1 : 2147483647 < n
          · rw [if_pos (.inr n1)]
            simp [-getElem?_pos, List.getElem?_cons_zero, List.getElem?_cons_succ, a24_l1, bs_get, bs_size, bs_extract, wl, hlt, hl, q1, e1, e2, e3, e4, e5, hext', hlw, hl0, w7, h9, g1, g2, ec, h45, q2, n0, n1]
          · rw [if_neg (by omega)]
            simp [-getElem?_pos, List.getElem?_cons_zero, List.getElem?_cons_succ, a24_l1, bs_get, bs_size, bs_extract, wl, hlt, hl, q1, e1, e2, e3, e4, e5, hext', hlw, hl0, w7, h9, g1, g2, ec, h45, q2, n0, n1, s2, w6, K.av]
theorem loop24 (s : List UInt8) (S : List Bx) (hs : s.length ≤ 1000) : ∀ (f : Nat) (out : List K) (at' : Nat), 33 < out.length + f → out.length ≤ 40 → 1 ≤ at' → at' ≤ s.length + 1 →
    aloopW (acode run a24_l1) (sP1 s S out at') = some (match refGo f out ((s.take (s.length - 1)).drop at') with | some o => goodP s S o | none => badP S)
  | 0, out, at', h, _, h1, h2 => by
    refine aloopW_stop ?_ (by simp [refGo, goodP])
    have hl : ¬ ((out.length : Int) ≤ 32) := by omega
    have wl : IntKind.wrap .i64 ((s.length : Int) - 1) = (s.length : Int) - 1 := wr64 (by omega) (by omega)
    rw [acode_k]
    by_cases hlt : (at' : Int) < (s.length : Int) - 1
    · simp [a24_l1, sP1, refGo, goodP, keysAV, bs_size, wl, hlt, hl]
    · simp [a24_l1, sP1, refGo, goodP, keysAV, bs_size, wl, hlt, hl]
  | f + 1, out, at', h, ho, h1, h2 => by
    have wl : IntKind.wrap .i64 ((s.length : Int) - 1) = (s.length : Int) - 1 := wr64 (by omega) (by omega)
    by_cases hlt : (at' : Int) < (s.length : Int) - 1
    · by_cases hl : (out.length : Int) ≤ 32
      · have hne : ¬ ((s.take (s.length - 1)).drop at' = []) := by
          intro e
          have := congrArg List.length e
          simp at this
          omega
        have hr : refGo (f + 1) out ((s.take (s.length - 1)).drop at') = match keyW (wordOf ((s.take (s.length - 1)).drop at')) with
          | some k => refGo f (out ++ [k]) (((s.take (s.length - 1)).drop at').drop ((wordOf ((s.take (s.length - 1)).drop at')).length + 1))
          | none => none := by
          conv => lhs; unfold refGo
          rw [if_neg (by rintro (h | h); exact hne h; omega)]
        rw [hr]
        have q1 := inner24 s S out at' hs (by omega) _ at' rfl (by omega)
        have hwl := wordOf_len ((s.take (s.length - 1)).drop at')
        have hwt := wordOf_take ((s.take (s.length - 1)).drop at')
        simp only [List.length_drop, List.length_take] at hwl
        rw [List.drop_drop]
        have hext : (bs s).extract at' (at' + (wordOf ((s.take (s.length - 1)).drop at')).length) = bs (wordOf ((s.take (s.length - 1)).drop at')) := by
          rw [bs_extract, take_word s (n := s.length - 1) (by omega), hwt]
        have rd := round24 s S out at' (wordOf ((s.take (s.length - 1)).drop at')) hs (by omega) hlt (by omega) q1 hext
        unfold stepP at rd
        have ih := fun k => loop24 s S hs f (out ++ [k]) (at' + (wordOf ((s.take (s.length - 1)).drop at')).length + 1) (by simp; omega) (by simp; omega) (by omega) (by omega)
        simp only [Nat.add_assoc] at ih rd ⊢
        generalize wordOf ((s.take (s.length - 1)).drop at') = W at *
        cases hk : keyW W with
        | none =>
          rw [hk] at rd
          exact aloopW_stop rd (by simp [badP])
        | some k =>
          rw [hk] at rd
          rw [aloopW_step rd]
          exact ih k
      · have hr : refGo (f + 1) out ((s.take (s.length - 1)).drop at') = some out := by
          unfold refGo
          rw [if_pos (.inr (by omega))]
        rw [hr]
        refine aloopW_stop ?_ (by simp [goodP])
        rw [acode_k]
        simp [a24_l1, sP1, goodP, keysAV, bs_size, wl, hlt, hl]
    · have he : (s.take (s.length - 1)).drop at' = [] := by
        rw [List.drop_eq_nil_iff, List.length_take]
        omega
      have hr : refGo (f + 1) out ((s.take (s.length - 1)).drop at') = some out := by
        unfold refGo
        rw [if_pos (.inl he)]
      rw [hr]
      refine aloopW_stop ?_ (by simp [goodP])
      rw [acode_k]
      simp [a24_l1, sP1, goodP, keysAV, bs_size, wl, hlt]
theorem refGo_fit : ∀ {f : Nat} {out res : List K} {r : List UInt8}, refGo f out r = some res → (∀ k ∈ out, colOk k) → out.length ≤ 33 → (∀ k ∈ res, colOk k) ∧ res.length ≤ 33
  | 0, out, res, r, h, ho, hl => by
    simp only [refGo, Option.some.injEq] at h
    subst h
    exact ⟨ho, hl⟩
  | f + 1, out, res, r, h, ho, hl => by
    unfold refGo at h
    split at h
    · obtain rfl := Option.some.inj h
      exact ⟨ho, hl⟩
    · rename_i hc
      split at h
      · rename_i k hk
        refine refGo_fit h (fun x hx => ?_) (by simp; omega)
        rcases List.mem_append.1 hx with hx | hx
        · exact ho x hx
        · rw [List.mem_singleton.1 hx]
          unfold keyW at hk
          split at hk
          · split at hk
            · cases hk
            · obtain rfl := Option.some.inj hk
              unfold colOk
              simp only
              omega
          · cases hk
      · cases h
def refS (s : List UInt8) : List K × Bool := match refGo 40 [] (inner s) with
  | some out => (out, decide (out.length ≤ 32) && decide (wrKs out = s))
  | none => ([], false)
theorem c24 (s : List UInt8) (S : List Bx) (hs : s.length ≤ 1000) : run 24 [.str (bs s)] S = some (.ret (.tuple [keysAV (refS s).1, .bool (refS s).2]) none, S) := by
  refine eqn rfl ?_
  have q := loop24 s S hs 40 [] 1 (by simp) (by simp) (by omega) (by omega)
  unfold refS inner
  have e1 : (((1 : Nat) : Int)) = 1 := rfl
  simp only [sP1, keysAV, List.map_nil, e1] at q
  cases hr : refGo 40 [] ((s.take (s.length - 1)).drop 1) with
  | none =>
    rw [hr] at q
    simp only [badP] at q
    simp [a24, keysAV, q]
  | some out =>
    rw [hr] at q
    obtain ⟨k1, k2⟩ := refGo_fit hr (by simp) (by simp)
    simp only [goodP, keysAV] at q
    by_cases hl : out.length ≤ 32
    · have hl' : (out.length : Int) ≤ 32 := by omega
      have q2 := c22 out S (fun k hk => by have := k1 k hk; unfold colOk at this; omega) (by omega)
      simp only [keysAV] at q2
      generalize hW : wrKs out = W at *
      by_cases hWs : W = s
      · simp [a24, keysAV, bs_toList, q, q2, hl, hl', hWs, hW]
      · simp [a24, keysAV, bs_toList, q, q2, hl, hl', hWs, hW]
    · have hl' : ¬ (out.length : Int) ≤ 32 := by omega
      simp [a24, keysAV, q, hl, hl']
/-- What Parse of the definition makes of a string. -/
theorem refS_ok {s : List UInt8} (h : (refS s).2 = true) : wrKs (refS s).1 = s ∧ (refS s).1.length ≤ 32 ∧ ∀ k ∈ (refS s).1, colOk k := by
  unfold refS at h ⊢
  split at h
  · rename_i out hr
    simp only [Bool.and_eq_true, decide_eq_true_eq] at h
    exact ⟨h.2, h.1, (refGo_fit hr (by simp) (by simp)).1⟩
  · cases h
theorem keyW_wr {k : K} (h : colOk k) : keyW (wrK k) = some k := by
  unfold keyW
  rw [cutD_wr h.1, numberL_wr h.1 h.2]
  simp only
  rw [if_neg (by have := h.1; have := h.2; omega)]
theorem wordOf_app {w : List UInt8} (hw : ∀ c ∈ w, c ≠ 32) (r : List UInt8) (hr : r = [] ∨ ∃ t, r = 32 :: t) : wordOf (w ++ r) = w := by
  unfold wordOf
  rw [List.takeWhile_append_of_pos (fun c hc => by simpa using hw c hc)]
  rcases hr with rfl | ⟨t, rfl⟩
  · simp
  · simp
theorem refGo_wr : ∀ (ks : List K) (f : Nat) (out : List K), (∀ k ∈ ks, colOk k) → out.length + ks.length ≤ 32 → ks.length < f → refGo f out (joinSp (ks.map wrK)) = some (out ++ ks)
  | [], f, out, _, _, hf => by
    match f, hf with
    | f + 1, _ => simp [refGo, joinSp]
  | k :: ks, f, out, h, hl, hf => by
    match f, hf with
    | f + 1, hf =>
      have hk := h k (.head _)
      obtain ⟨w1, w2⟩ := wrK_bytes hk.1
      have hrest : ((ks.map wrK).map (fun y => (32 : UInt8) :: y)).flatten = [] ∨ ∃ t, ((ks.map wrK).map (fun y => (32 : UInt8) :: y)).flatten = 32 :: t := by
        cases ks with
        | nil => exact .inl rfl
        | cons x r => exact .inr ⟨_, by simp only [List.map_cons, List.flatten_cons, List.cons_append]; rfl⟩
      have hw := wordOf_app (fun c hc => (wbyte_ne (w2 c hc)).1) _ hrest
      have hd : (wrK k ++ ((ks.map wrK).map (fun y => (32 : UInt8) :: y)).flatten).drop ((wrK k).length + 1) = joinSp (ks.map wrK) := by
        rw [← List.drop_drop, List.drop_left]
        cases ks with
        | nil => rfl
        | cons x r => simp [joinSp]
      simp only [List.length_cons] at hl hf
      simp only [List.map_cons, joinSp]
      unfold refGo
      rw [if_neg, hw, keyW_wr hk]
      · simp only
        rw [hd, refGo_wr ks f _ (fun k hk => h k (.tail _ hk)) (by simp; omega) (by omega)]
        simp
      · rintro (e | e)
        · have := congrArg List.length e
          simp at this
          exact w1 this.1
        · omega
theorem refS_wr {ks : List K} (h : ∀ k ∈ ks, colOk k) (hl : ks.length ≤ 32) : refS (wrKs ks) = (ks, true) := by
  unfold refS
  rw [(inner_wr ks).1, refGo_wr ks 40 [] h (by simpa using hl) (by omega)]
  simp [hl]
/-- Both read the same. -/
theorem same_read (s : List UInt8) : (readS s).2 = (refS s).2 ∧ ((refS s).2 = true → readS s = refS s) := by
  by_cases h1 : (refS s).2 = true
  · obtain ⟨a, b, c⟩ := refS_ok h1
    have h2 := readS_wr c b
    rw [a] at h2
    have h3 : refS s = ((refS s).1, true) := by rw [← h1]
    rw [h2, h1]
    exact ⟨rfl, fun _ => h3.symm⟩
  · by_cases h2 : (readS s).2 = true
    · obtain ⟨a, b, c⟩ := readS_ok h2
      have h3 := refS_wr c b
      rw [a] at h3
      rw [h3] at h1
      exact absurd rfl h1
    · exact ⟨by rw [Bool.not_eq_true] at h1 h2; rw [h1, h2], fun h => absurd h h1⟩
end Go.Av
