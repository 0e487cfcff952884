/- Part of a proof: traits.Sorted. -/
import Derived.Test.YtlhmipepdcndoaaGreatDoorZvEa
import Derived.Test.YtlhmipepdcndoaaGreatDoorZvMd
set_option maxRecDepth 100000
set_option linter.unusedSimpArgs false
set_option linter.unusedVariables false
namespace Go.Av
open Go Go.Proofs

def st44 (ks : List K) (a b : List V) (S : List Bx) (i : Nat) : St :=
  { σ := [(1, .v (rowAV a)), (2, .v (rowAV b)), (10, .v (keysAV ks)), (11, .v (.int .i64 ks.length)), (12, .v (.int .i64 i))], own := [], loc := [], S := S }
def ret44 (r : Int) (S : List Bx) : AEx × St := (.ret, { σ := [(6, .v (.int .i64 r))], own := [], loc := [], S := S })
theorem c44 (ks : List K) (a b : List V) (S : List Bx) (hk : ∀ k ∈ ks, inR k a ∧ inR k b) (hl : ks.length ≤ 9223372036854775807) : run 44 [keysAV ks, rowAV a, rowAV b] S = some (.ret (.int .i64 (keysCmp ks a b)) none, S) := by
  refine eqn rfl ?_
  have h := loop_walk (f := acode run a44_l0) ks (fun (_ : Unit) i => st44 ks a b S i) (fun _ k => if keyCmp k a b = 0 then .inl () else .inr (ret44 (keyCmp k a b) S))
    (fun _ => (.exit 0, { σ := [], own := [], loc := [], S := S })) (fun _ _ => True) (b0 := ()) trivial
    (fun i _ k _ hx => by
      have h1 := ilt hx
      have hlt := (List.getElem?_eq_some_iff.1 hx).1
      obtain ⟨hka, hkb⟩ := hk k (List.mem_of_getElem? hx)
      have ga := vAt_get hka
      have gb := vAt_get hkb
      have c0 := hka.1
      have q := c77 (vAt a k.c) (vAt b k.c) S
      have hr := cmpV_range (vAt a k.c) (vAt b k.c)
      have hkc : keyCmp k a b = if k.d then -cmpV (vAt a k.c) (vAt b k.c) else cmpV (vAt a k.c) (vAt b k.c) := rfl
      rw [hkc]
      generalize vAt a k.c = v at *
      generalize vAt b k.c = w at *
      simp only [V.av] at q
      have hw := wneg hr
      by_cases h0 : cmpV v w = 0
      · left
        refine ⟨(), by simp [h0], ?_, trivial⟩
        rw [acode_k]
        simp [a44_l0, st44, hx, h1, K.av, V.av, rowAV, keysAV, ga, gb, c0, q, h0, w64s (n := i) (by omega)]
      · right
        cases hd : k.d
        · refine ⟨_, by simp only [Bool.false_eq_true, if_false]; rw [if_neg h0], ?_, by simp [ret44]⟩
          rw [acode_k]
          simp [a44_l0, st44, ret44, hx, h1, K.av, V.av, rowAV, keysAV, ga, gb, c0, q, h0, hd]
        · have h0' : ¬ (-cmpV v w = 0) := by omega
          refine ⟨_, by simp only [if_true]; rw [if_neg h0'], ?_, by simp [ret44]⟩
          rw [acode_k]
          simp [a44_l0, st44, ret44, hx, h1, K.av, V.av, rowAV, keysAV, ga, gb, c0, q, h0, hd, hw])
    (fun _ _ => ⟨by
      rw [acode_k]
      simp [a44_l0, st44], by simp⟩)
  have e : ∀ (m : List K), walkL (fun (_ : Unit) k => if keyCmp k a b = 0 then .inl () else .inr (ret44 (keyCmp k a b) S)) (fun _ => ((.exit 0, { σ := [], own := [], loc := [], S := S }) : AEx × St)) m () =
      if keysCmp m a b = 0 then (.exit 0, { σ := [], own := [], loc := [], S := S }) else ret44 (keysCmp m a b) S := by
    intro m
    induction m with
    | nil => simp [walkL, keysCmp]
    | cons k m ih =>
      simp only [walkL, keysCmp]
      by_cases h0 : keyCmp k a b = 0
      · simp only [if_pos h0]; exact ih
      · simp only [if_neg h0]
  rw [e] at h
  generalize keysCmp ks a b = c at *
  simp only [st44, ret44, keysAV, rowAV, Int.natCast_zero, Int.ofNat_zero] at h
  by_cases h0 : c = 0
  · subst h0
    simp at h
    simp [a44, keysAV, rowAV, h]
  · rw [if_neg h0] at h
    simp [a44, keysAV, rowAV, h]
theorem c43 (ks : List K) (a b : List V) (S : List Bx) (hk : ∀ k ∈ ks, inR k a ∧ inR k b) (hl : ks.length ≤ 9223372036854775807) : run 43 [rowAV a, rowAV b, .sptr [keysAV ks]] S = some (.ret (.int .i64 (keysCmp ks a b)) none, S) := by
  refine eqn rfl ?_
  have q := c44 ks a b S hk hl
  simp only [keysAV, rowAV] at q
  simp [a43, keysAV, rowAV, q]
theorem sortedB_snoc (ks : List K) : ∀ (p : List (List V)) (a b : List V), sortedB ks (p ++ [a, b]) = (sortedB ks (p ++ [a]) && decide (keysCmp ks a b ≤ 0))
  | [], a, b => by simp [sortedB]
  | [x], a, b => by simp [sortedB, Bool.and_assoc]
  | x :: y :: p, a, b => by
    have ih := sortedB_snoc ks (y :: p) a b
    simp only [List.cons_append, sortedB] at ih ⊢
    rw [ih, Bool.and_assoc]
def st42 (ks : List K) (l : List (List V)) (S : List Bx) (i : Int) : St :=
  { σ := [(0, .v (rowsAV l)), (1, .v (.clos (.func 43) [] [.sptr [keysAV ks]])), (5, .v (.int .i64 i))], own := [], loc := [], S := S }
theorem loop42 (ks : List K) (l : List (List V)) (S : List Bx) (hf : ∀ r ∈ l, fitR ks r) (hl : l.length ≤ 9223372036854775807) (hks : ks.length ≤ 9223372036854775807) : ∀ (i : Nat), i < l.length →
    aloopW (acode run a42_l0) (st42 ks l S i) = if sortedB ks (l.take (i + 1)) then some (.exit 0, { σ := [], own := [], loc := [], S := S }) else some (.ret, { σ := [(4, .v (.bool false))], own := [], loc := [], S := S })
  | 0, hi => by
    have e : sortedB ks (l.take 1) = true := by cases l with | nil => rfl | cons a l => simp [sortedB]
    rw [Nat.zero_add, e, if_pos rfl]
    refine aloopW_stop ?_ (by simp)
    rw [acode_k]
    simp [a42_l0, st42]
  | i + 1, hi => by
    have ih := loop42 ks l S hf hl hks i (by omega)
    obtain ⟨a, ha⟩ : ∃ a, l[i]? = some a := ⟨l[i], by simp [show i < l.length by omega]⟩
    obtain ⟨b, hb⟩ : ∃ b, l[i + 1]? = some b := ⟨l[i + 1], by simp [hi]⟩
    have et : l.take (i + 1 + 1) = l.take i ++ [a, b] := by
      rw [List.take_add_one, List.take_add_one, ha, hb]; simp
    have et1 : l.take (i + 1) = l.take i ++ [a] := by rw [List.take_add_one, ha]; simp
    rw [et, sortedB_snoc, ← et1]
    have q := c43 ks b a S (fun k hk => ⟨(hf b (List.mem_of_getElem? hb)).1 k hk, (hf a (List.mem_of_getElem? ha)).1 k hk⟩) hks
    have an := (total_keysCmp ks).anti a b
    have w1 : IntKind.wrap .i64 (((i + 1 : Nat) : Int) - 1) = (i : Int) := by rw [wr64 (by omega) (by omega)]; omega
    have w2 : ((i + 1 : Nat) : Int).toNat = i + 1 := by omega
    have h0 : (0 : Int) < ((i + 1 : Nat) : Int) := by omega
    have h0' : (0 : Int) ≤ ((i + 1 : Nat) : Int) := by omega
    simp only [rowAV, keysAV] at q
    by_cases hc : keysCmp ks a b ≤ 0
    · have hc' : ¬ keysCmp ks b a < 0 := by omega
      have step : acode run a42_l0 (st42 ks l S ((i + 1 : Nat) : Int)) = some (.normal, st42 ks l S i) := by
        generalize ((i + 1 : Nat) : Int) = j at *
        rw [acode_k]
        simp [a42_l0, st42, rowsAV, rowAV, keysAV, h0, h0', w1, w2, ha, hb, q, hc']
      rw [aloopW_step step, ih, decide_eq_true hc, Bool.and_true]
    · have hc' : keysCmp ks b a < 0 := by omega
      rw [decide_eq_false hc, Bool.and_false]
      refine aloopW_stop ?_ (by simp)
      generalize ((i + 1 : Nat) : Int) = j at *
      rw [acode_k]
      simp [a42_l0, st42, rowsAV, rowAV, keysAV, h0, h0', w1, w2, ha, hb, q, hc']
theorem c42 (ks : List K) (l : List (List V)) (S : List Bx) (hf : ∀ r ∈ l, fitR ks r) (hl : l.length ≤ 9223372036854775807) (hks : ks.length ≤ 9223372036854775807) :
    run 42 [rowsAV l, .clos (.func 43) [] [.sptr [keysAV ks]]] S = some (.ret (.bool (sortedB ks l)) none, S) := by
  refine eqn rfl ?_
  by_cases h0 : l = []
  · subst h0
    have h : aloopW (acode run a42_l0) (st42 ks [] S (-1)) = some (.exit 0, { σ := [], own := [], loc := [], S := S }) := by
      refine aloopW_stop ?_ (by simp)
      rw [acode_k]
      simp [a42_l0, st42]
    simp [st42, rowsAV] at h
    have w : IntKind.wrap .i64 (-1) = -1 := wr64 (by omega) (by omega)
    simp [a42, rowsAV, w, h, sortedB]
  · have hlen : 0 < l.length := List.length_pos_iff.2 h0
    have h := loop42 ks l S hf hl hks (l.length - 1) (by omega)
    rw [show l.length - 1 + 1 = l.length by omega, List.take_length] at h
    have w : IntKind.wrap .i64 ((l.length : Int) - 1) = ((l.length - 1 : Nat) : Int) := by rw [wr64 (by omega) (by omega)]; omega
    generalize ((l.length - 1 : Nat) : Int) = j at *
    generalize sortedB ks l = B at *
    simp only [st42, rowsAV, keysAV] at h
    cases B <;> simp at h <;> simp [a42, rowsAV, keysAV, w, h]
end Go.Av
