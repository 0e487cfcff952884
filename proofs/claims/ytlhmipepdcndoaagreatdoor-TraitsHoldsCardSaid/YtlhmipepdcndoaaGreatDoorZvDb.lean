/- Part of a proof: joined: it ends, and what it ends in. -/
import Derived.Test.YtlhmipepdcndoaaGreatDoorZvDa
set_option maxRecDepth 100000
set_option linter.unusedSimpArgs false
set_option linter.unusedVariables false
namespace Go.Av
open Go Go.Proofs

/-! ### it ends -/
def mu (h : List Nat) : Nat := (h.map (3 ^ ·)).sum
theorem sum_set (f : Nat → Nat) : ∀ (h : List Nat) (i v : Nat), i < h.length → ((h.set i v).map f).sum + f (h.getD i 0) = (h.map f).sum + f v
  | [], i, v, hi => by simp at hi
  | x :: h, 0, v, hi => by simp [List.getD]; omega
  | x :: h, i + 1, v, hi => by
    have := sum_set f h i v (by simpa using hi)
    simp only [List.set_cons_succ, List.map_cons, List.sum_cons]
    have e : (x :: h).getD (i + 1) 0 = h.getD i 0 := by simp [List.getD]
    rw [e]; omega
theorem getD_set' (h : List Nat) (i j v : Nat) (hi : i < h.length) : (h.set i v).getD j 0 = if i = j then v else h.getD j 0 := by
  simp only [List.getD, List.getElem?_set]
  by_cases e : i = j
  · subst e; simp [hi]
  · simp [e]
theorem mu_step {h : List Nat} (H : Heads h) {p : Int × Int} (hp : inP p) (hm : moved h p = true) : mu (stepP h p) < mu h := by
  obtain ⟨h1, h2, h3, h4⟩ := hp
  have hlen := H.len
  simp only [moved, decide_eq_true_eq] at hm
  have la := (H.get (i := p.1.toNat) (by omega)).2
  have lb := (H.get (i := p.2.toNat) (by omega)).2
  have eS : stepP h p = ((h.set p.1.toNat (min (h.getD p.1.toNat 0) (h.getD p.2.toNat 0))).set p.2.toNat (min (h.getD p.1.toNat 0) (h.getD p.2.toNat 0))).set (max (h.getD p.1.toNat 0) (h.getD p.2.toNat 0)) (min (h.getD p.1.toNat 0) (h.getD p.2.toNat 0)) := by
    simp only [stepP, if_neg hm]
  have hne : p.1.toNat ≠ p.2.toNat := fun e => hm (by rw [e])
  have q1 := sum_set (3 ^ ·) h p.1.toNat (min (h.getD p.1.toNat 0) (h.getD p.2.toNat 0)) (by omega)
  have q2 := sum_set (3 ^ ·) (h.set p.1.toNat (min (h.getD p.1.toNat 0) (h.getD p.2.toNat 0))) p.2.toNat (min (h.getD p.1.toNat 0) (h.getD p.2.toNat 0)) (by rw [List.length_set]; omega)
  have q3 := sum_set (3 ^ ·) ((h.set p.1.toNat (min (h.getD p.1.toNat 0) (h.getD p.2.toNat 0))).set p.2.toNat (min (h.getD p.1.toNat 0) (h.getD p.2.toNat 0))) (max (h.getD p.1.toNat 0) (h.getD p.2.toNat 0)) (min (h.getD p.1.toNat 0) (h.getD p.2.toNat 0)) (by rw [List.length_set, List.length_set]; omega)
  rw [getD_set' h _ _ _ (by omega), if_neg hne] at q2
  rw [eS]
  simp only [mu] at *
  generalize ((h.set p.1.toNat _).set p.2.toNat _).getD _ 0 = o at *
  generalize h.getD p.1.toNat 0 = a at *
  generalize h.getD p.2.toNat 0 = b at *
  have hpos : 0 < 3 ^ o := Nat.pow_pos (by omega)
  have hpow : ∀ x y : Nat, x < y → 3 * 3 ^ x ≤ 3 ^ y := fun x y hxy => by
    have : 3 ^ (x + 1) ≤ 3 ^ y := Nat.pow_le_pow_right (by omega) hxy
    rw [Nat.pow_succ] at this; omega
  rcases Nat.lt_or_gt_of_ne hm with hab | hab
  · have e1 : min a b = a := by omega
    have e2 : max a b = b := by omega
    have := hpow a b hab
    rw [e1] at q1 q2
    rw [e1, e2] at q3
    rw [e1, e2]
    generalize 3 ^ a = A at *
    generalize 3 ^ b = B at *
    generalize 3 ^ o = O at *
    omega
  · have e1 : min a b = b := by omega
    have e2 : max a b = a := by omega
    have := hpow b a hab
    rw [e1] at q1 q2
    rw [e1, e2] at q3
    rw [e1, e2]
    generalize 3 ^ a = A at *
    generalize 3 ^ b = B at *
    generalize 3 ^ o = O at *
    omega
def passP (E : List (Int × Int)) (x : List Nat × Bool) : List Nat × Bool := E.foldl (fun x p => (stepP x.1 p, x.2 || moved x.1 p)) x
theorem step_same {h : List Nat} {p : Int × Int} (hm : moved h p = false) : stepP h p = h := by
  simp only [moved, decide_eq_false_iff_not, Decidable.not_not] at hm
  simp only [stepP, if_pos hm]
theorem pass_mu : ∀ (E : List (Int × Int)) (h : List Nat) (ag : Bool), Heads h → (∀ p ∈ E, inP p) → Heads (passP E (h, ag)).1 ∧ mu (passP E (h, ag)).1 ≤ mu h ∧ ((passP E (h, ag)).2 = true → ag = true ∨ mu (passP E (h, ag)).1 < mu h) ∧
    ((passP E (h, ag)).2 = false → (passP E (h, ag)).1 = h ∧ ∀ p ∈ E, moved h p = false)
  | [], h, ag, H, hE => ⟨H, Nat.le_refl _, fun e => .inl e, fun _ => ⟨rfl, by simp⟩⟩
  | p :: E, h, ag, H, hE => by
    have hp := hE p (.head _)
    obtain ⟨q1, q2, q3, q4⟩ := pass_mu E (stepP h p) (ag || moved h p) (H.step hp) (fun q hq => hE q (.tail _ hq))
    have e : passP (p :: E) (h, ag) = passP E (stepP h p, ag || moved h p) := rfl
    rw [e]
    cases hm : moved h p with
    | true =>
      have hlt := mu_step H hp hm
      rw [hm] at q1 q2 q3 q4
      refine ⟨q1, by omega, fun _ => .inr (by omega), fun h0 => ?_⟩
      -- 'again' stays true
      have stay : ∀ (E : List (Int × Int)) (h : List Nat), (passP E (h, true)).2 = true := by
        intro E
        induction E with
        | nil => intro h; rfl
        | cons p E ih => intro h; exact ih (stepP h p)
      rw [Bool.or_true, stay] at h0
      cases h0
    | false =>
      have hs := step_same hm
      rw [hm, hs] at q1 q2 q3 q4
      rw [hs]
      refine ⟨q1, q2, fun h0 => ?_, fun h0 => ?_⟩
      · rcases q3 h0 with h | h
        · left; simpa using h
        · exact .inr h
      · obtain ⟨q5, q6⟩ := q4 h0
        refine ⟨q5, fun q hq => ?_⟩
        rcases List.mem_cons.1 hq with rfl | hq
        · exact hm
        · exact q6 q hq
theorem pass_keeps {Q : List Nat → Prop} (E0 : List (Int × Int)) (hQ : ∀ h p, Heads h → Q h → p ∈ E0 → Q (stepP h p)) : ∀ (E : List (Int × Int)) (h : List Nat) (ag : Bool), (∀ p ∈ E, p ∈ E0 ∧ inP p) → Heads h → Q h → Q (passP E (h, ag)).1
  | [], h, ag, _, H, q => q
  | p :: E, h, ag, hE, H, q => pass_keeps E0 hQ E (stepP h p) (ag || moved h p) (fun x hx => hE x (.tail _ hx)) (H.step (hE p (.head _)).2) (hQ h p H q (hE p (.head _)).1)

/-! ### the loops -/
theorem loop1_140 (c s : AV) (E : List (Int × Int)) (S : List Bx) (h : List Nat) (H : Heads h) (hE : ∀ p ∈ E, inP p) (hl : E.length ≤ 9223372036854775807) :
    aloopW (acode run a140_l1) (st1_140 c s E S h false 0) = some (out1_140 c s E S (passP E (h, false)).1 (passP E (h, false)).2) :=
  loop_fold (f := acode run a140_l1) E (fun (x : List Nat × Bool) i => st1_140 c s E S x.1 x.2 i) (fun x p => (stepP x.1 p, x.2 || moved x.1 p)) (fun x => out1_140 c s E S x.1 x.2) (fun _ x => Heads x.1) (b0 := (h, false)) H
    (fun i x p Hx hp => ⟨r1_140 c s E S x.1 x.2 i p Hx hp (hE p (List.mem_of_getElem? hp)) hl, Hx.step (hE p (List.mem_of_getElem? hp))⟩)
    (fun x Hx => by
      rw [acode_k]
      simp [a140_l1, st1_140, out1_140, l84, pairsAV])
    (fun _ => by simp [out1_140])
def st2_140 (c s : AV) (E : List (Int × Int)) (S : List Bx) (h : List Nat) (again : Bool) : St :=
  { σ := [(1, .l 1 0), (2, .l 2 0), (3, .l 3 0), (5, .v (.bool again))], own := [], loc := l84 c (pairsAV E) s h, S := S }
theorem r2_140 (c s : AV) (E : List (Int × Int)) (S : List Bx) (h : List Nat) (H : Heads h) (hE : ∀ p ∈ E, inP p) (hl : E.length ≤ 9223372036854775807) :
    acode run a140_l2 (st2_140 c s E S h true) = some (.normal, st2_140 c s E S (passP E (h, false)).1 (passP E (h, false)).2) := by
  have q := loop1_140 c s E S h H hE hl
  generalize passP E (h, false) = x at *
  rw [acode_k]
  simp only [st1_140, out1_140, Int.natCast_zero, Int.ofNat_zero, l84, pairsAV] at q
  simp [a140_l2, st2_140, l84, pairsAV, q]
def out2_140 (E : List (Int × Int)) (S : List Bx) (h : List Nat) : AEx × St :=
  (.exit 2, { σ := [(2, .l 2 0), (3, .l 3 0)], own := [], loc := [(2, { cells := zeros16, own := [] }), (3, { cells := h.map nav, own := [] })], S := S })
theorem loop2_140 (c s : AV) (E : List (Int × Int)) (S : List Bx) (hE : ∀ p ∈ E, inP p) (hl : E.length ≤ 9223372036854775807) {Q : List Nat → Prop} (hQ : ∀ h p, Heads h → Q h → p ∈ E → Q (stepP h p)) :
    ∀ (n : Nat) (h : List Nat), mu h ≤ n → Heads h → Q h → ∃ h', aloopW (acode run a140_l2) (st2_140 c s E S h true) = some (out2_140 E S h') ∧ Heads h' ∧ Q h' ∧ ∀ p ∈ E, moved h' p = false := by
  intro n
  induction n using Nat.strongRecOn with
  | ind n ih =>
    intro h hn H hq
    obtain ⟨q1, q2, q3, q4⟩ := pass_mu E h false H hE
    have qk := pass_keeps E hQ E h false (fun p hp => ⟨hp, hE p hp⟩) H hq
    have hr := r2_140 c s E S h H hE hl
    rw [aloopW_step hr]
    cases h2 : (passP E (h, false)).2 with
    | true =>
      rw [h2] at q3
      have hlt : mu (passP E (h, false)).1 < mu h := by
        rcases q3 rfl with h | h
        · cases h
        · exact h
      exact ih (mu (passP E (h, false)).1) (by omega) _ (Nat.le_refl _) q1 qk
    | false =>
      obtain ⟨q5, q6⟩ := q4 h2
      rw [q5]
      refine ⟨h, aloopW_stop ?_ (by simp [out2_140]), H, hq, q6⟩
      rw [acode_k]
      simp [a140_l2, st2_140, out2_140, l84]
theorem heads0 : Heads (List.range 16) := ⟨by simp, by simp⟩
theorem c140 (d : Dep) (S : List Bx) (hE : ∀ p ∈ d.equal, inP p) (hl : d.equal.length ≤ 9223372036854775807) {Q : List Nat → Prop} (hQ0 : Q (List.range 16)) (hQ : ∀ h p, Heads h → Q h → p ∈ d.equal → Q (stepP h p)) :
    ∃ h', run 140 [d.av] S = some (.ret (.agg (h'.map nav)) none, S) ∧ Heads h' ∧ Q h' ∧ ∀ p ∈ d.equal, moved h' p = false := by
  obtain ⟨h', e, H, q, m⟩ := loop2_140 (intsAV d.consts) (setsAV d.sets) d.equal S hE hl hQ _ (List.range 16) (Nat.le_refl _) heads0 hQ0
  refine ⟨h', eqn rfl ?_, H, q, m⟩
  have i := fun e => init140 (intsAV d.consts) e (setsAV d.sets) S
  simp only [st0_140, Int.natCast_zero, Int.ofNat_zero, l84] at i
  simp only [st2_140, out2_140, l84, pairsAV, intsAV, setsAV] at e i
  have hlen := H.len
  have i' := i (.slice 2 (d.equal.map pav))
  have hz : (List.range 0 ++ List.replicate (16 - 0) 0).map nav = zeros16 := rfl
  rw [hz] at i'
  have hlen2 : (h'.map nav).length = 16 := by rw [List.length_map]; exact hlen
  generalize h'.map nav = HV at *
  have ht : HV.take 16 = HV := List.take_of_length_le (by omega)
  simp [-List.reduceReplicate, a140, Dep.av, intsAV, pairsAV, setsAV, i', e, hlen2, ht]
end Go.Av
