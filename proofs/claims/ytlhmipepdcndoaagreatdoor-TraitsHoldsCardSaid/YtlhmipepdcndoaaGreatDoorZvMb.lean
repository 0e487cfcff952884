/- Part of a proof: Columns that are the same, and what is left of keys: plain laws. -/
import Derived.Test.YtlhmipepdcndoaaGreatDoorZvDe
set_option linter.unusedSimpArgs false
set_option linter.unusedVariables false
namespace Go.Av

/-- Columns that are the same by pairs. -/
inductive Conn (E : List (Int × Int)) : Nat → Nat → Prop where
  | refl (i : Nat) : Conn E i i
  | pair {p : Int × Int} (h : p ∈ E) : Conn E p.1.toNat p.2.toNat
  | symm {i j : Nat} (h : Conn E i j) : Conn E j i
  | trans {i j k : Nat} (h1 : Conn E i j) (h2 : Conn E j k) : Conn E i k
theorem Conn.lt {E : List (Int × Int)} (hE : ∀ p ∈ E, inP p) {i j : Nat} (h : Conn E i j) : i = j ∨ (i < 16 ∧ j < 16) := by
  induction h with
  | refl i => exact .inl rfl
  | pair h =>
    obtain ⟨h1, h2, h3, h4⟩ := hE _ h
    exact .inr ⟨by omega, by omega⟩
  | symm _ ih =>
    rcases ih with h | h
    · exact .inl h.symm
    · exact .inr ⟨h.2, h.1⟩
  | trans _ _ ih1 ih2 =>
    rcases ih1 with h | h
    · subst h; exact ih2
    · rcases ih2 with h' | h'
      · subst h'; exact .inr h
      · exact .inr ⟨h.1, h'.2⟩
def LowQ (E : List (Int × Int)) (h : List Nat) : Prop := ∀ i, i < 16 → h.getD i 0 ≤ i ∧ Conn E (h.getD i 0) i
theorem lowQ0 (E : List (Int × Int)) : LowQ E (List.range 16) := by
  intro i hi
  have : (List.range 16).getD i 0 = i := by simp [List.getD, hi]
  rw [this]
  exact ⟨Nat.le_refl _, .refl _⟩
theorem lowQ_step {E : List (Int × Int)} (hE : ∀ p ∈ E, inP p) (h : List Nat) (p : Int × Int) (H : Heads h) (q : LowQ E h) (hp : p ∈ E) : LowQ E (stepP h p) := by
  obtain ⟨h1, h2, h3, h4⟩ := hE p hp
  have hlen := H.len
  have la := (H.get (i := p.1.toNat) (by omega)).2
  have lb := (H.get (i := p.2.toNat) (by omega)).2
  obtain ⟨qa1, qa2⟩ := q p.1.toNat (by omega)
  obtain ⟨qb1, qb2⟩ := q p.2.toNat (by omega)
  have hpair : Conn E p.1.toNat p.2.toNat := .pair hp
  have hab : Conn E (h.getD p.1.toNat 0) (h.getD p.2.toNat 0) := (qa2.trans hpair).trans qb2.symm
  simp only [stepP]
  split
  · exact q
  · intro i hi
    rw [getD_set' _ _ _ _ (by rw [List.length_set, List.length_set]; omega), getD_set' _ _ _ _ (by rw [List.length_set]; omega), getD_set' _ _ _ _ (by omega)]
    generalize h.getD p.1.toNat 0 = a at *
    generalize h.getD p.2.toNat 0 = b at *
    have hm : min a b = a ∨ min a b = b := by omega
    have hM : max a b = a ∨ max a b = b := by omega
    have hmM : Conn E (min a b) (max a b) := by
      rcases hm with h | h <;> rcases hM with h' | h' <;> rw [h, h']
      · exact .refl _
      · exact hab
      · exact hab.symm
      · exact .refl _
    have hma : Conn E (min a b) a := by rcases hm with h | h <;> rw [h]; exact .refl _; exact hab.symm
    have hmb : Conn E (min a b) b := hma.trans hab
    split
    · rename_i e
      subst e
      exact ⟨by omega, hmM⟩
    · split
      · rename_i e
        subst e
        exact ⟨by omega, hmb.trans qb2⟩
      · split
        · rename_i e
          subst e
          exact ⟨by omega, hma.trans qa2⟩
        · exact q i hi
/-- Heads that are settled. -/
structure Good (E : List (Int × Int)) (h : List Nat) : Prop where
  H : Heads h
  q : LowQ E h
  m : ∀ p ∈ E, moved h p = false
theorem Good.same {E : List (Int × Int)} (hE : ∀ p ∈ E, inP p) {h : List Nat} (g : Good E h) {i j : Nat} (c : Conn E i j) : h.getD i 0 = h.getD j 0 := by
  induction c with
  | refl i => rfl
  | pair hp => have := g.m _ hp; simpa [moved] using this
  | symm _ ih => exact ih.symm
  | trans _ _ ih1 ih2 => exact ih1.trans ih2
theorem Good.conn {E : List (Int × Int)} {h : List Nat} (g : Good E h) {i j : Nat} (hi : i < 16) (hj : j < 16) (e : h.getD i 0 = h.getD j 0) : Conn E i j := by
  have h1 := (g.q i hi).2
  have h2 := (g.q j hj).2
  rw [e] at h1
  exact h1.symm.trans h2
theorem Good.least {E : List (Int × Int)} (hE : ∀ p ∈ E, inP p) {h : List Nat} (g : Good E h) {i j : Nat} (hi : i < 16) (c : Conn E j i) : h.getD i 0 ≤ j := by
  have hj : j < 16 := by rcases c.lt hE with e | e <;> omega
  rw [← g.same hE c]
  exact (g.q j hj).1
theorem good_unique {E : List (Int × Int)} (hE : ∀ p ∈ E, inP p) {h k : List Nat} (g : Good E h) (g' : Good E k) : h = k := by
  apply List.ext_getElem?
  intro i
  by_cases hi : i < 16
  · rw [(g.H.get hi).1, (g'.H.get hi).1]
    congr 1
    have h1 := g.least hE hi (g'.q i hi).2
    have h2 := g'.least hE hi (g.q i hi).2
    omega
  · have hl := g.H.len
    have hl' := g'.H.len
    rw [List.getElem?_eq_none (by omega), List.getElem?_eq_none (by omega)]
open Classical in
/-- The heads. -/
noncomputable def hOf (E : List (Int × Int)) : List Nat := if h : ∃ h, Good E h then h.choose else []
theorem hOf_good {E : List (Int × Int)} {h : List Nat} (g : Good E h) : Good E (hOf E) := by
  unfold hOf
  rw [dif_pos ⟨h, g⟩]
  exact Exists.choose_spec (p := fun h => Good E h) ⟨h, g⟩
theorem hOf_eq {E : List (Int × Int)} (hE : ∀ p ∈ E, inP p) {h : List Nat} (g : Good E h) : h = hOf E := good_unique hE g (hOf_good g)
noncomputable def headK (E : List (Int × Int)) (c : Int) : Nat := (hOf E).getD c.toNat 0
noncomputable def fixedK (d : Dep) (by' : List Int) (c : Int) : Bool := (by' ++ d.consts).any fun b => decide (headK d.equal b = headK d.equal c)
noncomputable def settledK (d : Dep) (by' : List Int) (c : Int) : Bool := fixedK d by' c || d.sets.any fun set => set.all (fixedK d by')
noncomputable def redStepK (d : Dep) (x : List Int × List K) (k : K) : List Int × List K :=
  (x.1 ++ [k.c], if settledK d x.1 k.c then x.2 else x.2 ++ [⟨(headK d.equal k.c : Nat), k.d⟩])
noncomputable def reduceK (d : Dep) (ks : List K) : List K := (ks.foldl (redStepK d) ([], [])).2
/-- The marks are those of these columns. -/
def MarksOf (h : List Nat) (is : List Bool) (cs : List Int) : Prop := is.length = 16 ∧ ∀ i, i < 16 → is.getD i false = cs.any fun b => decide (h.getD b.toNat 0 = i)
theorem getD_setB (h : List Bool) (i j : Nat) (v : Bool) (hi : i < h.length) : (h.set i v).getD j false = if i = j then v else h.getD j false := by
  simp only [List.getD, List.getElem?_set]
  by_cases e : i = j
  · subst e; simp [hi]
  · simp [e]
theorem MarksOf.add {h : List Nat} (H : Heads h) {is : List Bool} {cs : List Int} (m : MarksOf h is cs) {c : Int} (hc : inC c) : MarksOf h (is.set (h.getD c.toNat 0) true) (cs ++ [c]) := by
  have l1 := (H.get (i := c.toNat) (by have := hc.1; have := hc.2; omega)).2
  refine ⟨by rw [List.length_set]; exact m.1, fun i hi => ?_⟩
  rw [getD_setB _ _ _ _ (by rw [m.1]; exact l1), m.2 i hi]
  rw [List.any_append, List.any_cons, List.any_nil, Bool.or_false]
  by_cases e : h.getD c.toNat 0 = i
  · rw [if_pos e, decide_eq_true e, Bool.or_true]
  · rw [if_neg e, decide_eq_false e, Bool.or_false]
theorem MarksOf.perm {h : List Nat} {is : List Bool} {cs cs' : List Int} (m : MarksOf h is cs) (hp : ∀ b, b ∈ cs ↔ b ∈ cs') : MarksOf h is cs' := by
  refine ⟨m.1, fun i hi => ?_⟩
  rw [m.2 i hi, Bool.eq_iff_iff, List.any_eq_true, List.any_eq_true]
  constructor
  · rintro ⟨b, h1, h2⟩; exact ⟨b, (hp b).1 h1, h2⟩
  · rintro ⟨b, h1, h2⟩; exact ⟨b, (hp b).2 h1, h2⟩
theorem marks_of {h : List Nat} (H : Heads h) : ∀ (cs : List Int) (is : List Bool) (pre : List Int), (∀ c ∈ cs, inC c) → MarksOf h is pre → MarksOf h (cs.foldl (fun is c => is.set (h.getD c.toNat 0) true) is) (pre ++ cs)
  | [], is, pre, _, m => by simpa using m
  | c :: cs, is, pre, hc, m => by
    have := marks_of H cs _ (pre ++ [c]) (fun x hx => hc x (.tail _ hx)) (m.add H (hc c (.head _)))
    simpa using this
theorem marks0 (h : List Nat) : MarksOf h (List.replicate 16 false) [] := by
  refine ⟨by simp, fun i hi => ?_⟩
  simp [-List.reduceReplicate, List.getD, List.getElem?_replicate, hi]
theorem isAtH_fixed {d : Dep} (hd : d.In) (g : Good d.equal (hOf d.equal)) {is : List Bool} {by' : List Int} (m : MarksOf (hOf d.equal) is (by' ++ d.consts)) {c : Int} (hc : inC c) : isAtH (hOf d.equal) is c = fixedK d by' c := by
  have l1 := (g.H.get (i := c.toNat) (by have := hc.1; have := hc.2; omega)).2
  unfold isAtH fixedK headK
  rw [m.2 _ l1]
theorem all_congr {α : Type} {p q : α → Bool} : ∀ {l : List α}, (∀ x ∈ l, p x = q x) → l.all p = l.all q
  | [], _ => rfl
  | x :: l, h => by rw [List.all_cons, List.all_cons, h x (.head _), all_congr (fun y hy => h y (.tail _ hy))]
theorem any_congr' {α : Type} {p q : α → Bool} : ∀ {l : List α}, (∀ x ∈ l, p x = q x) → l.any p = l.any q
  | [], _ => rfl
  | x :: l, h => by rw [List.any_cons, List.any_cons, h x (.head _), any_congr' (fun y hy => h y (.tail _ hy))]
theorem settledB_K {d : Dep} (hd : d.In) (g : Good d.equal (hOf d.equal)) {is : List Bool} {by' : List Int} (m : MarksOf (hOf d.equal) is (by' ++ d.consts)) {c : Int} (hc : inC c) : settledB (hOf d.equal) d.sets is c = settledK d by' c := by
  unfold settledB settledK
  rw [isAtH_fixed hd g m hc]
  congr 1
  exact any_congr' fun set hs => all_congr fun x hx => isAtH_fixed hd g m ((hd.s set hs).2 x hx)
theorem fold_red {d : Dep} (hd : d.In) (g : Good d.equal (hOf d.equal)) : ∀ (ks : List K) (is : List Bool) (by' : List Int) (acc : List K), (∀ k ∈ ks, inC k.c) → MarksOf (hOf d.equal) is (by' ++ d.consts) →
    (ks.foldl (redStep (hOf d.equal) d.sets) (is, acc)).2 = (ks.foldl (redStepK d) (by', acc)).2
  | [], is, by', acc, _, m => rfl
  | k :: ks, is, by', acc, hk, m => by
    have hc := hk k (.head _)
    simp only [List.foldl_cons]
    have e1 : redStep (hOf d.equal) d.sets (is, acc) k = (is.set ((hOf d.equal).getD k.c.toNat 0) true, if settledK d by' k.c then acc else acc ++ [⟨(headK d.equal k.c : Nat), k.d⟩]) := by
      simp only [redStep, settledB_K hd g m hc]
      rfl
    have e2 : redStepK d (by', acc) k = (by' ++ [k.c], if settledK d by' k.c then acc else acc ++ [⟨(headK d.equal k.c : Nat), k.d⟩]) := rfl
    rw [e1, e2]
    exact fold_red hd g ks _ _ _ (fun x hx => hk x (.tail _ hx)) ((m.add g.H hc).perm fun b => by simp; constructor <;> (intro h; rcases h with h | h | h <;> simp [h]))
theorem reducedP_K {d : Dep} (hd : d.In) {h : List Nat} (g : Good d.equal h) (ks : List K) (hk : ∀ k ∈ ks, inC k.c) : reducedP h d ks = reduceK d ks := by
  have e := hOf_eq hd.e g
  subst e
  unfold reducedP reduceK
  refine fold_red hd g ks _ [] [] hk ?_
  have := marks_of g.H d.consts (List.replicate 16 false) [] hd.c (marks0 _)
  simpa [marks] using this
/-- reduced, told. -/
theorem c80k (d : Dep) (ks : List K) (S : List Bx) (hd : d.In) (hk : ∀ k ∈ ks, inC k.c) (hkl : ks.length ≤ 1000) :
    run 80 [d.av, keysAV ks] S = some (.ret (keysAV (reduceK d ks)) (some 52), S) ∧ Good d.equal (hOf d.equal) := by
  obtain ⟨h', e, H, q, m⟩ := c80 d ks S hd hk hkl (lowQ0 d.equal) (fun h p H q hp => lowQ_step hd.e h p H q hp)
  have g : Good d.equal h' := ⟨H, q, m⟩
  rw [reducedP_K hd g ks hk] at e
  exact ⟨e, hOf_good g⟩
end Go.Av
