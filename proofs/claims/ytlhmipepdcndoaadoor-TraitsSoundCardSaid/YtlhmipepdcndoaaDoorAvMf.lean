/- Part of a proof: What is known holds: keys and what is left of them order alike. -/
import Derived.Test.YtlhmipepdcndoaaDoorAvDj
import Derived.Test.YtlhmipepdcndoaaDoorAvMe
import Derived.Test.YtlhmipepdcndoaaDoorAvMd
set_option linter.unusedSimpArgs false
set_option linter.unusedVariables false
namespace Go.Av

theorem cmpL_eq : ∀ {l r : List UInt8}, cmpL l r = 0 → l = r
  | [], [], _ => rfl
  | [], _ :: _, h => by simp [cmpL] at h
  | _ :: _, [], h => by simp [cmpL] at h
  | a :: l, b :: r, h => by
    simp only [cmpL] at h
    split at h
    · rename_i e
      rw [e, cmpL_eq h]
    · split at h <;> cases h
theorem cmpL_self : ∀ (l : List UInt8), cmpL l l = 0
  | [] => rfl
  | a :: l => by simp [cmpL, cmpL_self l]
theorem cmpV_zero {a b : V} : cmpV a b = 0 ↔ a = b := by
  obtain ⟨a1, a2, a3⟩ := a
  obtain ⟨b1, b2, b3⟩ := b
  unfold cmpV
  constructor
  · intro h
    simp only at h
    split at h
    · split at h <;> cases h
    · rename_i h1
      split at h
      · split at h <;> cases h
      · rename_i h2
        have := cmpL_eq h
        simp only [ne_eq, Decidable.not_not] at h1 h2
        rw [h1, h2, this]
  · intro h
    cases h
    simp [cmpL_self]
theorem keyCmp_zero {k : K} {a b : List V} : keyCmp k a b = 0 ↔ vAt a k.c = vAt b k.c := by
  unfold keyCmp
  rw [← cmpV_zero]
  split <;> omega
theorem cmpRow_refl (a : List V) : cmpRow a a = 0 := by have := cmpRow_anti a a; omega

/-- Two rows of which what is known holds. -/
structure Diff (f : Dep) (a b : List V) : Prop where
  c : ∀ c ∈ f.consts, vAt a c = vAt b c
  ea : ∀ p ∈ f.equal, vAt a p.1 = vAt a p.2
  eb : ∀ p ∈ f.equal, vAt b p.1 = vAt b p.2
  s : ∀ s ∈ f.sets, cmpRow (atR a s) (atR b s) ≠ 0
theorem Diff.symm {f : Dep} {a b : List V} (h : Diff f a b) : Diff f b a :=
  ⟨fun c hc => (h.c c hc).symm, h.eb, h.ea, fun s hs => by have := h.s s hs; have := cmpRow_anti (atR a s) (atR b s); omega⟩
theorem conn_vAt {E : List (Int × Int)} {a : List V} (h : ∀ p ∈ E, vAt a p.1 = vAt a p.2) {i j : Nat} (c : Conn E i j) : a.getD i ⟨0, 0, []⟩ = a.getD j ⟨0, 0, []⟩ := by
  induction c with
  | refl i => rfl
  | pair hp => exact h _ hp
  | symm _ ih => exact ih.symm
  | trans _ _ h1 h2 => exact h1.trans h2
theorem head_vAt {f : Dep} (g : Good f.equal (hOf f.equal)) {a : List V} (h : ∀ p ∈ f.equal, vAt a p.1 = vAt a p.2) {c : Int} (hc : inC c) : vAt a ((headK f.equal c : Nat) : Int) = vAt a c := by
  obtain ⟨h1, h2⟩ := hc
  exact conn_vAt h (g.q c.toNat (by omega)).2
theorem same_vAt {f : Dep} (g : Good f.equal (hOf f.equal)) {a : List V} (h : ∀ p ∈ f.equal, vAt a p.1 = vAt a p.2) {c b : Int} (hc : inC c) (hb : inC b) (e : headK f.equal b = headK f.equal c) : vAt a b = vAt a c := by
  rw [← head_vAt g h hb, ← head_vAt g h hc, e]
theorem fixed_vAt {f : Dep} (hd : f.In) (g : Good f.equal (hOf f.equal)) {a b : List V} (h : Diff f a b) {x : List Int} (hx : ∀ c ∈ x, inC c ∧ vAt a c = vAt b c) {c : Int} (hc : inC c) (hf : fixedK f x c = true) : vAt a c = vAt b c := by
  rw [fixedK_iff] at hf
  obtain ⟨e, he, q⟩ := hf
  have he' : inC e ∧ vAt a e = vAt b e := by
    rcases he with he | he
    · exact hx e he
    · exact ⟨hd.c e he, h.c e he⟩
  rw [← same_vAt g h.ea hc he'.1 q, ← same_vAt g h.eb hc he'.1 q]
  exact he'.2
theorem settled_vAt {f : Dep} (hd : f.In) (g : Good f.equal (hOf f.equal)) {a b : List V} (h : Diff f a b) {x : List Int} (hx : ∀ c ∈ x, inC c ∧ vAt a c = vAt b c) {c : Int} (hc : inC c) (hf : settledK f x c = true) : vAt a c = vAt b c := by
  simp only [settledK, Bool.or_eq_true, List.any_eq_true, List.all_eq_true] at hf
  rcases hf with hf | ⟨s, hs, hf⟩
  · exact fixed_vAt hd g h hx hc hf
  · exfalso
    refine h.s s hs ?_
    have : atR a s = atR b s := by
      simp only [atR]
      refine List.map_congr_left fun c hcs => ?_
      exact fixed_vAt hd g h hx ((hd.s s hs).2 c hcs) (hf c hcs)
    rw [this]
    exact cmpRow_refl _
theorem fold_out' (d : Dep) : ∀ (ks : List K) (x : List Int) (o : List K), (ks.foldl (redStepK d) (x, o)).2 = o ++ (ks.foldl (redStepK d) (x, [])).2
  | [], x, o => by simp
  | k :: ks, x, o => by
    simp only [List.foldl_cons, redStepK]
    split
    · rw [fold_out' d ks _ o]
    · rw [fold_out' d ks _ (o ++ _), fold_out' d ks _ ([] ++ _)]
      simp
theorem reduce_cmp {f : Dep} (hd : f.In) (g : Good f.equal (hOf f.equal)) {a b : List V} (h : Diff f a b) : ∀ (ks : List K) (x : List Int), (∀ k ∈ ks, inC k.c) → (∀ c ∈ x, inC c ∧ vAt a c = vAt b c) →
    keysCmp (ks.foldl (redStepK f) (x, [])).2 a b = keysCmp ks a b
  | [], x, hk, hx => rfl
  | k :: ks, x, hk, hx => by
    have hc := hk k (.head _)
    have ih := fun (e : vAt a k.c = vAt b k.c) => reduce_cmp hd g h ks (x ++ [k.c]) (fun k' h' => hk k' (.tail _ h')) (fun c hcx => by
      rcases List.mem_append.1 hcx with h' | h'
      · exact hx c h'
      · obtain rfl := List.mem_singleton.1 h'
        exact ⟨hc, e⟩)
    simp only [List.foldl_cons, redStepK]
    split
    · rename_i hs
      have e := settled_vAt hd g h hx hc hs
      rw [ih e, keysCmp, if_pos (keyCmp_zero.2 e)]
    · rename_i hs
      have hk' : keyCmp ⟨(headK f.equal k.c : Nat), k.d⟩ a b = keyCmp k a b := by
        simp only [keyCmp]
        rw [head_vAt g h.ea hc, head_vAt g h.eb hc]
      rw [fold_out']
      simp only [List.nil_append, List.cons_append]
      rw [keysCmp, keysCmp, hk']
      by_cases e : keyCmp k a b = 0
      · rw [if_pos e, if_pos e]; exact ih (keyCmp_zero.1 e)
      · rw [if_neg e, if_neg e]
theorem reduceK_cmp {f : Dep} (hd : f.In) (g : Good f.equal (hOf f.equal)) {a b : List V} (h : Diff f a b) (ks : List K) (hk : ∀ k ∈ ks, inC k.c) : keysCmp (reduceK f ks) a b = keysCmp ks a b :=
  reduce_cmp hd g h ks [] hk (by simp)

/-! ### rows in order -/
theorem sorted_congr {k1 k2 : List K} : ∀ {l : List (List V)}, l.Pairwise (fun a b => keysCmp k1 a b = keysCmp k2 a b) → sortedB k1 l = sortedB k2 l
  | [], _ => rfl
  | [a], _ => rfl
  | a :: b :: l, h => by
    rw [List.pairwise_cons] at h
    simp only [sortedB]
    rw [h.1 b (.head _), sorted_congr h.2]
theorem sorted_reduce {f : Dep} (hd : f.In) (g : Good f.equal (hOf f.equal)) {l : List (List V)} (h : l.Pairwise (Diff f)) (ks : List K) (hk : ∀ k ∈ ks, inC k.c) : sortedB (reduceK f ks) l = sortedB ks l :=
  sorted_congr (h.imp fun h => reduceK_cmp hd g h ks hk)
theorem keysCmp_prefix {k1 k2 : List K} (h : k1 <+: k2) {a b : List V} (h2 : keysCmp k2 a b ≤ 0) : keysCmp k1 a b ≤ 0 := by
  obtain ⟨t, rfl⟩ := h
  rw [keysCmp_append] at h2
  split at h2 <;> omega
theorem sorted_prefix {k1 k2 : List K} (h : k1 <+: k2) : ∀ {l : List (List V)}, sortedB k2 l = true → sortedB k1 l = true
  | [], _ => rfl
  | [a], _ => rfl
  | a :: b :: l, h2 => by
    simp only [sortedB, Bool.and_eq_true, decide_eq_true_eq] at h2 ⊢
    exact ⟨keysCmp_prefix h h2.1, sorted_prefix h h2.2⟩
theorem merge_perm (ks : List K) : ∀ (a b : List (List V)), (mergeR ks a b).Perm (a ++ b) := by
  intro a b
  fun_induction mergeR ks a b with
  | case1 b => exact List.Perm.refl _
  | case2 a h => simp
  | case3 x a y b h ih => exact List.Perm.cons x ih
  | case4 x a y b h ih => exact (List.Perm.cons y ih).trans (List.perm_middle.symm)
theorem ordered_perm (ks : List K) : ∀ (l : List (List V)), (orderedR ks l).Perm l := by
  intro l
  fun_induction orderedR ks l with
  | case1 l h => exact List.Perm.refl _
  | case2 l h ih1 ih2 =>
    refine (merge_perm ks _ _).trans ((ih1.append ih2).trans ?_)
    rw [List.take_append_drop]
theorem diff_perm {f : Dep} {l r : List (List V)} (h : l.Pairwise (Diff f)) (p : r.Perm l) : r.Pairwise (Diff f) :=
  p.symm.pairwise h (fun h => h.symm)

/-! ### Holds -/
theorem holds_nil (f : Dep) : holdsB f [] = true := rfl
theorem holds_pairs {f : Dep} {l : List (List V)} (h : holdsB f l = true) : l.Pairwise (Diff f) := by
  rw [List.pairwise_iff_getElem]
  intro i j hi hj hij
  simp only [holdsB, List.all_eq_true, List.mem_range] at h
  have gi := h i hi
  have gj := h j hj
  simp only [rowB, constB, equalB, setB1, Bool.and_eq_true, List.all_eq_true, List.mem_range, eqV_iff, Bool.not_eq_true', decide_eq_false_iff_not] at gi gj
  have ei : l.getD i [] = l[i] := by simp [List.getD, hi]
  have ej : l.getD j [] = l[j] := by simp [List.getD, hj]
  rw [ei] at gi
  rw [ej] at gj
  refine ⟨fun c hc => ?_, gi.1.2, gj.1.2, fun s hs => ?_⟩
  · rw [gi.1.1 c hc, gj.1.1 c hc]
  · have := gj.2 s hs i hij
    rw [ei] at this
    have q := cmpRow_anti (atR l[j] s) (atR l[i] s)
    omega
theorem kept_holds (f : Dep) (l : List (List V)) : holdsB f (keptR f l) = true := by
  have : ∀ (m : List (List V)) (out : List (List V)), holdsB f out = true → holdsB f (m.foldl (keptStep f) out) = true := by
    intro m
    induction m with
    | nil => intro out h; exact h
    | cons r m ih =>
      intro out h
      refine ih _ ?_
      unfold keptStep
      split
      · assumption
      · exact h
  exact this l [] rfl
end Go.Av
