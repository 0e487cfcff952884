/- Part of a proof: Reduce of Reduce, beginnings: plain laws. -/
import Derived.Test.YtlhmipepdcndoaaDoorAvMd
set_option linter.unusedSimpArgs false
set_option linter.unusedVariables false
namespace Go.Av

theorem commonK_symmE : ∀ (a b : List K), (commonK a b) = (commonK b a)
  | [], [] => rfl
  | [], b :: r => rfl
  | a :: l, [] => rfl
  | a :: l, b :: r => by
    simp only [commonK]
    by_cases h : a = b
    · subst h; simp [commonK_symmE l r]
    · have : ¬ b = a := fun e => h e.symm
      simp [h, this]
theorem begP_prefix {a b : List K} : begP a b = true ↔ b <+: a := by
  unfold begP
  rw [decide_eq_true_eq]
  constructor
  · intro h
    have e := commonK_symmE a b
    have h1 := commonK_take b a
    rw [← e] at h1
    have h2 := commonK_take a b
    rw [h] at h1 h2
    rw [List.take_length] at h1
    rw [← h1] at h2
    have h3 := List.take_append_drop b.length a
    rw [h2] at h3
    exact ⟨_, h3⟩
  · rintro ⟨t, rfl⟩
    have : ∀ (b t : List K), (commonK (b ++ t) b).length = b.length := by
      intro b t
      induction b with
      | nil => cases t <;> simp [commonK]
      | cons x b ih => simp [commonK, ih]
    exact this b t
theorem redStepK_out (d : Dep) (x : List Int × List K) (k : K) : ∃ t, (redStepK d x k).2 = x.2 ++ t := by
  unfold redStepK
  simp only
  split
  · exact ⟨[], by simp⟩
  · exact ⟨_, rfl⟩
theorem fold_out (d : Dep) : ∀ (ks : List K) (x : List Int × List K), ∃ t, (ks.foldl (redStepK d) x).2 = x.2 ++ t
  | [], x => ⟨[], by simp⟩
  | k :: ks, x => by
    obtain ⟨t1, h1⟩ := redStepK_out d x k
    obtain ⟨t2, h2⟩ := fold_out d ks (redStepK d x k)
    exact ⟨t1 ++ t2, by rw [List.foldl_cons, h2, h1, List.append_assoc]⟩
/-- Each list implies its beginnings. -/
theorem reduce_take (d : Dep) (ks : List K) (n : Nat) : reduceK d (ks.take n) <+: reduceK d ks := by
  unfold reduceK
  have e : ks.foldl (redStepK d) ([], []) = (ks.drop n).foldl (redStepK d) ((ks.take n).foldl (redStepK d) ([], [])) := by
    rw [← List.foldl_append, List.take_append_drop]
  rw [e]
  obtain ⟨t, h⟩ := fold_out d (ks.drop n) ((ks.take n).foldl (redStepK d) ([], []))
  exact ⟨t, h.symm⟩
/-! ### Reduce of Reduce -/
theorem fixedK_iff (d : Dep) (by' : List Int) (c : Int) : fixedK d by' c = true ↔ ∃ b, (b ∈ by' ∨ b ∈ d.consts) ∧ headK d.equal b = headK d.equal c := by
  unfold fixedK
  rw [List.any_eq_true]
  simp only [List.mem_append, decide_eq_true_eq]
/-- Columns that settle the same. -/
def Alike (d : Dep) (x y : List Int) : Prop := ∀ h, (∃ b, (b ∈ x ∨ b ∈ d.consts) ∧ headK d.equal b = h) ↔ (∃ b, (b ∈ y ∨ b ∈ d.consts) ∧ headK d.equal b = h)
theorem Alike.fixed {d : Dep} {x y : List Int} (h : Alike d x y) (c : Int) : fixedK d x c = fixedK d y c := by
  rw [Bool.eq_iff_iff, fixedK_iff, fixedK_iff]
  exact h _
theorem Alike.settled {d : Dep} {x y : List Int} (h : Alike d x y) (c : Int) : settledK d x c = settledK d y c := by
  unfold settledK
  rw [h.fixed c]
  congr 1
  exact any_congr' fun set _ => all_congr fun b _ => h.fixed b
/-- A set is there: all is settled. -/
noncomputable def full' (d : Dep) (x : List Int) : Bool := d.sets.any fun set => set.all (fixedK d x)
theorem fixed_mono {d : Dep} {x : List Int} {c b : Int} (h : fixedK d x b = true) : fixedK d (x ++ [c]) b = true := by
  rw [fixedK_iff] at h ⊢
  obtain ⟨e, he, q⟩ := h
  refine ⟨e, ?_, q⟩
  rcases he with he | he
  · exact .inl (by simp [he])
  · exact .inr he
theorem full_mono {d : Dep} {x : List Int} {c : Int} (h : full' d x = true) : full' d (x ++ [c]) = true := by
  unfold full' at *
  rw [List.any_eq_true] at h ⊢
  obtain ⟨set, hs, ha⟩ := h
  refine ⟨set, hs, ?_⟩
  rw [List.all_eq_true] at ha ⊢
  exact fun b hb => fixed_mono (ha b hb)
theorem settled_full {d : Dep} {x : List Int} {c : Int} (h : full' d x = true) : settledK d x c = true := by
  unfold settledK
  have : (d.sets.any fun set => set.all (fixedK d x)) = true := h
  rw [this]; simp
/-- The head's head. -/
theorem headK_head {d : Dep} (hd : d.In) (g : Good d.equal (hOf d.equal)) {c : Int} (hc : inC c) : headK d.equal ((headK d.equal c : Nat) : Int) = headK d.equal c := by
  have hcn : c.toNat < 16 := by have := hc.1; have := hc.2; omega
  have := (g.q c.toNat hcn).2
  have := g.same hd.e this
  unfold headK at *
  rw [Int.toNat_natCast]
  exact this
/-- What the first pass has left, run again beside it. -/
theorem reduce_again {d : Dep} (hd : d.In) (g : Good d.equal (hOf d.equal)) : ∀ (ks : List K) (x y : List Int) (acc : List K), (∀ k ∈ ks, inC k.c) → (full' d x = true ∨ Alike d x y) → 
    ∃ t y', (ks.foldl (redStepK d) (x, acc)).2 = acc ++ t ∧ ∀ acc', t.foldl (redStepK d) (y, acc') = (y', acc' ++ t)
  | [], x, y, acc, _, _ => ⟨[], y, by simp, fun acc' => by simp⟩
  | k :: ks, x, y, acc, hk, hxy => by
    have hc := hk k (.head _)
    simp only [List.foldl_cons]
    cases hs : settledK d x k.c with
    | true =>
      have e : redStepK d (x, acc) k = (x ++ [k.c], acc) := by simp [redStepK, hs]
      rw [e]
      refine reduce_again hd g ks (x ++ [k.c]) y acc (fun q hq => hk q (.tail _ hq)) ?_
      rcases hxy with hf | ha
      · exact .inl (full_mono hf)
      · -- settled by what is there, or by a set
        cases hff : full' d x with
        | true => exact .inl (full_mono hff)
        | false =>
          right
          have hfix : fixedK d x k.c = true := by
            unfold settledK at hs
            have : (d.sets.any fun set => set.all (fixedK d x)) = false := hff
            rw [this, Bool.or_false] at hs
            exact hs
          rw [fixedK_iff] at hfix
          obtain ⟨b, hb, he⟩ := hfix
          intro h
          rw [← ha h]
          constructor
          · rintro ⟨c, hc', q⟩
            rcases hc' with hc' | hc'
            · rcases List.mem_append.1 hc' with h1 | h1
              · exact ⟨c, .inl h1, q⟩
              · rw [List.mem_singleton.1 h1] at q
                exact ⟨b, hb, he.trans q⟩
            · exact ⟨c, .inr hc', q⟩
          · rintro ⟨c, hc', q⟩
            rcases hc' with hc' | hc'
            · exact ⟨c, .inl (by simp [hc']), q⟩
            · exact ⟨c, .inr hc', q⟩
    | false =>
      have hnf : full' d x = false := by
        cases h : full' d x with
        | false => rfl
        | true => rw [settled_full h] at hs; cases hs
      have ha : Alike d x y := by
        rcases hxy with h | h
        · rw [hnf] at h; cases h
        · exact h
      have e : redStepK d (x, acc) k = (x ++ [k.c], acc ++ [⟨(headK d.equal k.c : Nat), k.d⟩]) := by simp [redStepK, hs]
      rw [e]
      have hhh := headK_head hd g hc
      have hinh : inC ((headK d.equal k.c : Nat) : Int) := by
        have hcn : k.c.toNat < 16 := by have := hc.1; have := hc.2; omega
        have := (g.q k.c.toNat hcn).1
        unfold headK inC
        omega
      have hal : Alike d (x ++ [k.c]) (y ++ [((headK d.equal k.c : Nat) : Int)]) := by
        intro h
        constructor
        · rintro ⟨c, hc', q⟩
          rcases hc' with hc' | hc'
          · rcases List.mem_append.1 hc' with h1 | h1
            · obtain ⟨b, hb, e⟩ := (ha h).1 ⟨c, .inl h1, q⟩
              exact ⟨b, hb.imp (fun hb => by simp [hb]) id, e⟩
            · rw [List.mem_singleton.1 h1] at q
              exact ⟨((headK d.equal k.c : Nat) : Int), .inl (by simp), hhh.trans q⟩
          · exact ⟨c, .inr hc', q⟩
        · rintro ⟨c, hc', q⟩
          rcases hc' with hc' | hc'
          · rcases List.mem_append.1 hc' with h1 | h1
            · obtain ⟨b, hb, e⟩ := (ha h).2 ⟨c, .inl h1, q⟩
              exact ⟨b, hb.imp (fun hb => by simp [hb]) id, e⟩
            · rw [List.mem_singleton.1 h1] at q
              exact ⟨k.c, .inl (by simp), hhh.symm.trans q⟩
          · exact ⟨c, .inr hc', q⟩
      obtain ⟨t, y', h1, h2⟩ := reduce_again hd g ks (x ++ [k.c]) (y ++ [((headK d.equal k.c : Nat) : Int)]) (acc ++ [⟨(headK d.equal k.c : Nat), k.d⟩]) (fun q hq => hk q (.tail _ hq)) (.inr hal)
      refine ⟨⟨(headK d.equal k.c : Nat), k.d⟩ :: t, y', by rw [h1]; simp, fun acc' => ?_⟩
      rw [List.foldl_cons]
      have hs' : settledK d y ((headK d.equal k.c : Nat) : Int) = false := by
        rw [← ha.settled]
        unfold settledK at hs ⊢
        have : fixedK d x ((headK d.equal k.c : Nat) : Int) = fixedK d x k.c := by
          rw [Bool.eq_iff_iff, fixedK_iff, fixedK_iff, hhh]
        rw [this]; exact hs
      have e2 : redStepK d (y, acc') ⟨(headK d.equal k.c : Nat), k.d⟩ = (y ++ [((headK d.equal k.c : Nat) : Int)], acc' ++ [⟨(headK d.equal k.c : Nat), k.d⟩]) := by
        simp [redStepK, hs', hhh]
      rw [e2, h2]
      simp
theorem reduceK_idem {d : Dep} (hd : d.In) (g : Good d.equal (hOf d.equal)) (ks : List K) (hk : ∀ k ∈ ks, inC k.c) : reduceK d (reduceK d ks) = reduceK d ks := by
  obtain ⟨t, y', h1, h2⟩ := reduce_again hd g ks [] [] [] hk (.inr fun h => Iff.rfl)
  have e : reduceK d ks = t := by unfold reduceK; rw [h1]; simp
  rw [e]
  unfold reduceK
  rw [h2]; simp
theorem reduceK_in {d : Dep} (g : Good d.equal (hOf d.equal)) {n : Nat} (hn : n ≤ 16) : ∀ (ks : List K) (x : List Int × List K), (∀ k ∈ ks, 0 ≤ k.c ∧ k.c < n) → (∀ k ∈ x.2, 0 ≤ k.c ∧ k.c < n) → ∀ k ∈ (ks.foldl (redStepK d) x).2, 0 ≤ k.c ∧ k.c < n
  | [], x, _, hx => hx
  | k :: ks, x, hk, hx => by
    refine reduceK_in g hn ks (redStepK d x k) (fun q hq => hk q (.tail _ hq)) ?_
    have hkk := hk k (.head _)
    have hle := (g.q k.c.toNat (by omega)).1
    intro q hq
    simp only [redStepK] at hq
    split at hq
    · exact hx q hq
    · rcases List.mem_append.1 hq with h | h
      · exact hx q h
      · rw [List.mem_singleton.1 h]
        simp only
        unfold headK
        omega
end Go.Av
