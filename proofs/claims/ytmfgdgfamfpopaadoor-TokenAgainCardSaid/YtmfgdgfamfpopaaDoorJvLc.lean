/- Part of a proof: TokenAgain. -/
import Derived.Test.YtmfgdgfamfpopaaDoorJvLb
set_option maxRecDepth 100000
set_option linter.unusedSimpArgs false
set_option linter.unusedVariables false
namespace Go.Av
open Go Go.Proofs Go.RowKit

def blankAt (s : List UInt8) (k : Nat) : Prop := ∃ c, s[k]? = some c ∧ blankB c = true
/-- The tokens stand where they say. -/
def Lay (s : List UInt8) : Nat → List Tok → Prop
  | fr, [] => fr ≤ s.length ∧ ∀ k, fr ≤ k → k < s.length → blankAt s k
  | fr, x :: r => fr ≤ x.at' ∧ 1 ≤ x.t.length ∧ x.at' + x.t.length ≤ s.length ∧
      (∀ (j : Nat) (b : UInt8), x.t[j]? = some b → ∃ a, s[x.at' + j]? = some a ∧ (a = b ∨ (x.k ≠ 4 ∧ upB a = true ∧ b.toNat = a.toNat + 32))) ∧
      (∀ k, fr ≤ k → k < x.at' → blankAt s k) ∧ Lay s (x.at' + x.t.length) r
theorem lay_of (s : List UInt8) : ∀ (f fr a : Nat) (l : List Tok), tokF numP f (s.drop a) a = some l → fr ≤ a → a ≤ s.length → (∀ k, fr ≤ k → k < a → blankAt s k) → Lay s fr l
  | 0, fr, a, l, h, _, _, _ => by simp [tokF] at h
  | f + 1, fr, a, l, h, h1, h2, h3 => by
    by_cases hlt : a < s.length
    · obtain ⟨c, hc⟩ : ∃ c, s[a]? = some c := ⟨s[a], List.getElem?_eq_getElem hlt⟩
      have hd := drop_some hc
      rw [hd, tokF] at h
      split at h
      · rename_i hb
        refine lay_of s f fr (a + 1) l h (by omega) (by omega) fun k k1 k2 => ?_
        by_cases e : k = a
        · subst e; exact ⟨c, hc, hb⟩
        · exact h3 k k1 (by omega)
      · rw [← hd] at h
        cases ho : oneT numP (s.drop a) with
        | none => rw [ho] at h; cases h
        | some p =>
          obtain ⟨k, t⟩ := p
          rw [ho] at h
          simp only [Option.map_eq_some_iff] at h
          obtain ⟨r, hr, rfl⟩ := h
          obtain ⟨l1, l2⟩ := oneT_len ho
          rw [List.length_drop] at l2
          rw [List.drop_drop] at hr
          refine ⟨h1, l1, show a + t.length ≤ s.length by omega, fun j b hb => ?_, h3, lay_of s f _ _ r hr (Nat.le_refl _) (by omega) (fun k k1 k2 => absurd k2 (Nat.not_lt.2 k1))⟩
          obtain ⟨a', ha', hor⟩ := oneT_bytes ho j b hb
          rw [List.getElem?_drop] at ha'
          exact ⟨a', ha', hor⟩
    · have e : s.drop a = [] := List.drop_eq_nil_of_le (by omega)
      rw [e, tokF] at h
      simp only [Option.some.injEq] at h
      subst h
      exact ⟨by omega, fun k k1 k2 => h3 k k1 (by omega)⟩

/-! ### the loops -/
def toksAV (l : List Tok) : AV := .slice 3 (l.map Tok.av)
def stA0 (s : List UInt8) (l : List Tok) (fr i at' n k : Nat) : St :=
  { σ := [(3, .v (.str (bs s))), (4, .v (toksAV l)), (6, .v (.int .i64 (fr : Int))), (7, .v (.int .i64 (i : Int))), (8, .v (.int .i64 (at' : Int))), (9, .v (.int .i64 (n : Int))), (10, .v (.int .i64 (k : Int)))], own := [], loc := [], S := [] }
theorem toks_get {l : List Tok} {i : Nat} {x : Tok} (h : l[i]? = some x) : (l.map Tok.av)[i]? = some (.agg [.int .i64 x.k, .str (bs x.t), .int .i64 (x.at' : Int)]) := by
  rw [List.getElem?_map, h]; rfl
theorem loop04 (s : List UInt8) (l : List Tok) (fr i : Nat) (x : Tok) (hs : s.length ≤ 4000) (hl : l.length ≤ 4001) (hx : l[i]? = some x)
    (hb : ∀ (j : Nat) (b : UInt8), x.t[j]? = some b → ∃ a, s[x.at' + j]? = some a ∧ (a = b ∨ (x.k ≠ 4 ∧ upB a = true ∧ b.toNat = a.toNat + 32))) (hn : x.at' + x.t.length ≤ s.length) :
    aloopW (acode run1 a4_l0) (stA0 s l fr i x.at' x.t.length 0) = some (.exit 2, { σ := [(3, .v (.str (bs s))), (4, .v (toksAV l)), (6, .v (.int .i64 (fr : Int))), (7, .v (.int .i64 (i : Int))), (8, .v (.int .i64 (x.at' : Int))), (9, .v (.int .i64 (x.t.length : Int)))], own := [], loc := [], S := [] }) := by
  have hlen : (l.map Tok.av).length = l.length := by simp
  have h := loop_all (f := acode run1 a4_l0) x.t (fun _ => true) (stA0 s l fr i x.at' x.t.length) (bad := (.ret, default))
    (good := (.exit 2, { σ := [(3, .v (.str (bs s))), (4, .v (toksAV l)), (6, .v (.int .i64 (fr : Int))), (7, .v (.int .i64 (i : Int))), (8, .v (.int .i64 (x.at' : Int))), (9, .v (.int .i64 (x.t.length : Int)))], own := [], loc := [], S := [] })) (by simp) (by simp)
    (fun k b hk => by
      have h1 := ilt hk
      have hlt := (List.getElem?_eq_some_iff.1 hk).1
      have hi := ilt hx
      obtain ⟨a, ha, hor⟩ := hb k b hk
      have w := w64s (n := k) (by omega)
      have w2 : IntKind.wrap .i64 ((x.at' : Int) + (k : Int)) = ((x.at' + k : Nat) : Int) := by rw [wr64 (by omega) (by omega)]; omega
      have g := toks_get hx
      have gs : (bs s)[x.at' + k]? = some a := by rw [bs_get]; exact ha
      have gt : (bs x.t)[k]? = some b := by rw [bs_get]; exact hk
      have hi2 : (i : Int) < ((l.map Tok.av).length : Int) := by rw [hlen]; exact hi
      have ha8 := a.toNat_lt
      generalize hL : l.map Tok.av = L at *
      generalize hS : bs s = B at *
      generalize hT : bs x.t = T at *
      generalize hN : x.t.length = N at *
      generalize hA : x.at' = A at *
      generalize hK : x.k = K at *
      simp only [if_true]
      rw [acode_k]
      have n0 : (0 : Int) ≤ (A : Int) + (k : Int) := by omega
      have tn : ((A : Int) + (k : Int)).toNat = A + k := by omega
      rcases hor with rfl | ⟨k4, ua, e32⟩
      · simp [-getElem?_pos, List.getElem?_cons_zero, List.getElem?_cons_succ, a4_l0, stA0, toksAV, hL, hS, h1, hi, hi2, w, w2, g, gs, gt, n0, tn]
      · simp only [upB, Bool.and_eq_true, decide_eq_true_eq] at ua
        have ne : ¬ (a.toNat : Int) = (b.toNat : Int) := by omega
        have ne2 : ¬ a.toNat = b.toNat := by omega
        have ne3 : ¬ a = b := fun e => ne2 (by rw [e])
        have e1 : IntKind.wrap .u8 ((a.toNat : Int) + 32) = (b.toNat : Int) := by rw [wr8' (by omega) (by omega)]; omega
        have l1 : ¬ (a.toNat : Int) < 65 := by omega
        have l2 : ¬ (90 : Int) < (a.toNat : Int) := by omega
        simp [-getElem?_pos, List.getElem?_cons_zero, List.getElem?_cons_succ, a4_l0, stA0, toksAV, hL, hS, h1, hi, hi2, w, w2, g, gs, gt, n0, tn, ne, ne2, ne3, k4, e1, l1, l2])
    (by
      rw [acode_k]
      simp [a4_l0, stA0])
  simpa using h
theorem blank_nat {c : UInt8} (h : blankB c = true) : c.toNat = 32 ∨ c.toNat = 10 := by
  simp only [blankB, Bool.or_eq_true, decide_eq_true_eq] at h
  rcases h with rfl | rfl
  · left; rfl
  · right; rfl
def stA1 (s : List UInt8) (l : List Tok) (i at' n k : Nat) : St :=
  { σ := [(3, .v (.str (bs s))), (4, .v (toksAV l)), (7, .v (.int .i64 (i : Int))), (8, .v (.int .i64 (at' : Int))), (9, .v (.int .i64 (n : Int))), (13, .v (.int .i64 (k : Int)))], own := [], loc := [], S := [] }
theorem loop14 (s : List UInt8) (l : List Tok) (i at' n : Nat) (hs : s.length ≤ 4000) (ha : at' ≤ s.length) (fr : Nat) (hf : fr ≤ at') (hb : ∀ k, fr ≤ k → k < at' → blankAt s k) :
    aloopW (acode run1 a4_l1) (stA1 s l i at' n fr) = some (.exit 4, { σ := [(3, .v (.str (bs s))), (4, .v (toksAV l)), (7, .v (.int .i64 (i : Int))), (8, .v (.int .i64 (at' : Int))), (9, .v (.int .i64 (n : Int)))], own := [], loc := [], S := [] }) := by
  refine loop_upto (f := acode run1 a4_l1) (st := stA1 s l i at' n) (r := (.exit 4, { σ := [(3, .v (.str (bs s))), (4, .v (toksAV l)), (7, .v (.int .i64 (i : Int))), (8, .v (.int .i64 (at' : Int))), (9, .v (.int .i64 (n : Int)))], own := [], loc := [], S := [] })) (by simp) (at' - fr) fr (fun k h1 h2 => ?_) ?_
  · obtain ⟨c, hc, hbl⟩ := hb k h1 (by omega)
    have w := w64s (n := k) (by omega)
    have h3 : (k : Int) < (at' : Int) := by omega
    have gs : (bs s)[k]? = some c := by rw [bs_get]; exact hc
    generalize hS : bs s = B at *
    rw [acode_k]
    rcases blank_nat hbl with e | e
    · have e' : (c.toNat : Int) = 32 := by omega
      simp [-getElem?_pos, List.getElem?_cons_zero, List.getElem?_cons_succ, a4_l1, stA1, hS, h3, w, gs, e, e']
    · have e' : (c.toNat : Int) = 10 := by omega
      simp [-getElem?_pos, List.getElem?_cons_zero, List.getElem?_cons_succ, a4_l1, stA1, hS, h3, w, gs, e, e']
  · have e : fr + (at' - fr) = at' := by omega
    rw [e, acode_k]
    simp [a4_l1, stA1]
def stA3 (s : List UInt8) (l : List Tok) (k : Nat) : St :=
  { σ := [(3, .v (.str (bs s))), (4, .v (toksAV l)), (14, .v (.int .i64 (k : Int)))], own := [], loc := [], S := [] }
theorem loop34 (s : List UInt8) (l : List Tok) (hs : s.length ≤ 4000) (fr : Nat) (hf : fr ≤ s.length) (hb : ∀ k, fr ≤ k → k < s.length → blankAt s k) :
    aloopW (acode run1 a4_l3) (stA3 s l fr) = some (.exit 6, { σ := [(4, .v (toksAV l))], own := [], loc := [], S := [] }) := by
  have hsz : (bs s).size = s.length := bs_size s
  refine loop_upto (f := acode run1 a4_l3) (st := stA3 s l) (r := (.exit 6, { σ := [(4, .v (toksAV l))], own := [], loc := [], S := [] })) (by simp) (s.length - fr) fr (fun k h1 h2 => ?_) ?_
  · obtain ⟨c, hc, hbl⟩ := hb k h1 (by omega)
    have w := w64s (n := k) (by omega)
    have h3 : (k : Int) < (s.length : Int) := by omega
    have gs : (bs s)[k]? = some c := by rw [bs_get]; exact hc
    generalize hS : bs s = B at *
    rw [acode_k]
    rcases blank_nat hbl with e | e
    · have e' : (c.toNat : Int) = 32 := by omega
      simp [-getElem?_pos, List.getElem?_cons_zero, List.getElem?_cons_succ, a4_l3, stA3, hS, hsz, h3, w, gs, e, e']
    · have e' : (c.toNat : Int) = 10 := by omega
      simp [-getElem?_pos, List.getElem?_cons_zero, List.getElem?_cons_succ, a4_l3, stA3, hS, hsz, h3, w, gs, e, e']
  · have e : fr + (s.length - fr) = s.length := by omega
    rw [e, acode_k]
    simp [a4_l3, stA3, hsz]
def stA2 (s : List UInt8) (l : List Tok) (fr i : Nat) : St :=
  { σ := [(3, .v (.str (bs s))), (4, .v (toksAV l)), (6, .v (.int .i64 (fr : Int))), (7, .v (.int .i64 (i : Int)))], own := [], loc := [], S := [] }
theorem outer4 (s : List UInt8) (l : List Tok) (hs : s.length ≤ 4000) (hl : l.length ≤ 4001) : ∀ (r pre : List Tok) (fr : Nat), l = pre ++ r → Lay s fr r → fr ≤ s.length →
    ∃ fr' : Nat, aloopW (acode run1 a4_l2) (stA2 s l fr pre.length) = some (.exit 0, { σ := [(3, .v (.str (bs s))), (4, .v (toksAV l)), (6, .v (.int .i64 (fr' : Int)))], own := [], loc := [], S := [] }) ∧ fr' ≤ s.length ∧ ∀ k : Nat, fr' ≤ k → k < s.length → blankAt s k
  | [], pre, fr, e, hL, hf => by
    rw [List.append_nil] at e
    subst e
    refine ⟨fr, ?_, hL.1, hL.2⟩
    refine aloopW_stop ?_ (by simp)
    rw [acode_k]
    simp [a4_l2, stA2, toksAV]
  | x :: r, pre, fr, e, hL, hf => by
    obtain ⟨h1, h2, h3, h4, h5, h6⟩ := hL
    have hx : l[pre.length]? = some x := by rw [e]; simp
    obtain ⟨fr', q, hq⟩ := outer4 s l hs hl r (pre ++ [x]) (x.at' + x.t.length) (by rw [e]; simp) h6 h3
    refine ⟨fr', ?_, hq⟩
    rw [← q]
    refine aloopW_step ?_
    have p0 := loop04 s l fr pre.length x hs hl hx h4 h3
    have p1 := loop14 s l pre.length x.at' x.t.length hs (by omega) fr h1 h5
    have hlt := (List.getElem?_eq_some_iff.1 hx).1
    have hi := ilt hx
    have hlen : (l.map Tok.av).length = l.length := by simp
    have hi2 : (pre.length : Int) < ((l.map Tok.av).length : Int) := by rw [hlen]; exact hi
    have w := w64s (n := pre.length) (by omega)
    have g := toks_get hx
    have hsz : (bs s).size = s.length := bs_size s
    have htz : (bs x.t).size = x.t.length := bs_size x.t
    have w2 : IntKind.wrap .i64 ((x.at' : Int) + (x.t.length : Int)) = (x.at' : Int) + (x.t.length : Int) := wr64 (by omega) (by omega)
    have c1 : ¬ (x.at' : Int) < (fr : Int) := by omega
    have c2 : ¬ (x.t.length : Int) < 1 := by omega
    have c3 : ¬ (s.length : Int) < (x.at' : Int) + (x.t.length : Int) := by omega
    have epl : (pre ++ [x]).length = pre.length + 1 := by simp
    rw [epl]
    rw [acode_k]
    simp only [stA0, stA1, toksAV, Int.natCast_zero, Int.ofNat_zero] at p0 p1
    generalize hLL : l.map Tok.av = L at *
    generalize hS : bs s = B at *
    generalize hT : bs x.t = T at *
    generalize x.t.length = N at *
    generalize x.at' = A at *
    have c4 : N ≠ 0 := by omega
    simp [-getElem?_pos, List.getElem?_cons_zero, List.getElem?_cons_succ, a4_l2, stA2, toksAV, hLL, hS, hi, hi2, g, hsz, htz, w, w2, c1, c2, c3, c4, p0, p1]

/-! ### the tokens of what is joined -/
theorem toks_one : ∀ (f : Nat) (s : List UInt8) (n : Nat) (l : List Tok), tokF numP f s n = some l → ∀ x ∈ l, ∃ s', oneT numP s' = some (x.k, x.t)
  | 0, s, n, l, h, x, hx => by simp [tokF] at h
  | f + 1, [], n, l, h, x, hx => by
    simp only [tokF, Option.some.injEq] at h
    subst h; cases hx
  | f + 1, c :: r, n, l, h, x, hx => by
    rw [tokF] at h
    split at h
    · exact toks_one f r _ l h x hx
    · cases ho : oneT numP (c :: r) with
      | none => rw [ho] at h; cases h
      | some p =>
        obtain ⟨k, t⟩ := p
        rw [ho] at h
        simp only [Option.map_eq_some_iff] at h
        obtain ⟨m, hm, rfl⟩ := h
        rcases List.mem_cons.1 hx with rfl | hx
        · exact ⟨_, ho⟩
        · exact toks_one f _ _ m hm x hx
theorem toks_len {s : List UInt8} {l : List Tok} (h : toksOf s = some l) : l.length ≤ s.length + 1 := by
  have hy := yd_tok s (s.length + 1) 0 (by omega) (Nat.zero_le _)
  rw [List.drop_zero] at hy
  unfold toksOf at h
  rw [h] at hy
  have := ydL_length nxB (bs s) (s.length + 1) 0
  obtain ⟨_, _, y3⟩ := hy
  omega
theorem toks_again {s : List UInt8} {l : List Tok} (h : toksOf s = some l) : ∃ m, toksOf (joinSp (l.map (·.t))) = some m ∧ m.map (fun x => (x.k, x.t)) = l.map (fun x => (x.k, x.t)) := by
  have h1 := tok_join (numOk := numP) (l.map fun x => (x.k, x.t)) (fun p hp => by
    rw [List.mem_map] at hp
    obtain ⟨x, hx, rfl⟩ := hp
    obtain ⟨s', hs'⟩ := toks_one _ _ _ _ h x hx
    exact oneT_stable hs') ((joinSp (l.map (·.t))).length + 1) 0 (by rw [List.map_map]; exact Nat.lt_succ_self _)
  rw [List.map_map] at h1
  exact h1
def stA4 (l m : List Tok) (j : List UInt8) (i : Nat) : St :=
  { σ := [(4, .v (toksAV l)), (15, .v (.str (bs j))), (16, .v (toksAV m)), (18, .v (.int .i64 (i : Int)))], own := [(16, 26)], loc := [], S := [] }
theorem loop44 (l m : List Tok) (j : List UInt8) (hl : l.length ≤ 4001) (hm : m.map (fun x => (x.k, x.t)) = l.map (fun x => (x.k, x.t))) :
    aloopW (acode run1 a4_l4) { σ := [(4, .v (toksAV l)), (15, .v (.str (bs j))), (16, .v (toksAV m)), (18, .v (.int .i64 0))], own := [], loc := [], S := [] } = some (.exit 8, { σ := [(15, .v (.str (bs j))), (16, .v (toksAV m))], own := [], loc := [], S := [] }) := by
  have hml : m.length = l.length := by
    have := congrArg List.length hm
    simpa using this
  have hlenl : (l.map Tok.av).length = l.length := by simp
  have hlenm : (m.map Tok.av).length = l.length := by simp [hml]
  have h := loop_all (f := acode run1 a4_l4) l (fun _ => true) (fun i => { σ := [(4, .v (toksAV l)), (15, .v (.str (bs j))), (16, .v (toksAV m)), (18, .v (.int .i64 (i : Int)))], own := [], loc := [], S := [] }) (bad := (.ret, default))
    (good := (.exit 8, { σ := [(15, .v (.str (bs j))), (16, .v (toksAV m))], own := [], loc := [], S := [] })) (by simp) (by simp)
    (fun i x hx => by
      have hi := ilt hx
      have hlt := (List.getElem?_eq_some_iff.1 hx).1
      obtain ⟨y, hy⟩ : ∃ y, m[i]? = some y := ⟨m[i]'(by omega), List.getElem?_eq_getElem (by omega)⟩
      have hxy : (y.k, y.t) = (x.k, x.t) := by
        have := congrArg (fun z => z[i]?) hm
        simp only [List.getElem?_map, hx, hy, Option.map_some, Option.some.injEq] at this
        exact this
      simp only [Prod.mk.injEq] at hxy
      obtain ⟨ek, et⟩ := hxy
      have w := w64s (n := i) (by omega)
      have g1 := toks_get hx
      have g2 := toks_get hy
      rw [ek, et] at g2
      have i1 : (i : Int) < ((l.map Tok.av).length : Int) := by rw [hlenl]; exact hi
      have i2 : (i : Int) < ((m.map Tok.av).length : Int) := by rw [hlenm]; exact hi
      simp only [if_true]
      rw [acode_k]
      generalize hL : l.map Tok.av = L at *
      generalize hM : m.map Tok.av = M at *
      generalize hT : bs x.t = T at *
      simp [-getElem?_pos, List.getElem?_cons_zero, List.getElem?_cons_succ, a4_l4, toksAV, hL, hM, i1, i2, g1, g2, w])
    (by
      rw [acode_k]
      have i2 : ¬ (l.length : Int) < ((m.map Tok.av).length : Int) := by rw [hlenm]; omega
      generalize hM : m.map Tok.av = M at *
      simp [a4_l4, toksAV, hM, i2, hlenm])
  simpa using h

theorem tksAV_of (l : List Tok) : toksAV l = tksAV (l.map fun x => ⟨x.k, x.t, (x.at' : Int)⟩) := by
  unfold toksAV tksAV
  rw [List.map_map]; rfl
theorem tkJoin {s : List UInt8} {l : List Tok} (h : toksOf s = some l) (hs : s.length ≤ 4000) : run1 5 [toksAV l] [] = some (.ret (.str (bs (joinSp (l.map (·.t))))) none, []) := by
  have hl := toks_len h
  have e : (l.map fun x => (⟨x.k, x.t, (x.at' : Int)⟩ : TkL)).map (·.t) = l.map (·.t) := by rw [List.map_map]; rfl
  have hL : Lay s 0 l := lay_of s _ 0 0 l (by rw [List.drop_zero]; exact h) (Nat.le_refl _) (Nat.zero_le _) (fun k k1 k2 => by omega)
  have hx : ∀ (r : List Tok) (fr : Nat), Lay s fr r → ∀ x ∈ r, x.t.length ≤ 4000 := by
    intro r
    induction r with
    | nil => intro _ _ x hx; cases hx
    | cons y r ih =>
      intro fr hL x hx
      obtain ⟨h1, h2, h3, h4, h5, h6⟩ := hL
      rcases List.mem_cons.1 hx with rfl | hx
      · omega
      · exact ih _ h6 x hx
  have hj := join_len (l.map (·.t)) 4000 (fun x hx' => by
    rw [List.mem_map] at hx'
    obtain ⟨y, hy, rfl⟩ := hx'
    exact hx l 0 hL y hy)
  rw [List.length_map] at hj
  rw [tksAV_of, c5 _ [] (by rw [List.length_map]; omega) (by rw [e]; omega), e]
theorem c4 (s0 : List UInt8) (h0 : s0.length ≤ 9223372036854775807) : run1 4 [.str (bs s0)] [] = some (.ret (.bool true) none, []) := by
  refine eqn1 rfl ?_
  have hz : (bs s0).size = s0.length := bs_size s0
  obtain ⟨N, hN, hN2⟩ : ∃ N : Nat, min (s0.length : Int) 4000 = (N : Int) ∧ (N = s0.length ∨ N = 4000) ∧ N ≤ s0.length ∧ N ≤ 4000 := ⟨min s0.length 4000, by omega, by omega, by omega, by omega⟩
  have ex : (bs s0).extract 0 N = bs (s0.take N) := by rw [bs_extract, List.drop_zero]
  have hs : (s0.take N).length ≤ 4000 := by rw [List.length_take]; omega
  have i1 : (N : Int) ≤ (s0.length : Int) := by omega
  have q1 := c8 (s0.take N)
  have aw := awake1
  generalize s0.take N = s at *
  generalize hB0 : bs s0 = B0 at *
  have nb : ¬ 4000 < s.length := by omega
  unfold tokE at q1
  rw [if_neg nb] at q1
  cases ht : toksOf s with
  | none =>
    rw [ht] at q1
    simp only at q1
    generalize bs s = B at *
    by_cases hc : (s0.length : Int) ≤ 4000
    · simp [-getElem?_pos, List.getElem?_cons_zero, List.getElem?_cons_succ, a4, hz, hN, ex, i1, q1, aw]
    · simp [-getElem?_pos, List.getElem?_cons_zero, List.getElem?_cons_succ, a4, hz, hN, ex, i1, q1, aw]
  | some l =>
    rw [ht] at q1
    simp only at q1
    have hl := toks_len ht
    have hL : Lay s 0 l := lay_of s _ 0 0 l (by rw [List.drop_zero]; exact ht) (Nat.le_refl _) (Nat.zero_le _) (fun k k1 k2 => by omega)
    obtain ⟨fr', p2, f1, f2⟩ := outer4 s l hs (by omega) l [] 0 rfl hL (Nat.zero_le _)
    have p3 := loop34 s l hs fr' f1 f2
    have q2 := tkJoin ht hs
    obtain ⟨m, hm1, hm2⟩ := toks_again ht
    have p4 := loop44 l m (joinSp (l.map (·.t))) (by omega) hm2
    have q3 := c8 (joinSp (l.map (·.t)))
    have hjs : m.map (·.t) = l.map (·.t) := by
      have := congrArg (fun z => z.map Prod.snd) hm2
      simp only [List.map_map] at this
      exact this
    have hml : m.length = l.length := by
      have := congrArg List.length hm2
      simpa using this
    simp only [stA2, stA3, List.length_nil, Int.natCast_zero, Int.ofNat_zero] at p2 p3
    have jz : (bs (joinSp (l.map (·.t)))).size = (joinSp (l.map (·.t))).length := bs_size _
    have hl1 : (l.map Tok.av).length = l.length := by simp
    have hl2 : (m.map Tok.av).length = l.length := by simp [hml]
    by_cases hbig : 4000 < (joinSp (l.map (·.t))).length
    · have hbig' : (4000 : Int) < ((joinSp (l.map (·.t))).length : Int) := by omega
      unfold toksAV at *
      generalize l.map Tok.av = L at *
      generalize joinSp (l.map (·.t)) = J at *
      generalize bs J = BJ at *
      generalize bs s = B at *
      simp [-getElem?_pos, List.getElem?_cons_zero, List.getElem?_cons_succ, a4, hz, hN, ex, i1, q1, aw, p2, p3, q2, jz, hbig, hbig']
    · have hbig' : ¬ (4000 : Int) < ((joinSp (l.map (·.t))).length : Int) := by omega
      have q4 := tkJoin hm1 (by omega)
      rw [hjs] at q4
      unfold tokE at q3
      rw [if_neg hbig, hm1] at q3
      simp only at q3
      unfold toksAV at *
      generalize l.map Tok.av = L at *
      generalize m.map Tok.av = M at *
      generalize joinSp (l.map (·.t)) = J at *
      generalize hBJ : bs J = BJ at *
      generalize bs s = B at *
      simp [-getElem?_pos, List.getElem?_cons_zero, List.getElem?_cons_succ, a4, hz, hN, ex, i1, q1, aw, p2, p3, q2, jz, hbig, hbig', q3, q4, p4, hl1, hl2]
theorem law4 : LawTrue Tryd.prog 4 Tryd.f4.params.toList LaidV :=
  lawTrue_of fun W hW => ⟨_, run_law1 hW 4, fun args hl hty => by
    rw [Tryd.params4] at hl hty
    match args, hl with
    | [a], _ =>
      obtain ⟨s, rfl, hs⟩ := (hty 0 _ a rfl rfl).str_inv Tryd.underlying9
      refine ⟨[], none, ?_⟩
      rw [bs_of s]
      exact c4 s.data.toList (by have : s.data.toList.length = s.size := rfl; simp only [maxLen] at hs; omega)⟩
end Go.Av
