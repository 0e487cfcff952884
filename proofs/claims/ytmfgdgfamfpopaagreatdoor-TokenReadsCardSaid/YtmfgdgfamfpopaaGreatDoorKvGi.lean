/- Part of a proof: token.Tokens and token.Join as what they compute. -/
import Derived.Test.YtmfgdgfamfpopaaGreatDoorKvGh
set_option maxRecDepth 100000
set_option linter.unusedSimpArgs false
set_option linter.unusedVariables false
namespace Go.Av
open Go Go.Proofs Go.RowKit

/-! ### the tokens that come are the definition's -/
def Tok.row (x : Tok) : List Value := [.int .i64 x.k, .string (bs x.t), .int .i64 (x.at' : Int)]
def Tok.av (x : Tok) : AV := .agg [.int .i64 x.k, .str (bs x.t), .int .i64 (x.at' : Int)]
def tokRows (l : List Tok) : List Value := (l.map Tok.row).flatten
def ydIs (ys : List Yd) : Option (List Tok) → Prop
  | some l => ydOk ys = true ∧ ydRows ys = tokRows l ∧ ys.length = l.length
  | none => ydOk ys = false
theorem ydIs_cons {y : Yd} {ys : List Yd} {x : Tok} {o : Option (List Tok)} (h : ydIs ys o) (h1 : y.ok = true) (h2 : y.row = x.row) : ydIs (y :: ys) (o.map fun l => x :: l) := by
  cases o with
  | none =>
    simp only [ydIs, Option.map_none, ydOk, List.all_cons, h1, Bool.true_and] at h ⊢
    exact h
  | some l =>
    obtain ⟨g1, g2, g3⟩ := h
    refine ⟨?_, ?_, by simp [g3]⟩
    · simp only [ydOk, List.all_cons, h1, Bool.true_and]; exact g1
    · simp only [ydRows, tokRows, List.map_cons, List.flatten_cons, h2] at g2 ⊢
      rw [g2]
theorem bs_idx (s : List UInt8) {a : Nat} {c : UInt8} (h : s[a]? = some c) : (bs s)[a]! = c := by
  have hlt := (List.getElem?_eq_some_iff.1 h).1
  have h2 : (bs s)[a]? = some c := by rw [bs_get]; exact h
  rw [getElem!_pos (bs s) a (by rw [bs_size]; exact hlt)]
  rw [getElem?_pos (bs s) a (by rw [bs_size]; exact hlt)] at h2
  exact Option.some.inj h2
theorem nxB_bs (s : List UInt8) : nxB (bs s) = match oneT numP s with
    | some (k, t) => (k, bs t, t.length)
    | none => (0, ⟨#[]⟩, 0) := by
  unfold nxB
  rw [bs_data]
  rcases oneT numP s with _ | ⟨k, t⟩ <;> rfl
theorem yd_tok (s : List UInt8) : ∀ (f a : Nat), s.length < a + f → a ≤ s.length → ydIs (ydL nxB (bs s) f a) (tokF numP f (s.drop a) a)
  | 0, a, h, ha => by omega
  | f + 1, a, h, ha => by
    rw [ydL, bs_size]
    by_cases hlt : a < s.length
    · obtain ⟨c, hc⟩ : ∃ c, s[a]? = some c := ⟨s[a], List.getElem?_eq_getElem hlt⟩
      have hb : blankB c = true ↔ (c = 32 ∨ c = 10) := by simp [blankB]
      have hex : (bs s).extract a s.length = bs (s.drop a) := by rw [bs_extract]; simp
      rw [if_pos hlt, bs_idx s hc, hex]
      have hd := drop_some hc
      by_cases hbl : c = 32 ∨ c = 10
      · rw [if_pos hbl, hd, tokF, if_pos (hb.2 hbl)]
        exact yd_tok s f (a + 1) (by omega) (by omega)
      · rw [if_neg hbl, nxB_bs]
        have htf : tokF numP (f + 1) (s.drop a) a = match oneT numP (s.drop a) with
            | some (k, t) => (tokF numP f ((s.drop a).drop t.length) (a + t.length)).map fun l => ⟨k, t, a⟩ :: l
            | none => none := by
          conv => lhs; rw [hd, tokF, if_neg (fun h => hbl (hb.1 h))]
          rw [hd]
          rcases oneT numP (c :: s.drop (a + 1)) with _ | ⟨k, t⟩ <;> rfl
        rw [htf]
        cases ho : oneT numP (s.drop a) with
        | none => simp [ydIs, ydOk]
        | some p =>
          obtain ⟨k, t⟩ := p
          obtain ⟨l1, l2⟩ := oneT_len ho
          rw [List.length_drop] at l2
          have ht0 : ¬ t.length = 0 := by omega
          simp only
          rw [if_neg ht0, List.drop_drop]
          refine ydIs_cons (x := ⟨k, t, a⟩) (yd_tok s f (a + t.length) (by omega) (by omega)) ?_ rfl
          simp only [decide_eq_true_eq]; omega
    · rw [if_neg hlt]
      have e : s.drop a = [] := List.drop_eq_nil_of_le (by omega)
      rw [e, tokF]
      exact ⟨rfl, rfl, rfl⟩

/-! ### Tokens -/
def toksOf (s : List UInt8) : Option (List Tok) := tokF numP (s.length + 1) s 0
def tokE (s : List UInt8) : AV := if 4000 < s.length then .tuple [.slice 3 [], .int .i64 2] else match toksOf s with
  | some l => .tuple [.slice 3 (l.map Tok.av), .int .i64 0]
  | none => .tuple [.slice 3 [], .int .i64 80]
def xTokens (args : List AV) (S : List Bx) : Option (AEnd × List Bx) :=
  match args, S with
  | [.str s], [] => some (.ret (tokE s.data.toList) none, [])
  | _, _ => none
theorem RE_toks {g : Gh} {W : World} : ∀ (l : List Tok), RE g W 3 (l.map Tok.av) (tokRows l)
  | [] => by simp [RE, tokRows]
  | x :: l => by
    simp only [List.map_cons, RE]
    refine ⟨x.row, tokRows l, by simp [tokRows], rfl, ⟨rfl, ?_⟩, RE_toks l⟩
    simp [Tok.av, Tok.row, R, RL, AV.isCell]
theorem RV_two {g : Gh} {W : World} {a : AV} {n : Int} {v : Value} (h : RV g W a v) : RV g W (.tuple [a, .int .i64 n]) (.tuple #[v, .int .i64 n]) :=
  ⟨by simp only [Value.cells, R, RT]; exact ⟨_, rfl, _, _, rfl, h, _, _, rfl, ⟨rfl, rfl⟩, rfl⟩, rfl⟩
theorem RV_nil3 {g : Gh} {W : World} : RV g W (.slice 3 []) (.slice none 0 0) :=
  ⟨by simp only [Value.cells, R]; exact ⟨none, 0, rfl, Nat.le_refl _, .inl trivial⟩, rfl⟩
theorem post_tok {g : Gh} {W W' : World} (hS : SInv g W []) (hc : ∀ b, (g.O b).calm) (hB : Below W.heap.size W W') {l : List Tok} {v : Value} {e n : Nat} {c : Int} (hn : n = l.length) (ho : W'.ownsRow W.heap.size e 3 v n (tokRows l)) :
    Post g W (.ret (.tuple [.slice 3 (l.map Tok.av), .int .i64 c]) none) [] (.returned (.tuple #[v, .int .i64 c])) W' := by
  subst hn
  rcases ho.2 with ⟨rfl, h0⟩ | ⟨gb, cap, cur, rfl, hg, hgg, hcap, hm, hsz, htk⟩
  · obtain rfl : l = [] := List.length_eq_zero_iff.1 h0
    exact post_below hS hc hB (RV_two RV_nil3)
  · have hlt := (Array.getElem?_eq_some_iff.1 hgg).1
    have hrl : (tokRows l).length = l.length * 3 := ho.1
    let g' : Gh := { g with T := upd g.T gb (l.length * 3) }
    have hT0 : g.T gb = 0 := (hS.fresh gb hg).1
    have lt : ∀ b, (g.T b ≠ 0 ∨ g.O b ≠ .free) → b < W.heap.size := by
      intro b h
      rcases Nat.lt_or_ge b W.heap.size with h1 | h1
      · exact h1
      · have := hS.fresh b h1
        rcases h with h | h
        · exact absurd this.1 h
        · exact absurd this.2 h
    have hE0 := ext_below hS hB
    have hE : Ext g W g' W' := by
      refine ⟨⟨fun b => ?_, hE0.cell, fun _ _ h => h⟩, hB.size, hB.os, hB.tape, hB.output, fun b hb => ?_⟩
      · show g.T b ≤ upd g.T gb (l.length * 3) b
        by_cases e : b = gb
        · subst e; rw [upd_same, hT0]; omega
        · rw [upd_other _ _ _ _ e]; exact Nat.le_refl _
      · have h1 := lt b (.inr (by rw [hb]; simp))
        have e : b ≠ gb := by omega
        exact ⟨hb, hB.block b h1, by show upd g.T gb (l.length * 3) b = _; rw [upd_other _ _ _ _ e]⟩
    have hS' : SInv g' W' [] := by
      refine ⟨hS.len, fun i x hx => by simp at hx, fun b hb => ?_⟩
      have e : b ≠ gb := by omega
      have := hS.fresh b (Nat.le_trans hB.size hb)
      exact ⟨by show upd g.T gb (l.length * 3) b = _; rw [upd_other _ _ _ _ e]; exact this.1, this.2⟩
    refine ⟨g', hE, hS', fun b => calm_calmR (hc b), _, rfl, RV_two ?_, fun te h => by cases h⟩
    refine ⟨?_, rfl⟩
    simp only [Value.cells, R]
    refine ⟨some ⟨gb, 0, none⟩, cap, by simp, by simp; exact hcap, .inr ⟨gb, 0, tokRows l, rfl, ?_, ?_, RE_toks l⟩⟩
    · intro j u hu
      have := ho.cells (g := gb) rfl j u hu
      rw [add_offJ] at this
      rw [Nat.zero_add]; exact this
    · show 0 + (tokRows l).length ≤ upd g.T gb (l.length * 3) gb
      rw [upd_same, hrl]; omega
theorem soundTokens {W0 : World} (hL : LaidV W0) : SoundFun Tryz.prog W0 5 xTokens := by
  intro args S e S' h
  refine ⟨callable Tryz.func5 (by kernel_rfl) (by kernel_rfl), fun g W vs hB hT hS hcalm => ?_⟩
  unfold xTokens at h
  split at h
  · rename_i s
    simp only [Option.some.injEq, Prod.mk.injEq] at h
    obtain ⟨rfl, rfl⟩ := h
    obtain ⟨l⟩ := vs
    simp only [RT] at hT
    obtain ⟨v1, r1, hl, hv1, rfl⟩ := hT
    subst hl
    obtain rfl := RV_str.1 hv1
    have hW : Below W0.heap.size W0 W := ⟨hB.os, hB.tape, hB.output, hB.size, fun k hk => (hB.ext k hk).2⟩
    refine (Tokens_in (setHyp hL) (nextHyp hL) nxB_le MOw_map s W hW).mono fun e w' hh => ?_
    obtain ⟨hb, hh⟩ := hh
    have hsl : s.data.toList.length = s.size := rfl
    have hy := yd_tok s.data.toList (s.size + 1) 0 (by omega) (Nat.zero_le _)
    rw [← bs_of, List.drop_zero] at hy
    unfold tokE toksOf
    rw [hsl]
    by_cases hbig : 4000 < s.size
    · rw [if_pos hbig] at hh ⊢
      subst hh
      exact post_below hS hcalm hb (RV_two RV_nil3)
    · rw [if_neg hbig] at hh ⊢
      cases ht : tokF numP (s.size + 1) s.data.toList 0 with
      | none =>
        rw [ht] at hy
        simp only [ydIs] at hy
        rw [hy] at hh
        simp only [Bool.false_eq_true, if_false] at hh
        subst hh
        exact post_below hS hcalm hb (RV_two RV_nil3)
      | some toks =>
        rw [ht] at hy
        obtain ⟨y1, y2, y3⟩ := hy
        rw [y1] at hh
        simp only [if_true] at hh
        obtain ⟨v, rfl, ho⟩ := hh
        rw [y2] at ho
        exact post_tok hS hcalm hb y3 ho
  · cases h
end Go.Av
