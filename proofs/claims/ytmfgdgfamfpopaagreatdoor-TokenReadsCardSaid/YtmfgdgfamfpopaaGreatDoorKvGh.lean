/- Part of a proof: What lexicon.Set and token.next come to in the model; the tokens that are yielded are the definition's. -/
import Derived.Test.YtmfgdgfamfpopaaGreatDoorKvGg
import Derived.Test.YtmfgdgfamfpopaaGreatDoorKvGb
import Derived.Test.YtmfgdgfamfpopaaGreatDoorKvFy
set_option maxRecDepth 100000
set_option linter.unusedSimpArgs false
set_option linter.unusedVariables false
namespace Go.Av
open Go Go.Proofs Go.RowKit

def nxB (s : ByteArray) : Int × ByteArray × Nat := match oneT numP s.data.toList with
  | some (k, t) => (k, bs t, t.length)
  | none => (0, ⟨#[]⟩, 0)
theorem nxB_le (s : ByteArray) : (nxB s).2.2 ≤ s.size := by
  unfold nxB
  split
  · rename_i k t h
    exact (oneT_len h).2
  · exact Nat.zero_le _
def MOw (o : Obj) : Prop := ∃ es clock, o = .map es clock ∧ ∀ g W, MR g W wordsBox.cells es.toList
theorem MOw_map (o : Obj) (h : MOw o) : isMapO o = true := by
  obtain ⟨es, clock, rfl, _⟩ := h
  rfl
theorem MR_flat : ∀ (l : List (List UInt8)) {g : Gh} {W : World} {es : List MapEntry}, MR g W (l.map fun w => [AV.str (bs w), AV.bool true]).flatten es → ∀ g' W', MR g' W' (l.map fun w => [AV.str (bs w), AV.bool true]).flatten es
  | [], g, W, [], h, g', W' => trivial
  | [], g, W, e :: es, h, g', W' => h
  | w :: l, g, W, [], h, g', W' => by
    simp only [List.map_cons, List.flatten_cons, List.cons_append, List.nil_append, MR] at h
  | w :: l, g, W, e :: es, h, g', W' => by
    simp only [List.map_cons, List.flatten_cons, List.cons_append, List.nil_append, MR] at h ⊢
    refine ⟨⟨?_, ?_⟩, MR_flat l h.2 g' W'⟩
    · have := h.1.1
      simpa [RV, R] using this
    · have := h.1.2
      simpa [RV, R] using this
theorem box_words {g : Gh} {W : World} (hS : SInv g W [wordsBox]) : ∃ b o, g.B[0]? = some b ∧ W.heap[b]? = some o ∧ MOw o ∧ g.O b = .box 0 := by
  obtain ⟨b, h1, h2⟩ := hS.box 0 wordsBox rfl
  unfold BxS at h2
  rw [if_pos (show wordsBox.map = true from rfl)] at h2
  obtain ⟨_, es, clock, h3, h4, h5, _⟩ := h2
  exact ⟨b, _, h1, h3, ⟨es, clock, rfl, fun g' W' => MR_flat wordsL h4 g' W'⟩, h5⟩
theorem RV_map {g : Gh} {W : World} {v : Value} (h : RV g W (.mapp 0) v) : ∃ b, g.B[0]? = some b ∧ v = .map (some b) := by
  obtain ⟨h1, h2⟩ := h
  simp only [R] at h1
  obtain ⟨b, hb, e⟩ := h1
  refine ⟨b, hb, ?_⟩
  cases v <;> simp_all [Value.cells, AV.isAgg, vAgg]
theorem gOf_base' {W0 W : World} (hW : Below W0.heap.size W0 W) : Base W0 (gOf W) W :=
  ⟨hW.size, hW.os, hW.tape, hW.output, fun b hb => ⟨by simp [gOf]; have := hW.size; omega, hW.block b hb⟩⟩
theorem setHyp {W0 : World} (hL : LaidV W0) : SetHyp W0 MOw := by
  intro W hW
  obtain ⟨_, hC⟩ := recL_sound (fun n => run_sound hL n) _ _ _ _ _ c19
  refine (hC (gOf W) W #[] (gOf_base' hW) (by simp [RT]) (gOf_S W) (gOf_calm W)).mono fun e W' hp => ?_
  obtain ⟨hb, g', v, rfl, hv, hS, hE⟩ := post_old hp
  obtain ⟨b, h1, rfl⟩ := RV_map hv
  obtain ⟨b', o, h1', h2, h3, h4⟩ := box_words hS
  obtain rfl : b = b' := by rw [h1] at h1'; exact Option.some.inj h1'
  refine ⟨hb, b, o, rfl, ?_, h2, h3⟩
  rcases Nat.lt_or_ge b W.heap.size with hlt | hge
  · have := (hE.ext b (by simp [gOf, hlt])).1
    rw [h4] at this; cases this
  · exact hge
theorem RV_tok {g : Gh} {W : World} {a c n : Int} {b : ByteArray} {v : Value} (h : RV g W (.tuple [.agg [.int .i64 a, .str b, .int .i64 c], .int .i64 n]) v) : v = .tuple #[.agg #[.int .i64 a, .string b, .int .i64 c], .int .i64 n] := by
  obtain ⟨h1, h2⟩ := h
  simp only [R, RT, RL] at h1
  obtain ⟨arr, e, v1, r1, e1, ⟨⟨x1, y1, f1, ⟨_, g1⟩, x2, y2, f2, ⟨_, g2⟩, x3, y3, f3, ⟨_, g3⟩, f4⟩, a1⟩, v2, r2, e2, ⟨k1, a2⟩, e3⟩ := h1
  simp only [List.cons.injEq, and_true] at g1 g2 g3
  subst f4 f3 f2 g1 g2 g3 e3 e2
  have q1 : v1 = .agg #[.int .i64 a, .string b, .int .i64 c] := by
    cases v1 <;> simp_all [Value.cells, AV.isAgg, vAgg]
    rename_i cs
    have := congrArg List.toArray f1
    simpa using this
  have q2 : v2 = .int .i64 n := by
    cases v2 <;> simp_all [Value.cells, AV.isAgg, vAgg]
  obtain ⟨l⟩ := arr
  simp only at e1
  subst e1 q1 q2
  cases v <;> simp_all [Value.cells, AV.isAgg, vAgg]
theorem nextE_nx (s : ByteArray) : nextE s.data.toList = .tuple [.agg [.int .i64 (nxB s).1, .str (nxB s).2.1, .int .i64 0], .int .i64 ((nxB s).2.2 : Int)] := by
  unfold nextE nxB tokAV emptyTok
  split <;> simp_all
theorem nextHyp {W0 : World} (hL : LaidV W0) : NextHyp nxB W0 MOw := by
  intro W s b o hW hbW hs0 hs hbo hmo
  have hsl : s.data.toList.length = s.size := rfl
  have hc := c24 s.data.toList (by omega) (fun e => by
    have := congrArg List.length e
    rw [hsl] at this
    simp only [List.length_nil] at this
    omega)
  rw [← bs_of, nextE_nx] at hc
  obtain ⟨_, hC⟩ := recL_sound (fun n => run_sound hL n) _ _ _ _ _ hc
  have hlt := (Array.getElem?_eq_some_iff.1 hbo).1
  let g : Gh := { T := fun k => if k = b then 0 else (gOf W).T k, B := [b], O := fun k => if k = b then .box 0 else (gOf W).O k }
  have hS0 := gOf_S W
  have hB : Base W0 g W := ⟨hW.size, hW.os, hW.tape, hW.output, fun k hk => by
    have hne : k ≠ b := by omega
    have := hW.size
    exact ⟨by simp [g, hne, gOf]; omega, hW.block k hk⟩⟩
  have hS : SInv g W [wordsBox] := by
    refine ⟨rfl, fun i x hx => ?_, fun k hk => ?_⟩
    · cases i with
      | zero =>
        simp only [List.getElem?_cons_zero, Option.some.injEq] at hx
        subst hx
        obtain ⟨es, clock, rfl, hm⟩ := hmo
        refine ⟨b, rfl, ?_⟩
        unfold BxS
        rw [if_pos (show wordsBox.map = true from rfl)]
        exact ⟨rfl, es, clock, hbo, hm _ _, by simp [g], by simp [g]⟩
      | succ i => simp at hx
    · have hne : k ≠ b := by omega
      have := hS0.fresh k hk
      exact ⟨by simp [g, hne, this.1], by simp [g, hne, this.2]⟩
  have hcalm : ∀ k, (g.O k).calm := fun k => by
    by_cases e : k = b
    · simp [g, e, Own.calm]
    · simp only [g, e, if_false]; exact gOf_calm W k
  refine (hC g W #[.string s, .map (some b)] hB (by
    show RT g W [.str s, .mapp 0] [.string s, .map (some b)]
    simp only [RT]
    exact ⟨_, _, rfl, RV_str.2 rfl, _, _, rfl, ⟨by simp only [R, Value.cells]; exact ⟨b, rfl, rfl⟩, rfl⟩, rfl⟩) hS hcalm).mono fun e W' hp => ?_
  obtain ⟨g', hE, hS', _, v, rfl, hv, _⟩ := hp
  obtain rfl := RV_tok hv
  obtain ⟨b', o', h1, h2, h3, _⟩ := box_words hS'
  have hb' : g'.B[0]? = some b := hE.B 0 b rfl
  obtain rfl : b' = b := by rw [h1] at hb'; exact Option.some.inj hb'
  exact ⟨⟨hE.os, hE.tape, hE.output, hE.size, fun k hk hne => (hE.ext k (by simp [g, hne, gOf, hk])).2.1⟩, ⟨o', h2, h3⟩, rfl⟩
end Go.Av
