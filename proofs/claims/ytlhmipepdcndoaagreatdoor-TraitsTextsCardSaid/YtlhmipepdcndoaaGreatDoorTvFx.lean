/- Part of a proof: The library's functions at this seat (numbers as digits, replacing); the chapter's example. -/
import Derived.Test.YtlhmipepdcndoaaGreatDoorTvFa
import Derived.Test.YtlhmipepdcndoaaGreatDoorF3
import Derived.Lib.AtoiErrMem
import Derived.Test.YtlhmipepdcndoaaGreatDoorTryzShelf
set_option maxRecDepth 1000000
namespace Go.Av
open Go Go.Proofs Go.RowKit Go.Sort
theorem callable {f : FuncId} {fn : Func} (h : Tryz.prog.funcs[f]? = some fn) (h1 : (fn.name == "runtime.NumGoroutine") = false) (h2 : fn.body.isNone = false) : Callable Tryz.prog f := ⟨fn, h, h1, h2⟩

/-- What stands in the library's variables. -/
structure LaidV (W : World) : Prop where
  pow : Lib.TabIs Tryz.prog W "internal/strconv.uint64pow10" .u64 Lib.pow10Tab
  spc : Lib.TabIs Tryz.prog W "strings.asciiSpace" .u8 Lib.asciiSpaceTab
  wht : Lib.WhiteTab 1 W
  syn : ∃ tp p, W.var? Tryz.prog "strconv.ErrSyntax" = some #[.iface tp p]
  rng : ∃ tp p, W.var? Tryz.prog "strconv.ErrRange" = some #[.iface tp p]
theorem var_same {P : Program} {W0 w : World} (h : ∀ b, b < W0.heap.size → w.heap[b]? = W0.heap[b]?) {n : String} {cs : Array Value} (hv : W0.var? P n = some cs) : w.var? P n = some cs := by
  unfold World.var? at hv ⊢
  cases hg : P.globalNamed n with
  | none => rw [hg] at hv; cases hv
  | some g =>
    rw [hg] at hv
    simp only [Option.bind_some] at hv ⊢
    have hlt : g < W0.heap.size := by
      rcases Nat.lt_or_ge g W0.heap.size with h' | h'
      · exact h'
      · simp [Array.getElem?_eq_none h'] at hv
    rw [h g hlt]; exact hv
theorem cell_same {W0 w : World} (h : ∀ b, b < W0.heap.size → w.heap[b]? = W0.heap[b]?) {b o : Nat} {v : Value} (hv : W0.cell? ⟨b, o, none⟩ = some v) : w.cell? ⟨b, o, none⟩ = some v := by
  have hlt : b < W0.heap.size := by
    rcases Nat.lt_or_ge b W0.heap.size with h' | h'
    · exact h'
    · unfold World.cell? at hv; simp [Array.getElem?_eq_none h'] at hv
  rw [World.cell?_of_block (w := W0) (h b hlt)]; exact hv
theorem below_grow (w : World) (k : Nat) (os : Array Obj) : Below w.heap.size w (grow (w.drewN k) os) := by
  have h : ∀ k, Below w.heap.size w (w.drewN k) := by
    intro k
    induction k with
    | zero => exact Below.refl _ _
    | succ k ih => exact ih.drew
  have h1 := h k
  refine ⟨h1.os, h1.tape, h1.output, Nat.le_trans h1.size (by simp [grow]), fun b hb => ?_⟩
  rw [← h1.block b hb]
  have : b < (w.drewN k).heap.size := Nat.lt_of_lt_of_le hb h1.size
  simp only [grow]
  rw [Array.getElem?_append_left this]

theorem sound118 (W0 : World) : SoundFun Tryz.prog W0 118 (xClone 2 52 16) :=
  ext_clone (t := 27) mixed Tryz.func118 rfl rfl (by kernel_rfl) (by kernel_rfl) (by kernel_rfl) (by kernel_rfl) (by kernel_rfl) (by kernel_rfl) rfl rfl rfl Tryz.underlying27
theorem sound85 {W0 : World} (hL : LaidV W0) : SoundFun Tryz.prog W0 85 xItoa :=
  ext_itoa (callable Tryz.func85 (by kernel_rfl) (by kernel_rfl)) (fun n w h0 h1 hw => (Tryz.strconv_Itoa n h0 h1 w (var_same hw hL.pow)).mono fun e w' ⟨he, k, os, hg⟩ => ⟨he, hg ▸ below_grow w k os⟩)
theorem sound86 (W0 : World) : SoundFun Tryz.prog W0 86 xJoin := ext_join (callable Tryz.func86 (by kernel_rfl) (by kernel_rfl)) Tryz.strings_Join_none Tryz.strings_Join
theorem white_same {W0 w : World} (h : ∀ b, b < W0.heap.size → w.heap[b]? = W0.heap[b]?) (hv : Lib.WhiteTab 1 W0) : Lib.WhiteTab 1 w := by
  obtain ⟨T, oT, R, oR, h1, h2, h3, h4, h5⟩ := hv
  exact ⟨T, oT, R, oR, cell_same h h1, cell_same h h2, cell_same h h3, cell_same h h4, fun i hi => cell_same h (h5 i hi)⟩
theorem sound87 {W0 : World} (hL : LaidV W0) : SoundFun Tryz.prog W0 87 xFields :=
  ext_fields (callable Tryz.func87 (by kernel_rfl) (by kernel_rfl)) (fun s w hs hw => by
    have e : fieldsF s.data.toList = Lib.fieldsD s.data.toList := by
      unfold fieldsF
      split
      · rename_i h
        rw [List.all_eq_true] at h
        rw [Lib.fieldsD_ascii _ (fun b hb => by simpa using h b hb)]
      · rfl
    rw [e]
    refine (Tryz.strings_Fields_any s w hs (var_same hw hL.spc) (white_same hw hL.wht)).mono fun e w' ⟨A, he, hA, ho, hb⟩ => ?_
    obtain ⟨_, h⟩ := ho
    rcases h with ⟨h, _⟩ | ⟨g, cap, cur, h1, h2, h3, h4, h5, h6, h7⟩
    · cases h
    · injection h1 with h1 _ h1'
      injection h1 with h1
      injection h1 with h1
      subst h1
      subst h1'
      refine ⟨A, cur, _, _, he, hA, Nat.le_refl _, h3, fun j v hj => ?_, hb⟩
      rw [← h7, List.getElem?_take] at hj
      split at hj
      · simpa using hj
      · cases hj)
theorem sound89 {W0 : World} (hL : LaidV W0) : SoundFun Tryz.prog W0 89 (xAtoi 171) :=
  ext_atoi (callable Tryz.func89 (by kernel_rfl) (by kernel_rfl)) (fun s w hs hw => by
    unfold atoiEnd
    rcases hr : Lib.atoiAll s.data.toList with v | _ | _
    · exact (Tryz.strconv_Atoi_ok s (by omega) v hr w).mono fun e w' ⟨he, hx⟩ => ⟨he, by
        rcases hx with rfl | ⟨t, rfl⟩
        · exact Below.refl _ _
        · exact Lib.bytesWorld_below _ _ _⟩
    · obtain ⟨tp, p, hv⟩ := hL.syn
      exact (Tryz.strconv_Atoi_syntax_var s hs hr tp p w (var_same hw hv)).mono fun e w' ⟨N, he, _, _, hb⟩ => ⟨⟨N, he⟩, hb⟩
    · obtain ⟨tp, p, hv⟩ := hL.rng
      exact (Tryz.strconv_Atoi_range_var s hs hr tp p w (var_same hw hv)).mono fun e w' ⟨N, he, _, _, hb⟩ => ⟨⟨N, he⟩, hb⟩)
theorem run_sound {W0 : World} (hL : LaidV W0) (n : Nat) : RecSound Tryz.prog W0 (crun (tabOf tabA tabX) n) := tabOf_sound mixed tabA_ok (by
  intro p hp
  simp only [tabX, List.mem_cons, List.mem_nil_iff, or_false] at hp
  rcases hp with rfl | rfl | rfl | rfl | rfl <;> first | exact sound118 W0 | exact sound85 hL | exact sound86 W0 | exact sound87 hL | exact sound89 hL) n
theorem awake_run : crun (tabOf tabA tabX) 40 20 [] [] = some (.ret (.bool true) none, []) := by kernel_rfl
end Go.Av
