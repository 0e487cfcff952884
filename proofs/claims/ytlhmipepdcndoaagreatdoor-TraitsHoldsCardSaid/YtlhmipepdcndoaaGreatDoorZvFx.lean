/- Part of a proof: The library's functions at this seat (numbers as digits, replacing); the chapter's example. -/
import Derived.Test.YtlhmipepdcndoaaGreatDoorZvFa
import Derived.Test.YtlhmipepdcndoaaGreatDoorF3
import Derived.Test.YtlhmipepdcndoaaGreatDoorTryzShelf
set_option maxRecDepth 1000000
namespace Go.Av
open Go Go.Proofs Go.RowKit Go.Sort
theorem callable {f : FuncId} {fn : Func} (h : Tryz.prog.funcs[f]? = some fn) (h1 : (fn.name == "runtime.NumGoroutine") = false) (h2 : fn.body.isNone = false) : Callable Tryz.prog f := ⟨fn, h, h1, h2⟩

/-- What stands in the library's variables. -/
structure LaidV (W : World) : Prop where
  pow : Lib.TabIs Tryz.prog W "internal/strconv.uint64pow10" .u64 Lib.pow10Tab
  max : ∃ m, W.cell? ⟨5, 0, none⟩ = some (.int .i64 m)
theorem var_same {P : Program} {W0 w : World} (h : ∀ b, b < W0.heap.size → w.heap[b]? = W0.heap[b]?) {n : String} {cs : Array Value} (hv : W0.var? P n = some cs) : w.var? P n = some cs := by
  unfold World.var? at hv ⊢
  cases hg : P.globalNamed n with
  | none => rw [hg] at hv; cases hv
  | some g =>
    rw [hg] at hv
    simp only [Option.bind_some] at hv ⊢
    have hlt : g < W0.heap.size := by
      rcases Nat.lt_or_ge g W0.heap.size with h' | h'
      · exact h'
      · simp [Array.getElem?_eq_none h'] at hv
    rw [h g hlt]; exact hv
theorem cell_same {W0 w : World} (h : ∀ b, b < W0.heap.size → w.heap[b]? = W0.heap[b]?) {b o : Nat} {v : Value} (hv : W0.cell? ⟨b, o, none⟩ = some v) : w.cell? ⟨b, o, none⟩ = some v := by
  have hlt : b < W0.heap.size := by
    rcases Nat.lt_or_ge b W0.heap.size with h' | h'
    · exact h'
    · unfold World.cell? at hv; simp [Array.getElem?_eq_none h'] at hv
  rw [World.cell?_of_block (w := W0) (h b hlt)]; exact hv
theorem below_grow (w : World) (k : Nat) (os : Array Obj) : Below w.heap.size w (grow (w.drewN k) os) := by
  have h : ∀ k, Below w.heap.size w (w.drewN k) := by
    intro k
    induction k with
    | zero => exact Below.refl _ _
    | succ k ih => exact ih.drew
  have h1 := h k
  refine ⟨h1.os, h1.tape, h1.output, Nat.le_trans h1.size (by simp [grow]), fun b hb => ?_⟩
  rw [← h1.block b hb]
  have : b < (w.drewN k).heap.size := Nat.lt_of_lt_of_le hb h1.size
  simp only [grow]
  rw [Array.getElem?_append_left this]

theorem sound118 (W0 : World) : SoundFun Tryz.prog W0 118 (xClone 2 52 16) :=
  ext_clone (t := 27) mixed Tryz.func118 rfl rfl (by kernel_rfl) (by kernel_rfl) (by kernel_rfl) (by kernel_rfl) (by kernel_rfl) (by kernel_rfl) rfl rfl rfl Tryz.underlying27
theorem sound85 (W0 : World) : SoundFun Tryz.prog W0 85 xItoaS := ext_itoaS (callable Tryz.func85 (by kernel_rfl) (by kernel_rfl)) (fun i hi w => Tryz.strconv_Itoa_small i hi w)
theorem sound86 (W0 : World) : SoundFun Tryz.prog W0 86 xJoin := ext_join (callable Tryz.func86 (by kernel_rfl) (by kernel_rfl)) Tryz.strings_Join_none Tryz.strings_Join
theorem sound108 {W0 : World} (hL : LaidV W0) : SoundFun Tryz.prog W0 108 xFormatInt :=
  ext_formatInt (callable Tryz.func108 (by kernel_rfl) (by kernel_rfl)) (fun n w h0 h1 hw => (Tryz.strconv_FormatInt_10 n h0 h1 w (var_same hw hL.pow)).mono fun e w' ⟨he, k, os, hg⟩ => ⟨he, hg ▸ below_grow w k os⟩)
theorem sound109 {W0 : World} (hL : LaidV W0) : SoundFun Tryz.prog W0 109 xReplaceAll :=
  ext_replaceAll (callable Tryz.func109 (by kernel_rfl) (by kernel_rfl)) (fun s old new w h0 h1 h2 hw => by
    obtain ⟨m, hm⟩ := hL.max
    refine Tryz.strings_ReplaceAll s old new m w h0 (cell_same hw hm) h1 ?_
    have hc := Lib.countB_le old h1 s.size s (Nat.le_refl _)
    have := Nat.mul_le_mul_right new.size hc
    omega)
theorem run_sound {W0 : World} (hL : LaidV W0) (n : Nat) : RecSound Tryz.prog W0 (crun (tabOf tabA tabX) n) := tabOf_sound mixed tabA_ok (by
  intro p hp
  simp only [tabX, List.mem_cons, List.mem_nil_iff, or_false] at hp
  rcases hp with rfl | rfl | rfl | rfl | rfl <;> first | exact sound118 W0 | exact sound85 W0 | exact sound86 W0 | exact sound108 hL | exact sound109 hL) n
theorem awake_run : crun (tabOf tabA tabX) 40 20 [] [] = some (.ret (.bool true) none, []) := by kernel_rfl
end Go.Av
