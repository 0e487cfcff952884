/- Part of a proof: The library's functions at this seat; the chapter's example. -/
import Derived.Test.YtlhmipepdcndoaaDoorAvFa
import Derived.Test.YtlhmipepdcndoaaDoorTrydShelf
set_option maxRecDepth 1000000
namespace Go.Av
open Go Go.Proofs
theorem callable {f : FuncId} {fn : Func} (h : Tryd.prog.funcs[f]? = some fn) (h1 : (fn.name == "runtime.NumGoroutine") = false) (h2 : fn.body.isNone = false) : Callable Tryd.prog f := ⟨fn, h, h1, h2⟩
theorem sound63 (W0 : World) : SoundFun Tryd.prog W0 63 (xClone 2 78 16) :=
  ext_clone (t := 27) mixed Tryd.func63 rfl rfl (by kernel_rfl) (by kernel_rfl) (by kernel_rfl) (by kernel_rfl) (by kernel_rfl) (by kernel_rfl) rfl rfl rfl Tryd.underlying27
theorem sound91 (W0 : World) : SoundFun Tryd.prog W0 91 xItoaS := ext_itoaS (callable Tryd.func91 (by kernel_rfl) (by kernel_rfl)) (fun i hi w => Tryd.strconv_Itoa_small i hi w)
theorem sound92 (W0 : World) : SoundFun Tryd.prog W0 92 xJoin := ext_join (callable Tryd.func92 (by kernel_rfl) (by kernel_rfl)) Tryd.strings_Join_none Tryd.strings_Join
theorem run_sound (W0 : World) (n : Nat) : RecSound Tryd.prog W0 (crun (tabOf tabA tabX) n) := tabOf_sound mixed tabA_ok (by
  intro p hp
  simp only [tabX, List.mem_cons, List.mem_nil_iff, or_false] at hp
  rcases hp with rfl | rfl | rfl
  · exact sound63 W0
  · exact sound91 W0
  · exact sound92 W0) n
theorem awake_run : crun (tabOf tabA tabX) 40 22 [] [] = some (.ret (.bool true) none, []) := by kernel_rfl
end Go.Av
