/- Part of a proof: ref18.Asked. -/
import Derived.Test.YtmfgdgfamfpopaaGreatDoorKvCd
set_option maxRecDepth 100000
set_option linter.unusedSimpArgs false
set_option linter.unusedVariables false
namespace Go.Av
open Go Go.Proofs
attribute [local simp] afun acode aops aoper aopB blkOk aop apure aenter St.av St.avs St.sv SV.av Slots.get Slots.set Slots.kill SV.kill St.put St.drop St.right St.move St.keep Slots.keep Locs.keep Locs.get Locs.set rightOf normal AV.isDat AV.cells St.cellsAt aload abin aun AOp.dst AOp.addr aresult ares aresAll afinish List.filter_cons St.freeze Slots.freeze SV.frozen Locs.del isNilAV boundOf astore putCells dropCells nilOk optOwn nilsOf nilsGo isNilSl aleave_same abuild chunk

theorem lt_len (m l : Nat) : decide ((m : Int) < (l : Int)) = decide (m < l) := by simp
theorem loop_all {α : Type} {f : St → Option (AEx × St)} (l : List α) (p : α → Bool) (st : Nat → St) {bad good : AEx × St} (hb : bad.1 ≠ .normal) (hg : good.1 ≠ .normal)
    (hround : ∀ (i : Nat) x, l[i]? = some x → f (st i) = if p x then some (.normal, st (i + 1)) else some bad) (hend : f (st l.length) = some good) :
    aloopW f (st 0) = if l.all p then some good else some bad := by
  rcases first_not p l with h | ⟨j, x, h1, h2, h3⟩
  · rw [h, if_pos rfl]
    refine loop_upto hg l.length 0 (fun k _ hk => ?_) (by rw [Nat.zero_add]; exact hend)
    have hk' : k < l.length := by omega
    rw [hround k l[k] (by simp [hk']), List.all_eq_true.1 h _ (List.getElem_mem hk')]; rfl
  · have hall : l.all p = false := by
      rw [List.all_eq_false]
      exact ⟨x, List.mem_of_getElem? h1, by simp [h2]⟩
    rw [hall]
    have hj : j < l.length := (List.getElem?_eq_some_iff.1 h1).1
    refine loop_upto hb j 0 (fun k _ hk => ?_) (by rw [Nat.zero_add, hround j x h1, h2]; rfl)
    have hk' : k < l.length := by omega
    rw [hround k l[k] (by simp [hk']), h3 k (by omega) l[k] (by simp [hk'])]; rfl

def keysB (n : Int) (ks : List K) : Bool := ks.all (okK n) && decide (ks.length ≤ 32)
theorem keysB_eq (n : Int) (ks : List K) : (ks.all (okK n) && decide (ks.length ≤ 32)) = areKeysB n ks := by
  unfold areKeysB
  rw [Bool.and_comm]
  rfl
end Go.Av
