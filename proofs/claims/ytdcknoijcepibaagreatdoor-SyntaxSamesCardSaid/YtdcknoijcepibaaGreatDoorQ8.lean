/- Part of a proof of syntax_sames. -/
import Derived.Test.YtdcknoijcepibaaGreatDoorQ7
import Derived.Test.YtdcknoijcepibaaGreatDoorQ3
set_option maxRecDepth 100000
set_option linter.unusedSimpArgs false
namespace Go.Av
open Go Go.Proofs
noncomputable abbrev run : Rec:=recL (tabOf tabA tabX)
attribute [local simp] afun acode aops aoper aopB blkOk aop apure aenter St.av St.avs St.sv SV.av Slots.get Slots.set Slots.kill SV.kill St.put St.drop St.right St.move St.keep Slots.keep Locs.keep Locs.get Locs.set rightOf normal AV.isDat AV.cells St.cellsAt aload abin aun AOp.dst AOp.addr aresult ares aresAll afinish List.filter_cons St.freeze Slots.freeze SV.frozen Locs.del isNilAV boundOf astore putCells dropCells nilOk optOwn nilsOf nilsGo isNilSl
theorem aleave_same (k : Nat) (S : List Bx) (e : AEnd) : aleave k S S e = some (e,S):=by simp [aleave]
attribute [local simp] aleave_same
theorem loop_upto {f : St→Option (AEx×St)} {st : Nat→St} {r : AEx×St} (hr : r.1≠.normal) : ∀ (j i : Nat),(∀ k,i≤k→k < i + j→f (st k) = some (.normal,st (k + 1)))→f (st (i + j)) = some r→aloopW f (st i) = some r
  | 0, i, _, h => by
    rw [aloopW_eq]
    simp only [Nat.add_zero] at h
    rw [h]
    obtain ⟨x,s⟩:=r
    cases x <;> simp_all
  | j + 1, i, hs, h => by
    rw [aloopW_eq,hs i (Nat.le_refl _) (by omega)]
    exact loop_upto hr j (i + 1) (fun k h1 h2=>hs k (by omega) (by omega)) (by rw [show i + 1 + j = i + (j + 1) by omega]; exact h)
structure K where
  c : Int
  d : Bool
def K.av (k : K) : AV:=.agg [.int .i64 k.c,.bool k.d]
theorem eqn {f : Nat} {fn : AFun} (hT : tabOf tabA tabX f = some (.air fn)) {args : List AV} {S : List Bx} {r : AEnd×List Bx} (h : afun run fn args S = some r) : run f args S = some r:=recL_air hT h
theorem first_not {α : Type} (p : α→Bool) : ∀ (l : List α),l.all p = true∨∃ (j : Nat) (x : α),l[j]? = some x∧p x = false∧∀ (k : Nat),k < j→∀ y,l[k]? = some y→p y = true
  | []=>.inl rfl
  | a :: l => by
    cases ha : p a with
    | false=>exact .inr ⟨0,a,rfl,ha,fun k hk=>by omega⟩
    | true =>
      rcases first_not p l with h | ⟨j,x,h1,h2,h3⟩
      · left; simp [ha,h]
      · right
        refine ⟨j + 1,x,by simpa using h1,h2,fun k hk y hy=>?_⟩
        cases k with
        | zero => obtain rfl : a = y := by simpa using hy
                  exact ha
        | succ k=>exact h3 k (by omega) y (by simpa using hy)
end Go.Av
set_option maxRecDepth 100000
set_option linter.unusedSimpArgs false
set_option linter.unusedVariables false
namespace Go.Av
open Go Go.Proofs
attribute [local simp] afun acode aops aoper aopB blkOk aop apure aenter St.av St.avs St.sv SV.av Slots.get Slots.set Slots.kill SV.kill St.put St.drop St.right St.move St.keep Slots.keep Locs.keep Locs.get Locs.set rightOf normal AV.isDat AV.cells St.cellsAt aload abin aun AOp.dst AOp.addr aresult ares aresAll afinish List.filter_cons St.freeze Slots.freeze SV.frozen Locs.del isNilAV boundOf astore putCells dropCells nilOk optOwn nilsOf nilsGo isNilSl aleave_same
end Go.Av
set_option maxRecDepth 100000
set_option linter.unusedSimpArgs false
set_option linter.unusedVariables false
namespace Go.Av
open Go Go.Proofs
attribute [local simp] afun acode aops aoper aopB blkOk aop apure aenter St.av St.avs St.sv SV.av Slots.get Slots.set Slots.kill SV.kill St.put St.drop St.right St.move St.keep Slots.keep Locs.keep Locs.get Locs.set rightOf normal AV.isDat AV.cells St.cellsAt aload abin aun AOp.dst AOp.addr aresult ares aresAll afinish List.filter_cons St.freeze Slots.freeze SV.frozen Locs.del isNilAV boundOf astore putCells dropCells nilOk optOwn nilsOf nilsGo isNilSl aleave_same
def iav (n : Int) : AV:=.int .i64 n
def intsAV (l : List Int) : AV:=.slice 1 (l.map iav)
def pav (p : Int×Int) : AV:=.agg [.int .i64 p.1,.int .i64 p.2]
def pairsAV (l : List (Int×Int)) : AV:=.slice 2 (l.map pav)
def setsAV (l : List (List Int)) : AV:=.slice 1 (l.map intsAV)
end Go.Av
set_option maxRecDepth 100000
set_option linter.unusedSimpArgs false
set_option linter.unusedVariables false
namespace Go.Av
open Go Go.Proofs
attribute [local simp] afun acode aops aoper aopB blkOk aop apure aenter St.av St.avs St.sv SV.av Slots.get Slots.set Slots.kill SV.kill St.put St.drop St.right St.move St.keep Slots.keep Locs.keep Locs.get Locs.set rightOf normal AV.isDat AV.cells St.cellsAt aload abin aun AOp.dst AOp.addr aresult ares aresAll afinish List.filter_cons St.freeze Slots.freeze SV.frozen Locs.del isNilAV boundOf astore putCells dropCells nilOk optOwn nilsOf nilsGo isNilSl aleave_same abuild
structure Dep where
  consts : List Int
  equal : List (Int×Int)
  sets : List (List Int)
def Dep.av (d : Dep) : AV:=.agg [intsAV d.consts,pairsAV d.equal,setsAV d.sets]
end Go.Av
set_option maxRecDepth 100000
set_option linter.unusedSimpArgs false
set_option linter.unusedVariables false
namespace Go.Av
open Go Go.Proofs
attribute [local simp] afun acode aops aoper aopB blkOk aop apure aenter St.av St.avs St.sv SV.av Slots.get Slots.set Slots.kill SV.kill St.put St.drop St.right St.move St.keep Slots.keep Locs.keep Locs.get Locs.set rightOf normal AV.isDat AV.cells St.cellsAt aload abin aun AOp.dst AOp.addr aresult ares aresAll afinish List.filter_cons St.freeze Slots.freeze SV.frozen Locs.del isNilAV boundOf astore putCells dropCells nilOk optOwn nilsOf nilsGo isNilSl aleave_same abuild chunk
theorem loop_all {α : Type} {f : St→Option (AEx×St)} (l : List α) (p : α→Bool) (st : Nat→St) {bad good : AEx×St} (hb : bad.1≠.normal) (hg : good.1≠.normal)
    (hround : ∀ (i : Nat) x,l[i]? = some x→f (st i) = if p x then some (.normal,st (i + 1)) else some bad) (hend : f (st l.length) = some good) :
    aloopW f (st 0) = if l.all p then some good else some bad:=by
  rcases first_not p l with h | ⟨j,x,h1,h2,h3⟩
  · rw [h, if_pos rfl]
    refine loop_upto hg l.length 0 (fun k _ hk=>?_) (by rw [Nat.zero_add]; exact hend)
    have hk' : k < l.length:=by omega
    rw [hround k l[k] (by simp [hk']),List.all_eq_true.1 h _ (List.getElem_mem hk')]; rfl
  · have hall : l.all p = false:=by
      rw [List.all_eq_false]
      exact ⟨x,List.mem_of_getElem? h1,by simp [h2]⟩
    rw [hall]
    have hj : j < l.length:=(List.getElem?_eq_some_iff.1 h1).1
    refine loop_upto hb j 0 (fun k _ hk=>?_) (by rw [Nat.zero_add,hround j x h1,h2]; rfl)
    have hk' : k < l.length:=by omega
    rw [hround k l[k] (by simp [hk']),h3 k (by omega) l[k] (by simp [hk'])]; rfl
end Go.Av
