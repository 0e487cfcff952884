/- Part of a proof: IndexFunc at expressions (printed out of AvCb). -/
import Derived.Test.YtlhmipepdcndoaaDoorAvCb
set_option maxRecDepth 100000
set_option linter.unusedSimpArgs false
set_option linter.unusedVariables false
namespace Go.Av
open Go Go.Proofs
attribute [local simp] afun acode aops aoper aopB blkOk aop apure aenter St.av St.avs St.sv SV.av Slots.get Slots.set Slots.kill SV.kill St.put St.drop St.right St.move St.keep Slots.keep Locs.keep Locs.get Locs.set rightOf normal AV.isDat AV.cells St.cellsAt aload abin aun AOp.dst AOp.addr aresult ares aresAll afinish List.filter_cons St.freeze Slots.freeze SV.frozen Locs.del isNilAV boundOf astore putCells dropCells nilOk optOwn nilsOf nilsGo isNilSl aleave_same

/-- An expression: what it does, its number, and the rest as it is. -/
structure E where
  op : Int
  n : Int
  x2 : AV
  x3 : AV
  x4 : AV
  x5 : AV
  x6 : AV
  x7 : AV
  x8 : AV
def E.av (e : E) : AV := .agg [.int .i64 e.op, .int .i64 e.n, e.x2, e.x3, e.x4, e.x5, e.x6, e.x7, e.x8]
def exprsAV (l : List E) : AV := .slice 9 (l.map E.av)
def st70 (l : List E) (fn : Nat) (first caps : List AV) (S : List Bx) (i : Nat) : St :=
  { σ := [(0, .v (.slice 9 (l.map E.av))), (1, .v (clo fn first caps)), (7, .v (.int .i64 l.length)), (8, .v (.int .i64 i))], own := [], loc := [], S := S }
theorem round70 (l : List E) (fn : Nat) (first caps : List AV) (S : List Bx) (i : Nat) (hl : l.length ≤ 9223372036854775807) (k : E) (hk : l[i]? = some k) (b : Bool) (hb : run fn (first ++ [E.av k] ++ caps) S = some (.ret (.bool b) none, S)) :
    acode run a70_l0 (st70 l fn first caps S i) = if b then some (.ret, { σ := [(4, .v (.int .i64 i))], own := [], loc := [], S := S }) else some (.normal, st70 l fn first caps S (i + 1)) := by
  have hi : i < l.length := (List.getElem?_eq_some_iff.1 hk).1
  have hw : IntKind.wrap .i64 ((i : Int) + 1) = (i : Int) + 1 := wrap64 (by omega) (by omega)
  have hi' : (i : Int) < (l.length : Int) := by omega
  simp [E.av] at hb
  cases b <;> simp [a70_l0, st70, clo, hk, E.av, hi', hb, hw]
theorem end70 (l : List E) (fn : Nat) (first caps : List AV) (S : List Bx) : acode run a70_l0 (st70 l fn first caps S l.length) = some (.exit 0, { σ := [], own := [], loc := [], S := S }) := by
  simp [a70_l0, st70]
theorem c70 (l : List E) (fn : Nat) (first caps : List AV) (p : E → Bool) (S : List Bx) (hl : l.length ≤ 9223372036854775807) (hp : ∀ k ∈ l, run fn (first ++ [E.av k] ++ caps) S = some (.ret (.bool (p k)) none, S)) :
    run 70 [exprsAV l, clo fn first caps] S = some (.ret (.int .i64 (idx l p)) none, S) := by
  refine eqn rfl ?_
  rcases first_not (fun k => !p k) l with h | ⟨j, x, h1, h2, h3⟩
  · have hloop := loop_upto (f := acode run a70_l0) (st := st70 l fn first caps S) (r := (.exit 0, { σ := [], own := [], loc := [], S := S })) (by simp) l.length 0 (fun k _ hk => by
      have hk' : k < l.length := by omega
      have hg : l[k]? = some l[k] := by simp [hk']
      have hok : p l[k] = false := by have := List.all_eq_true.1 h _ (List.getElem_mem hk'); simpa using this
      rw [round70 l fn first caps S k hl _ hg (p l[k]) (hp _ (List.getElem_mem hk')), hok]; rfl) (by rw [Nat.zero_add]; exact end70 l fn first caps S)
    simp only [st70, Int.natCast_zero, Int.ofNat_zero] at hloop
    have hidx : idx l p = -1 := by
      unfold idx
      have : l.findIdx? p = none := by
        rw [List.findIdx?_eq_none_iff]
        intro x hx
        have := List.all_eq_true.1 h x hx
        simpa using this
      rw [this]
    simp [a70, exprsAV, hloop, hidx]
  · have hj : j < l.length := (List.getElem?_eq_some_iff.1 h1).1
    have hloop := loop_upto (f := acode run a70_l0) (st := st70 l fn first caps S) (r := (.ret, { σ := [(4, .v (.int .i64 j))], own := [], loc := [], S := S })) (by simp) j 0 (fun k _ hk => by
      have hk' : k < l.length := by omega
      have hg : l[k]? = some l[k] := by simp [hk']
      have hok : p l[k] = false := by have := h3 k (by omega) _ hg; simpa using this
      rw [round70 l fn first caps S k hl _ hg (p l[k]) (hp _ (List.getElem_mem hk')), hok]; rfl) (by
      have hx : p x = true := by simpa using h2
      rw [Nat.zero_add, round70 l fn first caps S j hl x h1 (p x) (hp _ (List.mem_of_getElem? h1)), hx]; rfl)
    simp only [st70, Int.natCast_zero, Int.ofNat_zero] at hloop
    have hidx : idx l p = j := by
      unfold idx
      have : l.findIdx? p = some j := by
        rw [List.findIdx?_eq_some_iff_getElem]
        refine ⟨hj, ?_, fun k hk => ?_⟩
        · have e : l[j] = x := by
            have := h1; rw [List.getElem?_eq_getElem hj] at this; exact Option.some.inj this
          rw [e]; simpa using h2
        · have := h3 k hk l[k] (by rw [List.getElem?_eq_getElem])
          simpa using this
      rw [this]
    simp [a70, exprsAV, hloop, hidx]

end Go.Av
