/- Part of a proof: IndexFunc, ContainsFunc, all at values and rows (printed by inst2.py out of AvCb). -/
import Derived.Test.YtlhmipepdcndoaaGreatDoorZvEa
set_option maxRecDepth 100000
set_option linter.unusedSimpArgs false
set_option linter.unusedVariables false
namespace Go.Av
open Go Go.Proofs
attribute [local simp] afun acode aops aoper aopB blkOk aop apure aenter St.av St.avs St.sv SV.av Slots.get Slots.set Slots.kill SV.kill St.put St.drop St.right St.move St.keep Slots.keep Locs.keep Locs.get Locs.set rightOf normal AV.isDat AV.cells St.cellsAt aload abin aun AOp.dst AOp.addr aresult ares aresAll afinish List.filter_cons St.freeze Slots.freeze SV.frozen Locs.del isNilAV boundOf astore putCells dropCells nilOk optOwn nilsOf nilsGo isNilSl aleave_same

/-! ### api.Value -/
def st133 (l : List V) (fn : Nat) (first caps : List AV) (S : List Bx) (i : Nat) : St :=
  { σ := [(0, .v (.slice 3 (l.map V.av))), (1, .v (clo fn first caps)), (7, .v (.int .i64 l.length)), (8, .v (.int .i64 i))], own := [], loc := [], S := S }
theorem round133 (l : List V) (fn : Nat) (first caps : List AV) (S : List Bx) (i : Nat) (hl : l.length ≤ 9223372036854775807) (k : V) (hk : l[i]? = some k) (b : Bool) (hb : run fn (first ++ [V.av k] ++ caps) S = some (.ret (.bool b) none, S)) :
    acode run a133_l0 (st133 l fn first caps S i) = if b then some (.ret, { σ := [(4, .v (.int .i64 i))], own := [], loc := [], S := S }) else some (.normal, st133 l fn first caps S (i + 1)) := by
  have hi : i < l.length := (List.getElem?_eq_some_iff.1 hk).1
  have hw : IntKind.wrap .i64 ((i : Int) + 1) = (i : Int) + 1 := wrap64 (by omega) (by omega)
  have hi' : (i : Int) < (l.length : Int) := by omega
  simp [V.av] at hb
  cases b <;> simp [a133_l0, st133, clo, hk, V.av, hi', hb, hw]
theorem end133 (l : List V) (fn : Nat) (first caps : List AV) (S : List Bx) : acode run a133_l0 (st133 l fn first caps S l.length) = some (.exit 0, { σ := [], own := [], loc := [], S := S }) := by
  simp [a133_l0, st133]
theorem c133 (l : List V) (fn : Nat) (first caps : List AV) (p : V → Bool) (S : List Bx) (hl : l.length ≤ 9223372036854775807) (hp : ∀ k ∈ l, run fn (first ++ [V.av k] ++ caps) S = some (.ret (.bool (p k)) none, S)) :
    run 133 [rowAV l, clo fn first caps] S = some (.ret (.int .i64 (idx l p)) none, S) := by
  refine eqn rfl ?_
  rcases first_not (fun k => !p k) l with h | ⟨j, x, h1, h2, h3⟩
  · have hloop := loop_upto (f := acode run a133_l0) (st := st133 l fn first caps S) (r := (.exit 0, { σ := [], own := [], loc := [], S := S })) (by simp) l.length 0 (fun k _ hk => by
      have hk' : k < l.length := by omega
      have hg : l[k]? = some l[k] := by simp [hk']
      have hok : p l[k] = false := by have := List.all_eq_true.1 h _ (List.getElem_mem hk'); simpa using this
      rw [round133 l fn first caps S k hl _ hg (p l[k]) (hp _ (List.getElem_mem hk')), hok]; rfl) (by rw [Nat.zero_add]; exact end133 l fn first caps S)
    simp only [st133, Int.natCast_zero, Int.ofNat_zero] at hloop
    have hidx : idx l p = -1 := by
      unfold idx
      have : l.findIdx? p = none := by
        rw [List.findIdx?_eq_none_iff]
        intro x hx
        have := List.all_eq_true.1 h x hx
        simpa using this
      rw [this]
    simp [a133, rowAV, hloop, hidx]
  · have hj : j < l.length := (List.getElem?_eq_some_iff.1 h1).1
    have hloop := loop_upto (f := acode run a133_l0) (st := st133 l fn first caps S) (r := (.ret, { σ := [(4, .v (.int .i64 j))], own := [], loc := [], S := S })) (by simp) j 0 (fun k _ hk => by
      have hk' : k < l.length := by omega
      have hg : l[k]? = some l[k] := by simp [hk']
      have hok : p l[k] = false := by have := h3 k (by omega) _ hg; simpa using this
      rw [round133 l fn first caps S k hl _ hg (p l[k]) (hp _ (List.getElem_mem hk')), hok]; rfl) (by
      have hx : p x = true := by simpa using h2
      rw [Nat.zero_add, round133 l fn first caps S j hl x h1 (p x) (hp _ (List.mem_of_getElem? h1)), hx]; rfl)
    simp only [st133, Int.natCast_zero, Int.ofNat_zero] at hloop
    have hidx : idx l p = j := by
      unfold idx
      have : l.findIdx? p = some j := by
        rw [List.findIdx?_eq_some_iff_getElem]
        refine ⟨hj, ?_, fun k hk => ?_⟩
        · have e : l[j] = x := by
            have := h1; rw [List.getElem?_eq_getElem hj] at this; exact Option.some.inj this
          rw [e]; simpa using h2
        · have := h3 k hk l[k] (by rw [List.getElem?_eq_getElem])
          simpa using this
      rw [this]
    simp [a133, rowAV, hloop, hidx]

theorem c101 (l : List V) (fn : Nat) (first caps : List AV) (p : V → Bool) (S : List Bx) (hl : l.length ≤ 9223372036854775807) (hp : ∀ k ∈ l, run fn (first ++ [V.av k] ++ caps) S = some (.ret (.bool (p k)) none, S)) :
    run 101 [rowAV l, clo fn first caps] S = some (.ret (.bool (l.any p)) none, S) := by
  refine eqn rfl ?_
  have h := c133 l fn first caps p S hl hp
  simp only [rowAV, clo] at h
  have := idx_any l p
  simp [a101, rowAV, clo, h, ← this]
theorem c102 (k : V) (fn : Nat) (first caps : List AV) (b : Bool) (S : List Bx) (hb : run fn (first ++ [V.av k] ++ caps) S = some (.ret (.bool b) none, S)) :
    run 102 [V.av k, .sptr [clo fn first caps]] S = some (.ret (.bool (!b)) none, S) := by
  refine eqn rfl ?_
  simp [V.av] at hb
  simp [a102, V.av, clo, hb]
theorem c66 (l : List V) (fn : Nat) (first caps : List AV) (p : V → Bool) (S : List Bx) (hl : l.length ≤ 9223372036854775807) (hp : ∀ k ∈ l, run fn (first ++ [V.av k] ++ caps) S = some (.ret (.bool (p k)) none, S)) :
    run 66 [rowAV l, clo fn first caps] S = some (.ret (.bool (l.all p)) none, S) := by
  refine eqn rfl ?_
  have h := c101 l 102 [] [.sptr [clo fn first caps]] (fun k => !p k) S hl (fun k hk => by simpa using c102 k fn first caps (p k) S (hp k hk))
  simp only [rowAV, clo] at h
  have e : (!l.any fun k => !p k) = l.all p := by simp [List.not_any_eq_all_not]
  simp [a66, rowAV, clo, h, ← e]

/-! ### []api.Value -/
def st105 (l : List (List V)) (fn : Nat) (first caps : List AV) (S : List Bx) (i : Nat) : St :=
  { σ := [(0, .v (.slice 1 (l.map rowAV))), (1, .v (clo fn first caps)), (7, .v (.int .i64 l.length)), (8, .v (.int .i64 i))], own := [], loc := [], S := S }
theorem round105 (l : List (List V)) (fn : Nat) (first caps : List AV) (S : List Bx) (i : Nat) (hl : l.length ≤ 9223372036854775807) (k : (List V)) (hk : l[i]? = some k) (b : Bool) (hb : run fn (first ++ [rowAV k] ++ caps) S = some (.ret (.bool b) none, S)) :
    acode run a105_l0 (st105 l fn first caps S i) = if b then some (.ret, { σ := [(4, .v (.int .i64 i))], own := [], loc := [], S := S }) else some (.normal, st105 l fn first caps S (i + 1)) := by
  have hi : i < l.length := (List.getElem?_eq_some_iff.1 hk).1
  have hw : IntKind.wrap .i64 ((i : Int) + 1) = (i : Int) + 1 := wrap64 (by omega) (by omega)
  have hi' : (i : Int) < (l.length : Int) := by omega
  simp [rowAV] at hb
  cases b <;> simp [a105_l0, st105, clo, hk, rowAV, hi', hb, hw]
theorem end105 (l : List (List V)) (fn : Nat) (first caps : List AV) (S : List Bx) : acode run a105_l0 (st105 l fn first caps S l.length) = some (.exit 0, { σ := [], own := [], loc := [], S := S }) := by
  simp [a105_l0, st105]
theorem c105 (l : List (List V)) (fn : Nat) (first caps : List AV) (p : (List V) → Bool) (S : List Bx) (hl : l.length ≤ 9223372036854775807) (hp : ∀ k ∈ l, run fn (first ++ [rowAV k] ++ caps) S = some (.ret (.bool (p k)) none, S)) :
    run 105 [rowsAV l, clo fn first caps] S = some (.ret (.int .i64 (idx l p)) none, S) := by
  refine eqn rfl ?_
  rcases first_not (fun k => !p k) l with h | ⟨j, x, h1, h2, h3⟩
  · have hloop := loop_upto (f := acode run a105_l0) (st := st105 l fn first caps S) (r := (.exit 0, { σ := [], own := [], loc := [], S := S })) (by simp) l.length 0 (fun k _ hk => by
      have hk' : k < l.length := by omega
      have hg : l[k]? = some l[k] := by simp [hk']
      have hok : p l[k] = false := by have := List.all_eq_true.1 h _ (List.getElem_mem hk'); simpa using this
      rw [round105 l fn first caps S k hl _ hg (p l[k]) (hp _ (List.getElem_mem hk')), hok]; rfl) (by rw [Nat.zero_add]; exact end105 l fn first caps S)
    simp only [st105, Int.natCast_zero, Int.ofNat_zero] at hloop
    have hidx : idx l p = -1 := by
      unfold idx
      have : l.findIdx? p = none := by
        rw [List.findIdx?_eq_none_iff]
        intro x hx
        have := List.all_eq_true.1 h x hx
        simpa using this
      rw [this]
    simp [a105, rowsAV, hloop, hidx]
  · have hj : j < l.length := (List.getElem?_eq_some_iff.1 h1).1
    have hloop := loop_upto (f := acode run a105_l0) (st := st105 l fn first caps S) (r := (.ret, { σ := [(4, .v (.int .i64 j))], own := [], loc := [], S := S })) (by simp) j 0 (fun k _ hk => by
      have hk' : k < l.length := by omega
      have hg : l[k]? = some l[k] := by simp [hk']
      have hok : p l[k] = false := by have := h3 k (by omega) _ hg; simpa using this
      rw [round105 l fn first caps S k hl _ hg (p l[k]) (hp _ (List.getElem_mem hk')), hok]; rfl) (by
      have hx : p x = true := by simpa using h2
      rw [Nat.zero_add, round105 l fn first caps S j hl x h1 (p x) (hp _ (List.mem_of_getElem? h1)), hx]; rfl)
    simp only [st105, Int.natCast_zero, Int.ofNat_zero] at hloop
    have hidx : idx l p = j := by
      unfold idx
      have : l.findIdx? p = some j := by
        rw [List.findIdx?_eq_some_iff_getElem]
        refine ⟨hj, ?_, fun k hk => ?_⟩
        · have e : l[j] = x := by
            have := h1; rw [List.getElem?_eq_getElem hj] at this; exact Option.some.inj this
          rw [e]; simpa using h2
        · have := h3 k hk l[k] (by rw [List.getElem?_eq_getElem])
          simpa using this
      rw [this]
    simp [a105, rowsAV, hloop, hidx]

theorem c70 (l : List (List V)) (fn : Nat) (first caps : List AV) (p : (List V) → Bool) (S : List Bx) (hl : l.length ≤ 9223372036854775807) (hp : ∀ k ∈ l, run fn (first ++ [rowAV k] ++ caps) S = some (.ret (.bool (p k)) none, S)) :
    run 70 [rowsAV l, clo fn first caps] S = some (.ret (.bool (l.any p)) none, S) := by
  refine eqn rfl ?_
  have h := c105 l fn first caps p S hl hp
  simp only [rowsAV, clo] at h
  have := idx_any l p
  simp [a70, rowsAV, clo, h, ← this]
theorem c71 (k : (List V)) (fn : Nat) (first caps : List AV) (b : Bool) (S : List Bx) (hb : run fn (first ++ [rowAV k] ++ caps) S = some (.ret (.bool b) none, S)) :
    run 71 [rowAV k, .sptr [clo fn first caps]] S = some (.ret (.bool (!b)) none, S) := by
  refine eqn rfl ?_
  simp [rowAV] at hb
  simp [a71, rowAV, clo, hb]
theorem c34 (l : List (List V)) (fn : Nat) (first caps : List AV) (p : (List V) → Bool) (S : List Bx) (hl : l.length ≤ 9223372036854775807) (hp : ∀ k ∈ l, run fn (first ++ [rowAV k] ++ caps) S = some (.ret (.bool (p k)) none, S)) :
    run 34 [rowsAV l, clo fn first caps] S = some (.ret (.bool (l.all p)) none, S) := by
  refine eqn rfl ?_
  have h := c70 l 71 [] [.sptr [clo fn first caps]] (fun k => !p k) S hl (fun k hk => by simpa using c71 k fn first caps (p k) S (hp k hk))
  simp only [rowsAV, clo] at h
  have e : (!l.any fun k => !p k) = l.all p := by simp [List.not_any_eq_all_not]
  simp [a34, rowsAV, clo, h, ← e]
end Go.Av
