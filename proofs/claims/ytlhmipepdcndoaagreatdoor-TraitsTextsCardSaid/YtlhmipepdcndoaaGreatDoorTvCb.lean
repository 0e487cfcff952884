/- Part of a proof: What the functions compute: the library's walks through slices of keys. -/
import Derived.Test.YtlhmipepdcndoaaGreatDoorTvCa
set_option maxRecDepth 100000
set_option linter.unusedSimpArgs false
set_option linter.unusedVariables false
namespace Go.Av
open Go Go.Proofs
attribute [local simp] afun acode aops aoper aopB blkOk aop apure aenter St.av St.avs St.sv SV.av Slots.get Slots.set Slots.kill SV.kill St.put St.drop St.right St.move St.keep Slots.keep Locs.keep Locs.get Locs.set rightOf normal AV.isDat AV.cells St.cellsAt aload abin aun AOp.dst AOp.addr aresult ares aresAll afinish List.filter_cons St.freeze Slots.freeze SV.frozen Locs.del isNilAV boundOf astore putCells dropCells nilOk optOwn nilsOf nilsGo isNilSl aleave_same

def idx {α : Type} (l : List α) (p : α → Bool) : Int := match l.findIdx? p with | some j => j | none => -1
def clo (fn : Nat) (first caps : List AV) : AV := .clos (.func fn) first caps
def st141 (l : List K) (fn : Nat) (first caps : List AV) (S : List Bx) (i : Nat) : St :=
  { σ := [(0, .v (.slice 2 (l.map K.av))), (1, .v (clo fn first caps)), (7, .v (.int .i64 l.length)), (8, .v (.int .i64 i))], own := [], loc := [], S := S }
theorem round141 (l : List K) (fn : Nat) (first caps : List AV) (S : List Bx) (i : Nat) (hl : l.length ≤ 9223372036854775807) (k : K) (hk : l[i]? = some k) (b : Bool) (hb : run fn (first ++ [k.av] ++ caps) S = some (.ret (.bool b) none, S)) :
    acode run a141_l0 (st141 l fn first caps S i) = if b then some (.ret, { σ := [(4, .v (.int .i64 i))], own := [], loc := [], S := S }) else some (.normal, st141 l fn first caps S (i + 1)) := by
  have hi : i < l.length := (List.getElem?_eq_some_iff.1 hk).1
  have hw : IntKind.wrap .i64 ((i : Int) + 1) = (i : Int) + 1 := wrap64 (by omega) (by omega)
  have hi' : (i : Int) < (l.length : Int) := by omega
  simp [K.av] at hb
  cases b <;> simp [a141_l0, st141, clo, hk, K.av, hi', hb, hw]
theorem end141 (l : List K) (fn : Nat) (first caps : List AV) (S : List Bx) : acode run a141_l0 (st141 l fn first caps S l.length) = some (.exit 0, { σ := [], own := [], loc := [], S := S }) := by
  simp [a141_l0, st141]
theorem c141 (l : List K) (fn : Nat) (first caps : List AV) (p : K → Bool) (S : List Bx) (hl : l.length ≤ 9223372036854775807) (hp : ∀ k ∈ l, run fn (first ++ [k.av] ++ caps) S = some (.ret (.bool (p k)) none, S)) :
    run 141 [keysAV l, clo fn first caps] S = some (.ret (.int .i64 (idx l p)) none, S) := by
  refine eqn rfl ?_
  rcases first_not (fun k => !p k) l with h | ⟨j, x, h1, h2, h3⟩
  · have hloop := loop_upto (f := acode run a141_l0) (st := st141 l fn first caps S) (r := (.exit 0, { σ := [], own := [], loc := [], S := S })) (by simp) l.length 0 (fun k _ hk => by
      have hk' : k < l.length := by omega
      have hg : l[k]? = some l[k] := by simp [hk']
      have hok : p l[k] = false := by have := List.all_eq_true.1 h _ (List.getElem_mem hk'); simpa using this
      rw [round141 l fn first caps S k hl _ hg (p l[k]) (hp _ (List.getElem_mem hk')), hok]; rfl) (by rw [Nat.zero_add]; exact end141 l fn first caps S)
    simp only [st141, Int.natCast_zero, Int.ofNat_zero] at hloop
    have hidx : idx l p = -1 := by
      unfold idx
      have : l.findIdx? p = none := by
        rw [List.findIdx?_eq_none_iff]
        intro x hx
        have := List.all_eq_true.1 h x hx
        simpa using this
      rw [this]
    simp [a141, keysAV, hloop, hidx]
  · have hj : j < l.length := (List.getElem?_eq_some_iff.1 h1).1
    have hloop := loop_upto (f := acode run a141_l0) (st := st141 l fn first caps S) (r := (.ret, { σ := [(4, .v (.int .i64 j))], own := [], loc := [], S := S })) (by simp) j 0 (fun k _ hk => by
      have hk' : k < l.length := by omega
      have hg : l[k]? = some l[k] := by simp [hk']
      have hok : p l[k] = false := by have := h3 k (by omega) _ hg; simpa using this
      rw [round141 l fn first caps S k hl _ hg (p l[k]) (hp _ (List.getElem_mem hk')), hok]; rfl) (by
      have hx : p x = true := by simpa using h2
      rw [Nat.zero_add, round141 l fn first caps S j hl x h1 (p x) (hp _ (List.mem_of_getElem? h1)), hx]; rfl)
    simp only [st141, Int.natCast_zero, Int.ofNat_zero] at hloop
    have hidx : idx l p = j := by
      unfold idx
      have : l.findIdx? p = some j := by
        rw [List.findIdx?_eq_some_iff_getElem]
        refine ⟨hj, ?_, fun k hk => ?_⟩
        · have e : l[j] = x := by
            have := h1; rw [List.getElem?_eq_getElem hj] at this; exact Option.some.inj this
          rw [e]; simpa using h2
        · have := h3 k hk l[k] (by rw [List.getElem?_eq_getElem])
          simpa using this
      rw [this]
    simp [a141, keysAV, hloop, hidx]

theorem idx_any {α : Type} (l : List α) (p : α → Bool) : decide (idx l p ≥ 0) = l.any p := by
  unfold idx
  cases h : l.findIdx? p with
  | none =>
    rw [List.findIdx?_eq_none_iff] at h
    have : l.any p = false := by rw [List.any_eq_false]; intro x hx; simp [h x hx]
    rw [this]; simp
  | some j =>
    rw [List.findIdx?_eq_some_iff_getElem] at h
    obtain ⟨hj, h1, _⟩ := h
    have : l.any p = true := by rw [List.any_eq_true]; exact ⟨l[j], List.getElem_mem hj, h1⟩
    rw [this]; simp
theorem c119 (l : List K) (fn : Nat) (first caps : List AV) (p : K → Bool) (S : List Bx) (hl : l.length ≤ 9223372036854775807) (hp : ∀ k ∈ l, run fn (first ++ [k.av] ++ caps) S = some (.ret (.bool (p k)) none, S)) :
    run 119 [keysAV l, clo fn first caps] S = some (.ret (.bool (l.any p)) none, S) := by
  refine eqn rfl ?_
  have h := c141 l fn first caps p S hl hp
  simp only [keysAV, clo] at h
  have := idx_any l p
  simp [a119, keysAV, clo, h, ← this]
theorem c121 (k : K) (fn : Nat) (first caps : List AV) (b : Bool) (S : List Bx) (hb : run fn (first ++ [k.av] ++ caps) S = some (.ret (.bool b) none, S)) :
    run 121 [k.av, .sptr [clo fn first caps]] S = some (.ret (.bool (!b)) none, S) := by
  refine eqn rfl ?_
  simp [K.av] at hb
  simp [a121, K.av, clo, hb]
theorem c83 (l : List K) (fn : Nat) (first caps : List AV) (p : K → Bool) (S : List Bx) (hl : l.length ≤ 9223372036854775807) (hp : ∀ k ∈ l, run fn (first ++ [k.av] ++ caps) S = some (.ret (.bool (p k)) none, S)) :
    run 83 [keysAV l, clo fn first caps] S = some (.ret (.bool (l.all p)) none, S) := by
  refine eqn rfl ?_
  have h := c119 l 121 [] [.sptr [clo fn first caps]] (fun k => !p k) S hl (fun k hk => by simpa using c121 k fn first caps (p k) S (hp k hk))
  simp only [keysAV, clo] at h
  have e : (!l.any fun k => !p k) = l.all p := by simp [List.not_any_eq_all_not]
  simp [a83, keysAV, clo, h, ← e]
end Go.Av
