/- Part of a proof: The same at the other types of elements (printed out of AvCb). -/
import Derived.Test.YtlhmipepdcndoaaGreatDoorTvCb
set_option maxRecDepth 100000
set_option linter.unusedSimpArgs false
set_option linter.unusedVariables false
namespace Go.Av
open Go Go.Proofs
attribute [local simp] afun acode aops aoper aopB blkOk aop apure aenter St.av St.avs St.sv SV.av Slots.get Slots.set Slots.kill SV.kill St.put St.drop St.right St.move St.keep Slots.keep Locs.keep Locs.get Locs.set rightOf normal AV.isDat AV.cells St.cellsAt aload abin aun AOp.dst AOp.addr aresult ares aresAll afinish List.filter_cons St.freeze Slots.freeze SV.frozen Locs.del isNilAV boundOf astore putCells dropCells nilOk optOwn nilsOf nilsGo isNilSl aleave_same

def iav (n : Int) : AV := .int .i64 n
def intsAV (l : List Int) : AV := .slice 1 (l.map iav)
def pav (p : Int × Int) : AV := .agg [.int .i64 p.1, .int .i64 p.2]
def pairsAV (l : List (Int × Int)) : AV := .slice 2 (l.map pav)
def setsAV (l : List (List Int)) : AV := .slice 1 (l.map intsAV)
def listsAV (l : List (List K)) : AV := .slice 1 (l.map keysAV)

/-! ### int -/
def st104 (l : List Int) (fn : Nat) (first caps : List AV) (S : List Bx) (i : Nat) : St :=
  { σ := [(0, .v (.slice 1 (l.map iav))), (1, .v (clo fn first caps)), (7, .v (.int .i64 l.length)), (8, .v (.int .i64 i))], own := [], loc := [], S := S }
theorem round104 (l : List Int) (fn : Nat) (first caps : List AV) (S : List Bx) (i : Nat) (hl : l.length ≤ 9223372036854775807) (k : Int) (hk : l[i]? = some k) (b : Bool) (hb : run fn (first ++ [iav k] ++ caps) S = some (.ret (.bool b) none, S)) :
    acode run a104_l0 (st104 l fn first caps S i) = if b then some (.ret, { σ := [(4, .v (.int .i64 i))], own := [], loc := [], S := S }) else some (.normal, st104 l fn first caps S (i + 1)) := by
  have hi : i < l.length := (List.getElem?_eq_some_iff.1 hk).1
  have hw : IntKind.wrap .i64 ((i : Int) + 1) = (i : Int) + 1 := wrap64 (by omega) (by omega)
  have hi' : (i : Int) < (l.length : Int) := by omega
  simp [iav] at hb
  cases b <;> simp [a104_l0, st104, clo, hk, iav, hi', hb, hw]
theorem end104 (l : List Int) (fn : Nat) (first caps : List AV) (S : List Bx) : acode run a104_l0 (st104 l fn first caps S l.length) = some (.exit 0, { σ := [], own := [], loc := [], S := S }) := by
  simp [a104_l0, st104]
theorem c104 (l : List Int) (fn : Nat) (first caps : List AV) (p : Int → Bool) (S : List Bx) (hl : l.length ≤ 9223372036854775807) (hp : ∀ k ∈ l, run fn (first ++ [iav k] ++ caps) S = some (.ret (.bool (p k)) none, S)) :
    run 104 [intsAV l, clo fn first caps] S = some (.ret (.int .i64 (idx l p)) none, S) := by
  refine eqn rfl ?_
  rcases first_not (fun k => !p k) l with h | ⟨j, x, h1, h2, h3⟩
  · have hloop := loop_upto (f := acode run a104_l0) (st := st104 l fn first caps S) (r := (.exit 0, { σ := [], own := [], loc := [], S := S })) (by simp) l.length 0 (fun k _ hk => by
      have hk' : k < l.length := by omega
      have hg : l[k]? = some l[k] := by simp [hk']
      have hok : p l[k] = false := by have := List.all_eq_true.1 h _ (List.getElem_mem hk'); simpa using this
      rw [round104 l fn first caps S k hl _ hg (p l[k]) (hp _ (List.getElem_mem hk')), hok]; rfl) (by rw [Nat.zero_add]; exact end104 l fn first caps S)
    simp only [st104, Int.natCast_zero, Int.ofNat_zero] at hloop
    have hidx : idx l p = -1 := by
      unfold idx
      have : l.findIdx? p = none := by
        rw [List.findIdx?_eq_none_iff]
        intro x hx
        have := List.all_eq_true.1 h x hx
        simpa using this
      rw [this]
    simp [a104, intsAV, hloop, hidx]
  · have hj : j < l.length := (List.getElem?_eq_some_iff.1 h1).1
    have hloop := loop_upto (f := acode run a104_l0) (st := st104 l fn first caps S) (r := (.ret, { σ := [(4, .v (.int .i64 j))], own := [], loc := [], S := S })) (by simp) j 0 (fun k _ hk => by
      have hk' : k < l.length := by omega
      have hg : l[k]? = some l[k] := by simp [hk']
      have hok : p l[k] = false := by have := h3 k (by omega) _ hg; simpa using this
      rw [round104 l fn first caps S k hl _ hg (p l[k]) (hp _ (List.getElem_mem hk')), hok]; rfl) (by
      have hx : p x = true := by simpa using h2
      rw [Nat.zero_add, round104 l fn first caps S j hl x h1 (p x) (hp _ (List.mem_of_getElem? h1)), hx]; rfl)
    simp only [st104, Int.natCast_zero, Int.ofNat_zero] at hloop
    have hidx : idx l p = j := by
      unfold idx
      have : l.findIdx? p = some j := by
        rw [List.findIdx?_eq_some_iff_getElem]
        refine ⟨hj, ?_, fun k hk => ?_⟩
        · have e : l[j] = x := by
            have := h1; rw [List.getElem?_eq_getElem hj] at this; exact Option.some.inj this
          rw [e]; simpa using h2
        · have := h3 k hk l[k] (by rw [List.getElem?_eq_getElem])
          simpa using this
      rw [this]
    simp [a104, intsAV, hloop, hidx]

theorem c68 (l : List Int) (fn : Nat) (first caps : List AV) (p : Int → Bool) (S : List Bx) (hl : l.length ≤ 9223372036854775807) (hp : ∀ k ∈ l, run fn (first ++ [iav k] ++ caps) S = some (.ret (.bool (p k)) none, S)) :
    run 68 [intsAV l, clo fn first caps] S = some (.ret (.bool (l.any p)) none, S) := by
  refine eqn rfl ?_
  have h := c104 l fn first caps p S hl hp
  simp only [intsAV, clo] at h
  have := idx_any l p
  simp [a68, intsAV, clo, h, ← this]
theorem c69 (k : Int) (fn : Nat) (first caps : List AV) (b : Bool) (S : List Bx) (hb : run fn (first ++ [iav k] ++ caps) S = some (.ret (.bool b) none, S)) :
    run 69 [iav k, .sptr [clo fn first caps]] S = some (.ret (.bool (!b)) none, S) := by
  refine eqn rfl ?_
  simp [iav] at hb
  simp [a69, iav, clo, hb]
theorem c32 (l : List Int) (fn : Nat) (first caps : List AV) (p : Int → Bool) (S : List Bx) (hl : l.length ≤ 9223372036854775807) (hp : ∀ k ∈ l, run fn (first ++ [iav k] ++ caps) S = some (.ret (.bool (p k)) none, S)) :
    run 32 [intsAV l, clo fn first caps] S = some (.ret (.bool (l.all p)) none, S) := by
  refine eqn rfl ?_
  have h := c68 l 69 [] [.sptr [clo fn first caps]] (fun k => !p k) S hl (fun k hk => by simpa using c69 k fn first caps (p k) S (hp k hk))
  simp only [intsAV, clo] at h
  have e : (!l.any fun k => !p k) = l.all p := by simp [List.not_any_eq_all_not]
  simp [a32, intsAV, clo, h, ← e]

/-! ### pair -/
def st106 (l : List (Int × Int)) (fn : Nat) (first caps : List AV) (S : List Bx) (i : Nat) : St :=
  { σ := [(0, .v (.slice 2 (l.map pav))), (1, .v (clo fn first caps)), (7, .v (.int .i64 l.length)), (8, .v (.int .i64 i))], own := [], loc := [], S := S }
theorem round106 (l : List (Int × Int)) (fn : Nat) (first caps : List AV) (S : List Bx) (i : Nat) (hl : l.length ≤ 9223372036854775807) (k : (Int × Int)) (hk : l[i]? = some k) (b : Bool) (hb : run fn (first ++ [pav k] ++ caps) S = some (.ret (.bool b) none, S)) :
    acode run a106_l0 (st106 l fn first caps S i) = if b then some (.ret, { σ := [(4, .v (.int .i64 i))], own := [], loc := [], S := S }) else some (.normal, st106 l fn first caps S (i + 1)) := by
  have hi : i < l.length := (List.getElem?_eq_some_iff.1 hk).1
  have hw : IntKind.wrap .i64 ((i : Int) + 1) = (i : Int) + 1 := wrap64 (by omega) (by omega)
  have hi' : (i : Int) < (l.length : Int) := by omega
  simp [pav] at hb
  cases b <;> simp [a106_l0, st106, clo, hk, pav, hi', hb, hw]
theorem end106 (l : List (Int × Int)) (fn : Nat) (first caps : List AV) (S : List Bx) : acode run a106_l0 (st106 l fn first caps S l.length) = some (.exit 0, { σ := [], own := [], loc := [], S := S }) := by
  simp [a106_l0, st106]
theorem c106 (l : List (Int × Int)) (fn : Nat) (first caps : List AV) (p : (Int × Int) → Bool) (S : List Bx) (hl : l.length ≤ 9223372036854775807) (hp : ∀ k ∈ l, run fn (first ++ [pav k] ++ caps) S = some (.ret (.bool (p k)) none, S)) :
    run 106 [pairsAV l, clo fn first caps] S = some (.ret (.int .i64 (idx l p)) none, S) := by
  refine eqn rfl ?_
  rcases first_not (fun k => !p k) l with h | ⟨j, x, h1, h2, h3⟩
  · have hloop := loop_upto (f := acode run a106_l0) (st := st106 l fn first caps S) (r := (.exit 0, { σ := [], own := [], loc := [], S := S })) (by simp) l.length 0 (fun k _ hk => by
      have hk' : k < l.length := by omega
      have hg : l[k]? = some l[k] := by simp [hk']
      have hok : p l[k] = false := by have := List.all_eq_true.1 h _ (List.getElem_mem hk'); simpa using this
      rw [round106 l fn first caps S k hl _ hg (p l[k]) (hp _ (List.getElem_mem hk')), hok]; rfl) (by rw [Nat.zero_add]; exact end106 l fn first caps S)
    simp only [st106, Int.natCast_zero, Int.ofNat_zero] at hloop
    have hidx : idx l p = -1 := by
      unfold idx
      have : l.findIdx? p = none := by
        rw [List.findIdx?_eq_none_iff]
        intro x hx
        have := List.all_eq_true.1 h x hx
        simpa using this
      rw [this]
    simp [a106, pairsAV, hloop, hidx]
  · have hj : j < l.length := (List.getElem?_eq_some_iff.1 h1).1
    have hloop := loop_upto (f := acode run a106_l0) (st := st106 l fn first caps S) (r := (.ret, { σ := [(4, .v (.int .i64 j))], own := [], loc := [], S := S })) (by simp) j 0 (fun k _ hk => by
      have hk' : k < l.length := by omega
      have hg : l[k]? = some l[k] := by simp [hk']
      have hok : p l[k] = false := by have := h3 k (by omega) _ hg; simpa using this
      rw [round106 l fn first caps S k hl _ hg (p l[k]) (hp _ (List.getElem_mem hk')), hok]; rfl) (by
      have hx : p x = true := by simpa using h2
      rw [Nat.zero_add, round106 l fn first caps S j hl x h1 (p x) (hp _ (List.mem_of_getElem? h1)), hx]; rfl)
    simp only [st106, Int.natCast_zero, Int.ofNat_zero] at hloop
    have hidx : idx l p = j := by
      unfold idx
      have : l.findIdx? p = some j := by
        rw [List.findIdx?_eq_some_iff_getElem]
        refine ⟨hj, ?_, fun k hk => ?_⟩
        · have e : l[j] = x := by
            have := h1; rw [List.getElem?_eq_getElem hj] at this; exact Option.some.inj this
          rw [e]; simpa using h2
        · have := h3 k hk l[k] (by rw [List.getElem?_eq_getElem])
          simpa using this
      rw [this]
    simp [a106, pairsAV, hloop, hidx]

theorem c72 (l : List (Int × Int)) (fn : Nat) (first caps : List AV) (p : (Int × Int) → Bool) (S : List Bx) (hl : l.length ≤ 9223372036854775807) (hp : ∀ k ∈ l, run fn (first ++ [pav k] ++ caps) S = some (.ret (.bool (p k)) none, S)) :
    run 72 [pairsAV l, clo fn first caps] S = some (.ret (.bool (l.any p)) none, S) := by
  refine eqn rfl ?_
  have h := c106 l fn first caps p S hl hp
  simp only [pairsAV, clo] at h
  have := idx_any l p
  simp [a72, pairsAV, clo, h, ← this]
theorem c73 (k : (Int × Int)) (fn : Nat) (first caps : List AV) (b : Bool) (S : List Bx) (hb : run fn (first ++ [pav k] ++ caps) S = some (.ret (.bool b) none, S)) :
    run 73 [pav k, .sptr [clo fn first caps]] S = some (.ret (.bool (!b)) none, S) := by
  refine eqn rfl ?_
  simp [pav] at hb
  simp [a73, pav, clo, hb]
theorem c36 (l : List (Int × Int)) (fn : Nat) (first caps : List AV) (p : (Int × Int) → Bool) (S : List Bx) (hl : l.length ≤ 9223372036854775807) (hp : ∀ k ∈ l, run fn (first ++ [pav k] ++ caps) S = some (.ret (.bool (p k)) none, S)) :
    run 36 [pairsAV l, clo fn first caps] S = some (.ret (.bool (l.all p)) none, S) := by
  refine eqn rfl ?_
  have h := c72 l 73 [] [.sptr [clo fn first caps]] (fun k => !p k) S hl (fun k hk => by simpa using c73 k fn first caps (p k) S (hp k hk))
  simp only [pairsAV, clo] at h
  have e : (!l.any fun k => !p k) = l.all p := by simp [List.not_any_eq_all_not]
  simp [a36, pairsAV, clo, h, ← e]

/-! ### list -/
def st107 (l : List (List Int)) (fn : Nat) (first caps : List AV) (S : List Bx) (i : Nat) : St :=
  { σ := [(0, .v (.slice 1 (l.map intsAV))), (1, .v (clo fn first caps)), (7, .v (.int .i64 l.length)), (8, .v (.int .i64 i))], own := [], loc := [], S := S }
theorem round107 (l : List (List Int)) (fn : Nat) (first caps : List AV) (S : List Bx) (i : Nat) (hl : l.length ≤ 9223372036854775807) (k : (List Int)) (hk : l[i]? = some k) (b : Bool) (hb : run fn (first ++ [intsAV k] ++ caps) S = some (.ret (.bool b) none, S)) :
    acode run a107_l0 (st107 l fn first caps S i) = if b then some (.ret, { σ := [(4, .v (.int .i64 i))], own := [], loc := [], S := S }) else some (.normal, st107 l fn first caps S (i + 1)) := by
  have hi : i < l.length := (List.getElem?_eq_some_iff.1 hk).1
  have hw : IntKind.wrap .i64 ((i : Int) + 1) = (i : Int) + 1 := wrap64 (by omega) (by omega)
  have hi' : (i : Int) < (l.length : Int) := by omega
  simp [intsAV] at hb
  cases b <;> simp [a107_l0, st107, clo, hk, intsAV, hi', hb, hw]
theorem end107 (l : List (List Int)) (fn : Nat) (first caps : List AV) (S : List Bx) : acode run a107_l0 (st107 l fn first caps S l.length) = some (.exit 0, { σ := [], own := [], loc := [], S := S }) := by
  simp [a107_l0, st107]
theorem c107 (l : List (List Int)) (fn : Nat) (first caps : List AV) (p : (List Int) → Bool) (S : List Bx) (hl : l.length ≤ 9223372036854775807) (hp : ∀ k ∈ l, run fn (first ++ [intsAV k] ++ caps) S = some (.ret (.bool (p k)) none, S)) :
    run 107 [setsAV l, clo fn first caps] S = some (.ret (.int .i64 (idx l p)) none, S) := by
  refine eqn rfl ?_
  rcases first_not (fun k => !p k) l with h | ⟨j, x, h1, h2, h3⟩
  · have hloop := loop_upto (f := acode run a107_l0) (st := st107 l fn first caps S) (r := (.exit 0, { σ := [], own := [], loc := [], S := S })) (by simp) l.length 0 (fun k _ hk => by
      have hk' : k < l.length := by omega
      have hg : l[k]? = some l[k] := by simp [hk']
      have hok : p l[k] = false := by have := List.all_eq_true.1 h _ (List.getElem_mem hk'); simpa using this
      rw [round107 l fn first caps S k hl _ hg (p l[k]) (hp _ (List.getElem_mem hk')), hok]; rfl) (by rw [Nat.zero_add]; exact end107 l fn first caps S)
    simp only [st107, Int.natCast_zero, Int.ofNat_zero] at hloop
    have hidx : idx l p = -1 := by
      unfold idx
      have : l.findIdx? p = none := by
        rw [List.findIdx?_eq_none_iff]
        intro x hx
        have := List.all_eq_true.1 h x hx
        simpa using this
      rw [this]
    simp [a107, setsAV, hloop, hidx]
  · have hj : j < l.length := (List.getElem?_eq_some_iff.1 h1).1
    have hloop := loop_upto (f := acode run a107_l0) (st := st107 l fn first caps S) (r := (.ret, { σ := [(4, .v (.int .i64 j))], own := [], loc := [], S := S })) (by simp) j 0 (fun k _ hk => by
      have hk' : k < l.length := by omega
      have hg : l[k]? = some l[k] := by simp [hk']
      have hok : p l[k] = false := by have := h3 k (by omega) _ hg; simpa using this
      rw [round107 l fn first caps S k hl _ hg (p l[k]) (hp _ (List.getElem_mem hk')), hok]; rfl) (by
      have hx : p x = true := by simpa using h2
      rw [Nat.zero_add, round107 l fn first caps S j hl x h1 (p x) (hp _ (List.mem_of_getElem? h1)), hx]; rfl)
    simp only [st107, Int.natCast_zero, Int.ofNat_zero] at hloop
    have hidx : idx l p = j := by
      unfold idx
      have : l.findIdx? p = some j := by
        rw [List.findIdx?_eq_some_iff_getElem]
        refine ⟨hj, ?_, fun k hk => ?_⟩
        · have e : l[j] = x := by
            have := h1; rw [List.getElem?_eq_getElem hj] at this; exact Option.some.inj this
          rw [e]; simpa using h2
        · have := h3 k hk l[k] (by rw [List.getElem?_eq_getElem])
          simpa using this
      rw [this]
    simp [a107, setsAV, hloop, hidx]

theorem c74 (l : List (List Int)) (fn : Nat) (first caps : List AV) (p : (List Int) → Bool) (S : List Bx) (hl : l.length ≤ 9223372036854775807) (hp : ∀ k ∈ l, run fn (first ++ [intsAV k] ++ caps) S = some (.ret (.bool (p k)) none, S)) :
    run 74 [setsAV l, clo fn first caps] S = some (.ret (.bool (l.any p)) none, S) := by
  refine eqn rfl ?_
  have h := c107 l fn first caps p S hl hp
  simp only [setsAV, clo] at h
  have := idx_any l p
  simp [a74, setsAV, clo, h, ← this]
theorem c75 (k : (List Int)) (fn : Nat) (first caps : List AV) (b : Bool) (S : List Bx) (hb : run fn (first ++ [intsAV k] ++ caps) S = some (.ret (.bool b) none, S)) :
    run 75 [intsAV k, .sptr [clo fn first caps]] S = some (.ret (.bool (!b)) none, S) := by
  refine eqn rfl ?_
  simp [intsAV] at hb
  simp [a75, intsAV, clo, hb]
theorem c39 (l : List (List Int)) (fn : Nat) (first caps : List AV) (p : (List Int) → Bool) (S : List Bx) (hl : l.length ≤ 9223372036854775807) (hp : ∀ k ∈ l, run fn (first ++ [intsAV k] ++ caps) S = some (.ret (.bool (p k)) none, S)) :
    run 39 [setsAV l, clo fn first caps] S = some (.ret (.bool (l.all p)) none, S) := by
  refine eqn rfl ?_
  have h := c74 l 75 [] [.sptr [clo fn first caps]] (fun k => !p k) S hl (fun k hk => by simpa using c75 k fn first caps (p k) S (hp k hk))
  simp only [setsAV, clo] at h
  have e : (!l.any fun k => !p k) = l.all p := by simp [List.not_any_eq_all_not]
  simp [a39, setsAV, clo, h, ← e]

/-! ### keys -/
def st132 (l : List (List K)) (fn : Nat) (first caps : List AV) (S : List Bx) (i : Nat) : St :=
  { σ := [(0, .v (.slice 1 (l.map keysAV))), (1, .v (clo fn first caps)), (7, .v (.int .i64 l.length)), (8, .v (.int .i64 i))], own := [], loc := [], S := S }
theorem round132 (l : List (List K)) (fn : Nat) (first caps : List AV) (S : List Bx) (i : Nat) (hl : l.length ≤ 9223372036854775807) (k : (List K)) (hk : l[i]? = some k) (b : Bool) (hb : run fn (first ++ [keysAV k] ++ caps) S = some (.ret (.bool b) none, S)) :
    acode run a132_l0 (st132 l fn first caps S i) = if b then some (.ret, { σ := [(4, .v (.int .i64 i))], own := [], loc := [], S := S }) else some (.normal, st132 l fn first caps S (i + 1)) := by
  have hi : i < l.length := (List.getElem?_eq_some_iff.1 hk).1
  have hw : IntKind.wrap .i64 ((i : Int) + 1) = (i : Int) + 1 := wrap64 (by omega) (by omega)
  have hi' : (i : Int) < (l.length : Int) := by omega
  simp [keysAV] at hb
  cases b <;> simp [a132_l0, st132, clo, hk, keysAV, hi', hb, hw]
theorem end132 (l : List (List K)) (fn : Nat) (first caps : List AV) (S : List Bx) : acode run a132_l0 (st132 l fn first caps S l.length) = some (.exit 0, { σ := [], own := [], loc := [], S := S }) := by
  simp [a132_l0, st132]
theorem c132 (l : List (List K)) (fn : Nat) (first caps : List AV) (p : (List K) → Bool) (S : List Bx) (hl : l.length ≤ 9223372036854775807) (hp : ∀ k ∈ l, run fn (first ++ [keysAV k] ++ caps) S = some (.ret (.bool (p k)) none, S)) :
    run 132 [listsAV l, clo fn first caps] S = some (.ret (.int .i64 (idx l p)) none, S) := by
  refine eqn rfl ?_
  rcases first_not (fun k => !p k) l with h | ⟨j, x, h1, h2, h3⟩
  · have hloop := loop_upto (f := acode run a132_l0) (st := st132 l fn first caps S) (r := (.exit 0, { σ := [], own := [], loc := [], S := S })) (by simp) l.length 0 (fun k _ hk => by
      have hk' : k < l.length := by omega
      have hg : l[k]? = some l[k] := by simp [hk']
      have hok : p l[k] = false := by have := List.all_eq_true.1 h _ (List.getElem_mem hk'); simpa using this
      rw [round132 l fn first caps S k hl _ hg (p l[k]) (hp _ (List.getElem_mem hk')), hok]; rfl) (by rw [Nat.zero_add]; exact end132 l fn first caps S)
    simp only [st132, Int.natCast_zero, Int.ofNat_zero] at hloop
    have hidx : idx l p = -1 := by
      unfold idx
      have : l.findIdx? p = none := by
        rw [List.findIdx?_eq_none_iff]
        intro x hx
        have := List.all_eq_true.1 h x hx
        simpa using this
      rw [this]
    simp [a132, listsAV, hloop, hidx]
  · have hj : j < l.length := (List.getElem?_eq_some_iff.1 h1).1
    have hloop := loop_upto (f := acode run a132_l0) (st := st132 l fn first caps S) (r := (.ret, { σ := [(4, .v (.int .i64 j))], own := [], loc := [], S := S })) (by simp) j 0 (fun k _ hk => by
      have hk' : k < l.length := by omega
      have hg : l[k]? = some l[k] := by simp [hk']
      have hok : p l[k] = false := by have := h3 k (by omega) _ hg; simpa using this
      rw [round132 l fn first caps S k hl _ hg (p l[k]) (hp _ (List.getElem_mem hk')), hok]; rfl) (by
      have hx : p x = true := by simpa using h2
      rw [Nat.zero_add, round132 l fn first caps S j hl x h1 (p x) (hp _ (List.mem_of_getElem? h1)), hx]; rfl)
    simp only [st132, Int.natCast_zero, Int.ofNat_zero] at hloop
    have hidx : idx l p = j := by
      unfold idx
      have : l.findIdx? p = some j := by
        rw [List.findIdx?_eq_some_iff_getElem]
        refine ⟨hj, ?_, fun k hk => ?_⟩
        · have e : l[j] = x := by
            have := h1; rw [List.getElem?_eq_getElem hj] at this; exact Option.some.inj this
          rw [e]; simpa using h2
        · have := h3 k hk l[k] (by rw [List.getElem?_eq_getElem])
          simpa using this
      rw [this]
    simp [a132, listsAV, hloop, hidx]

theorem c98 (l : List (List K)) (fn : Nat) (first caps : List AV) (p : (List K) → Bool) (S : List Bx) (hl : l.length ≤ 9223372036854775807) (hp : ∀ k ∈ l, run fn (first ++ [keysAV k] ++ caps) S = some (.ret (.bool (p k)) none, S)) :
    run 98 [listsAV l, clo fn first caps] S = some (.ret (.bool (l.any p)) none, S) := by
  refine eqn rfl ?_
  have h := c132 l fn first caps p S hl hp
  simp only [listsAV, clo] at h
  have := idx_any l p
  simp [a98, listsAV, clo, h, ← this]
theorem c99 (k : (List K)) (fn : Nat) (first caps : List AV) (b : Bool) (S : List Bx) (hb : run fn (first ++ [keysAV k] ++ caps) S = some (.ret (.bool b) none, S)) :
    run 99 [keysAV k, .sptr [clo fn first caps]] S = some (.ret (.bool (!b)) none, S) := by
  refine eqn rfl ?_
  simp [keysAV] at hb
  simp [a99, keysAV, clo, hb]
theorem c62 (l : List (List K)) (fn : Nat) (first caps : List AV) (p : (List K) → Bool) (S : List Bx) (hl : l.length ≤ 9223372036854775807) (hp : ∀ k ∈ l, run fn (first ++ [keysAV k] ++ caps) S = some (.ret (.bool (p k)) none, S)) :
    run 62 [listsAV l, clo fn first caps] S = some (.ret (.bool (l.all p)) none, S) := by
  refine eqn rfl ?_
  have h := c98 l 99 [] [.sptr [clo fn first caps]] (fun k => !p k) S hl (fun k hk => by simpa using c99 k fn first caps (p k) S (hp k hk))
  simp only [listsAV, clo] at h
  have e : (!l.any fun k => !p k) = l.all p := by simp [List.not_any_eq_all_not]
  simp [a62, listsAV, clo, h, ← e]
end Go.Av
