/- Part of a proof: What the functions compute. -/
import Derived.Test.YtlhmipepdcndoaaGreatDoorTvFx
import Derived.Test.YtlhmipepdcndoaaGreatDoorF2
set_option maxRecDepth 100000
set_option linter.unusedSimpArgs false
namespace Go.Av
open Go Go.Proofs
noncomputable abbrev run : Rec := recL (tabOf tabA tabX)
attribute [local simp] afun acode aops aoper aopB blkOk aop apure aenter St.av St.avs St.sv SV.av Slots.get Slots.set Slots.kill SV.kill St.put St.drop St.right St.move St.keep Slots.keep Locs.keep Locs.get Locs.set rightOf normal AV.isDat AV.cells St.cellsAt aload abin aun AOp.dst AOp.addr aresult ares aresAll afinish List.filter_cons St.freeze Slots.freeze SV.frozen Locs.del isNilAV boundOf astore putCells dropCells nilOk optOwn nilsOf nilsGo isNilSl

theorem aleave_same (k : Nat) (S : List Bx) (e : AEnd) : aleave k S S e = some (e, S) := by simp [aleave]
attribute [local simp] aleave_same
theorem wrap64 {x : Int} (h0 : -9223372036854775808 ≤ x) (h1 : x ≤ 9223372036854775807) : IntKind.wrap .i64 x = x := by
  simp [IntKind.wrap, IntKind.bits, IntKind.signed]
  omega
theorem loop_upto {f : St → Option (AEx × St)} {st : Nat → St} {r : AEx × St} (hr : r.1 ≠ .normal) : ∀ (j i : Nat), (∀ k, i ≤ k → k < i + j → f (st k) = some (.normal, st (k + 1))) → f (st (i + j)) = some r → aloopW f (st i) = some r
  | 0, i, _, h => by
    rw [aloopW_eq]
    simp only [Nat.add_zero] at h
    rw [h]
    obtain ⟨x, s⟩ := r
    cases x <;> simp_all
  | j + 1, i, hs, h => by
    rw [aloopW_eq, hs i (Nat.le_refl _) (by omega)]
    exact loop_upto hr j (i + 1) (fun k h1 h2 => hs k (by omega) (by omega)) (by rw [show i + 1 + j = i + (j + 1) by omega]; exact h)

structure K where
  c : Int
  d : Bool
def K.av (k : K) : AV := .agg [.int .i64 k.c, .bool k.d]
def keysAV (ks : List K) : AV := .slice 2 (ks.map K.av)
def keysOk (n : Int) (ks : List K) : Bool := ks.all (fun k => decide (0 ≤ k.c) && decide (k.c < n)) && decide (ks.length ≤ 32)

theorem eqn {f : Nat} {fn : AFun} (hT : tabOf tabA tabX f = some (.air fn)) {args : List AV} {S : List Bx} {r : AEnd × List Bx} (h : afun run fn args S = some r) : run f args S = some r := recL_air hT h

theorem wrap_u64 (n : Int) : IntKind.wrap .u64 n = n % 18446744073709551616 := by simp [IntKind.wrap, IntKind.bits, IntKind.signed]
def columnsOf (n : Int) : Int := 1 + n % 18446744073709551616 % 5
theorem c5 (n : Int) (S : List Bx) : run 5 [.int .i64 n] S = some (.ret (.int .i64 (columnsOf n)) none, S) := by
  refine eqn rfl ?_
  simp [a5, wrap_u64, columnsOf]
  have e1 : (n % 18446744073709551616).tmod 5 = n % 18446744073709551616 % 5 := Int.tmod_eq_emod_of_nonneg (by omega)
  rw [e1, wrap64 (x := n % 18446744073709551616 % 5) (by omega) (by omega), wrap64 (by omega) (by omega)]

/-- Keys: the loop's head. -/
def st50 (n : Int) (ks : List K) (S : List Bx) (i : Nat) : St := { σ := [(0, .v (.int .i64 n)), (1, .v (.slice 2 (ks.map K.av))), (5, .v (.int .i64 i))], own := [], loc := [], S := S }
def okK (n : Int) (k : K) : Bool := decide (0 ≤ k.c) && decide (k.c < n)
theorem round50 (n : Int) (ks : List K) (S : List Bx) (i : Nat) (hl : ks.length ≤ 9223372036854775807) (k : K) (hk : ks[i]? = some k) :
    acode run a50_l0 (st50 n ks S i) = if okK n k then some (.normal, st50 n ks S (i + 1)) else some (.ret, { σ := [(4, .v (.bool false))], own := [], loc := [], S := S }) := by
  have hi : i < ks.length := (List.getElem?_eq_some_iff.1 hk).1
  have hw : IntKind.wrap .i64 ((i : Int) + 1) = (i : Int) + 1 := wrap64 (by omega) (by omega)
  have hi' : (i : Int) < (ks.length : Int) := by omega
  by_cases h1 : k.c < 0
  · have h2 : ¬ (0 ≤ k.c) := by omega
    simp [a50_l0, st50, okK, hk, K.av, hi', h1, h2]
  · have h2 : 0 ≤ k.c := by omega
    by_cases h3 : n ≤ k.c
    · have h4 : ¬ (k.c < n) := by omega
      simp [a50_l0, st50, okK, hk, K.av, hi', h1, h2, h3, h4]
    · have h4 : k.c < n := by omega
      simp [a50_l0, st50, okK, hk, K.av, hi', h1, h2, h3, h4, hw]
theorem end50 (n : Int) (ks : List K) (S : List Bx) : acode run a50_l0 (st50 n ks S ks.length) = some (.exit 0, { σ := [(1, .v (.slice 2 (ks.map K.av)))], own := [], loc := [], S := S }) := by
  simp [a50_l0, st50]

/-- The first element that isn't so. -/
theorem first_not {α : Type} (p : α → Bool) : ∀ (l : List α), l.all p = true ∨ ∃ (j : Nat) (x : α), l[j]? = some x ∧ p x = false ∧ ∀ (k : Nat), k < j → ∀ y, l[k]? = some y → p y = true
  | [] => .inl rfl
  | a :: l => by
    cases ha : p a with
    | false => exact .inr ⟨0, a, rfl, ha, fun k hk => by omega⟩
    | true =>
      rcases first_not p l with h | ⟨j, x, h1, h2, h3⟩
      · left; simp [ha, h]
      · right
        refine ⟨j + 1, x, by simpa using h1, h2, fun k hk y hy => ?_⟩
        cases k with
        | zero => obtain rfl : a = y := by simpa using hy
                  exact ha
        | succ k => exact h3 k (by omega) y (by simpa using hy)

theorem c50 (n : Int) (ks : List K) (S : List Bx) (hl : ks.length ≤ 9223372036854775807) : run 50 [.int .i64 n, keysAV ks] S = some (.ret (.bool (ks.all (okK n) && decide (ks.length ≤ 32))) none, S) := by
  refine eqn rfl ?_
  rcases first_not (okK n) ks with h | ⟨j, x, h1, h2, h3⟩
  · have hloop := loop_upto (f := acode run a50_l0) (st := st50 n ks S) (r := (.exit 0, { σ := [(1, .v (.slice 2 (ks.map K.av)))], own := [], loc := [], S := S })) (by simp) ks.length 0 (fun k _ hk => by
      have hk' : k < ks.length := by omega
      have hg : ks[k]? = some ks[k] := by simp [hk']
      have hok : okK n ks[k] = true := List.all_eq_true.1 h _ (List.getElem_mem hk')
      rw [round50 n ks S k hl _ hg, hok]; rfl) (by rw [Nat.zero_add]; exact end50 n ks S)
    simp only [st50, Int.natCast_zero, Int.ofNat_zero] at hloop
    have hlen : (ks.length : Int) ≤ 32 ↔ ks.length ≤ 32 := by omega
    simp [a50, keysAV, hloop, h, hlen]
  · have hj : j < ks.length := (List.getElem?_eq_some_iff.1 h1).1
    have hloop := loop_upto (f := acode run a50_l0) (st := st50 n ks S) (r := (.ret, { σ := [(4, .v (.bool false))], own := [], loc := [], S := S })) (by simp) j 0 (fun k _ hk => by
      have hk' : k < ks.length := by omega
      have hg : ks[k]? = some ks[k] := by simp [hk']
      rw [round50 n ks S k hl _ hg, h3 k (by omega) _ hg]; rfl) (by rw [Nat.zero_add, round50 n ks S j hl x h1, h2]; rfl)
    simp only [st50, Int.natCast_zero, Int.ofNat_zero] at hloop
    have hall : ks.all (okK n) = false := by
      rw [List.all_eq_false]
      exact ⟨x, List.mem_of_getElem? h1, by simp [h2]⟩
    simp [a50, keysAV, hloop, hall]
end Go.Av
