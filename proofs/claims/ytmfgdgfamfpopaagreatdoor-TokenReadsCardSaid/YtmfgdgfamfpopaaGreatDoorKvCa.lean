/- Part of a proof: What the functions compute. -/
import Derived.Test.YtmfgdgfamfpopaaGreatDoorKvFx
import Derived.Test.YtmfgdgfamfpopaaGreatDoorF2
set_option maxRecDepth 100000
set_option linter.unusedSimpArgs false
namespace Go.Av
open Go Go.Proofs
noncomputable abbrev run : Rec := recL (tabOf tabA tabX)
attribute [local simp] afun acode aops aoper aopB blkOk aop apure aenter St.av St.avs St.sv SV.av Slots.get Slots.set Slots.kill SV.kill St.put St.drop St.right St.move St.keep Slots.keep Locs.keep Locs.get Locs.set rightOf normal AV.isDat AV.cells St.cellsAt aload abin aun AOp.dst AOp.addr aresult ares aresAll afinish List.filter_cons St.freeze Slots.freeze SV.frozen Locs.del isNilAV boundOf astore putCells dropCells nilOk optOwn nilsOf nilsGo isNilSl

theorem aleave_same (k : Nat) (S : List Bx) (e : AEnd) : aleave k S S e = some (e, S) := by simp [aleave]
attribute [local simp] aleave_same
theorem wrap64 {x : Int} (h0 : -9223372036854775808 ≤ x) (h1 : x ≤ 9223372036854775807) : IntKind.wrap .i64 x = x := by
  simp [IntKind.wrap, IntKind.bits, IntKind.signed]
  omega
theorem loop_upto {f : St → Option (AEx × St)} {st : Nat → St} {r : AEx × St} (hr : r.1 ≠ .normal) : ∀ (j i : Nat), (∀ k, i ≤ k → k < i + j → f (st k) = some (.normal, st (k + 1))) → f (st (i + j)) = some r → aloopW f (st i) = some r
  | 0, i, _, h => by
    rw [aloopW_eq]
    simp only [Nat.add_zero] at h
    rw [h]
    obtain ⟨x, s⟩ := r
    cases x <;> simp_all
  | j + 1, i, hs, h => by
    rw [aloopW_eq, hs i (Nat.le_refl _) (by omega)]
    exact loop_upto hr j (i + 1) (fun k h1 h2 => hs k (by omega) (by omega)) (by rw [show i + 1 + j = i + (j + 1) by omega]; exact h)

structure K where
  c : Int
  d : Bool
def K.av (k : K) : AV := .agg [.int .i64 k.c, .bool k.d]
def keysAV (ks : List K) : AV := .slice 2 (ks.map K.av)
def keysOk (n : Int) (ks : List K) : Bool := ks.all (fun k => decide (0 ≤ k.c) && decide (k.c < n)) && decide (ks.length ≤ 32)

theorem eqn {f : Nat} {fn : AFun} (hT : tabOf tabA tabX f = some (.air fn)) {args : List AV} {S : List Bx} {r : AEnd × List Bx} (h : afun run fn args S = some r) : run f args S = some r := recL_air hT h

theorem wrap_u64 (n : Int) : IntKind.wrap .u64 n = n % 18446744073709551616 := by simp [IntKind.wrap, IntKind.bits, IntKind.signed]
def columnsOf (n : Int) : Int := 1 + n % 18446744073709551616 % 5
def okK (n : Int) (k : K) : Bool := decide (0 ≤ k.c) && decide (k.c < n)
/-- The first element that isn't so. -/
theorem first_not {α : Type} (p : α → Bool) : ∀ (l : List α), l.all p = true ∨ ∃ (j : Nat) (x : α), l[j]? = some x ∧ p x = false ∧ ∀ (k : Nat), k < j → ∀ y, l[k]? = some y → p y = true
  | [] => .inl rfl
  | a :: l => by
    cases ha : p a with
    | false => exact .inr ⟨0, a, rfl, ha, fun k hk => by omega⟩
    | true =>
      rcases first_not p l with h | ⟨j, x, h1, h2, h3⟩
      · left; simp [ha, h]
      · right
        refine ⟨j + 1, x, by simpa using h1, h2, fun k hk y hy => ?_⟩
        cases k with
        | zero => obtain rfl : a = y := by simpa using hy
                  exact ha
        | succ k => exact h3 k (by omega) y (by simpa using hy)

end Go.Av
