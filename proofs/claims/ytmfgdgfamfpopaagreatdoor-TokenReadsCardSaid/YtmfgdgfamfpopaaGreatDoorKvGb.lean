/- Part of a proof: slices.Values over tokens, and token.Join: walked. -/
import Derived.Test.YtmfgdgfamfpopaaGreatDoorKvGa
import Derived.Test.YtmfgdgfamfpopaaGreatDoorTryzShelf
set_option maxRecDepth 100000
set_option linter.unusedSimpArgs false
set_option linter.unusedVariables false
namespace Go.Av
open Go Go.Proofs Go.RowKit Go.Shelf
attribute [local go_sem] Oper.semAt_some

abbrev Tk := Int × ByteArray × Int
def TksAt (W : World) (b o : Nat) (xs : List Tk) : Prop := ∀ (j : Nat) x, xs[j]? = some x → W.cell? ⟨b, o + j * 3, none⟩ = some (.int .i64 x.1) ∧ W.cell? ⟨b, o + j * 3 + 1, none⟩ = some (.string x.2.1) ∧ W.cell? ⟨b, o + j * 3 + 2, none⟩ = some (.int .i64 x.2.2)
theorem TksAt.below {W W' : World} {b o n₀ : Nat} {xs : List Tk} (h : TksAt W b o xs) (hb : b < n₀) (k : Below n₀ W W') : TksAt W' b o xs := fun j x hj => by
  obtain ⟨h1, h2, h3⟩ := h j x hj
  exact ⟨(k.cell hb).trans h1, (k.cell hb).trans h2, (k.cell hb).trans h3⟩
def TksIn (W : World) (p : Option Addr) (n₀ : Nat) (xs : List Tk) : Prop := xs = [] ∨ ∃ b o, p = some ⟨b, o, none⟩ ∧ b < n₀ ∧ TksAt W b o xs
theorem TksIn.below {W W' : World} {p : Option Addr} {n₀ : Nat} {xs : List Tk} (h : TksIn W p n₀ xs) (k : Below n₀ W W') : TksIn W' p n₀ xs :=
  h.imp id fun ⟨b, o, h1, h2, h3⟩ => ⟨b, o, h1, h2, h3.below h2 k⟩
abbrev tkEnc (x : Tk) : Array Value := #[.agg #[.int .i64 x.1, .string x.2.1, .int .i64 x.2.2]]

theorem add_offJ (g j : Nat) : (⟨g, 0, none⟩ : Addr).add j = ⟨g, j, none⟩ := by unfold Addr.add; split <;> simp_all
def jnI (W : World) (pre : List Tk) (A : World) : Prop := (∃ v, Boxed A W.heap.size 32 v ∧ A.ownsRow W.heap.size 9 1 v pre.length (pre.map fun x => Value.string x.2.1)) ∧ W.heap.size + 1 < A.heap.size ∧ Below W.heap.size W A
theorem jnI_KL {W : World} {B : Nat} (hB : W.heap.size ≤ B) {pre : List Tk} {X Y : World} (h : jnI W pre X) (k : KC B X Y) : jnI W pre Y := by
  obtain ⟨⟨v, h1, h2⟩, h3, h4⟩ := h
  exact ⟨⟨v, Boxed_KL h1 k, ownsRow_KL h2 k⟩, Nat.lt_of_lt_of_le h3 k.below.size, h4.trans (k.below.mono hB)⟩
theorem infoStr : (Tryz.prog.info? 9).map (fun i => (i.zero, i.size, i.bytes)) = some (some (.string ⟨#[]⟩), 1, 16) := by kernel_rfl

end Go.Av
