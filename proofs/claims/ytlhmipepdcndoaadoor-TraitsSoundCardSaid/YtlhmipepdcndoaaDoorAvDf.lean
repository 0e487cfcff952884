/- Part of a proof: Class, Head, fixed, Settled, Reduce of the definition. -/
import Derived.Test.YtlhmipepdcndoaaDoorAvMb
set_option maxRecDepth 100000
set_option linter.unusedSimpArgs false
set_option linter.unusedVariables false
namespace Go.Av
open Go Go.Proofs

def bools (v : List Bool) : AV := .slice 1 (v.map AV.bool)
def stepC (v : List Bool) (p : Int × Int) : List Bool := if v.getD p.1.toNat false || v.getD p.2.toNat false then (v.set p.1.toNat true).set p.2.toNat true else v
def roundC (E : List (Int × Int)) (v : List Bool) : List Bool := E.foldl stepC v
def classK (E : List (Int × Int)) (n : Nat) (col : Int) : List Bool := (List.range n).foldl (fun v _ => roundC E v) ((List.replicate n false).set col.toNat true)
def inN (n : Nat) (p : Int × Int) : Prop := 0 ≤ p.1 ∧ p.1 < n ∧ 0 ≤ p.2 ∧ p.2 < n
theorem stepC_len (v : List Bool) (p : Int × Int) : (stepC v p).length = v.length := by unfold stepC; split <;> simp
theorem roundC_len (E : List (Int × Int)) : ∀ (v : List Bool), (roundC E v).length = v.length := by
  induction E with
  | nil => intro v; rfl
  | cons p E ih => intro v; show (roundC E (stepC v p)).length = _; rw [ih, stepC_len]
theorem get_bool {v : List Bool} {i : Nat} (hi : i < v.length) : v[i]? = some (v.getD i false) := by simp [List.getD, hi]
def l73 (c s : AV) (E : List (Int × Int)) (v : List Bool) : Locs := [(4, { cells := [c, pairsAV E, s], own := [] }), (11, { cells := v.map AV.bool, own := [] })]
def st073 (n : Nat) (c s : AV) (E : List (Int × Int)) (S : List Bx) (r : Nat) (v : List Bool) (i : Nat) : St :=
  { σ := [(0, .v (.int .i64 n)), (4, .l 4 0), (7, .ls 11 1 false n), (8, .v (.int .i64 r)), (9, .v (.int .i64 i))], own := [], loc := l73 c s E v, S := S }
theorem loop073 (n : Nat) (c s : AV) (E : List (Int × Int)) (S : List Bx) (r : Nat) (v : List Bool) (hv : v.length = n) (hE : ∀ p ∈ E, inN n p) (hl : E.length ≤ 9223372036854775807) :
    aloopW (acode run a73_l0) (st073 n c s E S r v 0) = some (.exit 2, { σ := [(0, .v (.int .i64 n)), (4, .l 4 0), (7, .ls 11 1 false n), (8, .v (.int .i64 r))], own := [], loc := l73 c s E (roundC E v), S := S }) :=
  loop_fold (f := acode run a73_l0) E (fun v i => st073 n c s E S r v i) stepC
    (fun v => (.exit 2, { σ := [(0, .v (.int .i64 n)), (4, .l 4 0), (7, .ls 11 1 false n), (8, .v (.int .i64 r))], own := [], loc := l73 c s E v, S := S })) (fun _ v => v.length = n) (b0 := v) hv
    (fun i v p hv hp => by
      refine ⟨?_, by rw [stepC_len]; exact hv⟩
      rw [acode_k]
      have h1 := ilt hp
      obtain ⟨p1, p2, p3, p4⟩ := hE p (List.mem_of_getElem? hp)
      have ga := get_bool (v := v) (i := p.1.toNat) (by omega)
      have gb := get_bool (v := v) (i := p.2.toNat) (by omega)
      have eS : stepC v p = if v.getD p.1.toNat false || v.getD p.2.toNat false then (v.set p.1.toNat true).set p.2.toNat true else v := rfl
      have q1 := putCells_set AV.bool v p.1.toNat true (by omega)
      have q2 := putCells_set AV.bool (v.set p.1.toNat true) p.2.toNat true (by rw [List.length_set]; omega)
      have i1 : p.1.toNat + 1 ≤ n := by omega
      have i2 : p.2.toNat + 1 ≤ n := by omega
      have hw := w64s (n := i) (by omega)
      rw [eS]
      generalize v.getD p.1.toNat false = a at *
      generalize v.getD p.2.toNat false = b at *
      have ls1 : (v.set p.1.toNat true).length = n := by rw [List.length_set]; exact hv
      obtain ⟨x, y⟩ := p
      simp only at *
      generalize hs1 : v.set x.toNat true = s1 at *
      generalize s1.set y.toNat true = s2 at *
      cases a <;> cases b <;> simp [-putCells, -getElem?_pos, List.getElem?_cons_zero, List.getElem?_cons_succ, a73_l0, st073, l73, hp, h1, pav, pairsAV, p1, p2, p3, p4, ga, gb, q1, q2, hv, ls1, i1, i2, hw])
    (fun v _ => by
      rw [acode_k]
      simp [a73_l0, st073, l73, pairsAV])
    (fun _ => by simp)
def st173 (n : Nat) (c s : AV) (E : List (Int × Int)) (S : List Bx) (v : List Bool) (r : Nat) : St :=
  { σ := [(0, .v (.int .i64 n)), (4, .l 4 0), (7, .ls 11 1 false n), (8, .v (.int .i64 r))], own := [], loc := l73 c s E v, S := S }
theorem loop173 (n : Nat) (c s : AV) (E : List (Int × Int)) (S : List Bx) (v : List Bool) (hv : v.length = n) (hE : ∀ p ∈ E, inN n p) (hl : E.length ≤ 9223372036854775807) (hn : n ≤ 1000) :
    aloopW (acode run a73_l1) (st173 n c s E S v 0) = some (.exit 0, { σ := [(7, .ls 11 1 false n)], own := [], loc := [(11, { cells := ((List.range n).foldl (fun v _ => roundC E v) v).map AV.bool, own := [] })], S := S }) :=
  loop_range (f := acode run a73_l1) n (fun v r => st173 n c s E S v r) (fun v _ => roundC E v)
    (fun v => (.exit 0, { σ := [(7, .ls 11 1 false n)], own := [], loc := [(11, { cells := v.map AV.bool, own := [] })], S := S })) (fun _ v => v.length = n) (b0 := v) hv
    (fun r v hv hr => by
      refine ⟨?_, by rw [roundC_len]; exact hv⟩
      rw [acode_k]
      have h1 : (r : Int) < (n : Int) := by omega
      have q := loop073 n c s E S r v hv hE hl
      simp only [st073, Int.natCast_zero, Int.ofNat_zero, l73, pairsAV] at q
      generalize roundC E v = v2 at *
      simp [a73_l1, st173, l73, pairsAV, h1, q, w64s (n := r) (by omega)])
    (fun v _ => by
      rw [acode_k]
      simp [a73_l1, st173, l73, pairsAV])
    (fun _ => by simp)
theorem chunk_one (f : Bool → AV) : ∀ (v : List Bool), chunk false 1 v.length (v.map f) = some (v.map f)
  | [] => rfl
  | b :: v => by simp [chunk, aload, chunk_one f v]
theorem rep_flat (n : Nat) : (List.replicate n [AV.bool false]).flatten = (List.replicate n false).map AV.bool := by
  induction n with
  | zero => rfl
  | succ n ih => rw [List.replicate_succ, List.flatten_cons, ih, List.replicate_succ]; rfl
theorem c73 (n : Nat) (d : Dep) (col : Int) (S : List Bx) (hn : n ≤ 1000) (hE : ∀ p ∈ d.equal, inN n p) (hl : d.equal.length ≤ 9223372036854775807) (hc : 0 ≤ col ∧ col < n) :
    run 73 [.int .i64 n, d.av, .int .i64 col] S = some (.ret (bools (classK d.equal n col)) none, S) := by
  refine eqn rfl ?_
  obtain ⟨c0, c1⟩ := hc
  have q := loop173 n (intsAV d.consts) (setsAV d.sets) d.equal S ((List.replicate n false).set col.toNat true) (by simp) hE hl hn
  have hp := putCells_set AV.bool (List.replicate n false) col.toNat true (by simp; omega)
  have hrf := rep_flat n
  have hcl : (classK d.equal n col).length = n := by
    have : ∀ (l : List Nat) (v : List Bool), (l.foldl (fun v _ => roundC d.equal v) v).length = v.length := by
      intro l
      induction l with
      | nil => intro v; rfl
      | cons x l ih => intro v; rw [List.foldl_cons, ih, roundC_len]
    unfold classK
    rw [this]; simp
  have hch := chunk_one AV.bool (classK d.equal n col)
  rw [hcl] at hch
  have e : (List.range n).foldl (fun v _ => roundC d.equal v) ((List.replicate n false).set col.toNat true) = classK d.equal n col := rfl
  rw [e] at q
  simp only [st173, Int.natCast_zero, Int.ofNat_zero, l73, pairsAV] at q
  have hlen : ((List.replicate n false).map AV.bool).length = n := by simp
  generalize (List.replicate n false).set col.toNat true = v1 at *
  generalize hR : (List.replicate n false).map AV.bool = R at *
  generalize classK d.equal n col = v at *
  have i1 : col.toNat + 1 ≤ n := by omega
  simp only [Dep.av, intsAV, pairsAV, setsAV] at q ⊢
  have hb : n ≤ 140737488355328 := by omega
  have hb' : (n : Int) ≤ 140737488355328 := by omega
  simp [-putCells, -List.flatten_replicate_singleton, a73, c0, c1, hb, hb', hrf, hp, hlen, i1, q, hch, bools]
end Go.Av
