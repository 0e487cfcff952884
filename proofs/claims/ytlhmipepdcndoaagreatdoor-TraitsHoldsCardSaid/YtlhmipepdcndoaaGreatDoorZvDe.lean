/- Part of a proof: reduced: what is left of keys. -/
import Derived.Test.YtlhmipepdcndoaaGreatDoorZvDd
set_option maxRecDepth 100000
set_option linter.unusedSimpArgs false
set_option linter.unusedVariables false
namespace Go.Av
open Go Go.Proofs

theorem pc10 (c d a : AV) : putCells [c, d] 0 [a] = [a, d] := rfl
theorem pc11 (c d a : AV) : putCells [c, d] 1 [a] = [c, a] := rfl
def redStep (h : List Nat) (sets : List (List Int)) (x : List Bool × List K) (k : K) : List Bool × List K :=
  (x.1.set (h.getD k.c.toNat 0) true, if settledB h sets x.1 k.c then x.2 else x.2 ++ [⟨(h.getD k.c.toNat 0 : Nat), k.d⟩])
def reducedP (h : List Nat) (d : Dep) (ks : List K) : List K := (ks.foldl (redStep h d.sets) (marks h d.consts, [])).2
def st80 (S : List Bx) (h : List Nat) (sets : List (List Int)) (ks : List K) (x : List Bool × List K) (i : Nat) : St :=
  { σ := [(5, .v (.ptr S.length 0)), (6, .v (.slice 2 (x.2.map K.av))), (11, .v (.slice 2 (ks.map K.av))), (12, .v (.int .i64 ks.length)), (13, .v (.int .i64 i))], own := [(6, 52)], loc := [], S := S ++ [boxB h (setsAV sets) x.1] }
theorem closed_keys (m : Nat) : ∀ (ks : List K), closedL m (ks.map K.av) = true
  | [] => rfl
  | k :: ks => by simp [closedL, K.av, AV.closed, closed_keys m ks]
theorem kleave_keys (S : List Bx) (x : Bx) (ks : List K) (own : Option Nat) : aleave 0 S (S ++ [x]) (.ret (.slice 2 (ks.map K.av)) own) = some (.ret (.slice 2 (ks.map K.av)) own, S) := by
  unfold aleave
  rw [if_neg (by simp), if_pos]
  · simp
  · refine ⟨fun i y hi hy => ?_, ?_⟩
    · left
      rw [List.getElem?_append_left (by simpa using hi)] at hy
      exact hy
    · simp only [AEnd.closed, AV.closed, closed_keys]
theorem marks_len (h : List Nat) : ∀ (cs : List Int) (is : List Bool), (cs.foldl (fun is c => is.set (h.getD c.toNat 0) true) is).length = is.length
  | [], is => rfl
  | c :: cs, is => by rw [List.foldl_cons, marks_len h cs]; simp
theorem loop80 (S : List Bx) (h : List Nat) (H : Heads h) (sets : List (List Int)) (ks : List K) (is0 : List Bool) (hb0 : is0.length = 16) (hk : ∀ k ∈ ks, inC k.c) (hkl : ks.length ≤ 1000)
    (hc : ∀ set ∈ sets, set.length ≤ 9223372036854775807 ∧ ∀ c ∈ set, inC c) (hl : sets.length ≤ 9223372036854775807) :
    aloopW (acode run a80_l0) (st80 S h sets ks (is0, []) 0) = some (.exit 0, { σ := [(6, .v (.slice 2 ((ks.foldl (redStep h sets) (is0, [])).2.map K.av)))], own := [(6, 52)], loc := [], S := S ++ [boxB h (setsAV sets) (ks.foldl (redStep h sets) (is0, [])).1] }) :=
  loop_fold (f := acode run a80_l0) ks (fun (x : List Bool × List K) i => st80 S h sets ks x i) (redStep h sets)
    (fun x => (.exit 0, { σ := [(6, .v (.slice 2 (x.2.map K.av)))], own := [(6, 52)], loc := [], S := S ++ [boxB h (setsAV sets) x.1] })) (fun i x => x.1.length = 16 ∧ x.2.length ≤ i) (b0 := (is0, [])) ⟨hb0, by simp⟩
    (fun i x k hx hki => by
      obtain ⟨is, acc⟩ := x
      obtain ⟨hb, ha⟩ := hx
      simp only at hb ha
      have h1 := ilt hki
      obtain ⟨c0, c1⟩ := hk k (List.mem_of_getElem? hki)
      have l1 := (H.get (i := k.c.toNat) (by omega)).2
      refine ⟨?_, by simp only [redStep, List.length_set]; exact hb, by
        show (if settledB h sets is k.c = true then acc else acc ++ [⟨(h.getD k.c.toNat 0 : Nat), k.d⟩]).length ≤ i + 1
        split
        · omega
        · rw [List.length_append]; simp only [List.length_cons, List.length_nil]; omega⟩
      have hS0 : (S ++ [boxB h (setsAV sets) is])[S.length]? = some (boxB h (setsAV sets) is) := by simp
      have q := c116 S.length h H is hb sets k.c (S ++ [boxB h (setsAV sets) is]) (by rw [hS0]; rfl) hc hl ⟨c0, c1⟩
      have g1 := boxC_h H (setsAV sets) is (i := k.c.toNat) (by omega)
      have l1' : ((h.getD k.c.toNat 0 : Nat) : Int) < 16 := by omega
      have hp := boxC_put H (setsAV sets) is hb l1 true
      have hcl := boxC_len H (setsAV sets) is hb
      have hm : 17 + h.getD k.c.toNat 0 + 1 ≤ 33 := by omega
      have hset := setLast S (boxB h (setsAV sets) is) (boxB h (setsAV sets) (is.set (h.getD k.c.toNat 0) true))
      have hbd : (acc.length + 1) * 16 ≤ 140737488355328 := by omega
      have eR : redStep h sets (is, acc) k = (is.set (h.getD k.c.toNat 0) true, if settledB h sets is k.c then acc else acc ++ [⟨(h.getD k.c.toNat 0 : Nat), k.d⟩]) := rfl
      show acode run a80_l0 (st80 S h sets ks (is, acc) i) = _
      rw [eR, acode_k]
      simp only [boxB] at hS0 hset q
      simp only [st80, boxB]
      generalize h.getD k.c.toNat 0 = m at *
      generalize boxC h (setsAV sets) is = C at *
      generalize boxC h (setsAV sets) (is.set m true) = C2 at *
      have hw := w64s (n := i) (by omega)
      obtain ⟨kc, kd⟩ := k
      simp only at *
      cases hA : settledB h sets is kc with
      | true =>
        rw [hA] at q
        simp [-putCells, a80_l0, hki, h1, K.av, c0, c1, hS0, q, g1, l1', hp, hcl, hm, hset, hw, pc2]
      | false =>
        rw [hA] at q
        simp [-putCells, a80_l0, hki, h1, K.av, c0, c1, hS0, q, g1, l1', hp, hcl, hm, hset, hw, hbd, pc2, pc10, pc11])
    (fun x _ => by
      rw [acode_k]
      simp [a80_l0, st80])
    (fun _ => by simp)
/-- What is known is right. -/
structure Dep.In (d : Dep) : Prop where
  e : ∀ p ∈ d.equal, inP p
  el : d.equal.length ≤ 9223372036854775807
  c : ∀ c ∈ d.consts, inC c
  cl : d.consts.length ≤ 9223372036854775807
  s : ∀ set ∈ d.sets, set.length ≤ 9223372036854775807 ∧ ∀ c ∈ set, inC c
  sl : d.sets.length ≤ 9223372036854775807
theorem c80 (d : Dep) (ks : List K) (S : List Bx) (hd : d.In) (hk : ∀ k ∈ ks, inC k.c) (hkl : ks.length ≤ 1000) {Q : List Nat → Prop} (hQ0 : Q (List.range 16)) (hQ : ∀ h p, Heads h → Q h → p ∈ d.equal → Q (stepP h p)) :
    ∃ h', run 80 [d.av, keysAV ks] S = some (.ret (keysAV (reducedP h' d ks)) (some 52), S) ∧ Heads h' ∧ Q h' ∧ ∀ p ∈ d.equal, moved h' p = false := by
  obtain ⟨h', e, H, q, m⟩ := c115 d S hd.e hd.el hd.c hd.cl hQ0 hQ
  refine ⟨h', eqn rfl ?_, H, q, m⟩
  have lp := loop80 S h' H d.sets ks (marks h' d.consts) (by rw [marks, marks_len]; simp) hk hkl hd.s hd.sl
  have kl := kleave_keys S (boxB h' (setsAV d.sets) (ks.foldl (redStep h' d.sets) (marks h' d.consts, [])).1) (reducedP h' d ks)
  have er : (ks.foldl (redStep h' d.sets) (marks h' d.consts, [])).2 = reducedP h' d ks := rfl
  rw [er] at lp
  simp only [st80, Int.natCast_zero, Int.ofNat_zero, List.map_nil] at lp
  generalize reducedP h' d ks = out at *
  simp only [Dep.av, intsAV, pairsAV, setsAV, keysAV] at e lp kl ⊢
  generalize boxB h' _ (marks h' d.consts) = B0 at *
  generalize boxB h' _ _ = B1 at *
  simp [a80, e, lp, kl]
end Go.Av
