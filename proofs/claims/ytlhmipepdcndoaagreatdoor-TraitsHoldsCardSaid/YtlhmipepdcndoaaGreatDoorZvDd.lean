/- Part of a proof: settle and reduced. -/
import Derived.Test.YtlhmipepdcndoaaGreatDoorZvDc
set_option maxRecDepth 100000
set_option linter.unusedSimpArgs false
set_option linter.unusedVariables false
namespace Go.Av
open Go Go.Proofs

abbrev falses16 : List AV := List.replicate 16 (.bool false)
theorem pcA (HV : List AV) (h : HV.length = 16) : putCells [.int .i64 0, .int .i64 0, .int .i64 0, .int .i64 0, .int .i64 0, .int .i64 0, .int .i64 0, .int .i64 0, .int .i64 0, .int .i64 0, .int .i64 0, .int .i64 0, .int .i64 0, .int .i64 0, .int .i64 0, .int .i64 0, .slice 1 [], .bool false, .bool false, .bool false, .bool false, .bool false, .bool false, .bool false, .bool false, .bool false, .bool false, .bool false, .bool false, .bool false, .bool false, .bool false, .bool false] 0 HV = HV ++ (.slice 1 [] :: falses16) := by
  unfold putCells
  rw [h]
  simp
  rfl
theorem pcB (HV : List AV) (h : HV.length = 16) (s : AV) : putCells (HV ++ (.slice 1 [] :: falses16)) 16 [s] = HV ++ (s :: falses16) := by
  unfold putCells
  rw [List.take_append, List.drop_append, h, List.take_of_length_le (by omega), List.drop_of_length_le (by simp; omega)]
  simp
  rfl
theorem kleave_le {kb : Nat} {S S' : List Bx} {e : AEnd} (h : S'.length ≤ S.length + kb) : aleave kb S S' e = some (e, S') := by simp [aleave, h]
def marks (h : List Nat) (cs : List Int) : List Bool := cs.foldl (fun is c => is.set (h.getD c.toNat 0) true) (List.replicate 16 false)
def boxB (h : List Nat) (sets : AV) (is : List Bool) : Bx := { cells := boxC h sets is, own := [] }
theorem setLast (S : List Bx) (x y : Bx) : (S ++ [x]).set S.length y = S ++ [y] := by
  rw [List.set_append_right _ _ (Nat.le_refl _)]; simp
def st115 (cs : List Int) (k : Nat) (S : List Bx) (i : Nat) : St :=
  { σ := [(3, .v (.ptr k 0)), (13, .v (.slice 1 (cs.map iav))), (14, .v (.int .i64 cs.length)), (15, .v (.int .i64 i))], own := [], loc := [], S := S }
theorem loop115 (h : List Nat) (H : Heads h) (sets : AV) (cs : List Int) (S : List Bx) (hc : ∀ c ∈ cs, inC c) (hl : cs.length ≤ 9223372036854775807) :
    aloopW (acode run a115_l0) (st115 cs S.length (S ++ [boxB h sets (List.replicate 16 false)]) 0) = some (.exit 0, { σ := [(3, .v (.ptr S.length 0))], own := [], loc := [], S := S ++ [boxB h sets (marks h cs)] }) :=
  loop_fold (f := acode run a115_l0) cs (fun is i => st115 cs S.length (S ++ [boxB h sets is]) i) (fun is c => is.set (h.getD c.toNat 0) true)
    (fun is => (.exit 0, { σ := [(3, .v (.ptr S.length 0))], own := [], loc := [], S := S ++ [boxB h sets is] })) (fun _ is => is.length = 16) (b0 := List.replicate 16 false) (by simp)
    (fun i is c hb hx => by
      refine ⟨?_, by rw [List.length_set]; exact hb⟩
      rw [acode_k]
      have h1 := ilt hx
      obtain ⟨c0, c1⟩ := hc c (List.mem_of_getElem? hx)
      have g1 := boxC_h H sets is (i := c.toNat) (by omega)
      have l1 := (H.get (i := c.toNat) (by omega)).2
      have l1' : ((h.getD c.toNat 0 : Nat) : Int) < 16 := by omega
      have hp := boxC_put H sets is hb l1 true
      have hcl := boxC_len H sets is hb
      have hm : 17 + h.getD c.toNat 0 + 1 ≤ 33 := by omega
      have hS : (S ++ [boxB h sets is])[S.length]? = some (boxB h sets is) := by simp
      have hset := setLast S (boxB h sets is) (boxB h sets (is.set (h.getD c.toNat 0) true))
      simp only [boxB] at hS hset
      simp only [st115, boxB]
      generalize h.getD c.toNat 0 = m at *
      generalize boxC h sets is = C at *
      generalize boxC h sets (is.set m true) = C2 at *
      simp [-putCells, a115_l0, st115, boxB, hx, h1, iav, c0, c1, hS, g1, l1', hp, hcl, hm, hset, w64s (n := i) (by omega)])
    (fun is _ => by
      rw [acode_k]
      simp [a115_l0, st115])
    (fun _ => by simp)
theorem c115 (d : Dep) (S : List Bx) (hE : ∀ p ∈ d.equal, inP p) (hl : d.equal.length ≤ 9223372036854775807) (hc : ∀ c ∈ d.consts, inC c) (hcl : d.consts.length ≤ 9223372036854775807)
    {Q : List Nat → Prop} (hQ0 : Q (List.range 16)) (hQ : ∀ h p, Heads h → Q h → p ∈ d.equal → Q (stepP h p)) :
    ∃ h', run 115 [d.av] S = some (.ret (.ptr S.length 0) none, S ++ [boxB h' (setsAV d.sets) (marks h' d.consts)]) ∧ Heads h' ∧ Q h' ∧ ∀ p ∈ d.equal, moved h' p = false := by
  obtain ⟨h', e, H, q, m⟩ := c140 d S hE hl hQ0 hQ
  refine ⟨h', eqn rfl ?_, H, q, m⟩
  have lp := loop115 h' H (setsAV d.sets) d.consts S hc hcl
  have hlen2 : (h'.map nav).length = 16 := by rw [List.length_map]; exact H.len
  have pa := pcA (h'.map nav) hlen2
  have pb := pcB (h'.map nav) hlen2
  have eb : boxB h' (setsAV d.sets) (List.replicate 16 false) = { cells := h'.map nav ++ (setsAV d.sets :: falses16), own := [] } := by
    simp [boxB, boxC]
    rfl
  rw [eb] at lp
  simp only [st115, Int.natCast_zero, Int.ofNat_zero, setsAV] at lp
  simp only [Dep.av, intsAV, pairsAV, setsAV] at e ⊢
  generalize boxB h' _ (marks h' d.consts) = BX at *
  generalize h'.map nav = HV at *
  simp [-putCells, -List.reduceReplicate, a115, Dep.av, intsAV, pairsAV, setsAV, e, pa, pb, hlen2, lp]
  exact kleave_le (by simp)
end Go.Av
