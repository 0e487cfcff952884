/- Part of a proof: Tame data. -/
import Derived.Test.YtlhmipepdcndoaaGreatDoorTvCe
set_option maxRecDepth 100000
set_option linter.unusedSimpArgs false
set_option linter.unusedVariables false
namespace Go.Av
open Go Go.Proofs
attribute [local simp] afun acode aops aoper aopB blkOk aop apure aenter St.av St.avs St.sv SV.av Slots.get Slots.set Slots.kill SV.kill St.put St.drop St.right St.move St.keep Slots.keep Locs.keep Locs.get Locs.set rightOf normal AV.isDat AV.cells St.cellsAt aload abin aun AOp.dst AOp.addr aresult ares aresAll afinish List.filter_cons St.freeze Slots.freeze SV.frozen Locs.del isNilAV boundOf astore putCells dropCells nilOk optOwn nilsOf nilsGo isNilSl aleave_same abuild chunk srcElems St.prep newsOf Slots.killAll AOp.news AV.isAgg

theorem quiet_of {rec : Rec} {f : Nat} {args : List AV} {S : List Bx} {r : AV} {own : Option Nat} (h : rec f args S = some (.ret r own, S)) : rec.quiet f args S = some (.ret r own, S) := by
  unfold Rec.quiet
  rw [h]
  simp

def modOf (c m : Int) : Int := c % 18446744073709551616 % m
theorem c26 (c m : Int) (S : List Bx) (h0 : 1 ≤ m) (h1 : m ≤ 100000) : run 26 [iav c, iav m] S = some (.ret (iav (modOf c m)) none, S) := by
  refine eqn rfl ?_
  have hm : m % 18446744073709551616 = m := by omega
  have hne : m ≠ 0 := by omega
  have e1 : (c % 18446744073709551616).tmod m = modOf c m := Int.tmod_eq_emod_of_nonneg (by omega)
  have hb : 0 ≤ modOf c m ∧ modOf c m < m := ⟨Int.emod_nonneg _ hne, Int.emod_lt_of_pos _ (by omega)⟩
  have hw : IntKind.wrap .i64 (modOf c m) = modOf c m := wrap64 (by omega) (by omega)
  simp [a26, iav, wrap_u64, hm, hne, e1, hw]

def tameK (m : Int) (k : K) : K := ⟨modOf k.c m, k.d⟩
def tameKeys (m : Int) (ks : List K) : List K := (ks.take 6).map (tameK m)
def st7 (m : Int) (ks : List AV) (acc : List AV) (S : List Bx) (i : Nat) : St :=
  { σ := [(0, .v (.int .i64 m)), (1, .v (.slice 2 ks)), (5, .v (.slice 2 acc)), (6, .v (.int .i64 i))], own := [(5, 52)], loc := [], S := S }
set_option maxHeartbeats 1000000 in
theorem round7 (m : Int) (ks acc : List AV) (S : List Bx) (i : Nat) (hi : i < ks.length) (h6 : i < 6) (c c' : Int) (b : Bool) (hk : ks[i]? = some (.agg [.int .i64 c, .bool b])) (hl : acc.length ≤ 100)
    (q : run.quiet 26 [.int .i64 c, .int .i64 m] S = some (.ret (.int .i64 c') none, S)) : acode run a7_l0 (st7 m ks acc S i) = some (.normal, st7 m ks (acc ++ [.agg [.int .i64 c', .bool b]]) S (i + 1)) := by
  have hw : IntKind.wrap .i64 ((i : Int) + 1) = (i : Int) + 1 := wrap64 (by omega) (by omega)
  have hi' : (i : Int) < (ks.length : Int) := by omega
  have h6' : (i : Int) < 6 := by omega
  have hlen : (acc.length + 1) * 16 ≤ 140737488355328 := by omega
  simp [a7_l0, st7, hk, hw, hi', h6', q, hlen]
theorem end7 (m : Int) (ks acc : List AV) (S : List Bx) (i : Nat) (h : ¬ (i < ks.length ∧ i < 6)) : acode run a7_l0 (st7 m ks acc S i) = some (.exit 0, { σ := [(5, .v (.slice 2 acc))], own := [(5, 52)], loc := [], S := S }) := by
  by_cases h1 : (i : Int) < (ks.length : Int)
  · have h2 : ¬ ((i : Int) < 6) := by omega
    simp [a7_l0, st7, h1, h2]
  · simp [a7_l0, st7, h1]
theorem tame_step (m : Int) (ks : List K) (i : Nat) (hi : i < ks.length) : ((ks.take (i + 1)).map (tameK m)).map K.av = ((ks.take i).map (tameK m)).map K.av ++ [.agg [.int .i64 (modOf ks[i].c m), .bool ks[i].d]] := by
  have hk : ks[i]? = some ks[i] := by simp [hi]
  rw [List.take_add_one, hk]
  simp only [List.map_append, Option.toList_some, List.map_cons, List.map_nil]
  rfl
theorem c7 (m : Int) (ks : List K) (S : List Bx) (h0 : 1 ≤ m) (h1 : m ≤ 100000) : run 7 [iav m, keysAV ks] S = some (.ret (keysAV (tameKeys m ks)) (some 52), S) := by
  refine eqn rfl ?_
  have hloop := loop_upto (f := acode run a7_l0) (st := fun i => st7 m (ks.map K.av) (((ks.take i).map (tameK m)).map K.av) S i)
    (r := (.exit 0, { σ := [(5, .v (.slice 2 (((ks.take (min ks.length 6)).map (tameK m)).map K.av)))], own := [(5, 52)], loc := [], S := S })) (by simp) (min ks.length 6) 0
    (fun k _ hk => by
      have hk' : k < ks.length := by omega
      have q := quiet_of (c26 ks[k].c m S h0 h1)
      simp only [iav] at q
      have := round7 m (ks.map K.av) (((ks.take k).map (tameK m)).map K.av) S k (by simpa using hk') (by omega) ks[k].c (modOf ks[k].c m) ks[k].d (by simp [hk', K.av]) (by simp; omega) q
      rw [this, tame_step m ks k hk'])
    (by rw [Nat.zero_add]; exact end7 _ _ _ _ _ (by simp; omega))
  have e : ks.take (min ks.length 6) = ks.take 6 := by
    rcases Nat.le_total ks.length 6 with h | h
    · rw [Nat.min_eq_left h, List.take_of_length_le (Nat.le_refl _), List.take_of_length_le h]
    · rw [Nat.min_eq_right h]
  simp only [st7, Int.natCast_zero, Int.ofNat_zero, List.take_zero, List.map_nil, e] at hloop
  simp [a7, iav, keysAV, tameKeys, hloop]
def cutKeys (ks : List K) : List K := ks.take 34
theorem c18 (ks : List K) (S : List Bx) : run 18 [keysAV ks] S = some (.ret (keysAV (cutKeys ks)) (some 52), S) := by
  refine eqn rfl ?_
  have h1 : (0 : Int) ≤ min (ks.length : Int) 34 := by omega
  have h2 : min (ks.length : Int) 34 ≤ (ks.length : Int) := by omega
  have h3 : (min (ks.length : Int) 34).toNat = min ks.length 34 := by omega
  have h4 : min 34 ks.length * 16 ≤ 140737488355328 := by omega
  have h5 : (ks.map K.av).take (min ks.length 34) = (ks.map K.av).take 34 := by
    rcases Nat.le_total ks.length 34 with h | h
    · rw [Nat.min_eq_left h, List.take_of_length_le (by simp), List.take_of_length_le (by simpa using h)]
    · rw [Nat.min_eq_right h]
  simp [a18, keysAV, cutKeys, h1, h2, h3, h4, h5]
end Go.Av
