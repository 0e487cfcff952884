/- Part of a proof: TokenJoins. -/
import Derived.Test.YtmfgdgfamfpopaaDoorJvGk
import Derived.Test.YtmfgdgfamfpopaaDoorJvTy
set_option maxRecDepth 100000
set_option linter.unusedSimpArgs false
set_option linter.unusedVariables false
namespace Go.Av
open Go Go.Proofs Go.RowKit

theorem take_min' {α : Type} (l : List α) (n : Nat) : l.take (min l.length n) = l.take n := by
  rcases Nat.le_total l.length n with h | h
  · rw [Nat.min_eq_left h, List.take_of_length_le (by simp), List.take_of_length_le (by simpa using h)]
  · rw [Nat.min_eq_right h]
theorem loop_few' {f : St → Option (AEx × St)} {α β : Type} (l : List α) (n : Nat) (g : α → β) (st : List β → Nat → St) {r : List β → AEx × St} (hr : ∀ a, (r a).1 ≠ .normal)
    (hround : ∀ (i : Nat) (acc : List β) x, l[i]? = some x → i < n → acc.length = i → f (st acc i) = some (.normal, st (acc ++ [g x]) (i + 1)))
    (hend : ∀ (i : Nat) acc, ¬ (i < l.length ∧ i < n) → f (st acc i) = some (r acc)) : aloopW f (st [] 0) = some (r ((l.take n).map g)) := by
  have h := loop_upto (f := f) (st := fun i => st ((l.take i).map g) i) (r := r ((l.take (min l.length n)).map g)) (hr _) (min l.length n) 0
    (fun k _ hk => by
      have hk' : k < l.length := by omega
      have hg : l[k]? = some l[k] := by simp [hk']
      show f (st _ k) = _
      rw [hround k _ l[k] hg (by omega) (by simp; omega), List.take_add_one, hg]
      simp only [List.map_append, Option.toList_some, List.map_cons, List.map_nil])
    (by rw [Nat.zero_add]; exact hend _ _ (by omega))
  rw [take_min'] at h
  simpa using h

structure TkL where
  k : Int
  t : List UInt8
  a : Int
def TkL.av (x : TkL) : AV := .agg [.int .i64 x.k, .str (bs x.t), .int .i64 x.a]
def TkL.cut (x : TkL) : TkL := { x with t := x.t.take 100 }
def tksAV (l : List TkL) : AV := .slice 3 (l.map TkL.av)
theorem tkIn_L : ∀ l : List TkL, tkIn (l.map TkL.av) = some (l.map fun x => (x.k, bs x.t, x.a))
  | [] => rfl
  | x :: l => by
    have ih := tkIn_L l
    simp only [List.map_cons, TkL.av, tkIn] at ih ⊢
    rw [ih]; rfl
theorem c5 (l : List TkL) (S : List Bx) (hl : l.length ≤ 1000000) (hj : (joinSp (l.map (·.t))).length ≤ 140737488355328) : run1 5 [tksAV l] S = some (.ret (.str (bs (joinSp (l.map (·.t))))) none, S) := by
  refine recL_ext (hh := xTokJoin) rfl ?_
  have e : (l.map fun x => (x.k, bs x.t, x.a)).map (fun x => x.2.1.data.toList) = l.map (·.t) := by
    rw [List.map_map]
    exact List.map_congr_left fun x _ => bs_data x.t
  simp only [xTokJoin, tksAV, tkIn_L, e, join_sp]
  rw [if_pos ⟨by rw [List.length_map]; exact hl, hj⟩]
  rfl
theorem join_len : ∀ (l : List (List UInt8)) (n : Nat), (∀ x ∈ l, x.length ≤ n) → (joinSp l).length ≤ (n + 1) * l.length
  | [], _, _ => by simp [joinSp]
  | x :: r, n, h => by
    simp only [joinSp, List.length_append, List.length_cons]
    have hx := h x (.head _)
    have : ∀ (r : List (List UInt8)), (∀ x ∈ r, x.length ≤ n) → ((r.map (fun y => (32 : UInt8) :: y)).flatten).length ≤ (n + 1) * r.length := by
      intro r
      induction r with
      | nil => intro _; simp
      | cons y r ih =>
        intro h
        have hy := h y (.head _)
        have := ih fun z hz => h z (.tail _ hz)
        simp only [List.map_cons, List.flatten_cons, List.length_append, List.length_cons]
        rw [Nat.mul_add]
        omega
    have h2 := this r fun z hz => h z (.tail _ hz)
    rw [Nat.mul_add]
    omega
def stLb (raw : List TkL) (acc : List TkL) (i : Nat) : St :=
  { σ := [(0, .v (tksAV raw)), (3, .v (tksAV acc)), (4, .v (.slice 1 (strsL (acc.map (·.t))))), (5, .v (.int .i64 (i : Int)))], own := [(3, 26), (4, 9)], loc := [], S := [] }
theorem loop3 (raw : List TkL) (hl : raw.length ≤ 9223372036854775807) :
    aloopW (acode run1 a3_l0) (stLb raw [] 0) = some (.exit 0, { σ := [(3, .v (tksAV ((raw.take 60).map TkL.cut))), (4, .v (.slice 1 (strsL (((raw.take 60).map TkL.cut).map (·.t)))))], own := [(3, 26), (4, 9)], loc := [], S := [] }) := by
  refine loop_few' (f := acode run1 a3_l0) raw 60 TkL.cut (stLb raw) (r := fun acc => (.exit 0, { σ := [(3, .v (tksAV acc)), (4, .v (.slice 1 (strsL (acc.map (·.t)))))], own := [(3, 26), (4, 9)], loc := [], S := [] })) (fun _ => by simp) ?_ ?_
  · intro i acc x hx hi ha
    have h1 := ilt hx
    have h2 : (i : Int) < 60 := by omega
    have w := w64s (n := i) (by omega)
    have hsz : (bs x.t).size = x.t.length := bs_size x.t
    have al : (acc.length + 1) * 32 ≤ 140737488355328 := by omega
    have al2 : (acc.length + 1) * 16 ≤ 140737488355328 := by omega
    rw [acode_k]
    by_cases h100 : x.t.length ≤ 100
    · have c1 : min (x.t.length : Int) 100 = (x.t.length : Int) := by omega
      have ex : (bs x.t).extract 0 x.t.length = bs (x.t.take 100) := by rw [bs_extract, List.drop_zero, List.take_of_length_le (Nat.le_refl _), List.take_of_length_le h100]
      obtain ⟨k, t, a⟩ := x
      simp only at *
      generalize hX : bs t = X at *
      simp [-getElem?_pos, List.getElem?_cons_zero, List.getElem?_cons_succ, a3_l0, stLb, tksAV, strsL, TkL.av, TkL.cut, hx, h1, h2, w, hsz, c1, ex, al, al2, ha, hX]
      omega
    · have c1 : min (x.t.length : Int) 100 = 100 := by omega
      have c2 : (100 : Int) ≤ (x.t.length : Int) := by omega
      have ex : (bs x.t).extract 0 100 = bs (x.t.take 100) := by rw [bs_extract, List.drop_zero]
      obtain ⟨k, t, a⟩ := x
      simp only at *
      generalize hX : bs t = X at *
      simp [-getElem?_pos, List.getElem?_cons_zero, List.getElem?_cons_succ, a3_l0, stLb, tksAV, strsL, TkL.av, TkL.cut, hx, h1, h2, w, hsz, c1, c2, ex, al, al2, ha, hX]
      omega
  · intro i acc hi
    rw [acode_k]
    by_cases h1 : i < raw.length
    · have h1' : (i : Int) < (raw.length : Int) := by omega
      have h2 : ¬ (i : Int) < 60 := by omega
      simp [a3_l0, stLb, tksAV, strsL, h1, h1', h2]
    · have h1' : ¬ (i : Int) < (raw.length : Int) := by omega
      simp [a3_l0, stLb, tksAV, strsL, h1, h1']
theorem c3 (raw : List TkL) (hl : raw.length ≤ 9223372036854775807) : run1 3 [tksAV raw] [] = some (.ret (.bool true) none, []) := by
  refine eqn1 rfl ?_
  have h := loop3 raw hl
  have hL : ((raw.take 60).map TkL.cut).length ≤ 60 := by rw [List.length_map, List.length_take]; omega
  have hx : ∀ x ∈ ((raw.take 60).map TkL.cut).map (·.t), x.length ≤ 100 := by
    intro x hx
    rw [List.mem_map] at hx
    obtain ⟨y, hy, rfl⟩ := hx
    rw [List.mem_map] at hy
    obtain ⟨z, _, rfl⟩ := hy
    simp only [TkL.cut, List.length_take]
    omega
  generalize (raw.take 60).map TkL.cut = L at *
  have hj := join_len (L.map (·.t)) 100 hx
  rw [List.length_map] at hj
  have q1 := c5 L [] (by omega) (by omega)
  have q2 := c6 (L.map (·.t)) [] (by rw [List.length_map]; omega) (by omega)
  have q3 := awake1
  have e1 : tksAV [] = .slice 3 [] := rfl
  have e2 : strsL (([] : List TkL).map (·.t)) = [] := rfl
  simp only [stLb, e1, e2, Int.natCast_zero, Int.ofNat_zero] at h
  simp [a3, h, q1, q2, q3]
theorem cellsTok : (Tryd.prog.cellsOf 26) = 3 := by kernel_rfl
theorem ty_tok {a : AV} (h : HasTy Tryd.prog 26 a) : ∃ x : TkL, a = x.av ∧ True := by
  obtain ⟨cs, rfl, hl, hf⟩ := h.struct_inv Tryd.underlying26
  rw [cellsTok] at hl
  match cs, hl with
  | [x, y, z], _ =>
    have h1 := hf _ (List.mem_cons_self)
    have h2 := hf _ (List.mem_cons_of_mem _ (List.mem_cons_self))
    have h3 := hf _ (List.mem_cons_of_mem _ (List.mem_cons_of_mem _ (List.mem_cons_self)))
    rw [pick1 (by kernel_rfl)] at h1
    rw [pick1 (by kernel_rfl)] at h2
    rw [pick1 (by kernel_rfl)] at h3
    obtain ⟨n, e1, _⟩ := h1.int_inv Tryd.underlying24
    obtain ⟨s, e2, _⟩ := h2.str_inv Tryd.underlying9
    obtain ⟨m, e3, _⟩ := h3.int_inv Tryd.underlying3
    have e1' : x = .int .i64 n := e1
    have e2' : y = .str s := e2
    have e3' : z = .int .i64 m := e3
    subst e1' e2' e3'
    exact ⟨⟨n, s.data.toList, m⟩, by simp only [TkL.av]; rw [← bs_of], trivial⟩
theorem ty_toks {a : AV} (h : HasTy Tryd.prog 22 a) : ∃ l : List TkL, a = tksAV l ∧ l.length ≤ maxLen ∧ ∀ x ∈ l, True :=
  list_of Tryd.underlying22 cellsTok (fun x hx => ty_tok hx) h
theorem run_law1 {W : World} (hL : LaidV W) (f : Nat) : SoundFun Tryd.prog W f (run1 f) := recSound_iff.1 (recL_sound (run_sound1 hL)) f
theorem law3 : LawTrue Tryd.prog 3 Tryd.f3.params.toList LaidV :=
  lawTrue_of fun W hW => ⟨_, run_law1 hW 3, fun args hl hty => by
    rw [Tryd.params3] at hl hty
    match args, hl with
    | [a], _ =>
      obtain ⟨l, rfl, hm, _⟩ := ty_toks (hty 0 _ a rfl rfl)
      exact ⟨[], none, c3 l (by simp only [maxLen] at hm; omega)⟩⟩
end Go.Av
