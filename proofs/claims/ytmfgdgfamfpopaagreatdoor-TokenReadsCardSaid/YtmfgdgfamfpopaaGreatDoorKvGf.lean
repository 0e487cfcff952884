/- Part of a proof: token.next: what stands at the beginning of a string. -/
import Derived.Test.YtmfgdgfamfpopaaGreatDoorKvGe
set_option maxRecDepth 100000
set_option linter.unusedSimpArgs false
set_option linter.unusedVariables false
namespace Go.Av
open Go Go.Proofs

def wordsBox : Bx := { cells := (wordsL.map fun w => [AV.str (bs w), AV.bool true]).flatten, own := [], map := true }
theorem c19 : run 19 [] [] = some (.ret (.mapp 0) none, [wordsBox]) := recL_run (n := 60) (by kernel_rfl)
theorem mget_words (t : List UInt8) : ∀ (l : List (List UInt8)), mget none (l.map fun w => [AV.str (bs w), AV.bool true]).flatten (.str (bs t)) = some (if t ∈ l then some (.bool true) else none)
  | [] => by simp [mget]
  | w :: l => by
    have ih := mget_words t l
    simp only [List.map_cons, List.flatten_cons, List.cons_append, List.nil_append, mget]
    by_cases h : t = w
    · subst h
      simp [isKeyA, keyEq]
    · have h' : ¬ bs t = bs w := fun e => h (bs_inj e)
      simp [isKeyA, keyEq, h, h', bs_toList, ih]
/-- Whether a text is a number's string. -/
def numM (b : List UInt8) : Bool := match Lib.atoiAll b with
  | .ok n => decide (itoaL n = b)
  | _ => false
def numP : List UInt8 → Bool
  | [] => false
  | c :: r => digB c && numM (c :: r)
def emptyTok : AV := .agg [.int .i64 0, .str ⟨#[]⟩, .int .i64 0]
def tokAV (k : Int) (t : List UInt8) : AV := .agg [.int .i64 k, .str (bs t), .int .i64 0]
def nextE (s : List UInt8) : AV := match oneT numP s with
  | some (k, t) => .tuple [tokAV k t, .int .i64 (t.length : Int)]
  | none => .tuple [emptyTok, .int .i64 0]

theorem sign_head {x s : List UInt8} (hx : x ∈ signsL) (h : x.isPrefixOf s = true) : s.head? ≠ some 39 ∧ (s.takeWhile fun c => inNm (smallB c)) = [] := by
  obtain ⟨z, rfl⟩ := List.isPrefixOf_iff_prefix.1 h
  unfold signsL at hx
  simp only [List.mem_cons, List.not_mem_nil, or_false] at hx
  rcases hx with rfl | rfl | rfl | rfl | rfl | rfl | rfl | rfl | rfl | rfl | rfl | rfl | rfl | rfl | rfl | rfl | rfl <;>
  exact ⟨by simp, by rfl⟩
theorem oneT_sign {s x : List UInt8} {p : List UInt8 → Bool} (h : (signsL.find? fun x => x.isPrefixOf s) = some x) : oneT p s = some (5, x) := by
  have hm := List.mem_of_find?_eq_some h
  have hp := List.find?_some h
  obtain ⟨h1, h2⟩ := sign_head hm hp
  unfold oneT
  rw [if_neg h1, h2]
  simp only [List.map_nil, if_true]
  rw [h]; rfl

/-! ### the signs -/
def walkFind {α γ : Type} (p : α → Bool) (g : α → γ) (e : γ) : List α → γ
  | [] => e
  | x :: l => if p x then g x else walkFind p g e l
theorem walkL_find {α γ : Type} (p : α → Bool) (g : α → γ) (e : γ) : ∀ (l : List α), walkL (fun (_ : Unit) x => if p x then .inr (g x) else .inl ()) (fun _ => e) l () = (l.find? p).elim e g
  | [] => rfl
  | x :: l => by
    unfold walkL
    cases h : p x
    · simp [h, walkL_find p g e l]
    · simp [h]
def zTok : Bx := { cells := [.int .i64 0, .str ⟨#[]⟩, .int .i64 0] }
def signsAV : List AV := [.str ⟨#[60, 61]⟩, .str ⟨#[62, 61]⟩, .str ⟨#[60, 62]⟩, .str ⟨#[124, 124]⟩, .str ⟨#[40]⟩, .str ⟨#[41]⟩, .str ⟨#[44]⟩, .str ⟨#[46]⟩, .str ⟨#[42]⟩, .str ⟨#[43]⟩, .str ⟨#[45]⟩, .str ⟨#[47]⟩, .str ⟨#[37]⟩, .str ⟨#[61]⟩, .str ⟨#[60]⟩, .str ⟨#[62]⟩, .str ⟨#[59]⟩]
theorem signsAV_get (i : Nat) (x : List UInt8) (h : signsL[i]? = some x) : signsAV[i]? = some (.str (bs x)) := by
  have e : signsAV = signsL.map fun x => AV.str (bs x) := by rfl
  rw [e, List.getElem?_map, h]; rfl
def stS (s : List UInt8) (S : List Bx) (i : Nat) : St := { σ := [(0, .v (.str (bs s))), (1, .v (.mapp 0)), (4, .l 4 0), (17, .v (.agg signsAV)), (18, .v (.int .i64 (i : Int)))], own := [], loc := [(4, zTok)], S := S }
theorem loop024 (s : List UInt8) (S : List Bx) (hs : s.length ≤ 1000000) :
    aloopW (acode run a24_l0) (stS s S 0) = some ((signsL.find? fun x => x.isPrefixOf s).elim
      (.exit 0, { σ := [(0, .v (.str (bs s))), (1, .v (.mapp 0)), (4, .l 4 0)], own := [], loc := [(4, zTok)], S := S })
      (fun x => (.ret, { σ := [(4, .l 4 0), (5, .v (.int .i64 (x.length : Int)))], own := [], loc := [(4, { cells := [.int .i64 5, .str (bs x), .int .i64 0] })], S := S }))) := by
  have h := loop_walk (f := acode run a24_l0) signsL (fun (_ : Unit) i => stS s S i)
    (fun _ x => if x.isPrefixOf s then .inr (.ret, { σ := [(4, .l 4 0), (5, .v (.int .i64 (x.length : Int)))], own := [], loc := [(4, { cells := [.int .i64 5, .str (bs x), .int .i64 0] })], S := S }) else .inl ())
    (fun _ => (.exit 0, { σ := [(0, .v (.str (bs s))), (1, .v (.mapp 0)), (4, .l 4 0)], own := [], loc := [(4, zTok)], S := S })) (fun _ _ => True) (b0 := ()) trivial
    (fun i _ x _ hx => by
      have hlt := (List.getElem?_eq_some_iff.1 hx).1
      have h17 : signsL.length = 17 := by rfl
      have h1 : (i : Int) < 17 := by omega
      have w := w64s (n := i) (by omega)
      have hxl : x.length ≤ 1000000 := by
        have : ∀ y ∈ signsL, y.length ≤ 1000000 := by decide
        exact this x (List.mem_of_getElem? hx)
      have q := c34 s x S hs hxl
      have g := signsAV_get i x hx
      have hz : (bs x).size = x.length := bs_size x
      have hl : signsAV.length = 17 := rfl
      cases hb : x.isPrefixOf s
      · rw [hb] at q
        left
        refine ⟨(), by simp [hb], ?_, trivial⟩
        rw [acode_k]
        simp [-getElem?_pos, List.getElem?_cons_zero, List.getElem?_cons_succ, a24_l0, stS, zTok, h1, w, q, g, hl]
      · rw [hb] at q
        right
        refine ⟨_, if_pos rfl, ?_, by simp⟩
        rw [acode_k]
        simp [-getElem?_pos, List.getElem?_cons_zero, List.getElem?_cons_succ, a24_l0, stS, zTok, h1, w, q, g, hl, hz])
    (fun _ _ => by
      refine ⟨?_, by simp⟩
      rw [acode_k]
      have : signsL.length = 17 := rfl
      simp [a24_l0, stS, zTok, this])
  rw [walkL_find] at h
  exact h

/-! ### the name -/
def stN (s : List UInt8) (S : List Bx) (i : Nat) : St := { σ := [(0, .v (.str (bs s))), (1, .v (.mapp 0)), (4, .l 4 0), (12, .v (.int .i64 (i : Int)))], own := [], loc := [(4, zTok)], S := S }
def nmB (c : UInt8) : Bool := inNm (smallB c)
theorem loop124 (s : List UInt8) (S : List Bx) (hs : s.length ≤ 1000000) : ∀ (k n : Nat), s.length ≤ n + k → n ≤ s.length →
    aloopW (acode run a24_l1) (stN s S n) = some (.exit 2, stN s S (n + ((s.drop n).takeWhile nmB).length)) := by
  have hsz : (bs s).size = s.length := bs_size s
  have stop : aloopW (acode run a24_l1) (stN s S s.length) = some (.exit 2, stN s S s.length) := by
    refine aloopW_stop ?_ (by simp)
    rw [acode_k]
    simp [a24_l1, stN, zTok, hsz]
  intro k
  induction k with
  | zero =>
    intro n h hn
    obtain rfl : n = s.length := by omega
    have e : s.drop s.length = [] := List.drop_length
    rw [e]
    exact stop
  | succ k ih =>
    intro n h hn
    by_cases hlt : n < s.length
    · obtain ⟨c, hc⟩ : ∃ c, s[n]? = some c := ⟨s[n], List.getElem?_eq_getElem hlt⟩
      have h1 : (n : Int) < (s.length : Int) := by omega
      have w := w64s (n := n) (by omega)
      have g : (bs s)[n]? = some c := by rw [bs_get]; exact hc
      have q1 := c38 c S
      have q2 := c37 (smallB c) S
      rw [drop_some hc, List.takeWhile_cons]
      unfold nmB
      cases hb : inNm (smallB c)
      · rw [hb] at q2
        refine aloopW_stop (r := (.exit 2, stN s S n)) ?_ (by simp)
        rw [acode_k]
        simp [-getElem?_pos, List.getElem?_cons_zero, List.getElem?_cons_succ, a24_l1, stN, zTok, hsz, h1, g, q1, q2]
      · rw [hb] at q2
        have e : n + (c :: (s.drop (n + 1)).takeWhile nmB).length = (n + 1) + ((s.drop (n + 1)).takeWhile nmB).length := by simp; omega
        simp only [if_true]
        change _ = some (AEx.exit 2, stN s S (n + (c :: (s.drop (n + 1)).takeWhile nmB).length))
        rw [e, ← ih (n + 1) (by omega) (by omega)]
        refine aloopW_step ?_
        rw [acode_k]
        simp [-getElem?_pos, List.getElem?_cons_zero, List.getElem?_cons_succ, a24_l1, stN, zTok, hsz, h1, g, q1, q2, w]
    · obtain rfl : n = s.length := by omega
      have e : s.drop s.length = [] := List.drop_length
      rw [e]
      exact stop
end Go.Av
