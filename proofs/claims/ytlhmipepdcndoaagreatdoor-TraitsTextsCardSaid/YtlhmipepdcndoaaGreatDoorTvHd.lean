/- Part of a proof: traits.Read and Parse, whole. -/
import Derived.Test.YtlhmipepdcndoaaGreatDoorTvHc
import Derived.Lib.SpaceU
set_option maxRecDepth 100000
set_option linter.unusedSimpArgs false
set_option linter.unusedVariables false
namespace Go.Av
open Go Go.Proofs

theorem u8neH (a b : UInt8) : ((a.toNat : Int) = (b.toNat : Int)) ↔ a = b := by
  constructor
  · intro h
    exact UInt8.toNat_inj.1 (by omega)
  · rintro rfl; rfl
theorem fieldsGo_small : ∀ (l cur : List UInt8), (Lib.fieldsGo cur l).length ≤ l.length + 1 ∧ ∀ w ∈ Lib.fieldsGo cur l, w.length ≤ cur.length + l.length
  | [], cur => by
    unfold Lib.fieldsGo
    split
    · simp
    · simp
  | b :: l, cur => by
    have h1 := fieldsGo_small l []
    have h2 := fieldsGo_small l (cur ++ [b])
    simp only [List.length_nil, List.length_append, List.length_cons] at h1 h2
    unfold Lib.fieldsGo
    split
    · split
      · refine ⟨by simp; omega, fun w hw => ?_⟩
        have := h1.2 w hw
        simp; omega
      · refine ⟨by simp; omega, fun w hw => ?_⟩
        rcases List.mem_cons.1 hw with rfl | hw
        · simp
        · have := h1.2 w hw
          simp; omega
    · refine ⟨by simp; omega, fun w hw => ?_⟩
      have := h2.2 w hw
      simp; omega
theorem fieldsGoD_small : ∀ (f : Nat) (l cur : List UInt8), (Lib.fieldsGoD f cur l).length ≤ f + 1 ∧ ∀ w ∈ Lib.fieldsGoD f cur l, w.length ≤ cur.length + l.length
  | 0, l, cur => by
    unfold Lib.fieldsGoD
    split <;> simp
  | f + 1, l, cur => by
    have h1 := fieldsGoD_small f (l.drop (Lib.decodeL l).2) []
    have h2 := fieldsGoD_small f (l.drop (Lib.decodeL l).2) (cur ++ l.take (Lib.decodeL l).2)
    simp only [List.length_nil, List.length_append, List.length_drop, List.length_take] at h1 h2
    unfold Lib.fieldsGoD
    split
    · split <;> simp
    · split
      · refine ⟨?_, fun w hw => ?_⟩
        · simp only [List.length_append]
          have := h1.1
          split <;> simp <;> omega
        · rcases List.mem_append.1 hw with hw | hw
          · split at hw
            · cases hw
            · rw [List.mem_singleton.1 hw]; omega
          · have := h1.2 w hw; omega
      · refine ⟨by omega, fun w hw => ?_⟩
        have := h2.2 w hw
        omega
theorem fieldsF_small (l : List UInt8) : (fieldsF l).length ≤ l.length + 2 ∧ ∀ w ∈ fieldsF l, w.length ≤ l.length := by
  unfold fieldsF
  split
  · have h := fieldsGo_small l []
    unfold Lib.fields
    simp only [List.length_nil, Nat.zero_add] at h
    exact ⟨by omega, h.2⟩
  · have h := fieldsGoD_small (l.length + 1) l []
    unfold Lib.fieldsD
    simp only [List.length_nil, Nat.zero_add] at h
    exact ⟨by omega, h.2⟩
theorem readGo_fit : ∀ {ws : List (List UInt8)} {out res : List K}, readGo out ws = some res → (∀ k ∈ out, colOk k) → (∀ k ∈ res, colOk k) ∧ res.length = out.length + ws.length
  | [], out, res, h, ho => by
    simp only [readGo, Option.some.injEq] at h
    subst h
    exact ⟨ho, by simp⟩
  | w :: ws, out, res, h, ho => by
    unfold readGo at h
    cases hw : readW w with
    | none => rw [hw] at h; cases h
    | some k =>
      rw [hw] at h
      have hk : colOk k := by
        unfold readW at hw
        split at hw
        · split at hw
          · cases hw
          · rename_i hn
            simp only [Option.some.injEq] at hw
            subst hw
            unfold colOk
            simp only
            omega
        · cases hw
      obtain ⟨h1, h2⟩ := readGo_fit h (fun x hx => by
        rcases List.mem_append.1 hx with hx | hx
        · exact ho x hx
        · rw [List.mem_singleton.1 hx]; exact hk)
      refine ⟨h1, ?_⟩
      rw [h2]
      simp; omega
def inner (s : List UInt8) : List UInt8 := (s.take (s.length - 1)).drop 1
def brack (s : List UInt8) : Bool := decide (2 ≤ s.length) && decide (s[0]? = some 91) && decide (s[s.length - 1]? = some 93)
def readS (s : List UInt8) : List K × Bool :=
  if brack s then (match readGo [] (fieldsF (inner s)) with
    | some out => (out, isListB out && decide (wrKs out = s))
    | none => ([], false)) else ([], false)
theorem inner_len (s : List UInt8) : (inner s).length ≤ s.length := by simp [inner]; omega
set_option maxHeartbeats 2000000 in
theorem c57 (s : List UInt8) (S : List Bx) (hs : s.length ≤ 1000) : run 57 [.str (bs s)] S = some (.ret (.tuple [keysAV (readS s).1, .bool (readS s).2]) none, S) := by
  refine eqn rfl ?_
  have e1 : s.length ≤ 9223372036854775807 := by omega
  unfold readS
  by_cases h2 : s.length < 2
  · have hb : brack s = false := by
      unfold brack
      rw [decide_eq_false (by omega)]; rfl
    rw [hb]
    have h2' : (s.length : Int) < 2 := by omega
    simp [a57, keysAV, bs_size, h2, h2']
  · have h2' : ¬ (s.length : Int) < 2 := by omega
    obtain ⟨a, ha⟩ : ∃ a, s[0]? = some a := ⟨s[0], by simp⟩
    obtain ⟨b, hb⟩ : ∃ b, s[s.length - 1]? = some b := ⟨s[s.length - 1], by simp [show s.length - 1 < s.length by omega]⟩
    have wl : IntKind.wrap .i64 ((s.length : Int) - 1) = ((s.length - 1 : Nat) : Int) := by rw [wr64 (by omega) (by omega)]; omega
    have hl0 : (0 : Int) ≤ ((s.length - 1 : Nat) : Int) := by omega
    have hbr : brack s = (decide (a = 91) && decide (b = 93)) := by
      unfold brack
      rw [ha, hb, decide_eq_true (by omega : 2 ≤ s.length)]
      simp
    rw [hbr]
    have ea : ((a.toNat : Int) = 91) ↔ a = 91 := by rw [show (91 : Int) = ((91 : UInt8).toNat : Int) from rfl]; exact u8neH a 91
    have eb : ((b.toNat : Int) = 93) ↔ b = 93 := by rw [show (93 : Int) = ((93 : UInt8).toNat : Int) from rfl]; exact u8neH b 93
    have hbn : (bs s)[s.length - 1]? = some b := by rw [bs_get, hb]
    have han : (bs s)[0]? = some a := by rw [bs_get, ha]
    have hzn : ((s.length - 1 : Nat) : Int).toNat = s.length - 1 := Int.toNat_natCast _
    by_cases hA : a = 91
    · by_cases hB : b = 93
      · rw [decide_eq_true hA, decide_eq_true hB]
        simp only [Bool.and_self, if_true]
        have q1 := c87 (inner s) S (by have := inner_len s; omega)
        obtain ⟨f1, f2⟩ := fieldsF_small (inner s)
        have il := inner_len s
        have q2 := loop57 s (fieldsF (inner s)) S (fun w hw => by have := f2 w hw; omega) (by omega)
        have hx : (bs s).extract 1 (s.length - 1) = bs (inner s) := by rw [bs_extract]; rfl
        have hle : (1 : Int) ≤ ((s.length - 1 : Nat) : Int) := by omega
        have hle2 : ((s.length - 1 : Nat) : Int) ≤ (s.length : Int) := by omega
        simp only [st57, Int.natCast_zero, Int.ofNat_zero, strsAV, keysAV, List.map_nil] at q1 q2
        have fin : readGo [] (fieldsF (inner s)) = none ∨ ∃ out, readGo [] (fieldsF (inner s)) = some out := by cases readGo [] (fieldsF (inner s)) with | none => exact .inl rfl | some o => exact .inr ⟨o, rfl⟩
        rcases fin with hr | ⟨out, hr⟩
        · rw [hr] at q2 ⊢
          simp only [bad57] at q2
          generalize fieldsF (inner s) = ws at *
          generalize ((s.length - 1 : Nat) : Int) = z at *
          simp [-getElem?_pos, a57, keysAV, bs_size, h2', wl, han, hbn, ea, eb, hA, hB, hl0, hle, hle2, hzn, hx, q1, q2]
        · obtain ⟨k1, k2⟩ := readGo_fit hr (by simp)
          have hol : out.length ≤ 1000000 := by simp at k2; omega
          have q3 := c54 out S (by omega)
          rw [hr] at q2 ⊢
          simp only [good57, keysAV] at q2 q3
          cases hb3 : isListB out with
          | false =>
            rw [hb3] at q3
            generalize fieldsF (inner s) = ws at *
            generalize ((s.length - 1 : Nat) : Int) = z at *
            simp [-getElem?_pos, a57, keysAV, bs_size, h2', wl, han, hbn, ea, eb, hA, hB, hl0, hle, hle2, hzn, hx, q1, q2, q3, hb3]
          | true =>
            rw [hb3] at q3
            have ho32 : out.length ≤ 1000 := by
              unfold isListB at hb3
              simp only [Bool.and_eq_true, decide_eq_true_eq] at hb3
              omega
            have q4 := c55 out S (fun k hk => by have := k1 k hk; unfold colOk at this; omega) ho32
            simp only [keysAV] at q4
            generalize fieldsF (inner s) = ws at *
            generalize ((s.length - 1 : Nat) : Int) = z at *
            generalize hWo : wrKs out = W at *
            by_cases hW : W = s
            · simp [-getElem?_pos, a57, keysAV, bs_size, bs_toList, h2', wl, han, hbn, ea, eb, hA, hB, hl0, hle, hle2, hzn, hx, q1, q2, q3, q4, hb3, hWo, hW]
            · simp [-getElem?_pos, a57, keysAV, bs_size, bs_toList, h2', wl, han, hbn, ea, eb, hA, hB, hl0, hle, hle2, hzn, hx, q1, q2, q3, q4, hb3, hWo, hW]
      · rw [decide_eq_false hB, Bool.and_false]
        generalize ((s.length - 1 : Nat) : Int) = z at *
        simp [-getElem?_pos, a57, keysAV, bs_size, h2', wl, han, hbn, ea, eb, hA, hB, hl0, hzn]
    · rw [decide_eq_false hA, Bool.false_and]
      generalize ((s.length - 1 : Nat) : Int) = z at *
      simp [-getElem?_pos, a57, keysAV, bs_size, h2', wl, han, hbn, ea, eb, hA, hl0, hzn]
def parseE (s : List UInt8) : List K × Int := if (readS s).2 then ((readS s).1, 0) else ([], 180)
theorem c23 (s : List UInt8) (S : List Bx) (hs : s.length ≤ 1000) : run 23 [.str (bs s)] S = some (.ret (tup2 (parseE s).1 (parseE s).2) none, S) := by
  refine eqn rfl ?_
  have q := c57 s S hs
  unfold parseE
  generalize readS s = r at *
  obtain ⟨l, b⟩ := r
  simp only [keysAV] at q
  cases b <;> simp [a23, keysAV, tup2, q]
/-- What Parse makes of a string. -/
theorem readS_ok {s : List UInt8} (h : (readS s).2 = true) : wrKs (readS s).1 = s ∧ (readS s).1.length ≤ 32 ∧ ∀ k ∈ (readS s).1, colOk k := by
  unfold readS at h ⊢
  split at h
  · rename_i hb
    rw [if_pos hb]
    split at h
    · rename_i out hr
      simp only [Bool.and_eq_true, decide_eq_true_eq] at h
      refine ⟨h.2, ?_, (readGo_fit hr (by simp)).1⟩
      have := h.1
      unfold isListB at this
      simp only [Bool.and_eq_true, decide_eq_true_eq] at this
      exact this.1
    · cases h
  · cases h
theorem cutD_wr {k : K} (h : 0 ≤ k.c) : cutD (wrK k) = (itoaL k.c, k.d) := by
  unfold cutD wrK
  obtain ⟨c, d⟩ := k
  simp only at *
  cases d with
  | true => simp
  | false =>
    simp only [Bool.false_eq_true, if_false, List.append_nil]
    rw [if_neg]
    intro e
    have hm := List.mem_of_getLast? e
    rw [itoaL_nat h] at hm
    have := (decDigits_dig c.toNat).2 45 hm
    simp [isDig] at this
theorem readW_wr {k : K} (h : colOk k) : readW (wrK k) = some k := by
  unfold readW
  rw [cutD_wr h.1, atoi_itoa h.1 (by have := h.2; omega)]
  simp only
  rw [if_neg (by have := h.1; have := h.2; omega)]
theorem readGo_wr : ∀ (ks out : List K), (∀ k ∈ ks, colOk k) → readGo out (ks.map wrK) = some (out ++ ks)
  | [], out, _ => by simp [readGo]
  | k :: ks, out, h => by
    simp only [List.map_cons, readGo, readW_wr (h k (.head _))]
    rw [readGo_wr ks _ (fun k hk => h k (.tail _ hk))]
    simp
theorem inner_wr (ks : List K) : inner (wrKs ks) = joinSp (ks.map wrK) ∧ brack (wrKs ks) = true := by
  unfold inner brack wrKs
  generalize joinSp (ks.map wrK) = J
  constructor
  · simp
  · simp
theorem fieldsF_wr {ks : List K} (h : ∀ k ∈ ks, 0 ≤ k.c) : fieldsF (joinSp (ks.map wrK)) = ks.map wrK := by
  unfold fieldsF
  rw [if_pos, fields_keys h]
  rw [List.all_eq_true]
  intro b hb
  simpa using joinSp_ascii h b hb
theorem readS_wr {ks : List K} (h : ∀ k ∈ ks, colOk k) (hl : ks.length ≤ 32) : readS (wrKs ks) = (ks, true) := by
  have h0 : ∀ k ∈ ks, 0 ≤ k.c := fun k hk => (h k hk).1
  unfold readS
  obtain ⟨e1, e2⟩ := inner_wr ks
  rw [e2, e1, fieldsF_wr h0, readGo_wr ks [] h]
  simp only [if_true, List.nil_append, decide_true, Bool.and_true]
  have : isListB ks = true := by
    unfold isListB
    simp only [Bool.and_eq_true, decide_eq_true_eq, List.all_eq_true]
    exact ⟨hl, h0⟩
  rw [this]
end Go.Av
