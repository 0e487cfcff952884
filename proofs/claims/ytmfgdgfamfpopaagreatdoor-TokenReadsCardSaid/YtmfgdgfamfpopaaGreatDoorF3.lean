/- Part of a proof: slices.Clone, at any type of elements. -/
import Derived.Test.YtmfgdgfamfpopaaGreatDoorF2
import Derived.Lib.SliceRun
import Derived.Lib.Replace
import Derived.Lib.AtoiAll
import Derived.Lib.SpaceU
import Derived.Lib.Fields
import Derived.Lib.MapLaws
import Derived.Lib.TrimAscii
import Derived.Lib.LaidTab
set_option linter.unusedVariables false
set_option linter.unusedSimpArgs false
set_option linter.unusedSectionVars false
namespace Go.Av
open Go Go.RowKit

def xClone (sz e bytes : Nat) (args : List AV) (S : List Bx) : Option (AEnd × List Bx) :=
  match args with
  | [.slice sz' es] => if sz' = sz ∧ es.length * bytes ≤ 140737488355328 then some (.ret (.slice sz es) (some e), S) else none
  | _ => none

def clone0 (sz e : Nat) : ACode := .region [{ op := .nils 2 sz e }] none false [0] []
def clone2 (sz e : Nat) : ACode := .seq (.region [{ op := .nils 2 sz e }] none false [2] []) .ret
def clone3 (sz e bytes : Nat) : ACode := .seq (.region [{ op := .bslice 5 sz e [] }, { op := .mov 6 (.s 0) false }, { op := .append 7 sz e bytes (.s 5) (.s 6) }, { op := .mov 2 (.s 7) true }] none false [2] []) .ret

theorem rec_none (P : Program) (W0 : World) : RecSound P W0 (fun _ _ _ => none) := fun _ _ _ _ _ h => by cases h

theorem clone0_run (sz e sz' : Nat) (es : List AV) (S : List Bx) : acode (fun _ _ _ => none) (clone0 sz e) (aenter [.slice sz' es] S) = some (.normal, { σ := [(0, .v (.slice sz' es))], own := [], loc := [], S := S }) := by rfl
theorem clone2_run (sz e : Nat) (es : List AV) (b : Bool) (S : List Bx) : acode (fun _ _ _ => none) (clone2 sz e) { σ := [(0, .v (.slice sz es)), (3, .v (.slice sz es)), (4, .v (.bool b))], own := [], loc := [], S := S } =
    some (.ret, { σ := [(2, .v (.slice sz []))], own := [(2, e)], loc := [], S := S }) := by rfl
theorem clone3_run (sz e bytes : Nat) (es : List AV) (b : Bool) (S : List Bx) (h : es.length * bytes ≤ 140737488355328) : acode (fun _ _ _ => none) (clone3 sz e bytes) { σ := [(0, .v (.slice sz es)), (3, .v (.slice sz es)), (4, .v (.bool b))], own := [], loc := [], S := S } =
    some (.ret, { σ := [(2, .v (.slice sz es))], own := [(2, e)], loc := [], S := S }) := by
  simp [clone3, acode, aops, aoper, aopB, blkOk, aop, apure, St.av, St.avs, St.sv, SV.av, Slots.get, Slots.set, Slots.kill, SV.kill, St.put, St.drop, St.right, St.move, St.keep, Slots.keep, Locs.keep, Locs.get, Locs.set, rightOf, normal, AOp.addr, srcElems, List.filter_cons, h]

section
variable {P : Program} {W0 : World}
theorem ext_clone (hP : P.follows .mixedOrders = true) {f : FuncId} {F : Func} (hF : P.funcs[f]? = some F) {c0 c2 c3 : Code} {i1 : Nat} {o1 o2 : Oper} {t sz e bytes : Nat}
    (hb : F.body = some (.seq c0 (.seq (.seq (.region i1 #[o1, o2] false) (.cond (.tmp 4) c2 .skip)) c3))) (hN : F.ntmps = 8) (hname : (F.name == "runtime.NumGoroutine") = false) (hres : mRes P [.tmp 2] F.results.toList = true)
    (h0 : mCode P 8 (clone0 sz e) c0 = true) (h2 : mCode P 8 (clone2 sz e) c2 = true) (h3 : mCode P 8 (clone3 sz e bytes) c3 = true) (h1 : mOper P 8 #[o1, o2] { op := .mov 3 (.s 0) false } o1 = true)
    (hop : o2.op = .binOp .eql t (.tmp 3) (.const (.slice none 0 0)) t) (hdst : o2.dst = some 4) (hgd : o2.guard = none) (ht : P.underlying t = some (.slice e)) : SoundFun P W0 f (xClone sz e bytes) := by
  intro args S en S' h
  refine ⟨⟨F, hF, hname, by simp [hb]⟩, fun g W vs hB hT hS hcalm => ?_⟩
  unfold xClone at h
  split at h
  · rename_i sz' es
    split at h
    · rename_i hcond
      obtain ⟨rfl, hlen⟩ := hcond
      simp only [Option.some.injEq, Prod.mk.injEq] at h
      obtain ⟨rfl, rfl⟩ := h
      refine calls_of_wp hF hb ?_
      rw [hN]
      have hi := enter_ok (N := 8) hT hS (by simp)
      have hrec := rec_none P W0
      -- where it ends
      have fin : ∀ {g' : Gh} {W' : World} {a' : Act} {L' : Nat → Nat} {st : St} {x : AEx}, x = .ret → st = { σ := [(2, .v (.slice sz' es))], own := [(2, e)], loc := [], S := S } → Ext g W g' W' → Inv g' W' a' 8 L' st → a'.defers = [] →
          a'.defers = [] ∧ ∃ v, (results F a'.tmps).run P W' = .ok v W' ∧ Post g W (.ret (.slice sz' es) (some e)) S (.returned v) W' := by
        intro g' W' a' L' st x hx hst hE hi' hdf
        subst hst
        obtain ⟨v, q1, q2, q3⟩ := aresult_ok (P := P) (F := F) (rs := [.tmp 2]) (r := .slice sz' es) (own := some e) hi' hres rfl
        exact ⟨hdf, v, q1, post_ret (kb := 0) hE hi' hS (by unfold aleave; simp) q2 q3⟩
      refine wp_seq ?_
      refine code_wp hP hrec (clone0 sz' e) h0 hi hB (clone0_run _ _ _ _ _) ?_
      intro g1 W1 a1 L1 st1 e1 hd1 hE1 hi1 hst1 he1
      cases he1
      have hst1' : st1 = { σ := [(0, .v (.slice sz' es))], own := [], loc := [], S := S } := by
        rcases hst1 with h | ⟨h, _⟩
        · exact h
        · cases h
      subst hst1'
      have hB1 := hB.ext' hE1
      refine wp_seq (wp_seq (wp_region ?_))
      show wpOps P #[o1, o2] _ [0, 1] a1 W1
      simp only [wpOps]
      refine aoper_wp hi1 hB1 hrec o1 h1 (x := .normal) (st' := { σ := [(0, .v (.slice sz' es)), (3, .v (.slice sz' es))], own := [], loc := [], S := S }) rfl ⟨fun _ g2 W2 a2 L2 hd2 hE2 hi2 => ?_, fun v hv => by cases hv⟩
      -- is it nil?
      have hsl := hi2.slot 3
      simp only [Slots.get] at hsl
      obtain ⟨p, cap, hv3, hcap, hes⟩ := RV_slice (show RV g2 W2 (.slice sz' es) (a2.tmps.getD 3 undef) from hsl)
      have hrun : (execOp a2.eval o2).run P W2 = .ok (.value (.bool p.isNone)) W2 := by
        have := Lib.run_eql_slice_nil (P := P) W2 t e p es.length cap 0 0 ht
        have e3 : a2.eval (.tmp 3) = .slice p es.length cap := by simpa [Act.eval] using hv3
        have e4 : (eqGuard .eql t (.tmp 3) (.const (.slice none 0 0)) (.slice p es.length cap) (.slice none 0 0)).run P W2 = .ok () W2 := by simp [eqGuard]
        have e5 : a2.eval (.const (.slice none 0 0)) = .slice none 0 0 := rfl
        simp only [execOp, hop, e3, e5, Sem.run_bind, Sem.run_map, e4, this, Result.andThen_ok, Sem.run_pure]
      have hi3 := hi2.put 4 (by omega) (.v (.bool p.isNone)) (.bool p.isNone) (RV_bool.2 rfl)
      show (if Region.wanted o2 _ then _ else _)
      rw [if_pos (by simp [Region.wanted, hgd])]
      left
      show o2.wp P a2 W2 _ _
      unfold Oper.wp
      rw [hrun]
      show (Code.cond (.tmp 4) c2 .skip).wp P _ (a2.put o2.dst (.bool p.isNone)) W2
      rw [hdst]
      have hst3 : ({ σ := Slots.set [(0, .v (.slice sz' es)), (3, .v (.slice sz' es))] 4 (.v (.bool p.isNone)), own := St.drop { σ := [(0, .v (.slice sz' es)), (3, .v (.slice sz' es))], own := [], loc := [], S := S } 4, loc := [], S := S } : St) =
          { σ := [(0, .v (.slice sz' es)), (3, .v (.slice sz' es)), (4, .v (.bool p.isNone))], own := [], loc := [], S := S } := rfl
      simp only [hst3] at hi3
      have hc4 : (a2.put (some 4) (.bool p.isNone)).eval (.tmp 4) = .bool p.isNone := by
        have hs4 := hi3.slot 4
        simp only [Slots.get] at hs4
        have := RV_bool.1 (show RV g2 W2 (.bool p.isNone) _ from hs4)
        simpa [Act.eval] using this
      have hd3 : (a2.put (some 4) (.bool p.isNone)).defers = [] := hd2.trans hd1
      have hE3 := hE1.trans hE2
      refine wp_cond hc4 ?_
      cases hp : p.isNone with
      | true =>
        rw [hp] at hi3 hd3
        simp only [if_true]
        have hes0 : es = [] := by
          rcases hes with h | ⟨b, q, ms, h, _⟩
          · exact h
          · rw [h] at hp; cases hp
        subst hes0
        refine code_wp hP hrec (clone2 sz' e) h2 hi3 (hB1.ext' hE2) (clone2_run _ _ _ _ _) ?_
        intro g4 W4 a4 L4 st4 e4 hd4 hE4 hi4 hst4 he4
        cases he4
        have hst4' := hst4.resolve_right (fun h => by cases h.1)
        exact fin rfl hst4' (hE3.trans hE4) hi4 (hd4.trans hd3)
      | false =>
        rw [hp] at hi3 hd3
        simp only [Bool.false_eq_true, if_false]
        refine wp_skip ?_
        show c3.wp P _ _ _
        refine code_wp hP hrec (clone3 sz' e bytes) h3 hi3 (hB1.ext' hE2) (clone3_run _ _ _ _ _ _ hlen) ?_
        intro g4 W4 a4 L4 st4 e4 hd4 hE4 hi4 hst4 he4
        cases he4
        have hst4' := hst4.resolve_right (fun h => by cases h.1)
        exact fin rfl hst4' (hE3.trans hE4) hi4 (hd4.trans hd3)
    · cases h
  · cases h
end

/-! ### strconv.Itoa below 100, whatever stands -/
def xItoaS (args : List AV) (S : List Bx) : Option (AEnd × List Bx) :=
  match args with
  | [.int .i64 n] => if 0 ≤ n ∧ n < 100 then some (.ret (.str (itoaB n)) none, S) else none
  | _ => none
theorem ext_itoaS {P : Program} {W0 : World} {f : FuncId} (hc : Callable P f)
    (hI : ∀ (i : Nat), i < 100 → ∀ (w : World), Calls P f #[.int .i64 i] w fun e w' => e = .returned (.string ⟨(Lib.decDigits i).toArray⟩) ∧ w' = w) : SoundFun P W0 f xItoaS := by
  intro args S e S' h
  refine ⟨hc, fun g W vs hB hT hS hcalm => ?_⟩
  unfold xItoaS at h
  split at h
  · rename_i n
    split at h
    · rename_i hb
      simp only [Option.some.injEq, Prod.mk.injEq] at h
      obtain ⟨rfl, rfl⟩ := h
      obtain ⟨l⟩ := vs
      simp only [RT] at hT
      obtain ⟨v1, r1, hl, hv1, rfl⟩ := hT
      subst hl
      obtain rfl := RV_int.1 hv1
      obtain ⟨i, rfl⟩ := Int.eq_ofNat_of_zero_le hb.1
      refine (hI i (by omega) W).mono fun e w' hh => ?_
      obtain ⟨rfl, rfl⟩ := hh
      have : (⟨(Lib.decDigits i).toArray⟩ : ByteArray) = itoaB i := by
        rw [itoaB_eq (by omega) (by omega)]
        unfold Lib.itoa
        rw [if_neg (by omega)]
        simp
      rw [this]
      exact post_str hS hcalm (Below.refl _ _) _
    · cases h
  · cases h

/-! ### a table -/
abbrev Ext' := List AV → List Bx → Option (AEnd × List Bx)
def lookA : List (Nat × AFun) → Nat → Option AFun
  | [], _ => none
  | (k, d) :: r, f => if k = f then some d else lookA r f
def lookX : List (Nat × Ext') → Nat → Option Ext'
  | [], _ => none
  | (k, d) :: r, f => if k = f then some d else lookX r f
theorem lookA_mem {l : List (Nat × AFun)} {f : Nat} {d : AFun} (h : lookA l f = some d) : (f, d) ∈ l := by
  induction l with
  | nil => simp [lookA] at h
  | cons p r ih =>
    obtain ⟨k, e⟩ := p
    simp only [lookA] at h
    split at h
    · rename_i hk; subst hk; obtain rfl := Option.some.inj h; exact .head _
    · exact .tail _ (ih h)
theorem lookX_mem {l : List (Nat × Ext')} {f : Nat} {d : Ext'} (h : lookX l f = some d) : (f, d) ∈ l := by
  induction l with
  | nil => simp [lookX] at h
  | cons p r ih =>
    obtain ⟨k, e⟩ := p
    simp only [lookX] at h
    split at h
    · rename_i hk; subst hk; obtain rfl := Option.some.inj h; exact .head _
    · exact .tail _ (ih h)
def tabOf (A : List (Nat × AFun)) (X : List (Nat × Ext')) (f : Nat) : Option Def :=
  match lookX X f with
  | some h => some (.ext h)
  | none => (lookA A f).map .air
theorem tabOf_sound {P : Program} {W0 : World} (hP : P.follows .mixedOrders = true) {A : List (Nat × AFun)} {X : List (Nat × Ext')} (hA : A.all (fun p => mFun P p.1 p.2) = true) (hX : ∀ p ∈ X, SoundFun P W0 p.1 p.2) (n : Nat) : RecSound P W0 (crun (tabOf A X) n) := by
  refine crun_sound hP (fun f fn h => ?_) (fun f h' h => ?_) n
  · unfold tabOf at h
    split at h
    · cases h
    · simp only [Option.map_eq_some_iff, Def.air.injEq] at h
      obtain ⟨d, h1, rfl⟩ := h
      exact List.all_eq_true.1 hA _ (lookA_mem h1)
  · unfold tabOf at h
    split at h
    · rename_i h2 hx
      simp only [Option.some.injEq, Def.ext.injEq] at h
      subst h
      exact hX _ (lookX_mem hx)
    · simp only [Option.map_eq_some_iff] at h
      obtain ⟨_, _, h⟩ := h
      cases h
end Go.Av

/- More functions of the library: whole numbers as digits, replacing, fields, Atoi. -/
set_option linter.unusedVariables false
set_option linter.unusedSimpArgs false
set_option linter.unusedSectionVars false
namespace Go.Av
open Go Go.RowKit

/-! ### strconv.FormatInt to the base 10 -/
def xFormatInt (args : List AV) (S : List Bx) : Option (AEnd × List Bx) :=
  match args with
  | [.int .i64 n, .int .i64 b] => if (-9223372036854775808 ≤ n ∧ n ≤ 9223372036854775807) ∧ b = 10 then some (.ret (.str (itoaB n)) none, S) else none
  | _ => none
theorem ext_formatInt {P : Program} {W0 : World} {f : FuncId} (hc : Callable P f)
    (hI : ∀ (n : Int) (w : World), -9223372036854775808 ≤ n → n ≤ 9223372036854775807 → (∀ b, b < W0.heap.size → w.heap[b]? = W0.heap[b]?) → Calls P f #[.int .i64 n, .int .i64 10] w fun e w' => e = .returned (.string ⟨(Lib.itoa n).toArray⟩) ∧ Below w.heap.size w w') :
    SoundFun P W0 f xFormatInt := by
  intro args S e S' h
  refine ⟨hc, fun g W vs hB hT hS hcalm => ?_⟩
  unfold xFormatInt at h
  split at h
  · rename_i n b
    split at h
    · rename_i hb
      obtain ⟨hb, rfl⟩ := hb
      simp only [Option.some.injEq, Prod.mk.injEq] at h
      obtain ⟨rfl, rfl⟩ := h
      obtain ⟨l⟩ := vs
      simp only [RT] at hT
      obtain ⟨v1, r1, hl, hv1, v2, r2, rfl, hv2, rfl⟩ := hT
      subst hl
      obtain rfl := RV_int.1 hv1
      obtain rfl := RV_int.1 hv2
      refine (hI n W hb.1 hb.2 fun b hbb => (hB.ext b hbb).2).mono fun e w' hh => ?_
      obtain ⟨rfl, hbel⟩ := hh
      rw [itoaB_eq hb.1 hb.2]
      exact post_str hS hcalm hbel _
    · cases h
  · cases h

/-! ### strings.ReplaceAll, what is replaced not empty -/
def repB (s old new : ByteArray) : ByteArray := ⟨(Lib.replaceAll s.data.toList old.data.toList new.data.toList).toArray⟩
def xReplaceAll (args : List AV) (S : List Bx) : Option (AEnd × List Bx) :=
  match args with
  | [.str s, .str old, .str new] => if s.size < 4294967281 ∧ 1 ≤ old.size ∧ s.size + s.size * new.size ≤ 140737488355328 then some (.ret (.str (repB s old new)) none, S) else none
  | _ => none
theorem ext_replaceAll {P : Program} {W0 : World} {f : FuncId} (hc : Callable P f)
    (hI : ∀ (s old new : ByteArray) (w : World), s.size < 4294967281 → 1 ≤ old.size → s.size + s.size * new.size ≤ 140737488355328 → (∀ b, b < W0.heap.size → w.heap[b]? = W0.heap[b]?) →
      Calls P f #[.string s, .string old, .string new] w fun e w' => e = .returned (.string ⟨(Lib.replaceAll s.data.toList old.data.toList new.data.toList).toArray⟩) ∧ Below w.heap.size w w') :
    SoundFun P W0 f xReplaceAll := by
  intro args S e S' h
  refine ⟨hc, fun g W vs hB hT hS hcalm => ?_⟩
  unfold xReplaceAll at h
  split at h
  · rename_i s old new
    split at h
    · rename_i hb
      simp only [Option.some.injEq, Prod.mk.injEq] at h
      obtain ⟨rfl, rfl⟩ := h
      obtain ⟨l⟩ := vs
      simp only [RT] at hT
      obtain ⟨v1, r1, hl, hv1, v2, r2, rfl, hv2, v3, r3, rfl, hv3, rfl⟩ := hT
      subst hl
      obtain rfl := RV_str.1 hv1
      obtain rfl := RV_str.1 hv2
      obtain rfl := RV_str.1 hv3
      refine (hI s old new W hb.1 hb.2.1 hb.2.2 fun b hbb => (hB.ext b hbb).2).mono fun e w' hh => ?_
      obtain ⟨rfl, hbel⟩ := hh
      exact post_str hS hcalm hbel _
    · cases h
  · cases h

/-! ### a new row -/
section
variable {P : Program} {W0 : World} {g : Gh} {W W' : World} {S : List Bx}
/-- What leaves all that stood as it was, and hands back a slice of a new row. -/
theorem post_row (hS : SInv g W S) (hc : ∀ b, (g.O b).calm) (hB : Below W.heap.size W W') {A : Nat} (hA : W.heap.size ≤ A) {cur : Array Value} {ty : TypeId} (hr : W'.heap[A]? = some (.cells cur ty (0, 0)))
    {sz : Nat} {es : List AV} {cap : Nat} (hcap : es.length ≤ cap) {ms : List Value} (hms : ∀ (j : Nat) v, ms[j]? = some v → cur[j]? = some v) (hE : ∀ g' W', RE g' W' sz es ms) :
    Post g W (.ret (.slice sz es) none) S (.returned (.slice (some ⟨A, 0, none⟩) es.length cap)) W' := by
  have h0 := hS.fresh A hA
  have hlt : A < W'.heap.size := lt_of_heap hr
  have hE1 := ext_below hS hB
  have hne : ∀ b, b < W.heap.size → b ≠ A := fun b hb e => by omega
  have ext : Ext g W { g with T := upd g.T A ms.length } W' := by
    refine ⟨⟨fun b => ?_, fun b o ho => hE1.cell b o ho, fun _ _ h => h⟩, hB.size, hB.os, hB.tape, hB.output, fun b hb => ?_⟩
    · by_cases e : b = A
      · subst e; simp [h0.1]
      · simp [upd_other _ _ _ _ e]
    · have e : b ≠ A := fun e => by subst e; rw [h0.2] at hb; cases hb
      obtain ⟨h1, h2, h3⟩ := hE1.ext b hb
      exact ⟨h1, h2, by simp [upd_other _ _ _ _ e]⟩
  have hS' : SInv { g with T := upd g.T A ms.length } W' S := by
    refine ⟨hS.len, fun i x hx => ?_, fun b hb => ?_⟩
    · obtain ⟨b, h1, h2⟩ := hS.box i x hx
      exact ⟨b, h1, h2.keep ext.toKeeps fun b hb _ => ⟨hB.block b hb, rfl, by simp [upd_other _ _ _ _ (hne b hb)]⟩⟩
    · have e : b ≠ A := fun e => by omega
      have := hS.fresh b (Nat.le_trans hB.size hb)
      exact ⟨by simp [upd_other _ _ _ _ e, this.1], this.2⟩
  refine ⟨_, ext, hS', fun b => calm_calmR (hc b), _, rfl, RV_slice_mk hcap (.inr ⟨A, 0, ms, rfl, ?_, ?_, hE _ _⟩), fun te h => by cases h⟩
  · intro j v hj
    rw [cell_of_row W' A (0 + j) cur ty (0, 0) hr, Nat.zero_add]
    exact hms j v hj
  · simp [upd_same]
end

/-! ### strings.Fields -/
def strAV (l : List (List UInt8)) : List AV := l.map fun x => .str ⟨x.toArray⟩
def fieldsF (l : List UInt8) : List (List UInt8) := if l.all (fun b => decide (b.toNat < 128)) then Lib.fields l else Lib.fieldsD l
def xFields (args : List AV) (S : List Bx) : Option (AEnd × List Bx) :=
  match args with
  | [.str s] => if s.size < 4294967281 then some (.ret (.slice 1 (strAV (fieldsF s.data.toList))) none, S) else none
  | _ => none
theorem RE_strs {g : Gh} {W : World} : ∀ (l : List (List UInt8)), RE g W 1 (strAV l) (l.map fun x => Value.string ⟨x.toArray⟩)
  | [] => by simp [strAV, RE]
  | x :: l => by
    simp only [strAV, List.map_cons, RE]
    exact ⟨[.string ⟨x.toArray⟩], _, rfl, rfl, ⟨rfl, by simp [R]⟩, RE_strs l⟩
theorem ext_fields {P : Program} {W0 : World} {f : FuncId} (hc : Callable P f)
    (hI : ∀ (s : ByteArray) (w : World), s.size < 4294967281 → (∀ b, b < W0.heap.size → w.heap[b]? = W0.heap[b]?) →
      Calls P f #[.string s] w fun e w' => ∃ A cur ty cap, e = .returned (.slice (some ⟨A, 0, none⟩) (fieldsF s.data.toList).length cap) ∧ w.heap.size ≤ A ∧ (fieldsF s.data.toList).length ≤ cap ∧ w'.heap[A]? = some (.cells cur ty (0, 0)) ∧
        (∀ (j : Nat) v, ((fieldsF s.data.toList).map fun x => Value.string ⟨x.toArray⟩)[j]? = some v → cur[j]? = some v) ∧ Below w.heap.size w w') :
    SoundFun P W0 f xFields := by
  intro args S e S' h
  refine ⟨hc, fun g W vs hB hT hS hcalm => ?_⟩
  unfold xFields at h
  split at h
  · rename_i s
    split at h
    · rename_i hb
      simp only [Option.some.injEq, Prod.mk.injEq] at h
      obtain ⟨rfl, rfl⟩ := h
      obtain ⟨l⟩ := vs
      simp only [RT] at hT
      obtain ⟨v1, r1, hl, hv1, rfl⟩ := hT
      subst hl
      obtain rfl := RV_str.1 hv1
      refine (hI s W hb fun b hbb => (hB.ext b hbb).2).mono fun e w' hh => ?_
      obtain ⟨A, cur, ty, cap, rfl, hA, hcap, hrow, hms, hbel⟩ := hh
      have := post_row (sz := 1) (es := strAV (fieldsF s.data.toList)) (cap := cap) hS hcalm hbel hA hrow (by simpa [strAV] using hcap) hms (fun _ _ => RE_strs _)
      simpa [strAV] using this
    · cases h
  · cases h

/-! ### strconv.Atoi, strconv.ParseInt to the base 10: an error is a pointer to something -/
def atoiA (t : Nat) (s : ByteArray) : AV :=
  match Lib.atoiAll s.data.toList with
  | .ok v => .tuple [.int .i64 v, .niliface]
  | Lib.NumEnd.syntax => .tuple [.int .i64 0, .iface t (.sptr [])]
  | .range => .tuple [.int .i64 (Lib.atoiSat s.data.toList), .iface t (.sptr [])]
def xAtoi (t : Nat) (args : List AV) (S : List Bx) : Option (AEnd × List Bx) :=
  match args with
  | [.str s] => if s.size ≤ 281474976710656 then some (.ret (atoiA t s) none, S) else none
  | _ => none
def xParseInt (t : Nat) (args : List AV) (S : List Bx) : Option (AEnd × List Bx) :=
  match args with
  | [.str s, .int .i64 b, .int .i64 c] => if s.size ≤ 281474976710656 ∧ b = 10 ∧ c = 64 then some (.ret (atoiA t s) none, S) else none
  | _ => none
def atoiEnd (t : Nat) (s : ByteArray) (e : Ending) : Prop :=
  match Lib.atoiAll s.data.toList with
  | .ok v => e = .returned (.tuple #[.int .i64 v, .nilIface])
  | Lib.NumEnd.syntax => ∃ N, e = .returned (.tuple #[.int .i64 0, .iface t (.pointer (some ⟨N, 0, none⟩))])
  | .range => ∃ N, e = .returned (.tuple #[.int .i64 (Lib.atoiSat s.data.toList), .iface t (.pointer (some ⟨N, 0, none⟩))])
theorem RV_num_ok {g : Gh} {W : World} (v : Int) : RV g W (.tuple [.int .i64 v, .niliface]) (.tuple #[.int .i64 v, .nilIface]) :=
  ⟨by simp only [Value.cells, R, RT]; exact ⟨_, rfl, _, _, rfl, ⟨by simp [Value.cells, R], rfl⟩, _, _, rfl, ⟨by simp [Value.cells, R], rfl⟩, rfl⟩, rfl⟩
theorem RV_num_err {g : Gh} {W : World} (v : Int) (t N : Nat) : RV g W (.tuple [.int .i64 v, .iface t (.sptr [])]) (.tuple #[.int .i64 v, .iface t (.pointer (some ⟨N, 0, none⟩))]) := by
  refine ⟨?_, rfl⟩
  simp only [Value.cells, R, RT]
  refine ⟨_, rfl, _, _, rfl, ⟨by simp [Value.cells, R], rfl⟩, _, _, rfl, ⟨?_, rfl⟩, rfl⟩
  simp only [Value.cells, R]
  refine ⟨_, rfl, ?_, rfl⟩
  simp only [Value.cells, R]
  exact ⟨N, 0, [], rfl, fun j v h => by simp at h, by simp, by simp [RL]⟩
theorem post_atoi {g : Gh} {W W' : World} {S : List Bx} (hS : SInv g W S) (hc : ∀ b, (g.O b).calm) (hB : Below W.heap.size W W') {t : Nat} {s : ByteArray} {e : Ending} (h : atoiEnd t s e) : Post g W (.ret (atoiA t s) none) S e W' := by
  unfold atoiEnd at h
  unfold atoiA
  split at h
  · subst h; exact post_below hS hc hB (RV_num_ok _)
  · obtain ⟨N, rfl⟩ := h; exact post_below hS hc hB (RV_num_err _ _ _)
  · obtain ⟨N, rfl⟩ := h; exact post_below hS hc hB (RV_num_err _ _ _)
theorem ext_atoi {P : Program} {W0 : World} {f : FuncId} {t : Nat} (hc : Callable P f)
    (hI : ∀ (s : ByteArray) (w : World), s.size ≤ 281474976710656 → (∀ b, b < W0.heap.size → w.heap[b]? = W0.heap[b]?) → Calls P f #[.string s] w fun e w' => atoiEnd t s e ∧ Below w.heap.size w w') :
    SoundFun P W0 f (xAtoi t) := by
  intro args S e S' h
  refine ⟨hc, fun g W vs hB hT hS hcalm => ?_⟩
  unfold xAtoi at h
  split at h
  · rename_i s
    split at h
    · rename_i hb
      simp only [Option.some.injEq, Prod.mk.injEq] at h
      obtain ⟨rfl, rfl⟩ := h
      obtain ⟨l⟩ := vs
      simp only [RT] at hT
      obtain ⟨v1, r1, hl, hv1, rfl⟩ := hT
      subst hl
      obtain rfl := RV_str.1 hv1
      refine (hI s W hb fun b hbb => (hB.ext b hbb).2).mono fun e w' hh => ?_
      exact post_atoi hS hcalm hh.2 hh.1
    · cases h
  · cases h
theorem ext_parseInt {P : Program} {W0 : World} {f : FuncId} {t : Nat} (hc : Callable P f)
    (hI : ∀ (s : ByteArray) (w : World), s.size ≤ 281474976710656 → (∀ b, b < W0.heap.size → w.heap[b]? = W0.heap[b]?) → Calls P f #[.string s, .int .i64 10, .int .i64 64] w fun e w' => atoiEnd t s e ∧ Below w.heap.size w w') :
    SoundFun P W0 f (xParseInt t) := by
  intro args S e S' h
  refine ⟨hc, fun g W vs hB hT hS hcalm => ?_⟩
  unfold xParseInt at h
  split at h
  · rename_i s b c
    split at h
    · rename_i hb
      obtain ⟨hb, rfl, rfl⟩ := hb
      simp only [Option.some.injEq, Prod.mk.injEq] at h
      obtain ⟨rfl, rfl⟩ := h
      obtain ⟨l⟩ := vs
      simp only [RT] at hT
      obtain ⟨v1, r1, hl, hv1, v2, r2, rfl, hv2, v3, r3, rfl, hv3, rfl⟩ := hT
      subst hl
      obtain rfl := RV_str.1 hv1
      obtain rfl := RV_int.1 hv2
      obtain rfl := RV_int.1 hv3
      refine (hI s W hb fun b hbb => (hB.ext b hbb).2).mono fun e w' hh => ?_
      exact post_atoi hS hcalm hh.2 hh.1
    · cases h
  · cases h
end Go.Av

/- strings.Map at the mapping to small letters, on ASCII. -/
set_option linter.unusedVariables false
set_option linter.unusedSimpArgs false
namespace Go.Av
open Go Go.RowKit

def lowR (c : UInt8) : UInt8 := if 65 ≤ c.toNat ∧ c.toNat ≤ 90 then UInt8.ofNat (c.toNat + 32) else c
def xMapS (g : Nat) (args : List AV) (S : List Bx) : Option (AEnd × List Bx) :=
  match args with
  | [.clos (.func f) [] [], .str s] => if f = g ∧ s.size ≤ 1000000 ∧ s.data.toList.all (fun b => decide (b.toNat < 128)) = true then some (.ret (.str ⟨(s.data.toList.map lowR).toArray⟩) none, S) else none
  | _ => none
theorem ext_map {P : Program} {W0 : World} {f g : Nat} (hc : Callable P f)
    (hI : ∀ (s : ByteArray) (w : World), s.size ≤ 1000000 → (∀ b ∈ s.data.toList, b.toNat < 128) → Below W0.heap.size W0 w →
      Calls P f #[.func (.func g) #[] #[], .string s] w fun e w' => e = .returned (.string ⟨(s.data.toList.map lowR).toArray⟩) ∧ Below w.heap.size w w') :
    SoundFun P W0 f (xMapS g) := by
  intro args S e S' h
  refine ⟨hc, fun gh W vs hB hT hS hcalm => ?_⟩
  unfold xMapS at h
  split at h
  · rename_i f' s
    split at h
    · rename_i hb
      obtain ⟨rfl, h1, h2⟩ := hb
      simp only [Option.some.injEq, Prod.mk.injEq] at h
      obtain ⟨rfl, rfl⟩ := h
      obtain ⟨l⟩ := vs
      simp only [RT] at hT
      obtain ⟨v1, r1, hl, ⟨hv1, ha1⟩, v2, r2, rfl, hv2, rfl⟩ := hT
      subst hl
      obtain rfl := RV_str.1 hv2
      simp only [R, RT] at hv1
      obtain ⟨a, c, e1, e2, e3⟩ := hv1
      have : v1 = .func (.func f') #[] #[] := by
        have ea : a = #[] := Array.toList_eq_nil_iff.1 e2
        have ec : c = #[] := Array.toList_eq_nil_iff.1 e3
        subst ea ec
        cases v1 <;> simp_all [Value.cells, AV.isAgg, vAgg]
      subst this
      refine (hI s W h1 (fun b hb => ?_) ⟨hB.os, hB.tape, hB.output, hB.size, fun k hk => (hB.ext k hk).2⟩).mono fun e w' hh => ?_
      · have := List.all_eq_true.1 h2 b hb
        simpa using this
      · obtain ⟨rfl, hbel⟩ := hh
        exact post_str hS hcalm hbel _
    · cases h
  · cases h

/-- The mapping on runes. -/
def lowI (x : Int) : Int := let n := (x % 256).toNat; if 65 ≤ n ∧ n ≤ 90 then (n : Int) + 32 else (n : Int)
theorem mapD_low : ∀ (l : List UInt8), (∀ b ∈ l, b.toNat < 128) → Lib.mapD lowI l = l.map lowR
  | [], _ => rfl
  | c :: l, h => by
    have hc := h c (.head _)
    have hd := Lib.decodeL_ascii c l hc
    rw [Lib.mapD_step lowI _ (by simp), hd]
    simp only [List.drop_one, List.tail_cons, List.map_cons]
    rw [mapD_low l fun b hb => h b (.tail _ hb)]
    have e : ((c.toNat : Int) % 256).toNat = c.toNat := by omega
    have e1 : lowI (c.toNat : Int) = ((lowR c).toNat : Int) := by
      unfold lowI lowR
      simp only [e]
      split
      · have : (UInt8.ofNat (c.toNat + 32)).toNat = c.toNat + 32 := by simp [UInt8.toNat_ofNat']; omega
        rw [this]; omega
      · rfl
    have e2 : (lowR c).toNat < 128 := by
      unfold lowR
      split
      · have : (UInt8.ofNat (c.toNat + 32)).toNat = c.toNat + 32 := by simp [UInt8.toNat_ofNat']; omega
        omega
      · exact hc
    rw [e1, if_pos (by omega)]
    unfold Lib.encodeRune
    rw [Lib.encodeRuneZ_one (by omega) (by omega)]
    simp
theorem lowI_range (x : Nat) : -2147483648 ≤ lowI x ∧ lowI x ≤ 2147483647 := by
  unfold lowI
  simp only
  split <;> omega
end Go.Av

/- A function's code, carried out with what is to come behind it on a stack: the form in which one simplification walks through a function. -/
set_option linter.unusedVariables false
set_option linter.unusedSimpArgs false
namespace Go.Av
open Go

/-- What is to come behind a piece of code. -/
inductive KF where
  | seq (c : ACode)
  | blk (id : Nat)
  | ops (os : List AOper) (q : Bool) (live locs : List Nat)
  | skp (q : Bool) (live locs : List Nat)
  | fin (res : List ARes) (kb : Nat) (S : List Bx)

noncomputable def qrec (rec : Rec) (q : Bool) : Rec := if q then rec.quiet else rec

/-- The end of a function. -/
noncomputable def kfin (res : List ARes) (kb : Nat) (S : List Bx) : AEx → St → Option (AEx × St)
  | x, s => some (x, s)

/-- What comes behind. -/
noncomputable def kret (rec : Rec) : List KF → AEx → St → Option (AEx × St)
  | [], x, s => some (x, s)
  | .seq c :: ks, x, s => match x with
    | .normal => (match acode rec c s with | some (y, t) => kret rec ks y t | none => none)
    | x => kret rec ks x s
  | .blk id :: ks, x, s => match x with
    | .exit id' => if id' = id then kret rec ks .normal s else kret rec ks (.exit id') s
    | x => kret rec ks x s
  | .ops os q live locs :: ks, x, s => match x with
    | .normal => (match aops (qrec rec q) os s with
      | some (.normal, t) => kret rec ks .normal (t.keep live locs)
      | some (y, t) => kret rec ks y t
      | none => none)
    | x => kret rec ks x s
  | .skp q live locs :: ks, x, s => kret rec ks x s
  | .fin res kb S :: ks, x, s => kret rec ks x s

noncomputable def kbind (rec : Rec) (o : Option (AEx × St)) (ks : List KF) : Option (AEx × St) := match o with
  | some (x, s) => kret rec ks x s
  | none => none
noncomputable def kgo (rec : Rec) (c : ACode) (st : St) (ks : List KF) : Option (AEx × St) := kbind rec (acode rec c st) ks
noncomputable def kops (rec : Rec) (q : Bool) (os : List AOper) (st : St) (live locs : List Nat) (ks : List KF) : Option (AEx × St) := kret rec (.ops os q live locs :: ks) .normal st
noncomputable def kop (rec : Rec) (q : Bool) (o : AOp) (st : St) (ks : List KF) : Option (AEx × St) := kbind rec (aop (qrec rec q) st o) ks
noncomputable def kpure (rec : Rec) (s : Option SV) (d : Nat) (st : St) (ks : List KF) : Option (AEx × St) := match s with
  | some s => kret rec ks .normal (st.put d s)
  | none => none

theorem acode_k (rec : Rec) (c : ACode) (st : St) : acode rec c st = kgo rec c st [] := by
  unfold kgo kbind
  cases acode rec c st with
  | none => rfl
  | some p => rfl

def Slots.bset : Slots → Nat → Bool → Slots
  | [], _, _ => []
  | (j, x) :: r, k, t => if j = k then (j, .v (.bool t)) :: r else (j, x) :: Slots.bset r k t
section
variable (rec : Rec) (ks : List KF) (st : St)
noncomputable def kgd (q : Bool) (o : AOp) (want b : Bool) (blk : Option Nat) (os : List AOper) (l lo : List Nat) : Option (AEx × St) :=
  if b = want then (if blkOk st { op := o, gd := none, blk := blk } = true then kop rec q o st (.ops os q l lo :: ks) else none)
  else (match o.dst with | some d => kret rec (.ops os q l lo :: ks) .normal (st.put d .undef) | none => kret rec (.ops os q l lo :: ks) .normal st)
theorem kret_nil (x : AEx) : kret rec [] x st = some (x, st) := rfl
theorem kret_seq (c : ACode) : kret rec (.seq c :: ks) .normal st = kgo rec c st ks := rfl
theorem kret_seq_ret (c : ACode) : kret rec (.seq c :: ks) .ret st = kret rec ks .ret st := rfl
theorem kret_seq_exit (c : ACode) (i : Nat) : kret rec (.seq c :: ks) (.exit i) st = kret rec ks (.exit i) st := rfl
theorem kret_seq_panic (c : ACode) (v : AV) : kret rec (.seq c :: ks) (.panic v) st = kret rec ks (.panic v) st := rfl
theorem kret_blk (i : Nat) : kret rec (.blk i :: ks) .normal st = kret rec ks .normal st := rfl
theorem kret_blk_ret (i : Nat) : kret rec (.blk i :: ks) .ret st = kret rec ks .ret st := rfl
theorem kret_blk_panic (i : Nat) (v : AV) : kret rec (.blk i :: ks) (.panic v) st = kret rec ks (.panic v) st := rfl
theorem kret_blk_exit (i j : Nat) : kret rec (.blk i :: ks) (.exit j) st = if j = i then kret rec ks .normal st else kret rec ks (.exit j) st := rfl
theorem kret_ops (os : List AOper) (q : Bool) (l lo : List Nat) : kret rec (.ops os q l lo :: ks) .normal st = kops rec q os st l lo ks := rfl
theorem kret_ops_panic (os : List AOper) (q : Bool) (l lo : List Nat) (v : AV) : kret rec (.ops os q l lo :: ks) (.panic v) st = kret rec ks (.panic v) st := rfl

theorem kgo_skip (l lo : List Nat) : kgo rec (.skip l lo) st ks = kret rec ks .normal (st.keep l lo) := rfl
theorem kgo_exit (i : Nat) (l lo : List Nat) : kgo rec (.exit i l lo) st ks = kret rec ks (.exit i) (st.keep l lo) := rfl
theorem kgo_ret : kgo rec .ret st ks = kret rec ks .ret st := rfl
theorem kgo_label : kgo rec .label st ks = kret rec ks .normal st := rfl
theorem kgo_scope (c : ACode) : kgo rec (.scope c) st ks = kgo rec c st ks := rfl
theorem kgo_seq (a b : ACode) : kgo rec (.seq a b) st ks = kgo rec a st (.seq b :: ks) := by
  unfold kgo
  simp only [acode]
  cases h : acode rec a st with
  | none => rfl
  | some p =>
    obtain ⟨x, s⟩ := p
    cases x with
    | normal => rfl
    | _ => rfl
theorem kgo_cond (c : Opd) (a b : ACode) : kgo rec (.cond c a b) st ks = match st.av c with
    | some (.bool t) => if t = true then kgo rec a st ks else kgo rec b st ks
    | _ => none := by
  unfold kgo
  simp only [acode]
  cases h : st.av c with
  | none => rfl
  | some a =>
    cases a with
    | bool t => cases t <;> rfl
    | _ => rfl
theorem kgo_block (i : Nat) (c : ACode) : kgo rec (.block i c) st ks = kgo rec c st (.blk i :: ks) := by
  unfold kgo
  simp only [acode]
  cases h : acode rec c st with
  | none => rfl
  | some p =>
    obtain ⟨x, s⟩ := p
    cases x with
    | exit j =>
      simp only [kbind, kret]
      by_cases hj : j = i
      · simp only [hj, if_true, normal]
      · simp only [hj, if_false]
    | _ => rfl
theorem kgo_loop (c : ACode) : kgo rec (.loop c) st ks = kbind rec (aloopW (acode rec c) st) ks := rfl
theorem kgo_freeze (d : Nat) (c : ACode) : kgo rec (.freeze d c) st ks = match st.freeze d with
    | some st' => kgo rec c st' ks
    | none => none := by
  unfold kgo
  simp only [acode]
  cases st.freeze d <;> rfl
theorem kgo_region (os : List AOper) (bs : Option (List Nat)) (q : Bool) (l lo : List Nat) : kgo rec (.region os bs q l lo) st ks = kops rec q os (if bs.isSome = true then st.prep os else st) l lo ks := by
  unfold kgo kops
  simp only [acode, kret, qrec, kbind]
  cases h : aops (if q = true then rec.quiet else rec) os (if bs.isSome = true then st.prep os else st) with
  | none => simp
  | some p =>
    obtain ⟨x, s⟩ := p
    cases x <;> rfl
theorem kops_nil (q : Bool) (l lo : List Nat) : kops rec q [] st l lo ks = kret rec ks .normal (st.keep l lo) := rfl
theorem kops_cons_aux (q : Bool) (o : AOper) (os : List AOper) (l lo : List Nat) : kops rec q (o :: os) st l lo ks = kbind rec (aoper (qrec rec q) st o) (.ops os q l lo :: ks) := by
  simp only [kops, kret, aops]
  cases h : aoper (qrec rec q) st o with
  | none => rfl
  | some p =>
    obtain ⟨x, s⟩ := p
    cases x <;> rfl
theorem kbind_none : kbind rec none ks = none := rfl
theorem kbind_some (x : AEx) : kbind rec (some (x, st)) ks = kret rec ks x st := rfl
theorem kbind_normal : kbind rec (normal st) ks = kret rec ks .normal st := rfl
theorem kbind_ite (c : Prop) [Decidable c] (a b : Option (AEx × St)) : kbind rec (if c then a else b) ks = if c then kbind rec a ks else kbind rec b ks := by split <;> rfl
/-- An operation without a guard, whose block isn't looked at. -/
theorem kops_cons (q : Bool) (o : AOp) (blk : Option Nat) (os : List AOper) (l lo : List Nat) : kops rec q ({ op := o, gd := none, blk := blk } :: os) st l lo ks =
    if blkOk st { op := o, gd := none, blk := blk } = true then kop rec q o st (.ops os q l lo :: ks) else none := by
  rw [kops_cons_aux]
  simp only [aoper, aopB, kop]
  rw [kbind_ite]
  rfl
theorem kops_gd_aux (q : Bool) (o : AOp) (k : Nat) (want : Bool) (blk : Option Nat) (os : List AOper) (l lo : List Nat) : kops rec q ({ op := o, gd := some (k, want), blk := blk } :: os) st l lo ks =
    match st.σ.get k with
    | .v (.bool b) => if b = want then (if blkOk st { op := o, gd := some (k, want), blk := blk } = true then kop rec q o st (.ops os q l lo :: ks) else none)
        else (match o.dst with | some d => kret rec (.ops os q l lo :: ks) .normal (st.put d .undef) | none => kret rec (.ops os q l lo :: ks) .normal st)
    | .undef => (match o.dst with | some d => kret rec (.ops os q l lo :: ks) .normal (st.put d .undef) | none => kret rec (.ops os q l lo :: ks) .normal st)
    | _ => none := by
  rw [kops_cons_aux]
  simp only [aoper]
  cases h : st.σ.get k with
  | v a =>
    cases a with
    | bool b =>
      simp only []
      rw [kbind_ite]
      by_cases hb : b = want
      · simp only [hb, if_true, aopB, kop]
        rw [kbind_ite]
        rfl
      · simp only [hb, if_false]
        cases o.dst <;> rfl
    | _ => rfl
  | undef =>
    simp only []
    cases o.dst <;> rfl
  | _ => rfl
/-- What isn't carried out. -/
noncomputable def kskip (q : Bool) (d : Option Nat) (os : List AOper) (l lo : List Nat) : Option (AEx × St) := match d with
  | some d => kret rec (.ops os q l lo :: ks) .normal (st.put d .undef)
  | none => kret rec (.ops os q l lo :: ks) .normal st
theorem kskip_some (q : Bool) (d : Nat) (os : List AOper) (l lo : List Nat) : kskip rec ks st q (some d) os l lo = kret rec (.ops os q l lo :: ks) .normal (st.put d .undef) := rfl
theorem kskip_none (q : Bool) (os : List AOper) (l lo : List Nat) : kskip rec ks st q none os l lo = kret rec (.ops os q l lo :: ks) .normal st := rfl
theorem Slots.bset_same {t : Bool} : ∀ {s : Slots} {k : Nat}, s.get k = .v (.bool t) → s.bset k t = s
  | [], k, h => rfl
  | (j, x) :: r, k, h => by
    simp only [Slots.get] at h
    simp only [Slots.bset]
    split
    · rename_i e
      rw [if_pos e] at h
      rw [h]
    · rename_i e
      rw [if_neg e] at h
      rw [Slots.bset_same h]
/-- A guarded operation: the guard is decided once, and known from there on. -/
theorem kops_gd (q : Bool) (o : AOp) (k : Nat) (want : Bool) (blk : Option Nat) (os : List AOper) (l lo : List Nat) : kops rec q ({ op := o, gd := some (k, want), blk := blk } :: os) st l lo ks =
    match st.σ.get k with
    | .v (.bool b) => if b = true then kgd rec ks { st with σ := st.σ.bset k true } q o want true blk os l lo else kgd rec ks { st with σ := st.σ.bset k false } q o want false blk os l lo
    | .undef => kskip rec ks st q o.dst os l lo
    | _ => none := by
  rw [kops_gd_aux]
  cases h : st.σ.get k with
  | v a =>
    cases a with
    | bool b =>
      simp only []
      cases b with
      | false =>
        rw [Slots.bset_same h]
        simp only [kgd]
        cases want <;> rfl
      | true =>
        rw [Slots.bset_same h]
        simp only [kgd]
        cases want <;> rfl
    | _ => rfl
  | _ => rfl
theorem kpure_some (s : SV) (d : Nat) : kpure rec (some s) d st ks = kret rec ks .normal (st.put d s) := rfl
theorem kpure_none (d : Nat) : kpure rec none d st ks = none := rfl
theorem kpure_ite (c : Prop) [Decidable c] (a b : Option SV) (d : Nat) : kpure rec (if c then a else b) d st ks = if c then kpure rec a d st ks else kpure rec b d st ks := by split <;> rfl
theorem kop_pure {q : Bool} {o : AOp} {d : Nat} (hd : o.dst = some d) (h : aop (qrec rec q) st o = match apure st o, o.dst with
    | some s, some d => normal (st.put d s)
    | _, _ => none) : kop rec q o st ks = kpure rec (apure st o) d st ks := by
  unfold kop
  rw [h, hd]
  cases apure st o <;> rfl
theorem kop_pick (q : Bool) {d c a b} : kop rec q (.pick d c a b) st ks = kpure rec (apure st (.pick d c a b)) d st ks := kop_pure rec ks st rfl rfl
theorem kop_load (q : Bool) {d n ag x} : kop rec q (.load d n ag x) st ks = kpure rec (apure st (.load d n ag x)) d st ks := kop_pure rec ks st rfl rfl
theorem kop_bin (q : Bool) {d op x y} : kop rec q (.bin d op x y) st ks = kpure rec (apure st (.bin d op x y)) d st ks := kop_pure rec ks st rfl rfl
theorem kop_eqb (q : Bool) {d neg x y} : kop rec q (.eqb d neg x y) st ks = kpure rec (apure st (.eqb d neg x y)) d st ks := kop_pure rec ks st rfl rfl
theorem kop_un (q : Bool) {d op x} : kop rec q (.un d op x) st ks = kpure rec (apure st (.un d op x)) d st ks := kop_pure rec ks st rfl rfl
theorem kop_convI (q : Bool) {d k x} : kop rec q (.convI d k x) st ks = kpure rec (apure st (.convI d k x)) d st ks := kop_pure rec ks st rfl rfl
theorem kop_convB (q : Bool) {d x} : kop rec q (.convB d x) st ks = kpure rec (apure st (.convB d x)) d st ks := kop_pure rec ks st rfl rfl
theorem kop_convS (q : Bool) {d x} : kop rec q (.convS d x) st ks = kpure rec (apure st (.convS d x)) d st ks := kop_pure rec ks st rfl rfl
theorem kop_mkfn (q : Bool) {d fn first caps} : kop rec q (.mkfn d fn first caps) st ks = kpure rec (apure st (.mkfn d fn first caps)) d st ks := kop_pure rec ks st rfl rfl
theorem kop_extract (q : Bool) {d x j} : kop rec q (.extract d x j) st ks = kpure rec (apure st (.extract d x j)) d st ks := kop_pure rec ks st rfl rfl
theorem kop_field (q : Bool) {d off n ag x} : kop rec q (.field d off n ag x) st ks = kpure rec (apure st (.field d off n ag x)) d st ks := kop_pure rec ks st rfl rfl
theorem kop_faddr (q : Bool) {d off x} : kop rec q (.faddr d off x) st ks = kpure rec (apure st (.faddr d off x)) d st ks := kop_pure rec ks st rfl rfl
theorem kop_iaddrA (q : Bool) {d len sz x i} : kop rec q (.iaddrA d len sz x i) st ks = kpure rec (apure st (.iaddrA d len sz x i)) d st ks := kop_pure rec ks st rfl rfl
theorem kop_iaddrS (q : Bool) {d sz x i} : kop rec q (.iaddrS d sz x i) st ks = kpure rec (apure st (.iaddrS d sz x i)) d st ks := kop_pure rec ks st rfl rfl
theorem kop_idxS (q : Bool) {d x i} : kop rec q (.idxS d x i) st ks = kpure rec (apure st (.idxS d x i)) d st ks := kop_pure rec ks st rfl rfl
theorem kop_idxA (q : Bool) {d len sz ag x i} : kop rec q (.idxA d len sz ag x i) st ks = kpure rec (apure st (.idxA d len sz ag x i)) d st ks := kop_pure rec ks st rfl rfl
theorem kop_slice (q : Bool) {d sz x lo hi} : kop rec q (.slice d sz x lo hi) st ks = kpure rec (apure st (.slice d sz x lo hi)) d st ks := kop_pure rec ks st rfl rfl
theorem kop_sliceS (q : Bool) {d x lo hi} : kop rec q (.sliceS d x lo hi) st ks = kpure rec (apure st (.sliceS d x lo hi)) d st ks := kop_pure rec ks st rfl rfl
theorem kop_sliceA (q : Bool) {d len sz ag x lo hi} : kop rec q (.sliceA d len sz ag x lo hi) st ks = kpure rec (apure st (.sliceA d len sz ag x lo hi)) d st ks := kop_pure rec ks st rfl rfl
theorem kop_build (q : Bool) {d z parts} : kop rec q (.build d z parts) st ks = kpure rec (apure st (.build d z parts)) d st ks := kop_pure rec ks st rfl rfl
theorem kop_nilchk (q : Bool) {d x} : kop rec q (.nilchk d x) st ks = kpure rec (apure st (.nilchk d x)) d st ks := kop_pure rec ks st rfl rfl
theorem kop_mkif (q : Bool) {d t x} : kop rec q (.mkif d t x) st ks = kpure rec (apure st (.mkif d t x)) d st ks := kop_pure rec ks st rfl rfl
theorem kop_len (q : Bool) {d str x} : kop rec q (.len d str x) st ks = kpure rec (apure st (.len d str x)) d st ks := kop_pure rec ks st rfl rfl
theorem kop_mm (q : Bool) {d mx x y} : kop rec q (.mm d mx x y) st ks = kpure rec (apure st (.mm d mx x y)) d st ks := kop_pure rec ks st rfl rfl
theorem kop_eqnil (q : Bool) {d neg cls x} : kop rec q (.eqnil d neg cls x) st ks = kpure rec (apure st (.eqnil d neg cls x)) d st ks := kop_pure rec ks st rfl rfl
theorem kop_eqagg (q : Bool) {d neg kk x y} : kop rec q (.eqagg d neg kk x y) st ks = kpure rec (apure st (.eqagg d neg kk x y)) d st ks := kop_pure rec ks st rfl rfl

theorem kops_cons0 (q : Bool) (o : AOp) (os : List AOper) (l lo : List Nat) : kops rec q ({ op := o, gd := none, blk := none } :: os) st l lo ks = kop rec q o st (.ops os q l lo :: ks) := by
  rw [kops_cons]; rfl
/-- What a call comes to, and what is behind it. -/
noncomputable def kcall (d : Option Nat) (o : Option (AEnd × List Bx)) : Option (AEx × St) := match o with
  | some (r, S') => kbind rec (afinish d st r S') ks
  | none => none
theorem kcall_some (d : Option Nat) (r : AEnd) (S' : List Bx) : kcall rec ks st d (some (r, S')) = kbind rec (afinish d st r S') ks := rfl
theorem kcall_ite (d : Option Nat) (c : Prop) [Decidable c] (a b : Option (AEnd × List Bx)) : kcall rec ks st d (if c then a else b) = if c then kcall rec ks st d a else kcall rec ks st d b := by split <;> rfl
theorem kop_call (q : Bool) (d : Option Nat) (f : Nat) (xs : List Opd) : kop rec q (.call d f xs) st ks = match st.avs xs with
    | some as => kcall rec ks st d (qrec rec q f as st.S)
    | none => none := by
  unfold kop kcall
  simp only [aop]
  cases st.avs xs with
  | none => rfl
  | some as =>
    simp only []
    cases qrec rec q f as st.S with
    | none => rfl
    | some p => rfl
theorem kop_callv (q : Bool) (d : Option Nat) (c : Opd) (xs : List Opd) : kop rec q (.callv d c xs) st ks = match st.av c, st.avs xs with
    | some (.clos (.func f) first caps), some as => kcall rec ks st d (qrec rec q f (first ++ as ++ caps) st.S)
    | _, _ => none := by
  unfold kop
  simp only [aop]
  split
  · rename_i f first caps as h1 h2
    simp only [h1, h2]
    unfold kcall
    cases qrec rec q f (first ++ as ++ caps) st.S with
    | none => rfl
    | some p => rfl
  · rename_i h
    split
    · rename_i f first caps as h1 h2
      exact absurd h2 (h f first caps as h1)
    · rfl
open Classical in
noncomputable def qfix (o : Option (AEnd × List Bx)) (S : List Bx) : Option (AEnd × List Bx) := match o with
  | some (.ret r own, S') => if S' = S then some (.ret r own, S') else none
  | _ => none
theorem qrec_false (f : Nat) (as : List AV) (S : List Bx) : qrec rec false f as S = rec f as S := rfl
theorem qfix_some (r : AV) (own : Option Nat) (S : List Bx) : qfix (some (.ret r own, S)) S = some (.ret r own, S) := by simp [qfix]
theorem qrec_true (f : Nat) (as : List AV) (S : List Bx) : qrec rec true f as S = qfix (rec f as S) S := by
  rfl
theorem qfix_ite (c : Prop) [Decidable c] (a b : Option (AEnd × List Bx)) (S : List Bx) : qfix (if c then a else b) S = if c then qfix a S else qfix b S := by split <;> rfl
theorem kop_mov (q : Bool) {d x t} : kop rec q (.mov d x t) st ks = kret rec ks .normal (if t = true then st.move d x else st.put d (st.sv x)) := rfl
theorem kop_nils (q : Bool) {d sz e} : kop rec q (.nils d sz e) st ks = kret rec ks .normal ((st.put d (.v (.slice sz []))).right d e) := rfl
theorem kop_box (q : Bool) {d sh x} : kop rec q (.box d sh x) st ks = kbind rec (aop (qrec rec q) st (.box d sh x)) ks := rfl
theorem kop_alloc (q : Bool) {d sh z own} : kop rec q (.alloc d sh z own) st ks = kbind rec (aop (qrec rec q) st (.alloc d sh z own)) ks := rfl
theorem kop_take (q : Bool) {d x} : kop rec q (.take d x) st ks = kbind rec (aop (qrec rec q) st (.take d x)) ks := rfl
theorem kop_store (q : Bool) {x y n t nl} : kop rec q (.store x y n t nl) st ks = kbind rec (aop (qrec rec q) st (.store x y n t nl)) ks := rfl
theorem kop_bslice (q : Bool) {d sz e xs} : kop rec q (.bslice d sz e xs) st ks = kbind rec (aop (qrec rec q) st (.bslice d sz e xs)) ks := rfl
theorem kop_append (q : Bool) {d sz e b x y} : kop rec q (.append d sz e b x y) st ks = kbind rec (aop (qrec rec q) st (.append d sz e b x y)) ks := rfl
theorem kop_make (q : Bool) {d sz e b z n c} : kop rec q (.make d sz e b z n c) st ks = kbind rec (aop (qrec rec q) st (.make d sz e b z n c)) ks := rfl
theorem kop_makeL (q : Bool) {d sz b ag z n c} : kop rec q (.makeL d sz b ag z n c) st ks = kbind rec (aop (qrec rec q) st (.makeL d sz b ag z n c)) ks := rfl
theorem kop_cloneL (q : Bool) {d sz e b ag x y} : kop rec q (.cloneL d sz e b ag x y) st ks = kbind rec (aop (qrec rec q) st (.cloneL d sz e b ag x y)) ks := rfl
theorem kop_makeMap (q : Bool) {d} : kop rec q (.makeMap d) st ks = kbind rec (aop (qrec rec q) st (.makeMap d)) ks := rfl
theorem kop_lookup (q : Bool) {d ok kd z x k} : kop rec q (.lookup d ok kd z x k) st ks = kbind rec (aop (qrec rec q) st (.lookup d ok kd z x k)) ks := rfl
theorem kop_mapUpd (q : Bool) {kd x k v} : kop rec q (.mapUpd kd x k v) st ks = kbind rec (aop (qrec rec q) st (.mapUpd kd x k v)) ks := rfl
theorem kop_panic (q : Bool) {x} : kop rec q (.panic x) st ks = kbind rec (aop (qrec rec q) st (.panic x)) ks := rfl
end
/-- The end of a function. -/
noncomputable def kend (res : List ARes) (kb : Nat) (S : List Bx) (o : Option (AEx × St)) : Option (AEnd × List Bx) := match o with
  | some (.normal, st) | some (.ret, st) => match aresult st res with
    | some (r, own) => aleave kb S st.S (.ret r own)
    | none => none
  | some (.panic v, st) => aleave kb S st.S (.panic v)
  | _ => none
theorem afun_k (rec : Rec) (fn : AFun) (args : List AV) (S : List Bx) : afun rec fn args S = if args.length = fn.n then kend fn.res fn.keepB S (kgo rec fn.body (aenter args S) []) else none := by
  unfold afun kend
  rw [acode_k]
  split
  · cases kgo rec fn.body (aenter args S) [] with
    | none => rfl
    | some p =>
      obtain ⟨x, s⟩ := p
      cases x <;> rfl
  · rfl
theorem kend_none (res : List ARes) (kb : Nat) (S : List Bx) : kend res kb S none = none := rfl
theorem kend_ite (res : List ARes) (kb : Nat) (S : List Bx) (c : Prop) [Decidable c] (a b : Option (AEx × St)) : kend res kb S (if c then a else b) = if c then kend res kb S a else kend res kb S b := by split <;> rfl
noncomputable def kres (kb : Nat) (S S' : List Bx) (o : Option (AV × Option Nat)) : Option (AEnd × List Bx) := match o with
  | some (r, own) => aleave kb S S' (.ret r own)
  | none => none
theorem kres_some (kb : Nat) (S S' : List Bx) (r : AV) (own : Option Nat) : kres kb S S' (some (r, own)) = aleave kb S S' (.ret r own) := rfl
theorem kend_normal (res : List ARes) (kb : Nat) (S : List Bx) (st : St) : kend res kb S (some (.normal, st)) = kres kb S st.S (aresult st res) := rfl
theorem kend_ret (res : List ARes) (kb : Nat) (S : List Bx) (st : St) : kend res kb S (some (.ret, st)) = kres kb S st.S (aresult st res) := rfl
theorem kend_panic (res : List ARes) (kb : Nat) (S : List Bx) (st : St) (v : AV) : kend res kb S (some (.panic v, st)) = aleave kb S st.S (.panic v) := rfl
theorem kleave_same (k : Nat) (S : List Bx) (e : AEnd) : aleave k S S e = some (e, S) := by simp [aleave]
theorem omap_ite {α β : Type} (f : α → β) (c : Prop) [Decidable c] (a b : Option α) : Option.map f (if c then a else b) = if c then Option.map f a else Option.map f b := by split <;> rfl
theorem obind_ite {α β : Type} (f : α → Option β) (c : Prop) [Decidable c] (a b : Option α) : Option.bind (if c then a else b) f = if c then Option.bind a f else Option.bind b f := by split <;> rfl
attribute [simp] afun_k kend_none kend_ite kend_normal kend_ret kend_panic kres_some kleave_same omap_ite obind_ite kret_nil kret_seq kret_seq_ret kret_seq_exit kret_seq_panic kret_blk kret_blk_ret kret_blk_panic kret_blk_exit kret_ops kret_ops_panic kgo_skip kgo_exit kgo_ret kgo_label kgo_scope kgo_seq kgo_cond kgo_block kgo_loop kgo_freeze kgo_region kops_nil kbind_none kbind_some kbind_normal kbind_ite kops_cons0 kops_cons kops_gd kgd kskip_some kskip_none Slots.bset kpure_some kpure_none kpure_ite kop_pick kop_load kop_bin kop_eqb kop_un kop_convI kop_convS kop_convB kop_mkfn kop_extract kop_field kop_faddr kop_iaddrA kop_iaddrS kop_idxS kop_idxA kop_slice kop_sliceS kop_sliceA kop_build kop_nilchk kop_mkif kop_len kop_mm kop_eqnil kop_eqagg kcall_some kcall_ite kop_call kop_callv qrec_false qrec_true qfix_some qfix_ite kop_mov kop_nils kop_box kop_alloc kop_take kop_store kop_bslice kop_append kop_make kop_makeL kop_cloneL kop_makeMap kop_lookup kop_mapUpd kop_panic
attribute [simp] St.cellBox isKeyA lookRes blkOk aop apure aenter St.av St.avs St.sv SV.av Slots.get Slots.set Slots.kill SV.kill St.put St.drop St.right St.move St.keep Slots.keep Locs.keep Locs.get Locs.set rightOf normal AV.isDat AV.cells St.cellsAt aload abin aun AOp.dst AOp.addr aresult ares aresAll afinish List.filter_cons St.freeze Slots.freeze SV.frozen Locs.del isNilAV boundOf astore putCells dropCells nilOk optOwn nilsOf nilsGo isNilSl abuild chunk srcElems St.prep newsOf Slots.killAll AOp.news AV.isAgg eqCells eqCell
end Go.Av

/- What a row lists of variables, as facts. -/
set_option linter.unusedVariables false
namespace Go.Av
open Go

theorem laid_mem {P : Program} {W : World} {n : String} {d : DataW Unit} : ∀ {l : List (String × DataW Unit)} {ps : List MemPlace}, DataW.LaidVars P W l ps → (n, d) ∈ l →
    ∃ g t cs fuel p, P.globalNamed n = some g ∧ (P.globals[g]?).map (·.type) = some t ∧ W.var? P n = some cs ∧ DataW.trod (fun _ => ()) P W 0 (fun _ => true) false fuel t cs.toList = some (d, p)
  | [], _, _, hm => by cases hm
  | (n', d') :: r, ps, h, hm => by
    obtain ⟨g, t, cs, fuel, p, q, h1, h2, h3, h4, h5, _⟩ := h
    rcases List.mem_cons.1 hm with e | hm
    · obtain ⟨rfl, rfl⟩ := Prod.mk.inj e
      exact ⟨g, t, cs, fuel, p, h1, h2, h3, h4⟩
    · exact laid_mem h5 hm
theorem laid_tabIs {P : Program} {W : World} {name : String} {k : IntKind} {zs : List Int} {laid : List (String × DataW Unit)} {g : Nat} {t e : TypeId} {n : Nat}
    (hg : P.globalNamed name = some g) (hty : (P.globals[g]?).map (·.type) = some t) (ht : P.underlying t = some (.array n e)) (he : P.underlying e = some (.int k)) (hce : P.cellsOf e = 1) (hct : P.cellsOf t = n)
    (h : laidMet P laid W) (hm : (name, Lib.tabData k zs) ∈ laid) : Lib.TabIs P W name k zs := by
  obtain ⟨ps, hv, _⟩ := h
  obtain ⟨g', t', cs, fuel, p, hg', ht', hvar, hd⟩ := laid_mem hv hm
  obtain rfl := Option.some.inj (hg.symm.trans hg')
  obtain rfl := Option.some.inj (hty.symm.trans ht')
  unfold Lib.TabIs
  rw [hvar, ← Lib.cells_of_tab ht he hce hct hd]
end Go.Av
