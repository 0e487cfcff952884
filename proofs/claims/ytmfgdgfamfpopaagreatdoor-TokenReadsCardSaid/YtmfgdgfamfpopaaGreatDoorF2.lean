/- Part of a proof: An operation, and a call. -/
import Derived.Test.YtmfgdgfamfpopaaGreatDoorF1
import Derived.Orders
import Derived.LoopN
import Derived.Scope
import Derived.Laws.Sem
import Derived.OpenShut
import Derived.ChangeArms
import Derived.WideShapes
import Derived.ChangeStays
import Derived.ChangeSame
import Derived.RowKit
import Derived.ChangeCalls
import Derived.Below
import Derived.Lib.Join
import Derived.Lib.ItoaNum
import Derived.Lib.AppendIntMem
set_option linter.unusedVariables false
set_option linter.unusedSimpArgs false
set_option linter.unusedSectionVars false
namespace Go.Av
open Go

/-- What stood in the beginning stands, and is nobody's to write. -/
structure Base (W0 : World) (g : Gh) (W : World) : Prop where
  size : W0.heap.size ≤ W.heap.size
  os : W.os = W0.os
  tape : W.tape = W0.tape
  output : W.output = W0.output
  ext : ∀ b, b < W0.heap.size → g.O b = .ext ∧ W.heap[b]? = W0.heap[b]?

theorem Base.ext' {W0 : World} {g g' : Gh} {W W' : World} (h : Base W0 g W) (k : Ext g W g' W') : Base W0 g' W' :=
  ⟨Nat.le_trans h.size k.size, k.os.trans h.os, k.tape.trans h.tape, k.output.trans h.output, fun b hb => by
    obtain ⟨h1, h2⟩ := h.ext b hb
    obtain ⟨k1, k2, _⟩ := k.ext b h1
    exact ⟨k1, k2.trans h2⟩⟩

/-- Owners between calls. -/
def Own.calm : Own → Prop
  | .free | .ext | .box _ | .cell _ _ => True
  | _ => False
def Own.calmR : Own → Prop
  | .free | .ext | .box _ | .cell _ _ | .res _ => True
  | _ => False

def Post (g : Gh) (W : World) (e : AEnd) (S' : List Bx) (e' : Ending) (W' : World) : Prop :=
  ∃ g', Ext g W g' W' ∧ SInv g' W' S' ∧ (∀ b, (g'.O b).calmR) ∧
    match e with
    | .ret r own => ∃ v, e' = .returned v ∧ RV g' W' r v ∧ ∀ te, own = some te → Right g' W' (.res 0) te r v
    | .panic x => ∃ u, e' = .panicked [{ v := u, recovered := false }] ∧ RV g' W' x u

/-- A function that can be called. -/
def Callable (P : Program) (f : FuncId) : Prop := ∃ fn, P.funcs[f]? = some fn ∧ (fn.name == "runtime.NumGoroutine") = false ∧ fn.body.isNone = false

def RecSound (P : Program) (W0 : World) (rec : Rec) : Prop :=
  ∀ f args S e S', rec f args S = some (e, S') → Callable P f ∧
    ∀ g W (vs : Array Value), Base W0 g W → RT g W args vs.toList → SInv g W S → (∀ b, (g.O b).calm) → Calls P f vs W (Post g W e S')

theorem RecSound.quiet {P : Program} {W0 : World} {rec : Rec} (h : RecSound P W0 rec) : RecSound P W0 rec.quiet := by
  intro f args S e S' hr
  unfold Rec.quiet at hr
  split at hr
  · rename_i r own S'' hq
    split at hr
    · simp only [Option.some.injEq, Prod.mk.injEq] at hr
      obtain ⟨rfl, rfl⟩ := hr
      exact h _ _ _ _ _ hq
    · cases hr
  · cases hr

/-- What a callee may not touch. -/
def Own.hide : Own → Own
  | .slot _ | .loc _ | .lcell _ _ | .res _ => .ext
  | o => o
def Own.hidden : Own → Bool
  | .slot _ | .loc _ | .lcell _ _ | .res _ => true
  | _ => false
def Gh.hide (g : Gh) : Gh := { g with O := fun b => (g.O b).hide }
/-- Behind the call: what was the frame's own is so again; a right that comes back is slot d's. -/
def Gh.back (g g' : Gh) (d : Option Nat) : Gh :=
  { g' with O := fun b => if (g.O b).hidden then g.O b else match g'.O b with | .res _ => (match d with | some d => .slot d | none => .free) | o => o }

theorem hide_calm (o : Own) : o.hide.calm := by cases o <;> trivial
theorem hide_hidden {o : Own} (h : o.hidden = true) : o.hide = .ext := by cases o <;> simp_all [Own.hidden, Own.hide]
theorem hide_other {o : Own} (h : o.hidden = false) : o.hide = o := by cases o <;> simp_all [Own.hidden, Own.hide]

section
variable {P : Program} {W0 : World} {g : Gh} {W : World} {a : Act} {N : Nat} {L : Nat → Nat} {st : St}

theorem hide_keeps (g : Gh) (W : World) : Keeps g W g.hide W := ⟨fun _ => Nat.le_refl _, fun _ _ _ => rfl, fun _ _ h => h⟩

theorem SInv.hide (h : SInv g W st.S) : SInv g.hide W st.S := by
  refine ⟨h.len, fun i x hx => ?_, fun b hb => ⟨(h.fresh b hb).1, by simp [Gh.hide, (h.fresh b hb).2, Own.hide]⟩⟩
  obtain ⟨b, h1, h2⟩ := h.box i x hx
  refine ⟨b, h1, h2.keep (hide_keeps g W) fun c hc ho => ⟨rfl, ?_, rfl⟩⟩
  rcases ho with ho | ⟨j, e, _, ho⟩ <;> simp [Gh.hide, ho, Own.hide]

theorem Base.hide (h : Base W0 g W) : Base W0 g.hide W :=
  ⟨h.size, h.os, h.tape, h.output, fun b hb => ⟨by simp [Gh.hide, (h.ext b hb).1, Own.hide], (h.ext b hb).2⟩⟩

/-- Behind a call the frame stands. -/
theorem Inv.back (hi : Inv g W a N L st) {g' : Gh} {W' : World} (hE : Ext g.hide W g' W') {S' : List Bx} (hS : SInv g' W' S') (d : Option Nat) :
    Ext g W (g.back g' d) W' ∧ Inv (g.back g' d) W' a N L { st with S := S' } ∧ Keeps g' W' (g.back g' d) W' ∧ (∀ b, (g.O b).hidden = false → (∀ j, g'.O b ≠ .res j) → (g.back g' d).O b = g'.O b) ∧ (∀ b, (g.O b).hidden = true → g'.O b = .ext) := by
  have hhid : ∀ b, (g.O b).hidden = true → g'.O b = .ext ∧ W'.heap[b]? = W.heap[b]? ∧ g'.T b = g.T b := fun b hb => hE.ext b (hide_hidden hb)
  have hK : Keeps g W (g.back g' d) W' := ⟨hE.T, hE.cell, hE.B⟩
  have hK' : Keeps g' W' (g.back g' d) W' := ⟨fun _ => Nat.le_refl _, fun _ _ _ => rfl, fun _ _ h => h⟩
  have hO : ∀ b, (g.O b).hidden = false → (∀ j, g'.O b ≠ .res j) → (g.back g' d).O b = g'.O b := by
    intro b hb hn
    have hn' : ∀ j, g'.O b ≠ .res j := hn
    unfold Gh.back
    simp only [hb, Bool.false_eq_true, if_false]
  have same : ∀ b, (g.O b).hidden = true → Same g W (g.back g' d) W' b := by
    intro b hb
    obtain ⟨_, h2, h3⟩ := hhid b hb
    exact ⟨h2, by simp [Gh.back, hb], h3⟩
  have hX : Ext g W (g.back g' d) W' := by
    refine ⟨hK, hE.size, hE.os, hE.tape, hE.output, fun b hb => ?_⟩
    obtain ⟨h1, h2, h3⟩ := hE.ext b (by simp [Gh.hide, hb, Own.hide])
    exact ⟨(hO b (by simp [hb, Own.hidden]) (by simp [h1])).trans h1, h2, h3⟩
  refine ⟨hX, ⟨hi.size, fun k => (hi.slot k).keep hK, fun k e hk => ?_, fun d' x hx => (hi.loc d' x hx).keep hK fun b hb ho => same b ?_, ?_⟩, hK', hO, fun b hb => (hhid b hb).1⟩
  · obtain ⟨x, h1, h2⟩ := hi.own k e hk
    exact ⟨x, h1, h2.keep fun b hb ho => same b (by rw [ho]; rfl)⟩
  · rcases ho with ho | ⟨j, e, _, ho⟩ <;> rw [ho] <;> rfl
  · refine ⟨hS.len, fun i x hx => ?_, fun b hb => ?_⟩
    · obtain ⟨b, h1, h2⟩ := hS.box i x hx
      refine ⟨b, h1, h2.keep hK' fun c hc ho => ⟨rfl, hO c ?_ ?_, rfl⟩⟩
      · cases hh : (g.O c).hidden with
        | false => rfl
        | true =>
          rw [(hhid c hh).1] at ho
          rcases ho with ho | ⟨_, _, _, ho⟩ <;> cases ho
      · intro j hj
        rw [hj] at ho
        rcases ho with ho | ⟨_, _, _, ho⟩ <;> cases ho
    · obtain ⟨h1, h2⟩ := hS.fresh b hb
      refine ⟨h1, ?_⟩
      have hg := hi.sh.fresh b (Nat.le_trans hE.size hb)
      rw [hO b (by simp [hg.2, Own.hidden]) (by simp [h2]), h2]

theorem call_wp (hi : Inv g W a N L st) (hB : Base W0 g W) {rec : Rec} (hrec : RecSound P W0 rec) (o : Oper) {f : FuncId} {args : List AV} {vs : Array Value} {e : AEnd} {S' : List Bx} (hr : rec f args st.S = some (e, S'))
    (hT : RT g W args vs.toList) (hrun : (Callable P f) → (execOp a.eval o).run P W = .ok (.enter f vs) W) {d : Option Nat} (hd : ∀ d', d = some d' → d' < N) (hod : o.dst = d) {x : AEx} {st' : St} (hf : afinish d st e S' = some (x, st'))
    {next : Act → World → Prop} {Q : Exit → Act → World → Prop}
    (hn : x = .normal → ∀ g' W' a' L', a'.defers = a.defers → Ext g W g' W' → Inv g' W' a' N L' st' → next a' W')
    (hp : ∀ v, x = .panic v → ∀ g' W' a' L' u, a'.defers = a.defers → Ext g W g' W' → Inv g' W' a' N L' st' → RV g' W' v u → Q (.panic [{ v := u, recovered := false }]) a' W') : o.wp P a W next Q := by
  obtain ⟨hcall, hC⟩ := hrec f args st.S e S' hr
  have hC' := hC g.hide W vs hB.hide (by
    have : ∀ {as : List AV} {us : List Value}, RT g W as us → RT g.hide W as us := fun h => RT_keeps (hide_keeps g W) _ _ h
    exact this hT) hi.sh.hide (fun b => hide_calm _)
  unfold Oper.wp
  rw [hrun hcall]
  show Calls P f vs W _
  refine hC'.mono fun e' W' hpost => ?_
  obtain ⟨g', hE, hS, hcalm, hend⟩ := hpost
  obtain ⟨hX, hi', hK', hO, hhid⟩ := hi.back hE hS d
  cases e with
  | ret r own =>
    obtain ⟨v, rfl, hRV, hRt⟩ := hend
    have hRV' := RV_keeps hK' hRV
    show next (a.put o.dst v) W'
    unfold afinish at hf
    cases d with
    | none =>
      simp only [normal, Option.some.injEq, Prod.mk.injEq] at hf
      obtain ⟨rfl, rfl⟩ := hf
      rw [hod]
      exact hn rfl _ _ _ L rfl hX hi'
    | some d =>
      have hdN := hd d rfl
      have hi2 := hi'.put d hdN (.v r) v hRV'
      rw [hod]
      cases own with
      | none =>
        simp only [normal, Option.some.injEq, Prod.mk.injEq] at hf
        obtain ⟨rfl, rfl⟩ := hf
        exact hn rfl _ _ _ L rfl hX hi2
      | some te =>
        simp only [normal, Option.some.injEq, Prod.mk.injEq] at hf
        obtain ⟨rfl, rfl⟩ := hf
        refine hn rfl _ _ _ L rfl hX (Inv.right (d := d) hi2 (x := r) (by simp [Slots.get_set]) ?_)
        rw [getD_put (by rw [hi.size]; exact hdN)]
        obtain ⟨sz, es, rfl, hR⟩ := hRt te rfl
        refine ⟨sz, es, rfl, hR.imp id ?_⟩
        rintro ⟨b, cap, cur, q1, q2, q3, q4, q5, q6, q7⟩
        refine ⟨b, cap, cur, q1, q2, q3, q4, q5, ?_, q7⟩
        have hnh : (g.O b).hidden = false := by
          cases hh : (g.O b).hidden with
          | false => rfl
          | true => rw [hhid b hh] at q6; cases q6
        simp only [Gh.back, hnh, Bool.false_eq_true, if_false, q6]
  | panic y =>
    obtain ⟨u, rfl, hRV⟩ := hend
    show Q (.panic [{ v := u, recovered := false }]) a W'
    simp only [afinish, Option.some.injEq, Prod.mk.injEq] at hf
    obtain ⟨rfl, rfl⟩ := hf
    exact hp _ rfl _ _ _ L _ rfl hX hi' (RV_keeps hK' hRV)
end
end Go.Av

/- Every operation: when the abstract one stands for the model's, and that it then does. -/
set_option linter.unusedVariables false
set_option linter.unusedSimpArgs false
set_option linter.unusedSectionVars false
namespace Go.Av
open Go

def isSliceOf (P : Program) (t e : TypeId) : Bool := match P.underlying t with | some (.slice e') => e == e' | _ => false
def isSlice (P : Program) (t : TypeId) : Bool := match P.underlying t with | some (.slice _) => true | _ => false
def isStr (P : Program) (t : TypeId) : Bool := match P.underlying t with | some .string => true | _ => false
theorem isSliceOf_ok {P : Program} {t e : TypeId} (h : isSliceOf P t e = true) : P.underlying t = some (.slice e) := by
  unfold isSliceOf at h; split at h
  · rename_i e' he; rw [he]; simp at h; rw [h]
  · cases h
theorem isSlice_ok {P : Program} {t : TypeId} (h : isSlice P t = true) : ∃ e, P.underlying t = some (.slice e) := by
  unfold isSlice at h; split at h
  · rename_i e' he; exact ⟨e', he⟩
  · cases h
theorem isStr_ok {P : Program} {t : TypeId} (h : isStr P t = true) : P.underlying t = some .string := by
  unfold isStr at h; split at h
  · assumption
  · cases h

def fieldIs (P : Program) (t : TypeId) (f off : Nat) : Option TypeId :=
  match P.underlying t with
  | some (.struct fs) => match fs[f]? with
    | some fl => if fl.offset = off then some fl.type else none
    | none => none
  | _ => none
theorem fieldIs_ok {P : Program} {t : TypeId} {f off : Nat} {u : TypeId} (h : fieldIs P t f off = some u) : ∃ fs fl, P.underlying t = some (.struct fs) ∧ fs[f]? = some fl ∧ fl.offset = off ∧ fl.type = u := by
  unfold fieldIs at h
  split at h
  · rename_i fs hu
    split at h
    · rename_i fl hf
      split at h
      · rename_i ho; exact ⟨fs, fl, hu, hf, ho, by simpa using h⟩
      · cases h
    · cases h
  · cases h
def arrayIs (P : Program) (t : TypeId) (len : Nat) : Option TypeId :=
  match P.underlying t with
  | some (.array n e) => if n = len then some e else none
  | _ => none
theorem arrayIs_ok {P : Program} {t : TypeId} {len : Nat} {e : TypeId} (h : arrayIs P t len = some e) : P.underlying t = some (.array len e) := by
  unfold arrayIs at h
  split at h
  · rename_i n e' hu
    split at h
    · rename_i hn; subst hn; rw [hu]; simpa using h
    · cases h
  · cases h

/-- A type of slice elements: its number of cells, its bytes, its zero cells. -/
def elemOk (P : Program) (e sz bytes : Nat) (z : Option (List AV)) : Bool :=
  match P.info? e with
  | some it => match it.zero with
    | some zz => it.size == sz && it.bytes == bytes && zz.cells.size == sz && decide (0 < sz) && decide (0 < bytes) && (match z with | some z => constsOk z zz.cells.toList | none => true)
    | none => false
  | none => false
theorem elemOk_ok {P : Program} {e sz bytes : Nat} {z : Option (List AV)} (h : elemOk P e sz bytes z = true) :
    ∃ it zz, P.info? e = some it ∧ it.zero = some zz ∧ it.size = sz ∧ it.bytes = bytes ∧ zz.cells.size = sz ∧ 0 < sz ∧ 0 < bytes ∧ (∀ l, z = some l → constsOk l zz.cells.toList = true) := by
  unfold elemOk at h
  split at h
  · rename_i it hit
    split at h
    · rename_i zz hz
      simp only [Bool.and_eq_true, beq_iff_eq, decide_eq_true_eq] at h
      obtain ⟨⟨⟨⟨⟨h1, h2⟩, h3⟩, h4⟩, h5⟩, h6⟩ := h
      exact ⟨it, zz, hit, hz, h1, h2, h3, h4, h5, fun l hl => by subst hl; exact h6⟩
    · cases h
  · cases h

def mMap (P : Program) (t : TypeId) (kd : Option IntKind) (z : Option AV) : Bool :=
  match P.underlying t with
  | some (.map kt et) =>
    (match P.underlying kt, kd with
      | some .string, none => true
      | some (.int k), some k' => decide (k = k')
      | _, _ => false) &&
    (match z with
      | some z => (match P.info? et with
        | some it => (match it.zero with | some zz => constOk z zz | none => false)
        | none => false)
      | none => true)
  | _ => false
theorem mMap_ok {P : Program} {t : TypeId} {kd : Option IntKind} {z : Option AV} (h : mMap P t kd z = true) :
    ∃ kt et, P.underlying t = some (.map kt et) ∧ P.underlying kt = some (descOf kd) ∧ ∀ w, z = some w → ∃ it zz, P.info? et = some it ∧ it.zero = some zz ∧ constOk w zz = true := by
  unfold mMap at h
  split at h
  · rename_i kt et ht
    rw [Bool.and_eq_true] at h
    obtain ⟨h1, h2⟩ := h
    refine ⟨kt, et, ht, ?_, fun w hw => ?_⟩
    · split at h1
      · rename_i hk; rw [hk]; rfl
      · rename_i k k' hk
        rw [hk]
        obtain rfl : k = k' := by simpa using h1
        rfl
      · cases h1
    · subst hw
      simp only at h2
      split at h2
      · rename_i it hit
        split at h2
        · rename_i zz hzz
          exact ⟨it, zz, hit, hzz, h2⟩
        · cases h2
      · cases h2
  · cases h

def mOp (P : Program) : AOp → Op → Bool
  | .mov _ x _, .move y | .mov _ x _, .assign y => mOpd x y
  | .nils _ _ _, .move (.const (.slice none 0 0)) | .nils _ _ _, .assign (.const (.slice none 0 0)) => true
  | .pick _ c x y, .pick c' x' y' => mOpd c c' && mOpd x x' && mOpd y y'
  | .box _ _ x, .box _ y => mOpd x y
  | .alloc _ _ z own, .alloc t => match tyZero P t with | some zv => constsOk z zv && nilCells z zv own | none => false
  | .load _ n ag x, .load t y => tyAg P t == some ag && tySz P t == some n && mOpd x y
  | .take _ x, .load t y => tyAg P t == some false && mOpd x y
  | .store x y n _ _, .store t x' y' => tySz P t == some n && mOpd x x' && mOpd y y'
  | .bin _ op x y, .binOp op' _ x' y' _ => decide (op = op') && mOpd x x' && mOpd y y'
  | .eqb _ neg x y, .binOp op t x' y' _ => decide (op = if neg then .neq else .eql) && (match P.underlying t with | some .bool => true | _ => false) && mOpd x x' && mOpd y y'
  | .un _ op x, .unOp op' _ x' => decide (op = op') && mOpd x x'
  | .convI _ k x, .convert src dst x' => (P.underlying src).isSome && (match P.underlying dst with | some (.int k') => decide (k = k') | _ => false) && mOpd x x'
  | .convB _ x, .convert src dst x' => (match P.underlying src with | some (.slice e) => (match P.underlying e with | some (.int .u8) => true | _ => false) | _ => false) && isStr P dst && mOpd x x'
  | .convS _ x, .convert src dst x' => (P.underlying src).isSome && isStr P dst && mOpd x x'
  | .mkfn _ fn f c, .makeFunc fn' f' c' => decide (fn = fn') && mOpds f f'.toList && mOpds c c'.toList
  | .extract _ x j, .extract x' j' => j == j' && mOpd x x'
  | .field _ off n ag x, .field t x' f => match fieldIs P t f off with | some u => tyAg P u == some ag && tySz P u == some n && mOpd x x' | none => false
  | .faddr _ off x, .fieldAddr t x' f => match fieldIs P t f off with | some u => (match tySz P u with | some n => n != 0 | none => false) && mOpd x x' | none => false
  | .iaddrA _ len sz x i, .indexAddr t x' i' => match arrayIs P t len with | some e => tySz P e == some sz && mOpd x x' && mOpd i i' | none => false
  | .iaddrS _ sz x i, .indexAddr t x' i' => match P.underlying t with | some (.slice e) => tySz P e == some sz && mOpd x x' && mOpd i i' | _ => false
  | .idxS _ x i, .index t x' i' => isStr P t && mOpd x x' && mOpd i i'
  | .idxA _ len sz ag x i, .index t x' i' => match arrayIs P t len with | some e => tyAg P e == some ag && tySz P e == some sz && mOpd x x' && mOpd i i' | none => false
  | .slice _ sz x lo hi, .slice t x' lo' hi' none => match P.underlying t with | some (.slice e) => tySz P e == some sz && mOpd x x' && mOpdO lo lo' && mOpdO hi hi' | _ => false
  | .sliceS _ x lo hi, .slice t x' lo' hi' none => isStr P t && mOpd x x' && mOpdO lo lo' && mOpdO hi hi'
  | .sliceA _ len sz ag x lo hi, .slice t x' lo' hi' none => match arrayIs P t len with | some e => tySz P e == some sz && (ag || sz == 1) && mOpd x x' && mOpdO lo lo' && mOpdO hi hi' | none => false
  | .build _ z xs, .build t ys => match tyPlaces P t, tyZero P t with | some pl, some zv => constsOk z zv && mParts pl xs ys.toList | _, _ => false
  | .bslice _ sz e xs, .buildSlice t n ys => isSliceOf P t e && tySz P e == some sz && (tyZero P e).isSome && decide (0 < sz) && n == xs.length && decide (n * sz ≤ 2 ^ 24) && mElems 0 xs ys.toList
  | .nilchk _ x, .nilCheck x' => mOpd x x'
  | .mkif _ t x, .makeInterface t' x' => t == t' && tyConc P t && mOpd x x'
  | .len _ str x, .call { callee := .builtin .len, args := ⟨[x']⟩, argTypes := ⟨[t]⟩ } => (if str then isStr P t else isSlice P t) && mOpd x x'
  | .mm _ mx x y, .call { callee := .builtin b, args := ⟨[x', y']⟩, argTypes := _ } => decide (b = if mx then .max else .min) && mOpd x x' && mOpd y y'
  | .append _ sz e bytes x y, .call { callee := .builtin .append, args := ⟨[x', y']⟩, argTypes := ⟨[t, tx]⟩ } => isSliceOf P t e && (isSlice P tx || isStr P tx) && elemOk P e sz bytes none && mOpd x x' && mOpd y y'
  | .make _ sz e bytes z x y, .makeSlice t x' y' => isSliceOf P t e && elemOk P e sz bytes (some z) && mOpd x x' && mOpd y y'
  | .makeL _ sz bytes ag z x y, .makeSlice t x' y' => (match P.underlying t with | some (.slice e) => elemOk P e sz bytes (some z) | _ => false) && (ag || sz == 1) && mOpd x x' && mOpd y y'
  | .cloneL _ sz e bytes ag x y, .call { callee := .builtin .append, args := ⟨[x', y']⟩, argTypes := ⟨[t, tx]⟩ } => isSliceOf P t e && (isSlice P tx || isStr P tx) && elemOk P e sz bytes none && (ag || sz == 1) && mOpd x x' && mOpd y y'
  | .makeMap _, .makeMap _ none => true
  | .lookup _ ok kd z x k, .lookup t x' k' ok' => ok == ok' && mMap P t kd (some z) && mOpd x x' && mOpd k k'
  | .mapUpd kd x k v, .mapUpdate t x' k' v' => mMap P t kd none && mOpd x x' && mOpd k k' && mOpd v v'
  | .mapUpd kd x k v, .insert t x' k' v' => mMap P t kd none && mOpd x x' && mOpd k k' && mOpd v v'
  | .eqnil _ neg cls x, .binOp op t x' (.const z) _ => decide (op = if neg then .neq else .eql) && nilOf P t cls z && mOpd x x'
  | .eqagg _ neg ks x y, .binOp op t x' y' _ => decide (op = if neg then .neq else .eql) && mEqAgg P t ks && mOpd x x' && mOpd y y'
  | .call _ f xs, .call { callee := .value (.func f'), args := ys, argTypes := _ } => f == f' && mOpds xs ys.toList
  | .callv _ c xs, .call { callee := .value c', args := ys, argTypes := _ } => mOpd c c' && mOpds xs ys.toList
  | .panic x, .panic x' => mOpd x x'
  | _, _ => false

/-- The slot that is written is one of the frame's. -/
def mDst (N : Nat) : Option Nat → Option Nat → Bool
  | some d, some d' => d == d' && decide (d < N)
  | none, none => true
  | _, _ => false

section
variable {P : Program} {W0 : World} {g : Gh} {W : World} {a : Act} {N : Nat} {L : Nat → Nat} {st : St}

theorem pure_go (hi : Inv g W a N L st) (o : Oper) {ao : AOp} {d : Nat} (hd : d < N) (hod : o.dst = some d) {s : SV} (h : ∃ v, RunsTo P o a W v W ∧ SVR g W L s v) : OpOk P o a g W N L (st.put d s) := by
  obtain ⟨v, h1, h2⟩ := h
  exact opOk_pure hi o hd hod h1 h2

theorem mDst_none {d : Option Nat} (h : mDst N none d = true) : d = none := by
  cases d with
  | none => rfl
  | some d => simp [mDst] at h
/-- All but calls. -/
theorem aop_ok (hi : Inv g W a N L st) (o : Oper) {ao : AOp} (hm : mOp P ao o.op = true) (hdst : mDst N ao.dst o.dst = true) {rec : Rec} {x : AEx} {st' : St} (h : aop rec st ao = some (x, st'))
    (hnc : (∀ d f xs, ao ≠ .call d f xs) ∧ (∀ d c xs, ao ≠ .callv d c xs) ∧ ∀ x, ao ≠ .panic x) : x = .normal ∧ OpOk P o a g W N L st' := by
  have pd : ∀ {s : SV}, (∃ d, ao.dst = some d ∧ apure st ao = some s ∧ x = .normal ∧ st' = st.put d s) → (∀ s, apure st ao = some s → ∃ v, RunsTo P o a W v W ∧ SVR g W L s v) → x = .normal ∧ OpOk P o a g W N L st' := by
    rintro s ⟨d, h1, h2, rfl, rfl⟩ h3
    rw [h1] at hdst
    cases hod : o.dst with
    | none => rw [hod] at hdst; simp [mDst] at hdst
    | some d' =>
      rw [hod] at hdst
      simp only [mDst, Bool.and_eq_true, beq_iff_eq, decide_eq_true_eq] at hdst
      obtain ⟨rfl, hN⟩ := hdst
      obtain ⟨v, q1, q2⟩ := h3 s h2
      exact ⟨rfl, opOk_pure hi o hN hod q1 q2⟩
  have hdd : ∀ {d : Nat}, ao.dst = some d → d < N ∧ o.dst = some d := by
    intro d h1
    rw [h1] at hdst
    cases hod : o.dst with
    | none => rw [hod] at hdst; simp [mDst] at hdst
    | some d' =>
      rw [hod] at hdst
      simp only [mDst, Bool.and_eq_true, beq_iff_eq, decide_eq_true_eq] at hdst
      obtain ⟨rfl, hN⟩ := hdst
      exact ⟨hN, rfl⟩
  have hdn : ao.dst = none → o.dst = none := by
    intro h1
    rw [h1] at hdst
    cases hod : o.dst with
    | none => rfl
    | some d' => rw [hod] at hdst; simp [mDst] at hdst
  -- what a pure one comes to
  have hp : ∀ {d : Nat}, ao.dst = some d → (aop rec st ao = match apure st ao, ao.dst with | some s, some d => normal (st.put d s) | _, _ => none) → ∃ s, ∃ d, ao.dst = some d ∧ apure st ao = some s ∧ x = .normal ∧ st' = st.put d s := by
    intro d h1 h2
    rw [h2, h1] at h
    cases hs : apure st ao with
    | none => rw [hs] at h; simp at h
    | some s =>
      rw [hs] at h
      simp only [normal, Option.some.injEq, Prod.mk.injEq] at h
      exact ⟨s, d, h1, rfl, h.1.symm, h.2.symm⟩
  unfold mOp at hm
  split at hm <;> (try (cases hm; done))
  · rename_i d x0 tk y ho; obtain ⟨h1, h2⟩ := hdd rfl; exact mov_ok hi o hm h1 h2 (.inl ho) h
  · rename_i d x0 tk y ho; obtain ⟨h1, h2⟩ := hdd rfl; exact mov_ok hi o hm h1 h2 (.inr ho) h
  · rename_i d s e ho; obtain ⟨h1, h2⟩ := hdd rfl; exact nils_ok hi o h1 h2 (.inl ho) h
  · rename_i d s e ho; obtain ⟨h1, h2⟩ := hdd rfl; exact nils_ok hi o h1 h2 (.inr ho) h
  · rename_i d c x0 y c' x' y' ho
    simp only [Bool.and_eq_true] at hm
    obtain ⟨s, hs⟩ := hp rfl rfl
    exact pd hs fun s h => pick_ok hi o hm.1.1 hm.1.2 hm.2 ho h
  · rename_i d sh x0 t y ho; obtain ⟨h1, h2⟩ := hdd rfl; exact box_ok hi o hm h1 h2 ho h
  · rename_i d sh z own t ho
    obtain ⟨h1, h2⟩ := hdd rfl
    split at hm
    · rename_i zv hz
      simp only [Bool.and_eq_true] at hm
      exact alloc_ok hi o hz hm.1 hm.2 h1 h2 ho h
    · cases hm
  · rename_i d n ag x0 t y ho
    simp only [Bool.and_eq_true, beq_iff_eq] at hm
    obtain ⟨s, hs⟩ := hp rfl rfl
    exact pd hs fun s h => load_ok hi o hm.1.1 hm.1.2 hm.2 ho h
  · rename_i d x0 t y ho
    simp only [Bool.and_eq_true, beq_iff_eq] at hm
    obtain ⟨h1, h2⟩ := hdd rfl
    exact take_ok hi o hm.2 hm.1 h1 h2 ho h
  · rename_i x0 y n tk nl t x' y' ho
    simp only [Bool.and_eq_true, beq_iff_eq] at hm
    exact store_ok hi o hm.1.2 hm.2 hm.1.1 (hdn rfl) ho h
  · rename_i d op x0 y op' t x' y' t' ho
    simp only [Bool.and_eq_true, decide_eq_true_eq] at hm
    obtain ⟨⟨rfl, hx⟩, hy⟩ := hm
    obtain ⟨s, hs⟩ := hp rfl rfl
    exact pd hs fun s h => bin_ok hi o hx hy ho h
  · rename_i d neg x0 y op t x' y' t' ho
    simp only [Bool.and_eq_true, decide_eq_true_eq] at hm
    obtain ⟨⟨⟨rfl, ht⟩, hx⟩, hy⟩ := hm
    have ht' : P.underlying t = some .bool := by split at ht <;> first | assumption | (cases ht; done)
    obtain ⟨s, hs⟩ := hp rfl rfl
    exact pd hs fun s h => eqb_ok hi o hx hy ht' ho h
  · rename_i d op x0 op' t x' ho
    simp only [Bool.and_eq_true, decide_eq_true_eq] at hm
    obtain ⟨rfl, hx⟩ := hm
    obtain ⟨s, hs⟩ := hp rfl rfl
    exact pd hs fun s h => un_ok hi o hx ho h
  · rename_i d k x0 src dst x' ho
    simp only [Bool.and_eq_true] at hm
    obtain ⟨⟨h1, h2⟩, hx⟩ := hm
    obtain ⟨ds, h1⟩ := Option.isSome_iff_exists.1 h1
    have h2' : P.underlying dst = some (.int k) := by
      split at h2
      · rename_i k' hk; rw [hk]; simp at h2; rw [h2]
      · cases h2
    obtain ⟨s, hs⟩ := hp rfl rfl
    exact pd hs fun s h => convI_ok hi o hx h1 h2' ho h
  · rename_i d x0 src dst x' ho
    simp only [Bool.and_eq_true] at hm
    obtain ⟨⟨h1, h2⟩, hx⟩ := hm
    obtain ⟨s, hs⟩ := hp rfl rfl
    split at h1
    · rename_i e hse
      split at h1
      · rename_i he
        exact pd hs fun s h => convB_ok hi o hx hse he (isStr_ok h2) ho h
      · cases h1
    · cases h1
  · rename_i d x0 src dst x' ho
    simp only [Bool.and_eq_true] at hm
    obtain ⟨⟨h1, h2⟩, hx⟩ := hm
    obtain ⟨ds, h1⟩ := Option.isSome_iff_exists.1 h1
    obtain ⟨s, hs⟩ := hp rfl rfl
    exact pd hs fun s h => convS_ok hi o hx h1 (isStr_ok h2) ho h
  · rename_i d fn f c fn' f' c' ho
    simp only [Bool.and_eq_true, decide_eq_true_eq] at hm
    obtain ⟨⟨rfl, hf⟩, hc⟩ := hm
    obtain ⟨s, hs⟩ := hp rfl rfl
    exact pd hs fun s h => mkfn_ok hi o hf hc ho h
  · rename_i d x0 j x' j' ho
    simp only [Bool.and_eq_true, beq_iff_eq] at hm
    obtain ⟨rfl, hx⟩ := hm
    obtain ⟨s, hs⟩ := hp rfl rfl
    exact pd hs fun s h => extract_ok hi o hx ho h
  · rename_i d off n ag x0 t x' f ho
    split at hm
    · rename_i u hu
      obtain ⟨fs, fl, q1, q2, q3, rfl⟩ := fieldIs_ok hu
      simp only [Bool.and_eq_true, beq_iff_eq] at hm
      obtain ⟨s, hs⟩ := hp rfl rfl
      exact pd hs fun s h => field_ok hi o hm.2 q1 q2 q3 hm.1.1 hm.1.2 ho h
    · cases hm
  · rename_i d off x0 t x' f ho
    split at hm
    · rename_i u hu
      obtain ⟨fs, fl, q1, q2, q3, rfl⟩ := fieldIs_ok hu
      simp only [Bool.and_eq_true] at hm
      obtain ⟨h1, hx⟩ := hm
      split at h1
      · rename_i n hn
        obtain ⟨s, hs⟩ := hp rfl rfl
        exact pd hs fun s h => faddr_ok hi o hx q1 q2 q3 hn (by simpa using h1) ho h
      · cases h1
    · cases hm
  · rename_i d len sz x0 i t x' i' ho
    split at hm
    · rename_i e he
      simp only [Bool.and_eq_true, beq_iff_eq] at hm
      obtain ⟨s, hs⟩ := hp rfl rfl
      exact pd hs fun s h => iaddrA_ok hi o hm.1.2 hm.2 (arrayIs_ok he) hm.1.1 ho h
    · cases hm
  · rename_i d sz x0 i t x' i' ho
    split at hm
    · rename_i e he
      simp only [Bool.and_eq_true, beq_iff_eq] at hm
      obtain ⟨s, hs⟩ := hp rfl rfl
      exact pd hs fun s h => iaddrS_ok hi o hm.1.2 hm.2 he hm.1.1 ho h
    · cases hm
  · rename_i d x0 i t x' i' ho
    simp only [Bool.and_eq_true] at hm
    obtain ⟨s, hs⟩ := hp rfl rfl
    exact pd hs fun s h => idxS_ok hi o hm.1.2 hm.2 (isStr_ok hm.1.1) ho h
  · rename_i d len sz ag x0 i t x' i' ho
    split at hm
    · rename_i e he
      simp only [Bool.and_eq_true, beq_iff_eq] at hm
      obtain ⟨s, hs⟩ := hp rfl rfl
      exact pd hs fun s h => idxA_ok hi o hm.1.2 hm.2 (arrayIs_ok he) hm.1.1.1 hm.1.1.2 ho h
    · cases hm
  · rename_i d sz x0 lo hh t x' lo' hh' ho
    split at hm
    · rename_i e he
      simp only [Bool.and_eq_true, beq_iff_eq] at hm
      obtain ⟨s, hs⟩ := hp rfl rfl
      exact pd hs fun s h => slice_ok hi o hm.1.1.2 hm.1.2 hm.2 he hm.1.1.1 ho h
    · cases hm
  · rename_i d x0 lo hh t x' lo' hh' ho
    simp only [Bool.and_eq_true] at hm
    obtain ⟨s, hs⟩ := hp rfl rfl
    exact pd hs fun s h => sliceS_ok hi o hm.1.1.2 hm.1.2 hm.2 (isStr_ok hm.1.1.1) ho h
  · rename_i d len sz ag x0 lo hh t x' lo' hh' ho
    split at hm
    · rename_i e he
      simp only [Bool.and_eq_true, beq_iff_eq, Bool.or_eq_true] at hm
      obtain ⟨⟨⟨⟨q1, q2⟩, q3⟩, q4⟩, q5⟩ := hm
      obtain ⟨s, hs⟩ := hp rfl rfl
      exact pd hs fun s h => sliceA_ok hi o q3 q4 q5 (arrayIs_ok he) q1 (fun h => by
        rcases q2 with q | q
        · rw [h] at q; cases q
        · exact q) ho h
    · cases hm
  · rename_i d z xs t ys ho
    split at hm
    · rename_i pl zv hpl hz
      simp only [Bool.and_eq_true] at hm
      obtain ⟨s, hs⟩ := hp rfl rfl
      exact pd hs fun s h => build_ok hi o hpl hz hm.1 hm.2 ho h
    · cases hm
  · rename_i d sz e xs t n ys ho
    simp only [Bool.and_eq_true, beq_iff_eq, decide_eq_true_eq] at hm
    obtain ⟨⟨⟨⟨⟨⟨q1, q2⟩, q3⟩, q4⟩, rfl⟩, q6⟩, q7⟩ := hm
    obtain ⟨zv, q3⟩ := Option.isSome_iff_exists.1 q3
    obtain ⟨h1, h2⟩ := hdd rfl
    exact bslice_ok hi o (isSliceOf_ok q1) q2 q3 q7 q6 q4 h1 h2 ho h
  · rename_i d x0 x' ho
    obtain ⟨s, hs⟩ := hp rfl rfl
    exact pd hs fun s h => nilchk_ok hi o hm ho h
  · rename_i d t x0 t' x' ho
    simp only [Bool.and_eq_true, beq_iff_eq] at hm
    obtain ⟨⟨rfl, ht⟩, hx⟩ := hm
    obtain ⟨s, hs⟩ := hp rfl rfl
    exact pd hs fun s h => mkif_ok hi o hx ht ho h
  · rename_i d str x0 x' t ho
    simp only [Bool.and_eq_true] at hm
    obtain ⟨s, hs⟩ := hp rfl rfl
    refine pd hs fun s h => len_ok hi o hm.2 ?_ ho h
    have h1 := hm.1
    cases str
    · exact isSlice_ok (by simpa using h1)
    · exact isStr_ok (by simpa using h1)
  · rename_i d mx x0 y b x' y' ts ho
    simp only [Bool.and_eq_true, decide_eq_true_eq] at hm
    obtain ⟨⟨rfl, hx⟩, hy⟩ := hm
    obtain ⟨s, hs⟩ := hp rfl rfl
    exact pd hs fun s h => mm_ok hi o hx hy ho h
  · rename_i d sz e bytes x0 y x' y' t tx ho
    simp only [Bool.and_eq_true, Bool.or_eq_true] at hm
    obtain ⟨⟨⟨⟨q1, q2⟩, q3⟩, q4⟩, q5⟩ := hm
    obtain ⟨it, zz, p1, p2, p3, p4, p5, p6, p7, _⟩ := elemOk_ok q3
    obtain ⟨h1, h2⟩ := hdd rfl
    exact append_ok hi o q4 q5 (isSliceOf_ok q1) (q2.imp isSlice_ok isStr_ok) p1 p2 p3 p4 p5 p6 p7 h1 h2 ho h
  · rename_i d sz e bytes z x0 y t x' y' ho
    simp only [Bool.and_eq_true] at hm
    obtain ⟨⟨⟨q1, q3⟩, q4⟩, q5⟩ := hm
    obtain ⟨it, zz, p1, p2, p3, p4, p5, p6, p7, p8⟩ := elemOk_ok q3
    obtain ⟨h1, h2⟩ := hdd rfl
    exact make_ok hi o q4 q5 (isSliceOf_ok q1) p1 p2 p3 p4 (p8 z rfl) p5 p6 p7 h1 h2 ho h
  · rename_i d sz bytes ag z x0 y t x' y' ho
    simp only [Bool.and_eq_true] at hm
    obtain ⟨⟨⟨q1, q2⟩, q4⟩, q5⟩ := hm
    split at q1
    · rename_i e he
      obtain ⟨it, zz, p1, p2, p3, p4, p5, p6, p7, p8⟩ := elemOk_ok q1
      obtain ⟨h1, h2⟩ := hdd rfl
      exact makeL_ok hi o q4 q5 he p1 p2 p3 p4 (p8 z rfl) p5 p6 p7 (fun hag => by subst hag; simpa using q2) h1 h2 ho h
    · cases q1
  · rename_i d sz e bytes ag x0 y x' y' t tx ho
    simp only [Bool.and_eq_true, Bool.or_eq_true] at hm
    obtain ⟨⟨⟨⟨⟨q1, q2⟩, q3⟩, q6⟩, q4⟩, q5⟩ := hm
    obtain ⟨it, zz, p1, p2, p3, p4, p5, p6, p7, _⟩ := elemOk_ok q3
    obtain ⟨h1, h2⟩ := hdd rfl
    exact cloneL_ok hi o q4 q5 (isSliceOf_ok q1) (q2.imp isSlice_ok isStr_ok) p1 p2 p3 p4 p5 p6 p7 (fun hag => by subst hag; simpa using q6) h1 h2 ho h
  · rename_i d t ho
    obtain ⟨h1, h2⟩ := hdd rfl
    exact makeMap_ok hi o h1 h2 ho h
  · rename_i d ok kd z x0 k t x' k' ok' ho
    simp only [Bool.and_eq_true, beq_iff_eq] at hm
    obtain ⟨⟨⟨rfl, q1⟩, q2⟩, q3⟩ := hm
    obtain ⟨kt, et, p1, p2, p3⟩ := mMap_ok q1
    obtain ⟨it, zz, p4, p5, p6⟩ := p3 z rfl
    obtain ⟨h1, h2⟩ := hdd rfl
    exact lookup_ok hi o q2 q3 p1 p2 p4 p5 p6 h1 h2 ho h
  · rename_i kd x0 k v t x' k' v' ho
    simp only [Bool.and_eq_true] at hm
    obtain ⟨⟨⟨q1, q2⟩, q3⟩, q4⟩ := hm
    obtain ⟨kt, et, p1, p2, _⟩ := mMap_ok q1
    exact mapUpd_ok hi o q2 q3 q4 p1 p2 (mDst_none hdst) (.inl ho) h
  · rename_i kd x0 k v t x' k' v' ho
    simp only [Bool.and_eq_true] at hm
    obtain ⟨⟨⟨q1, q2⟩, q3⟩, q4⟩ := hm
    obtain ⟨kt, et, p1, p2, _⟩ := mMap_ok q1
    exact mapUpd_ok hi o q2 q3 q4 p1 p2 (mDst_none hdst) (.inr ho) h
  · rename_i d neg cls x0 op t x' z t' ho
    simp only [Bool.and_eq_true, decide_eq_true_eq] at hm
    obtain ⟨⟨rfl, hc⟩, hx⟩ := hm
    obtain ⟨s, hs⟩ := hp rfl rfl
    exact pd hs fun s h => eqnil_ok hi o hx hc ho h
  · rename_i d neg ks x0 y op t x' y' t' ho
    simp only [Bool.and_eq_true, decide_eq_true_eq] at hm
    obtain ⟨⟨⟨rfl, hc⟩, hx⟩, hy⟩ := hm
    obtain ⟨s, hs⟩ := hp rfl rfl
    exact pd hs fun s h => eqagg_ok hi o hx hy hc ho h
  · rename_i d f xs f' ys ts ho; exact absurd rfl (hnc.1 d f xs)
  · rename_i d c xs c' ys ts ho; exact absurd rfl (hnc.2.1 d c xs)
  · rename_i x0 x' ho; exact absurd rfl (hnc.2.2 x0)
end
end Go.Av

/- An operation with its guard; a region in any order. -/
set_option linter.unusedVariables false
set_option linter.unusedSimpArgs false
set_option linter.unusedSectionVars false
namespace Go.Av
open Go

/-- A guard. -/
def mGuard (ops : Array Oper) : Option (Nat × Bool) → Option (Nat × Bool) → Bool
  | none, none => true
  | some (k, b), some (j, b') => b == b' && (match ops[j]? with | some o => o.dst == some k | none => false)
  | _, _ => false
def mOper (P : Program) (N : Nat) (ops : Array Oper) (ao : AOper) (o : Oper) : Bool := mGuard ops ao.gd o.guard && mDst N ao.op.dst o.dst && mOp P ao.op o.op

section
variable {P : Program} {W0 : World} {g : Gh} {W : World} {a : Act} {N : Nat} {L : Nat → Nat} {st : St}

/-- What goes on behind a normal end, and behind a panic. -/
structure Goes (W0 : World) (g : Gh) (W : World) (N : Nat) (df : List Deferred) (x : AEx) (st' : St) (next : Act → World → Prop) (Q : Exit → Act → World → Prop) : Prop where
  normal : x = .normal → ∀ g' W' a' L', a'.defers = df → Ext g W g' W' → Inv g' W' a' N L' st' → next a' W'
  panic : ∀ v, x = .panic v → ∀ g' W' a' L' u, a'.defers = df → Ext g W g' W' → Inv g' W' a' N L' st' → RV g' W' v u → Q (.panic [{ v := u, recovered := false }]) a' W'

theorem put_defers (a : Act) (d : Option Nat) (v : Value) : (a.put d v).defers = a.defers := by cases d <;> rfl

theorem aop_wp (hi : Inv g W a N L st) (hB : Base W0 g W) {rec : Rec} (hrec : RecSound P W0 rec) (o : Oper) {ao : AOp} (hm : mOp P ao o.op = true) (hdst : mDst N ao.dst o.dst = true) {x : AEx} {st' : St}
    (h : aop rec st ao = some (x, st')) {next : Act → World → Prop} {Q : Exit → Act → World → Prop} (hg : Goes W0 g W N a.defers x st' next Q) : o.wp P a W next Q := by
  have ok : x = .normal ∧ OpOk P o a g W N L st' → o.wp P a W next Q := by
    rintro ⟨rfl, nx, v, W', g', L', hrun, hnx, hE, hi'⟩
    have := hg.normal rfl g' W' _ L' (put_defers a o.dst v) hE hi'
    unfold Oper.wp
    rw [hrun]
    rcases hnx with rfl | ⟨rfl, rfl⟩
    · exact this
    · exact this
  have hd : ∀ d', ao.dst = some d' → d' < N := by
    intro d' h1
    rw [h1] at hdst
    cases hod : o.dst with
    | none => rw [hod] at hdst; simp [mDst] at hdst
    | some d => rw [hod] at hdst; simp only [mDst, Bool.and_eq_true, decide_eq_true_eq] at hdst; exact hdst.2
  have hod : o.dst = ao.dst := by
    cases h1 : ao.dst with
    | none =>
      rw [h1] at hdst
      cases h2 : o.dst with
      | none => rfl
      | some d => rw [h2] at hdst; simp [mDst] at hdst
    | some d =>
      rw [h1] at hdst
      cases h2 : o.dst with
      | none => rw [h2] at hdst; simp [mDst] at hdst
      | some d' => rw [h2] at hdst; simp only [mDst, Bool.and_eq_true, beq_iff_eq] at hdst; rw [hdst.1]
  have hcf : ∀ {f : FuncId} {vs : Array Value}, Callable P f → (callFunc f vs).run P W = .ok (.enter f vs) W := by
    rintro f vs ⟨fn, h1, h2, h3⟩
    have h3' : ¬ (fn.body = none) := by intro e; simp [e] at h3
    have h2' : ¬ (fn.name = "runtime.NumGoroutine") := by simpa using h2
    simp [callFunc, h1, h2', h3']
  cases ao with
  | call d f xs =>
    unfold mOp at hm
    cases ho : o.op <;> rw [ho] at hm <;> try (cases hm; done)
    rename_i c
    obtain ⟨callee, args, ats⟩ := c
    cases callee <;> try (cases hm; done)
    rename_i v0
    cases v0 <;> try (cases hm; done)
    rename_i f'
    simp only [Bool.and_eq_true, beq_iff_eq] at hm
    obtain ⟨rfl, hxs⟩ := hm
    simp only [aop] at h
    split at h
    · rename_i as has
      split at h
      · rename_i r S' hr
        have hT := avs_ok hi hxs has
        refine call_wp hi hB hrec o hr (vs := args.map a.eval) (by simpa using hT) (fun hc => ?_) hd hod h hg.normal hg.panic
        simp [execOp, ho, resolve, Act.eval, Deferred.ofValue, invoke]
        exact hcf hc
      · cases h
    · cases h
  | callv d c xs =>
    unfold mOp at hm
    cases ho : o.op <;> rw [ho] at hm <;> try (cases hm; done)
    rename_i cl
    obtain ⟨callee, args, ats⟩ := cl
    cases callee <;> try (cases hm; done)
    rename_i v0
    simp only [Bool.and_eq_true] at hm
    obtain ⟨hc, hxs⟩ := hm
    simp only [aop] at h
    split at h
    · rename_i f first caps as hcv has
      split at h
      · rename_i r S' hr
        have hT := avs_ok hi hxs has
        have hRc := RV_notAgg (av_ok hi hc hcv) rfl
        simp only [R] at hRc
        obtain ⟨fi, ca, e, h1, h2⟩ := hRc
        have e' : a.eval v0 = .func (.func f) fi ca := by simpa using e
        refine call_wp hi hB hrec o hr (vs := fi ++ args.map a.eval ++ ca) ?_ (fun hcl => ?_) hd hod h hg.normal hg.panic
        · simp only [Array.toList_append, Array.toList_map]
          exact RT_app (RT_app h1 hT) h2
        · simp [execOp, ho, resolve, e', Deferred.ofValue, invoke]
          exact hcf hcl
      · cases h
    · cases h
  | panic x0 =>
    unfold mOp at hm
    cases ho : o.op <;> rw [ho] at hm <;> try (cases hm; done)
    rename_i x'
    simp only [aop] at h
    split at h
    · rename_i t c hc
      simp only [Option.some.injEq, Prod.mk.injEq] at h
      obtain ⟨rfl, rfl⟩ := h
      have hR := av_ok hi hm hc
      have hR2 := RV_notAgg hR rfl
      simp only [R] at hR2
      obtain ⟨u, e, _⟩ := hR2
      have e' : a.eval x' = .iface t u := by simpa using e
      unfold Oper.wp
      have hrun : (execOp a.eval o).run P W = .halt (.panic (.iface t u)) W := by
        simp [execOp, ho, e', Instr.panic, Result.andThen]
      rw [hrun]
      exact hg.panic _ rfl g W a L _ rfl (Ext.refl g W) hi (by rw [e'] at hR; exact hR)
    · cases h
  | _ => exact ok (aop_ok hi o hm hdst h ⟨fun _ _ _ e => (by cases e), fun _ _ _ e => (by cases e), fun _ e => (by cases e)⟩)

/-- An operation of a region, guard and all. -/
theorem aoper_wp (hi : Inv g W a N L st) (hB : Base W0 g W) {rec : Rec} (hrec : RecSound P W0 rec) {ops : Array Oper} (o : Oper) {ao : AOper} (hm : mOper P N ops ao o = true) {x : AEx} {st' : St}
    (h : aoper rec st ao = some (x, st')) {next : Act → World → Prop} {Q : Exit → Act → World → Prop} (hg : Goes W0 g W N a.defers x st' next Q) :
    if Region.wanted o (yielded ops a.tmps) then o.wp P a W next Q ∨ (o.asks P a W ∧ LetsOut Q) else next (a.put o.dst undef) W := by
  simp only [mOper, Bool.and_eq_true] at hm
  obtain ⟨⟨h1, h2⟩, h3⟩ := hm
  have hB0 : ∀ {x : AEx} {st' : St}, aopB rec st ao = some (x, st') → aop rec st ao.op = some (x, st') := by
    intro x st' h
    unfold aopB at h
    split at h
    · exact h
    · cases h
  unfold aoper at h
  split at h
  · rename_i hgd
    rw [hgd] at h1
    have hn : o.guard = none := by
      cases hq : o.guard with
      | none => rfl
      | some p => rw [hq] at h1; simp [mGuard] at h1
    rw [if_pos (by simp [Region.wanted, hn])]
    exact .inl (aop_wp hi hB hrec o h3 h2 (hB0 h) hg)
  · rename_i k want hgd
    rw [hgd] at h1
    cases hq : o.guard with
    | none => rw [hq] at h1; simp [mGuard] at h1
    | some p =>
      obtain ⟨j, b'⟩ := p
      rw [hq] at h1
      simp only [mGuard, Bool.and_eq_true, beq_iff_eq] at h1
      obtain ⟨rfl, h1⟩ := h1
      split at h1
      · rename_i oj hoj
        have hdj : oj.dst = some k := by simpa using h1
        split at h
        · rename_i b hk
          have hs := hi.slot k
          rw [hk] at hs
          have hv : a.tmps.getD k undef = .bool b := RV_bool.1 hs
          have hy : yielded ops a.tmps j = some b := by
            have : a.tmps[k]? = some (.bool b) := by
              cases ht : a.tmps[k]? with
              | none => rw [Array.getD_eq_getD_getElem?, ht] at hv; simp [undef] at hv
              | some v => rw [Array.getD_eq_getD_getElem?, ht] at hv; simpa using hv
            simp [yielded, hoj, hdj, this]
          by_cases hw : b = want
          · subst hw
            rw [if_pos (by simp [Region.wanted, hq, hy])]
            rw [if_pos rfl] at h
            exact .inl (aop_wp hi hB hrec o h3 h2 (hB0 h) hg)
          · rw [if_neg (by simp [Region.wanted, hq, hy, hw])]
            rw [if_neg hw] at h
            cases hd : ao.op.dst with
            | none =>
              rw [hd] at h h2
              simp only [normal, Option.some.injEq, Prod.mk.injEq] at h
              obtain ⟨rfl, rfl⟩ := h
              have hod : o.dst = none := by
                cases hod : o.dst with
                | none => rfl
                | some d => rw [hod] at h2; simp [mDst] at h2
              rw [hod]
              exact hg.normal rfl g W _ L rfl (Ext.refl g W) hi
            | some d =>
              rw [hd] at h h2
              simp only [normal, Option.some.injEq, Prod.mk.injEq] at h
              obtain ⟨rfl, rfl⟩ := h
              cases hod : o.dst with
              | none => rw [hod] at h2; simp [mDst] at h2
              | some d' =>
                rw [hod] at h2
                simp only [mDst, Bool.and_eq_true, beq_iff_eq, decide_eq_true_eq] at h2
                obtain ⟨rfl, hN⟩ := h2
                exact hg.normal rfl g W _ L (put_defers a _ _) (Ext.refl g W) (hi.put d hN .undef undef rfl)
        · rename_i hk
          have hs := hi.slot k
          rw [hk] at hs
          have hv : a.tmps.getD k undef = undef := hs
          have hy : yielded ops a.tmps j = none := by
            cases ht : a.tmps[k]? with
            | none => simp [yielded, hoj, hdj, ht]
            | some v =>
              rw [Array.getD_eq_getD_getElem?, ht] at hv
              have hv' : v = undef := by simpa using hv
              subst hv'
              simp [yielded, hoj, hdj, ht, undef]
          rw [if_neg (by simp [Region.wanted, hq, hy])]
          cases hd : ao.op.dst with
          | none =>
            rw [hd] at h h2
            simp only [normal, Option.some.injEq, Prod.mk.injEq] at h
            obtain ⟨rfl, rfl⟩ := h
            have hod : o.dst = none := by
              cases hod : o.dst with
              | none => rfl
              | some d => rw [hod] at h2; simp [mDst] at h2
            rw [hod]
            exact hg.normal rfl g W _ L rfl (Ext.refl g W) hi
          | some d =>
            rw [hd] at h h2
            simp only [normal, Option.some.injEq, Prod.mk.injEq] at h
            obtain ⟨rfl, rfl⟩ := h
            cases hod : o.dst with
            | none => rw [hod] at h2; simp [mDst] at h2
            | some d' =>
              rw [hod] at h2
              simp only [mDst, Bool.and_eq_true, beq_iff_eq, decide_eq_true_eq] at h2
              obtain ⟨rfl, hN⟩ := h2
              exact hg.normal rfl g W _ L (put_defers a _ _) (Ext.refl g W) (hi.put d hN .undef undef rfl)
        · cases h
      · cases h1

/-- The operations with these numbers, one after the other. -/
def aopsI (rec : Rec) (aos : List AOper) : List Nat → St → Option (AEx × St)
  | [], st => normal st
  | i :: is, st => match aos[i]? with
    | some o => match aoper rec st o with
      | some (.normal, st') => aopsI rec aos is st'
      | r => r
    | none => none

def mOpers (P : Program) (N : Nat) (ops : Array Oper) : List AOper → List Oper → Bool
  | [], [] => true
  | ao :: aos, o :: os => mOper P N ops ao o && mOpers P N ops aos os
  | _, _ => false
theorem mOpers_get {ops : Array Oper} : ∀ {aos : List AOper} {os : List Oper}, mOpers P N ops aos os = true → ∀ (i : Nat) {ao : AOper}, aos[i]? = some ao → ∃ o, os[i]? = some o ∧ mOper P N ops ao o = true
  | [], [], _, i, ao, h => by simp at h
  | [], _ :: _, hm, _, _, _ => by simp [mOpers] at hm
  | _ :: _, [], hm, _, _, _ => by simp [mOpers] at hm
  | a0 :: aos, o0 :: os, hm, i, ao, h => by
    simp only [mOpers, Bool.and_eq_true] at hm
    cases i with
    | zero =>
      obtain rfl : a0 = ao := by simpa using h
      exact ⟨o0, rfl, hm.1⟩
    | succ i => exact mOpers_get hm.2 i (by simpa using h)
theorem mOpers_length {ops : Array Oper} : ∀ {aos : List AOper} {os : List Oper}, mOpers P N ops aos os = true → aos.length = os.length
  | [], [], _ => rfl
  | [], _ :: _, hm => by simp [mOpers] at hm
  | _ :: _, [], hm => by simp [mOpers] at hm
  | _ :: _, _ :: _, hm => by simp only [mOpers, Bool.and_eq_true] at hm; simp [mOpers_length hm.2]

theorem opsI_wp {rec : Rec} (hrec : RecSound P W0 rec) {ops : Array Oper} {aos : List AOper} (hm : mOpers P N ops aos ops.toList = true) {Q : Exit → Act → World → Prop} :
    ∀ (is : List Nat) {g : Gh} {W : World} {a : Act} {L : Nat → Nat} {st : St} (hi : Inv g W a N L st) (hB : Base W0 g W) {x : AEx} {st' : St} (h : aopsI rec aos is st = some (x, st'))
      (hg : Goes W0 g W N a.defers x st' (Q .normal) Q), wpOps P ops Q is a W
  | [], g, W, a, L, st, hi, hB, x, st', h, hg => by
    simp only [aopsI, normal, Option.some.injEq, Prod.mk.injEq] at h
    obtain ⟨rfl, rfl⟩ := h
    exact hg.normal rfl g W a L rfl (Ext.refl g W) hi
  | i :: is, g, W, a, L, st, hi, hB, x, st', h, hg => by
    simp only [aopsI] at h
    split at h
    · rename_i ao hao
      obtain ⟨o, ho, hmo⟩ := mOpers_get hm i hao
      have ho' : ops[i]? = some o := by simpa using ho
      simp only [wpOps, ho']
      split at h
      · rename_i st1 h1
        refine aoper_wp hi hB hrec o hmo h1 ⟨fun _ g' W' a' L' hdf hE hi' => ?_, fun v hv => by cases hv⟩
        refine opsI_wp hrec hm is hi' (hB.ext' hE) h ⟨fun hx g2 W2 a2 L2 hd2 hE2 hi2 => ?_, fun v hx g2 W2 a2 L2 u hd2 hE2 hi2 hu => ?_⟩
        · exact hg.normal hx g2 W2 a2 L2 (hd2.trans hdf) (hE.trans hE2) hi2
        · exact hg.panic v hx g2 W2 a2 L2 u (hd2.trans hdf) (hE.trans hE2) hi2 hu
      · rename_i hne
        refine aoper_wp hi hB hrec o hmo h ⟨fun hx => ?_, hg.panic⟩
        subst hx
        exact absurd h (by intro e; exact hne _ e)
    · cases h
end
end Go.Av

/- What an operation looks at and what it changes. -/
set_option linter.unusedVariables false
set_option linter.unusedSimpArgs false
set_option linter.unusedSectionVars false
namespace Go.Av
open Go

def Opd.rd : Opd → List Nat
  | .s k => [k]
  | .c _ => []
def optOpd : Option Opd → List Opd
  | some x => [x]
  | none => []
def AOp.opds : AOp → List Opd
  | .mov _ x _ | .box _ _ x | .load _ _ _ x | .take _ x | .un _ _ x | .convI _ _ x | .convS _ x | .convB _ x | .extract _ x _ | .field _ _ _ _ x | .faddr _ _ x | .nilchk _ x | .mkif _ _ x | .len _ _ x
  | .eqnil _ _ _ x | .panic x => [x]
  | .nils .. | .alloc .. | .makeMap .. => []
  | .lookup _ _ _ _ x k => [x, k]
  | .mapUpd _ x k v => [x, k, v]
  | .pick _ c a b => [c, a, b]
  | .store x y _ _ _ | .bin _ _ x y | .eqb _ _ x y | .iaddrA _ _ _ x y | .iaddrS _ _ x y | .idxS _ x y | .idxA _ _ _ _ x y | .mm _ _ x y | .append _ _ _ _ x y | .make _ _ _ _ _ x y | .makeL _ _ _ _ _ x y | .cloneL _ _ _ _ _ x y | .eqagg _ _ _ x y => [x, y]
  | .mkfn _ _ f c => f ++ c
  | .slice _ _ x lo hi | .sliceS _ x lo hi | .sliceA _ _ _ _ x lo hi => x :: (optOpd lo ++ optOpd hi)
  | .build _ _ ps => ps.map fun p => p.2.2
  | .bslice _ _ _ xs => xs
  | .call _ _ xs => xs
  | .callv _ c xs => c :: xs
def AOp.rd (o : AOp) : List Nat := o.opds.flatMap Opd.rd
def AOper.rd (o : AOper) : List Nat := (match o.gd with | some (k, _) => [k] | none => []) ++ o.op.rd
def AOp.used : AOp → List Nat
  | .mov _ x true => x.rd
  | .store _ y _ true _ => y.rd
  | .append _ _ _ _ x _ => x.rd
  | .cloneL _ _ _ _ _ x _ => x.rd
  | _ => []
def AOp.wr (o : AOp) : List Nat := o.dst.toList ++ o.used

inductive Mem where
  | no
  | rd (m : Option Nat)
  | wr (m : Option Nat)
  | new (d : Nat)
  | call
  | bad
  deriving DecidableEq
def AOper.mem (o : AOper) : Mem :=
  match o.op with
  | .load .. => .rd o.blk
  | .take .. | .store .. => .wr o.blk
  | .box d sh _ | .alloc d sh _ _ => if sh then .wr none else .new d
  | .makeL d .. => .new d
  | .cloneL d .. => .new d
  | .makeMap .. | .mapUpd .. => .wr none
  | .lookup .. => .rd none
  | .call .. | .callv .. => .call
  | .panic _ => .bad
  | _ => .no

/-- A slot and its right. -/
def ob (st : St) (k : Nat) : SV × Option Nat := (st.σ.get k, rightOf st.own k)

theorem rightOf_filter (l : List (Nat × Nat)) (d k : Nat) : rightOf (l.filter fun p => p.1 != d) k = if d = k then none else rightOf l k := by
  induction l with
  | nil => simp [rightOf]
  | cons p r ih =>
    obtain ⟨j, e⟩ := p
    simp only [List.filter_cons]
    by_cases h : j = d
    · subst h
      simp only [bne_self_eq_false, Bool.false_eq_true, if_false, ih, rightOf]
      split
      · rfl
      · rfl
    · have : (j != d) = true := by simpa using h
      simp only [this, if_true, rightOf, ih]
      by_cases h2 : j = k
      · subst h2
        have h3 : ¬ d = j := fun e => h e.symm
        simp [h3]
      · simp [h2]

theorem ob_put (st : St) (d k : Nat) (s : SV) : ob (st.put d s) k = if d = k then (s, none) else ob st k := by
  simp only [ob, St.put, St.drop, Slots.get_set, rightOf_filter]
  split <;> rfl
theorem ob_right (st : St) (d e k : Nat) : ob (st.right d e) k = if d = k then ((ob st k).1, some e) else ob st k := by
  simp only [ob, St.right, rightOf]
  split <;> rfl
theorem ob_drop (st : St) (d k : Nat) : ob { st with own := st.drop d } k = if d = k then ((ob st k).1, none) else ob st k := by
  simp only [ob, St.drop, rightOf_filter]
  split <;> rfl
theorem ob_loc (st : St) (l : Locs) (k : Nat) : ob { st with loc := l } k = ob st k := rfl
theorem ob_S (st : St) (l : List Bx) (k : Nat) : ob { st with S := l } k = ob st k := rfl

/-- What of two states an operation must find alike. -/
structure Agree (o : AOper) (st st' : St) : Prop where
  sl : ∀ k, k ∈ o.rd ∨ k ∈ o.op.wr → ob st k = ob st' k
  lc : ∀ x d off, o.op.addr = some x → st.sv x = .l d off → (∀ m, o.blk = some m → m = d) → st.loc.get d = st'.loc.get d
  S : (o.mem = .rd none ∨ o.mem = .wr none ∨ o.mem = .call) → st.S = st'.S

/-- The blocks that an operation may change. -/
def AOper.may (o : AOper) (d : Nat) : Prop :=
  match o.mem with
  | .wr none => True
  | .wr (some m) => m = d
  | .new m => m = d
  | _ => False

structure Fr (o : AOper) (st st1 : St) : Prop where
  sl : ∀ k, k ∉ o.op.wr → ob st1 k = ob st k
  lc : ∀ d, ¬ o.may d → st1.loc.get d = st.loc.get d
  S : o.mem ≠ .wr none → st1.S = st.S

def NoL (st : St) (d : Nat) : Prop := ∀ k, (st.σ.get k).aims d = false

structure LocalTo (o : AOper) (st st' st1 st1' : St) : Prop where
  fr : Fr o st st1
  fr' : Fr o st' st1'
  sl : ∀ k, k ∈ o.op.wr → ob st1 k = ob st1' k
  lc : ∀ d, st1.loc.get d = st1'.loc.get d ∨ (st1.loc.get d = st.loc.get d ∧ st1'.loc.get d = st'.loc.get d)
  S : st1.S = st1'.S ∨ (st1.S = st.S ∧ st1'.S = st'.S)
  nol : ∀ d, NoL st d → o.mem ≠ .new d → NoL st1 d

section
variable {st st' : St}

theorem sv_same {x : Opd} (h : ∀ k, k ∈ x.rd → st.σ.get k = st'.σ.get k) : st.sv x = st'.sv x := by
  cases x with
  | s k => exact h k (by simp [Opd.rd])
  | c a => rfl
theorem av_same {x : Opd} (h : ∀ k, k ∈ x.rd → st.σ.get k = st'.σ.get k) : st.av x = st'.av x := by rw [St.av, St.av, sv_same h]
theorem avs_same : ∀ {xs : List Opd}, (∀ x, x ∈ xs → st.sv x = st'.sv x) → st.avs xs = st'.avs xs
  | [], _ => rfl
  | x :: xs, h => by
    simp only [St.avs, St.av, h x (.head _)]
    rw [avs_same (xs := xs) fun y hy => h y (.tail _ hy)]

theorem abuild_same : ∀ {ps : List (Nat × Nat × Opd)} {z : List AV}, (∀ x, x ∈ ps.map (fun p => p.2.2) → st.sv x = st'.sv x) → abuild st z ps = abuild st' z ps
  | [], _, _ => rfl
  | (off, n, x) :: ps, z, h => by
    simp only [abuild, St.av, h x (by simp)]
    split
    · split
      · exact abuild_same fun y hy => h y (by simp at hy ⊢; exact .inr hy)
      · rfl
    · rfl

theorem bound_same {o : Option Opd} {n : Nat} (h : ∀ x, x ∈ optOpd o → st.sv x = st'.sv x) : boundOf st n o = boundOf st' n o := by
  cases o with
  | none => rfl
  | some x => simp only [boundOf, St.av, h x (by simp [optOpd])]

theorem cells_same {s : SV} (h : ∀ d off, s = .l d off → st.loc.get d = st'.loc.get d) (hS : st.S = st'.S) : st.cellsAt s = st'.cellsAt s := by
  unfold St.cellsAt
  split
  · rfl
  · rename_i d off; rw [h d off rfl]
  · simp only [St.cellBox, hS]
  · rfl

/-- What a pure operation makes hangs on its operands, and on the cells that it reads. -/
theorem apure_same {o : AOp} (h : ∀ x, x ∈ o.opds → st.sv x = st'.sv x) (hc : ∀ x, o.addr = some x → st.cellsAt (st.sv x) = st'.cellsAt (st.sv x)) : apure st o = apure st' o := by
  cases o
  case load d n ag x =>
    have hx := h x (by simp [AOp.opds])
    simp only [apure, ← hx]
    rw [hc x rfl]
  case mkfn d fn f c =>
    simp only [apure]
    rw [avs_same (xs := f) fun x hx => h x (by simp [AOp.opds, hx]), avs_same (xs := c) fun x hx => h x (by simp [AOp.opds, hx])]
  case build d z ps =>
    simp only [apure]
    rw [abuild_same fun x hx => h x (by simpa [AOp.opds] using hx)]
  case slice d sz x lo hi =>
    have hx := h x (by simp [AOp.opds])
    simp only [apure, St.av, hx]
    split
    · rw [bound_same (o := lo) fun x hx => h x (by simp [AOp.opds, hx]), bound_same (o := hi) fun x hx => h x (by simp [AOp.opds, hx])]
    · rfl
  case sliceS d x lo hi =>
    have hx := h x (by simp [AOp.opds])
    simp only [apure, St.av, hx]
    split
    · rw [bound_same (o := lo) fun x hx => h x (by simp [AOp.opds, hx]), bound_same (o := hi) fun x hx => h x (by simp [AOp.opds, hx])]
    · rfl
  case sliceA d len sz ag x lo hi =>
    have hx := h x (by simp [AOp.opds])
    simp only [apure, St.av, hx]
    split
    · rw [bound_same (o := lo) fun x hx => h x (by simp [AOp.opds, hx]), bound_same (o := hi) fun x hx => h x (by simp [AOp.opds, hx])]
    · rfl
  all_goals simp [AOp.opds, apure, St.av] at h ⊢
  all_goals simp [h]

def AOp.isPure : AOp → Bool
  | .mov .. | .nils .. | .box .. | .alloc .. | .take .. | .store .. | .bslice .. | .append .. | .make .. | .makeL .. | .cloneL .. | .makeMap .. | .lookup .. | .mapUpd .. | .call .. | .callv .. | .panic _ => false
  | _ => true
theorem aop_pure {rec : Rec} {o : AOp} (h : o.isPure = true) : aop rec st o = match apure st o, o.dst with | some s, some d => normal (st.put d s) | _, _ => none := by
  cases o <;> first | rfl | (simp [AOp.isPure] at h)

/-- A pure operation makes no address of a block that none of its operands holds. -/
theorem apure_nol {o : AOp} {s : SV} {d : Nat} (h : apure st o = some s) (hn : NoL st d) : s.aims d = false := by
  have hsv : ∀ x, (st.sv x).aims d = false := by
    intro x
    cases x with
    | s k => exact hn k
    | c a => rfl
  have hl : ∀ x d' off, st.sv x = .l d' off → (d' == d) = false := fun x d' off e => by
    have := hsv x; rw [e] at this; exact this
  have hls : ∀ x d' sz ag n, st.sv x = .ls d' sz ag n → (d' == d) = false := fun x d' sz ag n e => by
    have := hsv x; rw [e] at this; exact this
  cases o <;> simp only [apure] at h
  all_goals (repeat' split at h)
  all_goals first
    | (cases h; done)
    | (simp at h; done)
    | (obtain rfl := Option.some.inj h; rfl)
    | (simp only [Option.map_eq_some_iff] at h; obtain ⟨_, _, rfl⟩ := h; rfl)
    | (simp only [Option.map_eq_some_iff] at h; obtain ⟨_, _, rfl⟩ := h; split <;> rfl)
    | (obtain rfl := Option.some.inj h; exact hl _ _ _ (by assumption))
    | (obtain rfl := Option.some.inj h; exact hls _ _ _ _ _ (by assumption))
    | (obtain rfl := Option.some.inj h; exact hsv _)
    | (obtain rfl := Option.some.inj h; split <;> exact hsv _)
end

/-! ### an operation is local -/
section
variable {st st' st1 : St}

theorem nol_put {d k : Nat} {s : SV} (h : NoL st d) (hs : s.aims d = false) : NoL (st.put k s) d := by
  intro j
  simp only [St.put, Slots.get_set]
  split
  · exact hs
  · exact h j
theorem nol_own {d : Nat} {own : List (Nat × Nat)} (h : NoL st d) : NoL { st with own := own } d := h
theorem nol_loc {d : Nat} {l : Locs} (h : NoL st d) : NoL { st with loc := l } d := h
theorem nol_sv {d : Nat} (h : NoL st d) (x : Opd) : (st.sv x).aims d = false := by
  cases x with
  | s k => exact h k
  | c a => rfl
theorem aims_kill {d : Nat} {s : SV} (h : s.aims d = false) : s.kill d = s := by
  cases s with
  | l d' off =>
    have : d' ≠ d := by simpa [SV.aims] using h
    simp [SV.kill, this]
  | ls d' sz ag n =>
    have : d' ≠ d := by simpa [SV.aims] using h
    simp [SV.kill, this]
  | _ => rfl
theorem kill_nol {d : Nat} (h : NoL st d) (k : Nat) : (st.σ.kill d).get k = st.σ.get k := by
  rw [Slots.get_kill, aims_kill (h k)]

theorem Agree.opd {o : AOper} (h : Agree o st st') {x : Opd} (hx : x ∈ o.op.opds) : st.sv x = st'.sv x := by
  refine sv_same fun k hk => ?_
  have := h.sl k (.inl (by simp only [AOper.rd, List.mem_append, AOp.rd, List.mem_flatMap]; exact .inr ⟨x, hx, hk⟩))
  simp only [ob, Prod.mk.injEq] at this
  exact this.1
theorem Agree.rt {o : AOper} (h : Agree o st st') {x : Opd} (hx : x ∈ o.op.opds) {k : Nat} (hk : k ∈ x.rd) : rightOf st.own k = rightOf st'.own k := by
  have := h.sl k (.inl (by simp only [AOper.rd, List.mem_append, AOp.rd, List.mem_flatMap]; exact .inr ⟨x, hx, hk⟩))
  simp only [ob, Prod.mk.injEq] at this
  exact this.2
theorem Agree.wr {o : AOper} (h : Agree o st st') {k : Nat} (hk : k ∈ o.op.wr) : ob st k = ob st' k := h.sl k (.inr hk)

/-- A value is made and laid into a slot. -/
theorem put_local {o : AOper} (h : Agree o st st') {d : Nat} (hd : o.op.dst = some d) (hu : o.op.used = []) {s : SV} (hs : ∀ d', NoL st d' → o.mem ≠ .new d' → s.aims d' = false) :
    LocalTo o st st' (st.put d s) (st'.put d s) := by
  have hw : o.op.wr = [d] := by simp [AOp.wr, hd, hu]
  refine ⟨⟨fun k hk => ?_, fun _ _ => rfl, fun _ => rfl⟩, ⟨fun k hk => ?_, fun _ _ => rfl, fun _ => rfl⟩, fun k hk => ?_, fun d' => .inr ⟨rfl, rfl⟩, .inr ⟨rfl, rfl⟩, fun d' h1 h2 => nol_put h1 (hs d' h1 h2)⟩
  · rw [hw] at hk; simp at hk; rw [ob_put, if_neg (fun e => hk e.symm)]
  · rw [hw] at hk; simp at hk; rw [ob_put, if_neg (fun e => hk e.symm)]
  · rw [hw] at hk; simp at hk; subst hk; rw [ob_put, ob_put, if_pos rfl, if_pos rfl]

theorem putR_local {o : AOper} (h : Agree o st st') {d e : Nat} (hd : o.op.dst = some d) (hu : o.op.used = []) {s : SV} (hs : ∀ d', NoL st d' → o.mem ≠ .new d' → s.aims d' = false) :
    LocalTo o st st' ((st.put d s).right d e) ((st'.put d s).right d e) := by
  obtain ⟨h1, h2, h3, h4, h5, h6⟩ := put_local h hd hu hs
  have hw : o.op.wr = [d] := by simp [AOp.wr, hd, hu]
  refine ⟨⟨fun k hk => ?_, h1.lc, h1.S⟩, ⟨fun k hk => ?_, h2.lc, h2.S⟩, fun k hk => ?_, h4, h5, h6⟩
  · rw [ob_right, if_neg (fun e => hk (by rw [hw, e]; simp)), h1.sl k hk]
  · rw [ob_right, if_neg (fun e => hk (by rw [hw, e]; simp)), h2.sl k hk]
  · rw [ob_right, ob_right, h3 k hk]

theorem put_local' {o : AOper} {d k0 : Nat} (hw : ∀ k, k ∈ o.op.wr ↔ k = d ∨ k = k0) {s : SV} (hs : ∀ d', NoL st d' → o.mem ≠ .new d' → s.aims d' = false) (hk0 : st.σ.get k0 = st'.σ.get k0) :
    LocalTo o st st' (St.put { st with own := st.drop k0 } d s) (St.put { st' with own := st'.drop k0 } d s) := by
  refine ⟨⟨fun k hk => ?_, fun _ _ => rfl, fun _ => rfl⟩, ⟨fun k hk => ?_, fun _ _ => rfl, fun _ => rfl⟩, fun k hk => ?_, fun d' => .inr ⟨rfl, rfl⟩, .inr ⟨rfl, rfl⟩, fun d' h1 h2 => nol_put (nol_own h1) (hs d' h1 h2)⟩
  · rw [hw] at hk; rw [ob_put, if_neg (fun e => hk (.inl e.symm)), ob_drop, if_neg (fun e => hk (.inr e.symm))]
  · rw [hw] at hk; rw [ob_put, if_neg (fun e => hk (.inl e.symm)), ob_drop, if_neg (fun e => hk (.inr e.symm))]
  · rw [hw] at hk
    rw [ob_put, ob_put, ob_drop, ob_drop]
    rcases hk with rfl | rfl
    · simp
    · split
      · rfl
      · simp [ob, hk0]
theorem right_local {o : AOper} {d e : Nat} (hd : d ∈ o.op.wr) {x x' y y' : St} (h : LocalTo o x x' y y') : LocalTo o x x' (y.right d e) (y'.right d e) := by
  obtain ⟨h1, h2, h3, h4, h5, h6⟩ := h
  refine ⟨⟨fun k hk => ?_, h1.lc, h1.S⟩, ⟨fun k hk => ?_, h2.lc, h2.S⟩, fun k hk => ?_, h4, h5, h6⟩
  · rw [ob_right, if_neg (fun e => hk (by rw [← e]; exact hd)), h1.sl k hk]
  · rw [ob_right, if_neg (fun e => hk (by rw [← e]; exact hd)), h2.sl k hk]
  · rw [ob_right, ob_right, h3 k hk]

/-- A step that changes memory alone. -/
structure Mem1 (o : AOper) (st st' st1 st1' : St) : Prop where
  σ : st1.σ = st.σ
  σ' : st1'.σ = st'.σ
  own : st1.own = st.own
  own' : st1'.own = st'.own
  fr : ∀ d, ¬ o.may d → st1.loc.get d = st.loc.get d
  fr' : ∀ d, ¬ o.may d → st1'.loc.get d = st'.loc.get d
  frS : o.mem ≠ .wr none → st1.S = st.S
  frS' : o.mem ≠ .wr none → st1'.S = st'.S
  lc : ∀ d, st1.loc.get d = st1'.loc.get d ∨ (st1.loc.get d = st.loc.get d ∧ st1'.loc.get d = st'.loc.get d)
  S : st1.S = st1'.S ∨ (st1.S = st.S ∧ st1'.S = st'.S)

theorem mem1_loc {o : AOper} {d : Nat} (hd : o.may d) (bx : Bx) : Mem1 o st st' { st with loc := st.loc.set d bx } { st' with loc := st'.loc.set d bx } := by
  refine ⟨rfl, rfl, rfl, rfl, fun d' hd' => ?_, fun d' hd' => ?_, fun _ => rfl, fun _ => rfl, fun d' => ?_, .inr ⟨rfl, rfl⟩⟩
  · have : ¬ d = d' := fun e => hd' (e ▸ hd)
    simp [Locs.get_set, this]
  · have : ¬ d = d' := fun e => hd' (e ▸ hd)
    simp [Locs.get_set, this]
  · by_cases e : d = d'
    · subst e; left; simp [Locs.get_set]
    · right; simp [Locs.get_set, e]
theorem mem1_S {o : AOper} (ho : o.mem = .wr none) (S : List Bx) : Mem1 o st st' { st with S := S } { st' with S := S } :=
  ⟨rfl, rfl, rfl, rfl, fun _ _ => rfl, fun _ _ => rfl, fun h => absurd ho h, fun h => absurd ho h, fun _ => .inr ⟨rfl, rfl⟩, .inl rfl⟩

/-- A store is local. -/
theorem astore_local {o : AOper} {x : SV} {new : List AV} {e : Option Nat} {nl : List (Nat × Nat)} (hm : o.mem = .wr o.blk) (hb : ∀ m, o.blk = some m → (∃ off, x = .l m off) ∨ ∃ cs, x = .v (.sptr cs))
    (hl : ∀ d off, x = .l d off → st.loc.get d = st'.loc.get d) (hS : o.mem = .wr none → st.S = st'.S) (h : astore st x new e nl = some st1) :
    ∃ st1', astore st' x new e nl = some st1' ∧ Mem1 o st st' st1 st1' := by
  unfold astore at h ⊢
  dsimp only at h ⊢
  split at h
  · rename_i d off
    have he := hl d off rfl
    rw [← he]
    split at h
    · rename_i bx hbx
      simp only [Option.map_eq_some_iff] at h
      obtain ⟨bx', h1, rfl⟩ := h
      have hmd : o.may d := by
        unfold AOper.may
        rw [hm]
        cases hq : o.blk with
        | none => trivial
        | some m =>
          rcases hb m hq with ⟨off', e⟩ | ⟨cs, e⟩
          · simp only [SV.l.injEq] at e; exact e.1.symm
          · cases e
      exact ⟨_, by rw [h1]; rfl, mem1_loc hmd bx'⟩
    · cases h
  · rename_i i off
    have hq : o.blk = none := by
      cases hq : o.blk with
      | none => rfl
      | some m => rcases hb m hq with ⟨off', e⟩ | ⟨cs, e⟩ <;> cases e
    have hmn : o.mem = .wr none := by rw [hm, hq]
    have he := hS hmn
    have he' : st.cellBox i = st'.cellBox i := by unfold St.cellBox; rw [he]
    rw [← he', ← he]
    split at h
    · rename_i bx hbx
      simp only [Option.map_eq_some_iff] at h
      obtain ⟨bx', h1, rfl⟩ := h
      refine ⟨{ st' with S := st.S.set i bx' }, by rw [h1]; simp, mem1_S hmn _⟩
    · cases h
  · cases h

/-- Such a step, and no slot. -/
theorem mem1_local {o : AOper} {st1' : St} (h : Agree o st st') (m : Mem1 o st st' st1 st1') : LocalTo o st st' st1 st1' := by
  have q : ∀ k, ob st1 k = ob st k := fun k => by simp [ob, m.σ, m.own]
  have q' : ∀ k, ob st1' k = ob st' k := fun k => by simp [ob, m.σ', m.own']
  refine ⟨⟨fun k _ => q k, m.fr, m.frS⟩, ⟨fun k _ => q' k, m.fr', m.frS'⟩, fun k hk => by rw [q, q', h.wr hk], m.lc, m.S, fun d hd _ k => by rw [m.σ]; exact hd k⟩
/-- A step before such a step. -/
theorem mem1_drop {o : AOper} {k0 : Nat} (hk0 : k0 ∈ o.op.wr) {st1' : St} (h : Agree o st st') (m : Mem1 o { st with own := st.drop k0 } { st' with own := st'.drop k0 } st1 st1') : LocalTo o st st' st1 st1' := by
  have q : ∀ k, ob st1 k = ob { st with own := st.drop k0 } k := fun k => by simp [ob, m.σ, m.own]
  have q' : ∀ k, ob st1' k = ob { st' with own := st'.drop k0 } k := fun k => by simp [ob, m.σ', m.own']
  refine ⟨⟨fun k hk => ?_, m.fr, m.frS⟩, ⟨fun k hk => ?_, m.fr', m.frS'⟩, fun k hk => ?_, m.lc, m.S, fun d hd _ k => by rw [m.σ]; exact hd k⟩
  · rw [q, ob_drop, if_neg (by intro e; exact hk (e ▸ hk0))]
  · rw [q', ob_drop, if_neg (by intro e; exact hk (e ▸ hk0))]
  · rw [q, q', ob_drop, ob_drop, h.wr hk]
/-- A slot behind such a step. -/
theorem mem1_put {o : AOper} {d : Nat} (hw : o.op.wr = [d]) {st1' : St} {s : SV} (hs : ∀ d', NoL st d' → o.mem ≠ .new d' → s.aims d' = false) (m : Mem1 o st st' st1 st1') : LocalTo o st st' (st1.put d s) (st1'.put d s) := by
  have q : ∀ k, ob st1 k = ob st k := fun k => by simp [ob, m.σ, m.own]
  have q' : ∀ k, ob st1' k = ob st' k := fun k => by simp [ob, m.σ', m.own']
  refine ⟨⟨fun k hk => ?_, m.fr, m.frS⟩, ⟨fun k hk => ?_, m.fr', m.frS'⟩, fun k hk => ?_, m.lc, m.S, fun d' hd hn => nol_put (fun k => by rw [m.σ]; exact hd k) (hs d' hd hn)⟩
  · rw [hw] at hk; simp at hk; rw [ob_put, if_neg (fun e => hk e.symm), q]
  · rw [hw] at hk; simp at hk; rw [ob_put, if_neg (fun e => hk e.symm), q']
  · rw [hw] at hk; simp at hk; subst hk; rw [ob_put, ob_put, if_pos rfl, if_pos rfl]
end
end Go.Av

/- Every operation is local. -/
set_option linter.unusedVariables false
set_option linter.unusedSimpArgs false
set_option linter.unusedSectionVars false
namespace Go.Av
open Go

section
variable {st st' st1 : St}

theorem quiet_some {rec : Rec} {f : Nat} {as : List AV} {S S' : List Bx} {e : AEnd} (h : rec.quiet f as S = some (e, S')) : S' = S ∧ ∃ r own, e = .ret r own := by
  unfold Rec.quiet at h
  split at h
  · split at h
    · rename_i hS
      simp only [Option.some.injEq, Prod.mk.injEq] at h
      exact ⟨h.2 ▸ hS, _, _, h.1.symm⟩
    · cases h
  · cases h

theorem mem1_refl {o : AOper} (st st' : St) : Mem1 o st st' st st' := ⟨rfl, rfl, rfl, rfl, fun _ _ => rfl, fun _ _ => rfl, fun _ => rfl, fun _ => rfl, fun _ => .inr ⟨rfl, rfl⟩, .inr ⟨rfl, rfl⟩⟩

theorem finish_local {o : AOper} (h : Agree o st st') {d : Option Nat} (hd : o.op.dst = d) (hu : o.op.used = []) {rec : Rec} {f : Nat} {as : List AV} {e : AEnd} {S' : List Bx} (hr : rec.quiet f as st.S = some (e, S')) (hS : st.S = st'.S) {x : AEx}
    (hx : afinish d st e S' = some (x, st1)) : x = .normal ∧ ∃ st1', afinish d st' e S' = some (.normal, st1') ∧ LocalTo o st st' st1 st1' := by
  obtain ⟨rfl, r, own, rfl⟩ := quiet_some hr
  have e1 : ({ st with S := st.S } : St) = st := rfl
  have e2 : ({ st' with S := st.S } : St) = st' := by rw [hS]
  unfold afinish at hx ⊢
  cases d with
  | none =>
    simp only [normal, Option.some.injEq, Prod.mk.injEq] at hx
    obtain ⟨rfl, rfl⟩ := hx
    refine ⟨rfl, st', by simp only [normal, e2], ?_⟩
    exact mem1_local h (mem1_refl st st')
  | some d =>
    cases own with
    | none =>
      simp only [normal, Option.some.injEq, Prod.mk.injEq] at hx
      obtain ⟨rfl, rfl⟩ := hx
      exact ⟨rfl, _, by simp only [normal, e2], put_local h hd hu fun _ _ _ => rfl⟩
    | some te =>
      simp only [normal, Option.some.injEq, Prod.mk.injEq] at hx
      obtain ⟨rfl, rfl⟩ := hx
      exact ⟨rfl, _, by simp only [normal, e2], putR_local h hd hu fun _ _ _ => rfl⟩

theorem aopB_local {rec : Rec} {o : AOper} (h : Agree o st st') (hbad : o.mem ≠ .bad) (hnew : ∀ d, o.mem = .new d → NoL st d ∧ NoL st' d) {x : AEx} (hx : aopB rec.quiet st o = some (x, st1)) :
    x = .normal ∧ ∃ st1', aopB rec.quiet st' o = some (.normal, st1') ∧ LocalTo o st st' st1 st1' := by
  unfold aopB at hx ⊢
  have hbo : blkOk st o = blkOk st' o := by
    unfold blkOk
    split
    · rename_i m x hm hx
      have : x ∈ o.op.opds := by
        revert hx
        cases o.op <;> simp [AOp.addr, AOp.opds] <;> intro h <;> simp [h]
      rw [h.opd this]
    · rfl
  rw [← hbo]
  split at hx
  rotate_left
  · cases hx
  rename_i hb
  rw [if_pos hb]
  have haddr : ∀ x, o.op.addr = some x → ∀ d off, st.sv x = .l d off → st.loc.get d = st'.loc.get d := by
    intro x hxa d off hsv
    refine h.lc x d off hxa hsv fun m hm => ?_
    simp only [blkOk, hm, hxa, hsv, beq_iff_eq] at hb
    exact hb.symm
  by_cases hp : o.op.isPure = true
  · rw [aop_pure hp] at hx ⊢
    have hc : ∀ x, o.op.addr = some x → st.cellsAt (st.sv x) = st'.cellsAt (st.sv x) := by
      intro x hxa
      cases hq : o.blk with
      | none =>
        have hmem : o.mem = .rd none := by
          revert hp hxa
          unfold AOper.mem
          cases o.op <;> simp [AOp.isPure, AOp.addr, hq]
        exact cells_same (fun d off e => haddr x hxa d off e) (h.S (.inl hmem))
      | some m =>
        simp only [blkOk, hq, hxa] at hb
        split at hb
        · rename_i d off hsv
          rw [hsv]
          simp only [St.cellsAt, haddr x hxa d off hsv]
        · rename_i cs hsv
          rw [hsv]
          rfl
        · cases hb
    have he := apure_same (o := o.op) (fun x hx => h.opd hx) hc
    rw [← he]
    split at hx
    · rename_i s d hs hd
      simp only [normal, Option.some.injEq, Prod.mk.injEq] at hx
      obtain ⟨rfl, rfl⟩ := hx
      have hu : o.op.used = [] := by
        revert hp
        cases o.op <;> simp [AOp.isPure, AOp.used]
      refine ⟨rfl, _, rfl, put_local h hd hu fun d' hn _ => apure_nol hs hn⟩
    · cases hx
  · obtain ⟨op, gd, blk⟩ := o
    simp only at hx hp haddr hbad hnew ⊢
    have sv : ∀ {x : Opd}, x ∈ op.opds → st.sv x = st'.sv x := fun hx => h.opd hx
    cases op
    all_goals first
      | (simp [AOp.isPure] at hp; done)
      | skip
    case mov d y tk =>
      have hy := sv (x := y) (by simp [AOp.opds])
      cases tk with
      | false =>
        simp only [aop, Bool.false_eq_true, if_false, normal, Option.some.injEq, Prod.mk.injEq] at hx ⊢
        obtain ⟨rfl, rfl⟩ := hx
        rw [← hy]
        exact ⟨rfl, _, ⟨trivial, rfl⟩, put_local h rfl rfl fun d' hn _ => nol_sv hn y⟩
      | true =>
        simp only [aop, if_true, normal, Option.some.injEq, Prod.mk.injEq] at hx ⊢
        obtain ⟨rfl, rfl⟩ := hx
        refine ⟨rfl, _, ⟨trivial, rfl⟩, ?_⟩
        cases y with
        | c a => exact put_local h rfl rfl fun d' hn _ => rfl
        | s k =>
          have hr := h.rt (x := .s k) (by simp [AOp.opds]) (k := k) (by simp [Opd.rd])
          have hy' : st.σ.get k = st'.σ.get k := hy
          unfold St.move
          simp only
          rw [← hr, ← hy']
          have hw : ∀ j, j ∈ AOp.wr (.mov d (.s k) true) ↔ j = d ∨ j = k := by intro j; simp [AOp.wr, AOp.dst, AOp.used, Opd.rd]
          cases hro : rightOf st.own k with
          | none =>
            simp only
            have hp : LocalTo { op := .mov d (.s k) true, gd := gd, blk := blk } st st' (st.put d (st.σ.get k)) (st'.put d (st.σ.get k)) := by
              refine ⟨⟨fun j hj => ?_, fun _ _ => rfl, fun _ => rfl⟩, ⟨fun j hj => ?_, fun _ _ => rfl, fun _ => rfl⟩, fun j hj => ?_, fun _ => .inr ⟨rfl, rfl⟩, .inr ⟨rfl, rfl⟩, fun d' hn _ => nol_put hn (hn k)⟩
              · rw [ob_put, if_neg (by intro e; exact hj ((hw j).2 (.inl e.symm)))]
              · rw [ob_put, if_neg (by intro e; exact hj ((hw j).2 (.inl e.symm)))]
              · rw [ob_put, ob_put, h.wr hj]
            exact hp
          | some e =>
            simp only
            by_cases hkd : k = d
            · rw [if_pos hkd, if_pos hkd]
              exact mem1_local h (mem1_refl st st')
            · rw [if_neg hkd, if_neg hkd]
              exact right_local (by simp [hw]) (put_local' (k0 := k) hw (fun d' hn _ => hn k) hy')
    case nils d sz e =>
      simp only [aop, normal, Option.some.injEq, Prod.mk.injEq] at hx ⊢
      obtain ⟨rfl, rfl⟩ := hx
      exact ⟨rfl, _, ⟨trivial, rfl⟩, putR_local h rfl rfl fun d' hn _ => rfl⟩
    case box d sh y =>
      have hy := sv (x := y) (by simp [AOp.opds])
      cases sh with
      | true =>
        have hm : AOper.mem { op := .box d true y, gd := gd, blk := blk } = .wr none := by simp [AOper.mem]
        have hS := h.S (.inr (.inl hm))
        simp only [aop, St.av, ← hy, ← hS] at hx ⊢
        split at hx
        · rename_i a ha
          split at hx
          · rename_i hda
            simp only [if_true, normal, Option.some.injEq, Prod.mk.injEq] at hx
            obtain ⟨rfl, rfl⟩ := hx
            exact ⟨rfl, _, by simp only [if_true, if_pos hda]; rfl, mem1_put rfl (fun _ _ _ => rfl) (mem1_S hm _)⟩
          · cases hx
        · cases hx
      | false =>
        have hm : AOper.mem { op := .box d false y, gd := gd, blk := blk } = .new d := by simp [AOper.mem]
        obtain ⟨n1, n2⟩ := hnew d hm
        simp only [aop, St.av, ← hy] at hx ⊢
        split at hx
        · rename_i a ha
          split at hx
          · rename_i hda
            simp only [Bool.false_eq_true, if_false, normal, Option.some.injEq, Prod.mk.injEq] at hx
            obtain ⟨rfl, rfl⟩ := hx
            refine ⟨rfl, _, by simp only [Bool.false_eq_true, if_false, if_pos hda]; rfl, ?_⟩
            refine ⟨⟨fun k hk => ?_, fun d' hd' => ?_, fun _ => rfl⟩, ⟨fun k hk => ?_, fun d' hd' => ?_, fun _ => rfl⟩, fun k hk => ?_, fun d' => ?_, .inr ⟨rfl, rfl⟩, fun d' hn hne => ?_⟩
            · have hk' : ¬ d = k := by intro e; exact hk (by simp [AOp.wr, AOp.dst, AOp.used, e])
              rw [ob_put, if_neg hk']; simp [ob, kill_nol n1]
            · have : ¬ d = d' := by intro e; exact hd' (by unfold AOper.may; rw [hm]; exact e)
              simp [St.put, Locs.get_set, this]
            · have hk' : ¬ d = k := by intro e; exact hk (by simp [AOp.wr, AOp.dst, AOp.used, e])
              rw [ob_put, if_neg hk']; simp [ob, kill_nol n2]
            · have : ¬ d = d' := by intro e; exact hd' (by unfold AOper.may; rw [hm]; exact e)
              simp [St.put, Locs.get_set, this]
            · have hk' : k = d := by simpa [AOp.wr, AOp.dst, AOp.used] using hk
              subst hk'
              rw [ob_put, ob_put, if_pos rfl, if_pos rfl]
            · by_cases e : d = d'
              · left; simp [St.put, Locs.get_set, e]
              · right; simp [St.put, Locs.get_set, e]
            · have hdd : d ≠ d' := by intro e; exact hne (by rw [hm, e])
              exact nol_put (fun k => by simp only [kill_nol n1]; exact hn k) (by simp only [SV.aims, beq_eq_false_iff_ne]; exact hdd)
          · cases hx
        · cases hx
    case alloc d sh z own =>
      cases sh with
      | true =>
        have hm : AOper.mem { op := .alloc d true z own, gd := gd, blk := blk } = .wr none := by simp [AOper.mem]
        have hS := h.S (.inr (.inl hm))
        simp only [aop, ← hS, if_true, normal, Option.some.injEq, Prod.mk.injEq] at hx ⊢
        obtain ⟨rfl, rfl⟩ := hx
        exact ⟨rfl, _, ⟨trivial, rfl⟩, mem1_put rfl (fun _ _ _ => rfl) (mem1_S hm _)⟩
      | false =>
        have hm : AOper.mem { op := .alloc d false z own, gd := gd, blk := blk } = .new d := by simp [AOper.mem]
        obtain ⟨n1, n2⟩ := hnew d hm
        simp only [aop, Bool.false_eq_true, if_false, normal, Option.some.injEq, Prod.mk.injEq] at hx ⊢
        obtain ⟨rfl, rfl⟩ := hx
        refine ⟨rfl, _, ⟨trivial, rfl⟩, ?_⟩
        refine ⟨⟨fun k hk => ?_, fun d' hd' => ?_, fun _ => rfl⟩, ⟨fun k hk => ?_, fun d' hd' => ?_, fun _ => rfl⟩, fun k hk => ?_, fun d' => ?_, .inr ⟨rfl, rfl⟩, fun d' hn hne => ?_⟩
        · have hk' : ¬ d = k := by intro e; exact hk (by simp [AOp.wr, AOp.dst, AOp.used, e])
          rw [ob_put, if_neg hk']; simp [ob, kill_nol n1]
        · have : ¬ d = d' := by intro e; exact hd' (by unfold AOper.may; rw [hm]; exact e)
          simp [St.put, Locs.get_set, this]
        · have hk' : ¬ d = k := by intro e; exact hk (by simp [AOp.wr, AOp.dst, AOp.used, e])
          rw [ob_put, if_neg hk']; simp [ob, kill_nol n2]
        · have : ¬ d = d' := by intro e; exact hd' (by unfold AOper.may; rw [hm]; exact e)
          simp [St.put, Locs.get_set, this]
        · have hk' : k = d := by simpa [AOp.wr, AOp.dst, AOp.used] using hk
          subst hk'
          rw [ob_put, ob_put, if_pos rfl, if_pos rfl]
        · by_cases e : d = d'
          · left; simp [St.put, Locs.get_set, e]
          · right; simp [St.put, Locs.get_set, e]
        · have hdd : d ≠ d' := by intro e; exact hne (by rw [hm, e])
          exact nol_put (fun k => by simp only [kill_nol n1]; exact hn k) (by simp only [SV.aims, beq_eq_false_iff_ne]; exact hdd)
    case take d y =>
      have hy := sv (x := y) (by simp [AOp.opds])
      have hm : AOper.mem { op := .take d y, gd := gd, blk := blk } = .wr blk := rfl
      have hw : AOp.wr (.take d y) = [d] := rfl
      simp only [aop, ← hy] at hx ⊢
      split at hx
      · rename_i b off hsv
        have hl := haddr y rfl b off hsv
        have hmay : AOper.may { op := .take d y, gd := gd, blk := blk } b := by
          unfold AOper.may
          rw [hm]
          cases hq : blk with
          | none => trivial
          | some m =>
            simp only [blkOk, hq, AOp.addr, hsv, beq_iff_eq] at hb
            exact hb.symm
        rw [← hl]
        split at hx
        · rename_i bx hbx
          split at hx
          · rename_i a e ha he
            simp only [normal, Option.some.injEq, Prod.mk.injEq] at hx
            obtain ⟨rfl, rfl⟩ := hx
            exact ⟨rfl, _, rfl, right_local (by simp [hw]) (mem1_put hw (fun _ _ _ => rfl) (mem1_loc hmay _))⟩
          · rename_i a ha he
            simp only [normal, Option.some.injEq, Prod.mk.injEq] at hx
            obtain ⟨rfl, rfl⟩ := hx
            exact ⟨rfl, _, rfl, put_local h rfl rfl fun _ _ _ => rfl⟩
          · cases hx
        · cases hx
      · rename_i i off hsv
        have hq : blk = none := by
          cases hq : blk with
          | none => rfl
          | some m => simp only [blkOk, hq, AOp.addr, hsv] at hb; cases hb
        subst hq
        have hS := h.S (.inr (.inl hm))
        have hS' : st.cellBox i = st'.cellBox i := by simp only [St.cellBox, hS]
        rw [← hS', ← hS]
        split at hx
        · rename_i bx hbx
          split at hx
          · rename_i a e ha he
            simp only [normal, Option.some.injEq, Prod.mk.injEq] at hx
            obtain ⟨rfl, rfl⟩ := hx
            exact ⟨rfl, _, rfl, right_local (by simp [hw]) (mem1_put hw (fun _ _ _ => rfl) (mem1_S hm _))⟩
          · rename_i a ha he
            simp only [normal, Option.some.injEq, Prod.mk.injEq] at hx
            obtain ⟨rfl, rfl⟩ := hx
            exact ⟨rfl, _, rfl, put_local h rfl rfl fun _ _ _ => rfl⟩
          · cases hx
        · cases hx
      · cases hx
    case store y z n tk nl =>
      have hy := sv (x := y) (by simp [AOp.opds])
      have hz := sv (x := z) (by simp [AOp.opds])
      have hm : AOper.mem { op := .store y z n tk nl, gd := gd, blk := blk } = .wr blk := rfl
      have hbk : ∀ m, blk = some m → (∃ off, st.sv y = .l m off) ∨ ∃ cs, st.sv y = .v (.sptr cs) := by
        intro m hq
        simp only [blkOk, hq, AOp.addr] at hb
        split at hb
        · rename_i d off hsv
          simp only [beq_iff_eq] at hb
          subst hb
          exact .inl ⟨off, hsv⟩
        · rename_i cs hsv
          exact .inr ⟨cs, hsv⟩
        · cases hb
      have hS : AOper.mem { op := .store y z n tk nl, gd := gd, blk := blk } = .wr none → st.S = st'.S := fun e => h.S (.inr (.inl e))
      have hl := haddr y rfl
      simp only [aop, St.av, ← hz, ← hy] at hx ⊢
      split at hx
      · rename_i a ha
        split at hx
        · rename_i hda
          rw [if_pos hda]
          have plain : ∀ {st1 : St} {x : AEx}, (astore st (st.sv y) a.cells none nl).bind normal = some (x, st1) →
              x = .normal ∧ ∃ st1', (astore st' (st.sv y) a.cells none nl).bind normal = some (.normal, st1') ∧ LocalTo { op := .store y z n tk nl, gd := gd, blk := blk } st st' st1 st1' := by
            intro st1 x hx
            cases hs : astore st (st.sv y) a.cells none nl with
            | none => rw [hs] at hx; cases hx
            | some s1 =>
              rw [hs] at hx
              simp only [Option.bind_some, normal, Option.some.injEq, Prod.mk.injEq] at hx
              obtain ⟨rfl, rfl⟩ := hx
              obtain ⟨s1', q1, q2⟩ := astore_local (o := { op := .store y z n tk nl, gd := gd, blk := blk }) (st' := st') hm hbk hl hS hs
              exact ⟨rfl, s1', by rw [q1]; rfl, mem1_local h q2⟩
          cases tk with
          | false => exact plain hx
          | true =>
            cases z with
            | c c => exact plain hx
            | s k =>
              have hr := h.rt (x := .s k) (by simp [AOp.opds]) (k := k) (by simp [Opd.rd])
              simp only at hx ⊢
              rw [← hr]
              cases hro : rightOf st.own k with
              | none => rw [hro] at hx; exact plain hx
              | some e =>
                rw [hro] at hx
                simp only at hx ⊢
                split at hx
                · cases hx
                · rename_i hag
                  rw [if_neg hag]
                  cases hs : astore { st with own := st.drop k } (st.sv y) a.cells (some e) nl with
                  | none => rw [hs] at hx; cases hx
                  | some s1 =>
                    rw [hs] at hx
                    simp only [Option.bind_some, normal, Option.some.injEq, Prod.mk.injEq] at hx
                    obtain ⟨rfl, rfl⟩ := hx
                    obtain ⟨s1', q1, q2⟩ := astore_local (o := { op := .store y (.s k) n true nl, gd := gd, blk := blk }) (st := { st with own := st.drop k }) (st' := { st' with own := st'.drop k }) hm hbk hl hS hs
                    exact ⟨rfl, s1', by rw [q1]; rfl, mem1_drop (k0 := k) (by simp [AOp.wr, AOp.used, Opd.rd]) h q2⟩
        · cases hx
      · cases hx
    case bslice d sz e xs =>
      simp only [aop] at hx ⊢
      rw [← avs_same (st := st) (st' := st') (xs := xs) fun x hx => sv (by simpa [AOp.opds] using hx)]
      split at hx
      · rename_i as has
        split at hx
        · rename_i hall
          simp only [normal, Option.some.injEq, Prod.mk.injEq] at hx
          obtain ⟨rfl, rfl⟩ := hx
          exact ⟨rfl, _, by rw [if_pos hall]; rfl, putR_local h rfl rfl fun d' hn _ => rfl⟩
        · cases hx
      · cases hx
    case append d sz e bytes y z =>
      have hy := sv (x := y) (by simp [AOp.opds])
      have hz := sv (x := z) (by simp [AOp.opds])
      simp only [aop, St.av, ← hy, ← hz] at hx ⊢
      split at hx
      · rename_i k sz1 as sz2 bs h1 h2
        have hr := h.rt (x := .s k) (by simp [AOp.opds]) (k := k) (by simp [Opd.rd])
        rw [← hr]
        split at hx
        · rename_i e' he
          split at hx
          · rename_i hc
            simp only [normal, Option.some.injEq, Prod.mk.injEq] at hx
            obtain ⟨rfl, rfl⟩ := hx
            refine ⟨rfl, _, by rw [if_pos hc]; rfl, ?_⟩
            exact right_local (by simp [AOp.wr, AOp.dst]) (put_local' (k0 := k) (by intro j; simp [AOp.wr, AOp.dst, AOp.used, Opd.rd]) (fun d' hn _ => rfl) hy)
          · cases hx
        · cases hx
      · cases hx
    case make d sz e bytes z n c =>
      have hn := sv (x := n) (by simp [AOp.opds])
      have hc := sv (x := c) (by simp [AOp.opds])
      simp only [aop, St.av, ← hn, ← hc] at hx ⊢
      split at hx
      · split at hx
        · rename_i hcc
          simp only [normal, Option.some.injEq, Prod.mk.injEq] at hx
          obtain ⟨rfl, rfl⟩ := hx
          exact ⟨rfl, _, by rw [if_pos hcc]; rfl, putR_local h rfl rfl fun d' hn _ => rfl⟩
        · cases hx
      · cases hx
    case makeL d sz bytes ag z n c =>
      have hn' := sv (x := n) (by simp [AOp.opds])
      have hc := sv (x := c) (by simp [AOp.opds])
      have hm : AOper.mem { op := .makeL d sz bytes ag z n c, gd := gd, blk := blk } = .new d := by simp [AOper.mem]
      obtain ⟨n1, n2⟩ := hnew d hm
      simp only [aop, St.av, ← hn', ← hc] at hx ⊢
      split at hx
      · split at hx
        · rename_i hcc
          simp only [normal, Option.some.injEq, Prod.mk.injEq] at hx
          obtain ⟨rfl, rfl⟩ := hx
          refine ⟨rfl, _, by rw [if_pos hcc]; rfl, ?_⟩
          refine ⟨⟨fun k hk => ?_, fun d' hd' => ?_, fun _ => rfl⟩, ⟨fun k hk => ?_, fun d' hd' => ?_, fun _ => rfl⟩, fun k hk => ?_, fun d' => ?_, .inr ⟨rfl, rfl⟩, fun d' hn hne => ?_⟩
          · have hk' : ¬ d = k := by intro e; exact hk (by simp [AOp.wr, AOp.dst, AOp.used, e])
            rw [ob_put, if_neg hk']; simp [ob, kill_nol n1]
          · have : ¬ d = d' := by intro e; exact hd' (by unfold AOper.may; rw [hm]; exact e)
            simp [St.put, Locs.get_set, this]
          · have hk' : ¬ d = k := by intro e; exact hk (by simp [AOp.wr, AOp.dst, AOp.used, e])
            rw [ob_put, if_neg hk']; simp [ob, kill_nol n2]
          · have : ¬ d = d' := by intro e; exact hd' (by unfold AOper.may; rw [hm]; exact e)
            simp [St.put, Locs.get_set, this]
          · have hk' : k = d := by simpa [AOp.wr, AOp.dst, AOp.used] using hk
            subst hk'
            rw [ob_put, ob_put, if_pos rfl, if_pos rfl]
          · by_cases e : d = d'
            · left; simp [St.put, Locs.get_set, e]
            · right; simp [St.put, Locs.get_set, e]
          · have hdd : d ≠ d' := by intro e; exact hne (by rw [hm, e])
            exact nol_put (fun k => by simp only [kill_nol n1]; exact hn k) (by simp only [SV.aims, beq_eq_false_iff_ne]; exact hdd)
        · cases hx
      · cases hx
    case cloneL d sz e bytes ag y z =>
      have hy := sv (x := y) (by simp [AOp.opds])
      have hz := sv (x := z) (by simp [AOp.opds])
      have hm : AOper.mem { op := .cloneL d sz e bytes ag y z, gd := gd, blk := blk } = .new d := by simp [AOper.mem]
      obtain ⟨n1, n2⟩ := hnew d hm
      simp only [aop, St.av, ← hy, ← hz] at hx ⊢
      split at hx
      · rename_i k0 sz1 as sz2 bs h1 h2
        have hr := h.rt (x := .s k0) (by simp [AOp.opds]) (k := k0) (by simp [Opd.rd])
        rw [← hr]
        split at hx
        · rename_i e' he
          split at hx
          · rename_i hc
            simp only [normal, Option.some.injEq, Prod.mk.injEq] at hx
            obtain ⟨rfl, rfl⟩ := hx
            have hy' : st.σ.get k0 = st'.σ.get k0 := hy
            refine ⟨rfl, _, by rw [if_pos hc]; rfl, ?_⟩
            refine ⟨⟨fun k hk => ?_, fun d' hd' => ?_, fun _ => rfl⟩, ⟨fun k hk => ?_, fun d' hd' => ?_, fun _ => rfl⟩, fun k hk => ?_, fun d' => ?_, .inr ⟨rfl, rfl⟩, fun d' hn hne => ?_⟩
            · have hk' : ¬ d = k := by intro e; exact hk (by simp [AOp.wr, AOp.dst, AOp.used, e])
              have hk2 : ¬ k0 = k := by intro e; exact hk (by simp [AOp.wr, AOp.dst, AOp.used, Opd.rd, e])
              rw [ob_put, if_neg hk']; simp [ob, kill_nol n1, St.drop, rightOf_filter, hk2]
            · have : ¬ d = d' := by intro e; exact hd' (by unfold AOper.may; rw [hm]; exact e)
              simp [St.put, Locs.get_set, this]
            · have hk' : ¬ d = k := by intro e; exact hk (by simp [AOp.wr, AOp.dst, AOp.used, e])
              have hk2 : ¬ k0 = k := by intro e; exact hk (by simp [AOp.wr, AOp.dst, AOp.used, Opd.rd, e])
              rw [ob_put, if_neg hk']; simp [ob, kill_nol n2, St.drop, rightOf_filter, hk2]
            · have : ¬ d = d' := by intro e; exact hd' (by unfold AOper.may; rw [hm]; exact e)
              simp [St.put, Locs.get_set, this]
            · have hk' : k = d ∨ k = k0 := by simpa [AOp.wr, AOp.dst, AOp.used, Opd.rd] using hk
              rw [ob_put, ob_put]
              by_cases e : d = k
              · rw [if_pos e, if_pos e]
              · rw [if_neg e, if_neg e]
                obtain rfl : k = k0 := hk'.resolve_left fun q => e q.symm
                simp [ob, kill_nol n1, kill_nol n2, St.drop, rightOf_filter, hy']
            · by_cases e : d = d'
              · left; simp [St.put, Locs.get_set, e]
              · right; simp [St.put, Locs.get_set, e]
            · have hdd : d ≠ d' := by intro e; exact hne (by rw [hm, e])
              exact nol_put (fun k => by simp only [kill_nol n1]; exact hn k) (by simp only [SV.aims, beq_eq_false_iff_ne]; exact hdd)
          · cases hx
        · cases hx
      · cases hx
    case makeMap d =>
      have hm : AOper.mem { op := .makeMap d, gd := gd, blk := blk } = .wr none := by simp [AOper.mem]
      have hS := h.S (.inr (.inl hm))
      simp only [aop, ← hS, normal, Option.some.injEq, Prod.mk.injEq] at hx ⊢
      obtain ⟨rfl, rfl⟩ := hx
      exact ⟨rfl, _, ⟨trivial, rfl⟩, mem1_put rfl (fun _ _ _ => rfl) (mem1_S hm _)⟩
    case lookup d ok kd z y k =>
      have hy := sv (x := y) (by simp [AOp.opds])
      have hk := sv (x := k) (by simp [AOp.opds])
      have hm : AOper.mem { op := .lookup d ok kd z y k, gd := gd, blk := blk } = .rd none := by simp [AOper.mem]
      have hS := h.S (.inl hm)
      simp only [aop, St.av, ← hy, ← hk, ← hS] at hx ⊢
      split at hx
      · split at hx
        · rename_i hkk
          simp only [normal, Option.some.injEq, Prod.mk.injEq] at hx
          obtain ⟨rfl, rfl⟩ := hx
          exact ⟨rfl, _, by rw [if_pos hkk]; rfl, put_local h rfl rfl fun _ _ _ => rfl⟩
        · cases hx
      · split at hx
        · rename_i hkk
          split at hx
          · rename_i bx hbx
            split at hx
            · rename_i hmap
              split at hx
              · rename_i r hr
                simp only [normal, Option.some.injEq, Prod.mk.injEq] at hx
                obtain ⟨rfl, rfl⟩ := hx
                exact ⟨rfl, _, by rw [if_pos hkk]; simp only [if_pos hmap]; rfl, put_local h rfl rfl fun _ _ _ => rfl⟩
              · cases hx
            · cases hx
          · cases hx
        · cases hx
      · cases hx
    case mapUpd kd y k v =>
      have hy := sv (x := y) (by simp [AOp.opds])
      have hk := sv (x := k) (by simp [AOp.opds])
      have hv := sv (x := v) (by simp [AOp.opds])
      have hm : AOper.mem { op := .mapUpd kd y k v, gd := gd, blk := blk } = .wr none := by simp [AOper.mem]
      have hS := h.S (.inr (.inl hm))
      simp only [aop, St.av, ← hy, ← hk, ← hv, ← hS] at hx ⊢
      split at hx
      · split at hx
        · rename_i hkk
          split at hx
          · rename_i bx hbx
            split at hx
            · rename_i hmap
              split at hx
              · rename_i cs hcs
                simp only [normal, Option.some.injEq, Prod.mk.injEq] at hx
                obtain ⟨rfl, rfl⟩ := hx
                exact ⟨rfl, _, by rw [if_pos hkk]; simp only [if_pos hmap]; rfl, mem1_local h (mem1_S hm _)⟩
              · cases hx
            · cases hx
          · cases hx
        · cases hx
      · cases hx
    case call d f xs =>
      have hS := h.S (.inr (.inr rfl))
      simp only [aop] at hx ⊢
      rw [← avs_same (st := st) (st' := st') (xs := xs) fun x hx => sv (by simpa [AOp.opds] using hx), ← hS]
      split at hx
      · split at hx
        · rename_i as has e S' hr
          exact finish_local h rfl rfl hr hS hx
        · cases hx
      · cases hx
    case callv d c xs =>
      have hS := h.S (.inr (.inr rfl))
      have hc := sv (x := c) (by simp [AOp.opds])
      simp only [aop, St.av, ← hc] at hx ⊢
      rw [← avs_same (st := st) (st' := st') (xs := xs) fun x hx => sv (by simp [AOp.opds, hx]), ← hS]
      split at hx
      · split at hx
        · rename_i hr
          exact finish_local h rfl rfl hr hS hx
        · cases hx
      · cases hx
    case panic y => exact absurd rfl hbad
end

/-- An operation with its guard is local. -/
theorem aoper_local {st st' st1 : St} {rec : Rec} {o : AOper} (h : Agree o st st') (hbad : o.mem ≠ .bad) (hnew : ∀ d, o.mem = .new d → NoL st d ∧ NoL st' d) {x : AEx} (hx : aoper rec.quiet st o = some (x, st1)) :
    x = .normal ∧ ∃ st1', aoper rec.quiet st' o = some (.normal, st1') ∧ LocalTo o st st' st1 st1' := by
  unfold aoper at hx ⊢
  split at hx
  · exact aopB_local h hbad hnew hx
  · rename_i k want hg
    have hk := h.sl k (.inl (by simp [AOper.rd, hg]))
    simp only [ob, Prod.mk.injEq] at hk
    rw [← hk.1]
    split at hx
    · split at hx
      · rename_i hw
        rw [if_pos hw]
        exact aopB_local h hbad hnew hx
      · rename_i hw
        rw [if_neg hw]
        cases hd : o.op.dst with
        | none =>
          rw [hd] at hx
          simp only [normal, Option.some.injEq, Prod.mk.injEq] at hx
          obtain ⟨rfl, rfl⟩ := hx
          exact ⟨rfl, st', rfl, mem1_local h (mem1_refl _ _)⟩
        | some d =>
          rw [hd] at hx
          simp only [normal, Option.some.injEq, Prod.mk.injEq] at hx
          obtain ⟨rfl, rfl⟩ := hx
          refine ⟨rfl, _, rfl, ?_⟩
          have hdw : d ∈ o.op.wr := by simp [AOp.wr, hd]
          refine ⟨⟨fun j hj => ?_, fun _ _ => rfl, fun _ => rfl⟩, ⟨fun j hj => ?_, fun _ _ => rfl, fun _ => rfl⟩, fun j hj => ?_, fun _ => .inr ⟨rfl, rfl⟩, .inr ⟨rfl, rfl⟩, fun d' hn _ => nol_put hn rfl⟩
          · rw [ob_put, if_neg (by intro e; exact hj (e ▸ hdw))]
          · rw [ob_put, if_neg (by intro e; exact hj (e ▸ hdw))]
          · rw [ob_put, ob_put, h.wr hj]
    · cases hd : o.op.dst with
      | none =>
        rw [hd] at hx
        simp only [normal, Option.some.injEq, Prod.mk.injEq] at hx
        obtain ⟨rfl, rfl⟩ := hx
        exact ⟨rfl, st', rfl, mem1_local h (mem1_refl _ _)⟩
      | some d =>
        rw [hd] at hx
        simp only [normal, Option.some.injEq, Prod.mk.injEq] at hx
        obtain ⟨rfl, rfl⟩ := hx
        refine ⟨rfl, _, rfl, ?_⟩
        have hdw : d ∈ o.op.wr := by simp [AOp.wr, hd]
        refine ⟨⟨fun j hj => ?_, fun _ _ => rfl, fun _ => rfl⟩, ⟨fun j hj => ?_, fun _ _ => rfl, fun _ => rfl⟩, fun j hj => ?_, fun _ => .inr ⟨rfl, rfl⟩, .inr ⟨rfl, rfl⟩, fun d' hn _ => nol_put hn rfl⟩
        · rw [ob_put, if_neg (by intro e; exact hj (e ▸ hdw))]
        · rw [ob_put, if_neg (by intro e; exact hj (e ▸ hdw))]
        · rw [ob_put, ob_put, h.wr hj]
    · cases hx
end Go.Av

/- Operations that stand apart change places; a drawn region in any order that it allows. -/
set_option linter.unusedVariables false
set_option linter.unusedSimpArgs false
set_option linter.unusedSectionVars false
namespace Go.Av
open Go

structure Eqv (a b : St) : Prop where
  sl : ∀ k, ob a k = ob b k
  lc : ∀ d, a.loc.get d = b.loc.get d
  S : a.S = b.S
theorem Eqv.refl (a : St) : Eqv a a := ⟨fun _ => rfl, fun _ => rfl, rfl⟩
theorem Eqv.symm {a b : St} (h : Eqv a b) : Eqv b a := ⟨fun k => (h.sl k).symm, fun d => (h.lc d).symm, h.S.symm⟩
theorem Eqv.trans {a b c : St} (h : Eqv a b) (k : Eqv b c) : Eqv a c := ⟨fun i => (h.sl i).trans (k.sl i), fun d => (h.lc d).trans (k.lc d), h.S.trans k.S⟩
theorem Eqv.nol {a b : St} (h : Eqv a b) {d : Nat} (n : NoL a d) : NoL b d := fun k => by
  have := h.sl k
  simp only [ob, Prod.mk.injEq] at this
  rw [← this.1]; exact n k
theorem Eqv.agree {a b : St} (h : Eqv a b) (o : AOper) : Agree o a b := ⟨fun k _ => h.sl k, fun _ d _ _ _ _ => h.lc d, fun _ => h.S⟩

/-- Alike states are alike once only some slots are looked at. -/
theorem Eqv.keep {a b : St} (h : Eqv a b) (live locs : List Nat) : a.keep live locs = b.keep live locs := by
  have h1 : ∀ k, a.σ.get k = b.σ.get k := fun k => by have := h.sl k; simp only [ob, Prod.mk.injEq] at this; exact this.1
  have h2 : ∀ k, rightOf a.own k = rightOf b.own k := fun k => by have := h.sl k; simp only [ob, Prod.mk.injEq] at this; exact this.2
  have e1 : a.σ.keep live = b.σ.keep live := by simp only [Slots.keep]; exact List.map_congr_left fun k _ => by rw [h1]
  have e3 : a.loc.keep locs = b.loc.keep locs := by simp only [Locs.keep]; congr 1; funext k; rw [h.lc]
  simp only [St.keep, e1, e3, h.S]
  congr 2
  funext k
  rw [h2]

theorem aoper_eqv {a b a1 : St} {rec : Rec} {o : AOper} (h : Eqv a b) (hbad : o.mem ≠ .bad) (hnew : ∀ d, o.mem = .new d → NoL a d) {x : AEx} (hx : aoper rec.quiet a o = some (x, a1)) :
    x = .normal ∧ ∃ b1, aoper rec.quiet b o = some (.normal, b1) ∧ Eqv a1 b1 := by
  obtain ⟨rfl, b1, h1, h2⟩ := aoper_local (h.agree o) hbad (fun d hd => ⟨hnew d hd, h.nol (hnew d hd)⟩) hx
  refine ⟨rfl, b1, h1, fun k => ?_, fun d => ?_, ?_⟩
  · by_cases hk : k ∈ o.op.wr
    · exact h2.sl k hk
    · rw [h2.fr.sl k hk, h2.fr'.sl k hk, h.sl k]
  · rcases h2.lc d with q | ⟨q1, q2⟩
    · exact q
    · rw [q1, q2, h.lc d]
  · rcases h2.S with q | ⟨q1, q2⟩
    · exact q
    · rw [q1, q2, h.S]

def memOk : Mem → Mem → Bool
  | .bad, _ => false
  | _, .bad => false
  | .no, _ => true
  | _, .no => true
  | .rd _, .rd _ => true
  | .rd _, .call => true
  | .call, .rd _ => true
  | .call, .call => true
  | .rd _, .new _ => true
  | .new _, .rd _ => true
  | .call, .new _ => true
  | .new _, .call => true
  | .new d, .new d' => d != d'
  | .rd (some m), .wr (some m') => m != m'
  | .wr (some m), .rd (some m') => m != m'
  | .wr (some m), .wr (some m') => m != m'
  | .wr (some _), .call => true
  | .call, .wr (some _) => true
  | .wr (some m), .new d => m != d
  | .new d, .wr (some m) => m != d
  | _, _ => false
def apart (j i : AOper) : Bool :=
  memOk j.mem i.mem && (j.op.wr.all fun k => !(i.rd.contains k) && !(i.op.wr.contains k)) && (i.op.wr.all fun k => !(j.rd.contains k))

/-- Not both change a block; a block that the one changes the other one doesn't read. -/
theorem memOk_may {j i : AOper} (h : memOk j.mem i.mem = true) (d : Nat) : ¬ (j.may d ∧ i.may d) := by
  unfold AOper.may
  rcases hj : j.mem with _ | (_ | m) | (_ | m) | d1 | _ | _ <;> rcases hi : i.mem with _ | (_ | m') | (_ | m') | d2 | _ | _ <;> rw [hj, hi] at h <;> simp_all [memOk] <;> (intro e1 e2; apply h; rw [e1, e2])

section
variable {st s1 s2 : St} {rec : Rec} {j i : AOper}

/-- What the second one looks at stands as it stood. -/
theorem agree_back (hap : memOk j.mem i.mem = true) (hsl : ∀ k, k ∈ i.rd ∨ k ∈ i.op.wr → k ∉ j.op.wr) (hn : ∀ d, j.mem = .new d → NoL st d) (hf : Fr j st s1) (hS : j.mem = .wr none → i.mem = .no) : Agree i s1 st := by
  refine ⟨fun k hk => hf.sl k (hsl k hk), fun x d off hx hsv hb => hf.lc d fun hmay => ?_, fun hi => hf.S fun hj => ?_⟩
  · -- j may change d, and i reads it
    have hxs : st.sv x = .l d off := by
      rw [← hsv]
      cases x with
      | c a => rfl
      | s k =>
        have : k ∉ j.op.wr := by
          refine hsl k (.inl ?_)
          simp only [AOper.rd, List.mem_append, AOp.rd, List.mem_flatMap]
          right
          refine ⟨.s k, ?_, by simp [Opd.rd]⟩
          revert hx
          cases i.op <;> simp [AOp.addr, AOp.opds] <;> intro h <;> simp [h]
        have := hf.sl k this
        simp only [ob, Prod.mk.injEq] at this
        exact this.1.symm
    have him : i.mem = .rd i.blk ∨ i.mem = .wr i.blk := by
      revert hx
      unfold AOper.mem
      cases i.op <;> simp [AOp.addr]
    unfold AOper.may at hmay
    cases hjm : j.mem with
    | new d' =>
      rw [hjm] at hmay
      have : d' = d := hmay
      subst this
      have hq := nol_sv (hn d' hjm) x
      rw [hxs] at hq
      simp [SV.aims] at hq
    | wr m =>
      cases m with
      | none =>
        have := hS hjm
        rcases him with h | h <;> rw [h] at this <;> cases this
      | some m =>
        rw [hjm] at hmay
        have : m = d := hmay
        subst this
        rw [hjm] at hap
        cases hb2 : i.blk with
        | none => rw [hb2] at him; rcases him with h | h <;> rw [h] at hap <;> simp [memOk] at hap
        | some m' =>
          have := hb m' hb2
          subst this
          rw [hb2] at him
          rcases him with h | h <;> rw [h] at hap <;> simp [memOk] at hap
    | no => rw [hjm] at hmay; exact hmay
    | rd m => rw [hjm] at hmay; exact hmay
    | call => rw [hjm] at hmay; exact hmay
    | bad => rw [hjm] at hmay; exact hmay
  · have := hS hj
    rcases hi with h | h | h <;> rw [h] at this <;> cases this

theorem memOk_bad (h : memOk j.mem i.mem = true) : j.mem ≠ .bad ∧ i.mem ≠ .bad := by
  rcases hj : j.mem with _ | (_ | m) | (_ | m) | d1 | _ | _ <;> rcases hi : i.mem with _ | (_ | m') | (_ | m') | d2 | _ | _ <;> rw [hj, hi] at h <;> simp_all [memOk]
theorem memOk_wn (h : memOk j.mem i.mem = true) : (j.mem = .wr none → i.mem = .no) ∧ (i.mem = .wr none → j.mem = .no) := by
  rcases hj : j.mem with _ | (_ | m) | (_ | m) | d1 | _ | _ <;> rcases hi : i.mem with _ | (_ | m') | (_ | m') | d2 | _ | _ <;> rw [hj, hi] at h <;> simp_all [memOk]
theorem memOk_symm (h : memOk j.mem i.mem = true) : memOk i.mem j.mem = true := by
  rcases hj : j.mem with _ | (_ | m) | (_ | m) | d1 | _ | _ <;> rcases hi : i.mem with _ | (_ | m') | (_ | m') | d2 | _ | _ <;> rw [hj, hi] at h <;> simp_all [memOk] <;> (intro e; exact h e.symm)

/-- Two operations that stand apart change places. -/
theorem swap (hap : apart j i = true) (hnj : ∀ d, j.mem = .new d → NoL st d) (hni : ∀ d, i.mem = .new d → NoL st d) (h1 : aoper rec.quiet st j = some (.normal, s1)) {x : AEx} (h2 : aoper rec.quiet s1 i = some (x, s2)) :
    x = .normal ∧ ∃ t1 t2, aoper rec.quiet st i = some (.normal, t1) ∧ aoper rec.quiet t1 j = some (.normal, t2) ∧ Eqv s2 t2 := by
  simp only [apart, Bool.and_eq_true, List.all_eq_true, Bool.not_eq_true', List.contains_eq_mem, decide_eq_false_iff_not] at hap
  obtain ⟨⟨hm, hw⟩, hw'⟩ := hap
  obtain ⟨bj, bi⟩ := memOk_bad hm
  obtain ⟨wj, wi⟩ := memOk_wn hm
  -- where the first one leads
  obtain ⟨_, s1', e1, l1⟩ := aoper_local (Eqv.refl st |>.agree j) bj (fun d hd => ⟨hnj d hd, hnj d hd⟩) h1
  have hni1 : ∀ d, i.mem = .new d → NoL s1 d := fun d hd => l1.nol d (hni d hd) (by
    intro hj
    rw [hj, hd] at hm
    simp [memOk] at hm)
  have A1 : Agree i s1 st := agree_back hm (fun k hk hkj => by
    have := hw k hkj
    rcases hk with h | h
    · exact this.1 h
    · exact this.2 h) hnj l1.fr wj
  obtain ⟨rfl, t1, e2, l2⟩ := aoper_local A1 bi (fun d hd => ⟨hni1 d hd, hni d hd⟩) h2
  have A2 : Agree j t1 st := agree_back (memOk_symm hm) (fun k hk hki => by
    rcases hk with h | h
    · exact hw' k hki h
    · exact (hw k h).2 hki) hni l2.fr' wi
  have A2' : Agree j st t1 := ⟨fun k hk => (A2.sl k hk).symm, fun x d off hx hsv hb => by
    refine (A2.lc x d off hx ?_ hb).symm
    rw [← hsv]
    refine A2.opd ?_
    revert hx
    cases j.op <;> simp [AOp.addr, AOp.opds] <;> intro h <;> simp [h], fun hh => (A2.S hh).symm⟩
  have hnt : ∀ d, j.mem = .new d → NoL t1 d := by
    intro d hd k
    -- t1's slots: those of st, or what the second one made from st
    have := aoper_local (Eqv.refl st |>.agree i) bi (fun d hd => ⟨hni d hd, hni d hd⟩) e2
    obtain ⟨_, t1', q1, q2⟩ := this
    exact q2.nol d (hnj d hd) (by intro e; rw [hd, e] at hm; simp [memOk] at hm) k
  obtain ⟨_, t2, e3, l3⟩ := aoper_local A2' bj (fun d hd => ⟨hnj d hd, hnt d hd⟩) h1
  refine ⟨rfl, t1, t2, e2, e3, fun k => ?_, fun d => ?_, ?_⟩
  · by_cases hk : k ∈ i.op.wr
    · have hkj : k ∉ j.op.wr := fun h => (hw k h).2 hk
      rw [l2.sl k hk, l3.fr'.sl k hkj]
    · by_cases hkj : k ∈ j.op.wr
      · rw [l2.fr.sl k hk, l3.sl k hkj]
      · rw [l2.fr.sl k hk, l3.fr.sl k hkj, l3.fr'.sl k hkj, l2.fr'.sl k hk]
  · by_cases hi : i.may d
    · have hj : ¬ j.may d := fun h => memOk_may hm d ⟨h, hi⟩
      rcases l2.lc d with q | ⟨q1, q2⟩
      · rw [q, l3.fr'.lc d hj]
      · rw [q1, l3.fr.lc d hj, l3.fr'.lc d hj, q2]
    · rw [l2.fr.lc d hi]
      rcases l3.lc d with q | ⟨q1, q2⟩
      · exact q
      · rw [q1, q2, l2.fr'.lc d hi]
  · by_cases hi : i.mem = .wr none
    · have hj : j.mem ≠ .wr none := by intro e; rw [wi hi] at e; cases e
      rcases l2.S with q | ⟨q1, q2⟩
      · rw [q, l3.fr'.S hj]
      · rw [q1, l3.fr.S hj, l3.fr'.S hj, q2]
    · rw [l2.fr.S hi]
      rcases l3.S with q | ⟨q1, q2⟩
      · exact q
      · rw [q1, q2, l2.fr'.S hi]
end
end Go.Av

/- A drawn region in any order that it allows. -/
set_option linter.unusedVariables false
set_option linter.unusedSimpArgs false
set_option linter.unusedSectionVars false
namespace Go.Av
open Go

def edgeOn (o : Oper) : List Nat := (o.after.toList.filter fun e => Region.binds .any e).map (·.on)
def bAt (bs : List Nat) (i j : Nat) : Bool := (bs.getD i 0).testBit j
def bsOkAt (bs : List Nat) (o : Oper) (i : Nat) : Bool :=
  (edgeOn o).all (fun e => decide (e < i)) && (List.range i).all fun j => !bAt bs i j || (edgeOn o).any fun e => e == j || (decide (j < e) && bAt bs e j)
def bsOk (bs : List Nat) : List Oper → Nat → Bool
  | [], _ => true
  | o :: os, i => bsOkAt bs o i && bsOk bs os (i + 1)
theorem bsOk_get {bs : List Nat} : ∀ {os : List Oper} {n : Nat}, bsOk bs os n = true → ∀ (i : Nat) {o : Oper}, os[i]? = some o → bsOkAt bs o (n + i) = true
  | [], _, _, i, o, h => by simp at h
  | o0 :: os, n, hb, i, o, h => by
    simp only [bsOk, Bool.and_eq_true] at hb
    cases i with
    | zero => obtain rfl : o0 = o := by simpa using h
              exact hb.1
    | succ i =>
      have := bsOk_get hb.2 i (by simpa using h)
      rwa [show n + 1 + i = n + (i + 1) by omega] at this

def sameNew (j i : AOper) : Bool := match j.mem, i.mem with
  | .new d, .new d' => d == d'
  | _, _ => false
/-- Every pair: f j i a b, where operation a stands at j, b behind it at i. -/
def pairsAt (f : Nat → Nat → AOper → AOper → Bool) (i : Nat) (o : AOper) : List AOper → Nat → Bool
  | [], _ => true
  | p :: ps, j => (decide (i ≤ j) || f j i p o) && pairsAt f i o ps (j + 1)
def pairsAll (f : Nat → Nat → AOper → AOper → Bool) (all : List AOper) : List AOper → Nat → Bool
  | [], _ => true
  | o :: os, i => pairsAt f i o all 0 && pairsAll f all os (i + 1)
theorem pairsAt_get {f : Nat → Nat → AOper → AOper → Bool} {i : Nat} {o : AOper} : ∀ {ps : List AOper} {n : Nat}, pairsAt f i o ps n = true → ∀ (j : Nat) {p : AOper}, ps[j]? = some p → n + j < i → f (n + j) i p o = true
  | [], _, _, j, p, h, _ => by simp at h
  | p0 :: ps, n, hb, j, p, h, hj => by
    simp only [pairsAt, Bool.and_eq_true, Bool.or_eq_true, decide_eq_true_eq] at hb
    cases j with
    | zero => obtain rfl : p0 = p := by simpa using h
              rcases hb.1 with h1 | h1
              · omega
              · exact h1
    | succ j =>
      have := pairsAt_get hb.2 j (by simpa using h) (by omega)
      rwa [show n + 1 + j = n + (j + 1) by omega] at this
theorem pairsAll_get {f : Nat → Nat → AOper → AOper → Bool} {all : List AOper} : ∀ {os : List AOper} {n : Nat}, pairsAll f all os n = true → ∀ (i j : Nat) {o p : AOper}, os[i]? = some o → all[j]? = some p → j < n + i → f j (n + i) p o = true
  | [], _, _, i, j, o, p, h, _, _ => by simp at h
  | o0 :: os, n, hb, i, j, o, p, h, hp, hj => by
    simp only [pairsAll, Bool.and_eq_true] at hb
    cases i with
    | zero => obtain rfl : o0 = o := by simpa using h
              have := pairsAt_get hb.1 j hp (by omega)
              simpa using this
    | succ i =>
      have := pairsAll_get hb.2 i j (by simpa using h) hp (by omega)
      rwa [show n + 1 + i = n + (i + 1) by omega] at this

def pairOk (bs : List Nat) (j i : Nat) (p o : AOper) : Bool := (bAt bs i j || apart p o) && !sameNew p o
def drawOk (quiet : Bool) (aos : List AOper) (bs : List Nat) : Bool :=
  pairsAll (fun j i _ _ => bAt bs i j) aos aos 0 || (quiet && aos.all (fun o => decide (o.mem ≠ .bad)) && pairsAll (pairOk bs) aos aos 0)

section
variable {aos : List AOper} {rec : Rec}

def Fresh (aos : List AOper) (is : List Nat) (st : St) : Prop := ∀ k ∈ is, ∀ (o : AOper) (d : Nat), aos[k]? = some o → o.mem = .new d → NoL st d
structure GoodA (aos : List AOper) : Prop where
  bad : ∀ (k : Nat) (o : AOper), aos[k]? = some o → o.mem ≠ .bad
  dn : ∀ (k k' : Nat) (o o' : AOper) (d : Nat), k ≠ k' → aos[k]? = some o → aos[k']? = some o' → o.mem = .new d → o'.mem ≠ .new d

theorem Fresh.eqv {is : List Nat} {a b : St} (h : Fresh aos is a) (e : Eqv a b) : Fresh aos is b := fun k hk o d ho hd => e.nol (h k hk o d ho hd)
theorem Fresh.step {k : Nat} {is : List Nat} {st st1 : St} {o : AOper} {x : AEx} (hG : GoodA aos) (h : Fresh aos (k :: is) st) (hk : k ∉ is) (ho : aos[k]? = some o) (h1 : aoper rec.quiet st o = some (x, st1)) : Fresh aos is st1 := by
  intro k' hk' o' d ho' hd
  obtain ⟨_, s', _, l⟩ := aoper_local ((Eqv.refl st).agree o) (hG.bad k o ho) (fun d hd => ⟨h k (.head _) o d ho hd, h k (.head _) o d ho hd⟩) h1
  have hne : k' ≠ k := fun e => hk (e ▸ hk')
  exact l.nol d (h k' (.tail _ hk') o' d ho' hd) (hG.dn k' k o' o d hne ho' ho hd)

theorem aopsI_eqv (hG : GoodA aos) : ∀ (is : List Nat) {a b s : St} {x : AEx}, is.Nodup → Eqv a b → Fresh aos is a → aopsI rec.quiet aos is a = some (x, s) →
    x = .normal ∧ ∃ s', aopsI rec.quiet aos is b = some (.normal, s') ∧ Eqv s s'
  | [], a, b, s, x, _, e, _, h => by
    simp only [aopsI, normal, Option.some.injEq, Prod.mk.injEq] at h
    obtain ⟨rfl, rfl⟩ := h
    exact ⟨rfl, b, rfl, e⟩
  | k :: is, a, b, s, x, hN, e, hF, h => by
    simp only [aopsI] at h ⊢
    rw [List.nodup_cons] at hN
    split at h
    · rename_i o ho
      cases h1 : aoper rec.quiet a o with
      | none => rw [h1] at h; cases h
      | some p =>
        obtain ⟨y, a1⟩ := p
        obtain ⟨rfl, b1, q1, q2⟩ := aoper_eqv e (hG.bad k o ho) (fun d hd => hF k (.head _) o d ho hd) h1
        rw [h1] at h
        simp only at h
        rw [q1]
        exact aopsI_eqv hG is hN.2 q2 (hF.step hG hN.1 ho h1) h
    · cases h

/-- An operation that stands apart from those before it goes first. -/
theorem front (hG : GoodA aos) {i : Nat} {oi : AOper} (hoi : aos[i]? = some oi) (post : List Nat) : ∀ (pre : List Nat) {st s : St} {x : AEx}, (pre ++ i :: post).Nodup → Fresh aos (pre ++ i :: post) st →
    (∀ j ∈ pre, ∀ oj, aos[j]? = some oj → apart oj oi = true) → aopsI rec.quiet aos (pre ++ i :: post) st = some (x, s) →
    x = .normal ∧ ∃ s', aopsI rec.quiet aos (i :: (pre ++ post)) st = some (.normal, s') ∧ Eqv s s'
  | [], st, s, x, hN, hF, _, h => by
    simp only [List.nil_append] at h hN hF ⊢
    exact aopsI_eqv hG _ hN (Eqv.refl st) hF h
  | j :: pre, st, s, x, hN, hF, hap, h => by
    simp only [List.cons_append] at h hN hF
    have hN' := hN
    rw [List.nodup_cons] at hN
    simp only [aopsI] at h
    split at h
    · rename_i oj hoj
      cases h1 : aoper rec.quiet st oj with
      | none => rw [h1] at h; cases h
      | some p =>
        obtain ⟨y, s1⟩ := p
        obtain ⟨rfl, _⟩ := aoper_eqv (Eqv.refl st) (hG.bad j oj hoj) (fun d hd => hF j (.head _) oj d hoj hd) h1
        rw [h1] at h
        simp only at h
        have hF1 := hF.step hG hN.1 hoj h1
        obtain ⟨rfl, s', h2, e2⟩ := front hG hoi post pre hN.2 hF1 (fun k hk ok hok => hap k (.tail _ hk) ok hok) h
        simp only [aopsI, hoi] at h2
        cases h3 : aoper rec.quiet s1 oi with
        | none => rw [h3] at h2; cases h2
        | some p =>
          obtain ⟨y, s2⟩ := p
          have hni : ∀ d, oi.mem = .new d → NoL st d := fun d hd => hF i (by simp) oi d hoi hd
          obtain ⟨rfl, t1, t2, q1, q2, q3⟩ := swap (hap j (.head _) oj hoj) (fun d hd => hF j (.head _) oj d hoj hd) hni h1 h3
          rw [h3] at h2
          simp only at h2
          have hmem : ∀ k, k ∈ pre ++ post → k ∈ pre ++ i :: post := by
            intro k hk
            simp only [List.mem_append, List.mem_cons] at hk ⊢
            rcases hk with h | h
            · exact .inl h
            · exact .inr (.inr h)
          have hNp : (pre ++ post).Nodup := by
            refine List.Nodup.sublist ?_ hN.2
            exact List.Sublist.append (List.Sublist.refl _) (List.sublist_cons_self _ _)
          have hin : i ∉ pre ++ post := by
            have := hN.2
            rw [List.nodup_append] at this
            obtain ⟨a1, a2, a3⟩ := this
            rw [List.nodup_cons] at a2
            simp only [List.mem_append, not_or]
            refine ⟨fun hi => a3 i hi i (by simp) rfl, a2.1⟩
          have hF2 : Fresh aos (pre ++ post) s2 := by
            refine Fresh.step (k := i) (is := pre ++ post) hG (fun k hk => hF1 k ?_) hin hoi h3
            simp only [List.mem_cons] at hk
            rcases hk with rfl | hk
            · simp
            · exact hmem k hk
          obtain ⟨_, s'', h4, e4⟩ := aopsI_eqv hG _ hNp q3 hF2 h2
          refine ⟨rfl, s'', ?_, e2.trans e4⟩
          simp only [List.cons_append, aopsI, hoi, q1, hoj, q2]
          exact h4
    · cases h
end

/-! ### the orders of a region -/
structure Pend (n : Nat) (ops : Array Oper) (pend : List Nat) (listed : Array Bool) : Prop where
  size : listed.size = n
  sorted : pend.Pairwise (· < ·)
  lt : ∀ k ∈ pend, k < n
  at' : ∀ k, k < n → (listed.getD k true = true ↔ k ∉ pend)
  closed : ∀ k o, k < n → k ∉ pend → ops[k]? = some o → ∀ e ∈ edgeOn o, e ∉ pend

theorem Pend.before {n : Nat} {ops : Array Oper} {pend : List Nat} {listed : Array Bool} (h : Pend n ops pend listed) (hn : n = ops.size) {bs : List Nat} (hb : bsOk bs ops.toList 0 = true) :
    ∀ (k : Nat), k < n → k ∉ pend → ∀ j, j < k → bAt bs k j = true → j ∉ pend := by
  intro k
  induction k using Nat.strongRecOn with
  | _ k ih =>
    intro hk hkp j hj hB
    have hks : k < ops.size := by omega
    have ho : ops.toList[k]? = some ops[k] := by simp [hks]
    have := bsOk_get hb k ho
    simp only [Nat.zero_add, bsOkAt, Bool.and_eq_true, List.all_eq_true, decide_eq_true_eq, List.mem_range, Bool.or_eq_true, Bool.not_eq_true', List.any_eq_true, beq_iff_eq] at this
    obtain ⟨h1, h2⟩ := this
    have ho' : ops[k]? = some ops[k] := by simp [hks]
    rcases h2 j hj with h3 | ⟨e, he, h3⟩
    · rw [hB] at h3; cases h3
    · have hep := h.closed k _ hk hkp ho' e he
      rcases h3 with rfl | ⟨hje, h3⟩
      · exact hep
      · have hek := h1 e he
        exact ih e hek (by omega) hep j hje h3

theorem Pend.ready {n : Nat} {ops : Array Oper} {pend : List Nat} {listed : Array Bool} (h : Pend n ops pend listed) (hn : n = ops.size) {bs : List Nat} (hb : bsOk bs ops.toList 0 = true) (i : Nat) :
    i ∈ Region.ready .any ops listed ↔ i ∈ pend ∧ ∀ o, ops[i]? = some o → ∀ e ∈ edgeOn o, e ∉ pend := by
  simp only [Region.ready, List.mem_filter, List.mem_range, Bool.and_eq_true, Bool.not_eq_true']
  constructor
  · rintro ⟨hi, hl, ha⟩
    have hin : i < n := by omega
    have hip : i ∈ pend := by
      refine Classical.byContradiction fun hc => ?_
      rw [(h.at' i hin).2 hc] at hl; cases hl
    refine ⟨hip, fun o ho e he => ?_⟩
    have ho' : ops.toList[i]? = some o := by simpa using ho
    have hb1 := bsOk_get hb i ho'
    simp only [Nat.zero_add, bsOkAt, Bool.and_eq_true, List.all_eq_true, decide_eq_true_eq] at hb1
    have hei := hb1.1 e he
    simp only [ho, Option.map_some, Option.getD_some, Array.all_eq_true_iff_forall_mem, Bool.or_eq_true, Bool.not_eq_true'] at ha
    simp only [edgeOn, List.mem_map, List.mem_filter, Array.mem_toList_iff] at he
    obtain ⟨ed, ⟨h1, h2⟩, rfl⟩ := he
    rcases ha ed h1 with h3 | h3
    · rw [h2] at h3; cases h3
    · refine (h.at' _ (by omega)).1 ?_
      have hsz : ed.on < listed.size := by rw [h.size]; omega
      simp only [Array.getD, hsz, dif_pos] at h3 ⊢
      exact h3
  · rintro ⟨hip, ha⟩
    have hin := h.lt i hip
    have his : i < ops.size := by omega
    refine ⟨by omega, ?_, ?_⟩
    · cases hl : listed.getD i true with
      | false => rfl
      | true => exact absurd hip ((h.at' i hin).1 hl)
    · have ho : ops[i]? = some ops[i] := by simp [his]
      have ho' : ops.toList[i]? = some ops[i] := by simp [his]
      have hb1 := bsOk_get hb i ho'
      simp only [Nat.zero_add, bsOkAt, Bool.and_eq_true, List.all_eq_true, decide_eq_true_eq] at hb1
      simp only [ho, Option.map_some, Option.getD_some, Array.all_eq_true_iff_forall_mem, Bool.or_eq_true, Bool.not_eq_true']
      intro ed hed
      by_cases hbi : Region.binds .any ed = true
      · right
        have he : ed.on ∈ edgeOn ops[i] := by
          simp only [edgeOn, List.mem_map, List.mem_filter, Array.mem_toList_iff]
          exact ⟨ed, ⟨hed, hbi⟩, rfl⟩
        have h1 := ha _ ho _ he
        have h2 := hb1.1 _ he
        have h3 := (h.at' ed.on (by omega)).2 h1
        have hsz : ed.on < listed.size := by rw [h.size]; omega
        simp only [Array.getD, hsz, dif_pos] at h3 ⊢
        exact h3
      · left; simpa using hbi

theorem Pend.take {n : Nat} {ops : Array Oper} {pre post : List Nat} {i : Nat} {listed : Array Bool} (h : Pend n ops (pre ++ i :: post) listed) (hi : ∀ o, ops[i]? = some o → ∀ e ∈ edgeOn o, e ∉ pre ++ i :: post) :
    Pend n ops (pre ++ post) (listed.setIfInBounds i true) := by
  have hs := h.sorted
  have hmem : ∀ k, k ∈ pre ++ post → k ∈ pre ++ i :: post := by
    intro k hk
    simp only [List.mem_append, List.mem_cons] at hk ⊢
    rcases hk with h | h
    · exact .inl h
    · exact .inr (.inr h)
  have hin : i ∉ pre ++ post := by
    rw [List.pairwise_append, List.pairwise_cons] at hs
    obtain ⟨_, ⟨h2, _⟩, h3⟩ := hs
    simp only [List.mem_append, not_or]
    exact ⟨fun hi => Nat.lt_irrefl _ (h3 i hi i (by simp)), fun hi => Nat.lt_irrefl _ (h2 i hi)⟩
  have hiff : ∀ k, k ≠ i → (k ∈ pre ++ i :: post ↔ k ∈ pre ++ post) := by
    intro k hk
    simp only [List.mem_append, List.mem_cons, hk, false_or]
  have hilt : i < n := h.lt i (by simp)
  refine ⟨by simp [h.size], ?_, fun k hk => h.lt k (hmem k hk), fun k hk => ?_, fun k o hk hkp ho e he => ?_⟩
  · exact hs.sublist (List.Sublist.append (List.Sublist.refl _) (List.sublist_cons_self _ _))
  · by_cases hki : k = i
    · subst hki
      have : k < listed.size := by rw [h.size]; exact hk
      simp [Array.getD, this, hin]
    · rw [← hiff k hki, ← h.at' k hk]
      have hik : ¬ i = k := fun e => hki e.symm
      simp [Array.getD_eq_getD_getElem?, Array.getElem?_setIfInBounds, hik]
  · intro hm
    by_cases hki : k = i
    · subst hki
      exact hi o ho e he (hmem e hm)
    · exact h.closed k o hk (fun hc => hkp ((hiff k hki).1 hc)) ho e he (hmem e hm)

section
variable {aos : List AOper} {rec : Rec} {ops : Array Oper} {bs : List Nat}

/-- Every order that the region allows comes to what the text's order comes to. -/
theorem perm_go (hG : GoodA aos) (hn : aos.length = ops.size) (hb : bsOk bs ops.toList 0 = true)
    (hp : ∀ (i j : Nat) {o p : AOper}, aos[i]? = some o → aos[j]? = some p → j < i → bAt bs i j = true ∨ apart p o = true) :
    ∀ (fuel : Nat) (pend : List Nat) (listed : Array Bool) (t : Nat) {st s : St} {x : AEx}, pend.length ≤ fuel → Pend aos.length ops pend listed → Fresh aos pend st → aopsI rec.quiet aos pend st = some (x, s) →
      ∃ s', aopsI rec.quiet aos (Region.linearise.go .any ops fuel t listed []) st = some (x, s') ∧ Eqv s s' := by
  intro fuel
  induction fuel with
  | zero =>
    intro pend listed t st s x hl hP hF h
    have : pend = [] := List.eq_nil_of_length_eq_zero (by omega)
    subst this
    exact ⟨s, by simpa [Region.linearise.go] using h, Eqv.refl s⟩
  | succ fuel ih =>
    intro pend listed t st s x hl hP hF h
    simp only [Region.linearise.go]
    change ∃ s', aopsI rec.quiet aos (match (Region.ready .any ops listed)[t % (Region.ready .any ops listed).length]? with
      | some i => Region.linearise.go .any ops fuel (t / (Region.ready .any ops listed).length) (listed.setIfInBounds i true) [i]
      | none => [].reverse) st = some (x, s') ∧ Eqv s s'
    cases hr : (Region.ready .any ops listed)[t % (Region.ready .any ops listed).length]? with
    | none =>
      have hnil : Region.ready .any ops listed = [] := by
        cases hr2 : Region.ready .any ops listed with
        | nil => rfl
        | cons a l =>
          rw [hr2] at hr
          have hlt : t % (a :: l).length < (a :: l).length := Nat.mod_lt _ (by simp)
          rw [List.getElem?_eq_none_iff] at hr
          omega
      have : pend = [] := by
        cases pend with
        | nil => rfl
        | cons i0 r =>
          have : i0 ∈ Region.ready .any ops listed := by
            rw [hP.ready hn hb]
            refine ⟨.head _, fun o ho e he hm => ?_⟩
            have ho' : ops.toList[i0]? = some o := by simpa using ho
            have hb1 := bsOk_get hb i0 ho'
            simp only [Nat.zero_add, bsOkAt, Bool.and_eq_true, List.all_eq_true, decide_eq_true_eq] at hb1
            have hlt := hb1.1 e he
            simp only [List.mem_cons] at hm
            rcases hm with rfl | hm
            · omega
            · have := hP.sorted
              rw [List.pairwise_cons] at this
              have := this.1 e hm
              omega
          rw [hnil] at this
          cases this
      subst this
      exact ⟨s, by simpa using h, Eqv.refl s⟩
    | some i =>
      simp only
      have hir : i ∈ Region.ready .any ops listed := List.mem_of_getElem? hr
      rw [hP.ready hn hb] at hir
      obtain ⟨hip, hie⟩ := hir
      obtain ⟨pre, post, rfl⟩ := List.append_of_mem hip
      have hilt := hP.lt i hip
      have hoi : aos[i]? = some aos[i] := by simp [hilt]
      have hN : (pre ++ i :: post).Nodup := hP.sorted.imp (fun h => by omega)
      have hpre : ∀ j ∈ pre, ∀ oj, aos[j]? = some oj → apart oj aos[i] = true := by
        intro j hj oj hoj
        have hji : j < i := by
          have := hP.sorted
          rw [List.pairwise_append] at this
          exact this.2.2 j hj i (by simp)
        rcases hp i j hoi hoj hji with h1 | h1
        · exfalso
          -- i is ready, so what stands before it is listed
          have hios : i < ops.size := by omega
          have ho : ops[i]? = some ops[i] := by simp [hios]
          have ho' : ops.toList[i]? = some ops[i] := by simp [hios]
          have hb1 := bsOk_get hb i ho'
          simp only [Nat.zero_add, bsOkAt, Bool.and_eq_true, List.all_eq_true, decide_eq_true_eq, List.mem_range, Bool.or_eq_true, Bool.not_eq_true', List.any_eq_true, beq_iff_eq] at hb1
          obtain ⟨q1, q2⟩ := hb1
          have hjp : j ∈ pre ++ i :: post := by simp [hj]
          rcases q2 j hji with h3 | ⟨e, he, h3⟩
          · rw [h1] at h3; cases h3
          · have hep := hie _ ho e he
            rcases h3 with rfl | ⟨hje, h3⟩
            · exact hep hjp
            · exact hP.before hn hb e (by have := q1 e he; omega) hep j hje h3 hjp
        · exact h1
      obtain ⟨rfl, s1, h1, e1⟩ := front hG hoi post pre hN hF hpre h
      simp only [aopsI, hoi] at h1
      cases h2 : aoper rec.quiet st aos[i] with
      | none => rw [h2] at h1; cases h1
      | some q =>
        obtain ⟨y, st1⟩ := q
        obtain ⟨rfl, _⟩ := aoper_eqv (Eqv.refl st) (hG.bad i _ hoi) (fun d hd => hF i hip _ d hoi hd) h2
        rw [h2] at h1
        simp only at h1
        have hP' := hP.take hie
        have hin : i ∉ pre ++ post := by
          rw [List.nodup_append] at hN
          obtain ⟨a1, a2, a3⟩ := hN
          rw [List.nodup_cons] at a2
          simp only [List.mem_append, not_or]
          exact ⟨fun hi => a3 i hi i (by simp) rfl, a2.1⟩
        have hF' : Fresh aos (pre ++ post) st1 := by
          refine Fresh.step (k := i) (is := pre ++ post) hG (fun k hk => hF k ?_) hin hoi h2
          simp only [List.mem_append, List.mem_cons] at hk ⊢
          rcases hk with rfl | hk | hk
          · exact .inr (.inl rfl)
          · exact .inl hk
          · exact .inr (.inr hk)
        obtain ⟨s2, h3, e3⟩ := ih (pre ++ post) (listed.setIfInBounds i true) (t / (Region.ready .any ops listed).length) (by simp at hl ⊢; omega) hP' hF' h1
        refine ⟨s2, ?_, e1.trans e3⟩
        rw [linearise_go_acc]
        simp only [List.reverse_singleton, List.singleton_append, aopsI, hoi, h2]
        exact h3

/-- Where every order is the text's. -/
theorem total_go (hn : aos.length = ops.size) (hb : bsOk bs ops.toList 0 = true) (hp : ∀ (i j : Nat), i < aos.length → j < i → bAt bs i j = true) :
    ∀ (fuel : Nat) (pend : List Nat) (listed : Array Bool) (t : Nat), pend.length ≤ fuel → Pend aos.length ops pend listed → Region.linearise.go .any ops fuel t listed [] = pend := by
  intro fuel
  induction fuel with
  | zero =>
    intro pend listed t hl hP
    have : pend = [] := List.eq_nil_of_length_eq_zero (by omega)
    subst this
    simp [Region.linearise.go]
  | succ fuel ih =>
    intro pend listed t hl hP
    simp only [Region.linearise.go]
    change (match (Region.ready .any ops listed)[t % (Region.ready .any ops listed).length]? with
      | some i => Region.linearise.go .any ops fuel (t / (Region.ready .any ops listed).length) (listed.setIfInBounds i true) [i]
      | none => [].reverse) = pend
    cases hr : (Region.ready .any ops listed)[t % (Region.ready .any ops listed).length]? with
    | none =>
      have hnil : Region.ready .any ops listed = [] := by
        cases hr2 : Region.ready .any ops listed with
        | nil => rfl
        | cons a l =>
          rw [hr2] at hr
          have hlt : t % (a :: l).length < (a :: l).length := Nat.mod_lt _ (by simp)
          rw [List.getElem?_eq_none_iff] at hr
          omega
      cases pend with
      | nil => rfl
      | cons i0 r =>
        have : i0 ∈ Region.ready .any ops listed := by
          rw [hP.ready hn hb]
          refine ⟨.head _, fun o ho e he hm => ?_⟩
          have ho' : ops.toList[i0]? = some o := by simpa using ho
          have hb1 := bsOk_get hb i0 ho'
          simp only [Nat.zero_add, bsOkAt, Bool.and_eq_true, List.all_eq_true, decide_eq_true_eq] at hb1
          have hlt := hb1.1 e he
          simp only [List.mem_cons] at hm
          rcases hm with rfl | hm
          · omega
          · have := hP.sorted
            rw [List.pairwise_cons] at this
            have := this.1 e hm
            omega
        rw [hnil] at this
        cases this
    | some i =>
      simp only
      have hir : i ∈ Region.ready .any ops listed := List.mem_of_getElem? hr
      rw [hP.ready hn hb] at hir
      obtain ⟨hip, hie⟩ := hir
      obtain ⟨pre, post, rfl⟩ := List.append_of_mem hip
      have hilt := hP.lt i hip
      have hpre : pre = [] := by
        cases pre with
        | nil => rfl
        | cons j pre =>
          exfalso
          have hji : j < i := by
            have := hP.sorted
            rw [List.pairwise_append] at this
            exact this.2.2 j (.head _) i (by simp)
          have h1 := hp i j hilt hji
          have hios : i < ops.size := by omega
          have ho : ops[i]? = some ops[i] := by simp [hios]
          have ho' : ops.toList[i]? = some ops[i] := by simp [hios]
          have hb1 := bsOk_get hb i ho'
          simp only [Nat.zero_add, bsOkAt, Bool.and_eq_true, List.all_eq_true, decide_eq_true_eq, List.mem_range, Bool.or_eq_true, Bool.not_eq_true', List.any_eq_true, beq_iff_eq] at hb1
          obtain ⟨q1, q2⟩ := hb1
          have hjp : j ∈ (j :: pre) ++ i :: post := by simp
          rcases q2 j hji with h3 | ⟨e, he, h3⟩
          · rw [h1] at h3; cases h3
          · have hep := hie _ ho e he
            rcases h3 with rfl | ⟨hje, h3⟩
            · exact hep hjp
            · exact hP.before hn hb e (by have := q1 e he; omega) hep j hje h3 hjp
      subst hpre
      have hP' := hP.take hie
      rw [linearise_go_acc, ih ([] ++ post) _ _ (by simp at hl ⊢; omega) hP']
      simp

theorem pend_start {n : Nat} : Pend n ops (List.range n) (Array.replicate n false) :=
  ⟨by simp, List.pairwise_lt_range, fun k hk => by simpa using hk, fun k hk => by simp [Array.getD, hk], fun k o hk hkp _ => absurd (by simpa using hk) hkp⟩

theorem aopsI_range (rec : Rec) (aos : List AOper) : ∀ (l : List AOper) (k : Nat) (st : St), (∀ j, l[j]? = aos[k + j]?) → aopsI rec aos (List.range' k l.length) st = aops rec l st
  | [], k, st, _ => rfl
  | o :: l, k, st, h => by
    have h0 : aos[k]? = some o := by simpa using (h 0).symm
    have ih : ∀ st', aopsI rec aos (List.range' (k + 1) l.length) st' = aops rec l st' := fun st' => aopsI_range rec aos l (k + 1) st' fun j => by have := h (j + 1); simpa [Nat.add_assoc, Nat.add_comm 1 j] using this
    simp only [List.length_cons, List.range'_succ, aopsI, h0, aops, ih] <;> rfl
theorem aopsI_all (rec : Rec) (aos : List AOper) (st : St) : aopsI rec aos (List.range aos.length) st = aops rec aos st := by
  rw [List.range_eq_range']
  exact aopsI_range rec aos aos 0 st fun j => by simp

/-- Any order of a drawn region. -/
theorem draw_order {quiet : Bool} (hn : aos.length = ops.size) (hb : bsOk bs ops.toList 0 = true) (hd : drawOk quiet aos bs = true) {st s : St} {x : AEx} (hF : Fresh aos (List.range aos.length) st)
    (h : aops (if quiet then rec.quiet else rec) aos st = some (x, s)) (t : Nat) :
    ∃ s', aopsI (if quiet then rec.quiet else rec) aos (Region.linearise .any ops t) st = some (x, s') ∧ Eqv s s' := by
  unfold Region.linearise
  simp only [drawOk, Bool.or_eq_true, Bool.and_eq_true, List.all_eq_true, decide_eq_true_eq] at hd
  rw [← aopsI_all] at h
  rw [← hn]
  rcases hd with hd | ⟨⟨hq, hbad⟩, hd⟩
  · rw [total_go hn hb (fun i j hi hj => by
      have hi' : aos[i]? = some aos[i] := by simp [hi]
      have hj' : aos[j]? = some (aos[j]'(by omega)) := by rw [List.getElem?_eq_getElem]
      have := pairsAll_get hd i j hi' hj' (by omega)
      simpa using this) aos.length (List.range aos.length) _ t (by simp) pend_start]
    exact ⟨s, h, Eqv.refl s⟩
  · subst hq
    simp only [if_true] at h ⊢
    have hpair : ∀ (i j : Nat) {o p : AOper}, aos[i]? = some o → aos[j]? = some p → j < i → pairOk bs j i p o = true := by
      intro i j o p ho hp hj
      have := pairsAll_get hd i j ho hp (by omega)
      simpa using this
    have hsn : ∀ (i j : Nat) {o p : AOper} (d : Nat), aos[i]? = some o → aos[j]? = some p → j < i → p.mem = .new d → o.mem ≠ .new d := by
      intro i j o p d ho hp hj h1 h2
      have := hpair i j ho hp hj
      simp [pairOk, sameNew, h1, h2] at this
    have hG : GoodA aos := ⟨fun k o ho => hbad o (List.mem_of_getElem? ho), fun k k' o o' d hne ho ho' h1 h2 => by
      rcases Nat.lt_or_gt_of_ne hne with hlt | hlt
      · exact hsn k' k d ho' ho hlt h1 h2
      · exact hsn k k' d ho ho' hlt h2 h1⟩
    exact perm_go hG hn hb (fun i j o p ho hp hj => by
      have := hpair i j ho hp hj
      simp only [pairOk, Bool.and_eq_true, Bool.or_eq_true] at this
      exact this.1) aos.length (List.range aos.length) _ t (by simp) pend_start hF h

/-! ### before a drawn region -/
theorem killAll_get : ∀ (ds : List Nat) (σ : Slots) (k : Nat), (σ.killAll ds).get k = .junk ∨ ((σ.killAll ds).get k = σ.get k ∧ ∀ d ∈ ds, (σ.get k).aims d = false)
  | [], σ, k => .inr ⟨rfl, fun d hd => by cases hd⟩
  | d :: ds, σ, k => by
    simp only [Slots.killAll]
    rcases killAll_get ds (σ.kill d) k with h | ⟨h1, h2⟩
    · exact .inl h
    · rw [Slots.get_kill] at h1 h2
      cases hk : (σ.get k).aims d with
      | true =>
        left
        rw [h1]
        cases hg : σ.get k with
        | l d' off => rw [hg] at hk; simp [SV.aims] at hk; simp [SV.kill, hk]
        | ls d' sz ag n => rw [hg] at hk; simp [SV.aims] at hk; simp [SV.kill, hk]
        | _ => rw [hg] at hk; simp [SV.aims] at hk
      | false =>
        have e : (σ.get k).kill d = σ.get k := aims_kill hk
        right
        rw [e] at h1 h2
        refine ⟨h1, fun d' hd' => ?_⟩
        simp only [List.mem_cons] at hd'
        rcases hd' with rfl | hd'
        · exact hk
        · exact h2 d' hd'

theorem prep_fresh (aos : List AOper) (is : List Nat) (st : St) : Fresh aos is (st.prep aos) := by
  intro k _ o d ho hm k'
  have hd : d ∈ newsOf aos := by
    simp only [newsOf, List.mem_flatMap]
    refine ⟨o, List.mem_of_getElem? ho, ?_⟩
    revert hm
    unfold AOper.mem AOp.news
    cases o.op <;> simp
    · rename_i d' sh x; cases sh <;> simp <;> (intro e; exact e.symm)
    · rename_i d' sh z own; cases sh <;> simp <;> (intro e; exact e.symm)
    · rename_i d' sz bytes ag z n c; intro e; exact e.symm
    · rename_i d' sz e bytes ag x y; intro e; exact e.symm
  simp only [St.prep]
  rcases killAll_get (newsOf aos) st.σ k' with h | ⟨h1, h2⟩
  · rw [h]; rfl
  · rw [h1]; exact h2 d hd

theorem Inv.prep {g : Gh} {W : World} {a : Act} {N : Nat} {L : Nat → Nat} {st : St} (hi : Inv g W a N L st) (aos : List AOper) : Inv g W a N L (st.prep aos) := by
  refine ⟨hi.size, fun k => ?_, fun k e hk => ?_, hi.loc, hi.sh⟩
  · simp only [St.prep]
    rcases killAll_get (newsOf aos) st.σ k with h | ⟨h1, h2⟩
    · rw [h]; trivial
    · rw [h1]; exact hi.slot k
  · obtain ⟨x, h1, h2⟩ := hi.own k e hk
    refine ⟨x, ?_, h2⟩
    simp only [St.prep]
    have : ∀ (ds : List Nat) (σ : Slots), σ.get k = .v x → (σ.killAll ds).get k = .v x := by
      intro ds
      induction ds with
      | nil => intro σ h; exact h
      | cons d ds ih => intro σ h; exact ih _ (by rw [Slots.get_kill, h]; rfl)
    exact this _ _ h1
end
end Go.Av

/- Code: what the abstract code comes to, the model's comes to. -/
set_option linter.unusedVariables false
set_option linter.unusedSimpArgs false
set_option linter.unusedSectionVars false
namespace Go.Av
open Go

def mCode (P : Program) (N : Nat) : ACode → Code → Bool
  | .skip _ _, .skip => true
  | .region aos bs quiet _ _, .region _ ops draw => mOpers P N ops aos ops.toList &&
      (match bs with | none => !draw | some bs => draw && bsOk bs ops.toList 0 && drawOk quiet aos bs)
  | .seq a b, .seq c d => mCode P N a c && mCode P N b d
  | .cond x a b, .cond y c d => mOpd x y && mCode P N a c && mCode P N b d
  | .block i a, .block j c => i == j && mCode P N a c
  | .loop a, .loop c => mCode P N a c
  | .exit i _ _, .exit j => i == j
  | .ret, .ret => true
  | .freeze _ a, c => mCode P N a c
  | .scope a, .scope c => mCode P N a c
  | .label, .label _ => true
  | _, _ => false

section
variable {P : Program} {W0 : World} {N : Nat}

theorem Inv.keep' {g : Gh} {W : World} {a : Act} {L : Nat → Nat} {st : St} (h : Inv g W a N L st) (live locs : List Nat) : Inv g W a N L (st.keep live locs) := by
  refine ⟨h.size, fun k => ?_, fun k e hk => ?_, fun d x hx => h.loc d x (Locs.get_keep _ _ _ hx), h.sh⟩
  · simp only [St.keep, Slots.get_keep]
    split
    · exact h.slot k
    · trivial
  · simp only [St.keep, List.mem_filterMap, Option.map_eq_some_iff] at hk
    obtain ⟨j, hj, e', he, h2⟩ := hk
    simp only [Prod.mk.injEq] at h2
    obtain ⟨rfl, rfl⟩ := h2
    obtain ⟨x, q1, q2⟩ := h.own _ _ (rightOf_mem he)
    refine ⟨x, ?_, q2⟩
    simp [St.keep, Slots.get_keep, hj, q1]

theorem freeze_get (σ : Slots) (d : Nat) (cs : List AV) (k : Nat) : (σ.freeze d cs).get k = (σ.get k).frozen d cs := by
  induction σ with
  | nil => rfl
  | cons p r ih =>
    obtain ⟨j, x⟩ := p
    simp only [Slots.freeze, Slots.get]
    split
    · rfl
    · exact ih

/-- A block of the frame's own is written no more. -/
theorem Inv.freeze {g : Gh} {W : World} {a : Act} {L : Nat → Nat} {st st' : St} (h : Inv g W a N L st) {d : Nat} (hf : st.freeze d = some st') : ∃ g', Ext g W g' W ∧ Inv g' W a N L st' := by
  unfold St.freeze at hf
  split at hf
  · rename_i bx hbx
    simp only [Option.some.injEq] at hf
    subst hf
    obtain ⟨cs, ty, hb, hl, ho, hT, hr⟩ := h.loc d bx hbx
    have hlt := lt_of_heap hb
    let g' : Gh := { g with T := upd g.T (L d) bx.cells.length, O := upd g.O (L d) .free }
    have hne : g.O (L d) ≠ .ext := by rw [ho]; simp
    have hK : Keeps g W g' W := ⟨fun c => by
      show g.T c ≤ upd g.T (L d) bx.cells.length c
      by_cases e : c = L d
      · subst e; rw [upd_same, hT]; omega
      · rw [upd_other _ _ _ _ e]; exact Nat.le_refl _, fun _ _ _ => rfl, fun _ _ h => h⟩
    have hX : Ext g W g' W := ⟨hK, Nat.le_refl _, rfl, rfl, rfl, fun c hc => by
      have e : c ≠ L d := fun e => by subst e; exact hne hc
      exact ⟨by show upd g.O (L d) .free c = _; rw [upd_other _ _ _ _ e]; exact hc, rfl, by show upd g.T (L d) bx.cells.length c = _; rw [upd_other _ _ _ _ e]⟩⟩
    have h0 : Inv g W a N L { st with loc := st.loc.del d } := h.sub rfl (fun _ h => h) (fun d' x' hx => by
      simp only [Locs.get_del] at hx
      split at hx
      · cases hx
      · exact ⟨x', hx, x'.le_refl⟩) rfl (fun _ x hx => ⟨x, hx, x.le_refl⟩)
    have h1 : Inv g' W a N L { st with loc := st.loc.del d } := h0.keepX hK rfl (.loc d) (fun c hc hco => by
      have e : c ≠ L d := fun e => by subst e; exact hco ho
      exact ⟨rfl, by show upd g.O (L d) .free c = _; rw [upd_other _ _ _ _ e], by show upd g.T (L d) bx.cells.length c = _; rw [upd_other _ _ _ _ e]⟩) (fun c hc => by
      have e : c ≠ L d := by omega
      have := h.sh.fresh c hc
      exact ⟨by show upd g.T (L d) bx.cells.length c = _; rw [upd_other _ _ _ _ e]; exact this.1, by show upd g.O (L d) .free c = _; rw [upd_other _ _ _ _ e]; exact this.2⟩) (unused_loc (by simp [Locs.get_del]))
    refine ⟨g', hX, h1.size, fun k => ?_, fun k e hk => ?_, h1.loc, h1.sh⟩
    · have := h1.slot k
      simp only at this
      simp only [freeze_get]
      cases hs : st.σ.get k with
      | v x => rw [hs] at this; exact this
      | vn x ns => rw [hs] at this; exact ⟨RV_keeps (Keeps.refl g' W) this.1, this.2⟩
      | junk => trivial
      | undef => rw [hs] at this; exact this
      | ls d' sz ag n =>
        rw [hs] at this
        simp only [SV.frozen]
        split
        · rename_i e
          subst e
          split
          · rename_i es hes
            simp only [SVR] at this
            obtain ⟨hag, cap, hcap, hv⟩ := this
            rw [hv]
            obtain ⟨q1, q2, q3⟩ := chunk_ok hag hl hes
            have q := RV_slice_mk (g := g') (W := W) (sz := sz) (es := es) (p := some ⟨L d', 0, none⟩) (cap := cap) (by omega) (.inr ⟨L d', 0, (cs.toList.take bx.cells.length).take (n * sz), rfl, ?_, ?_, RE_keeps hK _ _ _ q3⟩)
            · rw [q1] at q; exact q
            · have := mem_of_rowT hb bx.cells.length 0
              exact mem_take this _
            · show 0 + ((cs.toList.take bx.cells.length).take (n * sz)).length ≤ upd g.T (L d') bx.cells.length (L d')
              rw [upd_same]
              simp
              omega
          · trivial
        · exact this
      | l d' off =>
        rw [hs] at this
        simp only [SV.frozen]
        split
        · rename_i e
          subst e
          split
          · rename_i hoff
            simp only [SVR] at this
            rw [this]
            refine ⟨?_, rfl⟩
            have hlen := RL_length hl
            simp only [R]
            refine ⟨L d', off, (cs.toList.take bx.cells.length).drop off, rfl, mem_of_rowT hb bx.cells.length off, ?_, RL_keeps hK _ _ (RL_drop hl off)⟩
            show off + ((cs.toList.take bx.cells.length).drop off).length ≤ upd g.T (L d') bx.cells.length (L d')
            rw [upd_same]
            simp at hlen ⊢
            omega
          · trivial
        · exact this
    · obtain ⟨x, q1, q2⟩ := h1.own k e hk
      refine ⟨x, ?_, q2⟩
      simp only at q1
      simp only [freeze_get, q1, SV.frozen]
  · cases hf

/-- What code ends in. -/
inductive Ends (g : Gh) (W : World) : AEx → Exit → Prop where
  | normal : Ends g W .normal .normal
  | exit (id : Nat) : Ends g W (.exit id) (.exit id)
  | ret : Ends g W .ret .ret
  | panic (v : AV) (u : Value) (h : RV g W v u) : Ends g W (.panic v) (.panic [{ v := u, recovered := false }])

def AEx.isPanic : AEx → Bool
  | .panic _ => true
  | _ => false

/-- What must hold behind it: of a panic only the shared blocks are told. -/
def GoesC (g : Gh) (W : World) (N : Nat) (df : List Deferred) (x : AEx) (st' : St) (Q : Exit → Act → World → Prop) : Prop :=
  ∀ g' W' a' L' st2 e, a'.defers = df → Ext g W g' W' → Inv g' W' a' N L' st2 → (st2 = st' ∨ (x.isPanic = true ∧ st2.S = st'.S)) → Ends g' W' x e → Q e a' W'

theorem ops_wp (hm : P.follows .mixedOrders = true) {rec : Rec} (hrec : RecSound P W0 rec) {aos : List AOper} {bs : Option (List Nat)} {quiet : Bool} {live locs : List Nat} {id : Nat} {ops : Array Oper} {draw : Bool}
    (hc : mCode P N (.region aos bs quiet live locs) (.region id ops draw) = true) {g : Gh} {W : World} {a : Act} {L : Nat → Nat} {st : St} (hi : Inv g W a N L st) (hB : Base W0 g W) {x : AEx} {st' : St}
    (h : acode rec (.region aos bs quiet live locs) st = some (x, st')) {Q : Exit → Act → World → Prop} (hg : GoesC g W N a.defers x st' Q) : (Code.region id ops draw).wp P Q a W := by
  simp only [mCode, Bool.and_eq_true] at hc
  obtain ⟨hmo, hc⟩ := hc
  have hrec' : RecSound P W0 (if quiet then rec.quiet else rec) := by
    split
    · exact hrec.quiet
    · exact hrec
  simp only [acode] at h
  cases hao : aops (if quiet then rec.quiet else rec) aos (if bs.isSome then st.prep aos else st) with
  | none => rw [hao] at h; cases h
  | some p =>
    obtain ⟨y, s⟩ := p
    rw [hao] at h
    -- whatever order: an end that is alike
    have go : ∀ (is : List Nat) {g0 : Gh} {W1 : World} {s1 st1 : St}, Inv g0 W1 a N L st1 → Base W0 g0 W1 → Ext g W g0 W1 → aopsI (if quiet then rec.quiet else rec) aos is st1 = some (y, s1) → Eqv s s1 → wpOps P ops Q is a W1 := by
      intro is g0 W1 s1 st1 hi1 hB1 hE1 h1 he
      refine opsI_wp hrec' hmo is hi1 hB1 h1 ⟨fun hy g' W' a' L' hdf hE hi' => ?_, fun v hy g' W' a' L' u hdf hE hi' hu => ?_⟩
      · subst hy
        simp only [normal, Option.some.injEq, Prod.mk.injEq] at h
        obtain ⟨rfl, hk⟩ := h
        have hk' : st' = s.keep live locs := hk.symm
        refine hg g' W' a' L' _ .normal hdf (hE1.trans hE) (hi'.keep' live locs) (.inl ?_) .normal
        rw [hk', he.keep]
      · subst hy
        simp only [Option.some.injEq, Prod.mk.injEq] at h
        obtain ⟨rfl, hk⟩ := h
        have hk' : st' = s := hk.symm
        exact hg g' W' a' L' s1 _ hdf (hE1.trans hE) hi' (.inr ⟨rfl, by rw [hk', he.S]⟩) (.panic v u hu)
    have hlen : aos.length = ops.size := by have := mOpers_length hmo; simpa using this
    cases bs with
    | none =>
      simp only [Bool.not_eq_true'] at hc
      subst hc
      simp only [Option.isSome_none, Bool.false_eq_true, if_false] at hao
      refine wp_region (go _ hi hB (Ext.refl g W) (s1 := s) ?_ (Eqv.refl s))
      rw [← hlen, aopsI_all]
      exact hao
    | some bs =>
      simp only [Bool.and_eq_true] at hc
      obtain ⟨⟨rfl, hbs⟩, hd⟩ := hc
      simp only [Option.isSome_some, if_true] at hao
      refine wp_region_draw fun t => ?_
      simp only [Region.schedule, hm, Bool.true_or, if_true]
      obtain ⟨s', h1, he⟩ := draw_order hlen hbs hd (prep_fresh aos _ st) hao t
      exact go _ (hi.prep aos).drew (hB.ext' (drew_ext g W)) (drew_ext g W) h1 he

theorem code_wp (hm : P.follows .mixedOrders = true) {rec : Rec} (hrec : RecSound P W0 rec) : ∀ (ac : ACode) {c : Code}, mCode P N ac c = true → ∀ {g : Gh} {W : World} {a : Act} {L : Nat → Nat} {st : St}, Inv g W a N L st → Base W0 g W →
    ∀ {x : AEx} {st' : St}, acode rec ac st = some (x, st') → ∀ {Q : Exit → Act → World → Prop}, GoesC g W N a.defers x st' Q → c.wp P Q a W := by
  intro ac
  induction ac with
  | skip live locs =>
    intro c hc g W a L st hi hB x st' h Q hg
    cases c <;> try (simp [mCode] at hc; done)
    simp only [acode, normal, Option.some.injEq, Prod.mk.injEq] at h
    obtain ⟨rfl, rfl⟩ := h
    exact wp_skip (hg g W a L _ _ rfl (Ext.refl g W) (hi.keep' live locs) (.inl rfl) .normal)
  | region aos bs quiet live locs =>
    intro c hc g W a L st hi hB x st' h Q hg
    cases c <;> try (simp [mCode] at hc; done)
    exact ops_wp hm hrec hc hi hB h hg
  | seq ca cb iha ihb =>
    intro c hc g W a L st hi hB x st' h Q hg
    cases c <;> try (simp [mCode] at hc; done)
    rename_i c d
    simp only [mCode, Bool.and_eq_true] at hc
    refine wp_seq ?_
    simp only [acode] at h
    cases h1 : acode rec ca st with
    | none => rw [h1] at h; cases h
    | some p =>
      obtain ⟨y, s1⟩ := p
      rw [h1] at h
      refine iha hc.1 hi hB h1 fun g' W' a' L' st2 e hdf hE hi' hst he => ?_
      cases he with
      | normal =>
        have hst2 : st2 = s1 := by
          rcases hst with h | ⟨h, _⟩
          · exact h
          · cases h
        subst hst2
        refine ihb hc.2 hi' (hB.ext' hE) h fun g2 W2 a2 L2 st3 e2 hdf2 hE2 hi2 hst2 he2 => ?_
        exact hg g2 W2 a2 L2 st3 e2 (hdf2.trans hdf) (hE.trans hE2) hi2 hst2 he2
      | exit id =>
        simp only [Option.some.injEq, Prod.mk.injEq] at h
        obtain ⟨rfl, rfl⟩ := h
        exact hg g' W' a' L' st2 _ hdf hE hi' hst (.exit id)
      | ret =>
        simp only [Option.some.injEq, Prod.mk.injEq] at h
        obtain ⟨rfl, rfl⟩ := h
        exact hg g' W' a' L' st2 _ hdf hE hi' hst .ret
      | panic v u hu =>
        simp only [Option.some.injEq, Prod.mk.injEq] at h
        obtain ⟨rfl, rfl⟩ := h
        exact hg g' W' a' L' st2 _ hdf hE hi' hst (.panic v u hu)
  | cond o ca cb iha ihb =>
    intro c hc g W a L st hi hB x st' h Q hg
    cases c <;> try (simp [mCode] at hc; done)
    rename_i o' c d
    simp only [mCode, Bool.and_eq_true] at hc
    simp only [acode] at h
    split at h
    · rename_i t ht
      have hv := RV_bool.1 (av_ok hi hc.1.1 ht)
      refine wp_cond hv ?_
      cases t with
      | true => exact iha hc.1.2 hi hB (by simpa using h) hg
      | false => exact ihb hc.2 hi hB (by simpa using h) hg
    · cases h
  | block id ca iha =>
    intro c hc g W a L st hi hB x st' h Q hg
    cases c <;> try (simp [mCode] at hc; done)
    rename_i id' c
    simp only [mCode, Bool.and_eq_true, beq_iff_eq] at hc
    obtain ⟨rfl, hc⟩ := hc
    refine wp_block ?_
    simp only [acode] at h
    cases h1 : acode rec ca st with
    | none => rw [h1] at h; cases h
    | some p =>
      obtain ⟨y, s1⟩ := p
      rw [h1] at h
      refine iha hc hi hB h1 fun g' W' a' L' st2 e hdf hE hi' hst he => ?_
      cases he with
      | normal =>
        simp only [Option.some.injEq, Prod.mk.injEq] at h
        obtain ⟨rfl, rfl⟩ := h
        exact hg g' W' a' L' st2 _ hdf hE hi' hst .normal
      | exit id2 =>
        simp only at h
        have hst2 : st2 = s1 := by
          rcases hst with h | ⟨h, _⟩
          · exact h
          · cases h
        subst hst2
        by_cases hid : id2 = id
        · rw [if_pos hid] at h
          simp only [normal, Option.some.injEq, Prod.mk.injEq] at h
          obtain ⟨rfl, rfl⟩ := h
          simp only [Exit.inBlock, hid, if_true]
          exact hg g' W' a' L' _ _ hdf hE hi' (.inl rfl) .normal
        · rw [if_neg hid] at h
          simp only [Option.some.injEq, Prod.mk.injEq] at h
          obtain ⟨rfl, rfl⟩ := h
          simp only [Exit.inBlock, hid, if_false]
          exact hg g' W' a' L' _ _ hdf hE hi' (.inl rfl) (.exit id2)
      | ret =>
        simp only [Option.some.injEq, Prod.mk.injEq] at h
        obtain ⟨rfl, rfl⟩ := h
        exact hg g' W' a' L' st2 _ hdf hE hi' hst .ret
      | panic v u hu =>
        simp only [Option.some.injEq, Prod.mk.injEq] at h
        obtain ⟨rfl, rfl⟩ := h
        exact hg g' W' a' L' st2 _ hdf hE hi' hst (.panic v u hu)
  | loop ca iha =>
    intro c hc g W a L st hi hB x st' h Q hg
    cases c <;> try (simp [mCode] at hc; done)
    rename_i c
    simp only [mCode] at hc
    simp only [acode] at h
    obtain ⟨n, hn⟩ := aloopW_some.1 h
    refine wp_loop_rounds n ?_
    clear h
    induction n generalizing g W a L st with
    | zero => simp [aloop] at hn
    | succ n ih =>
      rw [rounds_succ]
      simp only [aloop] at hn
      cases h1 : acode rec ca st with
      | none => rw [h1] at hn; cases hn
      | some p =>
        obtain ⟨y, s1⟩ := p
        rw [h1] at hn
        refine iha hc hi hB h1 fun g' W' a' L' st2 e hdf hE hi' hst he => ?_
        cases he with
        | normal =>
          have hst2 : st2 = s1 := by
            rcases hst with h | ⟨h, _⟩
            · exact h
            · cases h
          subst hst2
          refine ih hi' (hB.ext' hE) ?_ hn
          intro g2 W2 a2 L2 st3 e2 hdf2 hE2 hi2 hst2 he2
          exact hg g2 W2 a2 L2 st3 e2 (hdf2.trans hdf) (hE.trans hE2) hi2 hst2 he2
        | exit id2 =>
          simp only [Option.some.injEq, Prod.mk.injEq] at hn
          obtain ⟨rfl, rfl⟩ := hn
          exact hg g' W' a' L' st2 _ hdf hE hi' hst (.exit id2)
        | ret =>
          simp only [Option.some.injEq, Prod.mk.injEq] at hn
          obtain ⟨rfl, rfl⟩ := hn
          exact hg g' W' a' L' st2 _ hdf hE hi' hst .ret
        | panic v u hu =>
          simp only [Option.some.injEq, Prod.mk.injEq] at hn
          obtain ⟨rfl, rfl⟩ := hn
          exact hg g' W' a' L' st2 _ hdf hE hi' hst (.panic v u hu)
  | exit id live locs =>
    intro c hc g W a L st hi hB x st' h Q hg
    cases c <;> try (simp [mCode] at hc; done)
    simp only [mCode, beq_iff_eq] at hc
    subst hc
    simp only [acode, Option.some.injEq, Prod.mk.injEq] at h
    obtain ⟨rfl, rfl⟩ := h
    exact wp_exit (hg g W a L _ _ rfl (Ext.refl g W) (hi.keep' live locs) (.inl rfl) (.exit id))
  | ret =>
    intro c hc g W a L st hi hB x st' h Q hg
    cases c <;> try (simp [mCode] at hc; done)
    simp only [acode, Option.some.injEq, Prod.mk.injEq] at h
    obtain ⟨rfl, rfl⟩ := h
    exact wp_ret (hg g W a L _ _ rfl (Ext.refl g W) hi (.inl rfl) .ret)
  | freeze d ca iha =>
    intro c hc g W a L st hi hB x st' h Q hg
    simp only [mCode] at hc
    simp only [acode] at h
    split at h
    · rename_i s1 h1
      obtain ⟨g', hE, hi'⟩ := hi.freeze h1
      refine iha hc hi' (hB.ext' hE) h fun g2 W2 a2 L2 st3 e2 hdf2 hE2 hi2 hst2 he2 => ?_
      exact hg g2 W2 a2 L2 st3 e2 hdf2 (hE.trans hE2) hi2 hst2 he2
    · cases h
  | scope ca iha =>
    intro c hc g W a L st hi hB x st' h Q hg
    cases c <;> try (simp [mCode] at hc; done)
    simp only [mCode] at hc
    simp only [acode] at h
    refine wp_scope_straight ?_
    refine iha hc hi hB h fun g2 W2 a2 L2 st3 e2 hdf2 hE2 hi2 hst2 he2 => ?_
    have := hg g2 W2 a2 L2 st3 e2 hdf2 hE2 hi2 hst2 he2
    cases he2 <;> exact this
  | label =>
    intro c hc g W a L st hi hB x st' h Q hg
    cases c <;> try (simp [mCode] at hc; done)
    simp only [acode, normal, Option.some.injEq, Prod.mk.injEq] at h
    obtain ⟨rfl, rfl⟩ := h
    exact wp_label (hg g W a L _ _ rfl (Ext.refl g W) hi (.inl rfl) .normal)
end
end Go.Av

/- A function: what the abstract one comes to, a call of the model's comes to. -/
set_option linter.unusedVariables false
set_option linter.unusedSimpArgs false
set_option linter.unusedSectionVars false
namespace Go.Av
open Go

def SoundFun (P : Program) (W0 : World) (f : FuncId) (h : List AV → List Bx → Option (AEnd × List Bx)) : Prop :=
  ∀ args S e S', h args S = some (e, S') → Callable P f ∧
    ∀ g W (vs : Array Value), Base W0 g W → RT g W args vs.toList → SInv g W S → (∀ b, (g.O b).calm) → Calls P f vs W (Post g W e S')
theorem recSound_iff {P : Program} {W0 : World} {rec : Rec} : RecSound P W0 rec ↔ ∀ f, SoundFun P W0 f (rec f) :=
  ⟨fun h f args S e S' hr => h f args S e S' hr, fun h f args S e S' hr => h f args S e S' hr⟩

def mRes (P : Program) : List ARes → List ResultVar → Bool
  | [], [] => true
  | .tmp t :: r, .tmp u :: l => t == u && mRes P r l
  | .cell a n ag :: r, .cell b t :: l => a == b && tyAg P t == some ag && tySz P t == some n && mRes P r l
  | _, _ => false

def mFun (P : Program) (f : FuncId) (fn : AFun) : Bool :=
  match P.funcs[f]? with
  | some F => (match F.body with
    | some c => mCode P fn.N fn.body c && F.ntmps == fn.N && decide (fn.n ≤ fn.N) && !(F.name == "runtime.NumGoroutine") && mRes P fn.res F.results.toList
    | none => false)
  | none => false

/-! ### the shared blocks that a value speaks of -/
mutual
theorem R_closed {g : Gh} {W : World} : ∀ {a : AV} {l : List Value}, R g W a l → a.closed g.B.length = true
  | .bool _, l, h => by simp [AV.closed]
  | .int _ _, l, h => by simp [AV.closed]
  | .str _, l, h => by simp [AV.closed]
  | .agg cs, l, h => by simp only [R] at h; simp only [AV.closed]; exact RL_closed h
  | .tuple vs, l, h => by
    simp only [R] at h
    obtain ⟨a, _, h⟩ := h
    simp only [AV.closed]; exact RT_closed h
  | .slice sz es, l, h => by
    simp only [R] at h
    obtain ⟨p, cap, _, _, h⟩ := h
    simp only [AV.closed]
    rcases h with rfl | ⟨b, o, ms, _, _, _, h⟩
    · simp [closedL]
    · exact RE_closed h
  | .sptr cs, l, h => by
    simp only [R] at h
    obtain ⟨b, o, ms, _, _, _, h⟩ := h
    simp only [AV.closed]; exact RL_closed h
  | .nilptr, l, h => by simp [AV.closed]
  | .ptr i off, l, h => by
    simp only [R] at h
    obtain ⟨b, h, _⟩ := h
    simp only [AV.closed, decide_eq_true_eq]
    exact (List.getElem?_eq_some_iff.1 h).1
  | .clos fn first caps, l, h => by
    simp only [R] at h
    obtain ⟨f, c, _, h1, h2⟩ := h
    simp only [AV.closed, Bool.and_eq_true]
    exact ⟨RT_closed h1, RT_closed h2⟩
  | .nilfn, l, h => by simp [AV.closed]
  | .iface t v, l, h => by
    simp only [R] at h
    obtain ⟨u, _, h, _⟩ := h
    simp only [AV.closed]; exact R_closed h
  | .niliface, l, h => by simp [AV.closed]
  | .mapp i, l, h => by
    simp only [R] at h
    obtain ⟨b, h, _⟩ := h
    simp only [AV.closed, decide_eq_true_eq]
    exact (List.getElem?_eq_some_iff.1 h).1
  | .nilmap, l, h => by simp [AV.closed]
theorem RL_closed {g : Gh} {W : World} : ∀ {cs : List AV} {l : List Value}, RL g W cs l → closedL g.B.length cs = true
  | [], l, h => by simp [closedL]
  | c :: cs, l, h => by
    simp only [RL] at h
    obtain ⟨v, r, _, ⟨_, h1⟩, h2⟩ := h
    simp only [closedL, Bool.and_eq_true]
    exact ⟨R_closed h1, RL_closed h2⟩
theorem RE_closed {g : Gh} {W : World} {sz : Nat} : ∀ {cs : List AV} {l : List Value}, RE g W sz cs l → closedL g.B.length cs = true
  | [], l, h => by simp [closedL]
  | c :: cs, l, h => by
    simp only [RE] at h
    obtain ⟨x, r, _, _, ⟨_, h1⟩, h2⟩ := h
    simp only [closedL, Bool.and_eq_true]
    exact ⟨R_closed h1, RE_closed h2⟩
theorem RT_closed {g : Gh} {W : World} : ∀ {cs : List AV} {l : List Value}, RT g W cs l → closedL g.B.length cs = true
  | [], l, h => by simp [closedL]
  | c :: cs, l, h => by
    simp only [RT] at h
    obtain ⟨v, r, _, ⟨h1, _⟩, h2⟩ := h
    simp only [closedL, Bool.and_eq_true]
    exact ⟨R_closed h1, RT_closed h2⟩
end

/-- The same ghost but for the owners and the blocks from number n on. -/
structure Trunc (n : Nat) (g g' : Gh) : Prop where
  T : g'.T = g.T
  B : g'.B = g.B.take n

theorem Trunc.get {n : Nat} {g g' : Gh} (k : Trunc n g g') {i b : Nat} (hi : i < n) (h : g.B[i]? = some b) : g'.B[i]? = some b := by
  rw [k.B, List.getElem?_take, if_pos hi]; exact h

mutual
theorem R_trunc {n : Nat} {g g' : Gh} {W : World} (k : Trunc n g g') : ∀ {a : AV} {l : List Value}, a.closed n = true → R g W a l → R g' W a l
  | .bool _, l, _, h => by simpa [R] using h
  | .int _ _, l, _, h => by simpa [R] using h
  | .str _, l, _, h => by simpa [R] using h
  | .agg cs, l, c, h => by simp only [R, AV.closed] at h c ⊢; exact RL_trunc k c h
  | .tuple vs, l, c, h => by
    simp only [R, AV.closed] at h c ⊢
    obtain ⟨a, e, h⟩ := h
    exact ⟨a, e, RT_trunc k c h⟩
  | .slice sz es, l, c, h => by
    simp only [R, AV.closed] at h c ⊢
    obtain ⟨p, cap, e, hc, h⟩ := h
    refine ⟨p, cap, e, hc, h.imp id ?_⟩
    rintro ⟨b, o, ms, hp, hm, hT, he⟩
    exact ⟨b, o, ms, hp, hm, by rw [k.T]; exact hT, RE_trunc k c he⟩
  | .sptr cs, l, c, h => by
    simp only [R, AV.closed] at h c ⊢
    obtain ⟨b, o, ms, hp, hm, hT, he⟩ := h
    exact ⟨b, o, ms, hp, hm, by rw [k.T]; exact hT, RL_trunc k c he⟩
  | .nilptr, l, _, h => by simpa [R] using h
  | .ptr i off, l, c, h => by
    simp only [R, AV.closed, decide_eq_true_eq] at h c ⊢
    obtain ⟨b, h, e⟩ := h
    exact ⟨b, k.get c h, e⟩
  | .clos fn first caps, l, c, h => by
    simp only [R, AV.closed, Bool.and_eq_true] at h c ⊢
    obtain ⟨f, d, e, h1, h2⟩ := h
    exact ⟨f, d, e, RT_trunc k c.1 h1, RT_trunc k c.2 h2⟩
  | .nilfn, l, _, h => by simpa [R] using h
  | .iface t v, l, c, h => by
    simp only [R, AV.closed] at h c ⊢
    obtain ⟨u, e, h, s⟩ := h
    exact ⟨u, e, R_trunc k c h, s⟩
  | .niliface, l, _, h => by simpa [R] using h
  | .mapp i, l, c, h => by
    simp only [R, AV.closed, decide_eq_true_eq] at h c ⊢
    obtain ⟨b, h, e⟩ := h
    exact ⟨b, k.get c h, e⟩
  | .nilmap, l, _, h => by simpa [R] using h
theorem RL_trunc {n : Nat} {g g' : Gh} {W : World} (k : Trunc n g g') : ∀ {cs : List AV} {l : List Value}, closedL n cs = true → RL g W cs l → RL g' W cs l
  | [], l, _, h => by simpa [RL] using h
  | c :: cs, l, q, h => by
    simp only [RL, closedL, Bool.and_eq_true] at h q ⊢
    obtain ⟨v, r, e, ⟨h0, h1⟩, h2⟩ := h
    exact ⟨v, r, e, ⟨h0, R_trunc k q.1 h1⟩, RL_trunc k q.2 h2⟩
theorem RE_trunc {n : Nat} {g g' : Gh} {W : World} (k : Trunc n g g') {sz : Nat} : ∀ {cs : List AV} {l : List Value}, closedL n cs = true → RE g W sz cs l → RE g' W sz cs l
  | [], l, _, h => by simpa [RE] using h
  | c :: cs, l, q, h => by
    simp only [RE, closedL, Bool.and_eq_true] at h q ⊢
    obtain ⟨x, r, e, hx, ⟨h0, h1⟩, h2⟩ := h
    exact ⟨x, r, e, hx, ⟨h0, R_trunc k q.1 h1⟩, RE_trunc k q.2 h2⟩
theorem RT_trunc {n : Nat} {g g' : Gh} {W : World} (k : Trunc n g g') : ∀ {cs : List AV} {l : List Value}, closedL n cs = true → RT g W cs l → RT g' W cs l
  | [], l, _, h => by simpa [RT] using h
  | c :: cs, l, q, h => by
    simp only [RT, closedL, Bool.and_eq_true] at h q ⊢
    obtain ⟨v, r, e, ⟨h0, h1⟩, h2⟩ := h
    exact ⟨v, r, e, ⟨R_trunc k q.1 h0, h1⟩, RT_trunc k q.2 h2⟩
end

/-! ### leaving a function -/
def Own.leave (k : Option Nat) : Own → Own
  | .slot j => if k = some j then .res 0 else .free
  | .loc _ | .lcell _ _ | .res _ => .free
  | o => o
def Gh.leave (g : Gh) (k : Option Nat) (n : Nat) : Gh := { g with O := fun b => (g.O b).leave k, B := g.B.take n }
theorem leave_trunc (g : Gh) (k : Option Nat) (n : Nat) : Trunc n g (g.leave k n) := ⟨rfl, rfl⟩

section
variable {P : Program} {W0 : World} {N : Nat} {g g' : Gh} {W W' : World} {a' : Act} {L' : Nat → Nat} {st2 : St} {S : List Bx}

theorem MR_closed {g : Gh} {W : World} : ∀ {cs : List AV} {es : List MapEntry}, MR g W cs es → closedL g.B.length cs = true
  | [], [], _ => by simp [closedL]
  | [], _ :: _, h => by simp [MR] at h
  | [_], [], h => by simp [MR] at h
  | [_], _ :: _, h => by simp [MR] at h
  | _ :: _ :: _, [], h => by simp [MR] at h
  | k :: v :: r, e :: es, h => by
    obtain ⟨⟨h1, h2⟩, h3⟩ := h
    simp only [closedL, Bool.and_eq_true]
    exact ⟨R_closed h1.1, R_closed h2.1, MR_closed h3⟩
theorem MR_trunc {n : Nat} {g g' : Gh} {W : World} (t : Trunc n g g') : ∀ {cs : List AV} {es : List MapEntry}, closedL n cs = true → MR g W cs es → MR g' W cs es
  | [], [], _, _ => trivial
  | [], _ :: _, _, h => by simp [MR] at h
  | [_], [], _, h => by simp [MR] at h
  | [_], _ :: _, _, h => by simp [MR] at h
  | _ :: _ :: _, [], _, h => by simp [MR] at h
  | k :: v :: r, e :: es, c, h => by
    obtain ⟨⟨h1, h2⟩, h3⟩ := h
    simp only [closedL, Bool.and_eq_true] at c
    exact ⟨⟨⟨R_trunc t c.1 h1.1, h1.2⟩, R_trunc t c.2.1 h2.1, h2.2⟩, MR_trunc t c.2.2 h3⟩
theorem BxS_closed {g : Gh} {W : World} {b i : Nat} {x : Bx} (h : BxS g W b i x) : closedL g.B.length x.cells = true := by
  unfold BxS at h
  split at h
  · obtain ⟨_, es, clock, _, hM, _⟩ := h
    exact MR_closed hM
  · obtain ⟨cs, ty, _, h2, _⟩ := h
    exact RL_closed h2

theorem leave_ok (hE : Ext g W g' W') (hi : Inv g' W' a' N L' st2) (hS : SInv g W S) {n : Nat} (hn : S.length ≤ n) (k : Option Nat)
    (hcl : ∀ (i : Nat) x, i < n → st2.S[i]? = some x → closedL n x.cells = true) :
    Ext g W (g'.leave k n) W' ∧ SInv (g'.leave k n) W' (st2.S.take n) ∧ ∀ b, ((g'.leave k n).O b).calmR := by
  refine ⟨⟨⟨hE.T, hE.cell, fun i b hb => ?_⟩, hE.size, hE.os, hE.tape, hE.output, fun b hb => ?_⟩, ⟨?_, fun i x hx => ?_, fun b hb => ?_⟩, fun b => ?_⟩
  · have hlt := (List.getElem?_eq_some_iff.1 hb).1
    rw [hS.len] at hlt
    exact (leave_trunc g' k n).get (by omega) (hE.B i b hb)
  · obtain ⟨h1, h2, h3⟩ := hE.ext b hb
    exact ⟨by simp [Gh.leave, h1, Own.leave], h2, h3⟩
  · simp [Gh.leave, hi.sh.len]
  · rw [List.getElem?_take] at hx
    split at hx
    · rename_i hlt
      obtain ⟨b, hb, hbs⟩ := hi.sh.box i x hx
      refine ⟨b, (leave_trunc g' k n).get hlt hb, ?_⟩
      unfold BxS at hbs ⊢
      split at hbs
      · rename_i hmap
        rw [if_pos hmap]
        obtain ⟨q0, es, clock, q1, q2, q3, q4⟩ := hbs
        exact ⟨q0, es, clock, q1, MR_trunc (leave_trunc g' k n) (hcl i x hlt hx) q2, by simp [Gh.leave, q3, Own.leave], q4⟩
      rename_i hmap
      rw [if_neg hmap]
      obtain ⟨cs, ty, h1, h2, h3, h4, h5⟩ := hbs
      refine ⟨cs, ty, h1, RL_trunc (leave_trunc g' k n) (hcl i x hlt hx) h2, by simp [Gh.leave, h3, Own.leave], h4, fun j e hj => ?_⟩
      obtain ⟨y, v, q1, q2, q3⟩ := h5 j e hj
      refine ⟨y, v, q1, q2, ?_⟩
      obtain ⟨sz, es, rfl, q3⟩ := q3
      refine ⟨sz, es, rfl, q3.imp id ?_⟩
      rintro ⟨b, cap, cur, p1, p2, p3, p4, p5, p6, p7⟩
      exact ⟨b, cap, cur, p1, p2, p3, p4, p5, by simp [Gh.leave, p6, Own.leave], p7⟩
    · cases hx
  · obtain ⟨h1, h2⟩ := hi.sh.fresh b hb
    exact ⟨h1, by simp [Gh.leave, h2, Own.leave]⟩
  · simp only [Gh.leave]
    have : ∀ o : Own, (o.leave k).calmR := by
      intro o
      cases o with
      | slot j =>
        simp only [Own.leave]
        by_cases hk : k = some j
        · rw [if_pos hk]; trivial
        · rw [if_neg hk]; trivial
      | _ => trivial
    exact this _

/-- What aleave says. -/
theorem aleave_some {kb : Nat} {S S2 S' : List Bx} {e e' : AEnd} (h : aleave kb S S2 e = some (e', S')) :
    e' = e ∧ ∃ n, S.length ≤ n ∧ S' = S2.take n ∧ ((S2.length ≤ n) ∨ (TruncOk S S2 n ∧ e.closed n = true)) := by
  unfold aleave at h
  by_cases hl : S2.length ≤ S.length + kb
  · rw [if_pos hl] at h
    simp only [Option.some.injEq, Prod.mk.injEq] at h
    exact ⟨h.1.symm, _, Nat.le_add_right _ _, by rw [List.take_of_length_le hl]; exact h.2.symm, .inl hl⟩
  · rw [if_neg hl] at h
    by_cases hc : TruncOk S S2 (S.length + kb) ∧ e.closed (S.length + kb) = true
    · rw [if_pos hc] at h
      simp only [Option.some.injEq, Prod.mk.injEq] at h
      exact ⟨h.1.symm, _, Nat.le_add_right _ _, h.2.symm, .inr hc⟩
    · rw [if_neg hc] at h
      cases h

mutual
theorem closed_mono {m n : Nat} (h : m ≤ n) : ∀ {a : AV}, a.closed m = true → a.closed n = true
  | .bool _, _ => by simp [AV.closed]
  | .int _ _, _ => by simp [AV.closed]
  | .str _, _ => by simp [AV.closed]
  | .agg cs, c => by simp only [AV.closed] at c ⊢; exact closedL_mono h c
  | .tuple cs, c => by simp only [AV.closed] at c ⊢; exact closedL_mono h c
  | .slice _ cs, c => by simp only [AV.closed] at c ⊢; exact closedL_mono h c
  | .sptr cs, c => by simp only [AV.closed] at c ⊢; exact closedL_mono h c
  | .nilptr, _ => by simp [AV.closed]
  | .ptr i off, c => by simp only [AV.closed, decide_eq_true_eq] at c ⊢; omega
  | .clos fn f d, c => by simp only [AV.closed, Bool.and_eq_true] at c ⊢; exact ⟨closedL_mono h c.1, closedL_mono h c.2⟩
  | .nilfn, _ => by simp [AV.closed]
  | .iface t v, c => by simp only [AV.closed] at c ⊢; exact closed_mono h c
  | .niliface, _ => by simp [AV.closed]
  | .mapp i, c => by simp only [AV.closed, decide_eq_true_eq] at c ⊢; omega
  | .nilmap, _ => by simp [AV.closed]
theorem closedL_mono {m n : Nat} (h : m ≤ n) : ∀ {cs : List AV}, closedL m cs = true → closedL n cs = true
  | [], _ => by simp [closedL]
  | c :: cs, q => by simp only [closedL, Bool.and_eq_true] at q ⊢; exact ⟨closed_mono h q.1, closedL_mono h q.2⟩
end

theorem closed_boxes (hi : Inv g' W' a' N L' st2) (hS : SInv g W S) {n : Nat} (hn : S.length ≤ n) (h : (st2.S.length ≤ n) ∨ TruncOk S st2.S n) :
    ∀ (i : Nat) x, i < n → st2.S[i]? = some x → closedL n x.cells = true := by
  intro i x hlt hx
  rcases h with h | h
  · obtain ⟨b, hb, hbs⟩ := hi.sh.box i x hx
    have := BxS_closed hbs
    rw [hi.sh.len] at this
    exact closedL_mono h this
  · rcases h i x hlt hx with h | h
    · obtain ⟨b, hb, hbs⟩ := hS.box i x h
      have := BxS_closed hbs
      rw [hS.len] at this
      exact closedL_mono hn this
    · exact h

theorem post_ret {kb : Nat} (hE : Ext g W g' W') (hi : Inv g' W' a' N L' st2) (hS : SInv g W S) {r : AV} {own : Option Nat} {v : Value} {e : AEnd} {S' : List Bx} (hl : aleave kb S st2.S (.ret r own) = some (e, S'))
    (hv : RV g' W' r v) (ho : ∀ te, own = some te → ∃ k, Right g' W' (.slot k) te r v) : Post g W e S' (.returned v) W' := by
  obtain ⟨rfl, n, hn, rfl, hc⟩ := aleave_some hl
  have hk : ∃ k : Option Nat, ∀ te, own = some te → ∃ j, k = some j ∧ Right g' W' (.slot j) te r v := by
    cases own with
    | none => exact ⟨none, fun te h => by cases h⟩
    | some te =>
      obtain ⟨j, hj⟩ := ho te rfl
      exact ⟨some j, fun te' h => by cases h; exact ⟨j, rfl, hj⟩⟩
  obtain ⟨k, hk⟩ := hk
  obtain ⟨h1, h2, h3⟩ := leave_ok hE hi hS hn k (closed_boxes hi hS hn (hc.imp id fun h => h.1))
  have hcr : r.closed n = true := by
    rcases hc with h | h
    · have := R_closed hv.1
      rw [hi.sh.len] at this
      exact closed_mono h this
    · exact h.2
  refine ⟨_, h1, h2, h3, v, rfl, ⟨R_trunc (leave_trunc g' k n) hcr hv.1, hv.2⟩, fun te hte => ?_⟩
  obtain ⟨j, rfl, sz, es, rfl, q⟩ := hk te hte
  refine ⟨sz, es, rfl, q.imp id ?_⟩
  rintro ⟨b, cap, cur, p1, p2, p3, p4, p5, p6, p7⟩
  exact ⟨b, cap, cur, p1, p2, p3, p4, p5, by simp [Gh.leave, p6, Own.leave], p7⟩

theorem post_panic {kb : Nat} (hE : Ext g W g' W') (hi : Inv g' W' a' N L' st2) (hS : SInv g W S) {x : AV} {u : Value} {e : AEnd} {S' : List Bx} (hl : aleave kb S st2.S (.panic x) = some (e, S')) (hv : RV g' W' x u) :
    Post g W e S' (.panicked [{ v := u, recovered := false }]) W' := by
  obtain ⟨rfl, n, hn, rfl, hc⟩ := aleave_some hl
  obtain ⟨h1, h2, h3⟩ := leave_ok hE hi hS hn none (closed_boxes hi hS hn (hc.imp id fun h => h.1))
  have hcr : x.closed n = true := by
    rcases hc with h | h
    · have := R_closed hv.1
      rw [hi.sh.len] at this
      exact closed_mono h this
    · exact h.2
  exact ⟨_, h1, h2, h3, u, rfl, R_trunc (leave_trunc g' none n) hcr hv.1, hv.2⟩

/-! ### results -/
def resOf (a' : Act) : ResultVar → Sem Value
  | .tmp t => pure (a'.tmps.getD t undef)
  | .cell c t => do loadVar t (← asAddr (a'.tmps.getD c undef))
theorem ares_ok (hi : Inv g' W' a' N L' st2) {r : ARes} {rv : ResultVar} {x : AV} (hm : mRes P [r] [rv] = true) (h : ares st2 r = some x) :
    ∃ v, (resOf a' rv).run P W' = .ok v W' ∧ RV g' W' x v := by
  cases r with
  | tmp t =>
    cases rv with
    | cell c t => simp [mRes] at hm
    | tmp u =>
      simp only [mRes, Bool.and_true, beq_iff_eq] at hm
      subst hm
      refine ⟨a'.tmps.getD t undef, by simp [resOf], ?_⟩
      have := hi.slot t
      simp only [ares, St.av, St.sv] at h
      cases hs : st2.σ.get t with
      | v y =>
        rw [hs] at h this
        simp only [SV.av, Option.some.injEq] at h
        subst h
        exact this
      | vn y ns =>
        rw [hs] at h this
        simp only [SV.av, Option.some.injEq] at h
        subst h
        exact this.1
      | l d off => rw [hs] at h; simp [SV.av] at h
      | junk => rw [hs] at h; simp [SV.av] at h
      | undef => rw [hs] at h; simp [SV.av] at h
      | ls d sz ag n => rw [hs] at h; simp [SV.av] at h
  | cell c n ag =>
    cases rv with
    | tmp u => simp [mRes] at hm
    | cell c' t =>
      simp only [mRes, Bool.and_true, Bool.and_eq_true, beq_iff_eq] at hm
      obtain ⟨⟨rfl, hag⟩, hsz⟩ := hm
      simp only [ares] at h
      split at h
      · rename_i cs off hc
        obtain ⟨b, off', ms, he, hmm, hl⟩ := cellsAt_ok hi (hi.slot c) hc
        obtain ⟨v, hr, hv⟩ := aload_ok (P := P) hag hsz hmm hl h
        exact ⟨v, by simp [resOf, he, asAddr, hr], hv⟩
      · cases h

theorem aresAll_ok (hi : Inv g' W' a' N L' st2) : ∀ {rs : List ARes} {rvs : List ResultVar} {xs : List AV}, mRes P rs rvs = true → aresAll st2 rs = some xs →
    ∃ vs : List Value, (rvs.mapM (resOf a')).run P W' = .ok vs W' ∧ RT g' W' xs vs
  | [], [], xs, _, h => by
    simp only [aresAll, Option.some.injEq] at h
    subst h
    exact ⟨[], by simp, by simp [RT]⟩
  | [], _ :: _, _, hm, _ => by simp [mRes] at hm
  | r :: rs, [], _, hm, _ => by cases r <;> simp [mRes] at hm
  | r :: rs, rv :: rvs, xs, hm, h => by
    have hm1 : mRes P [r] [rv] = true ∧ mRes P rs rvs = true := by
      cases r <;> cases rv <;> simp_all [mRes]
    simp only [aresAll] at h
    split at h
    · rename_i x ys hx hys
      simp only [Option.some.injEq] at h
      subst h
      obtain ⟨v, h1, h2⟩ := ares_ok (P := P) hi hm1.1 hx
      obtain ⟨vs, h3, h4⟩ := aresAll_ok hi hm1.2 hys
      refine ⟨v :: vs, ?_, ?_⟩
      · simp only [List.mapM_cons]
        simp only [Sem.run_bind, h1, h3, Result.andThen]
        simp
      · simp only [RT]
        exact ⟨v, vs, rfl, h2, h4⟩
    · cases h

theorem results_run {F : Func} {tmps : Array Value} {a' : Act} (ha : a'.tmps = tmps) {vs : List Value} (h : (F.results.toList.mapM (resOf a')).run P W' = .ok vs W') :
    (results F tmps).run P W' = .ok (if h : vs.length = 1 then vs[0] else .tuple vs.toArray) W' := by
  subst ha
  have e0 : results F a'.tmps = F.results.mapM (resOf a') >>= fun vs => pure (if h : vs.size = 1 then vs[0] else .tuple vs) := by
    unfold results
    congr 1
  have e1 : F.results.mapM (resOf a') = List.toArray <$> F.results.toList.mapM (resOf a') := by
    conv => lhs; rw [← Array.toArray_toList (xs := F.results)]
    rw [List.mapM_toArray]
  rw [e0, e1]
  simp only [Sem.run_bind, Sem.run_map, h, Result.andThen_ok, Sem.run_pure]
  simp

/-- Where a function's end is told. -/
theorem aresult_ok (hi : Inv g' W' a' N L' st2) {F : Func} {rs : List ARes} (hm : mRes P rs F.results.toList = true) {r : AV} {own : Option Nat} (h : aresult st2 rs = some (r, own)) :
    ∃ v, (results F a'.tmps).run P W' = .ok v W' ∧ RV g' W' r v ∧ ∀ te, own = some te → ∃ k, Right g' W' (.slot k) te r v := by
  have all : ∀ {xs : List AV}, aresAll st2 rs = some xs → xs.length ≠ 1 → ∃ v, (results F a'.tmps).run P W' = .ok v W' ∧ RV g' W' (.tuple xs) v := by
    intro xs hx hl
    obtain ⟨vs, h1, h2⟩ := aresAll_ok (P := P) hi hm hx
    have h3 := results_run (F := F) rfl h1
    have hlen := RT_length h2
    rw [dif_neg (by omega)] at h3
    exact ⟨_, h3, by simp only [R]; exact ⟨vs.toArray, rfl, by simpa using h2⟩, rfl⟩
  have one : ∀ {x : ARes} {y : AV}, rs = [x] → ares st2 x = some y → ∃ v, (results F a'.tmps).run P W' = .ok v W' ∧ RV g' W' y v ∧ ∃ rv, F.results.toList = [rv] ∧ (resOf a' rv).run P W' = .ok v W' := by
    intro x y hx hy
    subst hx
    cases hl : F.results.toList with
    | nil => rw [hl] at hm; cases x <;> simp [mRes] at hm
    | cons rv l =>
      have hl0 : l = [] := by
        rw [hl] at hm
        cases l with
        | nil => rfl
        | cons a b => cases x <;> cases rv <;> simp [mRes] at hm
      subst hl0
      rw [hl] at hm
      obtain ⟨v, h1, h2⟩ := ares_ok (P := P) hi hm hy
      have h3 := results_run (P := P) (W' := W') (F := F) (a' := a') (vs := [v]) rfl (by rw [hl]; simp [h1])
      exact ⟨v, by simpa using h3, h2, rv, rfl, h1⟩
  unfold aresult at h
  split at h
  · rename_i t
    split at h
    · rename_i x hx
      simp only [Option.some.injEq, Prod.mk.injEq] at h
      obtain ⟨rfl, rfl⟩ := h
      obtain ⟨v, h1, h2, rv, h3, h4⟩ := one (x := .tmp t) rfl (by simpa [ares] using hx)
      refine ⟨v, h1, h2, fun te hte => ⟨t, ?_⟩⟩
      obtain ⟨y, q1, q2⟩ := hi.own t te (rightOf_mem hte)
      have hy : y = x := by
        simp only [St.av, St.sv, q1, SV.av, Option.some.injEq] at hx
        exact hx
      subst hy
      have : v = a'.tmps.getD t undef := by
        rw [h3] at hm
        cases rv with
        | cell c n => simp [mRes] at hm
        | tmp u =>
          simp only [mRes, Bool.and_true, beq_iff_eq] at hm
          subst hm
          simpa [resOf] using h4.symm
      rw [this]
      exact q2
    · cases h
  · rename_i x hx
    simp only [Option.map_eq_some_iff, Prod.mk.injEq] at h
    obtain ⟨y, hy, rfl, rfl⟩ := h
    obtain ⟨v, h1, h2, _⟩ := one rfl hy
    exact ⟨v, h1, h2, fun te hte => by cases hte⟩
  · rename_i hn1 hn2
    simp only [Option.map_eq_some_iff, Prod.mk.injEq] at h
    obtain ⟨xs, hy, rfl, rfl⟩ := h
    have hlen : ∀ {rs : List ARes} {xs : List AV}, aresAll st2 rs = some xs → xs.length = rs.length := by
      intro rs
      induction rs with
      | nil => intro xs h; simp only [aresAll, Option.some.injEq] at h; subst h; rfl
      | cons r rs ih =>
        intro xs h
        simp only [aresAll] at h
        split at h
        · rename_i hys
          simp only [Option.some.injEq] at h
          subst h
          simp [ih hys]
        · cases h
    have h1 : xs.length ≠ 1 := by
      rw [hlen hy]
      intro h1
      obtain ⟨x, hx⟩ := List.length_eq_one_iff.1 h1
      exact hn2 x hx
    obtain ⟨v, h2, h3⟩ := all hy h1
    exact ⟨v, h2, h3, fun te hte => by cases hte⟩

/-! ### entering a function -/
theorem zip_get (args : List AV) (n k : Nat) : Slots.get ((args.zipIdx n).map fun p => (p.2, SV.v p.1)) (n + k) = (match args[k]? with | some x => .v x | none => .junk) := by
  induction args generalizing n k with
  | nil => simp [Slots.get]
  | cons a args ih =>
    simp only [List.zipIdx_cons, List.map_cons, Slots.get]
    cases k with
    | zero => simp
    | succ k =>
      have h1 : ¬ n = n + (k + 1) := by omega
      rw [if_neg h1]
      have := ih (n + 1) k
      rw [show n + 1 + k = n + (k + 1) by omega] at this
      rw [this]
      simp
theorem zip_low (args : List AV) (n k : Nat) (hk : k < n) : Slots.get ((args.zipIdx n).map fun p => (p.2, SV.v p.1)) k = .junk := by
  induction args generalizing n with
  | nil => rfl
  | cons a args ih =>
    simp only [List.zipIdx_cons, List.map_cons, Slots.get]
    rw [if_neg (by omega)]
    exact ih (n + 1) (by omega)

theorem enter_ok {args : List AV} {vs : Array Value} (hT : RT g W args vs.toList) (hS : SInv g W S) (hN : args.length ≤ N) :
    Inv g W { tmps := vs ++ Array.replicate (N - vs.size) undef, defers := [] } N (fun _ => 0) (aenter args S) := by
  have hl := RT_length hT
  simp at hl
  refine ⟨by simp; omega, fun k => ?_, fun k e hk => (by cases hk), fun d x hx => (by cases hx), hS⟩
  have := zip_get args 0 k
  simp only [Nat.zero_add] at this
  simp only [aenter, this]
  cases hk : args[k]? with
  | none => trivial
  | some x =>
    obtain ⟨v, h1, h2⟩ := RT_get hT hk
    have hv : vs[k]? = some v := by simpa using h1
    have hks : k < vs.size := (Array.getElem?_eq_some_iff.1 hv).1
    show RV g W x _
    have : (vs ++ Array.replicate (N - vs.size) undef).getD k undef = v := by
      rw [Array.getD_eq_getD_getElem?, Array.getElem?_append, if_pos hks, hv]
      rfl
    simp only [this]
    exact h2

/-- A function of the program. -/
theorem fun_sound (hP : P.follows .mixedOrders = true) {rec : Rec} (hrec : RecSound P W0 rec) {f : FuncId} {fn : AFun} (hm : mFun P f fn = true) : SoundFun P W0 f (afun rec fn) := by
  intro args S e S' h
  unfold mFun at hm
  split at hm
  · rename_i F hF
    split at hm
    · rename_i c hc
      simp only [Bool.and_eq_true, beq_iff_eq, decide_eq_true_eq, Bool.not_eq_true'] at hm
      obtain ⟨⟨⟨⟨hm, hN⟩, hn⟩, hname⟩, hres⟩ := hm
      refine ⟨⟨F, hF, hname, by simp [hc]⟩, fun g W vs hB hT hS hcalm => ?_⟩
      unfold afun at h
      split at h
      · rename_i hlen
        cases hcode : acode rec fn.body (aenter args S) with
        | none => rw [hcode] at h; cases h
        | some p =>
          obtain ⟨x, st⟩ := p
          rw [hcode] at h
          have hl := RT_length hT
          simp at hl
          refine calls_of_wp hF hc ?_
          rw [hN]
          have hi := enter_ok (N := fn.N) hT hS (by omega)
          refine code_wp hP hrec fn.body hm hi hB hcode ?_
          intro g' W' a' L' st2 e2 hdf hE hi' hst he
          have hfin : ∀ {st3 : St}, st2 = st3 → (match aresult st3 fn.res with | some (r, own) => aleave fn.keepB S st3.S (.ret r own) | none => none) = some (e, S') →
              a'.defers = [] ∧ ∃ v, (results F a'.tmps).run P W' = .ok v W' ∧ Post g W e S' (.returned v) W' := by
            intro st3 h3 h4
            subst h3
            split at h4
            · rename_i r own hr
              obtain ⟨v, q1, q2, q3⟩ := aresult_ok hi' hres hr
              exact ⟨hdf, v, q1, post_ret hE hi' hS h4 q2 q3⟩
            · cases h4
          cases he with
          | normal =>
            have h2 : st2 = st := by
              rcases hst with h | ⟨h, _⟩
              · exact h
              · cases h
            exact hfin h2 h
          | ret =>
            have h2 : st2 = st := by
              rcases hst with h | ⟨h, _⟩
              · exact h
              · cases h
            exact hfin h2 h
          | exit id => cases h
          | panic v u hu =>
            have h2 : st2.S = st.S := by
              rcases hst with h | ⟨_, h⟩
              · rw [h]
              · exact h
            refine ⟨hdf, ?_⟩
            simp only at h
            rw [← h2] at h
            exact post_panic hE hi' hS h hu
      · cases h
    · cases hm
  · cases hm
end
end Go.Av

/- What the call is handed, read as values. -/
set_option linter.unusedVariables false
set_option linter.unusedSimpArgs false
set_option linter.unusedSectionVars false
namespace Go.Av
open Go

/-- The value of type t in cells from an offset on. -/
def pickAV (P : Program) (t : TypeId) (cells : List AV) (off : Nat) : AV :=
  if tyAg P t = some true then .agg ((cells.drop off).take (P.cellsOf t)) else cells.getD off .niliface

/-- A value has the shape of a type. -/
inductive HasTy (P : Program) : TypeId → AV → Prop where
  | bool {t : TypeId} (b : Bool) (h : P.underlying t = some .bool) : HasTy P t (.bool b)
  | int {t : TypeId} (k : IntKind) (n : Int) (h : P.underlying t = some (.int k)) (hw : (Lit.int k n).wf = true) : HasTy P t (.int k n)
  | str {t : TypeId} (s : ByteArray) (h : P.underlying t = some .string) (hs : s.size ≤ maxLen) : HasTy P t (.str s)
  | slice {t e : TypeId} (es : List AV) (h : P.underlying t = some (.slice e)) (hl : es.length ≤ maxLen) (he : ∀ a ∈ es, HasTy P e a) : HasTy P t (.slice (P.cellsOf e) es)
  | struct {t : TypeId} {fs : Array Field} (cs : List AV) (h : P.underlying t = some (.struct fs)) (hl : cs.length = P.cellsOf t) (hf : ∀ f ∈ fs.toList, HasTy P f.type (pickAV P f.type cs f.offset)) : HasTy P t (.agg cs)
  | array {t e : TypeId} {n : Nat} (cs : List AV) (h : P.underlying t = some (.array n e)) (hl : cs.length = P.cellsOf t) (hf : ∀ i, i < n → HasTy P e (pickAV P e cs (i * P.cellsOf e))) : HasTy P t (.agg cs)

/-- Parts lie one behind the other. -/
def tiles (P : Program) : List (TypeId × Nat) → Nat → Nat → Bool
  | [], o, n => o == n
  | (t, off) :: r, o, n => off == o && tiles P r (o + P.cellsOf t) n
/-- Types that are read here: each one's parts are of these types too. -/
def plainTy (P : Program) (T : List TypeId) (t : TypeId) : Bool :=
  match P.underlying t with
  | some .bool => P.cellsOf t == 1
  | some (.int _) => P.cellsOf t == 1
  | some .string => P.cellsOf t == 1
  | some (.slice e) => P.cellsOf t == 1 && T.contains e && decide (0 < P.cellsOf e)
  | some (.struct fs) => fs.toList.all (fun f => T.contains f.type) && tiles P (fs.toList.map fun f => (f.type, f.offset)) 0 (P.cellsOf t)
  | some (.array n e) => T.contains e && tiles P ((List.range n).map fun i => (e, i * P.cellsOf e)) 0 (P.cellsOf t)
  | _ => false

/-- The ghost of a world that a call is begun in. -/
def gOf (W : World) : Gh := { T := fun b => match W.heap[b]? with | some (.cells cs _ _) => cs.size | _ => 0, B := [], O := fun b => if b < W.heap.size then .ext else .free }

theorem gOf_base (W : World) : Base W (gOf W) W := ⟨Nat.le_refl _, rfl, rfl, rfl, fun b hb => ⟨by simp [gOf, hb], rfl⟩⟩
theorem gOf_S (W : World) : SInv (gOf W) W [] := ⟨rfl, fun i x hx => by simp at hx, fun b hb => by
  have h1 : W.heap[b]? = none := Array.getElem?_eq_none hb
  have h2 : ¬ b < W.heap.size := by omega
  simp [gOf, h1, h2]⟩
theorem gOf_calm (W : World) : ∀ b, ((gOf W).O b).calm := by
  intro b
  simp only [gOf]
  split <;> trivial

section
variable {H : Type} {enc : TypeId × Value → H} {P : Program} {W : World} {base : Nat} {spare : Nat → Bool} {held : Bool} {T : List TypeId}

def descAgg : TypeDesc → Bool
  | .struct _ => true
  | .array _ _ => true
  | _ => false
theorem tyAg_of {t : TypeId} {d : TypeDesc} (h : P.underlying t = some d) : tyAg P t = some (descAgg d) := by
  unfold tyAg
  rw [h]
  cases d <;> rfl
theorem pick_cell {t : TypeId} {d : TypeDesc} (h : P.underlying t = some d) (hd : descAgg d = false) (cells : List AV) (off : Nat) : pickAV P t cells off = cells.getD off .niliface := by
  simp [pickAV, tyAg_of h, hd]
theorem pick_agg {t : TypeId} {d : TypeDesc} (h : P.underlying t = some d) (hd : descAgg d = true) (cells : List AV) (off : Nat) : pickAV P t cells off = .agg ((cells.drop off).take (P.cellsOf t)) := by
  simp [pickAV, tyAg_of h, hd]

theorem cell_T {b o : Nat} {v : Value} (h : W.cell? ⟨b, o, none⟩ = some v) : o < (gOf W).T b := by
  unfold World.cell? at h
  simp only at h
  simp only [gOf]
  split at h
  · rename_i c e f hb
    rw [hb]
    simp only [Option.isSome_none, Bool.false_eq_true, if_false] at h
    exact (Array.getElem?_eq_some_iff.1 h).1
  · cases h

/-- Cells read at an address. -/
theorem cells_mem {a : Addr} {n : Nat} {cs : List Value} (h : W.cells? base a n = some cs) (hn : 0 < n) : a.spot = none ∧ cs.length = n ∧ mem W a.block a.off cs := by
  unfold World.cells? at h
  split at h
  · have hlen := mapM_some_length h
    simp at hlen
    have hg : ∀ i, i < n → W.cell? (a.add i) = cs[i]? := fun i hi => mapM_some_get h i i (by simp [hi])
    have h0 := hg 0 hn
    have hs : a.spot = none := by
      have hc : cs[0]? = some cs[0] := by simp
      rw [hc] at h0
      have ha : a.add 0 = a := by simp [Addr.add]
      rw [ha] at h0
      unfold World.cell? at h0
      split at h0
      · cases hs : a.spot with
        | none => rfl
        | some x => rw [hs] at h0; simp at h0
      · cases h0
    refine ⟨hs, hlen, fun j v hj => ?_⟩
    have hjn : j < n := by
      have := (List.getElem?_eq_some_iff.1 hj).1
      omega
    have := hg j hjn
    rw [hj] at this
    have e : a.add j = ⟨a.block, a.off + j, none⟩ := by
      unfold Addr.add
      split
      · rename_i h0; subst h0
        cases a; simp at hs; simp [hs]
      · rfl
    rwa [e] at this
  · cases h

theorem mem_T {b o : Nat} {ms : List Value} (h : mem W b o ms) (hn : 0 < ms.length) : o + ms.length ≤ (gOf W).T b := by
  have hj : ms[ms.length - 1]? = some (ms[ms.length - 1]'(by omega)) := by rw [List.getElem?_eq_getElem]
  have := cell_T (h _ _ hj)
  omega

/-- What is read of cells at a type. -/
structure Reads (P : Program) (W : World) (t : TypeId) (cs : List Value) : Prop where
  len : cs.length = P.cellsOf t
  one : tyAg P t = some false → P.cellsOf t = 1
  ag : (tyAg P t).isSome = true
  ex : ∃ cells, RL (gOf W) W cells cs ∧ HasTy P t (pickAV P t cells 0) ∧ cells.length = P.cellsOf t

/-- The value of cells that are read at a type. -/
theorem Reads.val {t : TypeId} {cs : List Value} (hr : Reads P W t cs) : ∃ a, HasTy P t a ∧ a.isDat = true ∧ R (gOf W) W a cs ∧ a.isAgg = (tyAg P t == some true) := by
  obtain ⟨hl, h1, hag, cells, hR, hT, hn⟩ := hr
  cases hq : tyAg P t with
  | none => rw [hq] at hag; cases hag
  | some b =>
    cases b with
    | true =>
      have e : pickAV P t cells 0 = .agg cells := by simp only [pickAV, if_pos hq, List.drop_zero]; rw [List.take_of_length_le (by omega)]
      rw [e] at hT
      exact ⟨_, hT, rfl, by simpa [R] using hR, rfl⟩
    | false =>
      have h1' := h1 hq
      rw [h1'] at hn
      match cells, hn, hR, hT with
      | [c], _, hR, hT =>
        simp only [RL] at hR
        obtain ⟨v, r, rfl, ⟨hc, hv⟩, rfl⟩ := hR
        have e : pickAV P t [c] 0 = c := by simp [pickAV, hq]
        rw [e] at hT
        exact ⟨c, hT, isDat_of_cell hc, hv, by rw [isAgg_of_cell hc]; rfl⟩

theorem parts_ok {cs : List Value} : ∀ (l : List (TypeId × Nat)) (o : Nat), tiles P l o cs.length = true → (∀ p ∈ l, Reads P W p.1 ((cs.drop p.2).take (P.cellsOf p.1))) →
    ∃ cells, RL (gOf W) W cells (cs.drop o) ∧ ∀ p ∈ l, o ≤ p.2 ∧ HasTy P p.1 (pickAV P p.1 cells (p.2 - o))
  | [], o, ht, _ => by
    simp only [tiles, beq_iff_eq] at ht
    subst ht
    exact ⟨[], by simp [RL], fun p hp => by cases hp⟩
  | (t, off) :: r, o, ht, hr => by
    simp only [tiles, Bool.and_eq_true, beq_iff_eq] at ht
    obtain ⟨rfl, ht⟩ := ht
    obtain ⟨cells2, h2, h3⟩ := parts_ok r _ ht (fun p hp => hr p (.tail _ hp))
    obtain ⟨hl, h1, hag, cells1, h4, h5, h6⟩ := hr (t, off) (.head _)
    simp only at hl h1 hag h4 h5 h6
    refine ⟨cells1 ++ cells2, ?_, fun p hp => ?_⟩
    · have e : cs.drop off = (cs.drop off).take (P.cellsOf t) ++ cs.drop (off + P.cellsOf t) := by
        rw [← List.drop_drop, List.take_append_drop]
      rw [e]
      exact RL_app h4 h2
    · cases hp with
      | head =>
        refine ⟨Nat.le_refl _, ?_⟩
        simp only [Nat.sub_self]
        have : pickAV P t (cells1 ++ cells2) 0 = pickAV P t cells1 0 := by
          by_cases hq : tyAg P t = some true
          · simp only [pickAV, if_pos hq, List.drop_zero]
            rw [List.take_append_of_le_length (by omega)]
          · have hq' : tyAg P t = some false := by
              cases hx : tyAg P t with
              | none => rw [hx] at hag; cases hag
              | some b => cases b <;> simp_all
            have := h1 hq'
            have hlt : 0 < cells1.length := by omega
            simp [pickAV, hq', List.getElem?_append_left hlt]
        rw [this]; exact h5
      | tail _ hp =>
        obtain ⟨h7, h8⟩ := h3 p hp
        refine ⟨by omega, ?_⟩
        have : pickAV P p.1 (cells1 ++ cells2) (p.2 - off) = pickAV P p.1 cells2 (p.2 - (off + P.cellsOf t)) := by
          have e : p.2 - off = cells1.length + (p.2 - (off + P.cellsOf t)) := by omega
          simp only [pickAV, e, List.drop_append, List.drop_eq_nil_of_le (Nat.le_add_right _ _), List.nil_append, Nat.add_sub_cancel_left]
          simp [List.getElem?_append_right]
        rw [this]; exact h8

theorem mem_append {b o : Nat} {ms ns : List Value} (h : mem W b o ms) (k : mem W b (o + ms.length) ns) : mem W b o (ms ++ ns) := by
  intro j v hj
  rw [List.getElem?_append] at hj
  split at hj
  · exact h j v hj
  · rename_i hlt
    have := k _ v hj
    rwa [show o + ms.length + (j - ms.length) = o + j by omega] at this

theorem add_off (a : Addr) (hs : a.spot = none) (k : Nat) : a.add k = ⟨a.block, a.off + k, none⟩ := by
  unfold Addr.add
  split
  · rename_i h0; subst h0; cases a; simp at hs; simp [hs]
  · rfl

/-- The elements of a slice. -/
theorem elems_ok {a : Addr} {e : TypeId} (hz : 0 < P.cellsOf e) : ∀ (k : Nat), (∀ i, i < k → ∃ cs, W.cells? base (a.add (i * P.cellsOf e)) (P.cellsOf e) = some cs ∧ Reads P W e cs) →
    ∃ es ms, es.length = k ∧ RE (gOf W) W (P.cellsOf e) es ms ∧ mem W a.block a.off ms ∧ (∀ x ∈ es, HasTy P e x) ∧ (0 < k → a.spot = none)
  | 0, _ => ⟨[], [], rfl, by simp [RE], fun j v hj => by simp at hj, fun x hx => (by cases hx), fun h => by omega⟩
  | k + 1, h => by
    obtain ⟨es, ms, h1, h2, h3, h4, h5⟩ := elems_ok hz k (fun i hi => h i (by omega))
    obtain ⟨cs, hc, hr⟩ := h k (by omega)
    have hs : a.spot = none := by
      obtain ⟨cs0, hc0, _⟩ := h 0 (by omega)
      have := (cells_mem hc0 hz).1
      simpa [Addr.add] using this
    obtain ⟨_, hl, hm⟩ := cells_mem hc hz
    obtain ⟨x, hx, hd, hR, _⟩ := hr.val
    have hml := RE_length h2
    refine ⟨es ++ [x], ms ++ cs, by simp [h1], RE_app h2 ?_, mem_append h3 ?_, fun y hy => ?_, fun _ => hs⟩
    · simp only [RE]
      exact ⟨cs, [], by simp, hl, ⟨hd, hR⟩, rfl⟩
    · rw [add_off a hs] at hm
      simp only at hm
      rw [hml, h1]
      exact hm
    · simp only [List.mem_append, List.mem_singleton] at hy
      rcases hy with hy | rfl
      · exact h4 y hy
      · exact hx

theorem trod_reads (hT : ∀ t ∈ T, plainTy P T t = true) : ∀ (fuel : Nat) (t : TypeId) (cs : List Value) (x : DataW H × List MemPlace), t ∈ T → DataW.trod enc P W base spare held fuel t cs = some x → Reads P W t cs := by
  intro fuel
  induction fuel with
  | zero => intro t cs x _ h; simp [DataW.trod] at h
  | succ fuel ih =>
    intro t cs x ht h
    have hp := hT t ht
    unfold plainTy at hp
    cases hu : P.underlying t with
    | none => rw [hu] at hp; cases hp
    | some d =>
      rw [hu] at hp
      have hag := tyAg_of hu
      have single : ∀ {v : Value} {c : AV}, descAgg d = false → P.cellsOf t = 1 → cs = [v] → c.isCell = true → R (gOf W) W c [v] → HasTy P t c → Reads P W t cs := by
        rintro v c hd h1 rfl hc hR hTy
        refine ⟨by simp [h1], fun _ => h1, by rw [hag]; rfl, [c], by simp only [RL]; exact ⟨v, [], rfl, ⟨hc, hR⟩, rfl⟩, ?_, by simp [h1]⟩
        rw [pick_cell hu hd]
        exact hTy
      cases d with
      | bool =>
        obtain ⟨b, rfl, _⟩ := DataW.trod_bool hu h
        exact single (c := .bool b) rfl (by simpa using hp) rfl rfl (by simp [R]) (.bool b hu)
      | int k =>
        obtain ⟨n, rfl, _, hw⟩ := DataW.trod_int hu h
        exact single (c := .int k n) rfl (by simpa using hp) rfl rfl (by simp [R]) (.int k n hu hw)
      | string =>
        obtain ⟨s, rfl, _, hs⟩ := DataW.trod_string hu h
        exact single (c := .str s) rfl (by simpa using hp) rfl rfl (by simp [R]) (.str s hu hs)
      | slice e =>
        simp only [Bool.and_eq_true, beq_iff_eq, decide_eq_true_eq, List.contains_eq_mem] at hp
        obtain ⟨⟨h1, heT⟩, hz⟩ := hp
        rcases DataW.trod_slice hu h with ⟨rfl, _⟩ | ⟨a, len, cap, elems, rest, n, hn, rfl, _, _, hlc, hcap, hel, hread, _⟩
        · exact single (c := .slice (P.cellsOf e) []) rfl h1 rfl rfl (by simp only [R]; exact ⟨none, 0, rfl, Nat.le_refl _, .inl trivial⟩) (.slice [] hu (by simp) (fun a ha => by cases ha))
        · obtain rfl : fuel = n := by omega
          obtain ⟨es, ms, q1, q2, q3, q4, q5⟩ := elems_ok (base := base) (a := a) hz len (fun i hi => by
            have := hread i hi
            have hi' : elems[i]? = some (elems[i]'(by omega)) := by rw [List.getElem?_eq_getElem]
            rw [hi'] at this
            cases hc : W.cells? base (a.add (i * P.cellsOf e)) (P.cellsOf e) with
            | none => rw [hc] at this; cases this
            | some cs => rw [hc] at this; exact ⟨cs, rfl, ih e cs _ heT this⟩)
          have hml := RE_length q2
          refine single (c := .slice (P.cellsOf e) es) rfl h1 rfl rfl ?_ (.slice es hu (by omega) q4)
          simp only [R]
          refine ⟨some a, cap, by rw [q1], by omega, ?_⟩
          rcases Nat.eq_zero_or_pos len with h0 | h0
          · left; exact List.eq_nil_of_length_eq_zero (by omega)
          · right
            have hs := q5 h0
            refine ⟨a.block, a.off, ms, by cases a; simp at hs; simp [hs], q3, mem_T q3 ?_, q2⟩
            rw [hml, q1]
            exact Nat.mul_pos h0 hz
      | struct fs =>
        simp only [Bool.and_eq_true, List.all_eq_true, List.contains_eq_mem, decide_eq_true_eq] at hp
        obtain ⟨hfT, htile⟩ := hp
        obtain ⟨xs, n, hn, _, hl, hxl, hread⟩ := DataW.trod_struct hu h
        obtain rfl : fuel = n := by omega
        obtain ⟨cells, h1, h2⟩ := parts_ok (P := P) (W := W) (cs := cs) _ 0 (by rw [hl]; exact htile) (fun p hp => by
          simp only [List.mem_map] at hp
          obtain ⟨f, hf, rfl⟩ := hp
          obtain ⟨i, hi⟩ := List.getElem?_of_mem hf
          have hi' : fs[i]? = some f := by simpa using hi
          have hlt : i < fs.size := (Array.getElem?_eq_some_iff.1 hi').1
          have := hread i f hi'
          have hx : xs[i]? = some (xs[i]'(by omega)) := by rw [List.getElem?_eq_getElem]
          rw [hx] at this
          exact ih f.type _ _ (hfT f hf) this)
        simp only [List.drop_zero] at h1
        have hcl := RL_length h1
        refine ⟨hl, fun hq => (by rw [hag] at hq; cases hq), by rw [hag]; rfl, cells, h1, ?_, by omega⟩
        rw [pick_agg hu rfl, List.drop_zero, List.take_of_length_le (by omega)]
        refine .struct cells hu (by omega) fun f hf => ?_
        have := h2 (f.type, f.offset) (List.mem_map.2 ⟨f, hf, rfl⟩)
        simpa using this.2
      | array n e =>
        simp only [Bool.and_eq_true, List.contains_eq_mem, decide_eq_true_eq] at hp
        obtain ⟨heT, htile⟩ := hp
        obtain ⟨xs, m, hm, _, hl, hxl, hread⟩ := DataW.trod_array hu h
        obtain rfl : fuel = m := by omega
        obtain ⟨cells, h1, h2⟩ := parts_ok (P := P) (W := W) (cs := cs) _ 0 (by rw [hl]; exact htile) (fun p hp => by
          simp only [List.mem_map, List.mem_range] at hp
          obtain ⟨i, hi, rfl⟩ := hp
          have := hread i hi
          have hx : xs[i]? = some (xs[i]'(by omega)) := by rw [List.getElem?_eq_getElem]
          rw [hx] at this
          exact ih e _ _ heT this)
        simp only [List.drop_zero] at h1
        have hcl := RL_length h1
        refine ⟨hl, fun hq => (by rw [hag] at hq; cases hq), by rw [hag]; rfl, cells, h1, ?_, by omega⟩
        rw [pick_agg hu rfl, List.drop_zero, List.take_of_length_le (by omega)]
        refine .array cells hu (by omega) fun i hi => ?_
        have := h2 (e, i * P.cellsOf e) (List.mem_map.2 ⟨i, List.mem_range.2 hi, rfl⟩)
        simpa using this.2
      | _ => cases hp

/-- An argument. -/
theorem trod_arg (hT : ∀ t ∈ T, plainTy P T t = true) {t : TypeId} (ht : t ∈ T) {r : Reach} {b0 : Nat} {v : Value} (hval : Value.okWide P W r b0 t v) {d : DataW H} {ps : List MemPlace} (hd : DataW.Trod enc P W base spare held t v d ps) :
    ∃ a, HasTy P t a ∧ RV (gOf W) W a v := by
  obtain ⟨fuel, hd⟩ := hd
  have hr := trod_reads hT fuel t _ _ ht hd
  obtain ⟨a, h1, h2, h3, h4⟩ := hr.val
  refine ⟨a, h1, h3, ?_⟩
  rw [h4]
  have hp := hT t ht
  unfold plainTy at hp
  cases hu : P.underlying t with
  | none => rw [hu] at hp; cases hp
  | some d =>
    rw [hu] at hp
    have hag := tyAg_of hu
    cases d with
    | bool => obtain ⟨b, rfl⟩ := WideShapes.okWide_bool hu hval; rw [hag]; rfl
    | int k => obtain ⟨b, rfl⟩ := WideShapes.okWide_int hu hval; rw [hag]; rfl
    | string => obtain ⟨b, rfl⟩ := WideShapes.okWide_string hu hval; rw [hag]; rfl
    | slice e => obtain ⟨b, l, c, rfl⟩ := WideShapes.okWide_slice hu hval; rw [hag]; rfl
    | struct fs =>
      unfold Value.okWide at hval
      rw [hu] at hval
      obtain ⟨cs, rfl, _⟩ := hval
      rw [hag]; rfl
    | array n e =>
      unfold Value.okWide at hval
      rw [hu] at hval
      obtain ⟨cs, rfl, _⟩ := hval
      rw [hag]; rfl
    | _ => cases hp

theorem trodAll_ok (hT : ∀ t ∈ T, plainTy P T t = true) {r : Reach} {b0 : Nat} : ∀ {ts : List TypeId} {vs : List Value} {ds : List (DataW H)} {ps : List MemPlace}, (∀ t ∈ ts, t ∈ T) → (∀ (j : Nat) t v, ts[j]? = some t → vs[j]? = some v → Value.okWide P W r b0 t v) →
    DataW.TrodAll enc P W base spare held ts vs ds ps → ∃ as, RT (gOf W) W as vs ∧ as.length = ts.length ∧ ∀ (j : Nat) t a, ts[j]? = some t → as[j]? = some a → HasTy P t a
  | [], [], [], ps, _, _, _ => ⟨[], by simp [RT], rfl, fun j t a h => by simp at h⟩
  | t :: ts, v :: vs, d :: ds, ps, h1, h2, h => by
    simp only [DataW.TrodAll] at h
    obtain ⟨p, q, h3, h4, _⟩ := h
    obtain ⟨a, h5, h6⟩ := trod_arg hT (h1 t (.head _)) (h2 0 t v rfl rfl) h3
    obtain ⟨as, h7, h8, h9⟩ := trodAll_ok hT (fun t ht => h1 t (.tail _ ht)) (fun j t v h3 h4 => h2 (j + 1) t v (by simpa using h3) (by simpa using h4)) h4
    refine ⟨a :: as, by simp only [RT]; exact ⟨v, vs, rfl, h6, h7⟩, by simp [h8], fun j t' a' hj ha => ?_⟩
    cases j with
    | zero =>
      obtain rfl : t = t' := by simpa using hj
      obtain rfl : a = a' := by simpa using ha
      exact h5
    | succ j => exact h9 j t' a' (by simpa using hj) (by simpa using ha)
  | [], _ :: _, _, _, _, _, h => by simp [DataW.TrodAll] at h
  | [], [], _ :: _, _, _, _, h => by simp [DataW.TrodAll] at h
  | _ :: _, [], _, _, _, _, h => by simp [DataW.TrodAll] at h
  | _ :: _, _ :: _, [], _, _, _, h => by simp [DataW.TrodAll] at h
end
end Go.Av

/- From what a call comes to, to the row. -/
set_option linter.unusedVariables false
set_option linter.unusedSimpArgs false
set_option linter.unusedSectionVars false
namespace Go.Av
open Go Go.ChangeShapes Go.WideShapes Go.RowKit

theorem tiles_sum {P : Program} : ∀ {l : List (TypeId × Nat)} {o n : Nat}, tiles P l o n = true → n = o + (l.map fun p => P.cellsOf p.1).sum ∧ ∀ (j : Nat) p, l[j]? = some p → p.2 = o + ((l.take j).map fun p => P.cellsOf p.1).sum
  | [], o, n, h => by
    simp only [tiles, beq_iff_eq] at h
    exact ⟨by simp [h], fun j p hj => by simp at hj⟩
  | (t, off) :: r, o, n, h => by
    simp only [tiles, Bool.and_eq_true, beq_iff_eq] at h
    obtain ⟨rfl, h⟩ := h
    obtain ⟨h1, h2⟩ := tiles_sum h
    refine ⟨by simp; omega, fun j p hj => ?_⟩
    cases j with
    | zero =>
      obtain rfl : (t, off) = p := by simpa using hj
      simp
    | succ j =>
      have := h2 j p (by simpa using hj)
      simp only [List.take_succ_cons, List.map_cons, List.sum_cons]
      omega

section
variable {P : Program} {T : List TypeId}
theorem kids_plain (hT : ∀ t ∈ T, plainTy P T t = true) : Kids P (· ∈ T) := by
  refine ⟨fun {t e} ht hu => ?_, fun {t e} ht hu => ?_, fun {t e n} ht hu => ?_, fun {t fs} ht hu => ?_, fun {t k e} ht hu => ?_⟩
  · have := hT t ht; simp [plainTy, hu] at this
  · have := hT t ht; simp [plainTy, hu] at this; exact this.1.2
  · have := hT t ht
    simp only [plainTy, hu, Bool.and_eq_true, List.contains_eq_mem, decide_eq_true_eq] at this
    refine ⟨this.1, ?_⟩
    have h2 := (tiles_sum this.2).1
    rw [h2]
    simp only [List.map_map]
    have : (List.range n).map ((fun p : TypeId × Nat => P.cellsOf p.1) ∘ fun i => (e, i * P.cellsOf e)) = List.replicate n (P.cellsOf e) := by
      rw [List.eq_replicate_iff]
      refine ⟨by simp, fun x hx => ?_⟩
      simp at hx
      exact hx.2.symm
    rw [this]
    simp
  · have := hT t ht
    simp only [plainTy, hu, Bool.and_eq_true, List.all_eq_true, List.contains_eq_mem, decide_eq_true_eq] at this
    obtain ⟨h1, h2⟩ := this
    obtain ⟨h3, h4⟩ := tiles_sum h2
    refine ⟨h1, ?_, fun j f hj => ?_⟩
    · rw [h3]; simp [List.map_map, Function.comp_def]
    · have := h4 j (f.type, f.offset) (by simp only [List.getElem?_map, hj, Option.map_some])
      simp only [Nat.zero_add] at this
      rw [this]
      rw [← List.map_take]
      simp [List.map_map, Function.comp_def]
  · have := hT t ht; simp [plainTy, hu] at this
theorem kids_sized (hT : ∀ t ∈ T, plainTy P T t = true) : ∀ {t e : TypeId}, t ∈ T → P.underlying t = some (.slice e) → 0 < P.cellsOf e := by
  intro t e ht hu
  have := hT t ht; simp [plainTy, hu] at this; exact this.2

variable {H : Type} {enc : TypeId × Value → H} {W W' : World}

theorem trodAll_stays (hT : ∀ t ∈ T, plainTy P T t = true) (hW : ∀ b, b < W.heap.size → W'.heap[b]? = W.heap[b]?) {sp : Nat → Bool} : ∀ {ts : List TypeId} {vs : List Value} {ds : List (DataW H)} {ps : List MemPlace}, (∀ t ∈ ts, t ∈ T) →
    DataW.TrodAll enc P W 0 (fun _ => true) true ts vs ds ps → (∀ p ∈ ps, sp p.block = true) → DataW.TrodAll enc P W' 0 sp true ts vs ds ps
  | [], [], [], ps, _, h, _ => h
  | t :: ts, v :: vs, d :: ds, ps, h1, h, hs => by
    simp only [DataW.TrodAll] at h ⊢
    obtain ⟨p, q, ⟨n, h3⟩, h4, rfl⟩ := h
    refine ⟨p, q, ⟨n, ?_⟩, trodAll_stays hT hW (fun t ht => h1 t (.tail _ ht)) h4 (fun x hx => hs x (by simp [hx])), rfl⟩
    have hlt := DataW.trod_lt n t _ _ h3
    refine DataW.trod_stays (kids_plain hT) (kids_sized hT) (fun h => by cases h) (h1 t (.head _)) h3 (fun x hx => ?_) (fun x hx => hs x (by simp only [List.mem_append]; exact .inl hx))
    have hb := hlt x hx
    cases x with
    | cell b off =>
      simp only [World.sameAt, World.cell?]
      rw [hW b hb]
    | map b => exact hW b hb
  | [], _ :: _, _, _, _, h, _ => by simp [DataW.TrodAll] at h
  | [], [], _ :: _, _, _, h, _ => by simp [DataW.TrodAll] at h
  | _ :: _, [], _, _, _, h, _ => by simp [DataW.TrodAll] at h
  | _ :: _, _ :: _, [], _, _, h, _ => by simp [DataW.TrodAll] at h

theorem keptBut_same (hos : W'.os = W.os) (hout : W'.output = W.output) (hW : ∀ b, b < W.heap.size → W'.heap[b]? = W.heap[b]?) (may : MemPlace → Prop) : W.keptBut W' may := by
  refine ⟨hos, hout, fun i hi => ?_⟩
  rw [hW i hi]
  cases hh : W.heap[i]? with
  | none => simp
  | some o => cases o <;> simp

/-- What the row's post-condition asks, of a call that changes nothing that stood. -/
theorem post_true {fn : Func} {s : ChangeSpec} {apart fresh handsOn again : Bool} {args : Array Value} {ds gs : List (DataW H)} {before : List MemPlace} {tb : TypeId}
    (hT : ∀ t ∈ T, plainTy P T t = true) (hp : ∀ t ∈ fn.params.toList, t ∈ T) (hr : fn.resultTypes = #[tb]) (hb : P.underlying tb = some .bool)
    (hv : s.vars = []) (hs : (s.fn H (ds ++ gs)).results = [.lit (.bool true)] ∧ (s.fn H (ds ++ gs)).args = ds ∧ (s.fn H (ds ++ gs)).vars = [])
    (hw : DataW.Whole enc P fn.params.toList s.vars apart W args.toList ds gs before) (hos : W'.os = W.os) (hout : W'.output = W.output) (hsz : W.heap.size ≤ W'.heap.size) (hW : ∀ b, b < W.heap.size → W'.heap[b]? = W.heap[b]?) :
    s.post enc P fn apart fresh handsOn again W args (.bool true) W' := by
  have hw' := hw
  obtain ⟨pa, pv, h1, h2, rfl, hz, hn⟩ := hw
  obtain ⟨s1, s2, s3⟩ := hs
  have hlt := h1.lt
  rw [hv] at h2
  obtain ⟨rfl, rfl⟩ : gs = [] ∧ pv = [] := by
    cases gs with
    | nil => exact ⟨rfl, by simpa [DataW.TrodVars] using h2⟩
    | cons a b => simp [DataW.TrodVars] at h2
  have hold : ∀ p ∈ pa, (fun b => decide (b < W.heap.size)) p.block = true := fun p hp => by simpa using hlt p hp
  have hres : ∀ (b : Nat) (sp : Nat → Bool) (hd : Bool), DataW.TrodAll enc P W' b sp hd fn.resultTypes.toList ((Value.bool true).resultList fn.resultTypes.size) (s.fn H (ds ++ [])).results [] := by
    intro b sp hd
    rw [hr, s1]
    exact trodAll_mk1 (shut_bool hb _)
  have hargs : ∀ sp : Nat → Bool, (∀ p ∈ pa, sp p.block = true) → DataW.TrodAll enc P W' 0 sp true fn.params.toList args.toList (s.fn H (ds ++ [])).args pa := by
    intro sp hsp
    rw [s2]
    exact trodAll_stays hT hW hp h1 hsp
  have hvars : ∀ sp, DataW.TrodVars enc P W' sp s.vars (s.fn H (ds ++ [])).vars [] := by
    intro sp
    rw [hv, s3]
    rfl
  refine ⟨ds, [], pa ++ [], [], pa, [], hw', hres _ _ _, hargs _ hold, hvars _, keptBut_same hos hout hW _, fun _ => ⟨?_, _, _, ([] ++ pa) ++ [], ⟨[] ++ pa, [], trodAll_append (hargs _ (fun _ _ => rfl)) (hres _ _ _), hvars _, rfl, ?_, ?_⟩, ?_⟩⟩
  · exact ok_one hr rfl (okWide_bool_mk hb _)
  · intro b off hp
    have hbl : b < W.heap.size := by
      exact hlt (.cell b off) (by simpa using hp)
    have := hz b off (by simpa using hp)
    simp only [World.frozen?] at this ⊢
    rw [hW b hbl]
    exact this
  · intro ha
    simpa using hn ha
  · intro p hp _
    simpa using hp

/-- What a law's function must do. -/
def LawTrue (P : Program) (f : FuncId) (params : List TypeId) (X : World → Prop) : Prop :=
  ∀ W, X W → ∀ as : List AV, as.length = params.length → (∀ (j : Nat) t a, params[j]? = some t → as[j]? = some a → HasTy P t a) →
    ∃ S' own, ∀ vs : Array Value, RT (gOf W) W as vs.toList → Calls P f vs W (Post (gOf W) W (.ret (.bool true) own) S')

theorem lawTrue_of {f : FuncId} {params : List TypeId} {X : World → Prop} (h : ∀ W, X W → ∃ h, SoundFun P W f h ∧ ∀ as : List AV, as.length = params.length → (∀ (j : Nat) t a, params[j]? = some t → as[j]? = some a → HasTy P t a) → ∃ S' own, h as [] = some (.ret (.bool true) own, S')) :
    LawTrue P f params X := by
  intro W hX as hl hty
  obtain ⟨h, hs, hr⟩ := h W hX
  obtain ⟨S', own, hr⟩ := hr as hl hty
  exact ⟨S', own, fun vs hv => (hs as [] _ _ hr).2 (gOf W) W vs (gOf_base W) hv (gOf_S W) (gOf_calm W)⟩

theorem row_contract {fn : Func} {f : FuncId} {s : ChangeSpec} {apart fresh handsOn again : Bool} {X : World → Prop} {tb : TypeId}
    (hT : ∀ t ∈ T, plainTy P T t = true) (hp : ∀ t ∈ fn.params.toList, t ∈ T) (hr : fn.resultTypes = #[tb]) (hb : P.underlying tb = some .bool) (hv : s.vars = [])
    (hs : ∀ ds : List (DataW H), ds.length = fn.params.toList.length → (s.fn H ds).results = [.lit (.bool true)] ∧ (s.fn H ds).args = ds ∧ (s.fn H ds).vars = [])
    (hlaw : LawTrue P f fn.params.toList X) {W : World} {base : Nat} {args : Array Value} {ds gs : List (DataW H)} {before : List MemPlace}
    (hval : ∀ (j : Nat) t v, fn.params[j]? = some t → args[j]? = some v → Value.okWide P W .any base t v) (hw : DataW.Whole enc P fn.params.toList s.vars apart W args.toList ds gs before) (hX : X W) :
    Calls P f args W fun e W' => ∃ v, e = .returned v ∧ s.post enc P fn apart fresh handsOn again W args v W' := by
  have hw' := hw
  obtain ⟨pa, pv, h1, h2, h3, hz, hn⟩ := hw
  rw [hv] at h2
  obtain rfl : gs = [] := by
    cases gs with
    | nil => rfl
    | cons a b => simp [DataW.TrodVars] at h2
  obtain ⟨as, q1, q2, q3⟩ := trodAll_ok hT hp (fun j t v ht hvv => hval j t v (by simpa using ht) (by simpa using hvv)) h1
  obtain ⟨S', own, hc⟩ := hlaw W hX as q2 q3
  refine (hc args q1).mono fun e W' hpost => ?_
  obtain ⟨g', hE, _, _, v, rfl, hRV, _⟩ := hpost
  obtain rfl := RV_bool.1 hRV
  have hlen : ds.length = fn.params.toList.length := (trodAll_length h1).2
  refine ⟨_, rfl, post_true hT hp hr hb hv (by simpa using hs ds hlen) hw' hE.os hE.output hE.size fun b hbb => ?_⟩
  exact (hE.ext b (by simp [gOf, hbb])).2.1
end
end Go.Av

/- More calls known, more comes out; and what can be computed. -/
set_option linter.unusedVariables false
set_option linter.unusedSimpArgs false
set_option linter.unusedSectionVars false
namespace Go.Av
open Go

def RecLe (r1 r2 : Rec) : Prop := ∀ f as S x, r1 f as S = some x → r2 f as S = some x
theorem RecLe.refl (r : Rec) : RecLe r r := fun _ _ _ _ h => h
theorem RecLe.quiet {r1 r2 : Rec} (h : RecLe r1 r2) : RecLe r1.quiet r2.quiet := by
  intro f as S x hx
  unfold Rec.quiet at hx ⊢
  split at hx
  · rename_i r own S' hr
    rw [h _ _ _ _ hr]
    exact hx
  · cases hx

section
variable {r1 r2 : Rec} (h : RecLe r1 r2)
include h
theorem aop_le {st : St} {o : AOp} {x : AEx × St} (hx : aop r1 st o = some x) : aop r2 st o = some x := by
  cases o with
  | call d f xs =>
    simp only [aop] at hx ⊢
    split at hx
    · split at hx
      · rename_i hr; rw [h _ _ _ _ hr]; exact hx
      · cases hx
    · cases hx
  | callv d c xs =>
    simp only [aop] at hx ⊢
    split at hx
    · split at hx
      · rename_i hr; rw [h _ _ _ _ hr]; exact hx
      · cases hx
    · cases hx
  | _ => exact hx
theorem aoper_le {st : St} {o : AOper} {x : AEx × St} (hx : aoper r1 st o = some x) : aoper r2 st o = some x := by
  have hb : ∀ {x : AEx × St}, aopB r1 st o = some x → aopB r2 st o = some x := by
    intro x hx
    unfold aopB at hx ⊢
    split at hx
    · rename_i hb; rw [if_pos hb]; exact aop_le h hx
    · cases hx
  unfold aoper at hx ⊢
  split at hx
  · exact hb hx
  · split at hx
    · split at hx
      · rename_i hw; rw [if_pos hw]; exact hb hx
      · rename_i hw; rw [if_neg hw]; exact hx
    · exact hx
    · cases hx
theorem aops_le : ∀ {ops : List AOper} {st : St} {x : AEx × St}, aops r1 ops st = some x → aops r2 ops st = some x
  | [], st, x, hx => hx
  | o :: ops, st, x, hx => by
    simp only [aops] at hx ⊢
    cases h1 : aoper r1 st o with
    | none => rw [h1] at hx; cases hx
    | some p =>
      rw [h1] at hx
      rw [aoper_le h h1]
      obtain ⟨y, s⟩ := p
      cases y with
      | normal => exact aops_le hx
      | _ => exact hx
omit h in
theorem aloop_le {f1 f2 : St → Option (AEx × St)} (hf : ∀ st x, f1 st = some x → f2 st = some x) : ∀ {n : Nat} {st : St} {x : AEx × St}, aloop f1 n st = some x → aloop f2 n st = some x
  | 0, st, x, hx => by simp [aloop] at hx
  | n + 1, st, x, hx => by
    simp only [aloop] at hx ⊢
    cases h1 : f1 st with
    | none => rw [h1] at hx; cases hx
    | some p =>
      rw [h1] at hx
      rw [hf _ _ h1]
      obtain ⟨y, s⟩ := p
      cases y with
      | normal => exact aloop_le hf hx
      | _ => exact hx
theorem acode_le : ∀ {c : ACode} {st : St} {x : AEx × St}, acode r1 c st = some x → acode r2 c st = some x := by
  intro c
  induction c with
  | skip live locs => intro st x hx; exact hx
  | region ops bs quiet live locs =>
    intro st x hx
    simp only [acode] at hx ⊢
    have hq : RecLe (if quiet then r1.quiet else r1) (if quiet then r2.quiet else r2) := by
      cases quiet
      · exact h
      · exact h.quiet
    cases h1 : aops (if quiet then r1.quiet else r1) ops (if bs.isSome then st.prep ops else st) with
    | none => rw [h1] at hx; cases hx
    | some p => rw [h1] at hx; rw [aops_le hq h1]; exact hx
  | seq a b iha ihb =>
    intro st x hx
    simp only [acode] at hx ⊢
    cases h1 : acode r1 a st with
    | none => rw [h1] at hx; cases hx
    | some p =>
      rw [h1] at hx
      rw [iha h1]
      obtain ⟨y, s⟩ := p
      cases y with
      | normal => exact ihb hx
      | _ => exact hx
  | cond o a b iha ihb =>
    intro st x hx
    simp only [acode] at hx ⊢
    split at hx
    · rename_i t ht
      cases t with
      | true => exact iha (by simpa using hx)
      | false => exact ihb (by simpa using hx)
    · cases hx
  | block id a iha =>
    intro st x hx
    simp only [acode] at hx ⊢
    cases h1 : acode r1 a st with
    | none => rw [h1] at hx; cases hx
    | some p => rw [h1] at hx; rw [iha h1]; exact hx
  | loop a iha =>
    intro st x hx
    simp only [acode] at hx ⊢
    obtain ⟨n, hn⟩ := aloopW_some.1 hx
    exact aloopW_some.2 ⟨n, aloop_le (fun st x hx => iha hx) hn⟩
  | exit id live locs => intro st x hx; exact hx
  | ret => intro st x hx; exact hx
  | freeze d a iha =>
    intro st x hx
    simp only [acode] at hx ⊢
    split at hx
    · exact iha hx
    · cases hx
  | scope a iha => intro st x hx; exact iha hx
  | label => intro st x hx; exact hx
theorem afun_le {fn : AFun} {args : List AV} {S : List Bx} {x : AEnd × List Bx} (hx : afun r1 fn args S = some x) : afun r2 fn args S = some x := by
  unfold afun at hx ⊢
  split at hx
  · rename_i hl
    rw [if_pos hl]
    cases h1 : acode r1 fn.body (aenter args S) with
    | none => rw [h1] at hx; cases hx
    | some p => rw [h1] at hx; rw [acode_le h h1]; exact hx
  · cases hx
end

/-! ### alike values, decided -/
mutual
def AV.beq : AV → AV → Bool
  | .bool a, .bool b => a == b
  | .int k a, .int j b => decide (k = j) && a == b
  | .str a, .str b => decide (a = b)
  | .agg a, .agg b => beqL a b
  | .tuple a, .tuple b => beqL a b
  | .slice n a, .slice m b => n == m && beqL a b
  | .sptr a, .sptr b => beqL a b
  | .nilptr, .nilptr => true
  | .ptr i o, .ptr j p => i == j && o == p
  | .clos f a b, .clos g c d => decide (f = g) && beqL a c && beqL b d
  | .nilfn, .nilfn => true
  | .iface t a, .iface u b => t == u && a.beq b
  | .niliface, .niliface => true
  | .mapp i, .mapp j => i == j
  | .nilmap, .nilmap => true
  | _, _ => false
def beqL : List AV → List AV → Bool
  | [], [] => true
  | a :: as, b :: bs => a.beq b && beqL as bs
  | _, _ => false
end
mutual
theorem beq_eq : ∀ {a b : AV}, a.beq b = true → a = b
  | .bool a, b, h => by cases b <;> simp_all [AV.beq]
  | .int k a, b, h => by cases b <;> simp_all [AV.beq]
  | .str a, b, h => by cases b <;> simp_all [AV.beq]
  | .agg a, b, h => by cases b <;> simp only [AV.beq] at h <;> first | (rw [beqL_eq h]) | (cases h)
  | .tuple a, b, h => by cases b <;> simp only [AV.beq] at h <;> first | (rw [beqL_eq h]) | (cases h)
  | .slice n a, b, h => by
    cases b <;> simp only [AV.beq, Bool.and_eq_true, beq_iff_eq] at h <;> first | (rw [h.1, beqL_eq h.2]) | (cases h)
  | .sptr a, b, h => by cases b <;> simp only [AV.beq] at h <;> first | (rw [beqL_eq h]) | (cases h)
  | .nilptr, b, h => by cases b <;> simp_all [AV.beq]
  | .ptr i o, b, h => by cases b <;> simp_all [AV.beq]
  | .clos f a c, b, h => by
    cases b <;> simp only [AV.beq, Bool.and_eq_true, decide_eq_true_eq] at h <;> first | (rw [h.1.1, beqL_eq h.1.2, beqL_eq h.2]) | (cases h)
  | .nilfn, b, h => by cases b <;> simp_all [AV.beq]
  | .iface t a, b, h => by
    cases b <;> simp only [AV.beq, Bool.and_eq_true, beq_iff_eq] at h <;> first | (rw [h.1, beq_eq h.2]) | (cases h)
  | .niliface, b, h => by cases b <;> simp_all [AV.beq]
  | .mapp i, b, h => by cases b <;> simp_all [AV.beq]
  | .nilmap, b, h => by cases b <;> simp_all [AV.beq]
theorem beqL_eq : ∀ {as bs : List AV}, beqL as bs = true → as = bs
  | [], [], _ => rfl
  | a :: as, b :: bs, h => by
    simp only [beqL, Bool.and_eq_true] at h
    rw [beq_eq h.1, beqL_eq h.2]
  | [], _ :: _, h => by simp [beqL] at h
  | _ :: _, [], h => by simp [beqL] at h
end
def beqB (a b : Bx) : Bool := (beqL a.cells b.cells && decide (a.own = b.own)) && a.map == b.map
theorem beqB_eq {a b : Bx} (h : beqB a b = true) : a = b := by
  simp only [beqB, Bool.and_eq_true, decide_eq_true_eq, beq_iff_eq] at h
  cases a; cases b
  simp only at h
  rw [beqL_eq h.1.1, h.1.2, h.2]
def beqS : List Bx → List Bx → Bool
  | [], [] => true
  | a :: as, b :: bs => beqB a b && beqS as bs
  | _, _ => false
theorem beqS_eq : ∀ {as bs : List Bx}, beqS as bs = true → as = bs
  | [], [], _ => rfl
  | a :: as, b :: bs, h => by
    simp only [beqS, Bool.and_eq_true] at h
    rw [beqB_eq h.1, beqS_eq h.2]
  | [], _ :: _, h => by simp [beqS] at h
  | _ :: _, [], h => by simp [beqS] at h

/-! ### computed -/
def cquiet (rec : Rec) : Rec := fun f args S =>
  match rec f args S with
  | some (.ret r own, S') => if beqS S' S then some (.ret r own, S') else none
  | _ => none
theorem cquiet_le (rec : Rec) : RecLe (cquiet rec) rec.quiet := by
  intro f as S x hx
  unfold cquiet at hx
  unfold Rec.quiet
  split at hx
  · rename_i r own S' hr
    split at hx
    · rename_i hb
      rw [hr]
      simp only [if_pos (beqS_eq hb)]
      exact hx
    · cases hx
  · cases hx

def cacode (rec : Rec) (k : Nat) : ACode → St → Option (AEx × St)
  | .skip live locs, st => normal (st.keep live locs)
  | .region ops bs quiet live locs, st => match aops (if quiet then cquiet rec else rec) ops (if bs.isSome then st.prep ops else st) with
    | some (.normal, st') => normal (st'.keep live locs)
    | r => r
  | .seq a b, st => match cacode rec k a st with
    | some (.normal, st') => cacode rec k b st'
    | r => r
  | .cond c a b, st => match st.av c with
    | some (.bool t) => if t then cacode rec k a st else cacode rec k b st
    | _ => none
  | .block id c, st => match cacode rec k c st with
    | some (.exit id', st') => if id' = id then normal st' else some (.exit id', st')
    | r => r
  | .loop c, st => aloop (cacode rec k c) k st
  | .exit id live locs, st => some (.exit id, st.keep live locs)
  | .ret, st => some (.ret, st)
  | .freeze d c, st => match st.freeze d with
    | some st' => cacode rec k c st'
    | none => none
  | .scope c, st => cacode rec k c st
  | .label, st => normal st

theorem cacode_ok {rec : Rec} {k : Nat} : ∀ {c : ACode} {st : St} {x : AEx × St}, cacode rec k c st = some x → acode rec c st = some x := by
  intro c
  induction c with
  | skip live locs => intro st x hx; exact hx
  | region ops bs quiet live locs =>
    intro st x hx
    simp only [acode, cacode] at hx ⊢
    have hq : RecLe (if quiet then cquiet rec else rec) (if quiet then rec.quiet else rec) := by
      cases quiet
      · exact RecLe.refl _
      · exact cquiet_le rec
    cases h1 : aops (if quiet then cquiet rec else rec) ops (if bs.isSome then st.prep ops else st) with
    | none => rw [h1] at hx; cases hx
    | some p => rw [h1] at hx; rw [aops_le hq h1]; exact hx
  | seq a b iha ihb =>
    intro st x hx
    simp only [acode, cacode] at hx ⊢
    cases h1 : cacode rec k a st with
    | none => rw [h1] at hx; cases hx
    | some p =>
      rw [h1] at hx
      rw [iha h1]
      obtain ⟨y, s⟩ := p
      cases y with
      | normal => exact ihb hx
      | _ => exact hx
  | cond o a b iha ihb =>
    intro st x hx
    simp only [acode, cacode] at hx ⊢
    split at hx
    · rename_i t ht
      rw [ht]
      cases t with
      | true => exact iha (by simpa using hx)
      | false => exact ihb (by simpa using hx)
    · cases hx
  | block id a iha =>
    intro st x hx
    simp only [acode, cacode] at hx ⊢
    cases h1 : cacode rec k a st with
    | none => rw [h1] at hx; cases hx
    | some p => rw [h1] at hx; rw [iha h1]; exact hx
  | loop a iha =>
    intro st x hx
    simp only [acode, cacode] at hx ⊢
    exact aloopW_some.2 ⟨k, aloop_le (fun st x hx => iha hx) hx⟩
  | exit id live locs => intro st x hx; exact hx
  | ret => intro st x hx; exact hx
  | freeze d a iha =>
    intro st x hx
    simp only [acode, cacode] at hx ⊢
    split at hx
    · rename_i hf; rw [hf]; exact iha hx
    · cases hx
  | scope a iha => intro st x hx; exact iha hx
  | label => intro st x hx; exact hx

def ctrunc (S S' : List Bx) (m : Nat) : Bool := (List.range m).all fun i => match S'[i]?, S[i]? with
  | some x, some y => beqB x y || closedL m x.cells
  | some x, none => closedL m x.cells
  | none, _ => true
theorem ctrunc_ok {S S' : List Bx} {m : Nat} (h : ctrunc S S' m = true) : TruncOk S S' m := by
  intro i x hi hx
  simp only [ctrunc, List.all_eq_true, List.mem_range] at h
  have := h i hi
  rw [hx] at this
  cases hS : S[i]? with
  | none => rw [hS] at this; exact .inr this
  | some y =>
    rw [hS] at this
    simp only [Bool.or_eq_true] at this
    rcases this with h1 | h1
    · left; rw [beqB_eq h1]
    · exact .inr h1

def caleave (keepB : Nat) (S S' : List Bx) (e : AEnd) : Option (AEnd × List Bx) :=
  if S'.length ≤ S.length + keepB then some (e, S')
  else if ctrunc S S' (S.length + keepB) && e.closed (S.length + keepB) then some (e, S'.take (S.length + keepB)) else none
theorem caleave_ok {kb : Nat} {S S' : List Bx} {e : AEnd} {x : AEnd × List Bx} (h : caleave kb S S' e = some x) : aleave kb S S' e = some x := by
  unfold caleave at h
  unfold aleave
  by_cases hl : S'.length ≤ S.length + kb
  · rw [if_pos hl] at h ⊢; exact h
  · rw [if_neg hl] at h ⊢
    split at h
    · rename_i hc
      simp only [Bool.and_eq_true] at hc
      rw [if_pos ⟨ctrunc_ok hc.1, hc.2⟩]; exact h
    · cases h

def cafun (rec : Rec) (k : Nat) (fn : AFun) (args : List AV) (S : List Bx) : Option (AEnd × List Bx) :=
  if args.length = fn.n then
    match cacode rec k fn.body (aenter args S) with
    | some (.normal, st) | some (.ret, st) => match aresult st fn.res with
      | some (r, own) => caleave fn.keepB S st.S (.ret r own)
      | none => none
    | some (.panic v, st) => caleave fn.keepB S st.S (.panic v)
    | _ => none
  else none
theorem cafun_ok {rec : Rec} {k : Nat} {fn : AFun} {args : List AV} {S : List Bx} {x : AEnd × List Bx} (h : cafun rec k fn args S = some x) : afun rec fn args S = some x := by
  unfold cafun at h
  unfold afun
  split at h
  · rename_i hl
    rw [if_pos hl]
    cases hc : cacode rec k fn.body (aenter args S) with
    | none => rw [hc] at h; cases h
    | some p =>
      rw [hc] at h
      rw [cacode_ok hc]
      obtain ⟨y, s⟩ := p
      cases y with
      | normal =>
        simp only at h ⊢
        split at h
        · rename_i hr; rw [hr]; exact caleave_ok h
        · cases h
      | ret =>
        simp only at h ⊢
        split at h
        · rename_i hr; rw [hr]; exact caleave_ok h
        · cases h
      | panic v => exact caleave_ok h
      | exit id => cases h
  · cases h

/-- What a function number stands for: abstract code, or what a call comes to. -/
inductive Def where
  | air (fn : AFun)
  | ext (h : List AV → List Bx → Option (AEnd × List Bx))
def crun (T : Nat → Option Def) : Nat → Rec
  | 0 => fun _ _ _ => none
  | n + 1 => fun f args S => match T f with
    | some (.air fn) => cafun (crun T n) n fn args S
    | some (.ext h) => h args S
    | none => none

theorem crun_sound {P : Program} {W0 : World} (hP : P.follows .mixedOrders = true) {T : Nat → Option Def} (ha : ∀ f fn, T f = some (.air fn) → mFun P f fn = true) (he : ∀ f h, T f = some (.ext h) → SoundFun P W0 f h) :
    ∀ n, RecSound P W0 (crun T n)
  | 0 => fun f args S e S' h => by simp [crun] at h
  | n + 1 => by
    intro f args S e S' h
    simp only [crun] at h
    split at h
    · rename_i fn hT
      exact fun_sound hP (crun_sound hP ha he n) (ha f fn hT) args S e S' (cafun_ok h)
    · rename_i h' hT
      exact he f h' hT args S e S' h
    · cases h
end Go.Av

/- All that calls ever come to: one table of calls, with the equations of its functions. -/
set_option linter.unusedVariables false
set_option linter.unusedSimpArgs false
set_option linter.unusedSectionVars false
namespace Go.Av
open Go

mutual
theorem beq_refl : ∀ (a : AV), a.beq a = true
  | .bool a => by simp [AV.beq]
  | .int k a => by simp [AV.beq]
  | .str a => by simp [AV.beq]
  | .agg a => by simp [AV.beq, beqL_refl a]
  | .tuple a => by simp [AV.beq, beqL_refl a]
  | .slice n a => by simp [AV.beq, beqL_refl a]
  | .sptr a => by simp [AV.beq, beqL_refl a]
  | .nilptr => by simp [AV.beq]
  | .ptr i o => by simp [AV.beq]
  | .clos f a b => by simp [AV.beq, beqL_refl a, beqL_refl b]
  | .nilfn => by simp [AV.beq]
  | .iface t a => by simp [AV.beq, beq_refl a]
  | .niliface => by simp [AV.beq]
  | .mapp i => by simp [AV.beq]
  | .nilmap => by simp [AV.beq]
theorem beqL_refl : ∀ (a : List AV), beqL a a = true
  | [] => by simp [beqL]
  | a :: as => by simp [beqL, beq_refl a, beqL_refl as]
end
theorem beqB_refl (a : Bx) : beqB a a = true := by simp [beqB, beqL_refl]
theorem beqS_refl : ∀ (a : List Bx), beqS a a = true
  | [] => rfl
  | a :: as => by simp [beqS, beqB_refl, beqS_refl as]

theorem cquiet_mono {r1 r2 : Rec} (h : RecLe r1 r2) : RecLe (cquiet r1) (cquiet r2) := by
  intro f as S x hx
  unfold cquiet at hx ⊢
  split at hx
  · rename_i r own S' hr
    rw [h _ _ _ _ hr]
    exact hx
  · cases hx

theorem cacode_le {r1 r2 : Rec} (h : RecLe r1 r2) {k1 k2 : Nat} (hk : k1 ≤ k2) : ∀ {c : ACode} {st : St} {x : AEx × St}, cacode r1 k1 c st = some x → cacode r2 k2 c st = some x := by
  intro c
  induction c with
  | skip live locs => intro st x hx; exact hx
  | region ops bs quiet live locs =>
    intro st x hx
    simp only [cacode] at hx ⊢
    have hq : RecLe (if quiet then cquiet r1 else r1) (if quiet then cquiet r2 else r2) := by
      cases quiet
      · exact h
      · exact cquiet_mono h
    cases h1 : aops (if quiet then cquiet r1 else r1) ops (if bs.isSome then st.prep ops else st) with
    | none => rw [h1] at hx; cases hx
    | some p => rw [h1] at hx; rw [aops_le hq h1]; exact hx
  | seq a b iha ihb =>
    intro st x hx
    simp only [cacode] at hx ⊢
    cases h1 : cacode r1 k1 a st with
    | none => rw [h1] at hx; cases hx
    | some p =>
      rw [h1] at hx
      rw [iha h1]
      obtain ⟨y, s⟩ := p
      cases y with
      | normal => exact ihb hx
      | _ => exact hx
  | cond o a b iha ihb =>
    intro st x hx
    simp only [cacode] at hx ⊢
    split at hx
    · rename_i t ht
      cases t with
      | true => exact iha (by simpa using hx)
      | false => exact ihb (by simpa using hx)
    · cases hx
  | block id a iha =>
    intro st x hx
    simp only [cacode] at hx ⊢
    cases h1 : cacode r1 k1 a st with
    | none => rw [h1] at hx; cases hx
    | some p => rw [h1] at hx; rw [iha h1]; exact hx
  | loop a iha =>
    intro st x hx
    simp only [cacode] at hx ⊢
    exact aloop_mono (aloop_le (fun st x hx => iha hx) hx) k2 hk
  | exit id live locs => intro st x hx; exact hx
  | ret => intro st x hx; exact hx
  | freeze d a iha =>
    intro st x hx
    simp only [cacode] at hx ⊢
    split at hx
    · exact iha hx
    · cases hx
  | scope a iha => intro st x hx; exact iha hx
  | label => intro st x hx; exact hx

theorem cafun_le {r1 r2 : Rec} (h : RecLe r1 r2) {k1 k2 : Nat} (hk : k1 ≤ k2) {fn : AFun} {args : List AV} {S : List Bx} {x : AEnd × List Bx} (hx : cafun r1 k1 fn args S = some x) : cafun r2 k2 fn args S = some x := by
  unfold cafun at hx ⊢
  split at hx
  · rename_i hl
    rw [if_pos hl]
    cases h1 : cacode r1 k1 fn.body (aenter args S) with
    | none => rw [h1] at hx; cases hx
    | some p => rw [h1] at hx; rw [cacode_le h hk h1]; exact hx
  · cases hx

variable {T : Nat → Option Def}
theorem crun_succ (n : Nat) : RecLe (crun T n) (crun T (n + 1)) := by
  induction n with
  | zero => intro f as S x hx; simp [crun] at hx
  | succ n ih =>
    intro f as S x hx
    simp only [crun] at hx ⊢
    split at hx
    · rename_i fn hT
      exact cafun_le ih (Nat.le_succ n) hx
    · exact hx
    · cases hx
theorem crun_le {n m : Nat} (h : n ≤ m) : RecLe (crun T n) (crun T m) := by
  induction h with
  | refl => exact RecLe.refl _
  | step _ ih => exact fun f as S x hx => crun_succ _ f as S x (ih f as S x hx)

open Classical in
/-- What calls come to. -/
noncomputable def recL (T : Nat → Option Def) : Rec := fun f args S => if h : ∃ n r, crun T n f args S = some r then some h.choose_spec.choose else none
theorem recL_some {f : Nat} {args : List AV} {S : List Bx} {r : AEnd × List Bx} : recL T f args S = some r ↔ ∃ n, crun T n f args S = some r := by
  unfold recL
  constructor
  · intro h
    split at h
    · rename_i hx
      have := hx.choose_spec.choose_spec
      obtain rfl := Option.some.inj h
      exact ⟨_, this⟩
    · cases h
  · rintro ⟨n, hn⟩
    have hx : ∃ n r, crun T n f args S = some r := ⟨n, r, hn⟩
    rw [dif_pos hx]
    have h1 := crun_le (Nat.le_max_left hx.choose n) _ _ _ _ hx.choose_spec.choose_spec
    have h2 := crun_le (Nat.le_max_right hx.choose n) _ _ _ _ hn
    rw [h2] at h1
    exact h1.symm ▸ rfl

theorem recL_sound {P : Program} {W0 : World} (h : ∀ n, RecSound P W0 (crun T n)) : RecSound P W0 (recL T) := by
  intro f args S e S' hr
  obtain ⟨n, hn⟩ := recL_some.1 hr
  exact h n f args S e S' hn

/-! ### finitely many calls -/
/-- Rc n grows to R. -/
def Tends (R : Rec) (Rc : Nat → Rec) : Prop := (∀ n, RecLe (Rc n) (Rc (n + 1))) ∧ ∀ f as S x, R f as S = some x → ∃ n, Rc n f as S = some x
theorem Tends.le {R : Rec} {Rc : Nat → Rec} (h : Tends R Rc) {n m : Nat} (hn : n ≤ m) : RecLe (Rc n) (Rc m) := by
  induction hn with
  | refl => exact RecLe.refl _
  | step _ ih => exact fun f as S x hx => h.1 _ f as S x (ih f as S x hx)
theorem tends_run : Tends (recL T) (crun T) := ⟨crun_succ, fun f as S x h => recL_some.1 h⟩
theorem tends_quiet : Tends (recL T).quiet (fun n => cquiet (crun T n)) := by
  refine ⟨fun n => cquiet_mono (crun_succ n), fun f as S x hx => ?_⟩
  unfold Rec.quiet at hx
  split at hx
  · rename_i r own S' hr
    split at hx
    · rename_i hS
      obtain ⟨n, hn⟩ := recL_some.1 hr
      refine ⟨n, ?_⟩
      show cquiet (crun T n) f as S = some x
      unfold cquiet
      rw [hn]
      subst hS
      simp only [beqS_refl, if_true]
      exact hx
    · cases hx
  · cases hx

section
variable {R : Rec} {Rc : Nat → Rec} (h : Tends R Rc)
include h
theorem aop_fin {st : St} {o : AOp} {x : AEx × St} (hx : aop R st o = some x) : ∃ n, aop (Rc n) st o = some x := by
  cases o with
  | call d f xs =>
    simp only [aop] at hx ⊢
    split at hx
    · split at hx
      · rename_i hr
        obtain ⟨n, hn⟩ := h.2 _ _ _ _ hr
        exact ⟨n, by rw [hn]; exact hx⟩
      · cases hx
    · cases hx
  | callv d c xs =>
    simp only [aop] at hx ⊢
    split at hx
    · split at hx
      · rename_i hr
        obtain ⟨n, hn⟩ := h.2 _ _ _ _ hr
        exact ⟨n, by rw [hn]; exact hx⟩
      · cases hx
    · cases hx
  | _ => exact ⟨0, hx⟩
theorem aoper_fin {st : St} {o : AOper} {x : AEx × St} (hx : aoper R st o = some x) : ∃ n, aoper (Rc n) st o = some x := by
  have hb : ∀ {x : AEx × St}, aopB R st o = some x → ∃ n, aopB (Rc n) st o = some x := by
    intro x hx
    unfold aopB at hx ⊢
    split at hx
    · rename_i hb; simp only [if_pos hb]; exact aop_fin h hx
    · cases hx
  unfold aoper at hx ⊢
  split at hx
  · exact hb hx
  · split at hx
    · split at hx
      · rename_i hw; simp only [if_pos hw]; exact hb hx
      · rename_i hw; simp only [if_neg hw]; exact ⟨0, hx⟩
    · exact ⟨0, hx⟩
    · cases hx
theorem aops_fin : ∀ {ops : List AOper} {st : St} {x : AEx × St}, aops R ops st = some x → ∃ n, aops (Rc n) ops st = some x
  | [], st, x, hx => ⟨0, hx⟩
  | o :: ops, st, x, hx => by
    simp only [aops] at hx
    cases h1 : aoper R st o with
    | none => rw [h1] at hx; cases hx
    | some p =>
      rw [h1] at hx
      obtain ⟨n, hn⟩ := aoper_fin h h1
      obtain ⟨y, s⟩ := p
      cases y with
      | normal =>
        obtain ⟨m, hm⟩ := aops_fin hx
        refine ⟨max n m, ?_⟩
        simp only [aops]
        rw [aoper_le (h.le (Nat.le_max_left n m)) hn]
        exact aops_le (h.le (Nat.le_max_right n m)) hm
      | _ => exact ⟨n, by simp only [aops]; rw [hn]; exact hx⟩
end

theorem acode_fin : ∀ {c : ACode} {st : St} {x : AEx × St}, acode (recL T) c st = some x → ∃ n, cacode (crun T n) n c st = some x := by
  intro c
  induction c with
  | skip live locs => intro st x hx; exact ⟨0, hx⟩
  | region ops bs quiet live locs =>
    intro st x hx
    simp only [acode] at hx
    cases h1 : aops (if quiet then (recL T).quiet else recL T) ops (if bs.isSome then st.prep ops else st) with
    | none => rw [h1] at hx; cases hx
    | some p =>
      rw [h1] at hx
      have : ∃ n, aops (if quiet then cquiet (crun T n) else crun T n) ops (if bs.isSome then st.prep ops else st) = some p := by
        cases quiet
        · exact aops_fin tends_run h1
        · exact aops_fin tends_quiet h1
      obtain ⟨n, hn⟩ := this
      exact ⟨n, by simp only [cacode]; rw [hn]; exact hx⟩
  | seq a b iha ihb =>
    intro st x hx
    simp only [acode] at hx
    cases h1 : acode (recL T) a st with
    | none => rw [h1] at hx; cases hx
    | some p =>
      rw [h1] at hx
      obtain ⟨n, hn⟩ := iha h1
      obtain ⟨y, s⟩ := p
      cases y with
      | normal =>
        obtain ⟨m, hm⟩ := ihb hx
        refine ⟨max n m, ?_⟩
        simp only [cacode]
        rw [cacode_le (crun_le (Nat.le_max_left n m)) (Nat.le_max_left n m) hn]
        exact cacode_le (crun_le (Nat.le_max_right n m)) (Nat.le_max_right n m) hm
      | _ => exact ⟨n, by simp only [cacode]; rw [hn]; exact hx⟩
  | cond o a b iha ihb =>
    intro st x hx
    simp only [acode] at hx
    split at hx
    · rename_i t ht
      cases t with
      | true =>
        obtain ⟨n, hn⟩ := iha (by simpa using hx)
        exact ⟨n, by simp only [cacode, ht]; simpa using hn⟩
      | false =>
        obtain ⟨n, hn⟩ := ihb (by simpa using hx)
        exact ⟨n, by simp only [cacode, ht]; simpa using hn⟩
    · cases hx
  | block id a iha =>
    intro st x hx
    simp only [acode] at hx
    cases h1 : acode (recL T) a st with
    | none => rw [h1] at hx; cases hx
    | some p =>
      rw [h1] at hx
      obtain ⟨n, hn⟩ := iha h1
      exact ⟨n, by simp only [cacode]; rw [hn]; exact hx⟩
  | loop a iha =>
    intro st x hx
    simp only [acode] at hx
    obtain ⟨m, hm⟩ := aloopW_some.1 hx
    have key : ∀ (m : Nat) {st : St} {x : AEx × St}, aloop (acode (recL T) a) m st = some x → ∃ n, aloop (cacode (crun T n) n a) m st = some x := by
      intro m
      induction m with
      | zero => intro st x hx; simp [aloop] at hx
      | succ m ih =>
        intro st x hx
        simp only [aloop] at hx
        cases h1 : acode (recL T) a st with
        | none => rw [h1] at hx; cases hx
        | some p =>
          rw [h1] at hx
          obtain ⟨n, hn⟩ := iha h1
          obtain ⟨y, s⟩ := p
          cases y with
          | normal =>
            obtain ⟨n2, hn2⟩ := ih hx
            refine ⟨max n n2, ?_⟩
            simp only [aloop]
            rw [cacode_le (crun_le (Nat.le_max_left n n2)) (Nat.le_max_left n n2) hn]
            exact aloop_le (fun st x hx => cacode_le (crun_le (Nat.le_max_right n n2)) (Nat.le_max_right n n2) hx) hn2
          | _ => exact ⟨n, by simp only [aloop]; rw [hn]; exact hx⟩
    obtain ⟨n, hn⟩ := key m hm
    refine ⟨max n m, ?_⟩
    simp only [cacode]
    exact aloop_mono (aloop_le (fun st x hx => cacode_le (crun_le (Nat.le_max_left n m)) (Nat.le_max_left n m) hx) hn) _ (Nat.le_max_right n m)
  | exit id live locs => intro st x hx; exact ⟨0, hx⟩
  | ret => intro st x hx; exact ⟨0, hx⟩
  | freeze d a iha =>
    intro st x hx
    simp only [acode] at hx
    split at hx
    · rename_i s hs
      obtain ⟨n, hn⟩ := iha hx
      exact ⟨n, by simp only [cacode, hs]; exact hn⟩
    · cases hx
  | scope a iha => intro st x hx; exact iha hx
  | label => intro st x hx; exact ⟨0, hx⟩

theorem caleave_of {kb : Nat} {S S' : List Bx} {e : AEnd} {x : AEnd × List Bx} (h : aleave kb S S' e = some x) : caleave kb S S' e = some x := by
  unfold aleave at h
  unfold caleave
  by_cases hl : S'.length ≤ S.length + kb
  · rw [if_pos hl] at h ⊢; exact h
  · rw [if_neg hl] at h ⊢
    by_cases hc : TruncOk S S' (S.length + kb) ∧ e.closed (S.length + kb) = true
    · rw [if_pos hc] at h
      have : ctrunc S S' (S.length + kb) = true := by
        simp only [ctrunc, List.all_eq_true, List.mem_range]
        intro i hi
        cases hx : S'[i]? with
        | none => rfl
        | some x =>
          have := hc.1 i x hi hx
          cases hy : S[i]? with
          | none =>
            rcases this with h1 | h1
            · rw [hy] at h1; cases h1
            · exact h1
          | some y =>
            simp only [Bool.or_eq_true]
            rcases this with h1 | h1
            · rw [hy] at h1; obtain rfl := Option.some.inj h1; exact .inl (beqB_refl _)
            · exact .inr h1
      rw [this, hc.2]
      exact h
    · rw [if_neg hc] at h; cases h

/-- A function's equation. -/
theorem recL_air {f : Nat} {fn : AFun} (hT : T f = some (.air fn)) {args : List AV} {S : List Bx} {r : AEnd × List Bx} (h : afun (recL T) fn args S = some r) : recL T f args S = some r := by
  unfold afun at h
  split at h
  · rename_i hl
    cases hc : acode (recL T) fn.body (aenter args S) with
    | none => rw [hc] at h; cases h
    | some p =>
      rw [hc] at h
      obtain ⟨n, hn⟩ := acode_fin hc
      refine recL_some.2 ⟨n + 1, ?_⟩
      simp only [crun, hT, cafun, if_pos hl, hn]
      obtain ⟨y, s⟩ := p
      cases y with
      | normal =>
        simp only at h ⊢
        split at h
        · rename_i hr; rw [hr]; exact caleave_of h
        · cases h
      | ret =>
        simp only at h ⊢
        split at h
        · rename_i hr; rw [hr]; exact caleave_of h
        · cases h
      | panic v => exact caleave_of h
      | exit id => cases h
  · cases h
theorem recL_ext {f : Nat} {hh : List AV → List Bx → Option (AEnd × List Bx)} (hT : T f = some (.ext hh)) {args : List AV} {S : List Bx} {r : AEnd × List Bx} (h : hh args S = some r) : recL T f args S = some r :=
  recL_some.2 ⟨1, by simp only [crun, hT]; exact h⟩
theorem recL_run {f n : Nat} {args : List AV} {S : List Bx} {r : AEnd × List Bx} (h : crun T n f args S = some r) : recL T f args S = some r := recL_some.2 ⟨n, h⟩
end Go.Av

/- The library's functions, by contracts that say what stands below the heap's end. -/
set_option linter.unusedVariables false
set_option linter.unusedSimpArgs false
set_option linter.unusedSectionVars false
namespace Go.Av
open Go Go.RowKit

section
variable {P : Program} {W0 : World} {g : Gh} {W W' : World} {S : List Bx}

theorem ext_below (hS : SInv g W S) (hB : Below W.heap.size W W') : Ext g W g W' := by
  have lt : ∀ b, (g.T b ≠ 0 ∨ g.O b ≠ .free) → b < W.heap.size := by
    intro b h
    rcases Nat.lt_or_ge b W.heap.size with h1 | h1
    · exact h1
    · have := hS.fresh b h1
      rcases h with h | h
      · exact absurd this.1 h
      · exact absurd this.2 h
  refine ⟨⟨fun _ => Nat.le_refl _, fun b o ho => ?_, fun _ _ h => h⟩, hB.size, hB.os, hB.tape, hB.output, fun b hb => ⟨hb, hB.block b (lt b (.inr (by rw [hb]; simp))), rfl⟩⟩
  exact World.cell?_of_block (w := W) (hB.block b (lt b (.inl (by omega))))

theorem sinv_below (hS : SInv g W S) (hB : Below W.heap.size W W') : SInv g W' S := by
  refine ⟨hS.len, fun i x hx => ?_, fun b hb => hS.fresh b (Nat.le_trans hB.size hb)⟩
  obtain ⟨b, h1, h2⟩ := hS.box i x hx
  exact ⟨b, h1, h2.keep (ext_below hS hB).toKeeps fun b hb _ => ⟨hB.block b hb, rfl, rfl⟩⟩

theorem calm_calmR {o : Own} (h : o.calm) : o.calmR := by cases o <;> simp_all [Own.calm, Own.calmR]

/-- What leaves all that stood as it was, and hands back a value that speaks of what stood. -/
theorem post_below (hS : SInv g W S) (hc : ∀ b, (g.O b).calm) (hB : Below W.heap.size W W') {r : AV} {v : Value} (hv : RV g W r v) : Post g W (.ret r none) S (.returned v) W' :=
  ⟨g, ext_below hS hB, sinv_below hS hB, fun b => calm_calmR (hc b), v, rfl, RV_keeps (ext_below hS hB).toKeeps hv, fun te h => by cases h⟩
theorem post_str (hS : SInv g W S) (hc : ∀ b, (g.O b).calm) (hB : Below W.heap.size W W') (s : ByteArray) : Post g W (.ret (.str s) none) S (.returned (.string s)) W' :=
  post_below hS hc hB (RV_str.2 rfl)
end

/-! ### strings.Join -/
def strsOf : List AV → Option (List ByteArray)
  | [] => some []
  | .str s :: r => (strsOf r).map fun l => s :: l
  | _ => none
def joinB (xs : List ByteArray) (sep : ByteArray) : ByteArray :=
  match xs with
  | [] => ⟨#[]⟩
  | x :: r => ⟨(x.data.toList ++ Lib.joinTail sep.data.toList (r.map (·.data.toList))).toArray⟩
def xJoin (args : List AV) (S : List Bx) : Option (AEnd × List Bx) :=
  match args with
  | [.slice 1 es, .str sep] => match strsOf es with
    | some xs => if xs.length ≤ 140737488355328 ∧ (joinB xs sep).size ≤ 140737488355328 then some (.ret (.str (joinB xs sep)) none, S) else none
    | none => none
  | _ => none

theorem joinB_eq (xs : List ByteArray) (sep : ByteArray) : joinB xs sep = ⟨(Lib.join (xs.map (·.data.toList)) sep.data.toList).toArray⟩ := by
  cases xs with
  | nil => rfl
  | cons x r => simp only [joinB, List.map_cons, Lib.join_cons]

theorem strsOf_cells {g : Gh} {W : World} : ∀ {es : List AV} {xs : List ByteArray} {ms : List Value}, strsOf es = some xs → RE g W 1 es ms → ms = xs.map Value.string ∧ xs.length = es.length
  | [], xs, ms, h, hE => by
    simp only [strsOf, Option.some.injEq] at h
    subst h
    simp only [RE] at hE
    simp [hE]
  | e :: es, xs, ms, h, hE => by
    cases e <;> simp only [strsOf] at h <;> try (cases h; done)
    rename_i s
    simp only [Option.map_eq_some_iff] at h
    obtain ⟨ys, hy, rfl⟩ := h
    simp only [RE] at hE
    obtain ⟨x, r, rfl, hx, ⟨_, hR⟩, hE⟩ := hE
    obtain ⟨h1, h2⟩ := strsOf_cells hy hE
    simp only [R] at hR
    subst hR
    simp [h1, h2]

theorem ext_join {P : Program} {W0 : World} {f : FuncId} (hc : Callable P f)
    (hN : ∀ (a : Option Addr) (c : Nat) (sep : ByteArray) (w : World), Calls P f #[.slice a 0 c, .string sep] w fun e w' => e = .returned (.string ⟨#[]⟩) ∧ w' = w)
    (hJ : ∀ (bk o c : Nat) (xs : List ByteArray) (sep : ByteArray) (w : World), (∀ (j : Nat) x, xs[j]? = some x → w.cell? ⟨bk, o + j, none⟩ = some (.string x)) → bk < w.heap.size → xs.length ≤ 140737488355328 → xs.length ≤ c →
      (Lib.join (xs.map (·.data.toList)) sep.data.toList).length ≤ 140737488355328 →
      Calls P f #[.slice (some ⟨bk, o, none⟩) xs.length c, .string sep] w fun e w' => e = .returned (.string ⟨(Lib.join (xs.map (·.data.toList)) sep.data.toList).toArray⟩) ∧ Below w.heap.size w w') :
    SoundFun P W0 f xJoin := by
  intro args S e S' h
  refine ⟨hc, fun g W vs hB hT hS hcalm => ?_⟩
  unfold xJoin at h
  split at h
  · rename_i es sep
    split at h
    · rename_i xs hxs
      split at h
      · rename_i hb
        simp only [Option.some.injEq, Prod.mk.injEq] at h
        obtain ⟨rfl, rfl⟩ := h
        obtain ⟨l⟩ := vs
        simp only [RT] at hT
        obtain ⟨v1, r1, hl, hv1, v2, r2, rfl, hv2, rfl⟩ := hT
        subst hl
        obtain rfl := RV_str.1 hv2
        obtain ⟨p, cap, rfl, hcap, hes⟩ := RV_slice hv1
        cases es with
        | nil =>
          simp only [strsOf, Option.some.injEq] at hxs
          subst hxs
          refine (hN p cap sep W).mono fun e w' hh => ?_
          obtain ⟨rfl, rfl⟩ := hh
          exact post_str hS hcalm (Below.refl _ _) _
        | cons e0 es0 =>
          rcases hes with hes | ⟨b, o, ms, rfl, hm, hTb, hE⟩
          · cases hes
          obtain ⟨rfl, hlen⟩ := strsOf_cells hxs hE
          have hcell : ∀ (j : Nat) x, xs[j]? = some x → W.cell? ⟨b, o + j, none⟩ = some (.string x) := fun j x hj => hm j _ (by simp [hj])
          have hbl : b < W.heap.size := by
            have hx0 : xs[0]? = some (xs[0]'(by rw [hlen]; simp)) := by rw [List.getElem?_eq_getElem]
            have := hcell 0 _ hx0
            unfold World.cell? at this
            simp only at this
            rcases Nat.lt_or_ge b W.heap.size with h1 | h1
            · exact h1
            · rw [Array.getElem?_eq_none h1] at this; cases this
          rw [← hlen]
          have hsz : (Lib.join (xs.map (·.data.toList)) sep.data.toList).length ≤ 140737488355328 := by
            have := hb.2
            rw [joinB_eq] at this
            simpa [ByteArray.size] using this
          refine (hJ b o cap xs sep W hcell hbl hb.1 (by omega) hsz).mono fun e w' hh => ?_
          obtain ⟨rfl, hbel⟩ := hh
          rw [joinB_eq]
          exact post_str hS hcalm hbel _
      · cases h
    · cases h
  · cases h

/-! ### strconv.Itoa -/
def digs : Nat → Nat → List UInt8 → List UInt8
  | 0, _, acc => acc
  | k + 1, n, acc => if n < 10 then UInt8.ofNat (48 + n) :: acc else digs k (n / 10) (UInt8.ofNat (48 + n % 10) :: acc)
theorem digs_eq : ∀ (k n : Nat) (acc : List UInt8), n < 10 ^ k → 0 < k → digs k n acc = Lib.decDigits n ++ acc
  | 0, n, acc, _, h => by omega
  | k + 1, n, acc, h, _ => by
    unfold digs
    rw [Lib.decDigits]
    by_cases h10 : n < 10
    · simp [h10]
    · have h2 : n / 10 < 10 ^ k := by
        rw [Nat.pow_succ] at h
        omega
      have hk : 0 < k := by
        rcases Nat.eq_zero_or_pos k with rfl | hk
        · simp at h; omega
        · exact hk
      simp only [h10, if_false, dif_neg, not_false_eq_true, List.append_assoc, List.singleton_append]
      exact digs_eq k (n / 10) _ h2 hk
def itoaB (n : Int) : ByteArray := ⟨(if n < 0 then 45 :: digs 20 n.natAbs [] else digs 20 n.toNat []).toArray⟩
theorem itoaB_eq {n : Int} (h0 : -9223372036854775808 ≤ n) (h1 : n ≤ 9223372036854775807) : itoaB n = ⟨(Lib.itoa n).toArray⟩ := by
  unfold itoaB Lib.itoa
  have e1 : ∀ u : Nat, u ≤ 9223372036854775808 → digs 20 u [] = Lib.decDigits u := fun u hu => by
    rw [digs_eq 20 u [] (by omega) (by omega)]; simp
  split
  · rw [e1 _ (by omega)]
  · rw [e1 _ (by omega)]
def xItoa (args : List AV) (S : List Bx) : Option (AEnd × List Bx) :=
  match args with
  | [.int .i64 n] => if -9223372036854775808 ≤ n ∧ n ≤ 9223372036854775807 then some (.ret (.str (itoaB n)) none, S) else none
  | _ => none
theorem ext_itoa {P : Program} {W0 : World} {f : FuncId} (hc : Callable P f)
    (hI : ∀ (n : Int) (w : World), -9223372036854775808 ≤ n → n ≤ 9223372036854775807 → (∀ b, b < W0.heap.size → w.heap[b]? = W0.heap[b]?) → Calls P f #[.int .i64 n] w fun e w' => e = .returned (.string ⟨(Lib.itoa n).toArray⟩) ∧ Below w.heap.size w w') :
    SoundFun P W0 f xItoa := by
  intro args S e S' h
  refine ⟨hc, fun g W vs hB hT hS hcalm => ?_⟩
  unfold xItoa at h
  split at h
  · rename_i n
    split at h
    · rename_i hb
      simp only [Option.some.injEq, Prod.mk.injEq] at h
      obtain ⟨rfl, rfl⟩ := h
      obtain ⟨l⟩ := vs
      simp only [RT] at hT
      obtain ⟨v1, r1, hl, hv1, rfl⟩ := hT
      subst hl
      obtain rfl := RV_int.1 hv1
      refine (hI n W hb.1 hb.2 fun b hbb => (hB.ext b hbb).2).mono fun e w' hh => ?_
      obtain ⟨rfl, hbel⟩ := hh
      rw [itoaB_eq hb.1 hb.2]
      exact post_str hS hcalm hbel _
    · cases h
  · cases h
end Go.Av
