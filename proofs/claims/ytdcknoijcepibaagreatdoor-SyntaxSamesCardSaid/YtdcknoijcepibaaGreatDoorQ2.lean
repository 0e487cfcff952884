/- Part of a proof of syntax_sames. -/
import Derived.Test.YtdcknoijcepibaaGreatDoorQ1
import Derived.Orders
import Derived.LoopN
import Derived.Scope
import Derived.Laws.Sem
import Derived.Recover
set_option linter.unusedVariables false
set_option linter.unusedSimpArgs false
set_option linter.unusedSectionVars false
namespace Go.Av
open Go
def isSliceOf (P : Program) (t e : TypeId) : Bool:=match P.underlying t with | some (.slice e')=>e == e' | _=>false
def isSlice (P : Program) (t : TypeId) : Bool:=match P.underlying t with | some (.slice _)=>true | _=>false
def isStr (P : Program) (t : TypeId) : Bool:=match P.underlying t with | some .string=>true | _=>false
theorem isSliceOf_ok {P : Program} {t e : TypeId} (h : isSliceOf P t e = true) : P.underlying t = some (.slice e):=by
  unfold isSliceOf at h; split at h
  · rename_i e' he; rw [he]; simp at h; rw [h]
  · cases h
theorem isSlice_ok {P : Program} {t : TypeId} (h : isSlice P t = true) : ∃ e,P.underlying t = some (.slice e):=by
  unfold isSlice at h; split at h
  · rename_i e' he; exact ⟨e',he⟩
  · cases h
theorem isStr_ok {P : Program} {t : TypeId} (h : isStr P t = true) : P.underlying t = some .string:=by
  unfold isStr at h; split at h
  · assumption
  · cases h
def fieldIs (P : Program) (t : TypeId) (f off : Nat) : Option TypeId :=
  match P.underlying t with
  | some (.struct fs) => match fs[f]? with
    | some fl=>if fl.offset = off then some fl.type else none
    | none=>none
  | _=>none
theorem fieldIs_ok {P : Program} {t : TypeId} {f off : Nat} {u : TypeId} (h : fieldIs P t f off = some u) : ∃ fs fl,P.underlying t = some (.struct fs)∧fs[f]? = some fl∧fl.offset = off∧fl.type = u:=by
  unfold fieldIs at h
  split at h
  · rename_i fs hu
    split at h
    · rename_i fl hf
      split at h
      · rename_i ho; exact ⟨fs,fl,hu,hf,ho,by simpa using h⟩
      · cases h
    · cases h
  · cases h
def arrayIs (P : Program) (t : TypeId) (len : Nat) : Option TypeId :=
  match P.underlying t with
  | some (.array n e)=>if n = len then some e else none
  | _=>none
theorem arrayIs_ok {P : Program} {t : TypeId} {len : Nat} {e : TypeId} (h : arrayIs P t len = some e) : P.underlying t = some (.array len e):=by
  unfold arrayIs at h
  split at h
  · rename_i n e' hu
    split at h
    · rename_i hn; subst hn; rw [hu]; simpa using h
    · cases h
  · cases h
def elemOk (P : Program) (e sz bytes : Nat) (z : Option (List AV)) : Bool :=
  match P.info? e with
  | some it => match it.zero with
    | some zz=>it.size == sz && it.bytes == bytes && zz.cells.size == sz && decide (0 < sz) && decide (0 < bytes) && (match z with | some z=>constsOk z zz.cells.toList | none=>true)
    | none=>false
  | none=>false
theorem elemOk_ok {P : Program} {e sz bytes : Nat} {z : Option (List AV)} (h : elemOk P e sz bytes z = true) :
    ∃ it zz,P.info? e = some it∧it.zero = some zz∧it.size = sz∧it.bytes = bytes∧zz.cells.size = sz∧0 < sz∧0 < bytes∧(∀ l,z = some l→constsOk l zz.cells.toList = true):=by
  unfold elemOk at h
  split at h
  · rename_i it hit
    split at h
    · rename_i zz hz
      simp only [Bool.and_eq_true,beq_iff_eq,decide_eq_true_eq] at h
      obtain ⟨⟨⟨⟨⟨h1,h2⟩,h3⟩,h4⟩,h5⟩,h6⟩:=h
      exact ⟨it,zz,hit,hz,h1,h2,h3,h4,h5,fun l hl=>by subst hl; exact h6⟩
    · cases h
  · cases h
def zeroAV : AV→Value→Bool
  | .agg cs,.agg a=>constsOk cs a.toList
  | z,zz=>constOk z zz
theorem zeroAV_RV {z : AV} {zz : Value} (h : zeroAV z zz = true) (g : Gh) (W : World) : RV g W z zz:=by
  unfold zeroAV at h
  split at h
  · rename_i cs a
    have:=RV_agg (constsOk_RL h g W)
    simpa using this
  · exact (constOk_R h g W).2.2
def zeroIs (P : Program) (t : TypeId) (z : AV) : Bool:=match P.info? t with
  | some it=>(match it.zero with | some zz=>zeroAV z zz | none=>false)
  | none=>false
theorem zeroIs_ok {P : Program} {t : TypeId} {z : AV} (h : zeroIs P t z = true) : ∃ it zz,P.info? t = some it∧it.zero = some zz∧zeroAV z zz = true:=by
  unfold zeroIs at h
  split at h
  · rename_i it hit
    split at h
    · rename_i zz hz; exact ⟨it,zz,hit,hz,h⟩
    · cases h
  · cases h
def mMap (P : Program) (t : TypeId) (kd : Option IntKind) (z : Option AV) : Bool :=
  match P.underlying t with
  | some (.map kt et) =>
    (match P.underlying kt,kd with
      | some .string,none=>true
      | some (.int k),some k'=>decide (k = k')
      | _,_=>false) &&
    (match z with
      | some z => (match P.info? et with
        | some it=>(match it.zero with | some zz=>constOk z zz | none=>false)
        | none=>false)
      | none=>true)
  | _=>false
theorem mMap_ok {P : Program} {t : TypeId} {kd : Option IntKind} {z : Option AV} (h : mMap P t kd z = true) :
    ∃ kt et,P.underlying t = some (.map kt et)∧P.underlying kt = some (descOf kd)∧∀ w,z = some w→∃ it zz,P.info? et = some it∧it.zero = some zz∧constOk w zz = true:=by
  unfold mMap at h
  split at h
  · rename_i kt et ht
    rw [Bool.and_eq_true] at h
    obtain ⟨h1,h2⟩:=h
    refine ⟨kt,et,ht,?_,fun w hw=>?_⟩
    · split at h1
      · rename_i hk; rw [hk]; rfl
      · rename_i k k' hk
        rw [hk]
        obtain rfl : k = k':=by simpa using h1
        rfl
      · cases h1
    · subst hw
      simp only at h2
      split at h2
      · rename_i it hit
        split at h2
        · rename_i zz hzz
          exact ⟨it,zz,hit,hzz,h2⟩
        · cases h2
      · cases h2
  · cases h
def mOp (P : Program) : AOp→Op→Bool
  | .mov _ x _,.move y | .mov _ x _,.assign y=>mOpd x y
  | .nils _ _ _,.move (.const (.slice none 0 0)) | .nils _ _ _,.assign (.const (.slice none 0 0))=>true
  | .pick _ c x y,.pick c' x' y'=>mOpd c c' && mOpd x x' && mOpd y y'
  | .box _ _ x _,.box _ y=>mOpd x y
  | .alloc _ _ z own,.alloc t=>match tyZero P t with | some zv=>constsOk z zv && nilCells z zv own | none=>false
  | .load _ n ag x,.load t y=>tyAg P t == some ag && tySz P t == some n && mOpd x y
  | .take _ x,.load t y=>tyAg P t == some false && mOpd x y
  | .store x y n _ _,.store t x' y'=>tySz P t == some n && mOpd x x' && mOpd y y'
  | .bin _ op x y,.binOp op' _ x' y' _=>decide (op = op') && mOpd x x' && mOpd y y'
  | .eqb _ neg x y,.binOp op t x' y' _=>decide (op = if neg then .neq else .eql) && (match P.underlying t with | some .bool=>true | _=>false) && mOpd x x' && mOpd y y'
  | .un _ op x,.unOp op' _ x'=>decide (op = op') && mOpd x x'
  | .convI _ k x,.convert src dst x'=>(P.underlying src).isSome && (match P.underlying dst with | some (.int k')=>decide (k = k') | _=>false) && mOpd x x'
  | .convB _ x,.convert src dst x'=>(match P.underlying src with | some (.slice e)=>(match P.underlying e with | some (.int .u8)=>true | _=>false) | _=>false) && isStr P dst && mOpd x x'
  | .convS _ x,.convert src dst x'=>(P.underlying src).isSome && isStr P dst && mOpd x x'
  | .mkfn _ fn f c,.makeFunc fn' f' c'=>decide (fn = fn') && mOpds f f'.toList && mOpds c c'.toList
  | .extract _ x j,.extract x' j'=>j == j' && mOpd x x'
  | .field _ off n ag x,.field t x' f=>match fieldIs P t f off with | some u=>tyAg P u == some ag && tySz P u == some n && mOpd x x' | none=>false
  | .faddr _ off x,.fieldAddr t x' f=>match fieldIs P t f off with | some u=>(match tySz P u with | some n=>n != 0 | none=>false) && mOpd x x' | none=>false
  | .iaddrA _ len sz x i,.indexAddr t x' i'=>match arrayIs P t len with | some e=>tySz P e == some sz && mOpd x x' && mOpd i i' | none=>false
  | .iaddrS _ sz x i,.indexAddr t x' i'=>match P.underlying t with | some (.slice e)=>tySz P e == some sz && mOpd x x' && mOpd i i' | _=>false
  | .idxS _ x i,.index t x' i'=>isStr P t && mOpd x x' && mOpd i i'
  | .idxA _ len sz ag x i,.index t x' i'=>match arrayIs P t len with | some e=>tyAg P e == some ag && tySz P e == some sz && mOpd x x' && mOpd i i' | none=>false
  | .slice _ sz x lo hi,.slice t x' lo' hi' none=>match P.underlying t with | some (.slice e)=>tySz P e == some sz && mOpd x x' && mOpdO lo lo' && mOpdO hi hi' | _=>false
  | .sliceS _ x lo hi,.slice t x' lo' hi' none=>isStr P t && mOpd x x' && mOpdO lo lo' && mOpdO hi hi'
  | .sliceA _ len sz ag x lo hi,.slice t x' lo' hi' none=>match arrayIs P t len with | some e=>tySz P e == some sz && (ag || sz == 1) && mOpd x x' && mOpdO lo lo' && mOpdO hi hi' | none=>false
  | .build _ z xs,.build t ys=>match tyPlaces P t,tyZero P t with | some pl,some zv=>constsOk z zv && mParts pl xs ys.toList | _,_=>false
  | .bslice _ sz e xs,.buildSlice t n ys=>isSliceOf P t e && tySz P e == some sz && (tyZero P e).isSome && decide (0 < sz) && n == xs.length && decide (n * sz≤2 ^ 24) && mElems 0 xs ys.toList
  | .nilchk _ x,.nilCheck x'=>mOpd x x'
  | .mkif _ t x,.makeInterface t' x'=>t == t' && tyConc P t && mOpd x x'
  | .tassert _ t ok z x,.typeAssert x' _ t' ok'=>t == t' && ok == ok' && tyConc P t && zeroIs P t z && mOpd x x'
  | .len _ str x,.call { callee:=.builtin .len,args:=⟨[x']⟩,argTypes:=⟨[t]⟩ }=>(if str then isStr P t else isSlice P t) && mOpd x x'
  | .mm _ mx x y,.call { callee:=.builtin b,args:=⟨[x',y']⟩,argTypes:=_ }=>decide (b = if mx then .max else .min) && mOpd x x' && mOpd y y'
  | .append _ sz e bytes x y,.call { callee:=.builtin .append,args:=⟨[x',y']⟩,argTypes:=⟨[t,tx]⟩ }=>isSliceOf P t e && (isSlice P tx || isStr P tx) && elemOk P e sz bytes none && mOpd x x' && mOpd y y'
  | .make _ sz e bytes z x y,.makeSlice t x' y'=>isSliceOf P t e && elemOk P e sz bytes (some z) && mOpd x x' && mOpd y y'
  | .makeL _ sz bytes ag z x y,.makeSlice t x' y'=>(match P.underlying t with | some (.slice e)=>elemOk P e sz bytes (some z) | _=>false) && (ag || sz == 1) && mOpd x x' && mOpd y y'
  | .cloneL _ sz e bytes ag x y,.call { callee:=.builtin .append,args:=⟨[x',y']⟩,argTypes:=⟨[t,tx]⟩ }=>isSliceOf P t e && (isSlice P tx || isStr P tx) && elemOk P e sz bytes none && (ag || sz == 1) && mOpd x x' && mOpd y y'
  | .makeMap _,.makeMap _ none=>true
  | .lookup _ ok kd z x k,.lookup t x' k' ok'=>ok == ok' && mMap P t kd (some z) && mOpd x x' && mOpd k k'
  | .mapUpd kd x k v,.mapUpdate t x' k' v'=>mMap P t kd none && mOpd x x' && mOpd k k' && mOpd v v'
  | .mapUpd kd x k v,.insert t x' k' v'=>mMap P t kd none && mOpd x x' && mOpd k k' && mOpd v v'
  | .eqnil _ neg cls x,.binOp op t x' (.const z) _=>decide (op = if neg then .neq else .eql) && nilOf P t cls z && mOpd x x'
  | .eqagg _ neg ks x y,.binOp op t x' y' _=>decide (op = if neg then .neq else .eql) && mEqAgg P t ks && mOpd x x' && mOpd y y'
  | .call _ f xs,.call { callee:=.value (.func f'),args:=ys,argTypes:=_ }=>f == f' && mOpds xs ys.toList
  | .callv _ c xs,.call { callee:=.value c',args:=ys,argTypes:=_ }=>mOpd c c' && mOpds xs ys.toList
  | .panic x,.panic x'=>mOpd x x'
  | _,_=>false
def mDst (N : Nat) : Option Nat→Option Nat→Bool
  | some d,some d'=>d == d' && decide (d < N)
  | none,none=>true
  | _,_=>false
section
variable {P : Program} {W0 : World} {g : Gh} {W : World} {a : Act} {N : Nat} {L : Nat→Nat} {st : St}
theorem mDst_none {d : Option Nat} (h : mDst N none d = true) : d = none:=by
  cases d with
  | none=>rfl
  | some d=>simp [mDst] at h
theorem aop_ok (hi : Inv g W a N L st) (o : Oper) {ao : AOp} (hm : mOp P ao o.op = true) (hdst : mDst N ao.dst o.dst = true) {rec : Rec} {x : AEx} {st' : St} (h : aop rec st ao = some (x,st'))
    (hnc : (∀ d f xs,ao≠.call d f xs)∧(∀ d c xs,ao≠.callv d c xs)∧∀ x,ao≠.panic x) : x = .normal∧OpOk P o a g W N L st':=by
  have pd : ∀ {s : SV},(∃ d,ao.dst = some d∧apure st ao = some s∧x = .normal∧st' = st.put d s)→(∀ s,apure st ao = some s→∃ v,RunsTo P o a W v W∧SVR g W L s v)→x = .normal∧OpOk P o a g W N L st':=by
    rintro s ⟨d,h1,h2,rfl,rfl⟩ h3
    rw [h1] at hdst
    cases hod : o.dst with
    | none=>rw [hod] at hdst; simp [mDst] at hdst
    | some d' =>
      rw [hod] at hdst
      simp only [mDst,Bool.and_eq_true,beq_iff_eq,decide_eq_true_eq] at hdst
      obtain ⟨rfl,hN⟩:=hdst
      obtain ⟨v,q1,q2⟩:=h3 s h2
      exact ⟨rfl,opOk_pure hi o hN hod q1 q2⟩
  have hdd : ∀ {d : Nat},ao.dst = some d→d < N∧o.dst = some d:=by
    intro d h1
    rw [h1] at hdst
    cases hod : o.dst with
    | none=>rw [hod] at hdst; simp [mDst] at hdst
    | some d' =>
      rw [hod] at hdst
      simp only [mDst,Bool.and_eq_true,beq_iff_eq,decide_eq_true_eq] at hdst
      obtain ⟨rfl,hN⟩:=hdst
      exact ⟨hN,rfl⟩
  have hdn : ao.dst = none→o.dst = none:=by
    intro h1
    rw [h1] at hdst
    cases hod : o.dst with
    | none=>rfl
    | some d'=>rw [hod] at hdst; simp [mDst] at hdst
  have hp : ∀ {d : Nat},ao.dst = some d→(aop rec st ao = match apure st ao,ao.dst with | some s,some d=>normal (st.put d s) | _,_=>none)→∃ s,∃ d,ao.dst = some d∧apure st ao = some s∧x = .normal∧st' = st.put d s:=by
    intro d h1 h2
    rw [h2,h1] at h
    cases hs : apure st ao with
    | none=>rw [hs] at h; simp at h
    | some s =>
      rw [hs] at h
      simp only [normal,Option.some.injEq,Prod.mk.injEq] at h
      exact ⟨s,d,h1,rfl,h.1.symm,h.2.symm⟩
  unfold mOp at hm
  split at hm <;> (try (cases hm; done))
  · rename_i d x0 tk y ho; obtain ⟨h1,h2⟩:=hdd rfl; exact mov_ok hi o hm h1 h2 (.inl ho) h
  · rename_i d x0 tk y ho; obtain ⟨h1,h2⟩:=hdd rfl; exact mov_ok hi o hm h1 h2 (.inr ho) h
  · rename_i d s e ho; obtain ⟨h1,h2⟩:=hdd rfl; exact nils_ok hi o h1 h2 (.inl ho) h
  · rename_i d s e ho; obtain ⟨h1,h2⟩:=hdd rfl; exact nils_ok hi o h1 h2 (.inr ho) h
  · rename_i d c x0 y c' x' y' ho
    simp only [Bool.and_eq_true] at hm
    obtain ⟨s,hs⟩:=hp rfl rfl
    exact pd hs fun s h=>pick_ok hi o hm.1.1 hm.1.2 hm.2 ho h
  · rename_i d sh x0 t y ho; obtain ⟨h1,h2⟩:=hdd rfl; exact box_ok hi o hm h1 h2 ho h
  · rename_i d sh z own t ho
    obtain ⟨h1,h2⟩:=hdd rfl
    split at hm
    · rename_i zv hz
      simp only [Bool.and_eq_true] at hm
      exact alloc_ok hi o hz hm.1 hm.2 h1 h2 ho h
    · cases hm
  · rename_i d n ag x0 t y ho
    simp only [Bool.and_eq_true,beq_iff_eq] at hm
    obtain ⟨s,hs⟩:=hp rfl rfl
    exact pd hs fun s h=>load_ok hi o hm.1.1 hm.1.2 hm.2 ho h
  · rename_i d x0 t y ho
    simp only [Bool.and_eq_true,beq_iff_eq] at hm
    obtain ⟨h1,h2⟩:=hdd rfl
    exact take_ok hi o hm.2 hm.1 h1 h2 ho h
  · rename_i x0 y n tk nl t x' y' ho
    simp only [Bool.and_eq_true,beq_iff_eq] at hm
    exact store_ok hi o hm.1.2 hm.2 hm.1.1 (hdn rfl) ho h
  · rename_i d op x0 y op' t x' y' t' ho
    simp only [Bool.and_eq_true,decide_eq_true_eq] at hm
    obtain ⟨⟨rfl,hx⟩,hy⟩:=hm
    obtain ⟨s,hs⟩:=hp rfl rfl
    exact pd hs fun s h=>bin_ok hi o hx hy ho h
  · rename_i d neg x0 y op t x' y' t' ho
    simp only [Bool.and_eq_true,decide_eq_true_eq] at hm
    obtain ⟨⟨⟨rfl,ht⟩,hx⟩,hy⟩:=hm
    have ht' : P.underlying t = some .bool:=by split at ht <;> first | assumption | (cases ht; done)
    obtain ⟨s,hs⟩:=hp rfl rfl
    exact pd hs fun s h=>eqb_ok hi o hx hy ht' ho h
  · rename_i d op x0 op' t x' ho
    simp only [Bool.and_eq_true,decide_eq_true_eq] at hm
    obtain ⟨rfl,hx⟩:=hm
    obtain ⟨s,hs⟩:=hp rfl rfl
    exact pd hs fun s h=>un_ok hi o hx ho h
  · rename_i d k x0 src dst x' ho
    simp only [Bool.and_eq_true] at hm
    obtain ⟨⟨h1,h2⟩,hx⟩:=hm
    obtain ⟨ds,h1⟩:=Option.isSome_iff_exists.1 h1
    have h2' : P.underlying dst = some (.int k):=by
      split at h2
      · rename_i k' hk; rw [hk]; simp at h2; rw [h2]
      · cases h2
    obtain ⟨s,hs⟩:=hp rfl rfl
    exact pd hs fun s h=>convI_ok hi o hx h1 h2' ho h
  · rename_i d x0 src dst x' ho
    simp only [Bool.and_eq_true] at hm
    obtain ⟨⟨h1,h2⟩,hx⟩:=hm
    obtain ⟨s,hs⟩:=hp rfl rfl
    split at h1
    · rename_i e hse
      split at h1
      · rename_i he
        exact pd hs fun s h=>convB_ok hi o hx hse he (isStr_ok h2) ho h
      · cases h1
    · cases h1
  · rename_i d x0 src dst x' ho
    simp only [Bool.and_eq_true] at hm
    obtain ⟨⟨h1,h2⟩,hx⟩:=hm
    obtain ⟨ds,h1⟩:=Option.isSome_iff_exists.1 h1
    obtain ⟨s,hs⟩:=hp rfl rfl
    exact pd hs fun s h=>convS_ok hi o hx h1 (isStr_ok h2) ho h
  · rename_i d fn f c fn' f' c' ho
    simp only [Bool.and_eq_true,decide_eq_true_eq] at hm
    obtain ⟨⟨rfl,hf⟩,hc⟩:=hm
    obtain ⟨s,hs⟩:=hp rfl rfl
    exact pd hs fun s h=>mkfn_ok hi o hf hc ho h
  · rename_i d x0 j x' j' ho
    simp only [Bool.and_eq_true,beq_iff_eq] at hm
    obtain ⟨rfl,hx⟩:=hm
    obtain ⟨s,hs⟩:=hp rfl rfl
    exact pd hs fun s h=>extract_ok hi o hx ho h
  · rename_i d off n ag x0 t x' f ho
    split at hm
    · rename_i u hu
      obtain ⟨fs,fl,q1,q2,q3,rfl⟩:=fieldIs_ok hu
      simp only [Bool.and_eq_true,beq_iff_eq] at hm
      obtain ⟨s,hs⟩:=hp rfl rfl
      exact pd hs fun s h=>field_ok hi o hm.2 q1 q2 q3 hm.1.1 hm.1.2 ho h
    · cases hm
  · rename_i d off x0 t x' f ho
    split at hm
    · rename_i u hu
      obtain ⟨fs,fl,q1,q2,q3,rfl⟩:=fieldIs_ok hu
      simp only [Bool.and_eq_true] at hm
      obtain ⟨h1,hx⟩:=hm
      split at h1
      · rename_i n hn
        obtain ⟨s,hs⟩:=hp rfl rfl
        exact pd hs fun s h=>faddr_ok hi o hx q1 q2 q3 hn (by simpa using h1) ho h
      · cases h1
    · cases hm
  · rename_i d len sz x0 i t x' i' ho
    split at hm
    · rename_i e he
      simp only [Bool.and_eq_true,beq_iff_eq] at hm
      obtain ⟨s,hs⟩:=hp rfl rfl
      exact pd hs fun s h=>iaddrA_ok hi o hm.1.2 hm.2 (arrayIs_ok he) hm.1.1 ho h
    · cases hm
  · rename_i d sz x0 i t x' i' ho
    split at hm
    · rename_i e he
      simp only [Bool.and_eq_true,beq_iff_eq] at hm
      obtain ⟨s,hs⟩:=hp rfl rfl
      exact pd hs fun s h=>iaddrS_ok hi o hm.1.2 hm.2 he hm.1.1 ho h
    · cases hm
  · rename_i d x0 i t x' i' ho
    simp only [Bool.and_eq_true] at hm
    obtain ⟨s,hs⟩:=hp rfl rfl
    exact pd hs fun s h=>idxS_ok hi o hm.1.2 hm.2 (isStr_ok hm.1.1) ho h
  · rename_i d len sz ag x0 i t x' i' ho
    split at hm
    · rename_i e he
      simp only [Bool.and_eq_true,beq_iff_eq] at hm
      obtain ⟨s,hs⟩:=hp rfl rfl
      exact pd hs fun s h=>idxA_ok hi o hm.1.2 hm.2 (arrayIs_ok he) hm.1.1.1 hm.1.1.2 ho h
    · cases hm
  · rename_i d sz x0 lo hh t x' lo' hh' ho
    split at hm
    · rename_i e he
      simp only [Bool.and_eq_true,beq_iff_eq] at hm
      obtain ⟨s,hs⟩:=hp rfl rfl
      exact pd hs fun s h=>slice_ok hi o hm.1.1.2 hm.1.2 hm.2 he hm.1.1.1 ho h
    · cases hm
  · rename_i d x0 lo hh t x' lo' hh' ho
    simp only [Bool.and_eq_true] at hm
    obtain ⟨s,hs⟩:=hp rfl rfl
    exact pd hs fun s h=>sliceS_ok hi o hm.1.1.2 hm.1.2 hm.2 (isStr_ok hm.1.1.1) ho h
  · rename_i d len sz ag x0 lo hh t x' lo' hh' ho
    split at hm
    · rename_i e he
      simp only [Bool.and_eq_true,beq_iff_eq,Bool.or_eq_true] at hm
      obtain ⟨⟨⟨⟨q1,q2⟩,q3⟩,q4⟩,q5⟩:=hm
      obtain ⟨s,hs⟩:=hp rfl rfl
      exact pd hs fun s h=>sliceA_ok hi o q3 q4 q5 (arrayIs_ok he) q1 (fun h=>by
        rcases q2 with q | q
        · rw [h] at q; cases q
        · exact q) ho h
    · cases hm
  · rename_i d z xs t ys ho
    split at hm
    · rename_i pl zv hpl hz
      simp only [Bool.and_eq_true] at hm
      obtain ⟨s,hs⟩:=hp rfl rfl
      exact pd hs fun s h=>build_ok hi o hpl hz hm.1 hm.2 ho h
    · cases hm
  · rename_i d sz e xs t n ys ho
    simp only [Bool.and_eq_true,beq_iff_eq,decide_eq_true_eq] at hm
    obtain ⟨⟨⟨⟨⟨⟨q1,q2⟩,q3⟩,q4⟩,rfl⟩,q6⟩,q7⟩:=hm
    obtain ⟨zv,q3⟩:=Option.isSome_iff_exists.1 q3
    obtain ⟨h1,h2⟩:=hdd rfl
    exact bslice_ok hi o (isSliceOf_ok q1) q2 q3 q7 q6 q4 h1 h2 ho h
  · rename_i d x0 x' ho
    obtain ⟨s,hs⟩:=hp rfl rfl
    exact pd hs fun s h=>nilchk_ok hi o hm ho h
  · rename_i d t x0 t' x' ho
    simp only [Bool.and_eq_true,beq_iff_eq] at hm
    obtain ⟨⟨rfl,ht⟩,hx⟩:=hm
    obtain ⟨s,hs⟩:=hp rfl rfl
    exact pd hs fun s h=>mkif_ok hi o hx ht ho h
  · rename_i d t ok z x0 x' xt t' ok' ho
    simp only [Bool.and_eq_true,beq_iff_eq] at hm
    obtain ⟨⟨⟨⟨rfl,rfl⟩,ht⟩,hz⟩,hx⟩:=hm
    obtain ⟨it,zz,z1,z2,z3⟩:=zeroIs_ok hz
    obtain ⟨s,hs⟩:=hp rfl rfl
    exact pd hs fun s h=>tassert_ok hi o hx ht z1 z2 (zeroAV_RV z3 g W) ho h
  · rename_i d str x0 x' t ho
    simp only [Bool.and_eq_true] at hm
    obtain ⟨s,hs⟩:=hp rfl rfl
    refine pd hs fun s h=>len_ok hi o hm.2 ?_ ho h
    have h1:=hm.1
    cases str
    · exact isSlice_ok (by simpa using h1)
    · exact isStr_ok (by simpa using h1)
  · rename_i d mx x0 y b x' y' ts ho
    simp only [Bool.and_eq_true,decide_eq_true_eq] at hm
    obtain ⟨⟨rfl,hx⟩,hy⟩:=hm
    obtain ⟨s,hs⟩:=hp rfl rfl
    exact pd hs fun s h=>mm_ok hi o hx hy ho h
  · rename_i d sz e bytes x0 y x' y' t tx ho
    simp only [Bool.and_eq_true,Bool.or_eq_true] at hm
    obtain ⟨⟨⟨⟨q1,q2⟩,q3⟩,q4⟩,q5⟩:=hm
    obtain ⟨it,zz,p1,p2,p3,p4,p5,p6,p7,_⟩:=elemOk_ok q3
    obtain ⟨h1,h2⟩:=hdd rfl
    exact append_ok hi o q4 q5 (isSliceOf_ok q1) (q2.imp isSlice_ok isStr_ok) p1 p2 p3 p4 p5 p6 p7 h1 h2 ho h
  · rename_i d sz e bytes z x0 y t x' y' ho
    simp only [Bool.and_eq_true] at hm
    obtain ⟨⟨⟨q1,q3⟩,q4⟩,q5⟩:=hm
    obtain ⟨it,zz,p1,p2,p3,p4,p5,p6,p7,p8⟩:=elemOk_ok q3
    obtain ⟨h1,h2⟩:=hdd rfl
    exact make_ok hi o q4 q5 (isSliceOf_ok q1) p1 p2 p3 p4 (p8 z rfl) p5 p6 p7 h1 h2 ho h
  · rename_i d sz bytes ag z x0 y t x' y' ho
    simp only [Bool.and_eq_true] at hm
    obtain ⟨⟨⟨q1,q2⟩,q4⟩,q5⟩:=hm
    split at q1
    · rename_i e he
      obtain ⟨it,zz,p1,p2,p3,p4,p5,p6,p7,p8⟩:=elemOk_ok q1
      obtain ⟨h1,h2⟩:=hdd rfl
      exact makeL_ok hi o q4 q5 he p1 p2 p3 p4 (p8 z rfl) p5 p6 p7 (fun hag=>by subst hag; simpa using q2) h1 h2 ho h
    · cases q1
  · rename_i d sz e bytes ag x0 y x' y' t tx ho
    simp only [Bool.and_eq_true,Bool.or_eq_true] at hm
    obtain ⟨⟨⟨⟨⟨q1,q2⟩,q3⟩,q6⟩,q4⟩,q5⟩:=hm
    obtain ⟨it,zz,p1,p2,p3,p4,p5,p6,p7,_⟩:=elemOk_ok q3
    obtain ⟨h1,h2⟩:=hdd rfl
    exact cloneL_ok hi o q4 q5 (isSliceOf_ok q1) (q2.imp isSlice_ok isStr_ok) p1 p2 p3 p4 p5 p6 p7 (fun hag=>by subst hag; simpa using q6) h1 h2 ho h
  · rename_i d t ho
    obtain ⟨h1,h2⟩:=hdd rfl
    exact makeMap_ok hi o h1 h2 ho h
  · rename_i d ok kd z x0 k t x' k' ok' ho
    simp only [Bool.and_eq_true,beq_iff_eq] at hm
    obtain ⟨⟨⟨rfl,q1⟩,q2⟩,q3⟩:=hm
    obtain ⟨kt,et,p1,p2,p3⟩:=mMap_ok q1
    obtain ⟨it,zz,p4,p5,p6⟩:=p3 z rfl
    obtain ⟨h1,h2⟩:=hdd rfl
    exact lookup_ok hi o q2 q3 p1 p2 p4 p5 p6 h1 h2 ho h
  · rename_i kd x0 k v t x' k' v' ho
    simp only [Bool.and_eq_true] at hm
    obtain ⟨⟨⟨q1,q2⟩,q3⟩,q4⟩:=hm
    obtain ⟨kt,et,p1,p2,_⟩:=mMap_ok q1
    exact mapUpd_ok hi o q2 q3 q4 p1 p2 (mDst_none hdst) (.inl ho) h
  · rename_i kd x0 k v t x' k' v' ho
    simp only [Bool.and_eq_true] at hm
    obtain ⟨⟨⟨q1,q2⟩,q3⟩,q4⟩:=hm
    obtain ⟨kt,et,p1,p2,_⟩:=mMap_ok q1
    exact mapUpd_ok hi o q2 q3 q4 p1 p2 (mDst_none hdst) (.inr ho) h
  · rename_i d neg cls x0 op t x' z t' ho
    simp only [Bool.and_eq_true,decide_eq_true_eq] at hm
    obtain ⟨⟨rfl,hc⟩,hx⟩:=hm
    obtain ⟨s,hs⟩:=hp rfl rfl
    exact pd hs fun s h=>eqnil_ok hi o hx hc ho h
  · rename_i d neg ks x0 y op t x' y' t' ho
    simp only [Bool.and_eq_true,decide_eq_true_eq] at hm
    obtain ⟨⟨⟨rfl,hc⟩,hx⟩,hy⟩:=hm
    obtain ⟨s,hs⟩:=hp rfl rfl
    exact pd hs fun s h=>eqagg_ok hi o hx hy hc ho h
  · rename_i d f xs f' ys ts ho; exact absurd rfl (hnc.1 d f xs)
  · rename_i d c xs c' ys ts ho; exact absurd rfl (hnc.2.1 d c xs)
  · rename_i x0 x' ho; exact absurd rfl (hnc.2.2 x0)
end
end Go.Av
set_option linter.unusedVariables false
set_option linter.unusedSimpArgs false
set_option linter.unusedSectionVars false
namespace Go.Av
open Go
def mGuard (ops : Array Oper) : Option (Nat×Bool)→Option (Nat×Bool)→Bool
  | none,none=>true
  | some (k,b),some (j,b')=>b == b' && (match ops[j]? with | some o=>o.dst == some k | none=>false)
  | _,_=>false
def mOper (P : Program) (N : Nat) (ops : Array Oper) (ao : AOper) (o : Oper) : Bool:=mGuard ops ao.gd o.guard && mDst N ao.op.dst o.dst && mOp P ao.op o.op
section
variable {P : Program} {W0 : World} {g : Gh} {W : World} {a : Act} {N : Nat} {L : Nat→Nat} {st : St}
structure Goes (W0 : World) (g : Gh) (W : World) (N : Nat) (df : List Deferred) (x : AEx) (st' : St) (next : Act→World→Prop) (Q : Exit→Act→World→Prop) : Prop where
  normal : x = .normal→∀ g' W' a' L',a'.defers = df→Ext g W g' W'→Inv g' W' a' N L' st'→next a' W'
  panic : ∀ v,x = .panic v→∀ g' W' a' L' u,a'.defers = df→Ext g W g' W'→Inv g' W' a' N L' st'→RV g' W' v u→Q (.panic [{ v:=u,recovered:=false }]) a' W'
theorem put_defers (a : Act) (d : Option Nat) (v : Value) : (a.put d v).defers = a.defers:=by cases d <;> rfl
theorem aop_wp (hi : Inv g W a N L st) (hB : Base W0 g W) {rec : Rec} (hrec : RecSound P W0 rec) (o : Oper) {ao : AOp} (hm : mOp P ao o.op = true) (hdst : mDst N ao.dst o.dst = true) {x : AEx} {st' : St}
    (h : aop rec st ao = some (x,st')) {next : Act→World→Prop} {Q : Exit→Act→World→Prop} (hg : Goes W0 g W N a.defers x st' next Q) : o.wp P a W next Q:=by
  have ok : x = .normal∧OpOk P o a g W N L st'→o.wp P a W next Q:=by
    rintro ⟨rfl,nx,v,W',g',L',hrun,hnx,hE,hi'⟩
    have:=hg.normal rfl g' W' _ L' (put_defers a o.dst v) hE hi'
    unfold Oper.wp
    rw [hrun]
    rcases hnx with rfl | ⟨rfl,rfl⟩
    · exact this
    · exact this
  have hd : ∀ d',ao.dst = some d'→d' < N:=by
    intro d' h1
    rw [h1] at hdst
    cases hod : o.dst with
    | none=>rw [hod] at hdst; simp [mDst] at hdst
    | some d=>rw [hod] at hdst; simp only [mDst,Bool.and_eq_true,decide_eq_true_eq] at hdst; exact hdst.2
  have hod : o.dst = ao.dst:=by
    cases h1 : ao.dst with
    | none =>
      rw [h1] at hdst
      cases h2 : o.dst with
      | none=>rfl
      | some d=>rw [h2] at hdst; simp [mDst] at hdst
    | some d =>
      rw [h1] at hdst
      cases h2 : o.dst with
      | none=>rw [h2] at hdst; simp [mDst] at hdst
      | some d'=>rw [h2] at hdst; simp only [mDst,Bool.and_eq_true,beq_iff_eq] at hdst; rw [hdst.1]
  have hcf : ∀ {f : FuncId} {vs : Array Value},Callable P f→(callFunc f vs).run P W = .ok (.enter f vs) W:=by
    rintro f vs ⟨fn,h1,h2,h3⟩
    have h3' : ¬ (fn.body = none):=by intro e; simp [e] at h3
    have h2' : ¬ (fn.name = "runtime.NumGoroutine") := by simpa using h2
    simp [callFunc,h1,h2',h3']
  cases ao with
  | call d f xs =>
    unfold mOp at hm
    cases ho : o.op <;> rw [ho] at hm <;> try (cases hm; done)
    rename_i c
    obtain ⟨callee,args,ats⟩:=c
    cases callee <;> try (cases hm; done)
    rename_i v0
    cases v0 <;> try (cases hm; done)
    rename_i f'
    simp only [Bool.and_eq_true,beq_iff_eq] at hm
    obtain ⟨rfl,hxs⟩:=hm
    simp only [aop] at h
    split at h
    · rename_i as has
      split at h
      · rename_i r S' hr
        have hT:=avs_ok hi hxs has
        refine call_wp hi hB hrec o hr (vs:=args.map a.eval) (by simpa using hT) (fun hc=>?_) hd hod h hg.normal hg.panic
        simp [execOp,ho,resolve,Act.eval,Deferred.ofValue,invoke]
        exact hcf hc
      · cases h
    · cases h
  | callv d c xs =>
    unfold mOp at hm
    cases ho : o.op <;> rw [ho] at hm <;> try (cases hm; done)
    rename_i cl
    obtain ⟨callee,args,ats⟩:=cl
    cases callee <;> try (cases hm; done)
    rename_i v0
    simp only [Bool.and_eq_true] at hm
    obtain ⟨hc,hxs⟩:=hm
    simp only [aop] at h
    split at h
    · rename_i f first caps as hcv has
      split at h
      · rename_i r S' hr
        have hT:=avs_ok hi hxs has
        have hRc:=RV_notAgg (av_ok hi hc hcv) rfl
        simp only [R] at hRc
        obtain ⟨fi,ca,e,h1,h2⟩:=hRc
        have e' : a.eval v0 = .func (.func f) fi ca:=by simpa using e
        refine call_wp hi hB hrec o hr (vs:=fi++args.map a.eval++ca) ?_ (fun hcl=>?_) hd hod h hg.normal hg.panic
        · simp only [Array.toList_append, Array.toList_map]
          exact RT_app (RT_app h1 hT) h2
        · simp [execOp, ho, resolve, e', Deferred.ofValue, invoke]
          exact hcf hcl
      · cases h
    · cases h
  | panic x0 =>
    unfold mOp at hm
    cases ho : o.op <;> rw [ho] at hm <;> try (cases hm; done)
    rename_i x'
    simp only [aop] at h
    split at h
    · rename_i t c hc
      simp only [Option.some.injEq,Prod.mk.injEq] at h
      obtain ⟨rfl,rfl⟩:=h
      have hR:=av_ok hi hm hc
      have hR2:=RV_notAgg hR rfl
      simp only [R] at hR2
      obtain ⟨u,e,_⟩:=hR2
      have e' : a.eval x' = .iface t u:=by simpa using e
      unfold Oper.wp
      have hrun : (execOp a.eval o).run P W = .halt (.panic (.iface t u)) W:=by
        simp [execOp,ho,e',Instr.panic,Result.andThen]
      rw [hrun]
      exact hg.panic _ rfl g W a L _ rfl (Ext.refl g W) hi (by rw [e'] at hR; exact hR)
    · cases h
  | _=>exact ok (aop_ok hi o hm hdst h ⟨fun _ _ _ e=>(by cases e),fun _ _ _ e=>(by cases e),fun _ e=>(by cases e)⟩)
theorem aopB_wp (hi : Inv g W a N L st) (hB : Base W0 g W) {rec : Rec} (hrec : RecSound P W0 rec) (o : Oper) {ao : AOper} (hm : mOp P ao.op o.op = true) (hdst : mDst N ao.op.dst o.dst = true) {x : AEx} {st' : St}
    (h : aopB rec st ao = some (x,st')) {next : Act→World→Prop} {Q : Exit→Act→World→Prop} (hg : Goes W0 g W N a.defers x st' next Q) : o.wp P a W next Q:=by
  unfold aopB at h
  split at h
  · unfold aopM at h
    split at h
    rotate_left
    · exact aop_wp hi hB hrec o hm hdst h hg
    split at h
    · obtain ⟨op, gd, blk⟩ := ao
      simp only at h hm hdst
      cases op with
      | call d f xs =>
        simp only [apcall] at h
        split at h
        · rename_i as has
          split at h
          · rename_i hcl
            split at h
            · rename_i r own hr
              have hd : ∀ d',d = some d'→d' < N:=by
                intro d' h1
                subst h1
                simp only [AOp.dst] at hdst
                cases hod : o.dst with
                | none=>rw [hod] at hdst; simp [mDst] at hdst
                | some d=>rw [hod] at hdst; simp only [mDst,Bool.and_eq_true,decide_eq_true_eq] at hdst; exact hdst.2
              have hod : o.dst = d:=by
                simp only [AOp.dst] at hdst
                cases d with
                | none =>
                  cases h2 : o.dst with
                  | none=>rfl
                  | some d=>rw [h2] at hdst; simp [mDst] at hdst
                | some d =>
                  cases h2 : o.dst with
                  | none=>rw [h2] at hdst; simp [mDst] at hdst
                  | some d'=>rw [h2] at hdst; simp only [mDst,Bool.and_eq_true,beq_iff_eq] at hdst; rw [hdst.1]
              have hcf : ∀ {f : FuncId} {vs : Array Value},Callable P f→(callFunc f vs).run P W = .ok (.enter f vs) W:=by
                rintro f vs ⟨fn,h1,h2,h3⟩
                have h3' : ¬ (fn.body = none):=by intro e; simp [e] at h3
                have h2' : ¬ (fn.name = "runtime.NumGoroutine") := by simpa using h2
                simp [callFunc,h1,h2',h3']
              unfold mOp at hm
              cases ho : o.op <;> rw [ho] at hm <;> try (cases hm; done)
              rename_i c
              obtain ⟨callee,args,ats⟩:=c
              cases callee <;> try (cases hm; done)
              rename_i v0
              cases v0 <;> try (cases hm; done)
              rename_i f'
              simp only [Bool.and_eq_true,beq_iff_eq] at hm
              obtain ⟨rfl,hxs⟩:=hm
              have hT:=avs_ok hi hxs has
              refine pcall_wp hi hB hrec o hr hcl (vs:=args.map a.eval) (by simpa using hT) (fun hc=>?_) hd hod h hg.normal
              simp [execOp,ho,resolve,Act.eval,Deferred.ofValue,invoke]
              exact hcf hc
            · cases h
          · cases h
        · cases h
      | _=>simp [apcall] at h
    · split at h
      · have hn : aop rec st ao.op = some (x,st'):=by
          revert h
          cases aop rec st ao.op with
          | none=>intro h; exact h
          | some p =>
            obtain ⟨y,s⟩:=p
            cases y <;> intro h <;> first | exact h | cases h
        exact aop_wp hi hB hrec o hm hdst hn hg
      · exact aop_wp hi hB hrec o hm hdst h hg
  · cases h
theorem aoper_wp0 (hi : Inv g W a N L st) (hB : Base W0 g W) {rec : Rec} (hrec : RecSound P W0 rec) {ops : Array Oper} (o : Oper) {ao : AOper} (hm : mOper P N ops ao o = true) {x : AEx} {st' : St}
    (h : aoper rec st ao = some (x,st')) {next : Act→World→Prop} {Q : Exit→Act→World→Prop} (hg : Goes W0 g W N a.defers x st' next Q) :
    if Region.wanted o (yielded ops a.tmps) then o.wp P a W next Q else next (a.put o.dst undef) W:=by
  simp only [mOper,Bool.and_eq_true] at hm
  obtain ⟨⟨h1,h2⟩,h3⟩:=hm
  unfold aoper at h
  split at h
  · rename_i hgd
    rw [hgd] at h1
    have hn : o.guard = none:=by
      cases hq : o.guard with
      | none=>rfl
      | some p=>rw [hq] at h1; simp [mGuard] at h1
    rw [if_pos (by simp [Region.wanted,hn])]
    exact (aopB_wp hi hB hrec o h3 h2 h hg)
  · rename_i k want hgd
    rw [hgd] at h1
    cases hq : o.guard with
    | none=>rw [hq] at h1; simp [mGuard] at h1
    | some p =>
      obtain ⟨j,b'⟩:=p
      rw [hq] at h1
      simp only [mGuard,Bool.and_eq_true,beq_iff_eq] at h1
      obtain ⟨rfl,h1⟩:=h1
      split at h1
      · rename_i oj hoj
        have hdj : oj.dst = some k:=by simpa using h1
        split at h
        · rename_i b hk
          have hs:=hi.slot k
          rw [hk] at hs
          have hv : a.tmps.getD k undef = .bool b:=RV_bool.1 hs
          have hy : yielded ops a.tmps j = some b:=by
            have : a.tmps[k]? = some (.bool b):=by
              cases ht : a.tmps[k]? with
              | none=>rw [Array.getD_eq_getD_getElem?,ht] at hv; simp [undef] at hv
              | some v=>rw [Array.getD_eq_getD_getElem?,ht] at hv; simpa using hv
            simp [yielded,hoj,hdj,this]
          by_cases hw : b = want
          · subst hw
            rw [if_pos (by simp [Region.wanted,hq,hy])]
            rw [if_pos rfl] at h
            exact (aopB_wp hi hB hrec o h3 h2 h hg)
          · rw [if_neg (by simp [Region.wanted, hq, hy, hw])]
            rw [if_neg hw] at h
            cases hd : ao.op.dst with
            | none =>
              rw [hd] at h h2
              simp only [normal,Option.some.injEq,Prod.mk.injEq] at h
              obtain ⟨rfl,rfl⟩:=h
              have hod : o.dst = none:=by
                cases hod : o.dst with
                | none=>rfl
                | some d=>rw [hod] at h2; simp [mDst] at h2
              rw [hod]
              exact hg.normal rfl g W _ L rfl (Ext.refl g W) hi
            | some d =>
              rw [hd] at h h2
              simp only [normal,Option.some.injEq,Prod.mk.injEq] at h
              obtain ⟨rfl,rfl⟩:=h
              cases hod : o.dst with
              | none=>rw [hod] at h2; simp [mDst] at h2
              | some d' =>
                rw [hod] at h2
                simp only [mDst,Bool.and_eq_true,beq_iff_eq,decide_eq_true_eq] at h2
                obtain ⟨rfl,hN⟩:=h2
                exact hg.normal rfl g W _ L (put_defers a _ _) (Ext.refl g W) (hi.put d hN .undef undef rfl)
        · rename_i hk
          have hs:=hi.slot k
          rw [hk] at hs
          have hv : a.tmps.getD k undef = undef:=hs
          have hy : yielded ops a.tmps j = none:=by
            cases ht : a.tmps[k]? with
            | none=>simp [yielded,hoj,hdj,ht]
            | some v =>
              rw [Array.getD_eq_getD_getElem?,ht] at hv
              have hv' : v = undef:=by simpa using hv
              subst hv'
              simp [yielded,hoj,hdj,ht,undef]
          rw [if_neg (by simp [Region.wanted,hq,hy])]
          cases hd : ao.op.dst with
          | none =>
            rw [hd] at h h2
            simp only [normal,Option.some.injEq,Prod.mk.injEq] at h
            obtain ⟨rfl,rfl⟩:=h
            have hod : o.dst = none:=by
              cases hod : o.dst with
              | none=>rfl
              | some d=>rw [hod] at h2; simp [mDst] at h2
            rw [hod]
            exact hg.normal rfl g W _ L rfl (Ext.refl g W) hi
          | some d =>
            rw [hd] at h h2
            simp only [normal,Option.some.injEq,Prod.mk.injEq] at h
            obtain ⟨rfl,rfl⟩:=h
            cases hod : o.dst with
            | none=>rw [hod] at h2; simp [mDst] at h2
            | some d' =>
              rw [hod] at h2
              simp only [mDst,Bool.and_eq_true,beq_iff_eq,decide_eq_true_eq] at h2
              obtain ⟨rfl,hN⟩:=h2
              exact hg.normal rfl g W _ L (put_defers a _ _) (Ext.refl g W) (hi.put d hN .undef undef rfl)
        · cases h
      · cases h1
theorem aoper_wp (hi : Inv g W a N L st) (hB : Base W0 g W) {rec : Rec} (hrec : RecSound P W0 rec) {ops : Array Oper} (o : Oper) {ao : AOper} (hm : mOper P N ops ao o = true) {x : AEx} {st' : St}
    (h : aoper rec st ao = some (x,st')) {next : Act→World→Prop} {Q : Exit→Act→World→Prop} (hg : Goes W0 g W N a.defers x st' next Q) :
    if Region.wanted o (yielded ops a.tmps) then o.wp P a W next Q∨(o.asks P a W∧LetsOut Q) else next (a.put o.dst undef) W:=by
  have h0:=aoper_wp0 hi hB hrec (ops:=ops) o hm h hg
  split
  · rename_i hw; rw [if_pos hw] at h0; exact .inl h0
  · rename_i hw; rw [if_neg hw] at h0; exact h0
def aopsI (rec : Rec) (aos : List AOper) : List Nat→St→Option (AEx×St)
  | [],st=>normal st
  | i :: is, st => match aos[i]? with
    | some o => match aoper rec st o with
      | some (.normal,st')=>aopsI rec aos is st'
      | r=>r
    | none=>none
def mOpers (P : Program) (N : Nat) (ops : Array Oper) : List AOper→List Oper→Bool
  | [],[]=>true
  | ao :: aos,o :: os=>mOper P N ops ao o && mOpers P N ops aos os
  | _,_=>false
theorem mOpers_get {ops : Array Oper} : ∀ {aos : List AOper} {os : List Oper},mOpers P N ops aos os = true→∀ (i : Nat) {ao : AOper},aos[i]? = some ao→∃ o,os[i]? = some o∧mOper P N ops ao o = true
  | [],[],_,i,ao,h=>by simp at h
  | [],_ :: _,hm,_,_,_=>by simp [mOpers] at hm
  | _ :: _,[],hm,_,_,_=>by simp [mOpers] at hm
  | a0 :: aos, o0 :: os, hm, i, ao, h => by
    simp only [mOpers,Bool.and_eq_true] at hm
    cases i with
    | zero =>
      obtain rfl : a0 = ao:=by simpa using h
      exact ⟨o0,rfl,hm.1⟩
    | succ i=>exact mOpers_get hm.2 i (by simpa using h)
theorem mOpers_length {ops : Array Oper} : ∀ {aos : List AOper} {os : List Oper},mOpers P N ops aos os = true→aos.length = os.length
  | [],[],_=>rfl
  | [],_ :: _,hm=>by simp [mOpers] at hm
  | _ :: _,[],hm=>by simp [mOpers] at hm
  | _ :: _,_ :: _,hm=>by simp only [mOpers,Bool.and_eq_true] at hm; simp [mOpers_length hm.2]
theorem opsI_wp {rec : Rec} (hrec : RecSound P W0 rec) {ops : Array Oper} {aos : List AOper} (hm : mOpers P N ops aos ops.toList = true) {Q : Exit→Act→World→Prop} :
    ∀ (is : List Nat) {g : Gh} {W : World} {a : Act} {L : Nat→Nat} {st : St} (hi : Inv g W a N L st) (hB : Base W0 g W) {x : AEx} {st' : St} (h : aopsI rec aos is st = some (x,st'))
      (hg : Goes W0 g W N a.defers x st' (Q .normal) Q),wpOps P ops Q is a W
  | [], g, W, a, L, st, hi, hB, x, st', h, hg => by
    simp only [aopsI,normal,Option.some.injEq,Prod.mk.injEq] at h
    obtain ⟨rfl,rfl⟩:=h
    exact hg.normal rfl g W a L rfl (Ext.refl g W) hi
  | i :: is, g, W, a, L, st, hi, hB, x, st', h, hg => by
    simp only [aopsI] at h
    split at h
    · rename_i ao hao
      obtain ⟨o,ho,hmo⟩:=mOpers_get hm i hao
      have ho' : ops[i]? = some o:=by simpa using ho
      simp only [wpOps,ho']
      split at h
      · rename_i st1 h1
        refine aoper_wp hi hB hrec o hmo h1 ⟨fun _ g' W' a' L' hdf hE hi'=>?_,fun v hv=>by cases hv⟩
        refine opsI_wp hrec hm is hi' (hB.ext' hE) h ⟨fun hx g2 W2 a2 L2 hd2 hE2 hi2=>?_,fun v hx g2 W2 a2 L2 u hd2 hE2 hi2 hu=>?_⟩
        · exact hg.normal hx g2 W2 a2 L2 (hd2.trans hdf) (hE.trans hE2) hi2
        · exact hg.panic v hx g2 W2 a2 L2 u (hd2.trans hdf) (hE.trans hE2) hi2 hu
      · rename_i hne
        refine aoper_wp hi hB hrec o hmo h ⟨fun hx=>?_,hg.panic⟩
        subst hx
        exact absurd h (by intro e; exact hne _ e)
    · cases h
end
end Go.Av
set_option linter.unusedVariables false
set_option linter.unusedSimpArgs false
set_option linter.unusedSectionVars false
namespace Go.Av
open Go
def Opd.rd : Opd→List Nat
  | .s k=>[k]
  | .c _=>[]
def optOpd : Option Opd→List Opd
  | some x=>[x]
  | none=>[]
def AOp.opds : AOp→List Opd
  | .mov _ x _ | .box _ _ x _ | .load _ _ _ x | .take _ x | .un _ _ x | .convI _ _ x | .convS _ x | .convB _ x | .extract _ x _ | .field _ _ _ _ x | .faddr _ _ x | .nilchk _ x | .mkif _ _ x | .tassert _ _ _ _ x | .len _ _ x
  | .eqnil _ _ _ x | .panic x=>[x]
  | .nils .. | .alloc .. | .makeMap ..=>[]
  | .lookup _ _ _ _ x k=>[x,k]
  | .mapUpd _ x k v=>[x,k,v]
  | .pick _ c a b=>[c,a,b]
  | .store x y _ _ _ | .bin _ _ x y | .eqb _ _ x y | .iaddrA _ _ _ x y | .iaddrS _ _ x y | .idxS _ x y | .idxA _ _ _ _ x y | .mm _ _ x y | .append _ _ _ _ x y | .make _ _ _ _ _ x y | .makeL _ _ _ _ _ x y | .cloneL _ _ _ _ _ x y | .eqagg _ _ _ x y=>[x,y]
  | .mkfn _ _ f c=>f++c
  | .slice _ _ x lo hi | .sliceS _ x lo hi | .sliceA _ _ _ _ x lo hi=>x :: (optOpd lo++optOpd hi)
  | .build _ _ ps=>ps.map fun p=>p.2.2
  | .bslice _ _ _ xs=>xs
  | .call _ _ xs=>xs
  | .callv _ c xs=>c :: xs
def AOp.rd (o : AOp) : List Nat:=o.opds.flatMap Opd.rd
def AOper.rd (o : AOper) : List Nat:=(match o.gd with | some (k,_)=>[k] | none=>[])++o.op.rd
def AOp.used : AOp→List Nat
  | .mov _ x true=>x.rd
  | .store _ y _ true _=>y.rd
  | .append _ _ _ _ x _=>x.rd
  | .cloneL _ _ _ _ _ x _=>x.rd
  | _=>[]
def AOp.wr (o : AOp) : List Nat:=o.dst.toList++o.used
inductive Mem where
  | no
  | rd (m : Option Nat)
  | wr (m : Option Nat)
  | new (d : Nat)
  | call
  | rdS
  | lc
  | bad
  deriving DecidableEq
def AOper.mem (o : AOper) : Mem :=
  match o.op with
  | .load ..=>if o.blk = some 77777 then .rdS else .rd o.blk
  | .take .. | .store ..=>if o.blk = some 77777 then .lc else .wr o.blk
  | .box d sh _ _ | .alloc d sh _ _=>if sh then .wr none else .new d
  | .makeL d ..=>.new d
  | .cloneL d ..=>.new d
  | .makeMap .. | .mapUpd ..=>.wr none
  | .lookup ..=>.rd none
  | .call .. | .callv ..=>if o.blk = some 55555 then .no else if o.blk = some 66666∨o.blk = some 66667 then .lc else .call
  | .panic _=>.bad
  | _=>.no
def ob (st : St) (k : Nat) : SV×Option Nat:=(st.σ.get k,rightOf st.own k)
theorem rightOf_filter (l : List (Nat×Nat)) (d k : Nat) : rightOf (l.filter fun p=>p.1 != d) k = if d = k then none else rightOf l k:=by
  induction l with
  | nil=>simp [rightOf]
  | cons p r ih =>
    obtain ⟨j,e⟩:=p
    simp only [List.filter_cons]
    by_cases h : j = d
    · subst h
      simp only [bne_self_eq_false,Bool.false_eq_true,if_false,ih,rightOf]
      split
      · rfl
      · rfl
    · have : (j != d) = true := by simpa using h
      simp only [this,if_true,rightOf,ih]
      by_cases h2 : j = k
      · subst h2
        have h3 : ¬ d = j:=fun e=>h e.symm
        simp [h3]
      · simp [h2]
theorem ob_put (st : St) (d k : Nat) (s : SV) : ob (st.put d s) k = if d = k then (s,none) else ob st k:=by
  simp only [ob,St.put,St.drop,Slots.get_set,rightOf_filter]
  split <;> rfl
theorem ob_right (st : St) (d e k : Nat) : ob (st.right d e) k = if d = k then ((ob st k).1,some e) else ob st k:=by
  simp only [ob,St.right,rightOf]
  split <;> rfl
theorem ob_drop (st : St) (d k : Nat) : ob { st with own:=st.drop d } k = if d = k then ((ob st k).1,none) else ob st k:=by
  simp only [ob,St.drop,rightOf_filter]
  split <;> rfl
structure Agree (o : AOper) (st st' : St) : Prop where
  sl : ∀ k,k ∈ o.rd∨k ∈ o.op.wr→ob st k = ob st' k
  lc : ∀ x d off,o.op.addr = some x→st.sv x = .l d off→(∀ m,o.blk = some m→m = d)→o.mem≠.rdS→st.loc.get d = st'.loc.get d
  S : (o.mem = .rd none∨o.mem = .wr none∨o.mem = .call∨o.mem = .rdS∨o.mem = .lc)→st.S = st'.S
def AOper.may (o : AOper) (d : Nat) : Prop :=
  match o.mem with
  | .wr none=>True
  | .wr (some m)=>m = d
  | .new m=>m = d
  | _=>False
def AOper.chS (o : AOper) : Prop:=o.mem = .wr none∨o.mem = .lc
structure Fr (o : AOper) (st st1 : St) : Prop where
  sl : ∀ k,k ∉ o.op.wr→ob st1 k = ob st k
  lc : ∀ d,¬ o.may d→st1.loc.get d = st.loc.get d
  S : ¬ o.chS→st1.S = st.S
def NoL (st : St) (d : Nat) : Prop:=∀ k,(st.σ.get k).aims d = false
structure LocalTo (o : AOper) (st st' st1 st1' : St) : Prop where
  fr : Fr o st st1
  fr' : Fr o st' st1'
  sl : ∀ k,k ∈ o.op.wr→ob st1 k = ob st1' k
  lc : ∀ d,st1.loc.get d = st1'.loc.get d∨(st1.loc.get d = st.loc.get d∧st1'.loc.get d = st'.loc.get d)
  S : st1.S = st1'.S∨(st1.S = st.S∧st1'.S = st'.S)
  nol : ∀ d,NoL st d→o.mem≠.new d→NoL st1 d
section
variable {st st' : St}
theorem sv_same {x : Opd} (h : ∀ k,k ∈ x.rd→st.σ.get k = st'.σ.get k) : st.sv x = st'.sv x:=by
  cases x with
  | s k=>exact h k (by simp [Opd.rd])
  | c a=>rfl
theorem avs_same : ∀ {xs : List Opd},(∀ x,x ∈ xs→st.sv x = st'.sv x)→st.avs xs = st'.avs xs
  | [],_=>rfl
  | x :: xs, h => by
    simp only [St.avs,St.av,h x (.head _)]
    rw [avs_same (xs:=xs) fun y hy=>h y (.tail _ hy)]
theorem abuild_same : ∀ {ps : List (Nat×Nat×Opd)} {z : List AV},(∀ x,x ∈ ps.map (fun p=>p.2.2)→st.sv x = st'.sv x)→abuild st z ps = abuild st' z ps
  | [],_,_=>rfl
  | (off, n, x) :: ps, z, h => by
    simp only [abuild,St.av,h x (by simp)]
    split
    · split
      · exact abuild_same fun y hy=>h y (by simp at hy ⊢; exact .inr hy)
      · rfl
    · rfl
theorem bound_same {o : Option Opd} {n : Nat} (h : ∀ x,x ∈ optOpd o→st.sv x = st'.sv x) : boundOf st n o = boundOf st' n o:=by
  cases o with
  | none=>rfl
  | some x=>simp only [boundOf,St.av,h x (by simp [optOpd])]
theorem cells_same {s : SV} (h : ∀ d off,s = .l d off→st.loc.get d = st'.loc.get d) (hS : st.S = st'.S) : st.cellsAt s = st'.cellsAt s:=by
  unfold St.cellsAt
  split
  · rfl
  · rename_i d off; rw [h d off rfl]
  · simp only [St.cellBox,hS]
  · rfl
theorem apure_same {o : AOp} (h : ∀ x,x ∈ o.opds→st.sv x = st'.sv x) (hc : ∀ x,o.addr = some x→st.cellsAt (st.sv x) = st'.cellsAt (st.sv x)) : apure st o = apure st' o:=by
  cases o
  case load d n ag x =>
    have hx:=h x (by simp [AOp.opds])
    simp only [apure,← hx]
    rw [hc x rfl]
  case mkfn d fn f c =>
    simp only [apure]
    rw [avs_same (xs:=f) fun x hx=>h x (by simp [AOp.opds,hx]),avs_same (xs:=c) fun x hx=>h x (by simp [AOp.opds,hx])]
  case build d z ps =>
    simp only [apure]
    rw [abuild_same fun x hx=>h x (by simpa [AOp.opds] using hx)]
  case slice d sz x lo hi =>
    have hx:=h x (by simp [AOp.opds])
    simp only [apure,St.av,hx]
    split
    · rw [bound_same (o:=lo) fun x hx=>h x (by simp [AOp.opds,hx]),bound_same (o:=hi) fun x hx=>h x (by simp [AOp.opds,hx])]
    · rfl
  case sliceS d x lo hi =>
    have hx:=h x (by simp [AOp.opds])
    simp only [apure,St.av,hx]
    split
    · rw [bound_same (o:=lo) fun x hx=>h x (by simp [AOp.opds,hx]),bound_same (o:=hi) fun x hx=>h x (by simp [AOp.opds,hx])]
    · rfl
  case sliceA d len sz ag x lo hi =>
    have hx:=h x (by simp [AOp.opds])
    simp only [apure,St.av,hx]
    split
    · rw [bound_same (o:=lo) fun x hx=>h x (by simp [AOp.opds,hx]),bound_same (o:=hi) fun x hx=>h x (by simp [AOp.opds,hx])]
    · rfl
  all_goals simp [AOp.opds,apure,St.av] at h ⊢
  all_goals simp [h]
def AOp.isPure : AOp→Bool
  | .mov .. | .nils .. | .box .. | .alloc .. | .take .. | .store .. | .bslice .. | .append .. | .make .. | .makeL .. | .cloneL .. | .makeMap .. | .lookup .. | .mapUpd .. | .call .. | .callv .. | .panic _=>false
  | _=>true
theorem aop_pure {rec : Rec} {o : AOp} (h : o.isPure = true) : aop rec st o = match apure st o,o.dst with | some s,some d=>normal (st.put d s) | _,_=>none:=by
  cases o <;> first | rfl | (simp [AOp.isPure] at h)
theorem apure_nol {o : AOp} {s : SV} {d : Nat} (h : apure st o = some s) (hn : NoL st d) : s.aims d = false:=by
  have hsv : ∀ x,(st.sv x).aims d = false:=by
    intro x
    cases x with
    | s k=>exact hn k
    | c a=>rfl
  have hl : ∀ x d' off,st.sv x = .l d' off→(d' == d) = false:=fun x d' off e=>by
    have:=hsv x; rw [e] at this; exact this
  have hls : ∀ x d' sz ag n,st.sv x = .ls d' sz ag n→(d' == d) = false:=fun x d' sz ag n e=>by
    have:=hsv x; rw [e] at this; exact this
  cases o <;> simp only [apure] at h
  all_goals (repeat' split at h)
  all_goals first
    | (cases h; done)
    | (simp at h; done)
    | (obtain rfl:=Option.some.inj h; rfl)
    | (simp only [Option.map_eq_some_iff] at h; obtain ⟨_,_,rfl⟩:=h; rfl)
    | (simp only [Option.map_eq_some_iff] at h; obtain ⟨_,_,rfl⟩:=h; split <;> rfl)
    | (obtain rfl:=Option.some.inj h; exact hl _ _ _ (by assumption))
    | (obtain rfl:=Option.some.inj h; exact hls _ _ _ _ _ (by assumption))
    | (obtain rfl:=Option.some.inj h; exact hsv _)
    | (obtain rfl:=Option.some.inj h; split <;> exact hsv _)
end
section
variable {st st' st1 : St}
theorem nol_put {d k : Nat} {s : SV} (h : NoL st d) (hs : s.aims d = false) : NoL (st.put k s) d:=by
  intro j
  simp only [St.put,Slots.get_set]
  split
  · exact hs
  · exact h j
theorem nol_own {d : Nat} {own : List (Nat×Nat)} (h : NoL st d) : NoL { st with own:=own } d:=h
theorem nol_sv {d : Nat} (h : NoL st d) (x : Opd) : (st.sv x).aims d = false:=by
  cases x with
  | s k=>exact h k
  | c a=>rfl
theorem aims_kill {d : Nat} {s : SV} (h : s.aims d = false) : s.kill d = s:=by
  cases s with
  | l d' off =>
    have : d'≠d:=by simpa [SV.aims] using h
    simp [SV.kill,this]
  | ls d' sz ag n =>
    have : d'≠d:=by simpa [SV.aims] using h
    simp [SV.kill,this]
  | _=>rfl
theorem kill_nol {d : Nat} (h : NoL st d) (k : Nat) : (st.σ.kill d).get k = st.σ.get k:=by
  rw [Slots.get_kill,aims_kill (h k)]
theorem Agree.opd {o : AOper} (h : Agree o st st') {x : Opd} (hx : x ∈ o.op.opds) : st.sv x = st'.sv x:=by
  refine sv_same fun k hk=>?_
  have:=h.sl k (.inl (by simp only [AOper.rd,List.mem_append,AOp.rd,List.mem_flatMap]; exact .inr ⟨x,hx,hk⟩))
  simp only [ob,Prod.mk.injEq] at this
  exact this.1
theorem Agree.rt {o : AOper} (h : Agree o st st') {x : Opd} (hx : x ∈ o.op.opds) {k : Nat} (hk : k ∈ x.rd) : rightOf st.own k = rightOf st'.own k:=by
  have:=h.sl k (.inl (by simp only [AOper.rd,List.mem_append,AOp.rd,List.mem_flatMap]; exact .inr ⟨x,hx,hk⟩))
  simp only [ob,Prod.mk.injEq] at this
  exact this.2
theorem Agree.wr {o : AOper} (h : Agree o st st') {k : Nat} (hk : k ∈ o.op.wr) : ob st k = ob st' k:=h.sl k (.inr hk)
theorem put_local {o : AOper} (h : Agree o st st') {d : Nat} (hd : o.op.dst = some d) (hu : o.op.used = []) {s : SV} (hs : ∀ d',NoL st d'→o.mem≠.new d'→s.aims d' = false) :
    LocalTo o st st' (st.put d s) (st'.put d s):=by
  have hw : o.op.wr = [d]:=by simp [AOp.wr,hd,hu]
  refine ⟨⟨fun k hk=>?_,fun _ _=>rfl,fun _=>rfl⟩,⟨fun k hk=>?_,fun _ _=>rfl,fun _=>rfl⟩,fun k hk=>?_,fun d'=>.inr ⟨rfl,rfl⟩,.inr ⟨rfl,rfl⟩,fun d' h1 h2=>nol_put h1 (hs d' h1 h2)⟩
  · rw [hw] at hk; simp at hk; rw [ob_put,if_neg (fun e=>hk e.symm)]
  · rw [hw] at hk; simp at hk; rw [ob_put,if_neg (fun e=>hk e.symm)]
  · rw [hw] at hk; simp at hk; subst hk; rw [ob_put,ob_put,if_pos rfl,if_pos rfl]
theorem putR_local {o : AOper} (h : Agree o st st') {d e : Nat} (hd : o.op.dst = some d) (hu : o.op.used = []) {s : SV} (hs : ∀ d',NoL st d'→o.mem≠.new d'→s.aims d' = false) :
    LocalTo o st st' ((st.put d s).right d e) ((st'.put d s).right d e):=by
  obtain ⟨h1,h2,h3,h4,h5,h6⟩:=put_local h hd hu hs
  have hw : o.op.wr = [d]:=by simp [AOp.wr,hd,hu]
  refine ⟨⟨fun k hk=>?_,h1.lc,h1.S⟩,⟨fun k hk=>?_,h2.lc,h2.S⟩,fun k hk=>?_,h4,h5,h6⟩
  · rw [ob_right,if_neg (fun e=>hk (by rw [hw,e]; simp)),h1.sl k hk]
  · rw [ob_right,if_neg (fun e=>hk (by rw [hw,e]; simp)),h2.sl k hk]
  · rw [ob_right,ob_right,h3 k hk]
theorem put_local' {o : AOper} {d k0 : Nat} (hw : ∀ k,k ∈ o.op.wr↔k = d∨k = k0) {s : SV} (hs : ∀ d',NoL st d'→o.mem≠.new d'→s.aims d' = false) (hk0 : st.σ.get k0 = st'.σ.get k0) :
    LocalTo o st st' (St.put { st with own:=st.drop k0 } d s) (St.put { st' with own:=st'.drop k0 } d s):=by
  refine ⟨⟨fun k hk=>?_,fun _ _=>rfl,fun _=>rfl⟩,⟨fun k hk=>?_,fun _ _=>rfl,fun _=>rfl⟩,fun k hk=>?_,fun d'=>.inr ⟨rfl,rfl⟩,.inr ⟨rfl,rfl⟩,fun d' h1 h2=>nol_put (nol_own h1) (hs d' h1 h2)⟩
  · rw [hw] at hk; rw [ob_put,if_neg (fun e=>hk (.inl e.symm)),ob_drop,if_neg (fun e=>hk (.inr e.symm))]
  · rw [hw] at hk; rw [ob_put,if_neg (fun e=>hk (.inl e.symm)),ob_drop,if_neg (fun e=>hk (.inr e.symm))]
  · rw [hw] at hk
    rw [ob_put,ob_put,ob_drop,ob_drop]
    rcases hk with rfl | rfl
    · simp
    · split
      · rfl
      · simp [ob,hk0]
theorem right_local {o : AOper} {d e : Nat} (hd : d ∈ o.op.wr) {x x' y y' : St} (h : LocalTo o x x' y y') : LocalTo o x x' (y.right d e) (y'.right d e):=by
  obtain ⟨h1,h2,h3,h4,h5,h6⟩:=h
  refine ⟨⟨fun k hk=>?_,h1.lc,h1.S⟩,⟨fun k hk=>?_,h2.lc,h2.S⟩,fun k hk=>?_,h4,h5,h6⟩
  · rw [ob_right,if_neg (fun e=>hk (by rw [← e]; exact hd)),h1.sl k hk]
  · rw [ob_right,if_neg (fun e=>hk (by rw [← e]; exact hd)),h2.sl k hk]
  · rw [ob_right,ob_right,h3 k hk]
structure Mem1 (o : AOper) (st st' st1 st1' : St) : Prop where
  σ : st1.σ = st.σ
  σ' : st1'.σ = st'.σ
  own : st1.own = st.own
  own' : st1'.own = st'.own
  fr : ∀ d,¬ o.may d→st1.loc.get d = st.loc.get d
  fr' : ∀ d,¬ o.may d→st1'.loc.get d = st'.loc.get d
  frS : ¬ o.chS→st1.S = st.S
  frS' : ¬ o.chS→st1'.S = st'.S
  lc : ∀ d,st1.loc.get d = st1'.loc.get d∨(st1.loc.get d = st.loc.get d∧st1'.loc.get d = st'.loc.get d)
  S : st1.S = st1'.S∨(st1.S = st.S∧st1'.S = st'.S)
theorem mem1_loc {o : AOper} {d : Nat} (hd : o.may d) (bx : Bx) : Mem1 o st st' { st with loc:=st.loc.set d bx } { st' with loc:=st'.loc.set d bx }:=by
  refine ⟨rfl,rfl,rfl,rfl,fun d' hd'=>?_,fun d' hd'=>?_,fun _=>rfl,fun _=>rfl,fun d'=>?_,.inr ⟨rfl,rfl⟩⟩
  · have : ¬ d = d' := fun e => hd' (e ▸ hd)
    simp [Locs.get_set,this]
  · have : ¬ d = d' := fun e => hd' (e ▸ hd)
    simp [Locs.get_set,this]
  · by_cases e : d = d'
    · subst e; left; simp [Locs.get_set]
    · right; simp [Locs.get_set,e]
theorem mem1_S {o : AOper} (ho : o.chS) (S : List Bx) : Mem1 o st st' { st with S:=S } { st' with S:=S } :=
  ⟨rfl,rfl,rfl,rfl,fun _ _=>rfl,fun _ _=>rfl,fun h=>absurd ho h,fun h=>absurd ho h,fun _=>.inr ⟨rfl,rfl⟩,.inl rfl⟩
theorem astore_local {o : AOper} {x : SV} {new : List AV} {e : Option Nat} {nl : List (Nat×Nat)} (hb : ∀ d off,x = .l d off→o.may d)
    (hl : ∀ d off,x = .l d off→st.loc.get d = st'.loc.get d) (hS : ∀ i off,x = .v (.ptr i off)→o.chS∧st.S = st'.S) (h : astore st x new e nl = some st1) :
    ∃ st1',astore st' x new e nl = some st1'∧Mem1 o st st' st1 st1':=by
  unfold astore at h ⊢
  dsimp only at h ⊢
  split at h
  · rename_i d off
    have he:=hl d off rfl
    rw [← he]
    split at h
    · rename_i bx hbx
      simp only [Option.map_eq_some_iff] at h
      obtain ⟨bx',h1,rfl⟩:=h
      have hmd : o.may d:=hb d off rfl
      exact ⟨_,by rw [h1]; rfl,mem1_loc hmd bx'⟩
    · cases h
  · rename_i i off
    obtain ⟨hmn,he⟩:=hS i off rfl
    have he' : st.cellBox i = st'.cellBox i:=by unfold St.cellBox; rw [he]
    rw [← he',← he]
    split at h
    · rename_i bx hbx
      simp only [Option.map_eq_some_iff] at h
      obtain ⟨bx',h1,rfl⟩:=h
      refine ⟨{ st' with S:=st.S.set i bx' },by rw [h1]; simp,mem1_S hmn _⟩
    · cases h
  · cases h
theorem mem1_local {o : AOper} {st1' : St} (h : Agree o st st') (m : Mem1 o st st' st1 st1') : LocalTo o st st' st1 st1':=by
  have q : ∀ k,ob st1 k = ob st k:=fun k=>by simp [ob,m.σ,m.own]
  have q' : ∀ k,ob st1' k = ob st' k:=fun k=>by simp [ob,m.σ',m.own']
  refine ⟨⟨fun k _=>q k,m.fr,m.frS⟩,⟨fun k _=>q' k,m.fr',m.frS'⟩,fun k hk=>by rw [q,q',h.wr hk],m.lc,m.S,fun d hd _ k=>by rw [m.σ]; exact hd k⟩
theorem mem1_drop {o : AOper} {k0 : Nat} (hk0 : k0 ∈ o.op.wr) {st1' : St} (h : Agree o st st') (m : Mem1 o { st with own:=st.drop k0 } { st' with own:=st'.drop k0 } st1 st1') : LocalTo o st st' st1 st1':=by
  have q : ∀ k,ob st1 k = ob { st with own:=st.drop k0 } k:=fun k=>by simp [ob,m.σ,m.own]
  have q' : ∀ k,ob st1' k = ob { st' with own:=st'.drop k0 } k:=fun k=>by simp [ob,m.σ',m.own']
  refine ⟨⟨fun k hk=>?_,m.fr,m.frS⟩,⟨fun k hk=>?_,m.fr',m.frS'⟩,fun k hk=>?_,m.lc,m.S,fun d hd _ k=>by rw [m.σ]; exact hd k⟩
  · rw [q,ob_drop,if_neg (by intro e; exact hk (e ▸ hk0))]
  · rw [q',ob_drop,if_neg (by intro e; exact hk (e ▸ hk0))]
  · rw [q,q',ob_drop,ob_drop,h.wr hk]
theorem mem1_put {o : AOper} {d : Nat} (hw : o.op.wr = [d]) {st1' : St} {s : SV} (hs : ∀ d',NoL st d'→o.mem≠.new d'→s.aims d' = false) (m : Mem1 o st st' st1 st1') : LocalTo o st st' (st1.put d s) (st1'.put d s):=by
  have q : ∀ k,ob st1 k = ob st k:=fun k=>by simp [ob,m.σ,m.own]
  have q' : ∀ k,ob st1' k = ob st' k:=fun k=>by simp [ob,m.σ',m.own']
  refine ⟨⟨fun k hk=>?_,m.fr,m.frS⟩,⟨fun k hk=>?_,m.fr',m.frS'⟩,fun k hk=>?_,m.lc,m.S,fun d' hd hn=>nol_put (fun k=>by rw [m.σ]; exact hd k) (hs d' hd hn)⟩
  · rw [hw] at hk; simp at hk; rw [ob_put,if_neg (fun e=>hk e.symm),q]
  · rw [hw] at hk; simp at hk; rw [ob_put,if_neg (fun e=>hk e.symm),q']
  · rw [hw] at hk; simp at hk; subst hk; rw [ob_put,ob_put,if_pos rfl,if_pos rfl]
end
end Go.Av
set_option linter.unusedVariables false
set_option linter.unusedSimpArgs false
set_option linter.unusedSectionVars false
namespace Go.Av
open Go
section
variable {st st' st1 : St}
theorem quiet_some {rec : Rec} {f : Nat} {as : List AV} {S S' : List Bx} {e : AEnd} (h : rec.quiet f as S = some (e,S')) : S' = S∧∃ r own,e = .ret r own:=by
  unfold Rec.quiet at h
  split at h
  · split at h
    · rename_i hS
      simp only [Option.some.injEq,Prod.mk.injEq] at h
      exact ⟨h.2 ▸ hS,_,_,h.1.symm⟩
    · cases h
  · cases h
theorem rdS_blk {o : AOper} (h : o.mem = .rdS) : o.blk = some 77777:=by
  unfold AOper.mem at h
  split at h <;> first
    | (split at h <;> first | assumption | cases h)
    | (split at h <;> first | cases h | (split at h <;> cases h))
    | cases h
theorem mem1_refl {o : AOper} (st st' : St) : Mem1 o st st' st st':=⟨rfl,rfl,rfl,rfl,fun _ _=>rfl,fun _ _=>rfl,fun _=>rfl,fun _=>rfl,fun _=>.inr ⟨rfl,rfl⟩,.inr ⟨rfl,rfl⟩⟩
theorem local_S {o : AOper} {y y' : St} (h : LocalTo o st st' y y') (S2 S2' : List Bx) (hS : (S2 = S2'∧o.chS)∨(S2 = st.S∧S2' = st'.S)) : LocalTo o st st' { y with S:=S2 } { y' with S:=S2' }:=by
  refine ⟨⟨h.fr.sl,h.fr.lc,fun hc=>?_⟩,⟨h.fr'.sl,h.fr'.lc,fun hc=>?_⟩,h.sl,h.lc,?_,h.nol⟩
  · rcases hS with ⟨_, h1⟩ | ⟨h1, _⟩
    · exact absurd h1 hc
    · exact h1
  · rcases hS with ⟨_, h1⟩ | ⟨_, h1⟩
    · exact absurd h1 hc
    · exact h1
  · rcases hS with ⟨h1, _⟩ | ⟨h1, h2⟩
    · exact .inl h1
    · exact .inr ⟨h1,h2⟩
theorem finish_local {o : AOper} (h : Agree o st st') {d : Option Nat} (hd : o.op.dst = d) (hu : o.op.used = []) {r : AV} {own : Option Nat} {S2 S2' : List Bx} (hS : (S2 = S2'∧o.chS)∨(S2 = st.S∧S2' = st'.S)) {x : AEx}
    (hx : afinish d st (.ret r own) S2 = some (x,st1)) : x = .normal∧∃ st1',afinish d st' (.ret r own) S2' = some (.normal,st1')∧LocalTo o st st' st1 st1':=by
  unfold afinish at hx ⊢
  cases d with
  | none =>
    simp only [normal,Option.some.injEq,Prod.mk.injEq] at hx
    obtain ⟨rfl,rfl⟩:=hx
    exact ⟨rfl,_,rfl,local_S (mem1_local h (mem1_refl st st')) S2 S2' hS⟩
  | some d =>
    cases own with
    | none =>
      simp only [normal,Option.some.injEq,Prod.mk.injEq] at hx
      obtain ⟨rfl,rfl⟩:=hx
      exact ⟨rfl,_,rfl,local_S (put_local h hd hu (s:=.v r) fun _ _ _=>rfl) S2 S2' hS⟩
    | some te =>
      simp only [normal,Option.some.injEq,Prod.mk.injEq] at hx
      obtain ⟨rfl,rfl⟩:=hx
      exact ⟨rfl,_,rfl,local_S (putR_local h hd hu (s:=.v r) (e:=te) fun _ _ _=>rfl) S2 S2' hS⟩
def Quiet (R : Rec) : Prop:=∀ f as S r S',R f as S = some (r,S')→S' = S∧∃ a own,r = .ret a own
theorem quiet_rec (rec : Rec) : Quiet rec.quiet:=fun f as S r S' h=>quiet_some h
def LocEnd (R : Rec) (f : St→AOper→Option (AEx×St)) (o : AOper) (st st' : St) (x : AEx) (st1 : St) : Prop :=
  (x = .normal∧∃ st1',f st' o = some (.normal,st1')∧LocalTo o st st' st1 st1') ∨
  (∃ v,x = .panic v∧o.blk = some 66666∧o.mem = .lc∧st1 = { st with S:=st1.S }∧f st' o = some (.panic v,{ st' with S:=st1.S }))
theorem blkOk_same {o : AOper} (h : Agree o st st') : blkOk st o = blkOk st' o:=by
  unfold blkOk
  split
  · rename_i m x hm hx
    have : x ∈ o.op.opds:=by
      revert hx
      cases o.op <;> simp [AOp.addr,AOp.opds] <;> intro h <;> simp [h]
    rw [h.opd this]
  · rfl
theorem store_may {o : AOper} (hop : (∃ d y,o.op = .take d y)∨∃ y z n tk nl,o.op = .store y z n tk nl) (h : Agree o st st') (hb : blkOk st o = true) {y : Opd} (hy : o.op.addr = some y) :
    (∀ d off,st.sv y = .l d off→o.may d)∧∀ i off,st.sv y = .v (.ptr i off)→o.chS∧st.S = st'.S:=by
  have hm : o.mem = if o.blk = some 77777 then .lc else .wr o.blk:=by
    unfold AOper.mem
    rcases hop with ⟨d,y,e⟩ | ⟨y,z,n,tk,nl,e⟩ <;> rw [e]
  refine ⟨fun d off hsv=>?_,fun i off hsv=>?_⟩
  · unfold AOper.may
    cases hq : o.blk with
    | none=>rw [hm,hq]; simp
    | some m =>
      rcases blkOk_cases hb hq hy with ⟨off',q,h7⟩ | ⟨cs,q⟩ | ⟨_,i,off',q⟩ <;> rw [hsv] at q
      · simp only [SV.l.injEq] at q
        have : ¬ o.blk = some 77777:=by rw [hq]; simpa using h7
        rw [hm,if_neg this,hq]
        exact q.1.symm
      · cases q
      · cases q
  · cases hq : o.blk with
    | none =>
      have h1 : o.mem = .wr none:=by rw [hm,hq]; simp
      exact ⟨.inl h1,h.S (.inr (.inl h1))⟩
    | some m =>
      rcases blkOk_cases hb hq hy with ⟨off',q,h7⟩ | ⟨cs,q⟩ | ⟨h7,i',off',q⟩
      · rw [hsv] at q; cases q
      · rw [hsv] at q; cases q
      · subst h7
        have h1 : o.mem = .lc:=by rw [hm,hq]; simp
        exact ⟨.inr h1,h.S (.inr (.inr (.inr (.inr h1))))⟩
theorem aopB_local0 {R : Rec} {o : AOper} (hnc : o.op.isCall = false) (h : Agree o st st') (hbad : o.mem≠.bad) (hnew : ∀ d,o.mem = .new d→NoL st d∧NoL st' d) {x : AEx} (hx : aopB R st o = some (x,st1)) :
    x = .normal∧∃ st1',aopB R st' o = some (.normal,st1')∧LocalTo o st st' st1 st1':=by
  unfold aopB at hx ⊢
  simp only [aopM,hnc,Bool.false_eq_true,if_false] at hx ⊢
  have hbo : blkOk st o = blkOk st' o:=by
    unfold blkOk
    split
    · rename_i m x hm hx
      have : x ∈ o.op.opds:=by
        revert hx
        cases o.op <;> simp [AOp.addr,AOp.opds] <;> intro h <;> simp [h]
      rw [h.opd this]
    · rfl
  rw [← hbo]
  split at hx
  rotate_left
  · cases hx
  rename_i hb
  rw [if_pos hb]
  have haddr : ∀ x,o.op.addr = some x→∀ d off,st.sv x = .l d off→st.loc.get d = st'.loc.get d:=by
    intro x hxa d off hsv
    refine h.lc x d off hxa hsv (fun m hm=>?_) (fun hrs=>?_)
    · rcases blkOk_cases hb hm hxa with ⟨off', q, _⟩ | ⟨cs, q⟩ | ⟨_, i, off', q⟩ <;> rw [hsv] at q
      · simp only [SV.l.injEq] at q; exact q.1.symm
      · cases q
      · cases q
    · rcases blkOk_cases hb (rdS_blk hrs) hxa with ⟨off', _, q⟩ | ⟨cs, q⟩ | ⟨_, i, off', q⟩
      · exact q rfl
      · rw [hsv] at q; cases q
      · rw [hsv] at q; cases q
  by_cases hp : o.op.isPure = true
  · rw [aop_pure hp] at hx ⊢
    have hc : ∀ x,o.op.addr = some x→st.cellsAt (st.sv x) = st'.cellsAt (st.sv x):=by
      intro x hxa
      cases hq : o.blk with
      | none =>
        have hmem : o.mem = .rd none:=by
          revert hp hxa
          unfold AOper.mem
          cases o.op <;> simp [AOp.isPure,AOp.addr,hq]
        exact cells_same (fun d off e=>haddr x hxa d off e) (h.S (.inl hmem))
      | some m =>
        rcases blkOk_cases hb hq hxa with ⟨off,hsv,_⟩ | ⟨cs,hsv⟩ | ⟨h7,i,off,hsv⟩
        · rw [hsv]
          simp only [St.cellsAt,haddr x hxa m off hsv]
        · rw [hsv]
          rfl
        · have hmem : o.mem = .rdS:=by
            subst h7
            revert hp hxa
            unfold AOper.mem
            cases o.op <;> simp [AOp.isPure,AOp.addr,hq]
          exact cells_same (fun d off e=>haddr x hxa d off e) (h.S (.inr (.inr (.inr (.inl hmem)))))
    have he:=apure_same (o:=o.op) (fun x hx=>h.opd hx) hc
    rw [← he]
    split at hx
    · rename_i s d hs hd
      simp only [normal,Option.some.injEq,Prod.mk.injEq] at hx
      obtain ⟨rfl,rfl⟩:=hx
      have hu : o.op.used = []:=by
        revert hp
        cases o.op <;> simp [AOp.isPure,AOp.used]
      refine ⟨rfl,_,rfl,put_local h hd hu fun d' hn _=>apure_nol hs hn⟩
    · cases hx
  · obtain ⟨op, gd, blk⟩ := o
    simp only at hx hp haddr hbad hnew ⊢
    have sv : ∀ {x : Opd},x ∈ op.opds→st.sv x = st'.sv x:=fun hx=>h.opd hx
    cases op
    all_goals first
      | (simp [AOp.isPure] at hp; done)
      | skip
    case mov d y tk =>
      have hy:=sv (x:=y) (by simp [AOp.opds])
      cases tk with
      | false =>
        simp only [aop,Bool.false_eq_true,if_false,normal,Option.some.injEq,Prod.mk.injEq] at hx ⊢
        obtain ⟨rfl,rfl⟩:=hx
        rw [← hy]
        exact ⟨rfl,_,⟨trivial,rfl⟩,put_local h rfl rfl fun d' hn _=>nol_sv hn y⟩
      | true =>
        simp only [aop,if_true,normal,Option.some.injEq,Prod.mk.injEq] at hx ⊢
        obtain ⟨rfl,rfl⟩:=hx
        refine ⟨rfl,_,⟨trivial,rfl⟩,?_⟩
        cases y with
        | c a=>exact put_local h rfl rfl fun d' hn _=>rfl
        | s k =>
          have hr:=h.rt (x:=.s k) (by simp [AOp.opds]) (k:=k) (by simp [Opd.rd])
          have hy' : st.σ.get k = st'.σ.get k:=hy
          unfold St.move
          simp only
          rw [← hr,← hy']
          have hw : ∀ j,j ∈ AOp.wr (.mov d (.s k) true)↔j = d∨j = k:=by intro j; simp [AOp.wr,AOp.dst,AOp.used,Opd.rd]
          cases hro : rightOf st.own k with
          | none =>
            simp only
            have hp : LocalTo { op:=.mov d (.s k) true,gd:=gd,blk:=blk } st st' (st.put d (st.σ.get k)) (st'.put d (st.σ.get k)):=by
              refine ⟨⟨fun j hj=>?_,fun _ _=>rfl,fun _=>rfl⟩,⟨fun j hj=>?_,fun _ _=>rfl,fun _=>rfl⟩,fun j hj=>?_,fun _=>.inr ⟨rfl,rfl⟩,.inr ⟨rfl,rfl⟩,fun d' hn _=>nol_put hn (hn k)⟩
              · rw [ob_put,if_neg (by intro e; exact hj ((hw j).2 (.inl e.symm)))]
              · rw [ob_put,if_neg (by intro e; exact hj ((hw j).2 (.inl e.symm)))]
              · rw [ob_put,ob_put,h.wr hj]
            exact hp
          | some e =>
            simp only
            by_cases hkd : k = d
            · rw [if_pos hkd, if_pos hkd]
              exact mem1_local h (mem1_refl st st')
            · rw [if_neg hkd, if_neg hkd]
              exact right_local (by simp [hw]) (put_local' (k0:=k) hw (fun d' hn _=>hn k) hy')
    case nils d sz e =>
      simp only [aop,normal,Option.some.injEq,Prod.mk.injEq] at hx ⊢
      obtain ⟨rfl,rfl⟩:=hx
      exact ⟨rfl,_,⟨trivial,rfl⟩,putR_local h rfl rfl fun d' hn _=>rfl⟩
    case box d sh y nl =>
      have hy:=sv (x:=y) (by simp [AOp.opds])
      cases sh with
      | true =>
        have hm : AOper.mem { op:=.box d true y nl,gd:=gd,blk:=blk } = .wr none:=by simp [AOper.mem]
        have hS:=h.S (.inr (.inl hm))
        simp only [aop,St.av,← hy,← hS] at hx ⊢
        split at hx
        · rename_i a ha
          split at hx
          · rename_i hda
            simp only [if_true,normal,Option.some.injEq,Prod.mk.injEq] at hx
            obtain ⟨rfl,rfl⟩:=hx
            exact ⟨rfl,_,by simp only [if_true,if_pos hda]; rfl,mem1_put rfl (fun _ _ _=>rfl) (mem1_S (.inl hm) _)⟩
          · cases hx
        · cases hx
      | false =>
        have hm : AOper.mem { op:=.box d false y nl,gd:=gd,blk:=blk } = .new d:=by simp [AOper.mem]
        obtain ⟨n1,n2⟩:=hnew d hm
        simp only [aop,St.av,← hy] at hx ⊢
        split at hx
        · rename_i a ha
          split at hx
          · rename_i hda
            simp only [Bool.false_eq_true,if_false,normal,Option.some.injEq,Prod.mk.injEq] at hx
            obtain ⟨rfl,rfl⟩:=hx
            refine ⟨rfl,_,by simp only [Bool.false_eq_true,if_false,if_pos hda]; rfl,?_⟩
            refine ⟨⟨fun k hk=>?_,fun d' hd'=>?_,fun _=>rfl⟩,⟨fun k hk=>?_,fun d' hd'=>?_,fun _=>rfl⟩,fun k hk=>?_,fun d'=>?_,.inr ⟨rfl,rfl⟩,fun d' hn hne=>?_⟩
            · have hk' : ¬ d = k := by intro e; exact hk (by simp [AOp.wr, AOp.dst, AOp.used, e])
              rw [ob_put,if_neg hk']; simp [ob,kill_nol n1]
            · have : ¬ d = d' := by intro e; exact hd' (by unfold AOper.may; rw [hm]; exact e)
              simp [St.put,Locs.get_set,this]
            · have hk' : ¬ d = k := by intro e; exact hk (by simp [AOp.wr, AOp.dst, AOp.used, e])
              rw [ob_put,if_neg hk']; simp [ob,kill_nol n2]
            · have : ¬ d = d' := by intro e; exact hd' (by unfold AOper.may; rw [hm]; exact e)
              simp [St.put,Locs.get_set,this]
            · have hk' : k = d := by simpa [AOp.wr, AOp.dst, AOp.used] using hk
              subst hk'
              rw [ob_put,ob_put,if_pos rfl,if_pos rfl]
            · by_cases e : d = d'
              · left; simp [St.put,Locs.get_set,e]
              · right; simp [St.put,Locs.get_set,e]
            · have hdd : d ≠ d' := by intro e; exact hne (by rw [hm, e])
              exact nol_put (fun k=>by simp only [kill_nol n1]; exact hn k) (by simp only [SV.aims,beq_eq_false_iff_ne]; exact hdd)
          · cases hx
        · cases hx
    case alloc d sh z own =>
      cases sh with
      | true =>
        have hm : AOper.mem { op:=.alloc d true z own,gd:=gd,blk:=blk } = .wr none:=by simp [AOper.mem]
        have hS:=h.S (.inr (.inl hm))
        simp only [aop,← hS,if_true,normal,Option.some.injEq,Prod.mk.injEq] at hx ⊢
        obtain ⟨rfl,rfl⟩:=hx
        exact ⟨rfl,_,⟨trivial,rfl⟩,mem1_put rfl (fun _ _ _=>rfl) (mem1_S (.inl hm) _)⟩
      | false =>
        have hm : AOper.mem { op:=.alloc d false z own,gd:=gd,blk:=blk } = .new d:=by simp [AOper.mem]
        obtain ⟨n1,n2⟩:=hnew d hm
        simp only [aop,Bool.false_eq_true,if_false,normal,Option.some.injEq,Prod.mk.injEq] at hx ⊢
        obtain ⟨rfl,rfl⟩:=hx
        refine ⟨rfl,_,⟨trivial,rfl⟩,?_⟩
        refine ⟨⟨fun k hk=>?_,fun d' hd'=>?_,fun _=>rfl⟩,⟨fun k hk=>?_,fun d' hd'=>?_,fun _=>rfl⟩,fun k hk=>?_,fun d'=>?_,.inr ⟨rfl,rfl⟩,fun d' hn hne=>?_⟩
        · have hk' : ¬ d = k := by intro e; exact hk (by simp [AOp.wr, AOp.dst, AOp.used, e])
          rw [ob_put,if_neg hk']; simp [ob,kill_nol n1]
        · have : ¬ d = d' := by intro e; exact hd' (by unfold AOper.may; rw [hm]; exact e)
          simp [St.put,Locs.get_set,this]
        · have hk' : ¬ d = k := by intro e; exact hk (by simp [AOp.wr, AOp.dst, AOp.used, e])
          rw [ob_put,if_neg hk']; simp [ob,kill_nol n2]
        · have : ¬ d = d' := by intro e; exact hd' (by unfold AOper.may; rw [hm]; exact e)
          simp [St.put,Locs.get_set,this]
        · have hk' : k = d := by simpa [AOp.wr, AOp.dst, AOp.used] using hk
          subst hk'
          rw [ob_put,ob_put,if_pos rfl,if_pos rfl]
        · by_cases e : d = d'
          · left; simp [St.put,Locs.get_set,e]
          · right; simp [St.put,Locs.get_set,e]
        · have hdd : d ≠ d' := by intro e; exact hne (by rw [hm, e])
          exact nol_put (fun k=>by simp only [kill_nol n1]; exact hn k) (by simp only [SV.aims,beq_eq_false_iff_ne]; exact hdd)
    case take d y =>
      have hy:=sv (x:=y) (by simp [AOp.opds])
      have hw : AOp.wr (.take d y) = [d]:=rfl
      obtain ⟨hm1,hm2⟩:=store_may (.inl ⟨d,y,rfl⟩) h hb rfl
      simp only [aop,← hy] at hx ⊢
      split at hx
      · rename_i b off hsv
        have hl:=haddr y rfl b off hsv
        have hmay:=hm1 b off hsv
        rw [← hl]
        split at hx
        · rename_i bx hbx
          split at hx
          · rename_i a e ha he
            simp only [normal,Option.some.injEq,Prod.mk.injEq] at hx
            obtain ⟨rfl,rfl⟩:=hx
            exact ⟨rfl,_,rfl,right_local (by simp [hw]) (mem1_put hw (fun _ _ _=>rfl) (mem1_loc hmay _))⟩
          · rename_i a ha he
            simp only [normal,Option.some.injEq,Prod.mk.injEq] at hx
            obtain ⟨rfl,rfl⟩:=hx
            exact ⟨rfl,_,rfl,put_local h rfl rfl fun _ _ _=>rfl⟩
          · cases hx
        · cases hx
      · rename_i i off hsv
        obtain ⟨hm,hS⟩:=hm2 i off hsv
        have hS' : st.cellBox i = st'.cellBox i:=by simp only [St.cellBox,hS]
        rw [← hS',← hS]
        split at hx
        · rename_i bx hbx
          split at hx
          · rename_i a e ha he
            simp only [normal,Option.some.injEq,Prod.mk.injEq] at hx
            obtain ⟨rfl,rfl⟩:=hx
            exact ⟨rfl,_,rfl,right_local (by simp [hw]) (mem1_put hw (fun _ _ _=>rfl) (mem1_S hm _))⟩
          · rename_i a ha he
            simp only [normal,Option.some.injEq,Prod.mk.injEq] at hx
            obtain ⟨rfl,rfl⟩:=hx
            exact ⟨rfl,_,rfl,put_local h rfl rfl fun _ _ _=>rfl⟩
          · cases hx
        · cases hx
      · cases hx
    case store y z n tk nl =>
      have hy:=sv (x:=y) (by simp [AOp.opds])
      have hz:=sv (x:=z) (by simp [AOp.opds])
      obtain ⟨hbk,hS⟩:=store_may (.inr ⟨y,z,n,tk,nl,rfl⟩) h hb rfl
      have hl:=haddr y rfl
      simp only [aop,St.av,← hz,← hy] at hx ⊢
      split at hx
      · rename_i a ha
        split at hx
        · rename_i hda
          rw [if_pos hda]
          have plain : ∀ {st1 : St} {x : AEx},(astore st (st.sv y) a.cells none nl).bind normal = some (x,st1) →
              x = .normal∧∃ st1',(astore st' (st.sv y) a.cells none nl).bind normal = some (.normal,st1')∧LocalTo { op:=.store y z n tk nl,gd:=gd,blk:=blk } st st' st1 st1':=by
            intro st1 x hx
            cases hs : astore st (st.sv y) a.cells none nl with
            | none=>rw [hs] at hx; cases hx
            | some s1 =>
              rw [hs] at hx
              simp only [Option.bind_some,normal,Option.some.injEq,Prod.mk.injEq] at hx
              obtain ⟨rfl,rfl⟩:=hx
              obtain ⟨s1',q1,q2⟩:=astore_local (o:={ op:=.store y z n tk nl,gd:=gd,blk:=blk }) (st':=st') hbk hl hS hs
              exact ⟨rfl,s1',by rw [q1]; rfl,mem1_local h q2⟩
          cases tk with
          | false=>exact plain hx
          | true =>
            cases z with
            | c c=>exact plain hx
            | s k =>
              have hr:=h.rt (x:=.s k) (by simp [AOp.opds]) (k:=k) (by simp [Opd.rd])
              simp only at hx ⊢
              rw [← hr]
              cases hro : rightOf st.own k with
              | none=>rw [hro] at hx; exact plain hx
              | some e =>
                rw [hro] at hx
                simp only at hx ⊢
                split at hx
                · cases hx
                · rename_i hag
                  rw [if_neg hag]
                  cases hs : astore { st with own:=st.drop k } (st.sv y) a.cells (some e) nl with
                  | none=>rw [hs] at hx; cases hx
                  | some s1 =>
                    rw [hs] at hx
                    simp only [Option.bind_some,normal,Option.some.injEq,Prod.mk.injEq] at hx
                    obtain ⟨rfl,rfl⟩:=hx
                    obtain ⟨s1',q1,q2⟩:=astore_local (o:={ op:=.store y (.s k) n true nl,gd:=gd,blk:=blk }) (st:={ st with own:=st.drop k }) (st':={ st' with own:=st'.drop k }) hbk hl hS hs
                    exact ⟨rfl,s1',by rw [q1]; rfl,mem1_drop (k0:=k) (by simp [AOp.wr,AOp.used,Opd.rd]) h q2⟩
        · cases hx
      · cases hx
    case bslice d sz e xs =>
      simp only [aop] at hx ⊢
      rw [← avs_same (st:=st) (st':=st') (xs:=xs) fun x hx=>sv (by simpa [AOp.opds] using hx)]
      split at hx
      · rename_i as has
        split at hx
        · rename_i hall
          simp only [normal,Option.some.injEq,Prod.mk.injEq] at hx
          obtain ⟨rfl,rfl⟩:=hx
          exact ⟨rfl,_,by rw [if_pos hall]; rfl,putR_local h rfl rfl fun d' hn _=>rfl⟩
        · cases hx
      · cases hx
    case append d sz e bytes y z =>
      have hy:=sv (x:=y) (by simp [AOp.opds])
      have hz:=sv (x:=z) (by simp [AOp.opds])
      simp only [aop,St.av,← hy,← hz] at hx ⊢
      split at hx
      · rename_i k sz1 as sz2 bs h1 h2
        have hr:=h.rt (x:=.s k) (by simp [AOp.opds]) (k:=k) (by simp [Opd.rd])
        rw [← hr]
        split at hx
        · rename_i e' he
          split at hx
          · rename_i hc
            simp only [normal,Option.some.injEq,Prod.mk.injEq] at hx
            obtain ⟨rfl,rfl⟩:=hx
            refine ⟨rfl,_,by rw [if_pos hc]; rfl,?_⟩
            exact right_local (by simp [AOp.wr,AOp.dst]) (put_local' (k0:=k) (by intro j; simp [AOp.wr,AOp.dst,AOp.used,Opd.rd]) (fun d' hn _=>rfl) hy)
          · cases hx
        · cases hx
      · cases hx
    case make d sz e bytes z n c =>
      have hn:=sv (x:=n) (by simp [AOp.opds])
      have hc:=sv (x:=c) (by simp [AOp.opds])
      simp only [aop,St.av,← hn,← hc] at hx ⊢
      split at hx
      · split at hx
        · rename_i hcc
          simp only [normal,Option.some.injEq,Prod.mk.injEq] at hx
          obtain ⟨rfl,rfl⟩:=hx
          exact ⟨rfl,_,by rw [if_pos hcc]; rfl,putR_local h rfl rfl fun d' hn _=>rfl⟩
        · cases hx
      · cases hx
    case makeL d sz bytes ag z n c =>
      have hn':=sv (x:=n) (by simp [AOp.opds])
      have hc:=sv (x:=c) (by simp [AOp.opds])
      have hm : AOper.mem { op:=.makeL d sz bytes ag z n c,gd:=gd,blk:=blk } = .new d:=by simp [AOper.mem]
      obtain ⟨n1,n2⟩:=hnew d hm
      simp only [aop,St.av,← hn',← hc] at hx ⊢
      split at hx
      · split at hx
        · rename_i hcc
          simp only [normal,Option.some.injEq,Prod.mk.injEq] at hx
          obtain ⟨rfl,rfl⟩:=hx
          refine ⟨rfl,_,by rw [if_pos hcc]; rfl,?_⟩
          refine ⟨⟨fun k hk=>?_,fun d' hd'=>?_,fun _=>rfl⟩,⟨fun k hk=>?_,fun d' hd'=>?_,fun _=>rfl⟩,fun k hk=>?_,fun d'=>?_,.inr ⟨rfl,rfl⟩,fun d' hn hne=>?_⟩
          · have hk' : ¬ d = k := by intro e; exact hk (by simp [AOp.wr, AOp.dst, AOp.used, e])
            rw [ob_put,if_neg hk']; simp [ob,kill_nol n1]
          · have : ¬ d = d' := by intro e; exact hd' (by unfold AOper.may; rw [hm]; exact e)
            simp [St.put,Locs.get_set,this]
          · have hk' : ¬ d = k := by intro e; exact hk (by simp [AOp.wr, AOp.dst, AOp.used, e])
            rw [ob_put,if_neg hk']; simp [ob,kill_nol n2]
          · have : ¬ d = d' := by intro e; exact hd' (by unfold AOper.may; rw [hm]; exact e)
            simp [St.put,Locs.get_set,this]
          · have hk' : k = d := by simpa [AOp.wr, AOp.dst, AOp.used] using hk
            subst hk'
            rw [ob_put,ob_put,if_pos rfl,if_pos rfl]
          · by_cases e : d = d'
            · left; simp [St.put,Locs.get_set,e]
            · right; simp [St.put,Locs.get_set,e]
          · have hdd : d ≠ d' := by intro e; exact hne (by rw [hm, e])
            exact nol_put (fun k=>by simp only [kill_nol n1]; exact hn k) (by simp only [SV.aims,beq_eq_false_iff_ne]; exact hdd)
        · cases hx
      · cases hx
    case cloneL d sz e bytes ag y z =>
      have hy:=sv (x:=y) (by simp [AOp.opds])
      have hz:=sv (x:=z) (by simp [AOp.opds])
      have hm : AOper.mem { op:=.cloneL d sz e bytes ag y z,gd:=gd,blk:=blk } = .new d:=by simp [AOper.mem]
      obtain ⟨n1,n2⟩:=hnew d hm
      simp only [aop,St.av,← hy,← hz] at hx ⊢
      split at hx
      · rename_i k0 sz1 as sz2 bs h1 h2
        have hr:=h.rt (x:=.s k0) (by simp [AOp.opds]) (k:=k0) (by simp [Opd.rd])
        rw [← hr]
        split at hx
        · rename_i e' he
          split at hx
          · rename_i hc
            simp only [normal,Option.some.injEq,Prod.mk.injEq] at hx
            obtain ⟨rfl,rfl⟩:=hx
            have hy' : st.σ.get k0 = st'.σ.get k0:=hy
            refine ⟨rfl,_,by rw [if_pos hc]; rfl,?_⟩
            refine ⟨⟨fun k hk=>?_,fun d' hd'=>?_,fun _=>rfl⟩,⟨fun k hk=>?_,fun d' hd'=>?_,fun _=>rfl⟩,fun k hk=>?_,fun d'=>?_,.inr ⟨rfl,rfl⟩,fun d' hn hne=>?_⟩
            · have hk' : ¬ d = k := by intro e; exact hk (by simp [AOp.wr, AOp.dst, AOp.used, e])
              have hk2 : ¬ k0 = k:=by intro e; exact hk (by simp [AOp.wr,AOp.dst,AOp.used,Opd.rd,e])
              rw [ob_put,if_neg hk']; simp [ob,kill_nol n1,St.drop,rightOf_filter,hk2]
            · have : ¬ d = d' := by intro e; exact hd' (by unfold AOper.may; rw [hm]; exact e)
              simp [St.put,Locs.get_set,this]
            · have hk' : ¬ d = k := by intro e; exact hk (by simp [AOp.wr, AOp.dst, AOp.used, e])
              have hk2 : ¬ k0 = k:=by intro e; exact hk (by simp [AOp.wr,AOp.dst,AOp.used,Opd.rd,e])
              rw [ob_put,if_neg hk']; simp [ob,kill_nol n2,St.drop,rightOf_filter,hk2]
            · have : ¬ d = d' := by intro e; exact hd' (by unfold AOper.may; rw [hm]; exact e)
              simp [St.put,Locs.get_set,this]
            · have hk' : k = d ∨ k = k0 := by simpa [AOp.wr, AOp.dst, AOp.used, Opd.rd] using hk
              rw [ob_put,ob_put]
              by_cases e : d = k
              · rw [if_pos e,if_pos e]
              · rw [if_neg e, if_neg e]
                obtain rfl : k = k0:=hk'.resolve_left fun q=>e q.symm
                simp [ob,kill_nol n1,kill_nol n2,St.drop,rightOf_filter,hy']
            · by_cases e : d = d'
              · left; simp [St.put,Locs.get_set,e]
              · right; simp [St.put,Locs.get_set,e]
            · have hdd : d ≠ d' := by intro e; exact hne (by rw [hm, e])
              exact nol_put (fun k=>by simp only [kill_nol n1]; exact hn k) (by simp only [SV.aims,beq_eq_false_iff_ne]; exact hdd)
          · cases hx
        · cases hx
      · cases hx
    case makeMap d =>
      have hm : AOper.mem { op:=.makeMap d,gd:=gd,blk:=blk } = .wr none:=by simp [AOper.mem]
      have hS:=h.S (.inr (.inl hm))
      simp only [aop,← hS,normal,Option.some.injEq,Prod.mk.injEq] at hx ⊢
      obtain ⟨rfl,rfl⟩:=hx
      exact ⟨rfl,_,⟨trivial,rfl⟩,mem1_put rfl (fun _ _ _=>rfl) (mem1_S (.inl hm) _)⟩
    case lookup d ok kd z y k =>
      have hy:=sv (x:=y) (by simp [AOp.opds])
      have hk:=sv (x:=k) (by simp [AOp.opds])
      have hm : AOper.mem { op:=.lookup d ok kd z y k,gd:=gd,blk:=blk } = .rd none:=by simp [AOper.mem]
      have hS:=h.S (.inl hm)
      simp only [aop,St.av,← hy,← hk,← hS] at hx ⊢
      split at hx
      · split at hx
        · rename_i hkk
          simp only [normal,Option.some.injEq,Prod.mk.injEq] at hx
          obtain ⟨rfl,rfl⟩:=hx
          exact ⟨rfl,_,by rw [if_pos hkk]; rfl,put_local h rfl rfl fun _ _ _=>rfl⟩
        · cases hx
      · split at hx
        · rename_i hkk
          split at hx
          · rename_i bx hbx
            split at hx
            · rename_i hmap
              split at hx
              · rename_i r hr
                simp only [normal,Option.some.injEq,Prod.mk.injEq] at hx
                obtain ⟨rfl,rfl⟩:=hx
                exact ⟨rfl,_,by rw [if_pos hkk]; simp only [if_pos hmap]; rfl,put_local h rfl rfl fun _ _ _=>rfl⟩
              · cases hx
            · cases hx
          · cases hx
        · cases hx
      · cases hx
    case mapUpd kd y k v =>
      have hy:=sv (x:=y) (by simp [AOp.opds])
      have hk:=sv (x:=k) (by simp [AOp.opds])
      have hv:=sv (x:=v) (by simp [AOp.opds])
      have hm : AOper.mem { op:=.mapUpd kd y k v,gd:=gd,blk:=blk } = .wr none:=by simp [AOper.mem]
      have hS:=h.S (.inr (.inl hm))
      simp only [aop,St.av,← hy,← hk,← hv,← hS] at hx ⊢
      split at hx
      · split at hx
        · rename_i hkk
          split at hx
          · rename_i bx hbx
            split at hx
            · rename_i hmap
              split at hx
              · rename_i cs hcs
                simp only [normal,Option.some.injEq,Prod.mk.injEq] at hx
                obtain ⟨rfl,rfl⟩:=hx
                exact ⟨rfl,_,by rw [if_pos hkk]; simp only [if_pos hmap]; rfl,mem1_local h (mem1_S (.inl hm) _)⟩
              · cases hx
            · cases hx
          · cases hx
        · cases hx
      · cases hx
    case call d f xs=>simp [AOp.isCall] at hnc
    case callv d c xs=>simp [AOp.isCall] at hnc
    case panic y=>exact absurd rfl hbad
def callEnd (d : Option Nat) (st : St) (o : Option (AEnd×List Bx)) : Option (AEx×St):=match o with
  | some (r,S')=>afinish d st r S'
  | none=>none
theorem aop_call (R : Rec) (st : St) (d : Option Nat) (f : Nat) (xs : List Opd) : aop R st (.call d f xs) = match st.avs xs with | some as=>callEnd d st (R f as st.S) | none=>none:=by
  simp only [aop]
  cases st.avs xs with
  | none=>rfl
  | some as =>
    simp only
    cases R f as st.S with
    | none=>rfl
    | some p=>rfl
theorem aop_callv (R : Rec) (st : St) (d : Option Nat) (c : Opd) (xs : List Opd) : aop R st (.callv d c xs) = match st.av c,st.avs xs with | some (.clos (.func f) first caps),some as=>callEnd d st (R f (first++as++caps) st.S) | _,_=>none:=by
  simp only [aop]
  split
  · rename_i f first caps as h1 h2
    rw [h1,h2]
    simp only
    cases R f (first++as++caps) st.S with
    | none=>rfl
    | some p=>rfl
  · rename_i hn
    split
    · rename_i f first caps as h1 h2
      exact absurd h2 (hn f first caps as h1)
    · rfl
theorem aopB_local {R : Rec} {o : AOper} (hR : o.mem = .call→Quiet R) (h : Agree o st st') (hbad : o.mem≠.bad) (hnew : ∀ d,o.mem = .new d→NoL st d∧NoL st' d) {x : AEx} (hx : aopB R st o = some (x,st1)) :
    LocEnd R (aopB R) o st st' x st1:=by
  by_cases hnc : o.op.isCall = false
  · exact .inl (aopB_local0 hnc h hbad hnew hx)
  have hcall : o.op.isCall = true:=by simpa using hnc
  have hbo:=blkOk_same h
  unfold LocEnd
  unfold aopB at hx ⊢
  rw [← hbo]
  split at hx
  rotate_left
  · cases hx
  rename_i hb
  rw [if_pos hb]
  simp only [aopM,hcall,if_true] at hx ⊢
  have fin : ∀ {d : Option Nat} {rr : Option (AEnd×List Bx)} {rr' : Option (AEnd×List Bx)} {y : AEx},o.op.dst = d→o.op.used = []→o.mem = .call∨o.mem = .lc→(o.mem = .call→∀ r S',rr = some (r,S')→S' = st.S∧∃ a own,r = .ret a own)→st.S = st'.S→rr = rr' →
      callEnd d st rr = some (y,st1) →
      (y = .normal∧∃ st1',callEnd d st' rr' = some (.normal,st1')∧LocalTo o st st' st1 st1') ∨
      (∃ v,y = .panic v∧o.mem = .lc∧st1 = { st with S:=st1.S }∧callEnd d st' rr' = some (.panic v,{ st' with S:=st1.S })):=by
    intro d rr rr' y hd hu hm hq hS hrr hy
    subst hrr
    cases rr with
    | none=>cases hy
    | some p =>
      obtain ⟨r,S2⟩:=p
      simp only [callEnd] at hy ⊢
      rcases hm with hm | hm
      · obtain ⟨rfl, a, own, rfl⟩ := hq hm _ _ rfl
        exact .inl (finish_local h hd hu (.inr ⟨rfl,hS⟩) hy)
      · cases r with
        | ret a own=>exact .inl (finish_local h hd hu (.inl ⟨rfl,.inr hm⟩) hy)
        | panic v =>
          simp only [afinish,Option.some.injEq,Prod.mk.injEq] at hy ⊢
          obtain ⟨rfl,rfl⟩:=hy
          exact .inr ⟨v,rfl,hm,rfl,rfl,rfl⟩
  have hdst : ∀ {d : Option Nat},o.op.dst = d→True:=fun _=>trivial
  have core : ∀ {y : AEx},o.mem = .call∨o.mem = .lc→aop R st o.op = some (y,st1) →
      (y = .normal∧∃ st1',aop R st' o.op = some (.normal,st1')∧LocalTo o st st' st1 st1') ∨
      (∃ v,y = .panic v∧o.mem = .lc∧st1 = { st with S:=st1.S }∧aop R st' o.op = some (.panic v,{ st' with S:=st1.S })):=by
    intro y hm hy
    have hS : st.S = st'.S:=h.S (by rcases hm with h | h <;> simp [h])
    have hq:=hR
    obtain ⟨op,gd,blk⟩:=o
    simp only at hcall hy hm ⊢
    cases op <;> simp [AOp.isCall] at hcall
    case call d f xs =>
      simp only [aop_call] at hy ⊢
      rw [← avs_same (st:=st) (st':=st') (xs:=xs) fun x hx=>h.opd (by simpa [AOp.opds] using hx),← hS]
      cases ha : st.avs xs with
      | none=>rw [ha] at hy; cases hy
      | some as =>
        rw [ha] at hy
        exact fin rfl rfl hm (fun hc r S' hr=>hq hc _ _ _ _ _ hr) hS rfl hy
    case callv d c xs =>
      have hc:=h.opd (x:=c) (by simp [AOp.opds])
      simp only [aop_callv,St.av,← hc] at hy ⊢
      rw [← avs_same (st:=st) (st':=st') (xs:=xs) fun x hx=>h.opd (by simp [AOp.opds,hx]),← hS]
      split at hy
      · rename_i f first caps as h1 h2
        exact fin rfl rfl hm (fun hc r S' hr=>hq hc _ _ _ _ _ hr) hS rfl hy
      · cases hy
  split at hx
  ·
    rename_i hblk
    left
    obtain ⟨op,gd,blk⟩:=o
    simp only at hcall hx hblk ⊢
    subst hblk
    cases op <;> simp [AOp.isCall] at hcall
    case call d f xs =>
      simp only [apcall,if_true] at hx ⊢
      rw [← avs_same (st:=st) (st':=st') (xs:=xs) fun x hx=>h.opd (by simpa [AOp.opds] using hx)]
      split at hx
      · split at hx
        · rename_i hcl
          rw [if_pos hcl]
          split at hx
          · exact finish_local h rfl rfl (.inr ⟨rfl,rfl⟩) hx
          · cases hx
        · cases hx
      · cases hx
    case callv d c xs=>simp [apcall] at hx
  · rename_i hb1
    rw [if_neg hb1]
    have hmem : o.mem = .call∨o.mem = .lc:=by
      unfold AOper.mem
      revert hcall
      cases o.op <;> simp only [AOp.isCall,Bool.false_eq_true,false_implies,true_implies,if_neg hb1] <;> split <;> first | exact .inl rfl | exact .inr rfl
    split at hx
    · rename_i hb2
      rw [if_pos hb2]
      left
      cases ha : aop R st o.op with
      | none=>rw [ha] at hx; cases hx
      | some p =>
        obtain ⟨y,s⟩:=p
        rw [ha] at hx
        cases y with
        | panic v=>cases hx
        | normal =>
          simp only [nopan,Option.some.injEq,Prod.mk.injEq] at hx
          obtain ⟨rfl,rfl⟩:=hx
          rcases core hmem ha with ⟨_,st1',q1,q2⟩ | ⟨v,q,_⟩
          · exact ⟨rfl,st1',by rw [q1]; rfl,q2⟩
          · cases q
        | exit id =>
          simp only [nopan,Option.some.injEq,Prod.mk.injEq] at hx
          obtain ⟨rfl,rfl⟩:=hx
          rcases core hmem ha with ⟨q,_⟩ | ⟨v,q,_⟩ <;> cases q
        | ret =>
          simp only [nopan,Option.some.injEq,Prod.mk.injEq] at hx
          obtain ⟨rfl,rfl⟩:=hx
          rcases core hmem ha with ⟨q,_⟩ | ⟨v,q,_⟩ <;> cases q
    · rename_i hb2
      rw [if_neg hb2]
      rcases core hmem hx with q | ⟨v,q1,q2,q3,q4⟩
      · exact .inl q
      · right
        refine ⟨v,q1,?_,q2,q3,q4⟩
        unfold AOper.mem at q2
        revert q2 hcall
        cases o.op <;> simp [AOp.isCall,hb1,hb2] <;> by_cases h1 : o.blk = some 66666 <;> simp [h1]
end
theorem aoper_local {st st' st1 : St} {R : Rec} {o : AOper} (hR : o.mem = .call→Quiet R) (h : Agree o st st') (hbad : o.mem≠.bad) (hnew : ∀ d,o.mem = .new d→NoL st d∧NoL st' d) {x : AEx} (hx : aoper R st o = some (x,st1)) :
    LocEnd R (aoper R) o st st' x st1:=by
  unfold LocEnd
  unfold aoper at hx ⊢
  split at hx
  · exact aopB_local hR h hbad hnew hx
  · rename_i k want hg
    have hk:=h.sl k (.inl (by simp [AOper.rd,hg]))
    simp only [ob,Prod.mk.injEq] at hk
    rw [← hk.1]
    split at hx
    · split at hx
      · rename_i hw
        rw [if_pos hw]
        exact aopB_local hR h hbad hnew hx
      · rename_i hw
        rw [if_neg hw]
        cases hd : o.op.dst with
        | none =>
          rw [hd] at hx
          simp only [normal,Option.some.injEq,Prod.mk.injEq] at hx
          obtain ⟨rfl,rfl⟩:=hx
          exact .inl ⟨rfl,st',rfl,mem1_local h (mem1_refl _ _)⟩
        | some d =>
          rw [hd] at hx
          simp only [normal,Option.some.injEq,Prod.mk.injEq] at hx
          obtain ⟨rfl,rfl⟩:=hx
          refine .inl ⟨rfl,_,rfl,?_⟩
          have hdw : d ∈ o.op.wr:=by simp [AOp.wr,hd]
          refine ⟨⟨fun j hj=>?_,fun _ _=>rfl,fun _=>rfl⟩,⟨fun j hj=>?_,fun _ _=>rfl,fun _=>rfl⟩,fun j hj=>?_,fun _=>.inr ⟨rfl,rfl⟩,.inr ⟨rfl,rfl⟩,fun d' hn _=>nol_put hn rfl⟩
          · rw [ob_put,if_neg (by intro e; exact hj (e ▸ hdw))]
          · rw [ob_put,if_neg (by intro e; exact hj (e ▸ hdw))]
          · rw [ob_put,ob_put,h.wr hj]
    · cases hd : o.op.dst with
      | none =>
        rw [hd] at hx
        simp only [normal,Option.some.injEq,Prod.mk.injEq] at hx
        obtain ⟨rfl,rfl⟩:=hx
        exact .inl ⟨rfl,st',rfl,mem1_local h (mem1_refl _ _)⟩
      | some d =>
        rw [hd] at hx
        simp only [normal,Option.some.injEq,Prod.mk.injEq] at hx
        obtain ⟨rfl,rfl⟩:=hx
        refine .inl ⟨rfl,_,rfl,?_⟩
        have hdw : d ∈ o.op.wr:=by simp [AOp.wr,hd]
        refine ⟨⟨fun j hj=>?_,fun _ _=>rfl,fun _=>rfl⟩,⟨fun j hj=>?_,fun _ _=>rfl,fun _=>rfl⟩,fun j hj=>?_,fun _=>.inr ⟨rfl,rfl⟩,.inr ⟨rfl,rfl⟩,fun d' hn _=>nol_put hn rfl⟩
        · rw [ob_put,if_neg (by intro e; exact hj (e ▸ hdw))]
        · rw [ob_put,if_neg (by intro e; exact hj (e ▸ hdw))]
        · rw [ob_put,ob_put,h.wr hj]
    · cases hx
end Go.Av
set_option linter.unusedVariables false
set_option linter.unusedSimpArgs false
set_option linter.unusedSectionVars false
namespace Go.Av
open Go
structure Eqv (a b : St) : Prop where
  sl : ∀ k,ob a k = ob b k
  lc : ∀ d,a.loc.get d = b.loc.get d
  S : a.S = b.S
theorem Eqv.refl (a : St) : Eqv a a:=⟨fun _=>rfl,fun _=>rfl,rfl⟩
theorem Eqv.symm {a b : St} (h : Eqv a b) : Eqv b a:=⟨fun k=>(h.sl k).symm,fun d=>(h.lc d).symm,h.S.symm⟩
theorem Eqv.trans {a b c : St} (h : Eqv a b) (k : Eqv b c) : Eqv a c:=⟨fun i=>(h.sl i).trans (k.sl i),fun d=>(h.lc d).trans (k.lc d),h.S.trans k.S⟩
theorem Eqv.nol {a b : St} (h : Eqv a b) {d : Nat} (n : NoL a d) : NoL b d:=fun k=>by
  have:=h.sl k
  simp only [ob,Prod.mk.injEq] at this
  rw [← this.1]; exact n k
theorem Eqv.agree {a b : St} (h : Eqv a b) (o : AOper) : Agree o a b:=⟨fun k _=>h.sl k,fun _ d _ _ _ _ _=>h.lc d,fun _=>h.S⟩
theorem Eqv.keep {a b : St} (h : Eqv a b) (live locs : List Nat) : a.keep live locs = b.keep live locs:=by
  have h1 : ∀ k,a.σ.get k = b.σ.get k:=fun k=>by have:=h.sl k; simp only [ob,Prod.mk.injEq] at this; exact this.1
  have h2 : ∀ k,rightOf a.own k = rightOf b.own k:=fun k=>by have:=h.sl k; simp only [ob,Prod.mk.injEq] at this; exact this.2
  have e1 : a.σ.keep live = b.σ.keep live:=by simp only [Slots.keep]; exact List.map_congr_left fun k _=>by rw [h1]
  have e3 : a.loc.keep locs = b.loc.keep locs:=by simp only [Locs.keep]; congr 1; funext k; rw [h.lc]
  simp only [St.keep,e1,e3,h.S]
  congr 2
  funext k
  rw [h2]
theorem aoper_eqv {a b a1 : St} {R : Rec} {o : AOper} (hR : o.mem = .call→Quiet R) (h : Eqv a b) (hbad : o.mem≠.bad) (hnew : ∀ d,o.mem = .new d→NoL a d) {x : AEx} (hx : aoper R a o = some (x,a1)) :
    (x = .normal∧∃ b1,aoper R b o = some (.normal,b1)∧Eqv a1 b1)∨(∃ v,x = .panic v∧o.blk = some 66666∧o.mem = .lc∧a1 = { a with S:=a1.S }∧aoper R b o = some (.panic v,{ b with S:=a1.S })):=by
  rcases aoper_local hR (h.agree o) hbad (fun d hd=>⟨hnew d hd,h.nol (hnew d hd)⟩) hx with ⟨rfl,b1,h1,h2⟩ | ⟨v,q⟩
  rotate_left
  · exact .inr ⟨v,q⟩
  refine .inl ⟨rfl,b1,h1,fun k=>?_,fun d=>?_,?_⟩
  · by_cases hk : k ∈ o.op.wr
    · exact h2.sl k hk
    · rw [h2.fr.sl k hk,h2.fr'.sl k hk,h.sl k]
  · rcases h2.lc d with q | ⟨q1, q2⟩
    · exact q
    · rw [q1,q2,h.lc d]
  · rcases h2.S with q | ⟨q1, q2⟩
    · exact q
    · rw [q1,q2,h.S]
def memOk : Mem→Mem→Bool
  | .bad,_=>false
  | _,.bad=>false
  | .no,_=>true
  | _,.no=>true
  | .rd _,.rd _=>true
  | .rd _,.call=>true
  | .call,.rd _=>true
  | .call,.call=>true
  | .rd _,.new _=>true
  | .new _,.rd _=>true
  | .call,.new _=>true
  | .new _,.call=>true
  | .new d,.new d'=>d != d'
  | .rd (some m),.wr (some m')=>m != m'
  | .wr (some m),.rd (some m')=>m != m'
  | .wr (some m),.wr (some m')=>m != m'
  | .wr (some _),.call=>true
  | .call,.wr (some _)=>true
  | .wr (some m),.new d=>m != d
  | .new d,.wr (some m)=>m != d
  | .rdS,.rd _=>true
  | .rd _,.rdS=>true
  | .rdS,.rdS=>true
  | .rdS,.call=>true
  | .call,.rdS=>true
  | .rdS,.new _=>true
  | .new _,.rdS=>true
  | .rdS,.wr (some _)=>true
  | .wr (some _),.rdS=>true
  | .lc,.rd (some _)=>true
  | .rd (some _),.lc=>true
  | .lc,.wr (some _)=>true
  | .wr (some _),.lc=>true
  | .lc,.new _=>true
  | .new _,.lc=>true
  | _,_=>false
def apart (j i : AOper) : Bool :=
  memOk j.mem i.mem && (j.op.wr.all fun k=>!(i.rd.contains k) && !(i.op.wr.contains k)) && (i.op.wr.all fun k=>!(j.rd.contains k))
theorem memOk_may {j i : AOper} (h : memOk j.mem i.mem = true) (d : Nat) : ¬ (j.may d∧i.may d):=by
  unfold AOper.may
  rcases hj : j.mem with _ | (_ | m) | (_ | m) | d1 | _ | _ | _ | _ <;> rcases hi : i.mem with _ | (_ | m') | (_ | m') | d2 | _ | _ | _ | _ <;> rw [hj,hi] at h <;> simp_all [memOk] <;> (intro e1 e2; apply h; rw [e1,e2])
section
variable {st s1 s2 : St} {rec : Rec} {j i : AOper}
theorem wr_ne {o : AOper} {m : Nat} (h : o.mem = .wr (some m)) : m≠77777:=by
  rintro rfl
  unfold AOper.mem at h
  split at h <;> first
    | cases h; done
    | (split at h <;> first | (cases h; done) | (simp only [Mem.wr.injEq] at h; contradiction) | (split at h <;> cases h))
theorem agree_back (hap : memOk j.mem i.mem = true) (hsl : ∀ k,k ∈ i.rd∨k ∈ i.op.wr→k ∉ j.op.wr) (hn : ∀ d,j.mem = .new d→NoL st d) (hf : Fr j st s1) : Agree i s1 st:=by
  refine ⟨fun k hk=>hf.sl k (hsl k hk),fun x d off hx hsv hb hrs=>hf.lc d fun hmay=>?_,fun hi=>hf.S fun hj=>?_⟩
  ·
    have hxs : st.sv x = .l d off:=by
      rw [← hsv]
      cases x with
      | c a=>rfl
      | s k =>
        have : k ∉ j.op.wr:=by
          refine hsl k (.inl ?_)
          simp only [AOper.rd,List.mem_append,AOp.rd,List.mem_flatMap]
          right
          refine ⟨.s k,?_,by simp [Opd.rd]⟩
          revert hx
          cases i.op <;> simp [AOp.addr,AOp.opds] <;> intro h <;> simp [h]
        have:=hf.sl k this
        simp only [ob,Prod.mk.injEq] at this
        exact this.1.symm
    have him : i.mem = .rd i.blk∨i.mem = .wr i.blk∨(i.mem = .lc∧i.blk = some 77777):=by
      revert hx hrs
      unfold AOper.mem
      cases i.op <;> simp [AOp.addr]
      · intro h1 h2
        by_cases h7 : i.blk = some 77777
        · first | exact absurd h7 h1 | exact absurd h7 h2
        · simp [h7]
      · intro _; by_cases h7 : i.blk = some 77777 <;> simp [h7]
      · intro _; by_cases h7 : i.blk = some 77777 <;> simp [h7]
    unfold AOper.may at hmay
    cases hjm : j.mem with
    | new d' =>
      rw [hjm] at hmay
      have : d' = d:=hmay
      subst this
      have hq:=nol_sv (hn d' hjm) x
      rw [hxs] at hq
      simp [SV.aims] at hq
    | wr m =>
      cases m with
      | none =>
        rw [hjm] at hap
        rcases him with h | h | ⟨h,_⟩ <;> rw [h] at hap <;> cases i.blk <;> simp [memOk] at hap
      | some m =>
        rw [hjm] at hmay
        have : m = d:=hmay
        subst this
        rw [hjm] at hap
        cases hb2 : i.blk with
        | none=>rw [hb2] at him; rcases him with h | h | ⟨_,h⟩ <;> first | (rw [h] at hap; simp [memOk] at hap; done) | cases h
        | some m' =>
          have:=hb m' hb2
          subst this
          rw [hb2] at him
          rcases him with h | h | ⟨_,h⟩
          · rw [h] at hap; simp [memOk] at hap
          · rw [h] at hap; simp [memOk] at hap
          · exact wr_ne hjm (by simpa using h)
    | no=>rw [hjm] at hmay; exact hmay
    | rd m=>rw [hjm] at hmay; exact hmay
    | call=>rw [hjm] at hmay; exact hmay
    | bad=>rw [hjm] at hmay; exact hmay
    | rdS=>rw [hjm] at hmay; exact hmay
    | lc=>rw [hjm] at hmay; exact hmay
  · rcases hj with hj | hj <;> rcases hi with h | h | h | h | h <;> rw [hj,h] at hap <;> simp [memOk] at hap
theorem memOk_bad (h : memOk j.mem i.mem = true) : j.mem≠.bad∧i.mem≠.bad:=by
  rcases hj : j.mem with _ | (_ | m) | (_ | m) | d1 | _ | _ | _ | _ <;> rcases hi : i.mem with _ | (_ | m') | (_ | m') | d2 | _ | _ | _ | _ <;> rw [hj,hi] at h <;> simp_all [memOk]
theorem memOk_symm (h : memOk j.mem i.mem = true) : memOk i.mem j.mem = true:=by
  rcases hj : j.mem with _ | (_ | m) | (_ | m) | d1 | _ | _ | _ | _ <;> rcases hi : i.mem with _ | (_ | m') | (_ | m') | d2 | _ | _ | _ | _ <;> rw [hj,hi] at h <;> simp_all [memOk] <;> (intro e; exact h e.symm)
theorem chS_apart (h : memOk j.mem i.mem = true) : ¬ (j.chS∧i.chS):=by
  rintro ⟨h1,h2⟩
  rcases h1 with h1 | h1 <;> rcases h2 with h2 | h2 <;> rw [h1,h2] at h <;> simp [memOk] at h
theorem swap {R : Rec} (hRj : j.mem = .call→Quiet R) (hRi : i.mem = .call→Quiet R) (hap : apart j i = true) (hnj : ∀ d,j.mem = .new d→NoL st d) (hni : ∀ d,i.mem = .new d→NoL st d) (h1 : aoper R st j = some (.normal,s1)) (h2 : aoper R s1 i = some (.normal,s2)) :
    ∃ t1 t2,aoper R st i = some (.normal,t1)∧aoper R t1 j = some (.normal,t2)∧Eqv s2 t2:=by
  simp only [apart,Bool.and_eq_true,List.all_eq_true,Bool.not_eq_true',List.contains_eq_mem,decide_eq_false_iff_not] at hap
  obtain ⟨⟨hm,hw⟩,hw'⟩:=hap
  obtain ⟨bj,bi⟩:=memOk_bad hm
  have hch:=chS_apart hm
  have L1:=aoper_local hRj (Eqv.refl st |>.agree j) bj (fun d hd=>⟨hnj d hd,hnj d hd⟩) h1
  obtain ⟨_,s1',e1,l1⟩:=L1.resolve_right (by rintro ⟨v,q,_⟩; cases q)
  have hni1 : ∀ d,i.mem = .new d→NoL s1 d:=fun d hd=>l1.nol d (hni d hd) (by
    intro hj
    rw [hj,hd] at hm
    simp [memOk] at hm)
  have A1 : Agree i s1 st:=agree_back hm (fun k hk hkj=>by
    have:=hw k hkj
    rcases hk with h | h
    · exact this.1 h
    · exact this.2 h) hnj l1.fr
  have L2:=aoper_local hRi A1 bi (fun d hd=>⟨hni1 d hd,hni d hd⟩) h2
  obtain ⟨_,t1,e2,l2⟩:=L2.resolve_right (by rintro ⟨v,q,_⟩; cases q)
  have A2 : Agree j t1 st:=agree_back (memOk_symm hm) (fun k hk hki=>by
    rcases hk with h | h
    · exact hw' k hki h
    · exact (hw k h).2 hki) hni l2.fr'
  have A2' : Agree j st t1:=⟨fun k hk=>(A2.sl k hk).symm,fun x d off hx hsv hb hrs=>by
    refine (A2.lc x d off hx ?_ hb hrs).symm
    rw [← hsv]
    refine A2.opd ?_
    revert hx
    cases j.op <;> simp [AOp.addr,AOp.opds] <;> intro h <;> simp [h],fun hh=>(A2.S hh).symm⟩
  have hnt : ∀ d,j.mem = .new d→NoL t1 d:=by
    intro d hd k
    have:=aoper_local hRi (Eqv.refl st |>.agree i) bi (fun d hd=>⟨hni d hd,hni d hd⟩) e2
    obtain ⟨_,t1',q1,q2⟩:=this.resolve_right (by rintro ⟨v,q,_⟩; cases q)
    exact q2.nol d (hnj d hd) (by intro e; rw [hd,e] at hm; simp [memOk] at hm) k
  have L3:=aoper_local hRj A2' bj (fun d hd=>⟨hnj d hd,hnt d hd⟩) h1
  obtain ⟨_,t2,e3,l3⟩:=L3.resolve_right (by rintro ⟨v,q,_⟩; cases q)
  refine ⟨t1,t2,e2,e3,fun k=>?_,fun d=>?_,?_⟩
  · by_cases hk : k ∈ i.op.wr
    · have hkj : k ∉ j.op.wr := fun h => (hw k h).2 hk
      rw [l2.sl k hk,l3.fr'.sl k hkj]
    · by_cases hkj : k ∈ j.op.wr
      · rw [l2.fr.sl k hk,l3.sl k hkj]
      · rw [l2.fr.sl k hk,l3.fr.sl k hkj,l3.fr'.sl k hkj,l2.fr'.sl k hk]
  · by_cases hi : i.may d
    · have hj : ¬ j.may d := fun h => memOk_may hm d ⟨h, hi⟩
      rcases l2.lc d with q | ⟨q1,q2⟩
      · rw [q,l3.fr'.lc d hj]
      · rw [q1,l3.fr.lc d hj,l3.fr'.lc d hj,q2]
    · rw [l2.fr.lc d hi]
      rcases l3.lc d with q | ⟨q1,q2⟩
      · exact q
      · rw [q1,q2,l2.fr'.lc d hi]
  · by_cases hi : i.chS
    · have hj : ¬ j.chS := fun h => hch ⟨h, hi⟩
      rcases l2.S with q | ⟨q1,q2⟩
      · rw [q,l3.fr'.S hj]
      · rw [q1,l3.fr.S hj,l3.fr'.S hj,q2]
    · rw [l2.fr.S hi]
      rcases l3.S with q | ⟨q1,q2⟩
      · exact q
      · rw [q1,q2,l2.fr'.S hi]
theorem swap_panic {R : Rec} (hRj : j.mem = .call→Quiet R) (hRi : i.mem = .call→Quiet R) (hap : apart j i = true) (hnj : ∀ d,j.mem = .new d→NoL st d) (hni : ∀ d,i.mem = .new d→NoL st d) (h1 : aoper R st j = some (.normal,s1)) {v : AV} (h2 : aoper R s1 i = some (.panic v,s2)) :
    aoper R st i = some (.panic v,{ st with S:=s2.S }):=by
  simp only [apart,Bool.and_eq_true,List.all_eq_true,Bool.not_eq_true',List.contains_eq_mem,decide_eq_false_iff_not] at hap
  obtain ⟨⟨hm,hw⟩,hw'⟩:=hap
  obtain ⟨bj,bi⟩:=memOk_bad hm
  have L1:=aoper_local hRj (Eqv.refl st |>.agree j) bj (fun d hd=>⟨hnj d hd,hnj d hd⟩) h1
  obtain ⟨_,s1',e1,l1⟩:=L1.resolve_right (by rintro ⟨v,q,_⟩; cases q)
  have hni1 : ∀ d,i.mem = .new d→NoL s1 d:=fun d hd=>l1.nol d (hni d hd) (by
    intro hj
    rw [hj,hd] at hm
    simp [memOk] at hm)
  have A1 : Agree i s1 st:=agree_back hm (fun k hk hkj=>by
    have:=hw k hkj
    rcases hk with h | h
    · exact this.1 h
    · exact this.2 h) hnj l1.fr
  have L2:=aoper_local hRi A1 bi (fun d hd=>⟨hni1 d hd,hni d hd⟩) h2
  rcases L2 with ⟨q,_⟩ | ⟨v',q,_,_,_,q2⟩
  · cases q
  · cases q
    exact q2
end
end Go.Av
set_option linter.unusedVariables false
set_option linter.unusedSimpArgs false
set_option linter.unusedSectionVars false
namespace Go.Av
open Go
def edgeOn (o : Oper) : List Nat:=(o.after.toList.filter fun e=>Region.binds .any e).map (·.on)
def bAt (bs : List Nat) (i j : Nat) : Bool:=(bs.getD i 0).testBit j
def bsOkAt (bs : List Nat) (o : Oper) (i : Nat) : Bool :=
  (edgeOn o).all (fun e=>decide (e < i)) && (List.range i).all fun j=>!bAt bs i j || (edgeOn o).any fun e=>e == j || (decide (j < e) && bAt bs e j)
def bsOk (bs : List Nat) : List Oper→Nat→Bool
  | [],_=>true
  | o :: os,i=>bsOkAt bs o i && bsOk bs os (i + 1)
theorem bsOk_get {bs : List Nat} : ∀ {os : List Oper} {n : Nat},bsOk bs os n = true→∀ (i : Nat) {o : Oper},os[i]? = some o→bsOkAt bs o (n + i) = true
  | [],_,_,i,o,h=>by simp at h
  | o0 :: os, n, hb, i, o, h => by
    simp only [bsOk,Bool.and_eq_true] at hb
    cases i with
    | zero => obtain rfl : o0 = o := by simpa using h
              exact hb.1
    | succ i =>
      have:=bsOk_get hb.2 i (by simpa using h)
      rwa [show n + 1 + i = n + (i + 1) by omega] at this
def sameNew (j i : AOper) : Bool:=match j.mem,i.mem with
  | .new d,.new d'=>d == d'
  | _,_=>false
def pairsAt (f : Nat→Nat→AOper→AOper→Bool) (i : Nat) (o : AOper) : List AOper→Nat→Bool
  | [],_=>true
  | p :: ps,j=>(decide (i≤j) || f j i p o) && pairsAt f i o ps (j + 1)
def pairsAll (f : Nat→Nat→AOper→AOper→Bool) (all : List AOper) : List AOper→Nat→Bool
  | [],_=>true
  | o :: os,i=>pairsAt f i o all 0 && pairsAll f all os (i + 1)
theorem pairsAt_get {f : Nat→Nat→AOper→AOper→Bool} {i : Nat} {o : AOper} : ∀ {ps : List AOper} {n : Nat},pairsAt f i o ps n = true→∀ (j : Nat) {p : AOper},ps[j]? = some p→n + j < i→f (n + j) i p o = true
  | [],_,_,j,p,h,_=>by simp at h
  | p0 :: ps, n, hb, j, p, h, hj => by
    simp only [pairsAt,Bool.and_eq_true,Bool.or_eq_true,decide_eq_true_eq] at hb
    cases j with
    | zero => obtain rfl : p0 = p := by simpa using h
              rcases hb.1 with h1 | h1
              · omega
              · exact h1
    | succ j =>
      have:=pairsAt_get hb.2 j (by simpa using h) (by omega)
      rwa [show n + 1 + j = n + (j + 1) by omega] at this
theorem pairsAll_get {f : Nat→Nat→AOper→AOper→Bool} {all : List AOper} : ∀ {os : List AOper} {n : Nat},pairsAll f all os n = true→∀ (i j : Nat) {o p : AOper},os[i]? = some o→all[j]? = some p→j < n + i→f j (n + i) p o = true
  | [],_,_,i,j,o,p,h,_,_=>by simp at h
  | o0 :: os, n, hb, i, j, o, p, h, hp, hj => by
    simp only [pairsAll,Bool.and_eq_true] at hb
    cases i with
    | zero => obtain rfl : o0 = o := by simpa using h
              have:=pairsAt_get hb.1 j hp (by omega)
              simpa using this
    | succ i =>
      have:=pairsAll_get hb.2 i j (by simpa using h) hp (by omega)
      rwa [show n + 1 + i = n + (i + 1) by omega] at this
def pairOk (bs : List Nat) (j i : Nat) (p o : AOper) : Bool:=(bAt bs i j || apart p o) && !sameNew p o
def panicSafe (bs : List Nat) (j i : Nat) (p o : AOper) : Bool:=!(p.blk == some 66666) || bAt bs i j
def drawOk (quiet : Bool) (aos : List AOper) (bs : List Nat) : Bool :=
  pairsAll (fun j i _ _=>bAt bs i j) aos aos 0 || ((quiet || aos.all (fun o=>decide (o.mem≠.call))) && aos.all (fun o=>decide (o.mem≠.bad)) && pairsAll (pairOk bs) aos aos 0 && pairsAll (panicSafe bs) aos aos 0)
section
variable {aos : List AOper} {R : Rec}
def Fresh (aos : List AOper) (is : List Nat) (st : St) : Prop:=∀ k ∈ is,∀ (o : AOper) (d : Nat),aos[k]? = some o→o.mem = .new d→NoL st d
structure GoodA (R : Rec) (aos : List AOper) : Prop where
  q : ∀ (k : Nat) (o : AOper),aos[k]? = some o→o.mem = .call→Quiet R
  bad : ∀ (k : Nat) (o : AOper),aos[k]? = some o→o.mem≠.bad
  dn : ∀ (k k' : Nat) (o o' : AOper) (d : Nat),k≠k'→aos[k]? = some o→aos[k']? = some o'→o.mem = .new d→o'.mem≠.new d
theorem Fresh.step {k : Nat} {is : List Nat} {st st1 : St} {o : AOper} (hG : GoodA R aos) (h : Fresh aos (k :: is) st) (hk : k ∉ is) (ho : aos[k]? = some o) (h1 : aoper R st o = some (.normal,st1)) : Fresh aos is st1:=by
  intro k' hk' o' d ho' hd
  have L:=aoper_local (hG.q k o ho) ((Eqv.refl st).agree o) (hG.bad k o ho) (fun d hd=>⟨h k (.head _) o d ho hd,h k (.head _) o d ho hd⟩) h1
  obtain ⟨_,s',_,l⟩:=L.resolve_right (by rintro ⟨v,q,_⟩; cases q)
  have hne : k'≠k:=fun e=>hk (e ▸ hk')
  exact l.nol d (h k' (.tail _ hk') o' d ho' hd) (hG.dn k' k o' o d hne ho' ho hd)
def EndEq (aos : List AOper) (x : AEx) (s s' : St) : Prop:=Eqv s s'∨((∃ v,x = .panic v)∧s'.S = s.S∧∀ k,(∀ o ∈ aos,k ∉ o.op.wr)→ob s' k = ob s k)
theorem EndEq.trans {x : AEx} {a b c : St} (h : EndEq aos x a b) (k : EndEq aos x b c) : EndEq aos x a c:=by
  rcases h with h | ⟨h1,h2,h3⟩
  · rcases k with k | ⟨k1, k2, k3⟩
    · exact .inl (h.trans k)
    · exact .inr ⟨k1,k2.trans h.S.symm,fun j hj=>(k3 j hj).trans (h.sl j).symm⟩
  · rcases k with k | ⟨k1, k2, k3⟩
    · exact .inr ⟨h1,k.S.symm.trans h2,fun j hj=>(k.sl j).symm.trans (h3 j hj)⟩
    · exact .inr ⟨h1,k2.trans h2,fun j hj=>(k3 j hj).trans (h3 j hj)⟩
theorem aopsI_eqv (hG : GoodA R aos) : ∀ (is : List Nat) {a b s : St} {x : AEx},is.Nodup→Eqv a b→Fresh aos is a→aopsI R aos is a = some (x,s) →
    (x = .normal∨∃ v,x = .panic v)∧∃ s',aopsI R aos is b = some (x,s')∧Eqv s s'
  | [], a, b, s, x, _, e, _, h => by
    simp only [aopsI,normal,Option.some.injEq,Prod.mk.injEq] at h
    obtain ⟨rfl,rfl⟩:=h
    exact ⟨.inl rfl,b,rfl,e⟩
  | k :: is, a, b, s, x, hN, e, hF, h => by
    simp only [aopsI] at h ⊢
    rw [List.nodup_cons] at hN
    split at h
    · rename_i o ho
      cases h1 : aoper R a o with
      | none=>rw [h1] at h; cases h
      | some p =>
        obtain ⟨y,a1⟩:=p
        rcases aoper_eqv (hG.q k o ho) e (hG.bad k o ho) (fun d hd=>hF k (.head _) o d ho hd) h1 with ⟨rfl,b1,q1,q2⟩ | ⟨v,rfl,_,_,q3,q4⟩
        · rw [h1] at h
          simp only at h
          rw [q1]
          exact aopsI_eqv hG is hN.2 q2 (hF.step hG hN.1 ho h1) h
        · rw [h1] at h
          simp only [Option.some.injEq,Prod.mk.injEq] at h
          obtain ⟨rfl,rfl⟩:=h
          refine ⟨.inr ⟨v,rfl⟩,{ b with S:=a1.S },by rw [q4],fun j=>?_,fun d=>?_,rfl⟩
          · rw [q3]; exact e.sl j
          · rw [q3]; exact e.lc d
    · cases h
theorem front (hG : GoodA R aos) {i : Nat} {oi : AOper} (hoi : aos[i]? = some oi) (post : List Nat) : ∀ (pre : List Nat) {st s : St} {x : AEx},(pre++i :: post).Nodup→Fresh aos (pre++i :: post) st →
    (∀ j ∈ pre,∀ oj,aos[j]? = some oj→apart oj oi = true∧oj.blk≠some 66666)→aopsI R aos (pre++i :: post) st = some (x,s) →
    (∃ st1 s',aoper R st oi = some (.normal,st1)∧aopsI R aos (pre++post) st1 = some (x,s')∧Eqv s s')∨(∃ v st1,x = .panic v∧aoper R st oi = some (.panic v,st1)∧st1.S = s.S∧∀ k,ob st1 k = ob st k)
  | [], st, s, x, hN, hF, _, h => by
    simp only [List.nil_append] at h hN hF ⊢
    simp only [aopsI,hoi] at h
    cases h1 : aoper R st oi with
    | none=>rw [h1] at h; cases h
    | some p =>
      obtain ⟨y,s1⟩:=p
      rw [h1] at h
      rcases aoper_eqv (hG.q i oi hoi) (Eqv.refl st) (hG.bad i oi hoi) (fun d hd=>hF i (.head _) oi d hoi hd) h1 with ⟨rfl,b1,q1,q2⟩ | ⟨v,rfl,_,_,q3,q4⟩
      · exact .inl ⟨s1,s,rfl,h,Eqv.refl s⟩
      · simp only [Option.some.injEq, Prod.mk.injEq] at h
        obtain ⟨rfl,rfl⟩:=h
        exact .inr ⟨v,s1,rfl,rfl,rfl,fun k=>by rw [q3]; rfl⟩
  | j :: pre, st, s, x, hN, hF, hap, h => by
    simp only [List.cons_append] at h hN hF
    have hN':=hN
    rw [List.nodup_cons] at hN
    simp only [aopsI] at h
    split at h
    · rename_i oj hoj
      cases h1 : aoper R st oj with
      | none=>rw [h1] at h; cases h
      | some p =>
        obtain ⟨y,s1⟩:=p
        obtain ⟨hapj,hbj⟩:=hap j (.head _) oj hoj
        rcases aoper_eqv (hG.q j oj hoj) (Eqv.refl st) (hG.bad j oj hoj) (fun d hd=>hF j (.head _) oj d hoj hd) h1 with ⟨rfl,_⟩ | ⟨v,rfl,q,_⟩
        rotate_left
        · exact absurd q hbj
        rw [h1] at h
        simp only at h
        have hF1:=hF.step hG hN.1 hoj h1
        have hni : ∀ d,oi.mem = .new d→NoL st d:=fun d hd=>hF i (by simp) oi d hoi hd
        rcases front hG hoi post pre hN.2 hF1 (fun k hk ok hok=>hap k (.tail _ hk) ok hok) h with ⟨s2,s',h3,h2,e2⟩ | ⟨v,s2,rfl,h3,hS,hob⟩
        · obtain ⟨t1, t2, q1, q2, q3⟩ := swap (hG.q j oj hoj) (hG.q i oi hoi) hapj (fun d hd => hF j (.head _) oj d hoj hd) hni h1 h3
          have hmem : ∀ k,k ∈ pre++post→k ∈ pre++i :: post:=by
            intro k hk
            simp only [List.mem_append,List.mem_cons] at hk ⊢
            rcases hk with h | h
            · exact .inl h
            · exact .inr (.inr h)
          have hNp : (pre++post).Nodup:=by
            refine List.Nodup.sublist ?_ hN.2
            exact List.Sublist.append (List.Sublist.refl _) (List.sublist_cons_self _ _)
          have hin : i ∉ pre++post:=by
            have:=hN.2
            rw [List.nodup_append] at this
            obtain ⟨a1,a2,a3⟩:=this
            rw [List.nodup_cons] at a2
            simp only [List.mem_append,not_or]
            refine ⟨fun hi=>a3 i hi i (by simp) rfl,a2.1⟩
          have hF2 : Fresh aos (pre++post) s2:=by
            refine Fresh.step (k:=i) (is:=pre++post) hG (fun k hk=>hF1 k ?_) hin hoi h3
            simp only [List.mem_cons] at hk
            rcases hk with rfl | hk
            · simp
            · exact hmem k hk
          obtain ⟨_,s'',h4,e4⟩:=aopsI_eqv hG _ hNp q3 hF2 h2
          refine .inl ⟨t1,s'',q1,?_,e2.trans e4⟩
          simp only [List.cons_append,aopsI,hoj,q2]
          exact h4
        · have q := swap_panic (hG.q j oj hoj) (hG.q i oi hoi) hapj (fun d hd => hF j (.head _) oj d hoj hd) hni h1 h3
          exact .inr ⟨v,_,rfl,q,hS,fun k=>rfl⟩
    · cases h
theorem aopsI_ob (hG : GoodA R aos) {k0 : Nat} (hk0 : ∀ o ∈ aos,k0 ∉ o.op.wr) : ∀ (is : List Nat) {a s : St} {x : AEx},is.Nodup→Fresh aos is a→aopsI R aos is a = some (x,s)→ob s k0 = ob a k0
  | [], a, s, x, _, _, h => by
    simp only [aopsI,normal,Option.some.injEq,Prod.mk.injEq] at h
    obtain ⟨rfl,rfl⟩:=h
    rfl
  | k :: is, a, s, x, hN, hF, h => by
    simp only [aopsI] at h
    rw [List.nodup_cons] at hN
    split at h
    · rename_i o ho
      cases h1 : aoper R a o with
      | none=>rw [h1] at h; cases h
      | some p =>
        obtain ⟨y,a1⟩:=p
        rw [h1] at h
        rcases aoper_local (hG.q k o ho) ((Eqv.refl a).agree o) (hG.bad k o ho) (fun d hd=>⟨hF k (.head _) o d ho hd,hF k (.head _) o d ho hd⟩) h1 with ⟨rfl,b1,q1,q2⟩ | ⟨v,rfl,_,_,q3,q4⟩
        · simp only at h
          rw [aopsI_ob hG hk0 is hN.2 (hF.step hG hN.1 ho h1) h]
          exact q2.fr.sl k0 (hk0 o (List.mem_of_getElem? ho))
        · simp only [Option.some.injEq, Prod.mk.injEq] at h
          obtain ⟨rfl,rfl⟩:=h
          rw [q3]; rfl
    · cases h
end
structure Pend (r : Nat→Nat→Prop) (n : Nat) (ops : Array Oper) (pend : List Nat) (listed : Array Bool) : Prop where
  size : listed.size = n
  sorted : pend.Pairwise r
  lt : ∀ k ∈ pend,k < n
  at' : ∀ k,k < n→(listed.getD k true = true↔k ∉ pend)
  closed : ∀ k o,k < n→k ∉ pend→ops[k]? = some o→∀ e ∈ edgeOn o,e ∉ pend
theorem Pend.before {r : Nat→Nat→Prop} {n : Nat} {ops : Array Oper} {pend : List Nat} {listed : Array Bool} (h : Pend r n ops pend listed) (hn : n = ops.size) {bs : List Nat} (hb : bsOk bs ops.toList 0 = true) :
    ∀ (k : Nat),k < n→k ∉ pend→∀ j,j < k→bAt bs k j = true→j ∉ pend:=by
  intro k
  induction k using Nat.strongRecOn with
  | _ k ih =>
    intro hk hkp j hj hB
    have hks : k < ops.size:=by omega
    have ho : ops.toList[k]? = some ops[k]:=by simp [hks]
    have:=bsOk_get hb k ho
    simp only [Nat.zero_add,bsOkAt,Bool.and_eq_true,List.all_eq_true,decide_eq_true_eq,List.mem_range,Bool.or_eq_true,Bool.not_eq_true',List.any_eq_true,beq_iff_eq] at this
    obtain ⟨h1,h2⟩:=this
    have ho' : ops[k]? = some ops[k]:=by simp [hks]
    rcases h2 j hj with h3 | ⟨e,he,h3⟩
    · rw [hB] at h3; cases h3
    · have hep := h.closed k _ hk hkp ho' e he
      rcases h3 with rfl | ⟨hje,h3⟩
      · exact hep
      · have hek := h1 e he
        exact ih e hek (by omega) hep j hje h3
theorem Pend.ready {r : Nat→Nat→Prop} {n : Nat} {ops : Array Oper} {pend : List Nat} {listed : Array Bool} (h : Pend r n ops pend listed) (hn : n = ops.size) {bs : List Nat} (hb : bsOk bs ops.toList 0 = true) (i : Nat) :
    i ∈ Region.ready .any ops listed↔i ∈ pend∧∀ o,ops[i]? = some o→∀ e ∈ edgeOn o,e ∉ pend:=by
  simp only [Region.ready,List.mem_filter,List.mem_range,Bool.and_eq_true,Bool.not_eq_true']
  constructor
  · rintro ⟨hi, hl, ha⟩
    have hin : i < n:=by omega
    have hip : i ∈ pend:=by
      refine Classical.byContradiction fun hc=>?_
      rw [(h.at' i hin).2 hc] at hl; cases hl
    refine ⟨hip,fun o ho e he=>?_⟩
    have ho' : ops.toList[i]? = some o:=by simpa using ho
    have hb1:=bsOk_get hb i ho'
    simp only [Nat.zero_add,bsOkAt,Bool.and_eq_true,List.all_eq_true,decide_eq_true_eq] at hb1
    have hei:=hb1.1 e he
    simp only [ho,Option.map_some,Option.getD_some,Array.all_eq_true_iff_forall_mem,Bool.or_eq_true,Bool.not_eq_true'] at ha
    simp only [edgeOn,List.mem_map,List.mem_filter,Array.mem_toList_iff] at he
    obtain ⟨ed,⟨h1,h2⟩,rfl⟩:=he
    rcases ha ed h1 with h3 | h3
    · rw [h2] at h3; cases h3
    · refine (h.at' _ (by omega)).1 ?_
      have hsz : ed.on < listed.size:=by rw [h.size]; omega
      simp only [Array.getD,hsz,dif_pos] at h3 ⊢
      exact h3
  · rintro ⟨hip, ha⟩
    have hin:=h.lt i hip
    have his : i < ops.size:=by omega
    refine ⟨by omega,?_,?_⟩
    · cases hl : listed.getD i true with
      | false=>rfl
      | true=>exact absurd hip ((h.at' i hin).1 hl)
    · have ho : ops[i]? = some ops[i] := by simp [his]
      have ho' : ops.toList[i]? = some ops[i]:=by simp [his]
      have hb1:=bsOk_get hb i ho'
      simp only [Nat.zero_add,bsOkAt,Bool.and_eq_true,List.all_eq_true,decide_eq_true_eq] at hb1
      simp only [ho,Option.map_some,Option.getD_some,Array.all_eq_true_iff_forall_mem,Bool.or_eq_true,Bool.not_eq_true']
      intro ed hed
      by_cases hbi : Region.binds .any ed = true
      · right
        have he : ed.on ∈ edgeOn ops[i]:=by
          simp only [edgeOn,List.mem_map,List.mem_filter,Array.mem_toList_iff]
          exact ⟨ed,⟨hed,hbi⟩,rfl⟩
        have h1:=ha _ ho _ he
        have h2:=hb1.1 _ he
        have h3:=(h.at' ed.on (by omega)).2 h1
        have hsz : ed.on < listed.size:=by rw [h.size]; omega
        simp only [Array.getD,hsz,dif_pos] at h3 ⊢
        exact h3
      · left; simpa using hbi
theorem Pend.take {r : Nat→Nat→Prop} (hne : ∀ a b,r a b→a≠b) {n : Nat} {ops : Array Oper} {pre post : List Nat} {i : Nat} {listed : Array Bool} (h : Pend r n ops (pre++i :: post) listed) (hi : ∀ o,ops[i]? = some o→∀ e ∈ edgeOn o,e ∉ pre++i :: post) :
    Pend r n ops (pre++post) (listed.setIfInBounds i true):=by
  have hs:=h.sorted
  have hmem : ∀ k,k ∈ pre++post→k ∈ pre++i :: post:=by
    intro k hk
    simp only [List.mem_append,List.mem_cons] at hk ⊢
    rcases hk with h | h
    · exact .inl h
    · exact .inr (.inr h)
  have hin : i ∉ pre++post:=by
    rw [List.pairwise_append,List.pairwise_cons] at hs
    obtain ⟨_,⟨h2,_⟩,h3⟩:=hs
    simp only [List.mem_append,not_or]
    exact ⟨fun hi=>hne _ _ (h3 i hi i (by simp)) rfl,fun hi=>hne _ _ (h2 i hi) rfl⟩
  have hiff : ∀ k,k≠i→(k ∈ pre++i :: post↔k ∈ pre++post):=by
    intro k hk
    simp only [List.mem_append,List.mem_cons,hk,false_or]
  have hilt : i < n:=h.lt i (by simp)
  refine ⟨by simp [h.size],?_,fun k hk=>h.lt k (hmem k hk),fun k hk=>?_,fun k o hk hkp ho e he=>?_⟩
  · exact hs.sublist (List.Sublist.append (List.Sublist.refl _) (List.sublist_cons_self _ _))
  · by_cases hki : k = i
    · subst hki
      have : k < listed.size:=by rw [h.size]; exact hk
      simp [Array.getD,this,hin]
    · rw [← hiff k hki, ← h.at' k hk]
      have hik : ¬ i = k:=fun e=>hki e.symm
      simp [Array.getD_eq_getD_getElem?,Array.getElem?_setIfInBounds,hik]
  · intro hm
    by_cases hki : k = i
    · subst hki
      exact hi o ho e he (hmem e hm)
    · exact h.closed k o hk (fun hc=>hkp ((hiff k hki).1 hc)) ho e he (hmem e hm)
section
variable {aos : List AOper} {R : Rec} {ops : Array Oper} {bs : List Nat}
theorem perm_go (hG : GoodA R aos) (hn : aos.length = ops.size) (hb : bsOk bs ops.toList 0 = true)
    {r : Nat→Nat→Prop} (hne : ∀ a b,r a b→a≠b) (hext : ∀ a b o,r a b→ops[a]? = some o→b ∉ edgeOn o)
    (hp : ∀ (i j : Nat) {o p : AOper},aos[i]? = some o→aos[j]? = some p→r j i→(j < i∧bAt bs i j = true)∨(apart p o = true∧p.blk≠some 66666)) :
    ∀ (fuel : Nat) (pend : List Nat) (listed : Array Bool) (t : Nat) {st s : St} {x : AEx},pend.length≤fuel→Pend r aos.length ops pend listed→Fresh aos pend st→aopsI R aos pend st = some (x,s) →
      ∃ s',aopsI R aos (Region.linearise.go .any ops fuel t listed []) st = some (x,s')∧EndEq aos x s s':=by
  intro fuel
  induction fuel with
  | zero =>
    intro pend listed t st s x hl hP hF h
    have : pend = []:=List.eq_nil_of_length_eq_zero (by omega)
    subst this
    exact ⟨s,by simpa [Region.linearise.go] using h,.inl (Eqv.refl s)⟩
  | succ fuel ih =>
    intro pend listed t st s x hl hP hF h
    simp only [Region.linearise.go]
    change ∃ s',aopsI R aos (match (Region.ready .any ops listed)[t % (Region.ready .any ops listed).length]? with
      | some i=>Region.linearise.go .any ops fuel (t / (Region.ready .any ops listed).length) (listed.setIfInBounds i true) [i]
      | none=>[].reverse) st = some (x,s')∧EndEq aos x s s'
    cases hr : (Region.ready .any ops listed)[t % (Region.ready .any ops listed).length]? with
    | none =>
      have hnil : Region.ready .any ops listed = []:=by
        cases hr2 : Region.ready .any ops listed with
        | nil=>rfl
        | cons a l =>
          rw [hr2] at hr
          have hlt : t % (a :: l).length < (a :: l).length:=Nat.mod_lt _ (by simp)
          rw [List.getElem?_eq_none_iff] at hr
          omega
      have : pend = []:=by
        cases pend with
        | nil=>rfl
        | cons i0 r =>
          have : i0 ∈ Region.ready .any ops listed:=by
            rw [hP.ready hn hb]
            refine ⟨.head _,fun o ho e he hm=>?_⟩
            have ho' : ops.toList[i0]? = some o:=by simpa using ho
            have hb1:=bsOk_get hb i0 ho'
            simp only [Nat.zero_add,bsOkAt,Bool.and_eq_true,List.all_eq_true,decide_eq_true_eq] at hb1
            have hlt:=hb1.1 e he
            simp only [List.mem_cons] at hm
            rcases hm with rfl | hm
            · omega
            · have := hP.sorted
              rw [List.pairwise_cons] at this
              exact hext _ _ _ (this.1 e hm) ho he
          rw [hnil] at this
          cases this
      subst this
      exact ⟨s,by simpa using h,.inl (Eqv.refl s)⟩
    | some i =>
      simp only
      have hir : i ∈ Region.ready .any ops listed:=List.mem_of_getElem? hr
      rw [hP.ready hn hb] at hir
      obtain ⟨hip,hie⟩:=hir
      obtain ⟨pre,post,rfl⟩:=List.append_of_mem hip
      have hilt:=hP.lt i hip
      have hoi : aos[i]? = some aos[i]:=by simp [hilt]
      have hN : (pre++i :: post).Nodup:=hP.sorted.imp (fun h=>hne _ _ h)
      have hpre : ∀ j ∈ pre,∀ oj,aos[j]? = some oj→apart oj aos[i] = true∧oj.blk≠some 66666:=by
        intro j hj oj hoj
        have hjr : r j i:=by
          have:=hP.sorted
          rw [List.pairwise_append] at this
          exact this.2.2 j hj i (by simp)
        rcases hp i j hoi hoj hjr with ⟨hji,h1⟩ | h1
        · exfalso
          have hios : i < ops.size:=by omega
          have ho : ops[i]? = some ops[i]:=by simp [hios]
          have ho' : ops.toList[i]? = some ops[i]:=by simp [hios]
          have hb1:=bsOk_get hb i ho'
          simp only [Nat.zero_add,bsOkAt,Bool.and_eq_true,List.all_eq_true,decide_eq_true_eq,List.mem_range,Bool.or_eq_true,Bool.not_eq_true',List.any_eq_true,beq_iff_eq] at hb1
          obtain ⟨q1,q2⟩:=hb1
          have hjp : j ∈ pre++i :: post:=by simp [hj]
          rcases q2 j hji with h3 | ⟨e,he,h3⟩
          · rw [h1] at h3; cases h3
          · have hep := hie _ ho e he
            rcases h3 with rfl | ⟨hje,h3⟩
            · exact hep hjp
            · exact hP.before hn hb e (by have:=q1 e he; omega) hep j hje h3 hjp
        · exact h1
      rcases front hG hoi post pre hN hF hpre h with ⟨st1,s1,h2,h1,e1⟩ | ⟨v,st1,rfl,h2,hS,hob⟩
      · have hP' := hP.take hne hie
        have hin : i ∉ pre++post:=by
          rw [List.nodup_append] at hN
          obtain ⟨a1,a2,a3⟩:=hN
          rw [List.nodup_cons] at a2
          simp only [List.mem_append,not_or]
          exact ⟨fun hi=>a3 i hi i (by simp) rfl,a2.1⟩
        have hF' : Fresh aos (pre++post) st1:=by
          refine Fresh.step (k:=i) (is:=pre++post) hG (fun k hk=>hF k ?_) hin hoi h2
          simp only [List.mem_append,List.mem_cons] at hk ⊢
          rcases hk with rfl | hk | hk
          · exact .inr (.inl rfl)
          · exact .inl hk
          · exact .inr (.inr hk)
        obtain ⟨s2,h3,e3⟩:=ih (pre++post) (listed.setIfInBounds i true) (t / (Region.ready .any ops listed).length) (by simp at hl ⊢; omega) hP' hF' h1
        refine ⟨s2,?_,(show EndEq aos x s s1 from .inl e1).trans e3⟩
        rw [linearise_go_acc]
        simp only [List.reverse_singleton,List.singleton_append,aopsI,hoi,h2]
        exact h3
      · refine ⟨st1, ?_, .inr ⟨⟨v, rfl⟩, hS, fun k hk => ?_⟩⟩
        · rw [linearise_go_acc]
          simp only [List.reverse_singleton,List.singleton_append,aopsI,hoi,h2]
        · rw [hob k]
          exact (aopsI_ob hG hk _ hN hF h).symm
theorem total_go (hn : aos.length = ops.size) (hb : bsOk bs ops.toList 0 = true) (hp : ∀ (i j : Nat),i < aos.length→j < i→bAt bs i j = true) :
    ∀ (fuel : Nat) (pend : List Nat) (listed : Array Bool) (t : Nat),pend.length≤fuel→Pend (· < ·) aos.length ops pend listed→Region.linearise.go .any ops fuel t listed [] = pend:=by
  intro fuel
  induction fuel with
  | zero =>
    intro pend listed t hl hP
    have : pend = []:=List.eq_nil_of_length_eq_zero (by omega)
    subst this
    simp [Region.linearise.go]
  | succ fuel ih =>
    intro pend listed t hl hP
    simp only [Region.linearise.go]
    change (match (Region.ready .any ops listed)[t % (Region.ready .any ops listed).length]? with
      | some i=>Region.linearise.go .any ops fuel (t / (Region.ready .any ops listed).length) (listed.setIfInBounds i true) [i]
      | none=>[].reverse) = pend
    cases hr : (Region.ready .any ops listed)[t % (Region.ready .any ops listed).length]? with
    | none =>
      have hnil : Region.ready .any ops listed = []:=by
        cases hr2 : Region.ready .any ops listed with
        | nil=>rfl
        | cons a l =>
          rw [hr2] at hr
          have hlt : t % (a :: l).length < (a :: l).length:=Nat.mod_lt _ (by simp)
          rw [List.getElem?_eq_none_iff] at hr
          omega
      cases pend with
      | nil=>rfl
      | cons i0 r =>
        have : i0 ∈ Region.ready .any ops listed:=by
          rw [hP.ready hn hb]
          refine ⟨.head _,fun o ho e he hm=>?_⟩
          have ho' : ops.toList[i0]? = some o:=by simpa using ho
          have hb1:=bsOk_get hb i0 ho'
          simp only [Nat.zero_add,bsOkAt,Bool.and_eq_true,List.all_eq_true,decide_eq_true_eq] at hb1
          have hlt:=hb1.1 e he
          simp only [List.mem_cons] at hm
          rcases hm with rfl | hm
          · omega
          · have := hP.sorted
            rw [List.pairwise_cons] at this
            have:=this.1 e hm
            omega
        rw [hnil] at this
        cases this
    | some i =>
      simp only
      have hir : i ∈ Region.ready .any ops listed:=List.mem_of_getElem? hr
      rw [hP.ready hn hb] at hir
      obtain ⟨hip,hie⟩:=hir
      obtain ⟨pre,post,rfl⟩:=List.append_of_mem hip
      have hilt:=hP.lt i hip
      have hpre : pre = []:=by
        cases pre with
        | nil=>rfl
        | cons j pre =>
          exfalso
          have hji : j < i:=by
            have:=hP.sorted
            rw [List.pairwise_append] at this
            exact this.2.2 j (.head _) i (by simp)
          have h1:=hp i j hilt hji
          have hios : i < ops.size:=by omega
          have ho : ops[i]? = some ops[i]:=by simp [hios]
          have ho' : ops.toList[i]? = some ops[i]:=by simp [hios]
          have hb1:=bsOk_get hb i ho'
          simp only [Nat.zero_add,bsOkAt,Bool.and_eq_true,List.all_eq_true,decide_eq_true_eq,List.mem_range,Bool.or_eq_true,Bool.not_eq_true',List.any_eq_true,beq_iff_eq] at hb1
          obtain ⟨q1,q2⟩:=hb1
          have hjp : j ∈ (j :: pre)++i :: post:=by simp
          rcases q2 j hji with h3 | ⟨e,he,h3⟩
          · rw [h1] at h3; cases h3
          · have hep := hie _ ho e he
            rcases h3 with rfl | ⟨hje,h3⟩
            · exact hep hjp
            · exact hP.before hn hb e (by have:=q1 e he; omega) hep j hje h3 hjp
      subst hpre
      have hP':=hP.take (fun a b h=>by omega) hie
      rw [linearise_go_acc,ih ([]++post) _ _ (by simp at hl ⊢; omega) hP']
      simp
theorem pend_start {n : Nat} : Pend (· < ·) n ops (List.range n) (Array.replicate n false) :=
  ⟨by simp,List.pairwise_lt_range,fun k hk=>by simpa using hk,fun k hk=>by simp [Array.getD,hk],fun k o hk hkp _=>absurd (by simpa using hk) hkp⟩
theorem aopsI_range (rec : Rec) (aos : List AOper) : ∀ (l : List AOper) (k : Nat) (st : St),(∀ j,l[j]? = aos[k + j]?)→aopsI rec aos (List.range' k l.length) st = aops rec l st
  | [],k,st,_=>rfl
  | o :: l, k, st, h => by
    have h0 : aos[k]? = some o:=by simpa using (h 0).symm
    have ih : ∀ st',aopsI rec aos (List.range' (k + 1) l.length) st' = aops rec l st':=fun st'=>aopsI_range rec aos l (k + 1) st' fun j=>by have:=h (j + 1); simpa [Nat.add_assoc,Nat.add_comm 1 j] using this
    simp only [List.length_cons,List.range'_succ,aopsI,h0,aops,ih] <;> rfl
theorem aopsI_all (rec : Rec) (aos : List AOper) (st : St) : aopsI rec aos (List.range aos.length) st = aops rec aos st:=by
  rw [List.range_eq_range']
  exact aopsI_range rec aos aos 0 st fun j=>by simp
theorem draw_order0 {rec : Rec} {quiet : Bool} (hn : aos.length = ops.size) (hb : bsOk bs ops.toList 0 = true) (hd : drawOk quiet aos bs = true) {st s : St} {x : AEx} (hF : Fresh aos (List.range aos.length) st)
    (h : aops (if quiet then rec.quiet else rec) aos st = some (x,s)) (t : Nat) :
    ∃ s',aopsI (if quiet then rec.quiet else rec) aos (Region.linearise .any ops t) st = some (x,s')∧EndEq aos x s s':=by
  unfold Region.linearise
  simp only [drawOk,Bool.or_eq_true,Bool.and_eq_true,List.all_eq_true,decide_eq_true_eq] at hd
  rw [← aopsI_all] at h
  rw [← hn]
  rcases hd with hd | ⟨⟨⟨hq,hbad⟩,hd⟩,hps⟩
  · rw [total_go hn hb (fun i j hi hj=>by
      have hi' : aos[i]? = some aos[i]:=by simp [hi]
      have hj' : aos[j]? = some (aos[j]'(by omega)):=by rw [List.getElem?_eq_getElem]
      have:=pairsAll_get hd i j hi' hj' (by omega)
      simpa using this) aos.length (List.range aos.length) _ t (by simp) pend_start]
    exact ⟨s,h,.inl (Eqv.refl s)⟩
  · have hpair : ∀ (i j : Nat) {o p : AOper},aos[i]? = some o→aos[j]? = some p→j < i→pairOk bs j i p o = true:=by
      intro i j o p ho hp hj
      have:=pairsAll_get hd i j ho hp (by omega)
      simpa using this
    have hsafe : ∀ (i j : Nat) {o p : AOper},aos[i]? = some o→aos[j]? = some p→j < i→panicSafe bs j i p o = true:=by
      intro i j o p ho hp hj
      have:=pairsAll_get hps i j ho hp (by omega)
      simpa using this
    have hsn : ∀ (i j : Nat) {o p : AOper} (d : Nat),aos[i]? = some o→aos[j]? = some p→j < i→p.mem = .new d→o.mem≠.new d:=by
      intro i j o p d ho hp hj h1 h2
      have:=hpair i j ho hp hj
      simp [pairOk,sameNew,h1,h2] at this
    have hG : GoodA (if quiet then rec.quiet else rec) aos:=⟨fun k o ho hm=>by
      rcases hq with rfl | hq
      · exact quiet_rec rec
      · exact absurd hm (hq o (List.mem_of_getElem? ho)),fun k o ho=>hbad o (List.mem_of_getElem? ho),fun k k' o o' d hne ho ho' h1 h2=>by
      rcases Nat.lt_or_gt_of_ne hne with hlt | hlt
      · exact hsn k' k d ho' ho hlt h1 h2
      · exact hsn k k' d ho ho' hlt h2 h1⟩
    exact perm_go hG hn hb (r:=(· < ·)) (fun a b h=>by omega) (fun a b o h ho he=>by
      have hb1:=bsOk_get hb a (by simpa using ho)
      simp only [Nat.zero_add,bsOkAt,Bool.and_eq_true,List.all_eq_true,decide_eq_true_eq] at hb1
      have:=hb1.1 b he
      omega) (fun i j o p ho hp hj=>by
      have h1:=hpair i j ho hp hj
      have h2:=hsafe i j ho hp hj
      simp only [pairOk,panicSafe,Bool.and_eq_true,Bool.or_eq_true,Bool.not_eq_true',beq_eq_false_iff_ne,ne_eq] at h1 h2
      rcases h2 with h2 | h2
      · rcases h1.1 with h1 | h1
        · exact .inl ⟨hj,h1⟩
        · exact .inr ⟨h1,h2⟩
      · exact .inl ⟨hj,h2⟩) aos.length (List.range aos.length) _ t (by simp) pend_start hF h
def prs (f : Nat→Nat→Bool) : List Nat→Bool
  | []=>true
  | a :: l=>l.all (fun b=>f a b) && prs f l
theorem prs_pairwise {f : Nat→Nat→Bool} : ∀ {l : List Nat},prs f l = true→l.Pairwise (fun a b=>f a b = true)
  | [],_=>.nil
  | a :: l, h => by
    simp only [prs,Bool.and_eq_true,List.all_eq_true] at h
    exact .cons h.1 (prs_pairwise h.2)
theorem pairwise_or {r : Nat→Nat→Prop} : ∀ {l : List Nat},l.Pairwise r→∀ a b,a ∈ l→b ∈ l→a≠b→r a b∨r b a
  | [],_,a,b,h,_,_=>by cases h
  | x :: l, h, a, b, ha, hb, hn => by
    rw [List.pairwise_cons] at h
    rcases List.mem_cons.1 ha with e | ha'
    · rcases List.mem_cons.1 hb with e' | hb'
      · exact absurd (e.trans e'.symm) hn
      · subst e; exact .inl (h.1 b hb')
    · rcases List.mem_cons.1 hb with e' | hb'
      · subst e'; exact .inr (h.1 a ha')
      · exact pairwise_or h.2 a b ha' hb' hn
def ordOk (bs : List Nat) (aos : List AOper) (os : List Oper) (a b : Nat) : Bool :=
  a != b && (match os[a]?,aos[a]?,aos[b]? with
    | some o,some p,some q=>!((edgeOn o).contains b) && !sameNew p q && !sameNew q p && ((decide (a < b) && bAt bs b a) || (apart p q && !(p.blk == some 66666)))
    | _,_,_=>false)
def drawOkX (quiet : Bool) (aos : List AOper) (bs : List Nat) (os : List Oper) : Bool:=match bs with
  | (k + 1) :: _ =>
    let l:=permO k (List.range aos.length)
    decide (l.length = aos.length) && l.all (fun i=>decide (i < aos.length)) && (List.range aos.length).all (fun i=>l.contains i) && (quiet || aos.all (fun o=>decide (o.mem≠.call))) && aos.all (fun o=>decide (o.mem≠.bad)) && prs (ordOk bs aos os) l
  | _=>drawOk quiet aos bs
theorem permO_map {α β : Type} (f : α→β) (k : Nat) (l : List α) : permO k (l.map f) = (permO k l).map f:=by
  simp [permO,List.map_take,List.map_drop]
theorem aopsI_map (rec : Rec) (aos : List AOper) : ∀ (is : List Nat) (st : St),(∀ i ∈ is,i < aos.length)→aopsI rec aos is st = aops rec (is.map fun i=>aos.getD i { op:=.nils 0 0 0 }) st
  | [],st,_=>rfl
  | i :: is, st, h => by
    have hi:=h i (.head _)
    have h0 : aos[i]? = some aos[i]:=by simp [hi]
    have ih : ∀ st',aopsI rec aos is st' = aops rec (is.map fun i=>aos.getD i { op:=.nils 0 0 0 }) st':=fun st'=>aopsI_map rec aos is st' fun j hj=>h j (.tail _ hj)
    have hg : aos.getD i { op:=.nils 0 0 0 } = aos[i]:=by simp [List.getD,h0]
    simp only [List.map_cons,aopsI,h0,aops,ih,hg] <;> rfl
theorem range_getD (aos : List AOper) : (List.range aos.length).map (fun i=>aos.getD i { op:=.nils 0 0 0 }) = aos:=by
  apply List.ext_getElem?
  intro i
  rw [List.getElem?_map]
  by_cases h : i < aos.length
  · simp [h]
  · simp [List.getElem?_eq_none (Nat.le_of_not_lt h),h]
theorem draw_order {rec : Rec} {quiet : Bool} (hn : aos.length = ops.size) (hb : bsOk bs ops.toList 0 = true) (hd : drawOkX quiet aos bs ops.toList = true) {st s : St} {x : AEx} (hF : ∀ is,Fresh aos is st)
    (h : aops (if quiet then rec.quiet else rec) (porder (some bs) aos) st = some (x,s)) (t : Nat) :
    ∃ s',aopsI (if quiet then rec.quiet else rec) aos (Region.linearise .any ops t) st = some (x,s')∧EndEq aos x s s':=by
  unfold drawOkX at hd
  split at hd
  · rename_i k b
    rw [porder_succ] at h
    simp only [Bool.and_eq_true,decide_eq_true_eq,List.all_eq_true,List.mem_range,List.contains_iff_mem,Bool.or_eq_true] at hd
    obtain ⟨⟨⟨⟨⟨d1,d2⟩,d3⟩,hq⟩,hbad⟩,d6⟩:=hd
    have hpw:=prs_pairwise d6
    have e : permO k aos = (permO k (List.range aos.length)).map fun i=>aos.getD i { op:=.nils 0 0 0 }:=by
      rw [← permO_map,range_getD]
    generalize permO k (List.range aos.length) = l at *
    rw [e,← aopsI_map _ _ _ _ d2] at h
    have hG : GoodA (if quiet then rec.quiet else rec) aos:=⟨fun k o ho hm=>by
      rcases hq with rfl | hq
      · exact quiet_rec rec
      · exact absurd hm (hq o (List.mem_of_getElem? ho)),fun k o ho=>hbad o (List.mem_of_getElem? ho),fun i j o o' d hne ho ho' h1 h2=>by
      have hi : i < aos.length:=(List.getElem?_eq_some_iff.1 ho).1
      have hj : j < aos.length:=(List.getElem?_eq_some_iff.1 ho').1
      rcases pairwise_or hpw i j (d3 i hi) (d3 j hj) hne with hh | hh
      · simp only [ordOk, ho, ho'] at hh
        simp only [Bool.and_eq_true] at hh
        obtain ⟨_,hh⟩:=hh
        split at hh
        · rename_i q1 q2 q3
          obtain rfl:=Option.some.inj q2
          obtain rfl:=Option.some.inj q3
          simp [sameNew,h1,h2] at hh
        · cases hh
      · simp only [ordOk, ho, ho'] at hh
        simp only [Bool.and_eq_true] at hh
        obtain ⟨_,hh⟩:=hh
        split at hh
        · rename_i q1 q2 q3
          obtain rfl:=Option.some.inj q2
          obtain rfl:=Option.some.inj q3
          simp [sameNew,h1,h2] at hh
        · cases hh⟩
    unfold Region.linearise
    rw [← hn]
    refine perm_go hG hn hb (r:=fun a c=>ordOk ((k + 1) :: b) aos ops.toList a c = true) (fun a c hh=>?_) (fun a c o hh ho he=>?_) (fun i j o p ho hp hh=>?_) aos.length l _ t (by omega) ⟨by simp,hpw,d2,fun i hi=>by simp [Array.getD,hi,d3 i hi],fun i o hi hip _=>absurd (d3 i hi) hip⟩ (hF _) h
    · simp only [ordOk, Bool.and_eq_true, bne_iff_ne, ne_eq] at hh
      exact hh.1
    · have ho' : ops.toList[a]? = some o := by simpa using ho
      simp only [ordOk,Bool.and_eq_true,ho'] at hh
      obtain ⟨_,hh⟩:=hh
      split at hh
      · rename_i q1 q2 q3
        obtain rfl:=Option.some.inj q1
        simp only [Bool.and_eq_true,Bool.not_eq_true',List.contains_eq_mem,decide_eq_false_iff_not] at hh
        exact hh.1.1.1 he
      · cases hh
    · simp only [ordOk, Bool.and_eq_true, ho, hp] at hh
      obtain ⟨_,hh⟩:=hh
      split at hh
      · rename_i q1 q2 q3
        obtain rfl:=Option.some.inj q2
        obtain rfl:=Option.some.inj q3
        simp only [Bool.and_eq_true,Bool.or_eq_true,decide_eq_true_eq,Bool.not_eq_true',beq_eq_false_iff_ne,ne_eq] at hh
        rcases hh.2 with h1 | h1
        · exact .inl h1
        · exact .inr h1
      · cases hh
  · have h' : aops (if quiet then rec.quiet else rec) aos st = some (x,s):=by
      have e : porder (some bs) aos = aos:=by
        cases bs with
        | nil=>rfl
        | cons k b =>
          cases k with
          | zero=>rfl
          | succ k=>rename_i hh; exact absurd rfl (hh k b)
      rwa [e] at h
    exact draw_order0 hn hb hd (hF _) h' t
theorem killAll_get : ∀ (ds : List Nat) (σ : Slots) (k : Nat),(σ.killAll ds).get k = .junk∨((σ.killAll ds).get k = σ.get k∧∀ d ∈ ds,(σ.get k).aims d = false)
  | [],σ,k=>.inr ⟨rfl,fun d hd=>by cases hd⟩
  | d :: ds, σ, k => by
    simp only [Slots.killAll]
    rcases killAll_get ds (σ.kill d) k with h | ⟨h1,h2⟩
    · exact .inl h
    · rw [Slots.get_kill] at h1 h2
      cases hk : (σ.get k).aims d with
      | true =>
        left
        rw [h1]
        cases hg : σ.get k with
        | l d' off=>rw [hg] at hk; simp [SV.aims] at hk; simp [SV.kill,hk]
        | ls d' sz ag n=>rw [hg] at hk; simp [SV.aims] at hk; simp [SV.kill,hk]
        | _=>rw [hg] at hk; simp [SV.aims] at hk
      | false =>
        have e : (σ.get k).kill d = σ.get k:=aims_kill hk
        right
        rw [e] at h1 h2
        refine ⟨h1,fun d' hd'=>?_⟩
        simp only [List.mem_cons] at hd'
        rcases hd' with rfl | hd'
        · exact hk
        · exact h2 d' hd'
theorem prep_fresh (aos : List AOper) (is : List Nat) (st : St) : Fresh aos is (st.prep aos):=by
  intro k _ o d ho hm k'
  have hd : d ∈ newsOf aos:=by
    simp only [newsOf,List.mem_flatMap]
    refine ⟨o,List.mem_of_getElem? ho,?_⟩
    revert hm
    unfold AOper.mem AOp.news
    cases o.op <;> simp
    case box d' sh x nl=>cases sh <;> simp <;> (intro e; exact e.symm)
    case alloc d' sh z own=>cases sh <;> simp <;> (intro e; exact e.symm)
    case makeL=>intro e; exact e.symm
    case cloneL=>intro e; exact e.symm
    case load=>split <;> simp
    case take=>split <;> simp
    case store=>split <;> simp
    case call=>split <;> (try split) <;> simp
    case callv=>split <;> (try split) <;> simp
  simp only [St.prep]
  rcases killAll_get (newsOf aos) st.σ k' with h | ⟨h1,h2⟩
  · rw [h]; rfl
  · rw [h1]; exact h2 d hd
theorem Inv.prep {g : Gh} {W : World} {a : Act} {N : Nat} {L : Nat→Nat} {st : St} (hi : Inv g W a N L st) (aos : List AOper) : Inv g W a N L (st.prep aos):=by
  refine ⟨hi.size,fun k=>?_,fun k e hk=>?_,hi.loc,hi.sh⟩
  · simp only [St.prep]
    rcases killAll_get (newsOf aos) st.σ k with h | ⟨h1,h2⟩
    · rw [h]; trivial
    · rw [h1]; exact hi.slot k
  · obtain ⟨x, h1, h2⟩ := hi.own k e hk
    refine ⟨x,?_,h2⟩
    simp only [St.prep]
    have : ∀ (ds : List Nat) (σ : Slots),σ.get k = .v x→(σ.killAll ds).get k = .v x:=by
      intro ds
      induction ds with
      | nil=>intro σ h; exact h
      | cons d ds ih=>intro σ h; exact ih _ (by rw [Slots.get_kill,h]; rfl)
    exact this _ _ h1
end
end Go.Av
set_option linter.unusedVariables false
set_option linter.unusedSimpArgs false
set_option linter.unusedSectionVars false
namespace Go.Av
open Go
def mCode (P : Program) (N : Nat) : ACode→Code→Bool
  | .skip _ _,.skip=>true
  | .region aos bs quiet _ _,.region _ ops draw=>mOpers P N ops aos ops.toList &&
      (match bs with | none=>!draw | some bs=>draw && bsOk bs ops.toList 0 && drawOkX quiet aos bs ops.toList)
  | .seq a b,.seq c d=>mCode P N a c && mCode P N b d
  | .cond x a b,.cond y c d=>mOpd x y && mCode P N a c && mCode P N b d
  | .block i a,.block j c=>i == j && mCode P N a c
  | .loop a,.loop c=>mCode P N a c
  | .exit i _ _,.exit j=>i == j
  | .ret,.ret=>true
  | .freeze _ a,c=>mCode P N a c
  | .scope a,.scope c=>mCode P N a c
  | .label,.label _=>true
  | _,_=>false
section
variable {P : Program} {W0 : World} {N : Nat}
theorem Inv.keep' {g : Gh} {W : World} {a : Act} {L : Nat→Nat} {st : St} (h : Inv g W a N L st) (live locs : List Nat) : Inv g W a N L (st.keep live locs):=by
  refine ⟨h.size,fun k=>?_,fun k e hk=>?_,fun d x hx=>h.loc d x (Locs.get_keep _ _ _ hx),h.sh⟩
  · simp only [St.keep, Slots.get_keep]
    split
    · exact h.slot k
    · trivial
  · simp only [St.keep, List.mem_filterMap, Option.map_eq_some_iff] at hk
    obtain ⟨j,hj,e',he,h2⟩:=hk
    simp only [Prod.mk.injEq] at h2
    obtain ⟨rfl,rfl⟩:=h2
    obtain ⟨x,q1,q2⟩:=h.own _ _ (rightOf_mem he)
    refine ⟨x,?_,q2⟩
    simp [St.keep,Slots.get_keep,hj,q1]
theorem freeze_get (σ : Slots) (d : Nat) (cs : List AV) (k : Nat) : (σ.freeze d cs).get k = (σ.get k).frozen d cs:=by
  induction σ with
  | nil=>rfl
  | cons p r ih =>
    obtain ⟨j,x⟩:=p
    simp only [Slots.freeze,Slots.get]
    split
    · rfl
    · exact ih
theorem Inv.freeze {g : Gh} {W : World} {a : Act} {L : Nat→Nat} {st st' : St} (h : Inv g W a N L st) {d : Nat} (hf : st.freeze d = some st') : ∃ g',Ext g W g' W∧Inv g' W a N L st':=by
  unfold St.freeze at hf
  split at hf
  · rename_i bx hbx
    simp only [Option.some.injEq] at hf
    subst hf
    obtain ⟨cs,ty,hb,hl,ho,hT,hr⟩:=h.loc d bx hbx
    have hlt:=lt_of_heap hb
    let g' : Gh:={ g with T:=upd g.T (L d) bx.cells.length,O:=upd g.O (L d) .free }
    have hne : g.O (L d)≠.ext:=by rw [ho]; simp
    have hK : Keeps g W g' W:=⟨fun c=>by
      show g.T c≤upd g.T (L d) bx.cells.length c
      by_cases e : c = L d
      · subst e; rw [upd_same,hT]; omega
      · rw [upd_other _ _ _ _ e]; exact Nat.le_refl _,fun _ _ _=>rfl,fun _ _ h=>h⟩
    have hX : Ext g W g' W:=⟨hK,Nat.le_refl _,rfl,rfl,rfl,fun c hc=>by
      have e : c≠L d:=fun e=>by subst e; exact hne hc
      exact ⟨by show upd g.O (L d) .free c = _; rw [upd_other _ _ _ _ e]; exact hc,rfl,by show upd g.T (L d) bx.cells.length c = _; rw [upd_other _ _ _ _ e]⟩⟩
    have h0 : Inv g W a N L { st with loc:=st.loc.del d }:=h.sub rfl (fun _ h=>h) (fun d' x' hx=>by
      simp only [Locs.get_del] at hx
      split at hx
      · cases hx
      · exact ⟨x',hx,x'.le_refl⟩) rfl (fun _ x hx=>⟨x,hx,x.le_refl⟩)
    have h1 : Inv g' W a N L { st with loc:=st.loc.del d }:=h0.keepX hK rfl (.loc d) (fun c hc hco=>by
      have e : c≠L d:=fun e=>by subst e; exact hco ho
      exact ⟨rfl,by show upd g.O (L d) .free c = _; rw [upd_other _ _ _ _ e],by show upd g.T (L d) bx.cells.length c = _; rw [upd_other _ _ _ _ e]⟩) (fun c hc=>by
      have e : c≠L d:=by omega
      have:=h.sh.fresh c hc
      exact ⟨by show upd g.T (L d) bx.cells.length c = _; rw [upd_other _ _ _ _ e]; exact this.1,by show upd g.O (L d) .free c = _; rw [upd_other _ _ _ _ e]; exact this.2⟩) (unused_loc (by simp [Locs.get_del]))
    refine ⟨g',hX,h1.size,fun k=>?_,fun k e hk=>?_,h1.loc,h1.sh⟩
    · have := h1.slot k
      simp only at this
      simp only [freeze_get]
      cases hs : st.σ.get k with
      | v x=>rw [hs] at this; exact this
      | vn x ns=>rw [hs] at this; exact ⟨RV_keeps (Keeps.refl g' W) this.1,this.2⟩
      | junk=>trivial
      | undef=>rw [hs] at this; exact this
      | ls d' sz ag n =>
        rw [hs] at this
        simp only [SV.frozen]
        split
        · rename_i e
          subst e
          split
          · rename_i es hes
            simp only [SVR] at this
            obtain ⟨hag,cap,hcap,hv⟩:=this
            rw [hv]
            obtain ⟨q1,q2,q3⟩:=chunk_ok hag hl hes
            have q:=RV_slice_mk (g:=g') (W:=W) (sz:=sz) (es:=es) (p:=some ⟨L d',0,none⟩) (cap:=cap) (by omega) (.inr ⟨L d',0,(cs.toList.take bx.cells.length).take (n * sz),rfl,?_,?_,RE_keeps hK _ _ _ q3⟩)
            · rw [q1] at q; exact q
            · have := mem_of_rowT hb bx.cells.length 0
              exact mem_take this _
            · show 0 + ((cs.toList.take bx.cells.length).take (n * sz)).length ≤ upd g.T (L d') bx.cells.length (L d')
              rw [upd_same]
              simp
              omega
          · trivial
        · exact this
      | l d' off =>
        rw [hs] at this
        simp only [SV.frozen]
        split
        · rename_i e
          subst e
          split
          · rename_i hoff
            simp only [SVR] at this
            rw [this]
            refine ⟨?_,rfl⟩
            have hlen:=RL_length hl
            simp only [R]
            refine ⟨L d',off,(cs.toList.take bx.cells.length).drop off,rfl,mem_of_rowT hb bx.cells.length off,?_,RL_keeps hK _ _ (RL_drop hl off)⟩
            show off + ((cs.toList.take bx.cells.length).drop off).length≤upd g.T (L d') bx.cells.length (L d')
            rw [upd_same]
            simp at hlen ⊢
            omega
          · trivial
        · exact this
    · obtain ⟨x, q1, q2⟩ := h1.own k e hk
      refine ⟨x,?_,q2⟩
      simp only at q1
      simp only [freeze_get,q1,SV.frozen]
  · cases hf
inductive Ends (g : Gh) (W : World) : AEx→Exit→Prop where
  | normal : Ends g W .normal .normal
  | exit (id : Nat) : Ends g W (.exit id) (.exit id)
  | ret : Ends g W .ret .ret
  | panic (v : AV) (u : Value) (h : RV g W v u) : Ends g W (.panic v) (.panic [{ v:=u,recovered:=false }])
def AEx.isPanic : AEx→Bool
  | .panic _=>true
  | _=>false
def fixOps (F : List Nat) (aos : List AOper) : Bool:=F.all fun k=>aos.all fun o=>!(o.op.wr.contains k)
def ACode.fix (F : List Nat) : ACode→Bool
  | .region aos (some _) _ _ _=>fixOps F aos
  | .seq a b | .cond _ a b=>a.fix F && b.fix F
  | .block _ c | .loop c | .freeze _ c | .scope c=>c.fix F
  | _=>true
theorem fix_nil : ∀ c : ACode,c.fix [] = true:=by
  intro c
  induction c with
  | region aos bs quiet live locs=>cases bs <;> rfl
  | seq a b iha ihb=>simp [ACode.fix,iha,ihb]
  | cond o a b iha ihb=>simp [ACode.fix,iha,ihb]
  | block id c ih=>simp [ACode.fix,ih]
  | loop c ih=>simp [ACode.fix,ih]
  | freeze d c ih=>simp [ACode.fix,ih]
  | scope c ih=>simp [ACode.fix,ih]
  | _=>rfl
def GoesF (F : List Nat) (g : Gh) (W : World) (N : Nat) (df : List Deferred) (x : AEx) (st' : St) (Q : Exit→Act→World→Prop) : Prop :=
  ∀ g' W' a' L' st2 e,a'.defers = df→Ext g W g' W'→Inv g' W' a' N L' st2→(st2 = st'∨(x.isPanic = true∧st2.S = st'.S∧∀ k ∈ F,ob st2 k = ob st' k))→Ends g' W' x e→Q e a' W'
def GoesC (g : Gh) (W : World) (N : Nat) (df : List Deferred) (x : AEx) (st' : St) (Q : Exit→Act→World→Prop) : Prop :=
  ∀ g' W' a' L' st2 e,a'.defers = df→Ext g W g' W'→Inv g' W' a' N L' st2→(st2 = st'∨(x.isPanic = true∧st2.S = st'.S))→Ends g' W' x e→Q e a' W'
theorem ops_wp {F : List Nat} (hm : P.follows .mixedOrders = true) {rec : Rec} (hrec : RecSound P W0 rec) {aos : List AOper} {bs : Option (List Nat)} {quiet : Bool} {live locs : List Nat} {id : Nat} {ops : Array Oper} {draw : Bool}
    (hc : mCode P N (.region aos bs quiet live locs) (.region id ops draw) = true) (hfx : (ACode.region aos bs quiet live locs).fix F = true) {g : Gh} {W : World} {a : Act} {L : Nat→Nat} {st : St} (hi : Inv g W a N L st) (hB : Base W0 g W) {x : AEx} {st' : St}
    (h : acode rec (.region aos bs quiet live locs) st = some (x,st')) {Q : Exit→Act→World→Prop} (hg : GoesF F g W N a.defers x st' Q) : (Code.region id ops draw).wp P Q a W:=by
  simp only [mCode,Bool.and_eq_true] at hc
  obtain ⟨hmo,hc⟩:=hc
  have hrec' : RecSound P W0 (if quiet then rec.quiet else rec):=by
    split
    · exact hrec.quiet
    · exact hrec
  simp only [acode] at h
  cases hao : aops (if quiet then rec.quiet else rec) (porder bs aos) (if bs.isSome then st.prep aos else st) with
  | none=>rw [hao] at h; cases h
  | some p =>
    obtain ⟨y,s⟩:=p
    rw [hao] at h
    have go : ∀ (is : List Nat) {g0 : Gh} {W1 : World} {s1 st1 : St},Inv g0 W1 a N L st1→Base W0 g0 W1→Ext g W g0 W1→aopsI (if quiet then rec.quiet else rec) aos is st1 = some (y,s1)→(s1 = s∨(EndEq aos y s s1∧fixOps F aos = true))→wpOps P ops Q is a W1:=by
      intro is g0 W1 s1 st1 hi1 hB1 hE1 h1 he
      refine opsI_wp hrec' hmo is hi1 hB1 h1 ⟨fun hy g' W' a' L' hdf hE hi'=>?_,fun v hy g' W' a' L' u hdf hE hi' hu=>?_⟩
      · subst hy
        simp only [normal,Option.some.injEq,Prod.mk.injEq] at h
        obtain ⟨rfl,hk⟩:=h
        have hk' : st' = s.keep live locs:=hk.symm
        refine hg g' W' a' L' _ .normal hdf (hE1.trans hE) (hi'.keep' live locs) (.inl ?_) .normal
        rw [hk']
        rcases he with rfl | ⟨he,_⟩
        · rfl
        · rcases he with he | ⟨⟨v, q⟩, _⟩
          · exact he.keep live locs |>.symm
          · cases q
      · subst hy
        simp only [Option.some.injEq,Prod.mk.injEq] at h
        obtain ⟨rfl,hk⟩:=h
        have hk' : st' = s:=hk.symm
        refine hg g' W' a' L' s1 _ hdf (hE1.trans hE) hi' ?_ (.panic v u hu)
        rcases he with rfl | ⟨he,hfo⟩
        · exact .inl hk'.symm
        · rcases he with he | ⟨_, hS, hob⟩
          · exact .inr ⟨rfl,by rw [hk']; exact he.S.symm,fun k _=>by rw [hk']; exact (he.sl k).symm⟩
          · refine .inr ⟨rfl, by rw [hk']; exact hS, fun k hk => ?_⟩
            rw [hk']
            refine hob k fun o ho=>?_
            simp only [fixOps,List.all_eq_true] at hfo
            have:=hfo k hk o ho
            simpa using this
    have hlen : aos.length = ops.size:=by have:=mOpers_length hmo; simpa using this
    cases bs with
    | none =>
      simp only [Bool.not_eq_true'] at hc
      subst hc
      simp only [Option.isSome_none,Bool.false_eq_true,if_false,porder_none] at hao
      refine wp_region (go _ hi hB (Ext.refl g W) (s1:=s) ?_ (.inl rfl))
      rw [← hlen,aopsI_all]
      exact hao
    | some bs =>
      simp only [Bool.and_eq_true] at hc
      obtain ⟨⟨rfl,hbs⟩,hd⟩:=hc
      simp only [Option.isSome_some,if_true] at hao
      refine wp_region_draw fun t=>?_
      simp only [Region.schedule,hm,Bool.true_or,if_true]
      obtain ⟨s',h1,he⟩:=draw_order hlen hbs hd (fun is=>prep_fresh aos is st) hao t
      exact go _ (hi.prep aos).drew (hB.ext' (drew_ext g W)) (drew_ext g W) h1 (.inr ⟨he,hfx⟩)
theorem code_wpF {F : List Nat} (hm : P.follows .mixedOrders = true) {rec : Rec} (hrec : RecSound P W0 rec) : ∀ (ac : ACode) {c : Code},mCode P N ac c = true→ac.fix F = true→∀ {g : Gh} {W : World} {a : Act} {L : Nat→Nat} {st : St},Inv g W a N L st→Base W0 g W →
    ∀ {x : AEx} {st' : St},acode rec ac st = some (x,st')→∀ {Q : Exit→Act→World→Prop},GoesF F g W N a.defers x st' Q→c.wp P Q a W:=by
  intro ac
  induction ac with
  | skip live locs =>
    intro c hc hfx g W a L st hi hB x st' h Q hg
    cases c <;> try (simp [mCode] at hc; done)
    simp only [acode,normal,Option.some.injEq,Prod.mk.injEq] at h
    obtain ⟨rfl,rfl⟩:=h
    exact wp_skip (hg g W a L _ _ rfl (Ext.refl g W) (hi.keep' live locs) (.inl rfl) .normal)
  | region aos bs quiet live locs =>
    intro c hc hfx g W a L st hi hB x st' h Q hg
    cases c <;> try (simp [mCode] at hc; done)
    exact ops_wp hm hrec hc hfx hi hB h hg
  | seq ca cb iha ihb =>
    intro c hc hfx g W a L st hi hB x st' h Q hg
    cases c <;> try (simp [mCode] at hc; done)
    rename_i c d
    simp only [mCode,Bool.and_eq_true] at hc
    refine wp_seq ?_
    simp only [acode] at h
    cases h1 : acode rec ca st with
    | none=>rw [h1] at h; cases h
    | some p =>
      obtain ⟨y,s1⟩:=p
      rw [h1] at h
      simp only [ACode.fix,Bool.and_eq_true] at hfx
      refine iha hc.1 hfx.1 hi hB h1 fun g' W' a' L' st2 e hdf hE hi' hst he=>?_
      cases he with
      | normal =>
        have hst2 : st2 = s1:=by
          rcases hst with h | ⟨h,_⟩
          · exact h
          · cases h
        subst hst2
        refine ihb hc.2 hfx.2 hi' (hB.ext' hE) h fun g2 W2 a2 L2 st3 e2 hdf2 hE2 hi2 hst2 he2=>?_
        exact hg g2 W2 a2 L2 st3 e2 (hdf2.trans hdf) (hE.trans hE2) hi2 hst2 he2
      | exit id =>
        simp only [Option.some.injEq,Prod.mk.injEq] at h
        obtain ⟨rfl,rfl⟩:=h
        exact hg g' W' a' L' st2 _ hdf hE hi' hst (.exit id)
      | ret =>
        simp only [Option.some.injEq,Prod.mk.injEq] at h
        obtain ⟨rfl,rfl⟩:=h
        exact hg g' W' a' L' st2 _ hdf hE hi' hst .ret
      | panic v u hu =>
        simp only [Option.some.injEq,Prod.mk.injEq] at h
        obtain ⟨rfl,rfl⟩:=h
        exact hg g' W' a' L' st2 _ hdf hE hi' hst (.panic v u hu)
  | cond o ca cb iha ihb =>
    intro c hc hfx g W a L st hi hB x st' h Q hg
    cases c <;> try (simp [mCode] at hc; done)
    rename_i o' c d
    simp only [mCode,Bool.and_eq_true] at hc
    simp only [acode] at h
    split at h
    · rename_i t ht
      have hv:=RV_bool.1 (av_ok hi hc.1.1 ht)
      refine wp_cond hv ?_
      simp only [ACode.fix,Bool.and_eq_true] at hfx
      cases t with
      | true=>exact iha hc.1.2 hfx.1 hi hB (by simpa using h) hg
      | false=>exact ihb hc.2 hfx.2 hi hB (by simpa using h) hg
    · cases h
  | block id ca iha =>
    intro c hc hfx g W a L st hi hB x st' h Q hg
    cases c <;> try (simp [mCode] at hc; done)
    rename_i id' c
    simp only [mCode,Bool.and_eq_true,beq_iff_eq] at hc
    obtain ⟨rfl,hc⟩:=hc
    refine wp_block ?_
    simp only [acode] at h
    cases h1 : acode rec ca st with
    | none=>rw [h1] at h; cases h
    | some p =>
      obtain ⟨y,s1⟩:=p
      rw [h1] at h
      refine iha hc hfx hi hB h1 fun g' W' a' L' st2 e hdf hE hi' hst he=>?_
      cases he with
      | normal =>
        simp only [Option.some.injEq,Prod.mk.injEq] at h
        obtain ⟨rfl,rfl⟩:=h
        exact hg g' W' a' L' st2 _ hdf hE hi' hst .normal
      | exit id2 =>
        simp only at h
        have hst2 : st2 = s1:=by
          rcases hst with h | ⟨h,_⟩
          · exact h
          · cases h
        subst hst2
        by_cases hid : id2 = id
        · rw [if_pos hid] at h
          simp only [normal,Option.some.injEq,Prod.mk.injEq] at h
          obtain ⟨rfl,rfl⟩:=h
          simp only [Exit.inBlock,hid,if_true]
          exact hg g' W' a' L' _ _ hdf hE hi' (.inl rfl) .normal
        · rw [if_neg hid] at h
          simp only [Option.some.injEq,Prod.mk.injEq] at h
          obtain ⟨rfl,rfl⟩:=h
          simp only [Exit.inBlock,hid,if_false]
          exact hg g' W' a' L' _ _ hdf hE hi' (.inl rfl) (.exit id2)
      | ret =>
        simp only [Option.some.injEq,Prod.mk.injEq] at h
        obtain ⟨rfl,rfl⟩:=h
        exact hg g' W' a' L' st2 _ hdf hE hi' hst .ret
      | panic v u hu =>
        simp only [Option.some.injEq,Prod.mk.injEq] at h
        obtain ⟨rfl,rfl⟩:=h
        exact hg g' W' a' L' st2 _ hdf hE hi' hst (.panic v u hu)
  | loop ca iha =>
    intro c hc hfx g W a L st hi hB x st' h Q hg
    cases c <;> try (simp [mCode] at hc; done)
    rename_i c
    simp only [mCode] at hc
    simp only [acode] at h
    obtain ⟨n,hn⟩:=aloopW_some.1 h
    refine wp_loop_rounds n ?_
    clear h
    induction n generalizing g W a L st with
    | zero=>simp [aloop] at hn
    | succ n ih =>
      rw [rounds_succ]
      simp only [aloop] at hn
      cases h1 : acode rec ca st with
      | none=>rw [h1] at hn; cases hn
      | some p =>
        obtain ⟨y,s1⟩:=p
        rw [h1] at hn
        refine iha hc hfx hi hB h1 fun g' W' a' L' st2 e hdf hE hi' hst he=>?_
        cases he with
        | normal =>
          have hst2 : st2 = s1:=by
            rcases hst with h | ⟨h,_⟩
            · exact h
            · cases h
          subst hst2
          refine ih hi' (hB.ext' hE) ?_ hn
          intro g2 W2 a2 L2 st3 e2 hdf2 hE2 hi2 hst2 he2
          exact hg g2 W2 a2 L2 st3 e2 (hdf2.trans hdf) (hE.trans hE2) hi2 hst2 he2
        | exit id2 =>
          simp only [Option.some.injEq,Prod.mk.injEq] at hn
          obtain ⟨rfl,rfl⟩:=hn
          exact hg g' W' a' L' st2 _ hdf hE hi' hst (.exit id2)
        | ret =>
          simp only [Option.some.injEq,Prod.mk.injEq] at hn
          obtain ⟨rfl,rfl⟩:=hn
          exact hg g' W' a' L' st2 _ hdf hE hi' hst .ret
        | panic v u hu =>
          simp only [Option.some.injEq,Prod.mk.injEq] at hn
          obtain ⟨rfl,rfl⟩:=hn
          exact hg g' W' a' L' st2 _ hdf hE hi' hst (.panic v u hu)
  | exit id live locs =>
    intro c hc hfx g W a L st hi hB x st' h Q hg
    cases c <;> try (simp [mCode] at hc; done)
    simp only [mCode,beq_iff_eq] at hc
    subst hc
    simp only [acode,Option.some.injEq,Prod.mk.injEq] at h
    obtain ⟨rfl,rfl⟩:=h
    exact wp_exit (hg g W a L _ _ rfl (Ext.refl g W) (hi.keep' live locs) (.inl rfl) (.exit id))
  | ret =>
    intro c hc hfx g W a L st hi hB x st' h Q hg
    cases c <;> try (simp [mCode] at hc; done)
    simp only [acode,Option.some.injEq,Prod.mk.injEq] at h
    obtain ⟨rfl,rfl⟩:=h
    exact wp_ret (hg g W a L _ _ rfl (Ext.refl g W) hi (.inl rfl) .ret)
  | freeze d ca iha =>
    intro c hc hfx g W a L st hi hB x st' h Q hg
    simp only [mCode] at hc
    simp only [acode] at h
    split at h
    · rename_i s1 h1
      obtain ⟨g',hE,hi'⟩:=hi.freeze h1
      refine iha hc hfx hi' (hB.ext' hE) h fun g2 W2 a2 L2 st3 e2 hdf2 hE2 hi2 hst2 he2=>?_
      exact hg g2 W2 a2 L2 st3 e2 hdf2 (hE.trans hE2) hi2 hst2 he2
    · cases h
  | scope ca iha =>
    intro c hc hfx g W a L st hi hB x st' h Q hg
    cases c <;> try (simp [mCode] at hc; done)
    simp only [mCode] at hc
    simp only [acode] at h
    refine wp_scope_straight ?_
    refine iha hc hfx hi hB h fun g2 W2 a2 L2 st3 e2 hdf2 hE2 hi2 hst2 he2=>?_
    have:=hg g2 W2 a2 L2 st3 e2 hdf2 hE2 hi2 hst2 he2
    cases he2 <;> exact this
  | label =>
    intro c hc hfx g W a L st hi hB x st' h Q hg
    cases c <;> try (simp [mCode] at hc; done)
    simp only [acode,normal,Option.some.injEq,Prod.mk.injEq] at h
    obtain ⟨rfl,rfl⟩:=h
    exact wp_label (hg g W a L _ _ rfl (Ext.refl g W) hi (.inl rfl) .normal)
theorem code_wp (hm : P.follows .mixedOrders = true) {rec : Rec} (hrec : RecSound P W0 rec) (ac : ACode) {c : Code} (hc : mCode P N ac c = true) {g : Gh} {W : World} {a : Act} {L : Nat→Nat} {st : St} (hi : Inv g W a N L st) (hB : Base W0 g W)
    {x : AEx} {st' : St} (h : acode rec ac st = some (x,st')) {Q : Exit→Act→World→Prop} (hg : GoesC g W N a.defers x st' Q) : c.wp P Q a W :=
  code_wpF (F:=[]) hm hrec ac hc (fix_nil ac) hi hB h fun g' W' a' L' st2 e hdf hE hi' hst he=>hg g' W' a' L' st2 e hdf hE hi' (hst.imp id fun h=>⟨h.1,h.2.1⟩) he
end
end Go.Av
set_option linter.unusedVariables false
set_option linter.unusedSimpArgs false
set_option linter.unusedSectionVars false
namespace Go.Av
open Go
def SoundFun (P : Program) (W0 : World) (f : FuncId) (h : List AV→List Bx→Option (AEnd×List Bx)) : Prop :=
  ∀ args S e S',h args S = some (e,S')→Callable P f ∧
    ∀ g W (vs : Array Value),Base W0 g W→RT g W args vs.toList→SInv g W S→(∀ b,(g.O b).calm)→Calls P f vs W (Post g W e S')
theorem recSound_iff {P : Program} {W0 : World} {rec : Rec} : RecSound P W0 rec↔∀ f,SoundFun P W0 f (rec f) :=
  ⟨fun h f args S e S' hr=>h f args S e S' hr,fun h f args S e S' hr=>h f args S e S' hr⟩
def mRes (P : Program) : List ARes→List ResultVar→Bool
  | [],[]=>true
  | .tmp t :: r,.tmp u :: l=>t == u && mRes P r l
  | .cell a n ag :: r,.cell b t :: l=>a == b && tyAg P t == some ag && tySz P t == some n && mRes P r l
  | _,_=>false
def mFun (P : Program) (f : FuncId) (fn : AFun) : Bool :=
  match P.funcs[f]? with
  | some F => (match F.body with
    | some c => mCode P fn.N fn.body c && F.ntmps == fn.N && decide (fn.n ≤ fn.N) && !(F.name == "runtime.NumGoroutine") && mRes P fn.res F.results.toList
    | none=>false)
  | none=>false
mutual
theorem R_closed {g : Gh} {W : World} : ∀ {a : AV} {l : List Value},R g W a l→a.closed g.B.length = true
  | .bool _,l,h=>by simp [AV.closed]
  | .int _ _,l,h=>by simp [AV.closed]
  | .str _,l,h=>by simp [AV.closed]
  | .agg cs,l,h=>by simp only [R] at h; simp only [AV.closed]; exact RL_closed h
  | .tuple vs, l, h => by
    simp only [R] at h
    obtain ⟨a,_,h⟩:=h
    simp only [AV.closed]; exact RT_closed h
  | .slice sz es, l, h => by
    simp only [R] at h
    obtain ⟨p,cap,_,_,h⟩:=h
    simp only [AV.closed]
    rcases h with rfl | ⟨b,o,ms,_,_,_,h⟩
    · simp [closedL]
    · exact RE_closed h
  | .sptr cs, l, h => by
    simp only [R] at h
    obtain ⟨b,o,ms,_,_,_,h⟩:=h
    simp only [AV.closed]; exact RL_closed h
  | .nilptr,l,h=>by simp [AV.closed]
  | .ptr i off, l, h => by
    simp only [R] at h
    obtain ⟨b,h,_⟩:=h
    simp only [AV.closed,decide_eq_true_eq]
    exact (List.getElem?_eq_some_iff.1 h).1
  | .clos fn first caps, l, h => by
    simp only [R] at h
    obtain ⟨f,c,_,h1,h2⟩:=h
    simp only [AV.closed,Bool.and_eq_true]
    exact ⟨RT_closed h1,RT_closed h2⟩
  | .nilfn,l,h=>by simp [AV.closed]
  | .iface t v, l, h => by
    simp only [R] at h
    obtain ⟨u,_,h,_⟩:=h
    simp only [AV.closed]; exact R_closed h
  | .niliface,l,h=>by simp [AV.closed]
  | .mapp i, l, h => by
    simp only [R] at h
    obtain ⟨b,h,_⟩:=h
    simp only [AV.closed,decide_eq_true_eq]
    exact (List.getElem?_eq_some_iff.1 h).1
  | .nilmap,l,h=>by simp [AV.closed]
theorem RL_closed {g : Gh} {W : World} : ∀ {cs : List AV} {l : List Value},RL g W cs l→closedL g.B.length cs = true
  | [],l,h=>by simp [closedL]
  | c :: cs, l, h => by
    simp only [RL] at h
    obtain ⟨v,r,_,⟨_,h1⟩,h2⟩:=h
    simp only [closedL,Bool.and_eq_true]
    exact ⟨R_closed h1,RL_closed h2⟩
theorem RE_closed {g : Gh} {W : World} {sz : Nat} : ∀ {cs : List AV} {l : List Value},RE g W sz cs l→closedL g.B.length cs = true
  | [],l,h=>by simp [closedL]
  | c :: cs, l, h => by
    simp only [RE] at h
    obtain ⟨x,r,_,_,⟨_,h1⟩,h2⟩:=h
    simp only [closedL,Bool.and_eq_true]
    exact ⟨R_closed h1,RE_closed h2⟩
theorem RT_closed {g : Gh} {W : World} : ∀ {cs : List AV} {l : List Value},RT g W cs l→closedL g.B.length cs = true
  | [],l,h=>by simp [closedL]
  | c :: cs, l, h => by
    simp only [RT] at h
    obtain ⟨v,r,_,⟨h1,_⟩,h2⟩:=h
    simp only [closedL,Bool.and_eq_true]
    exact ⟨R_closed h1,RT_closed h2⟩
end
def Own.leave (k : Option Nat) : Own→Own
  | .slot j=>if k = some j then .res 0 else .free
  | .loc _ | .lcell _ _ | .res _=>.free
  | o=>o
def Gh.leave (g : Gh) (k : Option Nat) (n : Nat) : Gh:={ g with O:=fun b=>(g.O b).leave k,B:=g.B.take n }
theorem leave_trunc (g : Gh) (k : Option Nat) (n : Nat) : Trunc n g (g.leave k n):=⟨rfl,rfl⟩
section
variable {P : Program} {W0 : World} {N : Nat} {g g' : Gh} {W W' : World} {a' : Act} {L' : Nat→Nat} {st2 : St} {S : List Bx}
theorem MR_closed {g : Gh} {W : World} : ∀ {cs : List AV} {es : List MapEntry},MR g W cs es→closedL g.B.length cs = true
  | [],[],_=>by simp [closedL]
  | [],_ :: _,h=>by simp [MR] at h
  | [_],[],h=>by simp [MR] at h
  | [_],_ :: _,h=>by simp [MR] at h
  | _ :: _ :: _,[],h=>by simp [MR] at h
  | k :: v :: r, e :: es, h => by
    obtain ⟨⟨h1,h2⟩,h3⟩:=h
    simp only [closedL,Bool.and_eq_true]
    exact ⟨R_closed h1.1,R_closed h2.1,MR_closed h3⟩
theorem MR_trunc {n : Nat} {g g' : Gh} {W : World} (t : Trunc n g g') : ∀ {cs : List AV} {es : List MapEntry},closedL n cs = true→MR g W cs es→MR g' W cs es
  | [],[],_,_=>trivial
  | [],_ :: _,_,h=>by simp [MR] at h
  | [_],[],_,h=>by simp [MR] at h
  | [_],_ :: _,_,h=>by simp [MR] at h
  | _ :: _ :: _,[],_,h=>by simp [MR] at h
  | k :: v :: r, e :: es, c, h => by
    obtain ⟨⟨h1,h2⟩,h3⟩:=h
    simp only [closedL,Bool.and_eq_true] at c
    exact ⟨⟨⟨R_trunc t c.1 h1.1,h1.2⟩,R_trunc t c.2.1 h2.1,h2.2⟩,MR_trunc t c.2.2 h3⟩
theorem BxS_closed {g : Gh} {W : World} {b i : Nat} {x : Bx} (h : BxS g W b i x) : closedL g.B.length x.cells = true:=by
  unfold BxS at h
  split at h
  · obtain ⟨_, es, clock, _, hM, _⟩ := h
    exact MR_closed hM
  · obtain ⟨cs, ty, _, h2, _⟩ := h
    exact RL_closed h2
theorem leave_ok (hE : Ext g W g' W') (hi : Inv g' W' a' N L' st2) (hS : SInv g W S) {n : Nat} (hn : S.length≤n) (k : Option Nat)
    (hcl : ∀ (i : Nat) x,i < n→st2.S[i]? = some x→closedL n x.cells = true) :
    Ext g W (g'.leave k n) W'∧SInv (g'.leave k n) W' (st2.S.take n)∧∀ b,((g'.leave k n).O b).calmR:=by
  refine ⟨⟨⟨hE.T,hE.cell,fun i b hb=>?_⟩,hE.size,hE.os,hE.tape,hE.output,fun b hb=>?_⟩,⟨?_,fun i x hx=>?_,fun b hb=>?_⟩,fun b=>?_⟩
  · have hlt := (List.getElem?_eq_some_iff.1 hb).1
    rw [hS.len] at hlt
    exact (leave_trunc g' k n).get (by omega) (hE.B i b hb)
  · obtain ⟨h1, h2, h3⟩ := hE.ext b hb
    exact ⟨by simp [Gh.leave,h1,Own.leave],h2,h3⟩
  · simp [Gh.leave,hi.sh.len]
  · rw [List.getElem?_take] at hx
    split at hx
    · rename_i hlt
      obtain ⟨b,hb,hbs⟩:=hi.sh.box i x hx
      refine ⟨b,(leave_trunc g' k n).get hlt hb,?_⟩
      unfold BxS at hbs ⊢
      split at hbs
      · rename_i hmap
        rw [if_pos hmap]
        obtain ⟨q0,es,clock,q1,q2,q3,q4⟩:=hbs
        exact ⟨q0,es,clock,q1,MR_trunc (leave_trunc g' k n) (hcl i x hlt hx) q2,by simp [Gh.leave,q3,Own.leave],q4⟩
      rename_i hmap
      rw [if_neg hmap]
      obtain ⟨cs,ty,h1,h2,h3,h4,h5⟩:=hbs
      refine ⟨cs,ty,h1,RL_trunc (leave_trunc g' k n) (hcl i x hlt hx) h2,by simp [Gh.leave,h3,Own.leave],h4,fun j e hj=>?_⟩
      obtain ⟨y,v,q1,q2,q3⟩:=h5 j e hj
      refine ⟨y,v,q1,q2,?_⟩
      obtain ⟨sz,es,rfl,q3⟩:=q3
      refine ⟨sz,es,rfl,q3.imp id ?_⟩
      rintro ⟨b,cap,cur,p1,p2,p3,p4,p5,p6,p7⟩
      exact ⟨b,cap,cur,p1,p2,p3,p4,p5,by simp [Gh.leave,p6,Own.leave],p7⟩
    · cases hx
  · obtain ⟨h1, h2⟩ := hi.sh.fresh b hb
    exact ⟨h1,by simp [Gh.leave,h2,Own.leave]⟩
  · simp only [Gh.leave]
    have : ∀ o : Own,(o.leave k).calmR:=by
      intro o
      cases o with
      | slot j =>
        simp only [Own.leave]
        by_cases hk : k = some j
        · rw [if_pos hk]; trivial
        · rw [if_neg hk]; trivial
      | _=>trivial
    exact this _
theorem aleave_some {kb : Nat} {S S2 S' : List Bx} {e e' : AEnd} (h : aleave kb S S2 e = some (e',S')) :
    e' = e∧∃ n,S.length≤n∧S' = S2.take n∧((S2.length≤n)∨(TruncOk S S2 n∧e.closed n = true)):=by
  unfold aleave at h
  by_cases hl : S2.length≤S.length + kb
  · rw [if_pos hl] at h
    simp only [Option.some.injEq,Prod.mk.injEq] at h
    exact ⟨h.1.symm,_,Nat.le_add_right _ _,by rw [List.take_of_length_le hl]; exact h.2.symm,.inl hl⟩
  · rw [if_neg hl] at h
    by_cases hc : TruncOk S S2 (S.length + kb)∧e.closed (S.length + kb) = true
    · rw [if_pos hc] at h
      simp only [Option.some.injEq,Prod.mk.injEq] at h
      exact ⟨h.1.symm,_,Nat.le_add_right _ _,h.2.symm,.inr hc⟩
    · rw [if_neg hc] at h
      cases h
mutual
theorem closed_mono {m n : Nat} (h : m≤n) : ∀ {a : AV},a.closed m = true→a.closed n = true
  | .bool _,_=>by simp [AV.closed]
  | .int _ _,_=>by simp [AV.closed]
  | .str _,_=>by simp [AV.closed]
  | .agg cs,c=>by simp only [AV.closed] at c ⊢; exact closedL_mono h c
  | .tuple cs,c=>by simp only [AV.closed] at c ⊢; exact closedL_mono h c
  | .slice _ cs,c=>by simp only [AV.closed] at c ⊢; exact closedL_mono h c
  | .sptr cs,c=>by simp only [AV.closed] at c ⊢; exact closedL_mono h c
  | .nilptr,_=>by simp [AV.closed]
  | .ptr i off,c=>by simp only [AV.closed,decide_eq_true_eq] at c ⊢; omega
  | .clos fn f d,c=>by simp only [AV.closed,Bool.and_eq_true] at c ⊢; exact ⟨closedL_mono h c.1,closedL_mono h c.2⟩
  | .nilfn,_=>by simp [AV.closed]
  | .iface t v,c=>by simp only [AV.closed] at c ⊢; exact closed_mono h c
  | .niliface,_=>by simp [AV.closed]
  | .mapp i,c=>by simp only [AV.closed,decide_eq_true_eq] at c ⊢; omega
  | .nilmap,_=>by simp [AV.closed]
theorem closedL_mono {m n : Nat} (h : m≤n) : ∀ {cs : List AV},closedL m cs = true→closedL n cs = true
  | [],_=>by simp [closedL]
  | c :: cs,q=>by simp only [closedL,Bool.and_eq_true] at q ⊢; exact ⟨closed_mono h q.1,closedL_mono h q.2⟩
end
theorem closed_boxes (hi : Inv g' W' a' N L' st2) (hS : SInv g W S) {n : Nat} (hn : S.length≤n) (h : (st2.S.length≤n)∨TruncOk S st2.S n) :
    ∀ (i : Nat) x,i < n→st2.S[i]? = some x→closedL n x.cells = true:=by
  intro i x hlt hx
  rcases h with h | h
  · obtain ⟨b, hb, hbs⟩ := hi.sh.box i x hx
    have:=BxS_closed hbs
    rw [hi.sh.len] at this
    exact closedL_mono h this
  · rcases h i x hlt hx with h | h
    · obtain ⟨b, hb, hbs⟩ := hS.box i x h
      have:=BxS_closed hbs
      rw [hS.len] at this
      exact closedL_mono hn this
    · exact h
theorem post_ret {kb : Nat} (hE : Ext g W g' W') (hi : Inv g' W' a' N L' st2) (hS : SInv g W S) {r : AV} {own : Option Nat} {v : Value} {e : AEnd} {S' : List Bx} (hl : aleave kb S st2.S (.ret r own) = some (e,S'))
    (hv : RV g' W' r v) (ho : ∀ te,own = some te→∃ k,Right g' W' (.slot k) te r v) : Post g W e S' (.returned v) W':=by
  obtain ⟨rfl,n,hn,rfl,hc⟩:=aleave_some hl
  have hk : ∃ k : Option Nat,∀ te,own = some te→∃ j,k = some j∧Right g' W' (.slot j) te r v:=by
    cases own with
    | none=>exact ⟨none,fun te h=>by cases h⟩
    | some te =>
      obtain ⟨j,hj⟩:=ho te rfl
      exact ⟨some j,fun te' h=>by cases h; exact ⟨j,rfl,hj⟩⟩
  obtain ⟨k,hk⟩:=hk
  obtain ⟨h1,h2,h3⟩:=leave_ok hE hi hS hn k (closed_boxes hi hS hn (hc.imp id fun h=>h.1))
  have hcr : r.closed n = true:=by
    rcases hc with h | h
    · have := R_closed hv.1
      rw [hi.sh.len] at this
      exact closed_mono h this
    · exact h.2
  refine ⟨_,h1,h2,h3,v,rfl,⟨R_trunc (leave_trunc g' k n) hcr hv.1,hv.2⟩,fun te hte=>?_⟩
  obtain ⟨j,rfl,sz,es,rfl,q⟩:=hk te hte
  refine ⟨sz,es,rfl,q.imp id ?_⟩
  rintro ⟨b,cap,cur,p1,p2,p3,p4,p5,p6,p7⟩
  exact ⟨b,cap,cur,p1,p2,p3,p4,p5,by simp [Gh.leave,p6,Own.leave],p7⟩
theorem post_panic {kb : Nat} (hE : Ext g W g' W') (hi : Inv g' W' a' N L' st2) (hS : SInv g W S) {x : AV} {u : Value} {e : AEnd} {S' : List Bx} (hl : aleave kb S st2.S (.panic x) = some (e,S')) (hv : RV g' W' x u) :
    Post g W e S' (.panicked [{ v:=u,recovered:=false }]) W':=by
  obtain ⟨rfl,n,hn,rfl,hc⟩:=aleave_some hl
  obtain ⟨h1,h2,h3⟩:=leave_ok hE hi hS hn none (closed_boxes hi hS hn (hc.imp id fun h=>h.1))
  have hcr : x.closed n = true:=by
    rcases hc with h | h
    · have := R_closed hv.1
      rw [hi.sh.len] at this
      exact closed_mono h this
    · exact h.2
  exact ⟨_,h1,h2,h3,u,rfl,R_trunc (leave_trunc g' none n) hcr hv.1,hv.2⟩
def resOf (a' : Act) : ResultVar→Sem Value
  | .tmp t=>pure (a'.tmps.getD t undef)
  | .cell c t=>do loadVar t (← asAddr (a'.tmps.getD c undef))
theorem ares_ok (hi : Inv g' W' a' N L' st2) {r : ARes} {rv : ResultVar} {x : AV} (hm : mRes P [r] [rv] = true) (h : ares st2 r = some x) :
    ∃ v,(resOf a' rv).run P W' = .ok v W'∧RV g' W' x v:=by
  cases r with
  | tmp t =>
    cases rv with
    | cell c t=>simp [mRes] at hm
    | tmp u =>
      simp only [mRes,Bool.and_true,beq_iff_eq] at hm
      subst hm
      refine ⟨a'.tmps.getD t undef,by simp [resOf],?_⟩
      have:=hi.slot t
      simp only [ares,St.av,St.sv] at h
      cases hs : st2.σ.get t with
      | v y =>
        rw [hs] at h this
        simp only [SV.av,Option.some.injEq] at h
        subst h
        exact this
      | vn y ns =>
        rw [hs] at h this
        simp only [SV.av,Option.some.injEq] at h
        subst h
        exact this.1
      | l d off=>rw [hs] at h; simp [SV.av] at h
      | junk=>rw [hs] at h; simp [SV.av] at h
      | undef=>rw [hs] at h; simp [SV.av] at h
      | ls d sz ag n=>rw [hs] at h; simp [SV.av] at h
  | cell c n ag =>
    cases rv with
    | tmp u=>simp [mRes] at hm
    | cell c' t =>
      simp only [mRes,Bool.and_true,Bool.and_eq_true,beq_iff_eq] at hm
      obtain ⟨⟨rfl,hag⟩,hsz⟩:=hm
      simp only [ares] at h
      split at h
      · rename_i cs off hc
        obtain ⟨b,off',ms,he,hmm,hl⟩:=cellsAt_ok hi (hi.slot c) hc
        obtain ⟨v,hr,hv⟩:=aload_ok (P:=P) hag hsz hmm hl h
        exact ⟨v,by simp [resOf,he,asAddr,hr],hv⟩
      · cases h
theorem aresAll_ok (hi : Inv g' W' a' N L' st2) : ∀ {rs : List ARes} {rvs : List ResultVar} {xs : List AV},mRes P rs rvs = true→aresAll st2 rs = some xs →
    ∃ vs : List Value,(rvs.mapM (resOf a')).run P W' = .ok vs W'∧RT g' W' xs vs
  | [], [], xs, _, h => by
    simp only [aresAll,Option.some.injEq] at h
    subst h
    exact ⟨[],by simp,by simp [RT]⟩
  | [],_ :: _,_,hm,_=>by simp [mRes] at hm
  | r :: rs,[],_,hm,_=>by cases r <;> simp [mRes] at hm
  | r :: rs, rv :: rvs, xs, hm, h => by
    have hm1 : mRes P [r] [rv] = true∧mRes P rs rvs = true:=by
      cases r <;> cases rv <;> simp_all [mRes]
    simp only [aresAll] at h
    split at h
    · rename_i x ys hx hys
      simp only [Option.some.injEq] at h
      subst h
      obtain ⟨v,h1,h2⟩:=ares_ok (P:=P) hi hm1.1 hx
      obtain ⟨vs,h3,h4⟩:=aresAll_ok hi hm1.2 hys
      refine ⟨v :: vs,?_,?_⟩
      · simp only [List.mapM_cons]
        simp only [Sem.run_bind,h1,h3,Result.andThen]
        simp
      · simp only [RT]
        exact ⟨v,vs,rfl,h2,h4⟩
    · cases h
theorem results_run {F : Func} {tmps : Array Value} {a' : Act} (ha : a'.tmps = tmps) {vs : List Value} (h : (F.results.toList.mapM (resOf a')).run P W' = .ok vs W') :
    (results F tmps).run P W' = .ok (if h : vs.length = 1 then vs[0] else .tuple vs.toArray) W':=by
  subst ha
  have e0 : results F a'.tmps = F.results.mapM (resOf a') >>= fun vs=>pure (if h : vs.size = 1 then vs[0] else .tuple vs):=by
    unfold results
    congr 1
  have e1 : F.results.mapM (resOf a') = List.toArray <$> F.results.toList.mapM (resOf a'):=by
    conv=>lhs; rw [← Array.toArray_toList (xs:=F.results)]
    rw [List.mapM_toArray]
  rw [e0,e1]
  simp only [Sem.run_bind,Sem.run_map,h,Result.andThen_ok,Sem.run_pure]
  simp
theorem aresult_ok (hi : Inv g' W' a' N L' st2) {F : Func} {rs : List ARes} (hm : mRes P rs F.results.toList = true) {r : AV} {own : Option Nat} (h : aresult st2 rs = some (r,own)) :
    ∃ v,(results F a'.tmps).run P W' = .ok v W'∧RV g' W' r v∧∀ te,own = some te→∃ k,Right g' W' (.slot k) te r v:=by
  have all : ∀ {xs : List AV},aresAll st2 rs = some xs→xs.length≠1→∃ v,(results F a'.tmps).run P W' = .ok v W'∧RV g' W' (.tuple xs) v:=by
    intro xs hx hl
    obtain ⟨vs,h1,h2⟩:=aresAll_ok (P:=P) hi hm hx
    have h3:=results_run (F:=F) rfl h1
    have hlen:=RT_length h2
    rw [dif_neg (by omega)] at h3
    exact ⟨_,h3,by simp only [R]; exact ⟨vs.toArray,rfl,by simpa using h2⟩,rfl⟩
  have one : ∀ {x : ARes} {y : AV},rs = [x]→ares st2 x = some y→∃ v,(results F a'.tmps).run P W' = .ok v W'∧RV g' W' y v∧∃ rv,F.results.toList = [rv]∧(resOf a' rv).run P W' = .ok v W':=by
    intro x y hx hy
    subst hx
    cases hl : F.results.toList with
    | nil=>rw [hl] at hm; cases x <;> simp [mRes] at hm
    | cons rv l =>
      have hl0 : l = []:=by
        rw [hl] at hm
        cases l with
        | nil=>rfl
        | cons a b=>cases x <;> cases rv <;> simp [mRes] at hm
      subst hl0
      rw [hl] at hm
      obtain ⟨v,h1,h2⟩:=ares_ok (P:=P) hi hm hy
      have h3:=results_run (P:=P) (W':=W') (F:=F) (a':=a') (vs:=[v]) rfl (by rw [hl]; simp [h1])
      exact ⟨v,by simpa using h3,h2,rv,rfl,h1⟩
  unfold aresult at h
  split at h
  · rename_i t
    split at h
    · rename_i x hx
      simp only [Option.some.injEq,Prod.mk.injEq] at h
      obtain ⟨rfl,rfl⟩:=h
      obtain ⟨v,h1,h2,rv,h3,h4⟩:=one (x:=.tmp t) rfl (by simpa [ares] using hx)
      refine ⟨v,h1,h2,fun te hte=>⟨t,?_⟩⟩
      obtain ⟨y,q1,q2⟩:=hi.own t te (rightOf_mem hte)
      have hy : y = x:=by
        simp only [St.av,St.sv,q1,SV.av,Option.some.injEq] at hx
        exact hx
      subst hy
      have : v = a'.tmps.getD t undef:=by
        rw [h3] at hm
        cases rv with
        | cell c n=>simp [mRes] at hm
        | tmp u =>
          simp only [mRes,Bool.and_true,beq_iff_eq] at hm
          subst hm
          simpa [resOf] using h4.symm
      rw [this]
      exact q2
    · cases h
  · rename_i x hx
    simp only [Option.map_eq_some_iff,Prod.mk.injEq] at h
    obtain ⟨y,hy,rfl,rfl⟩:=h
    obtain ⟨v,h1,h2,_⟩:=one rfl hy
    exact ⟨v,h1,h2,fun te hte=>by cases hte⟩
  · rename_i hn1 hn2
    simp only [Option.map_eq_some_iff,Prod.mk.injEq] at h
    obtain ⟨xs,hy,rfl,rfl⟩:=h
    have hlen : ∀ {rs : List ARes} {xs : List AV},aresAll st2 rs = some xs→xs.length = rs.length:=by
      intro rs
      induction rs with
      | nil=>intro xs h; simp only [aresAll,Option.some.injEq] at h; subst h; rfl
      | cons r rs ih =>
        intro xs h
        simp only [aresAll] at h
        split at h
        · rename_i hys
          simp only [Option.some.injEq] at h
          subst h
          simp [ih hys]
        · cases h
    have h1 : xs.length≠1:=by
      rw [hlen hy]
      intro h1
      obtain ⟨x,hx⟩:=List.length_eq_one_iff.1 h1
      exact hn2 x hx
    obtain ⟨v,h2,h3⟩:=all hy h1
    exact ⟨v,h2,h3,fun te hte=>by cases hte⟩
theorem zip_get (args : List AV) (n k : Nat) : Slots.get ((args.zipIdx n).map fun p=>(p.2,SV.v p.1)) (n + k) = (match args[k]? with | some x=>.v x | none=>.junk):=by
  induction args generalizing n k with
  | nil=>simp [Slots.get]
  | cons a args ih =>
    simp only [List.zipIdx_cons,List.map_cons,Slots.get]
    cases k with
    | zero=>simp
    | succ k =>
      have h1 : ¬ n = n + (k + 1):=by omega
      rw [if_neg h1]
      have:=ih (n + 1) k
      rw [show n + 1 + k = n + (k + 1) by omega] at this
      rw [this]
      simp
theorem enter_ok {args : List AV} {vs : Array Value} (hT : RT g W args vs.toList) (hS : SInv g W S) (hN : args.length≤N) :
    Inv g W { tmps:=vs++Array.replicate (N - vs.size) undef,defers:=[] } N (fun _=>0) (aenter args S):=by
  have hl:=RT_length hT
  simp at hl
  refine ⟨by simp; omega,fun k=>?_,fun k e hk=>(by cases hk),fun d x hx=>(by cases hx),hS⟩
  have:=zip_get args 0 k
  simp only [Nat.zero_add] at this
  simp only [aenter,this]
  cases hk : args[k]? with
  | none=>trivial
  | some x =>
    obtain ⟨v,h1,h2⟩:=RT_get hT hk
    have hv : vs[k]? = some v:=by simpa using h1
    have hks : k < vs.size:=(Array.getElem?_eq_some_iff.1 hv).1
    show RV g W x _
    have : (vs++Array.replicate (N - vs.size) undef).getD k undef = v:=by
      rw [Array.getD_eq_getD_getElem?,Array.getElem?_append,if_pos hks,hv]
      rfl
    simp only [this]
    exact h2
theorem fun_body (hP : P.follows .mixedOrders = true) {rec : Rec} (hrec : RecSound P W0 rec) {f : FuncId} {fn : AFun} (hm : mFun P f fn = true) {args : List AV} {S : List Bx} {e : AEnd} {S' : List Bx} (h : afun rec fn args S = some (e,S')) :
    ∃ F c, P.funcs[f]? = some F ∧ F.body = some c ∧ (F.name == "runtime.NumGoroutine") = false ∧ ∀ g W (vs : Array Value), Base W0 g W → RT g W args vs.toList → SInv g W S →
      c.wp P (bodyPost P F (Post g W e S')) { tmps:=vs++Array.replicate (F.ntmps - vs.size) undef,defers:=[] } W:=by
  unfold mFun at hm
  split at hm
  · rename_i F hF
    split at hm
    · rename_i c hc
      simp only [Bool.and_eq_true,beq_iff_eq,decide_eq_true_eq,Bool.not_eq_true'] at hm
      obtain ⟨⟨⟨⟨hm,hN⟩,hn⟩,hname⟩,hres⟩:=hm
      refine ⟨F,c,hF,hc,hname,fun g W vs hB hT hS=>?_⟩
      unfold afun at h
      split at h
      · rename_i hlen
        cases hcode : acode rec fn.body (aenter args S) with
        | none=>rw [hcode] at h; cases h
        | some p =>
          obtain ⟨x,st⟩:=p
          rw [hcode] at h
          have hl:=RT_length hT
          simp at hl
          rw [hN]
          have hi:=enter_ok (N:=fn.N) hT hS (by omega)
          refine code_wp hP hrec fn.body hm hi hB hcode ?_
          intro g' W' a' L' st2 e2 hdf hE hi' hst he
          have hfin : ∀ {st3 : St},st2 = st3→(match aresult st3 fn.res with | some (r,own)=>aleave fn.keepB S st3.S (.ret r own) | none=>none) = some (e,S') →
              a'.defers = []∧∃ v,(results F a'.tmps).run P W' = .ok v W'∧Post g W e S' (.returned v) W':=by
            intro st3 h3 h4
            subst h3
            split at h4
            · rename_i r own hr
              obtain ⟨v,q1,q2,q3⟩:=aresult_ok hi' hres hr
              exact ⟨hdf,v,q1,post_ret hE hi' hS h4 q2 q3⟩
            · cases h4
          cases he with
          | normal =>
            have h2 : st2 = st:=by
              rcases hst with h | ⟨h,_⟩
              · exact h
              · cases h
            exact hfin h2 h
          | ret =>
            have h2 : st2 = st:=by
              rcases hst with h | ⟨h,_⟩
              · exact h
              · cases h
            exact hfin h2 h
          | exit id=>cases h
          | panic v u hu =>
            have h2 : st2.S = st.S:=by
              rcases hst with h | ⟨_,h⟩
              · rw [h]
              · exact h
            refine ⟨hdf,?_⟩
            simp only at h
            rw [← h2] at h
            exact post_panic hE hi' hS h hu
      · cases h
    · cases hm
  · cases hm
theorem fun_sound (hP : P.follows .mixedOrders = true) {rec : Rec} (hrec : RecSound P W0 rec) {f : FuncId} {fn : AFun} (hm : mFun P f fn = true) : SoundFun P W0 f (afun rec fn):=by
  intro args S e S' h
  obtain ⟨F,c,hF,hc,hname,hb⟩:=fun_body hP hrec hm h
  exact ⟨⟨F,hF,hname,by simp [hc]⟩,fun g W vs hB hT hS _=>calls_of_wp hF hc (hb g W vs hB hT hS)⟩
end
end Go.Av
set_option linter.unusedVariables false
set_option linter.unusedSimpArgs false
set_option linter.unusedSectionVars false
namespace Go.Av
open Go
inductive DCode where
  | code (c : ACode)
  | seq (a b : DCode)
  | cond (c : Opd) (a b : DCode)
  | dfr (ops : List AOper) (c : Opd) (xs : List Opd) (live locs : List Nat)
  deriving Inhabited
abbrev DA:=Nat×List AV
inductive HFun where
  | ord (fn : AFun)
  | rcv (fn : AFun) (d : Nat)
structure DFun where
  n : Nat
  N : Nat
  body : DCode
  res : List ARes
  keepB : Nat:=0
  hs : List (Nat×HFun)
structure Ev where
  code : ACode→St→Option (AEx×St)
  ops : List AOper→St→Option (AEx×St)
  leave : Nat→List Bx→List Bx→AEnd→Option (AEnd×List Bx)
def dcodeE (E : Ev) : DCode→St→List DA→Option (AEx×St×List DA)
  | .code c, st, ds => match E.code c st with
    | some (x,st')=>some (x,st',ds)
    | none=>none
  | .seq a b, st, ds => match dcodeE E a st ds with
    | some (.normal,st',ds')=>dcodeE E b st' ds'
    | r=>r
  | .cond c a b, st, ds => match st.av c with
    | some (.bool t)=>if t then dcodeE E a st ds else dcodeE E b st ds
    | _=>none
  | .dfr ops c xs live locs, st, ds => match E.ops ops st with
    | some (.normal, st') => (match st'.av c, st'.avs xs with
      | some (.clos (.func f) first caps),some as=>some (.normal,st'.keep live locs,(f,first++as++caps) :: ds)
      | _,_=>none)
    | some (x,st')=>some (x,st',ds)
    | none=>none
def fendE (E : Ev) (res : List ARes) (kb : Nat) (S : List Bx) : AEx×St→Option (AEnd×List Bx)
  | (.normal, st) | (.ret, st) => match aresult st res with
    | some (r,own)=>E.leave kb S st.S (.ret r own)
    | none=>none
  | (.panic v,st)=>E.leave kb S st.S (.panic v)
  | _=>none
def handE (E : Ev) (h : HFun) (args : List AV) (m : Option AV) (S : List Bx) : Option (AEnd×Bool×List Bx) :=
  match h with
  | .ord fn=>if args.length = fn.n then (match E.code fn.body (aenter args S) with
      | some p => (match fendE E fn.res fn.keepB S p with
        | some (e,S')=>some (e,false,S')
        | none=>none)
      | none=>none) else none
  | .rcv fn d=>if args.length = fn.n then (match E.code fn.body ((aenter args S).put d (.v (m.getD .niliface))) with
      | some p => (match fendE E fn.res fn.keepB S p with
        | some (e,S')=>some (e,m.isSome,S')
        | none=>none)
      | none=>none) else none
def lookH : List (Nat×HFun)→Nat→Option HFun
  | [],_=>none
  | (k,d) :: r,f=>if k = f then some d else lookH r f
def leavesE (E : Ev) (hs : List (Nat×HFun)) : List DA→Option AV→List Bx→Option (Option AV×List Bx)
  | [],m,S=>some (m,S)
  | d :: ds, m, S => match lookH hs d.1 with
    | some h => (match handE E h d.2 m S with
      | some (.ret _ _,r,S')=>leavesE E hs ds (if r then none else m) S'
      | _=>none)
    | none=>none
def dendE (E : Ev) (fn : DFun) (S : List Bx) (st : St) : Option (Option AV×List Bx)→Option (AEnd×List Bx)
  | some (none, S') => (match aresult { st with S := S' } fn.res with
    | some (r,own)=>E.leave fn.keepB S S' (.ret r own)
    | none=>none)
  | some (some w,S')=>E.leave fn.keepB S S' (.panic w)
  | none=>none
def fslots : List ARes→List Nat
  | []=>[]
  | .tmp t :: r=>t :: fslots r
  | .cell a _ _ :: r=>a :: fslots r
def isV : SV→Bool
  | .v _=>true
  | _=>false
def funDE (E : Ev) (fn : DFun) (args : List AV) (S : List Bx) : Option (AEnd×List Bx) :=
  if args.length = fn.n then
    match dcodeE E fn.body (aenter args S) [] with
    | some (.normal,st,ds) | some (.ret,st,ds)=>dendE E fn S st (leavesE E fn.hs ds none st.S)
    | some (.panic v,st,ds)=>if (fslots fn.res).all (fun k=>isV (st.σ.get k)) = true then dendE E fn S st (leavesE E fn.hs ds (some v) st.S) else none
    | _=>none
  else none
noncomputable def evA (rec : Rec) : Ev:=⟨acode rec,aops rec,aleave⟩
noncomputable def afunD (rec : Rec) (fn : DFun) (args : List AV) (S : List Bx) : Option (AEnd×List Bx):=funDE (evA rec) fn args S
def isDefer (c : Opd) (xs : List Opd) (o : Oper) : Bool :=
  o.dst.isNone && o.guard.isNone && (match o.op with
    | .defer cl => (match cl.callee with
      | .value f=>mOpd c f && mOpds xs cl.args.toList
      | _=>false)
    | _=>false)
def mD (P : Program) (N : Nat) : DCode→Code→Bool
  | .code c,d=>mCode P N c d
  | .seq a b,.seq c d=>mD P N a c && mD P N b d
  | .cond x a b,.cond y c d=>mOpd x y && mD P N a c && mD P N b d
  | .dfr aos c xs _ _, .region _ ops draw => !draw && mOpers P N ops aos ops.toList.dropLast && (match ops.toList.getLast? with
    | some o=>isDefer c xs o
    | none=>false)
  | _,_=>false
def DCode.fix (F : List Nat) : DCode→Bool
  | .code c=>c.fix F
  | .seq a b | .cond _ a b=>a.fix F && b.fix F
  | .dfr ..=>true
def isRec (N d : Nat) (o : Oper) : Bool :=
  o.dst == some d && decide (d < N) && o.guard.isNone && (match o.op with
    | .call cl => (match cl.callee with
      | .builtin .recover=>true
      | _=>false)
    | _=>false)
def mR (P : Program) (N d : Nat) : ACode→Code→Bool
  | .seq a b,.seq c e=>mR P N d a c && mCode P N b e
  | .region aos none false _ _, .region _ ops draw => !draw && (match ops.toList with
    | o :: os=>isRec N d o && mOpers P N ops aos os
    | []=>false)
  | _,_=>false
def mFunR (P : Program) (f : FuncId) (fn : AFun) (d : Nat) : Bool :=
  match P.funcs[f]? with
  | some F => (match F.body with
    | some c => mR P fn.N d fn.body c && F.ntmps == fn.N && decide (fn.n ≤ fn.N) && !(F.name == "runtime.NumGoroutine") && mRes P fn.res F.results.toList
    | none=>false)
  | none=>false
def mHand (P : Program) (f : FuncId) : HFun→Bool
  | .ord fn=>mFun P f fn
  | .rcv fn d=>mFunR P f fn d
def mFunD (P : Program) (f : FuncId) (fn : DFun) : Bool :=
  match P.funcs[f]? with
  | some F => (match F.body with
    | some c => mD P fn.N fn.body c && F.ntmps == fn.N && decide (fn.n ≤ fn.N) && !(F.name == "runtime.NumGoroutine") && mRes P fn.res F.results.toList && fn.hs.all (fun p => mHand P p.1 p.2) && fn.body.fix (fslots fn.res)
    | none=>false)
  | none=>false
section
variable {P : Program} {W0 : World} {N : Nat}
def id' (n : Nat) : Nat:=n
theorem opsI_wpX {rec : Rec} (hrec : RecSound P W0 rec) {ops : Array Oper} {aos : List AOper} (ix : Nat→Nat) (hm : ∀ i ao,aos[i]? = some ao→∃ o,ops[ix i]? = some o∧mOper P N ops ao o = true)
    {Q : Exit→Act→World→Prop} (js : List Nat) :
    ∀ (is : List Nat) {g : Gh} {W : World} {a : Act} {L : Nat→Nat} {st : St} (hi : Inv g W a N L st) (hB : Base W0 g W) {x : AEx} {st' : St} (h : aopsI rec aos is st = some (x,st'))
      (hg : Goes W0 g W N a.defers x st' (wpOps P ops Q js) Q),wpOps P ops Q (is.map ix++js) a W
  | [], g, W, a, L, st, hi, hB, x, st', h, hg => by
    simp only [aopsI,normal,Option.some.injEq,Prod.mk.injEq] at h
    obtain ⟨rfl,rfl⟩:=h
    exact hg.normal rfl g W a L rfl (Ext.refl g W) hi
  | i :: is, g, W, a, L, st, hi, hB, x, st', h, hg => by
    simp only [aopsI] at h
    split at h
    · rename_i ao hao
      obtain ⟨o,ho',hmo⟩:=hm i ao hao
      simp only [List.map_cons,List.cons_append,wpOps,ho']
      split at h
      · rename_i st1 h1
        refine aoper_wp hi hB hrec o hmo h1 ⟨fun _ g' W' a' L' hdf hE hi'=>?_,fun v hv=>by cases hv⟩
        refine opsI_wpX hrec ix hm js is hi' (hB.ext' hE) h ⟨fun hx g2 W2 a2 L2 hd2 hE2 hi2=>?_,fun v hx g2 W2 a2 L2 u hd2 hE2 hi2 hu=>?_⟩
        · exact hg.normal hx g2 W2 a2 L2 (hd2.trans hdf) (hE.trans hE2) hi2
        · exact hg.panic v hx g2 W2 a2 L2 u (hd2.trans hdf) (hE.trans hE2) hi2 hu
      · rename_i hne
        refine aoper_wp hi hB hrec o hmo h ⟨fun hx=>?_,hg.panic⟩
        subst hx
        exact absurd h (by intro e; exact hne _ e)
    · cases h
theorem opsI_wpS {rec : Rec} (hrec : RecSound P W0 rec) {ops : Array Oper} {aos : List AOper} (ix : Nat→Nat) (hm : ∀ i ao,aos[i]? = some ao→∃ o,ops[ix i]? = some o∧mOper P N ops ao o = true)
    {Q : Exit→Act→List Frame→World→Prop} (cs : List Frame) (js : List Nat) :
    ∀ (is : List Nat) {g : Gh} {W : World} {a : Act} {L : Nat→Nat} {st : St} (hi : Inv g W a N L st) (hB : Base W0 g W) {x : AEx} {st' : St} (h : aopsI rec aos is st = some (x,st'))
      (hg : Goes W0 g W N a.defers x st' (fun a w=>wpOpsS P ops Q js a cs w) (fun e a w=>Q e a cs w)),wpOpsS P ops Q (is.map ix++js) a cs W
  | [], g, W, a, L, st, hi, hB, x, st', h, hg => by
    simp only [aopsI,normal,Option.some.injEq,Prod.mk.injEq] at h
    obtain ⟨rfl,rfl⟩:=h
    exact hg.normal rfl g W a L rfl (Ext.refl g W) hi
  | i :: is, g, W, a, L, st, hi, hB, x, st', h, hg => by
    simp only [aopsI] at h
    split at h
    · rename_i ao hao
      obtain ⟨o,ho',hmo⟩:=hm i ao hao
      have turn : (if Region.wanted o (yielded ops a.tmps) then o.wp P a W (fun a w=>wpOpsS P ops Q (is.map ix++js) a cs w) (fun e a w=>Q e a cs w) else (fun a w=>wpOpsS P ops Q (is.map ix++js) a cs w) (a.put o.dst undef) W) →
          wpOpsS P ops Q ((i :: is).map ix++js) a cs W:=by
        intro h0
        simp only [List.map_cons,List.cons_append,wpOpsS,ho']
        split at h0
        · rename_i hw
          rw [if_pos hw]
          unfold Oper.wp at h0
          split
          · rename_i w' hr
            rw [hr] at h0
            exact h0.elim
          · exact h0
        · rename_i hw
          rw [if_neg hw]
          exact h0
      split at h
      · rename_i st1 h1
        refine turn (aoper_wp0 hi hB hrec o hmo h1 ⟨fun _ g' W' a' L' hdf hE hi'=>?_,fun v hv=>by cases hv⟩)
        refine opsI_wpS hrec ix hm cs js is hi' (hB.ext' hE) h ⟨fun hx g2 W2 a2 L2 hd2 hE2 hi2=>?_,fun v hx g2 W2 a2 L2 u hd2 hE2 hi2 hu=>?_⟩
        · exact hg.normal hx g2 W2 a2 L2 (hd2.trans hdf) (hE.trans hE2) hi2
        · exact hg.panic v hx g2 W2 a2 L2 u (hd2.trans hdf) (hE.trans hE2) hi2 hu
      · rename_i hne
        refine turn (aoper_wp0 hi hB hrec o hmo h ⟨fun hx=>?_,hg.panic⟩)
        subst hx
        exact absurd h (by intro e; exact hne _ e)
    · cases h
def DR (g : Gh) (W : World) (d : DA) (x : Deferred) : Prop:=∃ cap : Array Value,x.target = .fn (.func d.1) cap∧RT g W d.2 (x.args++cap).toList
def DfR (g : Gh) (W : World) : List DA→List Deferred→Prop
  | [],[]=>True
  | d :: ds,x :: xs=>DR g W d x∧DfR g W ds xs
  | _,_=>False
theorem DfR.keep {g g' : Gh} {W W' : World} (k : Keeps g W g' W') : ∀ {ds : List DA} {xs : List Deferred},DfR g W ds xs→DfR g' W' ds xs
  | [],[],_=>trivial
  | [],_ :: _,h=>h.elim
  | _ :: _,[],h=>h.elim
  | d :: ds, x :: xs, h => by
    obtain ⟨⟨cap,h1,h2⟩,h3⟩:=h
    exact ⟨⟨cap,h1,RT_keeps k _ _ h2⟩,DfR.keep k h3⟩
theorem Inv.defers {g : Gh} {W : World} {a : Act} {L : Nat→Nat} {st : St} (h : Inv g W a N L st) (x : List Deferred) : Inv g W { a with defers:=x } N L st:=⟨h.size,h.slot,h.own,h.loc,h.sh⟩
def GoesD (F : List Nat) (g : Gh) (W : World) (N : Nat) (x : AEx) (st' : St) (ds' : List DA) (Q : Exit→Act→World→Prop) : Prop :=
  ∀ g' W' a' L' st2 e,DfR g' W' ds' a'.defers→Ext g W g' W'→Inv g' W' a' N L' st2→(st2 = st'∨(x.isPanic = true∧st2.S = st'.S∧∀ k ∈ F,ob st2 k = ob st' k))→Ends g' W' x e→Q e a' W'
theorem dcode_wp {F : List Nat} (hm : P.follows .mixedOrders = true) {rec : Rec} (hrec : RecSound P W0 rec) : ∀ (ac : DCode) {c : Code},mD P N ac c = true→ac.fix F = true→∀ {g : Gh} {W : World} {a : Act} {L : Nat→Nat} {st : St} {ds : List DA},Inv g W a N L st→Base W0 g W→DfR g W ds a.defers →
    ∀ {x : AEx} {st' : St} {ds' : List DA},dcodeE (evA rec) ac st ds = some (x,st',ds')→∀ {Q : Exit→Act→World→Prop},GoesD F g W N x st' ds' Q→c.wp P Q a W:=by
  intro ac
  induction ac with
  | code ca =>
    intro c hc hfx g W a L st ds hi hB hD x st' ds' h Q hg
    simp only [mD] at hc
    simp only [dcodeE,evA] at h
    cases h1 : acode rec ca st with
    | none=>rw [h1] at h; cases h
    | some p =>
      obtain ⟨y,s⟩:=p
      rw [h1] at h
      simp only [Option.some.injEq,Prod.mk.injEq] at h
      obtain ⟨rfl,rfl,rfl⟩:=h
      simp only [DCode.fix] at hfx
      refine code_wpF hm hrec ca hc hfx hi hB h1 fun g' W' a' L' st2 e hdf hE hi' hst he=>?_
      exact hg g' W' a' L' st2 e (by rw [hdf]; exact hD.keep hE.toKeeps) hE hi' hst he
  | seq ca cb iha ihb =>
    intro c hc hfx g W a L st ds hi hB hD x st' ds' h Q hg
    cases c <;> try (simp [mD] at hc; done)
    rename_i c d
    simp only [mD,Bool.and_eq_true] at hc
    refine wp_seq ?_
    simp only [dcodeE] at h
    cases h1 : dcodeE (evA rec) ca st ds with
    | none=>rw [h1] at h; cases h
    | some p =>
      obtain ⟨y,s1,ds1⟩:=p
      rw [h1] at h
      simp only [DCode.fix,Bool.and_eq_true] at hfx
      refine iha hc.1 hfx.1 hi hB hD h1 fun g' W' a' L' st2 e hdf hE hi' hst he=>?_
      cases he with
      | normal =>
        have hst2 : st2 = s1:=by
          rcases hst with h | ⟨h,_⟩
          · exact h
          · cases h
        subst hst2
        refine ihb hc.2 hfx.2 hi' (hB.ext' hE) hdf h fun g2 W2 a2 L2 st3 e2 hdf2 hE2 hi2 hst2 he2=>?_
        exact hg g2 W2 a2 L2 st3 e2 hdf2 (hE.trans hE2) hi2 hst2 he2
      | exit id =>
        simp only [Option.some.injEq,Prod.mk.injEq] at h
        obtain ⟨rfl,rfl,rfl⟩:=h
        exact hg g' W' a' L' st2 _ hdf hE hi' hst (.exit id)
      | ret =>
        simp only [Option.some.injEq,Prod.mk.injEq] at h
        obtain ⟨rfl,rfl,rfl⟩:=h
        exact hg g' W' a' L' st2 _ hdf hE hi' hst .ret
      | panic v u hu =>
        simp only [Option.some.injEq,Prod.mk.injEq] at h
        obtain ⟨rfl,rfl,rfl⟩:=h
        exact hg g' W' a' L' st2 _ hdf hE hi' hst (.panic v u hu)
  | cond o ca cb iha ihb =>
    intro c hc hfx g W a L st ds hi hB hD x st' ds' h Q hg
    cases c <;> try (simp [mD] at hc; done)
    rename_i o' c d
    simp only [mD,Bool.and_eq_true] at hc
    simp only [dcodeE] at h
    split at h
    · rename_i t ht
      have hv:=RV_bool.1 (av_ok hi hc.1.1 ht)
      refine wp_cond hv ?_
      simp only [DCode.fix,Bool.and_eq_true] at hfx
      cases t with
      | true=>exact iha hc.1.2 hfx.1 hi hB hD (by simpa using h) hg
      | false=>exact ihb hc.2 hfx.2 hi hB hD (by simpa using h) hg
    · cases h
  | dfr aos cl xs live locs =>
    intro c hc hfx g W a L st ds hi hB hD x st' ds' h Q hg
    cases c <;> try (simp [mD] at hc; done)
    rename_i id ops draw
    simp only [mD,Bool.and_eq_true,Bool.not_eq_true'] at hc
    obtain ⟨⟨rfl,hmo⟩,hlast⟩:=hc
    split at hlast
    · rename_i o ho
      simp only [isDefer,Bool.and_eq_true] at hlast
      obtain ⟨⟨hdst,hgd⟩,hop⟩:=hlast
      have hdst : o.dst = none:=by simpa using hdst
      have hgd : o.guard = none:=by simpa using hgd
      split at hop
      · rename_i call hcall
        split at hop
        · rename_i f hf
          simp only [Bool.and_eq_true] at hop
          have hlen : aos.length = ops.size - 1:=by have:=mOpers_length hmo; simpa using this
          have hne : ops.toList≠[]:=by intro e; rw [e] at ho; cases ho
          have hpos : 0 < ops.size:=by
            rcases Nat.eq_zero_or_pos ops.size with h0 | h0
            · exact absurd (List.length_eq_zero_iff.1 (by simpa using h0)) hne
            · exact h0
          have hon : ops[aos.length]? = some o:=by
            rw [List.getLast?_eq_getElem?] at ho
            rw [hlen]
            simpa using ho
          have hrange : List.range ops.size = (List.range aos.length).map id'++[aos.length]:=by
            rw [show ops.size = aos.length + 1 by omega,List.range_succ,show (id' : Nat→Nat) = (fun x=>x) from rfl,List.map_id']
          simp only [dcodeE,evA] at h
          refine wp_region ?_
          rw [hrange]
          have hget : ∀ i ao,aos[i]? = some ao→∃ o,ops[id' i]? = some o∧mOper P N ops ao o = true:=by
            intro i ao hao
            obtain ⟨o,h1,h2⟩:=mOpers_get hmo i hao
            refine ⟨o,?_,h2⟩
            have:=List.getElem?_dropLast (xs:=ops.toList) (i:=i)
            rw [h1] at this
            split at this
            · simpa [id'] using this.symm
            · cases this
          cases h1 : aops rec aos st with
          | none=>rw [h1] at h; cases h
          | some p =>
            obtain ⟨y,s1⟩:=p
            rw [h1] at h
            have h1':=h1
            rw [← aopsI_all] at h1'
            refine opsI_wpX hrec id' hget [aos.length] _ hi hB h1' ⟨fun hy g' W' a' L' hdf hE hi'=>?_,fun v hy g' W' a' L' u hdf hE hi' hu=>?_⟩
            · subst hy
              simp only at h
              split at h
              · rename_i n first caps as hc1 hc2
                simp only [Option.some.injEq,Prod.mk.injEq] at h
                obtain ⟨rfl,rfl,rfl⟩:=h
                have q1:=RV_notAgg (av_ok hi' hop.1 hc1) rfl
                simp only [R] at q1
                obtain ⟨F,C,q2,q3,q4⟩:=q1
                have q2 : a'.eval f = .func (.func n) F C:=by simpa using q2
                have q5:=avs_ok hi' hop.2 hc2
                simp only [wpOps,hon]
                rw [if_pos (by simp [Region.wanted,hgd])]
                left
                unfold Oper.wp
                have hrun : (execOp a'.eval o).run P W' = .ok (.defer { target:=.fn (.func n) C,args:=F++call.args.map a'.eval }) W':=by
                  simp [execOp,hcall,resolve,hf,Deferred.ofValue,q2]
                rw [hrun]
                simp only [Oper.upon,hdst,Act.put]
                refine hg g' W' _ L' _ .normal ⟨⟨C,rfl,?_⟩,?_⟩ hE ((hi'.defers _).keep' live locs) (.inl rfl) .normal
                · simp only [Array.toList_append, Array.toList_map]
                  exact RT_app (RT_app q3 q5) q4
                · rw [hdf]; exact hD.keep hE.toKeeps
              · cases h
            · subst hy
              simp only [Option.some.injEq,Prod.mk.injEq] at h
              obtain ⟨rfl,rfl,rfl⟩:=h
              exact hg g' W' a' L' _ _ (by rw [hdf]; exact hD.keep hE.toKeeps) hE hi' (.inl rfl) (.panic v u hu)
        · cases hop
      · cases hop
    · cases hlast
def recd : FrameMode→FrameMode
  | .panicking (e :: older)=>.panicking ({ e with recovered:=true } :: older)
  | m=>m
def ModeR (g : Gh) (W : World) : Option AV→FrameMode→Prop
  | none,u=>u = .returning
  | some v,u=>∃ uv,u = .panicking [{ v:=uv,recovered:=false }]∧RV g W v uv
theorem ModeR.keep {g g' : Gh} {W W' : World} (k : Keeps g W g' W') {m : Option AV} {u : FrameMode} (h : ModeR g W m u) : ModeR g' W' m u:=by
  cases m with
  | none=>exact h
  | some v =>
    obtain ⟨uv,h1,h2⟩:=h
    exact ⟨uv,h1,RV_keeps k h2⟩
theorem codeR_wp (hm : P.follows .mixedOrders = true) {rec : Rec} (hrec : RecSound P W0 rec) {d : Nat} {m : Option AV} {u : FrameMode} {c0 : Frame} (hu : c0.mode = u) (cs : List Frame) : ∀ (ac : ACode) {c : Code},mR P N d ac c = true→∀ {g : Gh} {W : World} {a : Act} {L : Nat→Nat} {st : St},Inv g W a N L st→Base W0 g W→ModeR g W m u →
    ∀ {x : AEx} {st' : St},acode rec ac (st.put d (.v (m.getD .niliface))) = some (x,st')→∀ {Q : Exit→Act→List Frame→World→Prop},GoesC g W N a.defers x st' (fun e a w=>Q e a ({ c0 with mode:=recd u } :: cs) w)→c.wpS P Q a (c0 :: cs) W:=by
  intro ac
  induction ac with
  | seq ca cb iha ihb =>
    intro c hc g W a L st hi hB hM x st' h Q hg
    cases c <;> try (simp [mR] at hc; done)
    rename_i c d'
    simp only [mR,Bool.and_eq_true] at hc
    refine wpS_seq ?_
    simp only [acode] at h
    cases h1 : acode rec ca (st.put d (.v (m.getD .niliface))) with
    | none=>rw [h1] at h; cases h
    | some p =>
      obtain ⟨y,s1⟩:=p
      rw [h1] at h
      refine iha hc.1 hi hB hM h1 fun g' W' a' L' st2 e hdf hE hi' hst he=>?_
      cases he with
      | normal =>
        have hst2 : st2 = s1:=by
          rcases hst with h | ⟨h,_⟩
          · exact h
          · cases h
        subst hst2
        refine wpS_of_wp (code_wp hm hrec cb hc.2 hi' (hB.ext' hE) h fun g2 W2 a2 L2 st3 e2 hdf2 hE2 hi2 hst2 he2=>?_)
        exact hg g2 W2 a2 L2 st3 e2 (hdf2.trans hdf) (hE.trans hE2) hi2 hst2 he2
      | exit id =>
        simp only [Option.some.injEq,Prod.mk.injEq] at h
        obtain ⟨rfl,rfl⟩:=h
        exact hg g' W' a' L' st2 _ hdf hE hi' hst (.exit id)
      | ret =>
        simp only [Option.some.injEq,Prod.mk.injEq] at h
        obtain ⟨rfl,rfl⟩:=h
        exact hg g' W' a' L' st2 _ hdf hE hi' hst .ret
      | panic v u hu =>
        simp only [Option.some.injEq,Prod.mk.injEq] at h
        obtain ⟨rfl,rfl⟩:=h
        exact hg g' W' a' L' st2 _ hdf hE hi' hst (.panic v u hu)
  | region aos bs quiet live locs =>
    intro c hc g W a L st hi hB hM x st' h Q hg
    cases c <;> try (cases bs <;> cases quiet <;> simp [mR] at hc; done)
    rename_i id ops draw
    cases bs with
    | some bs=>simp [mR] at hc
    | none =>
    cases quiet with
    | true=>simp [mR] at hc
    | false =>
    simp only [mR,Bool.and_eq_true,Bool.not_eq_true'] at hc
    obtain ⟨rfl,hc⟩:=hc
    split at hc
    · rename_i o os hos
      simp only [Bool.and_eq_true,isRec,beq_iff_eq,decide_eq_true_eq] at hc
      obtain ⟨⟨⟨⟨hdst,hdN⟩,hgd⟩,hop⟩,hmo⟩:=hc
      have hgd : o.guard = none:=by simpa using hgd
      have hlen:=mOpers_length hmo
      have hsz : ops.size = aos.length + 1:=by
        have:=congrArg List.length hos
        simp only [Array.length_toList,List.length_cons] at this
        omega
      have ho0 : ops[0]? = some o:=by
        have : ops.toList[0]? = some o:=by rw [hos]; rfl
        simpa using this
      split at hop
      · rename_i call hcall
        split at hop
        · rename_i hcallee
          have hrun : (execOp a.eval o).run P W = .ok .recover W:=by
            simp [execOp,hcall,resolve,hcallee,invoke,builtin]
          refine wpS_region ?_
          rw [hsz,List.range_succ_eq_map]
          have hget : ∀ i ao,aos[i]? = some ao→∃ o,ops[Nat.succ i]? = some o∧mOper P N ops ao o = true:=by
            intro i ao hao
            obtain ⟨o',h1,h2⟩:=mOpers_get hmo i hao
            refine ⟨o',?_,h2⟩
            have : ops.toList[i + 1]? = some o':=by rw [hos]; simpa using h1
            simpa using this
          have step : ∀ vv,RV g W (m.getD .niliface) vv→wpOpsS P ops Q ((List.range aos.length).map Nat.succ) (a.put (some d) vv) ({ c0 with mode:=recd u } :: cs) W:=by
            intro vv hvv
            have hi1:=hi.put d hdN (.v (m.getD .niliface)) vv hvv
            simp only [acode,Option.isSome_none,Bool.false_eq_true,if_false,porder_none] at h
            cases h1 : aops rec aos (st.put d (.v (m.getD .niliface))) with
            | none=>rw [h1] at h; cases h
            | some p =>
              obtain ⟨y,s⟩:=p
              rw [h1] at h
              have h1':=h1
              rw [← aopsI_all] at h1'
              have:=opsI_wpS hrec Nat.succ hget (Q:=Q) ({ c0 with mode:=recd u } :: cs) [] (List.range aos.length) hi1 hB h1' ⟨fun hy g' W' a' L' hdf hE hi'=>?_,fun v hy g' W' a' L' u hdf hE hi' hu=>?_⟩
              · simpa using this
              · subst hy
                simp only [normal,Option.some.injEq,Prod.mk.injEq] at h
                obtain ⟨rfl,rfl⟩:=h
                simp only [wpOpsS]
                exact hg g' W' a' L' _ .normal (hdf.trans (put_defers a _ _)) hE (hi'.keep' live locs) (.inl rfl) .normal
              · subst hy
                simp only [Option.some.injEq,Prod.mk.injEq] at h
                obtain ⟨rfl,rfl⟩:=h
                exact hg g' W' a' L' _ _ (hdf.trans (put_defers a _ _)) hE hi' (.inl rfl) (.panic v u hu)
          simp only [wpOpsS,ho0]
          rw [if_pos (by simp [Region.wanted,hgd]),hrun]
          simp only [hdst]
          cases m with
          | none =>
            have hM' : u = .returning:=hM
            subst hM'
            have hr : recoverD (c0 :: cs) = none:=by simp [recoverD,hu]
            rw [hr]
            have:=step .nilIface ⟨by simp [R,Value.cells],rfl⟩
            have hc0 : ({ c0 with mode:=recd .returning } : Frame) = c0:=by simp only [recd,← hu]
            rw [hc0] at this
            exact this
          | some v =>
            obtain ⟨uv,rfl,hv⟩:=hM
            have hr : recoverD (c0 :: cs) = some (uv,{ c0 with mode:=.panicking [{ v:=uv,recovered:=true }] } :: cs):=by simp [recoverD,hu]
            rw [hr]
            exact step uv hv
        · cases hop
      · cases hop
    · cases hc
  | _ =>
    intro c hc
    cases c <;> simp [mR] at hc
theorem fend_ok {g g' : Gh} {W W' : World} {a' : Act} {L' : Nat→Nat} {S S' : List Bx} {fn : AFun} {F : Func} {rec : Rec} {x : AEx} {st st2 : St} {e : AEnd} {e2 : Exit} (hres : mRes P fn.res F.results.toList = true)
    (h : fendE (evA rec) fn.res fn.keepB S (x,st) = some (e,S')) (hS : SInv g W S) (hE : Ext g W g' W') (hi' : Inv g' W' a' N L' st2) (hst : st2 = st∨(x.isPanic = true∧st2.S = st.S)) (he : Ends g' W' x e2) (hdf : a'.defers = []) :
    match e2 with
    | .normal | .ret=>a'.defers = []∧∃ v,(results F a'.tmps).run P W' = .ok v W'∧Post g W e S' (.returned v) W'
    | .panic ch=>a'.defers = []∧Post g W e S' (.panicked ch) W'
    | _=>False:=by
  have hfin : ∀ {st3 : St},st2 = st3→(match aresult st3 fn.res with | some (r,own)=>aleave fn.keepB S st3.S (.ret r own) | none=>none) = some (e,S') →
      a'.defers = []∧∃ v,(results F a'.tmps).run P W' = .ok v W'∧Post g W e S' (.returned v) W':=by
    intro st3 h3 h4
    subst h3
    split at h4
    · rename_i r own hr
      obtain ⟨v,q1,q2,q3⟩:=aresult_ok hi' hres hr
      exact ⟨hdf,v,q1,post_ret hE hi' hS h4 q2 q3⟩
    · cases h4
  cases he with
  | normal =>
    have h2 : st2 = st:=by
      rcases hst with h | ⟨h,_⟩
      · exact h
      · cases h
    exact hfin h2 h
  | ret =>
    have h2 : st2 = st:=by
      rcases hst with h | ⟨h,_⟩
      · exact h
      · cases h
    exact hfin h2 h
  | exit id=>cases h
  | panic v u hu =>
    have h2 : st2.S = st.S:=by
      rcases hst with h | ⟨_,h⟩
      · rw [h]
      · exact h
    refine ⟨hdf,?_⟩
    simp only [fendE,evA] at h
    rw [← h2] at h
    exact post_panic hE hi' hS h hu
theorem hand_ok (hP : P.follows .mixedOrders = true) {rec : Rec} (hrec : RecSound P W0 rec) {f : FuncId} {hf : HFun} (hm : mHand P f hf = true) {args : List AV} {m : Option AV} {S S' : List Bx} {e : AEnd} {r : Bool}
    (h : handE (evA rec) hf args m S = some (e,r,S')) : Callable P f∧∀ g W (vs : Array Value) u,Base W0 g W→RT g W args vs.toList→SInv g W S→ModeR g W m u →
      CallsD P f vs u W (fun en u' W'=>u' = (if r then recd u else u)∧Post g W e S' en W'):=by
  cases hf with
  | ord fn =>
    simp only [mHand] at hm
    simp only [handE] at h
    split at h
    · rename_i hlen
      split at h
      · rename_i p hp
        split at h
        · rename_i e' S2 he
          simp only [Option.some.injEq,Prod.mk.injEq] at h
          obtain ⟨rfl,rfl,rfl⟩:=h
          have hfun : afun rec fn args S = some (e',S2):=by
            unfold afun
            rw [if_pos hlen]
            simp only [evA] at hp
            rw [hp]
            obtain ⟨x,s⟩:=p
            cases x <;> exact he
          obtain ⟨F,c,hF,hc,hname,hb⟩:=fun_body hP hrec hm hfun
          refine ⟨⟨F,hF,hname,by simp [hc]⟩,fun g W vs u hB hT hS hM=>?_⟩
          refine (callsD_of_wp hF hc (hb g W vs hB hT hS)).mono fun en u' W' hh=>?_
          exact ⟨by simpa using hh.1,hh.2⟩
        · cases h
      · cases h
    · cases h
  | rcv fn d =>
    simp only [mHand,mFunR] at hm
    split at hm
    · rename_i F hF
      split at hm
      · rename_i c hc
        simp only [Bool.and_eq_true,beq_iff_eq,decide_eq_true_eq,Bool.not_eq_true'] at hm
        obtain ⟨⟨⟨⟨hm,hN⟩,hn⟩,hname⟩,hres⟩:=hm
        simp only [handE] at h
        split at h
        · rename_i hlen
          split at h
          · rename_i p hp
            split at h
            · rename_i e' S2 he
              simp only [Option.some.injEq,Prod.mk.injEq] at h
              obtain ⟨rfl,rfl,rfl⟩:=h
              refine ⟨⟨F,hF,hname,by simp [hc]⟩,fun g W vs u hB hT hS hM=>?_⟩
              refine callsD_of_wpS hF hc fun c0 cs hu=>?_
              rw [hN]
              have hl:=RT_length hT
              simp at hl
              have hi:=enter_ok (N:=fn.N) hT hS (by omega)
              obtain ⟨x,st⟩:=p
              simp only [evA] at hp
              refine codeR_wp hP hrec hu cs fn.body hm hi hB hM hp fun g' W' a' L' st2 e2 hdf hE hi' hst he2=>?_
              have hu' : recd u = if m.isSome = true then recd u else u:=by
                cases m with
                | none=>have : u = .returning:=hM; subst this; rfl
                | some v=>rfl
              have q:=fend_ok (P:=P) (F:=F) hres he hS hE hi' hst he2 hdf
              cases he2 with
              | normal =>
                obtain ⟨q1,v,q2,q3⟩:=q
                exact ⟨q1,recd u,rfl,v,q2,hu',q3⟩
              | ret =>
                obtain ⟨q1,v,q2,q3⟩:=q
                exact ⟨q1,recd u,rfl,v,q2,hu',q3⟩
              | exit id=>exact q.elim
              | panic v uv hv =>
                obtain ⟨q1,q3⟩:=q
                exact ⟨q1,recd u,rfl,hu',q3⟩
            · cases h
          · cases h
        · cases h
      · cases hm
    · cases hm
theorem lookH_mem {l : List (Nat×HFun)} {f : Nat} {d : HFun} (h : lookH l f = some d) : (f,d) ∈ l:=by
  induction l with
  | nil=>simp [lookH] at h
  | cons p r ih =>
    obtain ⟨k,e⟩:=p
    simp only [lookH] at h
    split at h
    · rename_i hk; subst hk; obtain rfl:=Option.some.inj h; exact .head _
    · exact .tail _ (ih h)
theorem callFunc_run {f : FuncId} {vs : Array Value} {W : World} (hc : Callable P f) : (callFunc f vs).run P W = .ok (.enter f vs) W:=by
  obtain ⟨fn,h1,h2,h3⟩:=hc
  have h3' : ¬ (fn.body = none):=by intro e; simp [e] at h3
  have h2' : ¬ (fn.name = "runtime.NumGoroutine") := by simpa using h2
  simp [callFunc,h1,h2',h3']
theorem leaves_ok (hP : P.follows .mixedOrders = true) {rec : Rec} (hrec : RecSound P W0 rec) {hs : List (Nat×HFun)} (hm : hs.all (fun p=>mHand P p.1 p.2) = true) {F : Func} {a : Act} {st : St} {R : Ending→World→Prop} :
    ∀ (ds : List DA) (xs : List Deferred) {m m' : Option AV} {S S' : List Bx} {u : FrameMode} {g : Gh} {W : World} {L : Nat→Nat},DfR g W ds xs→Inv g W a N L { st with S:=S }→Base W0 g W→ModeR g W m u→leavesE (evA rec) hs ds m S = some (m',S') →
      (∀ g' W' L' u',Ext g W g' W'→Inv g' W' a N L' { st with S:=S' }→ModeR g' W' m' u'→(match u' with | .returning=>∃ v,(results F a.tmps).run P W' = .ok v W'∧R (.returned v) W' | .panicking ch=>R (.panicked ch) W' | .run=>False)) →
      Leaves P F a.tmps R xs u W
  | [], [], m, m', S, S', u, g, W, L, hD, hi, hB, hM, h, hfin => by
    simp only [leavesE,Option.some.injEq,Prod.mk.injEq] at h
    obtain ⟨rfl,rfl⟩:=h
    have:=hfin g W L u (Ext.refl g W) hi hM
    cases u with
    | run=>exact this.elim
    | returning=>exact this
    | panicking ch=>exact this
  | [],_ :: _,_,_,_,_,_,_,_,_,hD,_,_,_,_,_=>hD.elim
  | _ :: _,[],_,_,_,_,_,_,_,_,hD,_,_,_,_,_=>hD.elim
  | d :: ds, x :: xs, m, m', S, S', u, g, W, L, hD, hi, hB, hM, h, hfin => by
    obtain ⟨⟨cap,ht,hT⟩,hD⟩:=hD
    simp only [leavesE] at h
    split at h
    · rename_i hf hlook
      split at h
      · rename_i r own rr S2 hh
        have hmf : mHand P d.1 hf = true:=List.all_eq_true.1 hm _ (lookH_mem hlook)
        obtain ⟨hcall,hC⟩:=hand_ok hP hrec hmf hh
        have hur : u≠.run:=by
          cases m with
          | none=>have : u = .returning:=hM; rw [this]; simp
          | some v=>obtain ⟨uv,h1,_⟩:=hM; rw [h1]; simp
        have hi0 : Inv g W a N L { st with S:=S }:=hi
        have hk:=hide_keeps g W
        refine ⟨hur,.func d.1,cap,d.1,x.args++cap,ht,?_,?_⟩
        · rw [ht]
          simp only [invoke]
          exact callFunc_run hcall
        · refine (hC g.hide W (x.args ++ cap) u hB.hide (RT_keeps hk _ _ hT) (SInv.hide hi0.sh) (hM.keep hk)).mono fun en u' W' hp => ?_
          obtain ⟨hu',g',hE,hS2,_,hend⟩:=hp
          obtain ⟨v,rfl,_,_⟩:=hend
          obtain ⟨hX,hi',_,_,_⟩:=hi0.back hE hS2 none
          simp only
          have hM' : ModeR (g.back g' none) W' (if rr then none else m) (settle u'):=by
            subst hu'
            cases rr with
            | true =>
              simp only [if_true]
              cases m with
              | none=>have : u = .returning:=hM; rw [this]; rfl
              | some v=>obtain ⟨uv,h1,_⟩:=hM; rw [h1]; rfl
            | false =>
              simp only [Bool.false_eq_true,if_false]
              cases m with
              | none=>have : u = .returning:=hM; rw [this]; rfl
              | some v =>
                obtain ⟨uv,h1,h2⟩:=hM
                rw [h1]
                exact ⟨uv,rfl,RV_keeps hX.toKeeps h2⟩
          exact leaves_ok hP hrec hm ds xs (hD.keep hX.toKeeps) hi' (hB.ext' hX) hM' h fun g2 W2 L2 u2 hE2 hi2 hM2=>hfin g2 W2 L2 u2 (hX.trans hE2) hi2 hM2
      · cases h
    · cases h
theorem isV_get {s : SV} (h : isV s = true) : ∃ a,s = .v a:=by
  cases s <;> first | exact ⟨_,rfl⟩ | cases h
theorem ares_fix {a b : St} (S : List Bx) {x : ARes} (h : ∀ k ∈ fslots [x],ob b k = ob a k) (hv : ∀ k ∈ fslots [x],isV (a.σ.get k) = true) : ares { a with S:=S } x = ares { b with S:=S } x:=by
  cases x with
  | tmp t =>
    have h1:=h t (by simp [fslots])
    simp only [ob,Prod.mk.injEq] at h1
    simp only [ares,St.av,St.sv,h1.1]
  | cell c n ag =>
    have h1:=h c (by simp [fslots])
    simp only [ob,Prod.mk.injEq] at h1
    obtain ⟨y,hy⟩:=isV_get (hv c (by simp [fslots]))
    simp only [ares,h1.1,hy]
    cases y <;> rfl
theorem fslots_cons (x : ARes) (r : List ARes) : fslots (x :: r) = fslots [x]++fslots r:=by cases x <;> rfl
theorem aresult_fix {a b : St} (S : List Bx) {rs : List ARes} (h : ∀ k ∈ fslots rs,ob b k = ob a k) (hv : ∀ k ∈ fslots rs,isV (a.σ.get k) = true) : aresult { a with S:=S } rs = aresult { b with S:=S } rs:=by
  have h3 : ∀ rs : List ARes,(∀ k ∈ fslots rs,ob b k = ob a k)→(∀ k ∈ fslots rs,isV (a.σ.get k) = true)→aresAll { a with S:=S } rs = aresAll { b with S:=S } rs:=by
    intro rs
    induction rs with
    | nil=>intro _ _; rfl
    | cons r rs ih =>
      intro h hv
      rw [fslots_cons] at h hv
      simp only [aresAll,ares_fix S (fun k hk=>h k (List.mem_append_left _ hk)) (fun k hk=>hv k (List.mem_append_left _ hk)),ih (fun k hk=>h k (List.mem_append_right _ hk)) (fun k hk=>hv k (List.mem_append_right _ hk))]
  match rs,h,hv with
  | [],h,hv=>simp only [aresult,h3 [] h hv]
  | [.tmp t], h, hv =>
    have h1:=h t (by simp [fslots])
    simp only [ob,Prod.mk.injEq] at h1
    simp only [aresult,St.av,St.sv,h1.1,h1.2]
  | [.cell c n ag],h,hv=>simp only [aresult,ares_fix S h hv]
  | x :: y :: r,h,hv=>simp only [aresult,h3 _ h hv]
theorem funD_sound (hP : P.follows .mixedOrders = true) {rec : Rec} (hrec : RecSound P W0 rec) {f : FuncId} {fn : DFun} (hm : mFunD P f fn = true) : SoundFun P W0 f (afunD rec fn):=by
  intro args S e S' h
  unfold mFunD at hm
  split at hm
  · rename_i F hF
    split at hm
    · rename_i c hc
      simp only [Bool.and_eq_true,beq_iff_eq,decide_eq_true_eq,Bool.not_eq_true'] at hm
      obtain ⟨⟨⟨⟨⟨⟨hm,hN⟩,hn⟩,hname⟩,hres⟩,hhs⟩,hfx⟩:=hm
      refine ⟨⟨F,hF,hname,by simp [hc]⟩,fun g W vs hB hT hS hcalm=>?_⟩
      unfold afunD funDE at h
      split at h
      · rename_i hlen
        have hl:=RT_length hT
        simp at hl
        refine calls_of_wp_defers hF hc ?_
        rw [hN]
        have hi:=enter_ok (N:=fn.N) hT hS (by omega)
        have ret : ∀ {g' : Gh} {W' : World} {a' : Act} {L' : Nat→Nat} {st2 : St} {r : AV} {own : Option Nat} ,Ext g W g' W'→Inv g' W' a' fn.N L' st2→aresult st2 fn.res = some (r,own)→aleave fn.keepB S st2.S (.ret r own) = some (e,S') →
            ∃ v,(results F a'.tmps).run P W' = .ok v W'∧Post g W e S' (.returned v) W':=by
          intro g' W' a' L' st2 r own hE hi' hr hl
          obtain ⟨v,q1,q2,q3⟩:=aresult_ok hi' hres hr
          exact ⟨v,q1,post_ret hE hi' hS hl q2 q3⟩
        have dend : ∀ {g' : Gh} {W' : World} {a' : Act} {L' : Nat→Nat} {st st2 : St} {ds : List DA} {xs : List Deferred} {m : Option AV} {u : FrameMode},Ext g W g' W'→Inv g' W' a' fn.N L' st2→(st2 = st∨(st2.S = st.S∧(∀ k ∈ fslots fn.res,ob st2 k = ob st k)∧(∀ k ∈ fslots fn.res,isV (st.σ.get k) = true)))→DfR g' W' ds xs→ModeR g' W' m u →
            dendE (evA rec) fn S st (leavesE (evA rec) fn.hs ds m st.S) = some (e,S')→Leaves P F a'.tmps (Post g W e S') xs u W':=by
          intro g' W' a' L' st st2 ds xs m u hE hi' hv hD hM h
          cases hlv : leavesE (evA rec) fn.hs ds m st.S with
          | none=>rw [hlv] at h; cases h
          | some p =>
            obtain ⟨m',S2⟩:=p
            rw [hlv] at h
            have hS' : st.S = st2.S:=by
              rcases hv with h | h
              · rw [h]
              · exact h.1.symm
            rw [hS'] at hlv
            refine leaves_ok hP hrec hhs (st:=st2) ds xs hD hi' (hB.ext' hE) hM hlv fun g2 W2 L2 u2 hE2 hi2 hM2=>?_
            cases m' with
            | none =>
              have : u2 = .returning:=hM2
              subst this
              simp only [dendE] at h
              split at h
              · rename_i r own hr
                have hr2 : aresult { st2 with S:=S2 } fn.res = some (r,own):=by
                  rcases hv with h | ⟨_,h1,h2⟩
                  · rw [h]; exact hr
                  · rw [← aresult_fix S2 h1 h2]; exact hr
                exact ret (hE.trans hE2) hi2 hr2 h
              · cases h
            | some w =>
              obtain ⟨uw,rfl,hw⟩:=hM2
              exact post_panic (hE.trans hE2) hi2 hS h hw
        have go : ∀ {x : AEx} {st : St} {ds : List DA},dcodeE (evA rec) fn.body (aenter args S) [] = some (x,st,ds) →
            (match x with | .normal | .ret=>dendE (evA rec) fn S st (leavesE (evA rec) fn.hs ds none st.S) | .panic v=>if (fslots fn.res).all (fun k=>isV (st.σ.get k)) = true then dendE (evA rec) fn S st (leavesE (evA rec) fn.hs ds (some v) st.S) else none | _=>none) = some (e,S') →
            c.wp P (bodyPostD P F (Post g W e S')) { tmps:=vs++Array.replicate (fn.N - vs.size) undef,defers:=[] } W:=by
          intro x st ds hcode h
          refine dcode_wp hP hrec fn.body hm hfx hi hB (ds:=[]) (by trivial) hcode fun g' W' a' L' st2 e2 hdf hE hi' hst he=>?_
          cases he with
          | normal =>
            have hv : st2 = st:=by
              rcases hst with h | ⟨h,_⟩
              · exact h
              · cases h
            exact dend hE hi' (.inl hv) hdf (m:=none) rfl h
          | ret =>
            have hv : st2 = st:=by
              rcases hst with h | ⟨h,_⟩
              · exact h
              · cases h
            exact dend hE hi' (.inl hv) hdf (m:=none) rfl h
          | exit id=>cases h
          | panic v u hu =>
            simp only at h
            split at h
            · rename_i hall
              simp only [List.all_eq_true] at hall
              exact dend hE hi' (hst.imp id fun h=>⟨h.2.1,h.2.2,hall⟩) hdf (m:=some v) ⟨u,rfl,hu⟩ h
            · cases h
        split at h
        · rename_i st ds hcode; exact go hcode h
        · rename_i st ds hcode; exact go hcode h
        · rename_i v st ds hcode; exact go hcode h
        · cases h
      · cases h
    · cases hm
  · cases hm
end
end Go.Av
set_option linter.unusedVariables false
set_option linter.unusedSimpArgs false
set_option linter.unusedSectionVars false
namespace Go.Av
open Go
def RecLe (r1 r2 : Rec) : Prop:=∀ f as S x,r1 f as S = some x→r2 f as S = some x
theorem RecLe.refl (r : Rec) : RecLe r r:=fun _ _ _ _ h=>h
theorem RecLe.quiet {r1 r2 : Rec} (h : RecLe r1 r2) : RecLe r1.quiet r2.quiet:=by
  intro f as S x hx
  unfold Rec.quiet at hx ⊢
  split at hx
  · rename_i r own S' hr
    rw [h _ _ _ _ hr]
    exact hx
  · cases hx
section
variable {r1 r2 : Rec} (h : RecLe r1 r2)
include h
theorem aop_le {st : St} {o : AOp} {x : AEx×St} (hx : aop r1 st o = some x) : aop r2 st o = some x:=by
  cases o with
  | call d f xs =>
    simp only [aop] at hx ⊢
    split at hx
    · split at hx
      · rename_i hr; rw [h _ _ _ _ hr]; exact hx
      · cases hx
    · cases hx
  | callv d c xs =>
    simp only [aop] at hx ⊢
    split at hx
    · split at hx
      · rename_i hr; rw [h _ _ _ _ hr]; exact hx
      · cases hx
    · cases hx
  | _=>exact hx
theorem apcall_le {st : St} {o : AOp} {x : AEx×St} (hx : apcall r1 st o = some x) : apcall r2 st o = some x:=by
  cases o with
  | call d f xs =>
    simp only [apcall] at hx ⊢
    split at hx
    · split at hx
      · rename_i hc
        rw [if_pos hc]
        split at hx
        · rename_i hr; rw [h _ _ _ _ hr]; exact hx
        · cases hx
      · cases hx
    · cases hx
  | _=>cases hx
theorem aopM_le {st : St} {blk : Option Nat} {o : AOp} {x : AEx×St} (hx : aopM r1 st blk o = some x) : aopM r2 st blk o = some x:=by
  unfold aopM at hx ⊢
  split at hx
  · rename_i hc
    rw [if_pos hc]
    split at hx
    · rename_i hb; rw [if_pos hb]; exact apcall_le h hx
    · rename_i hb
      rw [if_neg hb]
      split at hx
      · rename_i hb2
        rw [if_pos hb2]
        cases ha : aop r1 st o with
        | none=>rw [ha] at hx; cases hx
        | some p=>rw [ha] at hx; rw [aop_le h ha]; exact hx
      · rename_i hb2; rw [if_neg hb2]; exact aop_le h hx
  · rename_i hc; rw [if_neg hc]; exact aop_le h hx
theorem aoper_le {st : St} {o : AOper} {x : AEx×St} (hx : aoper r1 st o = some x) : aoper r2 st o = some x:=by
  have hb : ∀ {x : AEx×St},aopB r1 st o = some x→aopB r2 st o = some x:=by
    intro x hx
    unfold aopB at hx ⊢
    split at hx
    · rename_i hb; rw [if_pos hb]; exact aopM_le h hx
    · cases hx
  unfold aoper at hx ⊢
  split at hx
  · exact hb hx
  · split at hx
    · split at hx
      · rename_i hw; rw [if_pos hw]; exact hb hx
      · rename_i hw; rw [if_neg hw]; exact hx
    · exact hx
    · cases hx
theorem aops_le : ∀ {ops : List AOper} {st : St} {x : AEx×St},aops r1 ops st = some x→aops r2 ops st = some x
  | [],st,x,hx=>hx
  | o :: ops, st, x, hx => by
    simp only [aops] at hx ⊢
    cases h1 : aoper r1 st o with
    | none=>rw [h1] at hx; cases hx
    | some p =>
      rw [h1] at hx
      rw [aoper_le h h1]
      obtain ⟨y,s⟩:=p
      cases y with
      | normal=>exact aops_le hx
      | _=>exact hx
omit h in
theorem aloop_le {f1 f2 : St→Option (AEx×St)} (hf : ∀ st x,f1 st = some x→f2 st = some x) : ∀ {n : Nat} {st : St} {x : AEx×St},aloop f1 n st = some x→aloop f2 n st = some x
  | 0,st,x,hx=>by simp [aloop] at hx
  | n + 1, st, x, hx => by
    simp only [aloop] at hx ⊢
    cases h1 : f1 st with
    | none=>rw [h1] at hx; cases hx
    | some p =>
      rw [h1] at hx
      rw [hf _ _ h1]
      obtain ⟨y,s⟩:=p
      cases y with
      | normal=>exact aloop_le hf hx
      | _=>exact hx
end
mutual
def AV.beq : AV→AV→Bool
  | .bool a,.bool b=>a == b
  | .int k a,.int j b=>decide (k = j) && a == b
  | .str a,.str b=>decide (a = b)
  | .agg a,.agg b=>beqL a b
  | .tuple a,.tuple b=>beqL a b
  | .slice n a,.slice m b=>n == m && beqL a b
  | .sptr a,.sptr b=>beqL a b
  | .nilptr,.nilptr=>true
  | .ptr i o,.ptr j p=>i == j && o == p
  | .clos f a b,.clos g c d=>decide (f = g) && beqL a c && beqL b d
  | .nilfn,.nilfn=>true
  | .iface t a,.iface u b=>t == u && a.beq b
  | .niliface,.niliface=>true
  | .mapp i,.mapp j=>i == j
  | .nilmap,.nilmap=>true
  | _,_=>false
def beqL : List AV→List AV→Bool
  | [],[]=>true
  | a :: as,b :: bs=>a.beq b && beqL as bs
  | _,_=>false
end
mutual
theorem beq_eq : ∀ {a b : AV},a.beq b = true→a = b
  | .bool a,b,h=>by cases b <;> simp_all [AV.beq]
  | .int k a,b,h=>by cases b <;> simp_all [AV.beq]
  | .str a,b,h=>by cases b <;> simp_all [AV.beq]
  | .agg a,b,h=>by cases b <;> simp only [AV.beq] at h <;> first | (rw [beqL_eq h]) | (cases h)
  | .tuple a,b,h=>by cases b <;> simp only [AV.beq] at h <;> first | (rw [beqL_eq h]) | (cases h)
  | .slice n a, b, h => by
    cases b <;> simp only [AV.beq,Bool.and_eq_true,beq_iff_eq] at h <;> first | (rw [h.1,beqL_eq h.2]) | (cases h)
  | .sptr a,b,h=>by cases b <;> simp only [AV.beq] at h <;> first | (rw [beqL_eq h]) | (cases h)
  | .nilptr,b,h=>by cases b <;> simp_all [AV.beq]
  | .ptr i o,b,h=>by cases b <;> simp_all [AV.beq]
  | .clos f a c, b, h => by
    cases b <;> simp only [AV.beq,Bool.and_eq_true,decide_eq_true_eq] at h <;> first | (rw [h.1.1,beqL_eq h.1.2,beqL_eq h.2]) | (cases h)
  | .nilfn,b,h=>by cases b <;> simp_all [AV.beq]
  | .iface t a, b, h => by
    cases b <;> simp only [AV.beq,Bool.and_eq_true,beq_iff_eq] at h <;> first | (rw [h.1,beq_eq h.2]) | (cases h)
  | .niliface,b,h=>by cases b <;> simp_all [AV.beq]
  | .mapp i,b,h=>by cases b <;> simp_all [AV.beq]
  | .nilmap,b,h=>by cases b <;> simp_all [AV.beq]
theorem beqL_eq : ∀ {as bs : List AV},beqL as bs = true→as = bs
  | [],[],_=>rfl
  | a :: as, b :: bs, h => by
    simp only [beqL,Bool.and_eq_true] at h
    rw [beq_eq h.1,beqL_eq h.2]
  | [],_ :: _,h=>by simp [beqL] at h
  | _ :: _,[],h=>by simp [beqL] at h
end
def beqB (a b : Bx) : Bool:=(beqL a.cells b.cells && decide (a.own = b.own)) && a.map == b.map
theorem beqB_eq {a b : Bx} (h : beqB a b = true) : a = b:=by
  simp only [beqB,Bool.and_eq_true,decide_eq_true_eq,beq_iff_eq] at h
  cases a; cases b
  simp only at h
  rw [beqL_eq h.1.1,h.1.2,h.2]
def beqS : List Bx→List Bx→Bool
  | [],[]=>true
  | a :: as,b :: bs=>beqB a b && beqS as bs
  | _,_=>false
theorem beqS_eq : ∀ {as bs : List Bx},beqS as bs = true→as = bs
  | [],[],_=>rfl
  | a :: as, b :: bs, h => by
    simp only [beqS,Bool.and_eq_true] at h
    rw [beqB_eq h.1,beqS_eq h.2]
  | [],_ :: _,h=>by simp [beqS] at h
  | _ :: _,[],h=>by simp [beqS] at h
def cquiet (rec : Rec) : Rec:=fun f args S =>
  match rec f args S with
  | some (.ret r own,S')=>if beqS S' S then some (.ret r own,S') else none
  | _=>none
theorem cquiet_le (rec : Rec) : RecLe (cquiet rec) rec.quiet:=by
  intro f as S x hx
  unfold cquiet at hx
  unfold Rec.quiet
  split at hx
  · rename_i r own S' hr
    split at hx
    · rename_i hb
      rw [hr]
      simp only [if_pos (beqS_eq hb)]
      exact hx
    · cases hx
  · cases hx
def cacode (rec : Rec) (k : Nat) : ACode→St→Option (AEx×St)
  | .skip live locs,st=>normal (st.keep live locs)
  | .region ops bs quiet live locs, st => match aops (if quiet then cquiet rec else rec) (porder bs ops) (if bs.isSome then st.prep ops else st) with
    | some (.normal,st')=>normal (st'.keep live locs)
    | r=>r
  | .seq a b, st => match cacode rec k a st with
    | some (.normal,st')=>cacode rec k b st'
    | r=>r
  | .cond c a b, st => match st.av c with
    | some (.bool t)=>if t then cacode rec k a st else cacode rec k b st
    | _=>none
  | .block id c, st => match cacode rec k c st with
    | some (.exit id',st')=>if id' = id then normal st' else some (.exit id',st')
    | r=>r
  | .loop c,st=>aloop (cacode rec k c) k st
  | .exit id live locs,st=>some (.exit id,st.keep live locs)
  | .ret,st=>some (.ret,st)
  | .freeze d c, st => match st.freeze d with
    | some st'=>cacode rec k c st'
    | none=>none
  | .scope c,st=>cacode rec k c st
  | .label,st=>normal st
theorem cacode_ok {rec : Rec} {k : Nat} : ∀ {c : ACode} {st : St} {x : AEx×St},cacode rec k c st = some x→acode rec c st = some x:=by
  intro c
  induction c with
  | skip live locs=>intro st x hx; exact hx
  | region ops bs quiet live locs =>
    intro st x hx
    simp only [acode,cacode] at hx ⊢
    have hq : RecLe (if quiet then cquiet rec else rec) (if quiet then rec.quiet else rec):=by
      cases quiet
      · exact RecLe.refl _
      · exact cquiet_le rec
    cases h1 : aops (if quiet then cquiet rec else rec) (porder bs ops) (if bs.isSome then st.prep ops else st) with
    | none=>rw [h1] at hx; cases hx
    | some p=>rw [h1] at hx; rw [aops_le hq h1]; exact hx
  | seq a b iha ihb =>
    intro st x hx
    simp only [acode,cacode] at hx ⊢
    cases h1 : cacode rec k a st with
    | none=>rw [h1] at hx; cases hx
    | some p =>
      rw [h1] at hx
      rw [iha h1]
      obtain ⟨y,s⟩:=p
      cases y with
      | normal=>exact ihb hx
      | _=>exact hx
  | cond o a b iha ihb =>
    intro st x hx
    simp only [acode,cacode] at hx ⊢
    split at hx
    · rename_i t ht
      rw [ht]
      cases t with
      | true=>exact iha (by simpa using hx)
      | false=>exact ihb (by simpa using hx)
    · cases hx
  | block id a iha =>
    intro st x hx
    simp only [acode,cacode] at hx ⊢
    cases h1 : cacode rec k a st with
    | none=>rw [h1] at hx; cases hx
    | some p=>rw [h1] at hx; rw [iha h1]; exact hx
  | loop a iha =>
    intro st x hx
    simp only [acode,cacode] at hx ⊢
    exact aloopW_some.2 ⟨k,aloop_le (fun st x hx=>iha hx) hx⟩
  | exit id live locs=>intro st x hx; exact hx
  | ret=>intro st x hx; exact hx
  | freeze d a iha =>
    intro st x hx
    simp only [acode,cacode] at hx ⊢
    split at hx
    · rename_i hf; rw [hf]; exact iha hx
    · cases hx
  | scope a iha=>intro st x hx; exact iha hx
  | label=>intro st x hx; exact hx
def ctrunc (S S' : List Bx) (m : Nat) : Bool:=(List.range m).all fun i=>match S'[i]?,S[i]? with
  | some x,some y=>beqB x y || closedL m x.cells
  | some x,none=>closedL m x.cells
  | none,_=>true
theorem ctrunc_ok {S S' : List Bx} {m : Nat} (h : ctrunc S S' m = true) : TruncOk S S' m:=by
  intro i x hi hx
  simp only [ctrunc,List.all_eq_true,List.mem_range] at h
  have:=h i hi
  rw [hx] at this
  cases hS : S[i]? with
  | none=>rw [hS] at this; exact .inr this
  | some y =>
    rw [hS] at this
    simp only [Bool.or_eq_true] at this
    rcases this with h1 | h1
    · left; rw [beqB_eq h1]
    · exact .inr h1
def caleave (keepB : Nat) (S S' : List Bx) (e : AEnd) : Option (AEnd×List Bx) :=
  if S'.length≤S.length + keepB then some (e,S')
  else if ctrunc S S' (S.length + keepB) && e.closed (S.length + keepB) then some (e,S'.take (S.length + keepB)) else none
theorem caleave_ok {kb : Nat} {S S' : List Bx} {e : AEnd} {x : AEnd×List Bx} (h : caleave kb S S' e = some x) : aleave kb S S' e = some x:=by
  unfold caleave at h
  unfold aleave
  by_cases hl : S'.length≤S.length + kb
  · rw [if_pos hl] at h ⊢; exact h
  · rw [if_neg hl] at h ⊢
    split at h
    · rename_i hc
      simp only [Bool.and_eq_true] at hc
      rw [if_pos ⟨ctrunc_ok hc.1,hc.2⟩]; exact h
    · cases h
def cafun (rec : Rec) (k : Nat) (fn : AFun) (args : List AV) (S : List Bx) : Option (AEnd×List Bx) :=
  if args.length = fn.n then
    match cacode rec k fn.body (aenter args S) with
    | some (.normal, st) | some (.ret, st) => match aresult st fn.res with
      | some (r,own)=>caleave fn.keepB S st.S (.ret r own)
      | none=>none
    | some (.panic v,st)=>caleave fn.keepB S st.S (.panic v)
    | _=>none
  else none
theorem cafun_ok {rec : Rec} {k : Nat} {fn : AFun} {args : List AV} {S : List Bx} {x : AEnd×List Bx} (h : cafun rec k fn args S = some x) : afun rec fn args S = some x:=by
  unfold cafun at h
  unfold afun
  split at h
  · rename_i hl
    rw [if_pos hl]
    cases hc : cacode rec k fn.body (aenter args S) with
    | none=>rw [hc] at h; cases h
    | some p =>
      rw [hc] at h
      rw [cacode_ok hc]
      obtain ⟨y,s⟩:=p
      cases y with
      | normal =>
        simp only at h ⊢
        split at h
        · rename_i hr; rw [hr]; exact caleave_ok h
        · cases h
      | ret =>
        simp only at h ⊢
        split at h
        · rename_i hr; rw [hr]; exact caleave_ok h
        · cases h
      | panic v=>exact caleave_ok h
      | exit id=>cases h
  · cases h
structure Ev.Le (E1 E2 : Ev) : Prop where
  code : ∀ c st x,E1.code c st = some x→E2.code c st = some x
  ops : ∀ o st x,E1.ops o st = some x→E2.ops o st = some x
  leave : ∀ k S S' e x,E1.leave k S S' e = some x→E2.leave k S S' e = some x
theorem dcodeE_le {E1 E2 : Ev} (h : Ev.Le E1 E2) : ∀ {c : DCode} {st : St} {ds : List DA} {x : AEx×St×List DA},dcodeE E1 c st ds = some x→dcodeE E2 c st ds = some x:=by
  intro c
  induction c with
  | code c =>
    intro st ds x hx
    simp only [dcodeE] at hx ⊢
    split at hx
    · rename_i y st' h1; rw [h.code _ _ _ h1]; exact hx
    · cases hx
  | seq a b iha ihb =>
    intro st ds x hx
    simp only [dcodeE] at hx ⊢
    cases h1 : dcodeE E1 a st ds with
    | none=>rw [h1] at hx; cases hx
    | some p =>
      rw [h1] at hx
      rw [iha h1]
      obtain ⟨y,s,ds'⟩:=p
      cases y with
      | normal=>exact ihb hx
      | _=>exact hx
  | cond o a b iha ihb =>
    intro st ds x hx
    simp only [dcodeE] at hx ⊢
    split at hx
    · rename_i t ht
      cases t with
      | true=>exact iha (by simpa using hx)
      | false=>exact ihb (by simpa using hx)
    · cases hx
  | dfr ops c xs live locs =>
    intro st ds x hx
    simp only [dcodeE] at hx ⊢
    cases h1 : E1.ops ops st with
    | none=>rw [h1] at hx; cases hx
    | some p=>rw [h1] at hx; rw [h.ops _ _ _ h1]; exact hx
theorem fendE_le {E1 E2 : Ev} (h : Ev.Le E1 E2) {res : List ARes} {kb : Nat} {S : List Bx} {p : AEx×St} {x : AEnd×List Bx} (hx : fendE E1 res kb S p = some x) : fendE E2 res kb S p = some x:=by
  obtain ⟨y,st⟩:=p
  cases y with
  | normal =>
    simp only [fendE] at hx ⊢
    split at hx
    · exact h.leave _ _ _ _ _ hx
    · cases hx
  | ret =>
    simp only [fendE] at hx ⊢
    split at hx
    · exact h.leave _ _ _ _ _ hx
    · cases hx
  | panic v=>exact h.leave _ _ _ _ _ hx
  | exit id=>cases hx
theorem handE_le {E1 E2 : Ev} (h : Ev.Le E1 E2) {hf : HFun} {args : List AV} {m : Option AV} {S : List Bx} {x : AEnd×Bool×List Bx} (hx : handE E1 hf args m S = some x) : handE E2 hf args m S = some x:=by
  cases hf with
  | ord fn =>
    simp only [handE] at hx ⊢
    split at hx
    · rename_i hl
      rw [if_pos hl]
      split at hx
      · rename_i p hp
        rw [h.code _ _ _ hp]
        simp only
        split at hx
        · rename_i e S' he; rw [fendE_le h he]; exact hx
        · cases hx
      · cases hx
    · cases hx
  | rcv fn d =>
    simp only [handE] at hx ⊢
    split at hx
    · rename_i hl
      rw [if_pos hl]
      split at hx
      · rename_i p hp
        rw [h.code _ _ _ hp]
        simp only
        split at hx
        · rename_i e S' he; rw [fendE_le h he]; exact hx
        · cases hx
      · cases hx
    · cases hx
theorem leavesE_le {E1 E2 : Ev} (h : Ev.Le E1 E2) {hs : List (Nat×HFun)} : ∀ {ds : List DA} {m : Option AV} {S : List Bx} {x : Option AV×List Bx},leavesE E1 hs ds m S = some x→leavesE E2 hs ds m S = some x
  | [],m,S,x,hx=>hx
  | d :: ds, m, S, x, hx => by
    simp only [leavesE] at hx ⊢
    split at hx
    · rename_i hf hl
      split at hx
      · rename_i r own rr S' hh
        rw [handE_le h hh]
        exact leavesE_le h hx
      · cases hx
    · cases hx
theorem dendE_le {E1 E2 : Ev} (h : Ev.Le E1 E2) {fn : DFun} {S : List Bx} {st : St} {o : Option (Option AV×List Bx)} {x : AEnd×List Bx} (hx : dendE E1 fn S st o = some x) : dendE E2 fn S st o = some x:=by
  unfold dendE at hx ⊢
  split at hx
  · split at hx
    · exact h.leave _ _ _ _ _ hx
    · cases hx
  · exact h.leave _ _ _ _ _ hx
  · cases hx
theorem dend_leaves_le {E1 E2 : Ev} (h : Ev.Le E1 E2) {fn : DFun} {S : List Bx} {st : St} {ds : List DA} {m : Option AV} {S2 : List Bx} {x : AEnd×List Bx} (hx : dendE E1 fn S st (leavesE E1 fn.hs ds m S2) = some x) :
    dendE E2 fn S st (leavesE E2 fn.hs ds m S2) = some x:=by
  cases hl : leavesE E1 fn.hs ds m S2 with
  | none=>rw [hl] at hx; cases hx
  | some p=>rw [hl] at hx; rw [leavesE_le h hl]; exact dendE_le h hx
theorem funDE_le {E1 E2 : Ev} (h : Ev.Le E1 E2) {fn : DFun} {args : List AV} {S : List Bx} {x : AEnd×List Bx} (hx : funDE E1 fn args S = some x) : funDE E2 fn args S = some x:=by
  unfold funDE at hx ⊢
  split at hx
  · rename_i hl
    rw [if_pos hl]
    cases hc : dcodeE E1 fn.body (aenter args S) [] with
    | none=>rw [hc] at hx; cases hx
    | some p =>
      rw [hc] at hx
      rw [dcodeE_le h hc]
      obtain ⟨y,st,ds⟩:=p
      cases y with
      | normal=>exact dend_leaves_le h hx
      | ret=>exact dend_leaves_le h hx
      | panic v =>
        simp only at hx ⊢
        split at hx
        · rename_i hv; rw [if_pos hv]; exact dend_leaves_le h hx
        · cases hx
      | exit id=>cases hx
  · cases hx
def evC (rec : Rec) (k : Nat) : Ev:=⟨cacode rec k,aops rec,caleave⟩
theorem evC_le (rec : Rec) (k : Nat) : Ev.Le (evC rec k) (evA rec):=⟨fun _ _ _ h=>cacode_ok h,fun _ _ _ h=>h,fun _ _ _ _ _ h=>caleave_ok h⟩
def cafunD (rec : Rec) (k : Nat) (fn : DFun) (args : List AV) (S : List Bx) : Option (AEnd×List Bx):=funDE (evC rec k) fn args S
theorem cafunD_ok {rec : Rec} {k : Nat} {fn : DFun} {args : List AV} {S : List Bx} {x : AEnd×List Bx} (h : cafunD rec k fn args S = some x) : afunD rec fn args S = some x:=funDE_le (evC_le rec k) h
inductive Def where
  | air (fn : AFun)
  | ext (h : List AV→List Bx→Option (AEnd×List Bx))
  | dfr (fn : DFun)
def crun (T : Nat→Option Def) : Nat→Rec
  | 0=>fun _ _ _=>none
  | n + 1 => fun f args S => match T f with
    | some (.air fn)=>cafun (crun T n) n fn args S
    | some (.ext h)=>h args S
    | some (.dfr fn)=>cafunD (crun T n) n fn args S
    | none=>none
theorem crun_sound {P : Program} {W0 : World} (hP : P.follows .mixedOrders = true) {T : Nat→Option Def} (ha : ∀ f fn,T f = some (.air fn)→mFun P f fn = true) (he : ∀ f h,T f = some (.ext h)→SoundFun P W0 f h)
    (hd : ∀ f fn,T f = some (.dfr fn)→mFunD P f fn = true) : ∀ n,RecSound P W0 (crun T n)
  | 0=>fun f args S e S' h=>by simp [crun] at h
  | n + 1 => by
    intro f args S e S' h
    simp only [crun] at h
    split at h
    · rename_i fn hT
      exact fun_sound hP (crun_sound hP ha he hd n) (ha f fn hT) args S e S' (cafun_ok h)
    · rename_i h' hT
      exact he f h' hT args S e S' h
    · rename_i fn hT
      exact funD_sound hP (crun_sound hP ha he hd n) (hd f fn hT) args S e S' (cafunD_ok h)
    · cases h
end Go.Av
