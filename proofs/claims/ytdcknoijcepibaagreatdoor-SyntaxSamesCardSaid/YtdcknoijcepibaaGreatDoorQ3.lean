/- Part of a proof of syntax_sames. -/
import Derived.Test.YtdcknoijcepibaaGreatDoorQ2
import Derived.OpenShut
import Derived.ChangeArms
import Derived.WideShapes
import Derived.ChangeStays
import Derived.ChangeSame
import Derived.RowKit
import Derived.ChangeCalls
import Derived.Below
import Derived.Lib.Join
import Derived.Lib.ItoaNum
import Derived.Lib.AppendIntMem
import Derived.Lib.Replace
import Derived.Lib.AtoiAll
import Derived.Lib.SpaceU
import Derived.Lib.Fields
import Derived.Lib.MapLaws
import Derived.Lib.TrimAscii
import Derived.Lib.SplitLaws
import Derived.Lib.SliceRun
import Derived.Lib.LaidTab
set_option linter.unusedVariables false
set_option linter.unusedSimpArgs false
set_option linter.unusedSectionVars false
namespace Go.Av
open Go
mutual
theorem beq_refl : ∀ (a : AV),a.beq a = true
  | .bool a=>by simp [AV.beq]
  | .int k a=>by simp [AV.beq]
  | .str a=>by simp [AV.beq]
  | .agg a=>by simp [AV.beq,beqL_refl a]
  | .tuple a=>by simp [AV.beq,beqL_refl a]
  | .slice n a=>by simp [AV.beq,beqL_refl a]
  | .sptr a=>by simp [AV.beq,beqL_refl a]
  | .nilptr=>by simp [AV.beq]
  | .ptr i o=>by simp [AV.beq]
  | .clos f a b=>by simp [AV.beq,beqL_refl a,beqL_refl b]
  | .nilfn=>by simp [AV.beq]
  | .iface t a=>by simp [AV.beq,beq_refl a]
  | .niliface=>by simp [AV.beq]
  | .mapp i=>by simp [AV.beq]
  | .nilmap=>by simp [AV.beq]
theorem beqL_refl : ∀ (a : List AV),beqL a a = true
  | []=>by simp [beqL]
  | a :: as=>by simp [beqL,beq_refl a,beqL_refl as]
end
theorem beqB_refl (a : Bx) : beqB a a = true:=by simp [beqB,beqL_refl]
theorem beqS_refl : ∀ (a : List Bx),beqS a a = true
  | []=>rfl
  | a :: as=>by simp [beqS,beqB_refl,beqS_refl as]
theorem cquiet_mono {r1 r2 : Rec} (h : RecLe r1 r2) : RecLe (cquiet r1) (cquiet r2):=by
  intro f as S x hx
  unfold cquiet at hx ⊢
  split at hx
  · rename_i r own S' hr
    rw [h _ _ _ _ hr]
    exact hx
  · cases hx
theorem cacode_le {r1 r2 : Rec} (h : RecLe r1 r2) {k1 k2 : Nat} (hk : k1≤k2) : ∀ {c : ACode} {st : St} {x : AEx×St},cacode r1 k1 c st = some x→cacode r2 k2 c st = some x:=by
  intro c
  induction c with
  | skip live locs=>intro st x hx; exact hx
  | region ops bs quiet live locs =>
    intro st x hx
    simp only [cacode] at hx ⊢
    have hq : RecLe (if quiet then cquiet r1 else r1) (if quiet then cquiet r2 else r2):=by
      cases quiet
      · exact h
      · exact cquiet_mono h
    cases h1 : aops (if quiet then cquiet r1 else r1) (porder bs ops) (if bs.isSome then st.prep ops else st) with
    | none=>rw [h1] at hx; cases hx
    | some p=>rw [h1] at hx; rw [aops_le hq h1]; exact hx
  | seq a b iha ihb =>
    intro st x hx
    simp only [cacode] at hx ⊢
    cases h1 : cacode r1 k1 a st with
    | none=>rw [h1] at hx; cases hx
    | some p =>
      rw [h1] at hx
      rw [iha h1]
      obtain ⟨y,s⟩:=p
      cases y with
      | normal=>exact ihb hx
      | _=>exact hx
  | cond o a b iha ihb =>
    intro st x hx
    simp only [cacode] at hx ⊢
    split at hx
    · rename_i t ht
      cases t with
      | true=>exact iha (by simpa using hx)
      | false=>exact ihb (by simpa using hx)
    · cases hx
  | block id a iha =>
    intro st x hx
    simp only [cacode] at hx ⊢
    cases h1 : cacode r1 k1 a st with
    | none=>rw [h1] at hx; cases hx
    | some p=>rw [h1] at hx; rw [iha h1]; exact hx
  | loop a iha =>
    intro st x hx
    simp only [cacode] at hx ⊢
    exact aloop_mono (aloop_le (fun st x hx=>iha hx) hx) k2 hk
  | exit id live locs=>intro st x hx; exact hx
  | ret=>intro st x hx; exact hx
  | freeze d a iha =>
    intro st x hx
    simp only [cacode] at hx ⊢
    split at hx
    · exact iha hx
    · cases hx
  | scope a iha=>intro st x hx; exact iha hx
  | label=>intro st x hx; exact hx
theorem cafun_le {r1 r2 : Rec} (h : RecLe r1 r2) {k1 k2 : Nat} (hk : k1≤k2) {fn : AFun} {args : List AV} {S : List Bx} {x : AEnd×List Bx} (hx : cafun r1 k1 fn args S = some x) : cafun r2 k2 fn args S = some x:=by
  unfold cafun at hx ⊢
  split at hx
  · rename_i hl
    rw [if_pos hl]
    cases h1 : cacode r1 k1 fn.body (aenter args S) with
    | none=>rw [h1] at hx; cases hx
    | some p=>rw [h1] at hx; rw [cacode_le h hk h1]; exact hx
  · cases hx
theorem evC_mono {r1 r2 : Rec} (h : RecLe r1 r2) {k1 k2 : Nat} (hk : k1≤k2) : Ev.Le (evC r1 k1) (evC r2 k2):=⟨fun _ _ _ q=>cacode_le h hk q,fun _ _ _ q=>aops_le h q,fun _ _ _ _ _ q=>q⟩
variable {T : Nat→Option Def}
theorem crun_succ (n : Nat) : RecLe (crun T n) (crun T (n + 1)):=by
  induction n with
  | zero=>intro f as S x hx; simp [crun] at hx
  | succ n ih =>
    intro f as S x hx
    simp only [crun] at hx ⊢
    split at hx
    · rename_i fn hT
      exact cafun_le ih (Nat.le_succ n) hx
    · exact hx
    · exact funDE_le (evC_mono ih (Nat.le_succ n)) hx
    · cases hx
theorem crun_le {n m : Nat} (h : n≤m) : RecLe (crun T n) (crun T m):=by
  induction h with
  | refl=>exact RecLe.refl _
  | step _ ih=>exact fun f as S x hx=>crun_succ _ f as S x (ih f as S x hx)
open Classical in
noncomputable def recL (T : Nat→Option Def) : Rec:=fun f args S=>if h : ∃ n r,crun T n f args S = some r then some h.choose_spec.choose else none
theorem recL_some {f : Nat} {args : List AV} {S : List Bx} {r : AEnd×List Bx} : recL T f args S = some r↔∃ n,crun T n f args S = some r:=by
  unfold recL
  constructor
  · intro h
    split at h
    · rename_i hx
      have:=hx.choose_spec.choose_spec
      obtain rfl:=Option.some.inj h
      exact ⟨_,this⟩
    · cases h
  · rintro ⟨n, hn⟩
    have hx : ∃ n r,crun T n f args S = some r:=⟨n,r,hn⟩
    rw [dif_pos hx]
    have h1:=crun_le (Nat.le_max_left hx.choose n) _ _ _ _ hx.choose_spec.choose_spec
    have h2:=crun_le (Nat.le_max_right hx.choose n) _ _ _ _ hn
    rw [h2] at h1
    exact h1.symm ▸ rfl
theorem recL_sound {P : Program} {W0 : World} (h : ∀ n,RecSound P W0 (crun T n)) : RecSound P W0 (recL T):=by
  intro f args S e S' hr
  obtain ⟨n,hn⟩:=recL_some.1 hr
  exact h n f args S e S' hn
def Tends (R : Rec) (Rc : Nat→Rec) : Prop:=(∀ n,RecLe (Rc n) (Rc (n + 1)))∧∀ f as S x,R f as S = some x→∃ n,Rc n f as S = some x
theorem Tends.le {R : Rec} {Rc : Nat→Rec} (h : Tends R Rc) {n m : Nat} (hn : n≤m) : RecLe (Rc n) (Rc m):=by
  induction hn with
  | refl=>exact RecLe.refl _
  | step _ ih=>exact fun f as S x hx=>h.1 _ f as S x (ih f as S x hx)
theorem tends_run : Tends (recL T) (crun T):=⟨crun_succ,fun f as S x h=>recL_some.1 h⟩
theorem tends_quiet : Tends (recL T).quiet (fun n=>cquiet (crun T n)):=by
  refine ⟨fun n=>cquiet_mono (crun_succ n),fun f as S x hx=>?_⟩
  unfold Rec.quiet at hx
  split at hx
  · rename_i r own S' hr
    split at hx
    · rename_i hS
      obtain ⟨n,hn⟩:=recL_some.1 hr
      refine ⟨n,?_⟩
      show cquiet (crun T n) f as S = some x
      unfold cquiet
      rw [hn]
      subst hS
      simp only [beqS_refl,if_true]
      exact hx
    · cases hx
  · cases hx
section
variable {R : Rec} {Rc : Nat→Rec} (h : Tends R Rc)
include h
theorem aop_fin {st : St} {o : AOp} {x : AEx×St} (hx : aop R st o = some x) : ∃ n,aop (Rc n) st o = some x:=by
  cases o with
  | call d f xs =>
    simp only [aop] at hx ⊢
    split at hx
    · split at hx
      · rename_i hr
        obtain ⟨n,hn⟩:=h.2 _ _ _ _ hr
        exact ⟨n,by rw [hn]; exact hx⟩
      · cases hx
    · cases hx
  | callv d c xs =>
    simp only [aop] at hx ⊢
    split at hx
    · split at hx
      · rename_i hr
        obtain ⟨n,hn⟩:=h.2 _ _ _ _ hr
        exact ⟨n,by rw [hn]; exact hx⟩
      · cases hx
    · cases hx
  | _=>exact ⟨0,hx⟩
theorem apcall_fin {st : St} {o : AOp} {x : AEx×St} (hx : apcall R st o = some x) : ∃ n,apcall (Rc n) st o = some x:=by
  cases o with
  | call d f xs =>
    simp only [apcall] at hx ⊢
    split at hx
    · split at hx
      · rename_i hc
        split at hx
        · rename_i hr
          obtain ⟨n,hn⟩:=h.2 _ _ _ _ hr
          exact ⟨n,by rw [if_pos hc,hn]; exact hx⟩
        · cases hx
      · cases hx
    · cases hx
  | _=>cases hx
theorem aopM_fin {st : St} {blk : Option Nat} {o : AOp} {x : AEx×St} (hx : aopM R st blk o = some x) : ∃ n,aopM (Rc n) st blk o = some x:=by
  unfold aopM at hx ⊢
  split at hx
  · rename_i hc
    simp only [if_pos hc]
    split at hx
    · rename_i hb; simp only [if_pos hb]; exact apcall_fin h hx
    · rename_i hb
      simp only [if_neg hb]
      split at hx
      · rename_i hb2
        simp only [if_pos hb2]
        cases ha : aop R st o with
        | none=>rw [ha] at hx; cases hx
        | some p =>
          rw [ha] at hx
          obtain ⟨n,hn⟩:=aop_fin h ha
          exact ⟨n,by rw [hn]; exact hx⟩
      · rename_i hb2; simp only [if_neg hb2]; exact aop_fin h hx
  · rename_i hc; simp only [if_neg hc]; exact aop_fin h hx
theorem aoper_fin {st : St} {o : AOper} {x : AEx×St} (hx : aoper R st o = some x) : ∃ n,aoper (Rc n) st o = some x:=by
  have hb : ∀ {x : AEx×St},aopB R st o = some x→∃ n,aopB (Rc n) st o = some x:=by
    intro x hx
    unfold aopB at hx ⊢
    split at hx
    · rename_i hb; simp only [if_pos hb]; exact aopM_fin h hx
    · cases hx
  unfold aoper at hx ⊢
  split at hx
  · exact hb hx
  · split at hx
    · split at hx
      · rename_i hw; simp only [if_pos hw]; exact hb hx
      · rename_i hw; simp only [if_neg hw]; exact ⟨0,hx⟩
    · exact ⟨0,hx⟩
    · cases hx
theorem aops_fin : ∀ {ops : List AOper} {st : St} {x : AEx×St},aops R ops st = some x→∃ n,aops (Rc n) ops st = some x
  | [],st,x,hx=>⟨0,hx⟩
  | o :: ops, st, x, hx => by
    simp only [aops] at hx
    cases h1 : aoper R st o with
    | none=>rw [h1] at hx; cases hx
    | some p =>
      rw [h1] at hx
      obtain ⟨n,hn⟩:=aoper_fin h h1
      obtain ⟨y,s⟩:=p
      cases y with
      | normal =>
        obtain ⟨m,hm⟩:=aops_fin hx
        refine ⟨max n m,?_⟩
        simp only [aops]
        rw [aoper_le (h.le (Nat.le_max_left n m)) hn]
        exact aops_le (h.le (Nat.le_max_right n m)) hm
      | _=>exact ⟨n,by simp only [aops]; rw [hn]; exact hx⟩
end
theorem acode_fin : ∀ {c : ACode} {st : St} {x : AEx×St},acode (recL T) c st = some x→∃ n,cacode (crun T n) n c st = some x:=by
  intro c
  induction c with
  | skip live locs=>intro st x hx; exact ⟨0,hx⟩
  | region ops bs quiet live locs =>
    intro st x hx
    simp only [acode] at hx
    cases h1 : aops (if quiet then (recL T).quiet else recL T) (porder bs ops) (if bs.isSome then st.prep ops else st) with
    | none=>rw [h1] at hx; cases hx
    | some p =>
      rw [h1] at hx
      have : ∃ n,aops (if quiet then cquiet (crun T n) else crun T n) (porder bs ops) (if bs.isSome then st.prep ops else st) = some p:=by
        cases quiet
        · exact aops_fin tends_run h1
        · exact aops_fin tends_quiet h1
      obtain ⟨n,hn⟩:=this
      exact ⟨n,by simp only [cacode]; rw [hn]; exact hx⟩
  | seq a b iha ihb =>
    intro st x hx
    simp only [acode] at hx
    cases h1 : acode (recL T) a st with
    | none=>rw [h1] at hx; cases hx
    | some p =>
      rw [h1] at hx
      obtain ⟨n,hn⟩:=iha h1
      obtain ⟨y,s⟩:=p
      cases y with
      | normal =>
        obtain ⟨m,hm⟩:=ihb hx
        refine ⟨max n m,?_⟩
        simp only [cacode]
        rw [cacode_le (crun_le (Nat.le_max_left n m)) (Nat.le_max_left n m) hn]
        exact cacode_le (crun_le (Nat.le_max_right n m)) (Nat.le_max_right n m) hm
      | _=>exact ⟨n,by simp only [cacode]; rw [hn]; exact hx⟩
  | cond o a b iha ihb =>
    intro st x hx
    simp only [acode] at hx
    split at hx
    · rename_i t ht
      cases t with
      | true =>
        obtain ⟨n,hn⟩:=iha (by simpa using hx)
        exact ⟨n,by simp only [cacode,ht]; simpa using hn⟩
      | false =>
        obtain ⟨n,hn⟩:=ihb (by simpa using hx)
        exact ⟨n,by simp only [cacode,ht]; simpa using hn⟩
    · cases hx
  | block id a iha =>
    intro st x hx
    simp only [acode] at hx
    cases h1 : acode (recL T) a st with
    | none=>rw [h1] at hx; cases hx
    | some p =>
      rw [h1] at hx
      obtain ⟨n,hn⟩:=iha h1
      exact ⟨n,by simp only [cacode]; rw [hn]; exact hx⟩
  | loop a iha =>
    intro st x hx
    simp only [acode] at hx
    obtain ⟨m,hm⟩:=aloopW_some.1 hx
    have key : ∀ (m : Nat) {st : St} {x : AEx×St},aloop (acode (recL T) a) m st = some x→∃ n,aloop (cacode (crun T n) n a) m st = some x:=by
      intro m
      induction m with
      | zero=>intro st x hx; simp [aloop] at hx
      | succ m ih =>
        intro st x hx
        simp only [aloop] at hx
        cases h1 : acode (recL T) a st with
        | none=>rw [h1] at hx; cases hx
        | some p =>
          rw [h1] at hx
          obtain ⟨n,hn⟩:=iha h1
          obtain ⟨y,s⟩:=p
          cases y with
          | normal =>
            obtain ⟨n2,hn2⟩:=ih hx
            refine ⟨max n n2,?_⟩
            simp only [aloop]
            rw [cacode_le (crun_le (Nat.le_max_left n n2)) (Nat.le_max_left n n2) hn]
            exact aloop_le (fun st x hx=>cacode_le (crun_le (Nat.le_max_right n n2)) (Nat.le_max_right n n2) hx) hn2
          | _=>exact ⟨n,by simp only [aloop]; rw [hn]; exact hx⟩
    obtain ⟨n,hn⟩:=key m hm
    refine ⟨max n m,?_⟩
    simp only [cacode]
    exact aloop_mono (aloop_le (fun st x hx=>cacode_le (crun_le (Nat.le_max_left n m)) (Nat.le_max_left n m) hx) hn) _ (Nat.le_max_right n m)
  | exit id live locs=>intro st x hx; exact ⟨0,hx⟩
  | ret=>intro st x hx; exact ⟨0,hx⟩
  | freeze d a iha =>
    intro st x hx
    simp only [acode] at hx
    split at hx
    · rename_i s hs
      obtain ⟨n,hn⟩:=iha hx
      exact ⟨n,by simp only [cacode,hs]; exact hn⟩
    · cases hx
  | scope a iha=>intro st x hx; exact iha hx
  | label=>intro st x hx; exact ⟨0,hx⟩
theorem caleave_of {kb : Nat} {S S' : List Bx} {e : AEnd} {x : AEnd×List Bx} (h : aleave kb S S' e = some x) : caleave kb S S' e = some x:=by
  unfold aleave at h
  unfold caleave
  by_cases hl : S'.length≤S.length + kb
  · rw [if_pos hl] at h ⊢; exact h
  · rw [if_neg hl] at h ⊢
    by_cases hc : TruncOk S S' (S.length + kb)∧e.closed (S.length + kb) = true
    · rw [if_pos hc] at h
      have : ctrunc S S' (S.length + kb) = true:=by
        simp only [ctrunc,List.all_eq_true,List.mem_range]
        intro i hi
        cases hx : S'[i]? with
        | none=>rfl
        | some x =>
          have:=hc.1 i x hi hx
          cases hy : S[i]? with
          | none =>
            rcases this with h1 | h1
            · rw [hy] at h1; cases h1
            · exact h1
          | some y =>
            simp only [Bool.or_eq_true]
            rcases this with h1 | h1
            · rw [hy] at h1; obtain rfl:=Option.some.inj h1; exact .inl (beqB_refl _)
            · exact .inr h1
      rw [this,hc.2]
      exact h
    · rw [if_neg hc] at h; cases h
theorem recL_air {f : Nat} {fn : AFun} (hT : T f = some (.air fn)) {args : List AV} {S : List Bx} {r : AEnd×List Bx} (h : afun (recL T) fn args S = some r) : recL T f args S = some r:=by
  unfold afun at h
  split at h
  · rename_i hl
    cases hc : acode (recL T) fn.body (aenter args S) with
    | none=>rw [hc] at h; cases h
    | some p =>
      rw [hc] at h
      obtain ⟨n,hn⟩:=acode_fin hc
      refine recL_some.2 ⟨n + 1,?_⟩
      simp only [crun,hT,cafun,if_pos hl,hn]
      obtain ⟨y,s⟩:=p
      cases y with
      | normal =>
        simp only at h ⊢
        split at h
        · rename_i hr; rw [hr]; exact caleave_of h
        · cases h
      | ret =>
        simp only at h ⊢
        split at h
        · rename_i hr; rw [hr]; exact caleave_of h
        · cases h
      | panic v=>exact caleave_of h
      | exit id=>cases h
  · cases h
theorem recL_ext {f : Nat} {hh : List AV→List Bx→Option (AEnd×List Bx)} (hT : T f = some (.ext hh)) {args : List AV} {S : List Bx} {r : AEnd×List Bx} (h : hh args S = some r) : recL T f args S = some r :=
  recL_some.2 ⟨1,by simp only [crun,hT]; exact h⟩
theorem recL_run {f n : Nat} {args : List AV} {S : List Bx} {r : AEnd×List Bx} (h : crun T n f args S = some r) : recL T f args S = some r:=recL_some.2 ⟨n,h⟩
end Go.Av
set_option linter.unusedVariables false
set_option linter.unusedSimpArgs false
set_option linter.unusedSectionVars false
namespace Go.Av
open Go
def pickAV (P : Program) (t : TypeId) (cells : List AV) (off : Nat) : AV :=
  if tyAg P t = some true then .agg ((cells.drop off).take (P.cellsOf t)) else cells.getD off .niliface
inductive HasTy (P : Program) : TypeId→AV→Prop where
  | bool {t : TypeId} (b : Bool) (h : P.underlying t = some .bool) : HasTy P t (.bool b)
  | int {t : TypeId} (k : IntKind) (n : Int) (h : P.underlying t = some (.int k)) (hw : (Lit.int k n).wf = true) : HasTy P t (.int k n)
  | str {t : TypeId} (s : ByteArray) (h : P.underlying t = some .string) (hs : s.size≤maxLen) : HasTy P t (.str s)
  | slice {t e : TypeId} (es : List AV) (h : P.underlying t = some (.slice e)) (hl : es.length≤maxLen) (he : ∀ a ∈ es,HasTy P e a) : HasTy P t (.slice (P.cellsOf e) es)
  | struct {t : TypeId} {fs : Array Field} (cs : List AV) (h : P.underlying t = some (.struct fs)) (hl : cs.length = P.cellsOf t) (hf : ∀ f ∈ fs.toList,HasTy P f.type (pickAV P f.type cs f.offset)) : HasTy P t (.agg cs)
  | array {t e : TypeId} {n : Nat} (cs : List AV) (h : P.underlying t = some (.array n e)) (hl : cs.length = P.cellsOf t) (hf : ∀ i,i < n→HasTy P e (pickAV P e cs (i * P.cellsOf e))) : HasTy P t (.agg cs)
def tiles (P : Program) : List (TypeId×Nat)→Nat→Nat→Bool
  | [],o,n=>o == n
  | (t,off) :: r,o,n=>off == o && tiles P r (o + P.cellsOf t) n
def plainTy (P : Program) (T : List TypeId) (t : TypeId) : Bool :=
  match P.underlying t with
  | some .bool=>P.cellsOf t == 1
  | some (.int _)=>P.cellsOf t == 1
  | some .string=>P.cellsOf t == 1
  | some (.slice e)=>P.cellsOf t == 1 && T.contains e && decide (0 < P.cellsOf e)
  | some (.struct fs)=>fs.toList.all (fun f=>T.contains f.type) && tiles P (fs.toList.map fun f=>(f.type,f.offset)) 0 (P.cellsOf t)
  | some (.array n e)=>T.contains e && tiles P ((List.range n).map fun i=>(e,i * P.cellsOf e)) 0 (P.cellsOf t)
  | _=>false
def gOf (W : World) : Gh:={ T:=fun b=>match W.heap[b]? with | some (.cells cs _ _)=>cs.size | _=>0,B:=[],O:=fun b=>if b < W.heap.size then .ext else .free }
theorem gOf_base (W : World) : Base W (gOf W) W:=⟨Nat.le_refl _,rfl,rfl,rfl,fun b hb=>⟨by simp [gOf,hb],rfl⟩⟩
theorem gOf_S (W : World) : SInv (gOf W) W []:=⟨rfl,fun i x hx=>by simp at hx,fun b hb=>by
  have h1 : W.heap[b]? = none:=Array.getElem?_eq_none hb
  have h2 : ¬ b < W.heap.size:=by omega
  simp [gOf,h1,h2]⟩
theorem gOf_calm (W : World) : ∀ b,((gOf W).O b).calm:=by
  intro b
  simp only [gOf]
  split <;> trivial
section
variable {H : Type} {enc : TypeId×Value→H} {P : Program} {W : World} {base : Nat} {spare : Nat→Bool} {held : Bool} {T : List TypeId}
def descAgg : TypeDesc→Bool
  | .struct _=>true
  | .array _ _=>true
  | _=>false
theorem tyAg_of {t : TypeId} {d : TypeDesc} (h : P.underlying t = some d) : tyAg P t = some (descAgg d):=by
  unfold tyAg
  rw [h]
  cases d <;> rfl
theorem pick_cell {t : TypeId} {d : TypeDesc} (h : P.underlying t = some d) (hd : descAgg d = false) (cells : List AV) (off : Nat) : pickAV P t cells off = cells.getD off .niliface:=by
  simp [pickAV,tyAg_of h,hd]
theorem pick_agg {t : TypeId} {d : TypeDesc} (h : P.underlying t = some d) (hd : descAgg d = true) (cells : List AV) (off : Nat) : pickAV P t cells off = .agg ((cells.drop off).take (P.cellsOf t)):=by
  simp [pickAV,tyAg_of h,hd]
theorem cell_T {b o : Nat} {v : Value} (h : W.cell? ⟨b,o,none⟩ = some v) : o < (gOf W).T b:=by
  unfold World.cell? at h
  simp only at h
  simp only [gOf]
  split at h
  · rename_i c e f hb
    rw [hb]
    simp only [Option.isSome_none,Bool.false_eq_true,if_false] at h
    exact (Array.getElem?_eq_some_iff.1 h).1
  · cases h
theorem cells_mem {a : Addr} {n : Nat} {cs : List Value} (h : W.cells? base a n = some cs) (hn : 0 < n) : a.spot = none∧cs.length = n∧mem W a.block a.off cs:=by
  unfold World.cells? at h
  split at h
  · have hlen := mapM_some_length h
    simp at hlen
    have hg : ∀ i,i < n→W.cell? (a.add i) = cs[i]?:=fun i hi=>mapM_some_get h i i (by simp [hi])
    have h0:=hg 0 hn
    have hs : a.spot = none:=by
      have hc : cs[0]? = some cs[0]:=by simp
      rw [hc] at h0
      have ha : a.add 0 = a:=by simp [Addr.add]
      rw [ha] at h0
      unfold World.cell? at h0
      split at h0
      · cases hs : a.spot with
        | none=>rfl
        | some x=>rw [hs] at h0; simp at h0
      · cases h0
    refine ⟨hs,hlen,fun j v hj=>?_⟩
    have hjn : j < n:=by
      have:=(List.getElem?_eq_some_iff.1 hj).1
      omega
    have:=hg j hjn
    rw [hj] at this
    have e : a.add j = ⟨a.block,a.off + j,none⟩:=by
      unfold Addr.add
      split
      · rename_i h0; subst h0
        cases a; simp at hs; simp [hs]
      · rfl
    rwa [e] at this
  · cases h
theorem mem_T {b o : Nat} {ms : List Value} (h : mem W b o ms) (hn : 0 < ms.length) : o + ms.length≤(gOf W).T b:=by
  have hj : ms[ms.length - 1]? = some (ms[ms.length - 1]'(by omega)):=by rw [List.getElem?_eq_getElem]
  have:=cell_T (h _ _ hj)
  omega
structure Reads (P : Program) (W : World) (t : TypeId) (cs : List Value) : Prop where
  len : cs.length = P.cellsOf t
  one : tyAg P t = some false→P.cellsOf t = 1
  ag : (tyAg P t).isSome = true
  ex : ∃ cells,RL (gOf W) W cells cs∧HasTy P t (pickAV P t cells 0)∧cells.length = P.cellsOf t
theorem Reads.val {t : TypeId} {cs : List Value} (hr : Reads P W t cs) : ∃ a,HasTy P t a∧a.isDat = true∧R (gOf W) W a cs∧a.isAgg = (tyAg P t == some true):=by
  obtain ⟨hl,h1,hag,cells,hR,hT,hn⟩:=hr
  cases hq : tyAg P t with
  | none=>rw [hq] at hag; cases hag
  | some b =>
    cases b with
    | true =>
      have e : pickAV P t cells 0 = .agg cells:=by simp only [pickAV,if_pos hq,List.drop_zero]; rw [List.take_of_length_le (by omega)]
      rw [e] at hT
      exact ⟨_,hT,rfl,by simpa [R] using hR,rfl⟩
    | false =>
      have h1':=h1 hq
      rw [h1'] at hn
      match cells,hn,hR,hT with
      | [c], _, hR, hT =>
        simp only [RL] at hR
        obtain ⟨v,r,rfl,⟨hc,hv⟩,rfl⟩:=hR
        have e : pickAV P t [c] 0 = c:=by simp [pickAV,hq]
        rw [e] at hT
        exact ⟨c,hT,isDat_of_cell hc,hv,by rw [isAgg_of_cell hc]; rfl⟩
theorem parts_ok {cs : List Value} : ∀ (l : List (TypeId×Nat)) (o : Nat),tiles P l o cs.length = true→(∀ p ∈ l,Reads P W p.1 ((cs.drop p.2).take (P.cellsOf p.1))) →
    ∃ cells,RL (gOf W) W cells (cs.drop o)∧∀ p ∈ l,o≤p.2∧HasTy P p.1 (pickAV P p.1 cells (p.2 - o))
  | [], o, ht, _ => by
    simp only [tiles,beq_iff_eq] at ht
    subst ht
    exact ⟨[],by simp [RL],fun p hp=>by cases hp⟩
  | (t, off) :: r, o, ht, hr => by
    simp only [tiles,Bool.and_eq_true,beq_iff_eq] at ht
    obtain ⟨rfl,ht⟩:=ht
    obtain ⟨cells2,h2,h3⟩:=parts_ok r _ ht (fun p hp=>hr p (.tail _ hp))
    obtain ⟨hl,h1,hag,cells1,h4,h5,h6⟩:=hr (t,off) (.head _)
    simp only at hl h1 hag h4 h5 h6
    refine ⟨cells1++cells2,?_,fun p hp=>?_⟩
    · have e : cs.drop off = (cs.drop off).take (P.cellsOf t)++cs.drop (off + P.cellsOf t):=by
        rw [← List.drop_drop,List.take_append_drop]
      rw [e]
      exact RL_app h4 h2
    · cases hp with
      | head =>
        refine ⟨Nat.le_refl _,?_⟩
        simp only [Nat.sub_self]
        have : pickAV P t (cells1++cells2) 0 = pickAV P t cells1 0:=by
          by_cases hq : tyAg P t = some true
          · simp only [pickAV, if_pos hq, List.drop_zero]
            rw [List.take_append_of_le_length (by omega)]
          · have hq' : tyAg P t = some false:=by
              cases hx : tyAg P t with
              | none=>rw [hx] at hag; cases hag
              | some b=>cases b <;> simp_all
            have:=h1 hq'
            have hlt : 0 < cells1.length:=by omega
            simp [pickAV,hq',List.getElem?_append_left hlt]
        rw [this]; exact h5
      | tail _ hp =>
        obtain ⟨h7,h8⟩:=h3 p hp
        refine ⟨by omega,?_⟩
        have : pickAV P p.1 (cells1++cells2) (p.2 - off) = pickAV P p.1 cells2 (p.2 - (off + P.cellsOf t)):=by
          have e : p.2 - off = cells1.length + (p.2 - (off + P.cellsOf t)):=by omega
          simp only [pickAV,e,List.drop_append,List.drop_eq_nil_of_le (Nat.le_add_right _ _),List.nil_append,Nat.add_sub_cancel_left]
          simp [List.getElem?_append_right]
        rw [this]; exact h8
theorem mem_append {b o : Nat} {ms ns : List Value} (h : mem W b o ms) (k : mem W b (o + ms.length) ns) : mem W b o (ms++ns):=by
  intro j v hj
  rw [List.getElem?_append] at hj
  split at hj
  · exact h j v hj
  · rename_i hlt
    have:=k _ v hj
    rwa [show o + ms.length + (j - ms.length) = o + j by omega] at this
theorem add_off (a : Addr) (hs : a.spot = none) (k : Nat) : a.add k = ⟨a.block,a.off + k,none⟩:=by
  unfold Addr.add
  split
  · rename_i h0; subst h0; cases a; simp at hs; simp [hs]
  · rfl
theorem elems_ok {a : Addr} {e : TypeId} (hz : 0 < P.cellsOf e) : ∀ (k : Nat),(∀ i,i < k→∃ cs,W.cells? base (a.add (i * P.cellsOf e)) (P.cellsOf e) = some cs∧Reads P W e cs) →
    ∃ es ms,es.length = k∧RE (gOf W) W (P.cellsOf e) es ms∧mem W a.block a.off ms∧(∀ x ∈ es,HasTy P e x)∧(0 < k→a.spot = none)
  | 0,_=>⟨[],[],rfl,by simp [RE],fun j v hj=>by simp at hj,fun x hx=>(by cases hx),fun h=>by omega⟩
  | k + 1, h => by
    obtain ⟨es,ms,h1,h2,h3,h4,h5⟩:=elems_ok hz k (fun i hi=>h i (by omega))
    obtain ⟨cs,hc,hr⟩:=h k (by omega)
    have hs : a.spot = none:=by
      obtain ⟨cs0,hc0,_⟩:=h 0 (by omega)
      have:=(cells_mem hc0 hz).1
      simpa [Addr.add] using this
    obtain ⟨_,hl,hm⟩:=cells_mem hc hz
    obtain ⟨x,hx,hd,hR,_⟩:=hr.val
    have hml:=RE_length h2
    refine ⟨es++[x],ms++cs,by simp [h1],RE_app h2 ?_,mem_append h3 ?_,fun y hy=>?_,fun _=>hs⟩
    · simp only [RE]
      exact ⟨cs,[],by simp,hl,⟨hd,hR⟩,rfl⟩
    · rw [add_off a hs] at hm
      simp only at hm
      rw [hml,h1]
      exact hm
    · simp only [List.mem_append, List.mem_singleton] at hy
      rcases hy with hy | rfl
      · exact h4 y hy
      · exact hx
theorem trod_reads (hT : ∀ t ∈ T,plainTy P T t = true) : ∀ (fuel : Nat) (t : TypeId) (cs : List Value) (x : DataW H×List MemPlace),t ∈ T→DataW.trod enc P W base spare held fuel t cs = some x→Reads P W t cs:=by
  intro fuel
  induction fuel with
  | zero=>intro t cs x _ h; simp [DataW.trod] at h
  | succ fuel ih =>
    intro t cs x ht h
    have hp:=hT t ht
    unfold plainTy at hp
    cases hu : P.underlying t with
    | none=>rw [hu] at hp; cases hp
    | some d =>
      rw [hu] at hp
      have hag:=tyAg_of hu
      have single : ∀ {v : Value} {c : AV},descAgg d = false→P.cellsOf t = 1→cs = [v]→c.isCell = true→R (gOf W) W c [v]→HasTy P t c→Reads P W t cs:=by
        rintro v c hd h1 rfl hc hR hTy
        refine ⟨by simp [h1],fun _=>h1,by rw [hag]; rfl,[c],by simp only [RL]; exact ⟨v,[],rfl,⟨hc,hR⟩,rfl⟩,?_,by simp [h1]⟩
        rw [pick_cell hu hd]
        exact hTy
      cases d with
      | bool =>
        obtain ⟨b,rfl,_⟩:=DataW.trod_bool hu h
        exact single (c:=.bool b) rfl (by simpa using hp) rfl rfl (by simp [R]) (.bool b hu)
      | int k =>
        obtain ⟨n,rfl,_,hw⟩:=DataW.trod_int hu h
        exact single (c:=.int k n) rfl (by simpa using hp) rfl rfl (by simp [R]) (.int k n hu hw)
      | string =>
        obtain ⟨s,rfl,_,hs⟩:=DataW.trod_string hu h
        exact single (c:=.str s) rfl (by simpa using hp) rfl rfl (by simp [R]) (.str s hu hs)
      | slice e =>
        simp only [Bool.and_eq_true,beq_iff_eq,decide_eq_true_eq,List.contains_eq_mem] at hp
        obtain ⟨⟨h1,heT⟩,hz⟩:=hp
        rcases DataW.trod_slice hu h with ⟨rfl,_⟩ | ⟨a,len,cap,elems,rest,n,hn,rfl,_,_,hlc,hcap,hel,hread,_⟩
        · exact single (c:=.slice (P.cellsOf e) []) rfl h1 rfl rfl (by simp only [R]; exact ⟨none,0,rfl,Nat.le_refl _,.inl trivial⟩) (.slice [] hu (by simp) (fun a ha=>by cases ha))
        · obtain rfl : fuel = n := by omega
          obtain ⟨es,ms,q1,q2,q3,q4,q5⟩:=elems_ok (base:=base) (a:=a) hz len (fun i hi=>by
            have:=hread i hi
            have hi' : elems[i]? = some (elems[i]'(by omega)):=by rw [List.getElem?_eq_getElem]
            rw [hi'] at this
            cases hc : W.cells? base (a.add (i * P.cellsOf e)) (P.cellsOf e) with
            | none=>rw [hc] at this; cases this
            | some cs=>rw [hc] at this; exact ⟨cs,rfl,ih e cs _ heT this⟩)
          have hml:=RE_length q2
          refine single (c:=.slice (P.cellsOf e) es) rfl h1 rfl rfl ?_ (.slice es hu (by omega) q4)
          simp only [R]
          refine ⟨some a,cap,by rw [q1],by omega,?_⟩
          rcases Nat.eq_zero_or_pos len with h0 | h0
          · left; exact List.eq_nil_of_length_eq_zero (by omega)
          · right
            have hs:=q5 h0
            refine ⟨a.block,a.off,ms,by cases a; simp at hs; simp [hs],q3,mem_T q3 ?_,q2⟩
            rw [hml,q1]
            exact Nat.mul_pos h0 hz
      | struct fs =>
        simp only [Bool.and_eq_true,List.all_eq_true,List.contains_eq_mem,decide_eq_true_eq] at hp
        obtain ⟨hfT,htile⟩:=hp
        obtain ⟨xs,n,hn,_,hl,hxl,hread⟩:=DataW.trod_struct hu h
        obtain rfl : fuel = n:=by omega
        obtain ⟨cells,h1,h2⟩:=parts_ok (P:=P) (W:=W) (cs:=cs) _ 0 (by rw [hl]; exact htile) (fun p hp=>by
          simp only [List.mem_map] at hp
          obtain ⟨f,hf,rfl⟩:=hp
          obtain ⟨i,hi⟩:=List.getElem?_of_mem hf
          have hi' : fs[i]? = some f:=by simpa using hi
          have hlt : i < fs.size:=(Array.getElem?_eq_some_iff.1 hi').1
          have:=hread i f hi'
          have hx : xs[i]? = some (xs[i]'(by omega)):=by rw [List.getElem?_eq_getElem]
          rw [hx] at this
          exact ih f.type _ _ (hfT f hf) this)
        simp only [List.drop_zero] at h1
        have hcl:=RL_length h1
        refine ⟨hl,fun hq=>(by rw [hag] at hq; cases hq),by rw [hag]; rfl,cells,h1,?_,by omega⟩
        rw [pick_agg hu rfl,List.drop_zero,List.take_of_length_le (by omega)]
        refine .struct cells hu (by omega) fun f hf=>?_
        have:=h2 (f.type,f.offset) (List.mem_map.2 ⟨f,hf,rfl⟩)
        simpa using this.2
      | array n e =>
        simp only [Bool.and_eq_true,List.contains_eq_mem,decide_eq_true_eq] at hp
        obtain ⟨heT,htile⟩:=hp
        obtain ⟨xs,m,hm,_,hl,hxl,hread⟩:=DataW.trod_array hu h
        obtain rfl : fuel = m:=by omega
        obtain ⟨cells,h1,h2⟩:=parts_ok (P:=P) (W:=W) (cs:=cs) _ 0 (by rw [hl]; exact htile) (fun p hp=>by
          simp only [List.mem_map,List.mem_range] at hp
          obtain ⟨i,hi,rfl⟩:=hp
          have:=hread i hi
          have hx : xs[i]? = some (xs[i]'(by omega)):=by rw [List.getElem?_eq_getElem]
          rw [hx] at this
          exact ih e _ _ heT this)
        simp only [List.drop_zero] at h1
        have hcl:=RL_length h1
        refine ⟨hl,fun hq=>(by rw [hag] at hq; cases hq),by rw [hag]; rfl,cells,h1,?_,by omega⟩
        rw [pick_agg hu rfl,List.drop_zero,List.take_of_length_le (by omega)]
        refine .array cells hu (by omega) fun i hi=>?_
        have:=h2 (e,i * P.cellsOf e) (List.mem_map.2 ⟨i,List.mem_range.2 hi,rfl⟩)
        simpa using this.2
      | _=>cases hp
theorem trod_arg (hT : ∀ t ∈ T,plainTy P T t = true) {t : TypeId} (ht : t ∈ T) {r : Reach} {b0 : Nat} {v : Value} (hval : Value.okWide P W r b0 t v) {d : DataW H} {ps : List MemPlace} (hd : DataW.Trod enc P W base spare held t v d ps) :
    ∃ a,HasTy P t a∧RV (gOf W) W a v:=by
  obtain ⟨fuel,hd⟩:=hd
  have hr:=trod_reads hT fuel t _ _ ht hd
  obtain ⟨a,h1,h2,h3,h4⟩:=hr.val
  refine ⟨a,h1,h3,?_⟩
  rw [h4]
  have hp:=hT t ht
  unfold plainTy at hp
  cases hu : P.underlying t with
  | none=>rw [hu] at hp; cases hp
  | some d =>
    rw [hu] at hp
    have hag:=tyAg_of hu
    cases d with
    | bool=>obtain ⟨b,rfl⟩:=WideShapes.okWide_bool hu hval; rw [hag]; rfl
    | int k=>obtain ⟨b,rfl⟩:=WideShapes.okWide_int hu hval; rw [hag]; rfl
    | string=>obtain ⟨b,rfl⟩:=WideShapes.okWide_string hu hval; rw [hag]; rfl
    | slice e=>obtain ⟨b,l,c,rfl⟩:=WideShapes.okWide_slice hu hval; rw [hag]; rfl
    | struct fs =>
      unfold Value.okWide at hval
      rw [hu] at hval
      obtain ⟨cs,rfl,_⟩:=hval
      rw [hag]; rfl
    | array n e =>
      unfold Value.okWide at hval
      rw [hu] at hval
      obtain ⟨cs,rfl,_⟩:=hval
      rw [hag]; rfl
    | _=>cases hp
theorem trodAll_ok (hT : ∀ t ∈ T,plainTy P T t = true) {r : Reach} {b0 : Nat} : ∀ {ts : List TypeId} {vs : List Value} {ds : List (DataW H)} {ps : List MemPlace},(∀ t ∈ ts,t ∈ T)→(∀ (j : Nat) t v,ts[j]? = some t→vs[j]? = some v→Value.okWide P W r b0 t v) →
    DataW.TrodAll enc P W base spare held ts vs ds ps→∃ as,RT (gOf W) W as vs∧as.length = ts.length∧∀ (j : Nat) t a,ts[j]? = some t→as[j]? = some a→HasTy P t a
  | [],[],[],ps,_,_,_=>⟨[],by simp [RT],rfl,fun j t a h=>by simp at h⟩
  | t :: ts, v :: vs, d :: ds, ps, h1, h2, h => by
    simp only [DataW.TrodAll] at h
    obtain ⟨p,q,h3,h4,_⟩:=h
    obtain ⟨a,h5,h6⟩:=trod_arg hT (h1 t (.head _)) (h2 0 t v rfl rfl) h3
    obtain ⟨as,h7,h8,h9⟩:=trodAll_ok hT (fun t ht=>h1 t (.tail _ ht)) (fun j t v h3 h4=>h2 (j + 1) t v (by simpa using h3) (by simpa using h4)) h4
    refine ⟨a :: as,by simp only [RT]; exact ⟨v,vs,rfl,h6,h7⟩,by simp [h8],fun j t' a' hj ha=>?_⟩
    cases j with
    | zero =>
      obtain rfl : t = t':=by simpa using hj
      obtain rfl : a = a':=by simpa using ha
      exact h5
    | succ j=>exact h9 j t' a' (by simpa using hj) (by simpa using ha)
  | [],_ :: _,_,_,_,_,h=>by simp [DataW.TrodAll] at h
  | [],[],_ :: _,_,_,_,h=>by simp [DataW.TrodAll] at h
  | _ :: _,[],_,_,_,_,h=>by simp [DataW.TrodAll] at h
  | _ :: _,_ :: _,[],_,_,_,h=>by simp [DataW.TrodAll] at h
end
end Go.Av
set_option linter.unusedVariables false
set_option linter.unusedSimpArgs false
set_option linter.unusedSectionVars false
namespace Go.Av
open Go Go.ChangeShapes Go.WideShapes Go.RowKit
theorem tiles_sum {P : Program} : ∀ {l : List (TypeId×Nat)} {o n : Nat},tiles P l o n = true→n = o + (l.map fun p=>P.cellsOf p.1).sum∧∀ (j : Nat) p,l[j]? = some p→p.2 = o + ((l.take j).map fun p=>P.cellsOf p.1).sum
  | [], o, n, h => by
    simp only [tiles,beq_iff_eq] at h
    exact ⟨by simp [h],fun j p hj=>by simp at hj⟩
  | (t, off) :: r, o, n, h => by
    simp only [tiles,Bool.and_eq_true,beq_iff_eq] at h
    obtain ⟨rfl,h⟩:=h
    obtain ⟨h1,h2⟩:=tiles_sum h
    refine ⟨by simp; omega,fun j p hj=>?_⟩
    cases j with
    | zero =>
      obtain rfl : (t,off) = p:=by simpa using hj
      simp
    | succ j =>
      have:=h2 j p (by simpa using hj)
      simp only [List.take_succ_cons,List.map_cons,List.sum_cons]
      omega
section
variable {P : Program} {T : List TypeId}
theorem kids_plain (hT : ∀ t ∈ T,plainTy P T t = true) : Kids P (· ∈ T):=by
  refine ⟨fun {t e} ht hu=>?_,fun {t e} ht hu=>?_,fun {t e n} ht hu=>?_,fun {t fs} ht hu=>?_,fun {t k e} ht hu=>?_⟩
  · have:=hT t ht; simp [plainTy,hu] at this
  · have:=hT t ht; simp [plainTy,hu] at this; exact this.1.2
  · have := hT t ht
    simp only [plainTy,hu,Bool.and_eq_true,List.contains_eq_mem,decide_eq_true_eq] at this
    refine ⟨this.1,?_⟩
    have h2:=(tiles_sum this.2).1
    rw [h2]
    simp only [List.map_map]
    have : (List.range n).map ((fun p : TypeId×Nat=>P.cellsOf p.1) ∘ fun i=>(e,i * P.cellsOf e)) = List.replicate n (P.cellsOf e):=by
      rw [List.eq_replicate_iff]
      refine ⟨by simp,fun x hx=>?_⟩
      simp at hx
      exact hx.2.symm
    rw [this]
    simp
  · have := hT t ht
    simp only [plainTy,hu,Bool.and_eq_true,List.all_eq_true,List.contains_eq_mem,decide_eq_true_eq] at this
    obtain ⟨h1,h2⟩:=this
    obtain ⟨h3,h4⟩:=tiles_sum h2
    refine ⟨h1,?_,fun j f hj=>?_⟩
    · rw [h3]; simp [List.map_map,Function.comp_def]
    · have := h4 j (f.type, f.offset) (by simp only [List.getElem?_map, hj, Option.map_some])
      simp only [Nat.zero_add] at this
      rw [this]
      rw [← List.map_take]
      simp [List.map_map,Function.comp_def]
  · have:=hT t ht; simp [plainTy,hu] at this
theorem kids_sized (hT : ∀ t ∈ T,plainTy P T t = true) : ∀ {t e : TypeId},t ∈ T→P.underlying t = some (.slice e)→0 < P.cellsOf e:=by
  intro t e ht hu
  have:=hT t ht; simp [plainTy,hu] at this; exact this.2
variable {H : Type} {enc : TypeId×Value→H} {W W' : World}
theorem trodAll_stays (hT : ∀ t ∈ T,plainTy P T t = true) (hW : ∀ b,b < W.heap.size→W'.heap[b]? = W.heap[b]?) {sp : Nat→Bool} : ∀ {ts : List TypeId} {vs : List Value} {ds : List (DataW H)} {ps : List MemPlace},(∀ t ∈ ts,t ∈ T) →
    DataW.TrodAll enc P W 0 (fun _=>true) true ts vs ds ps→(∀ p ∈ ps,sp p.block = true)→DataW.TrodAll enc P W' 0 sp true ts vs ds ps
  | [],[],[],ps,_,h,_=>h
  | t :: ts, v :: vs, d :: ds, ps, h1, h, hs => by
    simp only [DataW.TrodAll] at h ⊢
    obtain ⟨p,q,⟨n,h3⟩,h4,rfl⟩:=h
    refine ⟨p,q,⟨n,?_⟩,trodAll_stays hT hW (fun t ht=>h1 t (.tail _ ht)) h4 (fun x hx=>hs x (by simp [hx])),rfl⟩
    have hlt:=DataW.trod_lt n t _ _ h3
    refine DataW.trod_stays (kids_plain hT) (kids_sized hT) (fun h=>by cases h) (h1 t (.head _)) h3 (fun x hx=>?_) (fun x hx=>hs x (by simp only [List.mem_append]; exact .inl hx))
    have hb:=hlt x hx
    cases x with
    | cell b off =>
      simp only [World.sameAt,World.cell?]
      rw [hW b hb]
    | map b=>exact hW b hb
  | [],_ :: _,_,_,_,h,_=>by simp [DataW.TrodAll] at h
  | [],[],_ :: _,_,_,h,_=>by simp [DataW.TrodAll] at h
  | _ :: _,[],_,_,_,h,_=>by simp [DataW.TrodAll] at h
  | _ :: _,_ :: _,[],_,_,h,_=>by simp [DataW.TrodAll] at h
theorem keptBut_same (hos : W'.os = W.os) (hout : W'.output = W.output) (hW : ∀ b,b < W.heap.size→W'.heap[b]? = W.heap[b]?) (may : MemPlace→Prop) : W.keptBut W' may:=by
  refine ⟨hos,hout,fun i hi=>?_⟩
  rw [hW i hi]
  cases hh : W.heap[i]? with
  | none=>simp
  | some o=>cases o <;> simp
theorem post_true {fn : Func} {s : ChangeSpec} {apart fresh handsOn again : Bool} {args : Array Value} {ds gs : List (DataW H)} {before : List MemPlace} {tb : TypeId}
    (hT : ∀ t ∈ T,plainTy P T t = true) (hp : ∀ t ∈ fn.params.toList,t ∈ T) (hr : fn.resultTypes = #[tb]) (hb : P.underlying tb = some .bool)
    (hv : s.vars = []) (hs : (s.fn H (ds++gs)).results = [.lit (.bool true)]∧(s.fn H (ds++gs)).args = ds∧(s.fn H (ds++gs)).vars = [])
    (hw : DataW.Whole enc P fn.params.toList s.vars apart W args.toList ds gs before) (hos : W'.os = W.os) (hout : W'.output = W.output) (hsz : W.heap.size≤W'.heap.size) (hW : ∀ b,b < W.heap.size→W'.heap[b]? = W.heap[b]?) :
    s.post enc P fn apart fresh handsOn again W args (.bool true) W':=by
  have hw':=hw
  obtain ⟨pa,pv,h1,h2,rfl,hz,hn⟩:=hw
  obtain ⟨s1,s2,s3⟩:=hs
  have hlt:=h1.lt
  rw [hv] at h2
  obtain ⟨rfl,rfl⟩ : gs = []∧pv = []:=by
    cases gs with
    | nil=>exact ⟨rfl,by simpa [DataW.TrodVars] using h2⟩
    | cons a b=>simp [DataW.TrodVars] at h2
  have hold : ∀ p ∈ pa,(fun b=>decide (b < W.heap.size)) p.block = true:=fun p hp=>by simpa using hlt p hp
  have hres : ∀ (b : Nat) (sp : Nat→Bool) (hd : Bool),DataW.TrodAll enc P W' b sp hd fn.resultTypes.toList ((Value.bool true).resultList fn.resultTypes.size) (s.fn H (ds++[])).results []:=by
    intro b sp hd
    rw [hr,s1]
    exact trodAll_mk1 (shut_bool hb _)
  have hargs : ∀ sp : Nat→Bool,(∀ p ∈ pa,sp p.block = true)→DataW.TrodAll enc P W' 0 sp true fn.params.toList args.toList (s.fn H (ds++[])).args pa:=by
    intro sp hsp
    rw [s2]
    exact trodAll_stays hT hW hp h1 hsp
  have hvars : ∀ sp,DataW.TrodVars enc P W' sp s.vars (s.fn H (ds++[])).vars []:=by
    intro sp
    rw [hv,s3]
    rfl
  refine ⟨ds,[],pa++[],[],pa,[],hw',hres _ _ _,hargs _ hold,hvars _,keptBut_same hos hout hW _,fun _=>⟨?_,_,_,([]++pa)++[],⟨[]++pa,[],trodAll_append (hargs _ (fun _ _=>rfl)) (hres _ _ _),hvars _,rfl,?_,?_⟩,?_⟩⟩
  · exact ok_one hr rfl (okWide_bool_mk hb _)
  · intro b off hp
    have hbl : b < W.heap.size:=by
      exact hlt (.cell b off) (by simpa using hp)
    have:=hz b off (by simpa using hp)
    simp only [World.frozen?] at this ⊢
    rw [hW b hbl]
    exact this
  · intro ha
    simpa using hn ha
  · intro p hp _
    simpa using hp
def LawTrue (P : Program) (f : FuncId) (params : List TypeId) (X : World→Prop) : Prop :=
  ∀ W,X W→∀ as : List AV,as.length = params.length→(∀ (j : Nat) t a,params[j]? = some t→as[j]? = some a→HasTy P t a) →
    ∃ S' own,∀ vs : Array Value,RT (gOf W) W as vs.toList→Calls P f vs W (Post (gOf W) W (.ret (.bool true) own) S')
theorem lawTrue_of {f : FuncId} {params : List TypeId} {X : World→Prop} (h : ∀ W,X W→∃ h,SoundFun P W f h∧∀ as : List AV,as.length = params.length→(∀ (j : Nat) t a,params[j]? = some t→as[j]? = some a→HasTy P t a)→∃ S' own,h as [] = some (.ret (.bool true) own,S')) :
    LawTrue P f params X:=by
  intro W hX as hl hty
  obtain ⟨h,hs,hr⟩:=h W hX
  obtain ⟨S',own,hr⟩:=hr as hl hty
  exact ⟨S',own,fun vs hv=>(hs as [] _ _ hr).2 (gOf W) W vs (gOf_base W) hv (gOf_S W) (gOf_calm W)⟩
theorem row_contract {fn : Func} {f : FuncId} {s : ChangeSpec} {apart fresh handsOn again : Bool} {X : World→Prop} {tb : TypeId}
    (hT : ∀ t ∈ T,plainTy P T t = true) (hp : ∀ t ∈ fn.params.toList,t ∈ T) (hr : fn.resultTypes = #[tb]) (hb : P.underlying tb = some .bool) (hv : s.vars = [])
    (hs : ∀ ds : List (DataW H),ds.length = fn.params.toList.length→(s.fn H ds).results = [.lit (.bool true)]∧(s.fn H ds).args = ds∧(s.fn H ds).vars = [])
    (hlaw : LawTrue P f fn.params.toList X) {W : World} {base : Nat} {args : Array Value} {ds gs : List (DataW H)} {before : List MemPlace}
    (hval : ∀ (j : Nat) t v,fn.params[j]? = some t→args[j]? = some v→Value.okWide P W .any base t v) (hw : DataW.Whole enc P fn.params.toList s.vars apart W args.toList ds gs before) (hX : X W) :
    Calls P f args W fun e W'=>∃ v,e = .returned v∧s.post enc P fn apart fresh handsOn again W args v W':=by
  have hw':=hw
  obtain ⟨pa,pv,h1,h2,h3,hz,hn⟩:=hw
  rw [hv] at h2
  obtain rfl : gs = []:=by
    cases gs with
    | nil=>rfl
    | cons a b=>simp [DataW.TrodVars] at h2
  obtain ⟨as,q1,q2,q3⟩:=trodAll_ok hT hp (fun j t v ht hvv=>hval j t v (by simpa using ht) (by simpa using hvv)) h1
  obtain ⟨S',own,hc⟩:=hlaw W hX as q2 q3
  refine (hc args q1).mono fun e W' hpost=>?_
  obtain ⟨g',hE,_,_,v,rfl,hRV,_⟩:=hpost
  obtain rfl:=RV_bool.1 hRV
  have hlen : ds.length = fn.params.toList.length:=(trodAll_length h1).2
  refine ⟨_,rfl,post_true hT hp hr hb hv (by simpa using hs ds hlen) hw' hE.os hE.output hE.size fun b hbb=>?_⟩
  exact (hE.ext b (by simp [gOf,hbb])).2.1
end
end Go.Av
set_option linter.unusedVariables false
set_option linter.unusedSimpArgs false
set_option linter.unusedSectionVars false
namespace Go.Av
open Go Go.RowKit
section
variable {P : Program} {W0 : World} {g : Gh} {W W' : World} {S : List Bx}
theorem ext_below (hS : SInv g W S) (hB : Below W.heap.size W W') : Ext g W g W':=by
  have lt : ∀ b,(g.T b≠0∨g.O b≠.free)→b < W.heap.size:=by
    intro b h
    rcases Nat.lt_or_ge b W.heap.size with h1 | h1
    · exact h1
    · have := hS.fresh b h1
      rcases h with h | h
      · exact absurd this.1 h
      · exact absurd this.2 h
  refine ⟨⟨fun _=>Nat.le_refl _,fun b o ho=>?_,fun _ _ h=>h⟩,hB.size,hB.os,hB.tape,hB.output,fun b hb=>⟨hb,hB.block b (lt b (.inr (by rw [hb]; simp))),rfl⟩⟩
  exact World.cell?_of_block (w:=W) (hB.block b (lt b (.inl (by omega))))
theorem sinv_below (hS : SInv g W S) (hB : Below W.heap.size W W') : SInv g W' S:=by
  refine ⟨hS.len,fun i x hx=>?_,fun b hb=>hS.fresh b (Nat.le_trans hB.size hb)⟩
  obtain ⟨b,h1,h2⟩:=hS.box i x hx
  exact ⟨b,h1,h2.keep (ext_below hS hB).toKeeps fun b hb _=>⟨hB.block b hb,rfl,rfl⟩⟩
theorem calm_calmR {o : Own} (h : o.calm) : o.calmR:=by cases o <;> simp_all [Own.calm,Own.calmR]
theorem post_below (hS : SInv g W S) (hc : ∀ b,(g.O b).calm) (hB : Below W.heap.size W W') {r : AV} {v : Value} (hv : RV g W r v) : Post g W (.ret r none) S (.returned v) W' :=
  ⟨g,ext_below hS hB,sinv_below hS hB,fun b=>calm_calmR (hc b),v,rfl,RV_keeps (ext_below hS hB).toKeeps hv,fun te h=>by cases h⟩
theorem post_str (hS : SInv g W S) (hc : ∀ b,(g.O b).calm) (hB : Below W.heap.size W W') (s : ByteArray) : Post g W (.ret (.str s) none) S (.returned (.string s)) W' :=
  post_below hS hc hB (RV_str.2 rfl)
end
def strsOf : List AV→Option (List ByteArray)
  | []=>some []
  | .str s :: r=>(strsOf r).map fun l=>s :: l
  | _=>none
def joinB (xs : List ByteArray) (sep : ByteArray) : ByteArray :=
  match xs with
  | []=>⟨#[]⟩
  | x :: r=>⟨(x.data.toList++Lib.joinTail sep.data.toList (r.map (·.data.toList))).toArray⟩
def xJoin (args : List AV) (S : List Bx) : Option (AEnd×List Bx) :=
  match args with
  | [.slice 1 es, .str sep] => match strsOf es with
    | some xs=>if xs.length≤140737488355328∧(joinB xs sep).size≤140737488355328 then some (.ret (.str (joinB xs sep)) none,S) else none
    | none=>none
  | _=>none
theorem joinB_eq (xs : List ByteArray) (sep : ByteArray) : joinB xs sep = ⟨(Lib.join (xs.map (·.data.toList)) sep.data.toList).toArray⟩:=by
  cases xs with
  | nil=>rfl
  | cons x r=>simp only [joinB,List.map_cons,Lib.join_cons]
theorem strsOf_cells {g : Gh} {W : World} : ∀ {es : List AV} {xs : List ByteArray} {ms : List Value},strsOf es = some xs→RE g W 1 es ms→ms = xs.map Value.string∧xs.length = es.length
  | [], xs, ms, h, hE => by
    simp only [strsOf,Option.some.injEq] at h
    subst h
    simp only [RE] at hE
    simp [hE]
  | e :: es, xs, ms, h, hE => by
    cases e <;> simp only [strsOf] at h <;> try (cases h; done)
    rename_i s
    simp only [Option.map_eq_some_iff] at h
    obtain ⟨ys,hy,rfl⟩:=h
    simp only [RE] at hE
    obtain ⟨x,r,rfl,hx,⟨_,hR⟩,hE⟩:=hE
    obtain ⟨h1,h2⟩:=strsOf_cells hy hE
    simp only [R] at hR
    subst hR
    simp [h1,h2]
theorem ext_join {P : Program} {W0 : World} {f : FuncId} (hc : Callable P f)
    (hN : ∀ (a : Option Addr) (c : Nat) (sep : ByteArray) (w : World),Calls P f #[.slice a 0 c,.string sep] w fun e w'=>e = .returned (.string ⟨#[]⟩)∧w' = w)
    (hJ : ∀ (bk o c : Nat) (xs : List ByteArray) (sep : ByteArray) (w : World),(∀ (j : Nat) x,xs[j]? = some x→w.cell? ⟨bk,o + j,none⟩ = some (.string x))→bk < w.heap.size→xs.length≤140737488355328→xs.length≤c →
      (Lib.join (xs.map (·.data.toList)) sep.data.toList).length≤140737488355328 →
      Calls P f #[.slice (some ⟨bk,o,none⟩) xs.length c,.string sep] w fun e w'=>e = .returned (.string ⟨(Lib.join (xs.map (·.data.toList)) sep.data.toList).toArray⟩)∧Below w.heap.size w w') :
    SoundFun P W0 f xJoin:=by
  intro args S e S' h
  refine ⟨hc,fun g W vs hB hT hS hcalm=>?_⟩
  unfold xJoin at h
  split at h
  · rename_i es sep
    split at h
    · rename_i xs hxs
      split at h
      · rename_i hb
        simp only [Option.some.injEq,Prod.mk.injEq] at h
        obtain ⟨rfl,rfl⟩:=h
        obtain ⟨l⟩:=vs
        simp only [RT] at hT
        obtain ⟨v1,r1,hl,hv1,v2,r2,rfl,hv2,rfl⟩:=hT
        subst hl
        obtain rfl:=RV_str.1 hv2
        obtain ⟨p,cap,rfl,hcap,hes⟩:=RV_slice hv1
        cases es with
        | nil =>
          simp only [strsOf,Option.some.injEq] at hxs
          subst hxs
          refine (hN p cap sep W).mono fun e w' hh=>?_
          obtain ⟨rfl,rfl⟩:=hh
          exact post_str hS hcalm (Below.refl _ _) _
        | cons e0 es0 =>
          rcases hes with hes | ⟨b,o,ms,rfl,hm,hTb,hE⟩
          · cases hes
          obtain ⟨rfl,hlen⟩:=strsOf_cells hxs hE
          have hcell : ∀ (j : Nat) x,xs[j]? = some x→W.cell? ⟨b,o + j,none⟩ = some (.string x):=fun j x hj=>hm j _ (by simp [hj])
          have hbl : b < W.heap.size:=by
            have hx0 : xs[0]? = some (xs[0]'(by rw [hlen]; simp)):=by rw [List.getElem?_eq_getElem]
            have:=hcell 0 _ hx0
            unfold World.cell? at this
            simp only at this
            rcases Nat.lt_or_ge b W.heap.size with h1 | h1
            · exact h1
            · rw [Array.getElem?_eq_none h1] at this; cases this
          rw [← hlen]
          have hsz : (Lib.join (xs.map (·.data.toList)) sep.data.toList).length≤140737488355328:=by
            have:=hb.2
            rw [joinB_eq] at this
            simpa [ByteArray.size] using this
          refine (hJ b o cap xs sep W hcell hbl hb.1 (by omega) hsz).mono fun e w' hh=>?_
          obtain ⟨rfl,hbel⟩:=hh
          rw [joinB_eq]
          exact post_str hS hcalm hbel _
      · cases h
    · cases h
  · cases h
def digs : Nat→Nat→List UInt8→List UInt8
  | 0,_,acc=>acc
  | k + 1,n,acc=>if n < 10 then UInt8.ofNat (48 + n) :: acc else digs k (n / 10) (UInt8.ofNat (48 + n % 10) :: acc)
theorem digs_eq : ∀ (k n : Nat) (acc : List UInt8),n < 10 ^ k→0 < k→digs k n acc = Lib.decDigits n++acc
  | 0,n,acc,_,h=>by omega
  | k + 1, n, acc, h, _ => by
    unfold digs
    rw [Lib.decDigits]
    by_cases h10 : n < 10
    · simp [h10]
    · have h2 : n / 10 < 10 ^ k:=by
        rw [Nat.pow_succ] at h
        omega
      have hk : 0 < k:=by
        rcases Nat.eq_zero_or_pos k with rfl | hk
        · simp at h; omega
        · exact hk
      simp only [h10,if_false,dif_neg,not_false_eq_true,List.append_assoc,List.singleton_append]
      exact digs_eq k (n / 10) _ h2 hk
def itoaB (n : Int) : ByteArray:=⟨(if n < 0 then 45 :: digs 20 n.natAbs [] else digs 20 n.toNat []).toArray⟩
theorem itoaB_eq {n : Int} (h0 : -9223372036854775808≤n) (h1 : n≤9223372036854775807) : itoaB n = ⟨(Lib.itoa n).toArray⟩:=by
  unfold itoaB Lib.itoa
  have e1 : ∀ u : Nat,u≤9223372036854775808→digs 20 u [] = Lib.decDigits u:=fun u hu=>by
    rw [digs_eq 20 u [] (by omega) (by omega)]; simp
  split
  · rw [e1 _ (by omega)]
  · rw [e1 _ (by omega)]
end Go.Av
set_option linter.unusedVariables false
set_option linter.unusedSimpArgs false
set_option linter.unusedSectionVars false
namespace Go.Av
open Go Go.RowKit
def xFormatInt (args : List AV) (S : List Bx) : Option (AEnd×List Bx) :=
  match args with
  | [.int .i64 n,.int .i64 b]=>if (-9223372036854775808≤n∧n≤9223372036854775807)∧b = 10 then some (.ret (.str (itoaB n)) none,S) else none
  | _=>none
theorem ext_formatInt {P : Program} {W0 : World} {f : FuncId} (hc : Callable P f)
    (hI : ∀ (n : Int) (w : World),-9223372036854775808≤n→n≤9223372036854775807→(∀ b,b < W0.heap.size→w.heap[b]? = W0.heap[b]?)→Calls P f #[.int .i64 n,.int .i64 10] w fun e w'=>e = .returned (.string ⟨(Lib.itoa n).toArray⟩)∧Below w.heap.size w w') :
    SoundFun P W0 f xFormatInt:=by
  intro args S e S' h
  refine ⟨hc,fun g W vs hB hT hS hcalm=>?_⟩
  unfold xFormatInt at h
  split at h
  · rename_i n b
    split at h
    · rename_i hb
      obtain ⟨hb,rfl⟩:=hb
      simp only [Option.some.injEq,Prod.mk.injEq] at h
      obtain ⟨rfl,rfl⟩:=h
      obtain ⟨l⟩:=vs
      simp only [RT] at hT
      obtain ⟨v1,r1,hl,hv1,v2,r2,rfl,hv2,rfl⟩:=hT
      subst hl
      obtain rfl:=RV_int.1 hv1
      obtain rfl:=RV_int.1 hv2
      refine (hI n W hb.1 hb.2 fun b hbb=>(hB.ext b hbb).2).mono fun e w' hh=>?_
      obtain ⟨rfl,hbel⟩:=hh
      rw [itoaB_eq hb.1 hb.2]
      exact post_str hS hcalm hbel _
    · cases h
  · cases h
def repB (s old new : ByteArray) : ByteArray:=⟨(Lib.replaceAll s.data.toList old.data.toList new.data.toList).toArray⟩
def xReplaceAll (args : List AV) (S : List Bx) : Option (AEnd×List Bx) :=
  match args with
  | [.str s,.str old,.str new]=>if s.size < 4294967281∧1≤old.size∧s.size + s.size * new.size≤140737488355328 then some (.ret (.str (repB s old new)) none,S) else none
  | _=>none
theorem ext_replaceAll {P : Program} {W0 : World} {f : FuncId} (hc : Callable P f)
    (hI : ∀ (s old new : ByteArray) (w : World),s.size < 4294967281→1≤old.size→s.size + s.size * new.size≤140737488355328→(∀ b,b < W0.heap.size→w.heap[b]? = W0.heap[b]?) →
      Calls P f #[.string s,.string old,.string new] w fun e w'=>e = .returned (.string ⟨(Lib.replaceAll s.data.toList old.data.toList new.data.toList).toArray⟩)∧Below w.heap.size w w') :
    SoundFun P W0 f xReplaceAll:=by
  intro args S e S' h
  refine ⟨hc,fun g W vs hB hT hS hcalm=>?_⟩
  unfold xReplaceAll at h
  split at h
  · rename_i s old new
    split at h
    · rename_i hb
      simp only [Option.some.injEq,Prod.mk.injEq] at h
      obtain ⟨rfl,rfl⟩:=h
      obtain ⟨l⟩:=vs
      simp only [RT] at hT
      obtain ⟨v1,r1,hl,hv1,v2,r2,rfl,hv2,v3,r3,rfl,hv3,rfl⟩:=hT
      subst hl
      obtain rfl:=RV_str.1 hv1
      obtain rfl:=RV_str.1 hv2
      obtain rfl:=RV_str.1 hv3
      refine (hI s old new W hb.1 hb.2.1 hb.2.2 fun b hbb=>(hB.ext b hbb).2).mono fun e w' hh=>?_
      obtain ⟨rfl,hbel⟩:=hh
      exact post_str hS hcalm hbel _
    · cases h
  · cases h
section
variable {P : Program} {W0 : World} {g : Gh} {W W' : World} {S : List Bx}
theorem post_row (hS : SInv g W S) (hc : ∀ b,(g.O b).calm) (hB : Below W.heap.size W W') {A : Nat} (hA : W.heap.size≤A) {cur : Array Value} {ty : TypeId} (hr : W'.heap[A]? = some (.cells cur ty (0,0)))
    {sz : Nat} {es : List AV} {cap : Nat} (hcap : es.length≤cap) {ms : List Value} (hms : ∀ (j : Nat) v,ms[j]? = some v→cur[j]? = some v) (hE : ∀ g' W',RE g' W' sz es ms) :
    Post g W (.ret (.slice sz es) none) S (.returned (.slice (some ⟨A,0,none⟩) es.length cap)) W':=by
  have h0:=hS.fresh A hA
  have hlt : A < W'.heap.size:=lt_of_heap hr
  have hE1:=ext_below hS hB
  have hne : ∀ b,b < W.heap.size→b≠A:=fun b hb e=>by omega
  have ext : Ext g W { g with T:=upd g.T A ms.length } W':=by
    refine ⟨⟨fun b=>?_,fun b o ho=>hE1.cell b o ho,fun _ _ h=>h⟩,hB.size,hB.os,hB.tape,hB.output,fun b hb=>?_⟩
    · by_cases e : b = A
      · subst e; simp [h0.1]
      · simp [upd_other _ _ _ _ e]
    · have e : b ≠ A := fun e => by subst e; rw [h0.2] at hb; cases hb
      obtain ⟨h1,h2,h3⟩:=hE1.ext b hb
      exact ⟨h1,h2,by simp [upd_other _ _ _ _ e]⟩
  have hS' : SInv { g with T:=upd g.T A ms.length } W' S:=by
    refine ⟨hS.len,fun i x hx=>?_,fun b hb=>?_⟩
    · obtain ⟨b, h1, h2⟩ := hS.box i x hx
      exact ⟨b,h1,h2.keep ext.toKeeps fun b hb _=>⟨hB.block b hb,rfl,by simp [upd_other _ _ _ _ (hne b hb)]⟩⟩
    · have e : b ≠ A := fun e => by omega
      have:=hS.fresh b (Nat.le_trans hB.size hb)
      exact ⟨by simp [upd_other _ _ _ _ e,this.1],this.2⟩
  refine ⟨_,ext,hS',fun b=>calm_calmR (hc b),_,rfl,RV_slice_mk hcap (.inr ⟨A,0,ms,rfl,?_,?_,hE _ _⟩),fun te h=>by cases h⟩
  · intro j v hj
    rw [cell_of_row W' A (0 + j) cur ty (0,0) hr,Nat.zero_add]
    exact hms j v hj
  · simp [upd_same]
end
def strAV (l : List (List UInt8)) : List AV:=l.map fun x=>.str ⟨x.toArray⟩
def fieldsF (l : List UInt8) : List (List UInt8):=if l.all (fun b=>decide (b.toNat < 128)) then Lib.fields l else Lib.fieldsD l
def xFields (args : List AV) (S : List Bx) : Option (AEnd×List Bx) :=
  match args with
  | [.str s]=>if s.size < 4294967281 then some (.ret (.slice 1 (strAV (fieldsF s.data.toList))) none,S) else none
  | _=>none
theorem RE_strs {g : Gh} {W : World} : ∀ (l : List (List UInt8)),RE g W 1 (strAV l) (l.map fun x=>Value.string ⟨x.toArray⟩)
  | []=>by simp [strAV,RE]
  | x :: l => by
    simp only [strAV,List.map_cons,RE]
    exact ⟨[.string ⟨x.toArray⟩],_,rfl,rfl,⟨rfl,by simp [R]⟩,RE_strs l⟩
theorem ext_fields {P : Program} {W0 : World} {f : FuncId} (hc : Callable P f)
    (hI : ∀ (s : ByteArray) (w : World),s.size < 4294967281→(∀ b,b < W0.heap.size→w.heap[b]? = W0.heap[b]?) →
      Calls P f #[.string s] w fun e w'=>∃ A cur ty cap,e = .returned (.slice (some ⟨A,0,none⟩) (fieldsF s.data.toList).length cap)∧w.heap.size≤A∧(fieldsF s.data.toList).length≤cap∧w'.heap[A]? = some (.cells cur ty (0,0)) ∧
        (∀ (j : Nat) v,((fieldsF s.data.toList).map fun x=>Value.string ⟨x.toArray⟩)[j]? = some v→cur[j]? = some v)∧Below w.heap.size w w') :
    SoundFun P W0 f xFields:=by
  intro args S e S' h
  refine ⟨hc,fun g W vs hB hT hS hcalm=>?_⟩
  unfold xFields at h
  split at h
  · rename_i s
    split at h
    · rename_i hb
      simp only [Option.some.injEq,Prod.mk.injEq] at h
      obtain ⟨rfl,rfl⟩:=h
      obtain ⟨l⟩:=vs
      simp only [RT] at hT
      obtain ⟨v1,r1,hl,hv1,rfl⟩:=hT
      subst hl
      obtain rfl:=RV_str.1 hv1
      refine (hI s W hb fun b hbb=>(hB.ext b hbb).2).mono fun e w' hh=>?_
      obtain ⟨A,cur,ty,cap,rfl,hA,hcap,hrow,hms,hbel⟩:=hh
      have:=post_row (sz:=1) (es:=strAV (fieldsF s.data.toList)) (cap:=cap) hS hcalm hbel hA hrow (by simpa [strAV] using hcap) hms (fun _ _=>RE_strs _)
      simpa [strAV] using this
    · cases h
  · cases h
def atoiA (t : Nat) (s : ByteArray) : AV :=
  match Lib.atoiAll s.data.toList with
  | .ok v=>.tuple [.int .i64 v,.niliface]
  | Lib.NumEnd.syntax=>.tuple [.int .i64 0,.iface t (.sptr [])]
  | .range=>.tuple [.int .i64 (Lib.atoiSat s.data.toList),.iface t (.sptr [])]
def xAtoi (t : Nat) (args : List AV) (S : List Bx) : Option (AEnd×List Bx) :=
  match args with
  | [.str s]=>if s.size≤281474976710656 then some (.ret (atoiA t s) none,S) else none
  | _=>none
def xParseInt (t : Nat) (args : List AV) (S : List Bx) : Option (AEnd×List Bx) :=
  match args with
  | [.str s,.int .i64 b,.int .i64 c]=>if s.size≤281474976710656∧b = 10∧c = 64 then some (.ret (atoiA t s) none,S) else none
  | _=>none
def atoiEnd (t : Nat) (s : ByteArray) (e : Ending) : Prop :=
  match Lib.atoiAll s.data.toList with
  | .ok v=>e = .returned (.tuple #[.int .i64 v,.nilIface])
  | Lib.NumEnd.syntax=>∃ N,e = .returned (.tuple #[.int .i64 0,.iface t (.pointer (some ⟨N,0,none⟩))])
  | .range=>∃ N,e = .returned (.tuple #[.int .i64 (Lib.atoiSat s.data.toList),.iface t (.pointer (some ⟨N,0,none⟩))])
theorem RV_num_ok {g : Gh} {W : World} (v : Int) : RV g W (.tuple [.int .i64 v,.niliface]) (.tuple #[.int .i64 v,.nilIface]) :=
  ⟨by simp only [Value.cells,R,RT]; exact ⟨_,rfl,_,_,rfl,⟨by simp [Value.cells,R],rfl⟩,_,_,rfl,⟨by simp [Value.cells,R],rfl⟩,rfl⟩,rfl⟩
theorem RV_num_err {g : Gh} {W : World} (v : Int) (t N : Nat) : RV g W (.tuple [.int .i64 v,.iface t (.sptr [])]) (.tuple #[.int .i64 v,.iface t (.pointer (some ⟨N,0,none⟩))]):=by
  refine ⟨?_,rfl⟩
  simp only [Value.cells,R,RT]
  refine ⟨_,rfl,_,_,rfl,⟨by simp [Value.cells,R],rfl⟩,_,_,rfl,⟨?_,rfl⟩,rfl⟩
  simp only [Value.cells,R]
  refine ⟨_,rfl,?_,rfl⟩
  simp only [Value.cells,R]
  exact ⟨N,0,[],rfl,fun j v h=>by simp at h,by simp,by simp [RL]⟩
theorem post_atoi {g : Gh} {W W' : World} {S : List Bx} (hS : SInv g W S) (hc : ∀ b,(g.O b).calm) (hB : Below W.heap.size W W') {t : Nat} {s : ByteArray} {e : Ending} (h : atoiEnd t s e) : Post g W (.ret (atoiA t s) none) S e W':=by
  unfold atoiEnd at h
  unfold atoiA
  split at h
  · subst h; exact post_below hS hc hB (RV_num_ok _)
  · obtain ⟨N,rfl⟩:=h; exact post_below hS hc hB (RV_num_err _ _ _)
  · obtain ⟨N,rfl⟩:=h; exact post_below hS hc hB (RV_num_err _ _ _)
theorem ext_atoi {P : Program} {W0 : World} {f : FuncId} {t : Nat} (hc : Callable P f)
    (hI : ∀ (s : ByteArray) (w : World),s.size≤281474976710656→(∀ b,b < W0.heap.size→w.heap[b]? = W0.heap[b]?)→Calls P f #[.string s] w fun e w'=>atoiEnd t s e∧Below w.heap.size w w') :
    SoundFun P W0 f (xAtoi t):=by
  intro args S e S' h
  refine ⟨hc,fun g W vs hB hT hS hcalm=>?_⟩
  unfold xAtoi at h
  split at h
  · rename_i s
    split at h
    · rename_i hb
      simp only [Option.some.injEq,Prod.mk.injEq] at h
      obtain ⟨rfl,rfl⟩:=h
      obtain ⟨l⟩:=vs
      simp only [RT] at hT
      obtain ⟨v1,r1,hl,hv1,rfl⟩:=hT
      subst hl
      obtain rfl:=RV_str.1 hv1
      refine (hI s W hb fun b hbb=>(hB.ext b hbb).2).mono fun e w' hh=>?_
      exact post_atoi hS hcalm hh.2 hh.1
    · cases h
  · cases h
theorem ext_parseInt {P : Program} {W0 : World} {f : FuncId} {t : Nat} (hc : Callable P f)
    (hI : ∀ (s : ByteArray) (w : World),s.size≤281474976710656→(∀ b,b < W0.heap.size→w.heap[b]? = W0.heap[b]?)→Calls P f #[.string s,.int .i64 10,.int .i64 64] w fun e w'=>atoiEnd t s e∧Below w.heap.size w w') :
    SoundFun P W0 f (xParseInt t):=by
  intro args S e S' h
  refine ⟨hc,fun g W vs hB hT hS hcalm=>?_⟩
  unfold xParseInt at h
  split at h
  · rename_i s b c
    split at h
    · rename_i hb
      obtain ⟨hb,rfl,rfl⟩:=hb
      simp only [Option.some.injEq,Prod.mk.injEq] at h
      obtain ⟨rfl,rfl⟩:=h
      obtain ⟨l⟩:=vs
      simp only [RT] at hT
      obtain ⟨v1,r1,hl,hv1,v2,r2,rfl,hv2,v3,r3,rfl,hv3,rfl⟩:=hT
      subst hl
      obtain rfl:=RV_str.1 hv1
      obtain rfl:=RV_int.1 hv2
      obtain rfl:=RV_int.1 hv3
      refine (hI s W hb fun b hbb=>(hB.ext b hbb).2).mono fun e w' hh=>?_
      exact post_atoi hS hcalm hh.2 hh.1
    · cases h
  · cases h
end Go.Av
set_option linter.unusedVariables false
set_option linter.unusedSimpArgs false
namespace Go.Av
open Go Go.RowKit
def lowR (c : UInt8) : UInt8:=if 65≤c.toNat∧c.toNat≤90 then UInt8.ofNat (c.toNat + 32) else c
def xMapS (g : Nat) (args : List AV) (S : List Bx) : Option (AEnd×List Bx) :=
  match args with
  | [.clos (.func f) [] [],.str s]=>if f = g∧s.size≤1000000∧s.data.toList.all (fun b=>decide (b.toNat < 128)) = true then some (.ret (.str ⟨(s.data.toList.map lowR).toArray⟩) none,S) else none
  | _=>none
theorem ext_map {P : Program} {W0 : World} {f g : Nat} (hc : Callable P f)
    (hI : ∀ (s : ByteArray) (w : World),s.size≤1000000→(∀ b ∈ s.data.toList,b.toNat < 128)→Below W0.heap.size W0 w →
      Calls P f #[.func (.func g) #[] #[],.string s] w fun e w'=>e = .returned (.string ⟨(s.data.toList.map lowR).toArray⟩)∧Below w.heap.size w w') :
    SoundFun P W0 f (xMapS g):=by
  intro args S e S' h
  refine ⟨hc,fun gh W vs hB hT hS hcalm=>?_⟩
  unfold xMapS at h
  split at h
  · rename_i f' s
    split at h
    · rename_i hb
      obtain ⟨rfl,h1,h2⟩:=hb
      simp only [Option.some.injEq,Prod.mk.injEq] at h
      obtain ⟨rfl,rfl⟩:=h
      obtain ⟨l⟩:=vs
      simp only [RT] at hT
      obtain ⟨v1,r1,hl,⟨hv1,ha1⟩,v2,r2,rfl,hv2,rfl⟩:=hT
      subst hl
      obtain rfl:=RV_str.1 hv2
      simp only [R,RT] at hv1
      obtain ⟨a,c,e1,e2,e3⟩:=hv1
      have : v1 = .func (.func f') #[] #[]:=by
        have ea : a = #[]:=Array.toList_eq_nil_iff.1 e2
        have ec : c = #[]:=Array.toList_eq_nil_iff.1 e3
        subst ea ec
        cases v1 <;> simp_all [Value.cells,AV.isAgg,vAgg]
      subst this
      refine (hI s W h1 (fun b hb=>?_) ⟨hB.os,hB.tape,hB.output,hB.size,fun k hk=>(hB.ext k hk).2⟩).mono fun e w' hh=>?_
      · have := List.all_eq_true.1 h2 b hb
        simpa using this
      · obtain ⟨rfl, hbel⟩ := hh
        exact post_str hS hcalm hbel _
    · cases h
  · cases h
def lowI (x : Int) : Int:=let n:=(x % 256).toNat; if 65≤n∧n≤90 then (n : Int) + 32 else (n : Int)
theorem mapD_low : ∀ (l : List UInt8),(∀ b ∈ l,b.toNat < 128)→Lib.mapD lowI l = l.map lowR
  | [],_=>rfl
  | c :: l, h => by
    have hc:=h c (.head _)
    have hd:=Lib.decodeL_ascii c l hc
    rw [Lib.mapD_step lowI _ (by simp),hd]
    simp only [List.drop_one,List.tail_cons,List.map_cons]
    rw [mapD_low l fun b hb=>h b (.tail _ hb)]
    have e : ((c.toNat : Int) % 256).toNat = c.toNat:=by omega
    have e1 : lowI (c.toNat : Int) = ((lowR c).toNat : Int):=by
      unfold lowI lowR
      simp only [e]
      split
      · have : (UInt8.ofNat (c.toNat + 32)).toNat = c.toNat + 32 := by simp [UInt8.toNat_ofNat']; omega
        rw [this]; omega
      · rfl
    have e2 : (lowR c).toNat < 128:=by
      unfold lowR
      split
      · have : (UInt8.ofNat (c.toNat + 32)).toNat = c.toNat + 32 := by simp [UInt8.toNat_ofNat']; omega
        omega
      · exact hc
    rw [e1,if_pos (by omega)]
    unfold Lib.encodeRune
    rw [Lib.encodeRuneZ_one (by omega) (by omega)]
    simp
theorem lowI_range (x : Nat) : -2147483648≤lowI x∧lowI x≤2147483647:=by
  unfold lowI
  simp only
  split <;> omega
end Go.Av
set_option linter.unusedVariables false
set_option linter.unusedSimpArgs false
namespace Go.Av
open Go Go.RowKit
def splitV (s sep : ByteArray) : List ByteArray:=Lib.splitB sep 0 (Lib.countB s sep) s
def xSplit (args : List AV) (S : List Bx) : Option (AEnd×List Bx) :=
  match args with
  | [.str s,.str sep]=>if s.size < 4294967281∧1≤sep.size then some (.ret (.slice 1 ((splitV s sep).map AV.str)) none,S) else none
  | _=>none
theorem RE_strB {g : Gh} {W : World} : ∀ (l : List ByteArray),RE g W 1 (l.map AV.str) (l.map Value.string)
  | []=>by simp [RE]
  | x :: l => by
    simp only [List.map_cons,RE]
    exact ⟨[.string x],_,rfl,rfl,⟨rfl,by simp [R]⟩,RE_strB l⟩
theorem ext_split {P : Program} {W0 : World} {f : FuncId} {ty : TypeId} (hc : Callable P f)
    (hI : ∀ (s sep : ByteArray) (w : World),s.size < 4294967281→1≤sep.size→(∀ b,b < W0.heap.size→w.heap[b]? = W0.heap[b]?) →
      Calls P f #[.string s,.string sep] w fun e w'=>e = .returned (.slice (some ⟨w.heap.size,0,none⟩) (Lib.countB s sep + 1) (Lib.countB s sep + 1))∧w' = w.alloc (.cells ((Lib.splitB sep 0 (Lib.countB s sep) s).map Value.string).toArray ty)) :
    SoundFun P W0 f xSplit:=by
  intro args S e S' h
  refine ⟨hc,fun g W vs hB hT hS hcalm=>?_⟩
  unfold xSplit at h
  split at h
  · rename_i s sep
    split at h
    · rename_i hb
      simp only [Option.some.injEq,Prod.mk.injEq] at h
      obtain ⟨rfl,rfl⟩:=h
      obtain ⟨l⟩:=vs
      simp only [RT] at hT
      obtain ⟨v1,r1,hl,hv1,v2,r2,hl2,hv2,rfl⟩:=hT
      subst hl2 hl
      obtain rfl:=RV_str.1 hv1
      obtain rfl:=RV_str.1 hv2
      refine (hI s sep W hb.1 hb.2 fun b hbb=>(hB.ext b hbb).2).mono fun e w' hh=>?_
      obtain ⟨rfl,rfl⟩:=hh
      have hlen : (splitV s sep).length = Lib.countB s sep + 1:=Lib.splitB_all sep hb.2 0 _ s rfl
      have hbel : Below W.heap.size W (W.alloc (.cells ((Lib.splitB sep 0 (Lib.countB s sep) s).map Value.string).toArray ty)) :=
        ⟨rfl,rfl,rfl,by simp,fun b hb=>by simp only [World.alloc,Array.getElem?_push]; rw [if_neg (by omega)]⟩
      have:=post_row (sz:=1) (es:=(splitV s sep).map AV.str) (cap:=Lib.countB s sep + 1) (cur:=((splitV s sep).map Value.string).toArray) (ty:=ty) hS hcalm hbel (Nat.le_refl _) (by simp only [World.alloc,Array.getElem?_push,if_true]; rfl) (by simp [hlen]) (ms:=(splitV s sep).map Value.string) (fun j v hj=>by simpa using hj) (fun _ _=>RE_strB _)
      simpa [hlen] using this
    · cases h
  · cases h
end Go.Av
set_option linter.unusedVariables false
set_option linter.unusedSimpArgs false
set_option linter.unusedSectionVars false
namespace Go.Av
open Go Go.RowKit
section
variable {P : Program} {W0 : World}
end
abbrev Ext':=List AV→List Bx→Option (AEnd×List Bx)
def lookA : List (Nat×AFun)→Nat→Option AFun
  | [],_=>none
  | (k,d) :: r,f=>if k = f then some d else lookA r f
def lookX : List (Nat×Ext')→Nat→Option Ext'
  | [],_=>none
  | (k,d) :: r,f=>if k = f then some d else lookX r f
theorem lookA_mem {l : List (Nat×AFun)} {f : Nat} {d : AFun} (h : lookA l f = some d) : (f,d) ∈ l:=by
  induction l with
  | nil=>simp [lookA] at h
  | cons p r ih =>
    obtain ⟨k,e⟩:=p
    simp only [lookA] at h
    split at h
    · rename_i hk; subst hk; obtain rfl:=Option.some.inj h; exact .head _
    · exact .tail _ (ih h)
theorem lookX_mem {l : List (Nat×Ext')} {f : Nat} {d : Ext'} (h : lookX l f = some d) : (f,d) ∈ l:=by
  induction l with
  | nil=>simp [lookX] at h
  | cons p r ih =>
    obtain ⟨k,e⟩:=p
    simp only [lookX] at h
    split at h
    · rename_i hk; subst hk; obtain rfl:=Option.some.inj h; exact .head _
    · exact .tail _ (ih h)
def tabOf (A : List (Nat×AFun)) (X : List (Nat×Ext')) (f : Nat) : Option Def :=
  match lookX X f with
  | some h=>some (.ext h)
  | none=>(lookA A f).map .air
theorem tabOf_sound {P : Program} {W0 : World} (hP : P.follows .mixedOrders = true) {A : List (Nat×AFun)} {X : List (Nat×Ext')} (hA : A.all (fun p=>mFun P p.1 p.2) = true) (hX : ∀ p ∈ X,SoundFun P W0 p.1 p.2) (n : Nat) : RecSound P W0 (crun (tabOf A X) n):=by
  refine crun_sound hP (fun f fn h=>?_) (fun f h' h=>?_) (fun f fn h=>?_) n
  · unfold tabOf at h
    split at h
    · cases h
    · simp only [Option.map_eq_some_iff, Def.air.injEq] at h
      obtain ⟨d,h1,rfl⟩:=h
      exact List.all_eq_true.1 hA _ (lookA_mem h1)
  · unfold tabOf at h
    split at h
    · rename_i h2 hx
      simp only [Option.some.injEq,Def.ext.injEq] at h
      subst h
      exact hX _ (lookX_mem hx)
    · simp only [Option.map_eq_some_iff] at h
      obtain ⟨_,_,h⟩:=h
      cases h
  · unfold tabOf at h
    split at h
    · cases h
    · simp only [Option.map_eq_some_iff] at h
      obtain ⟨_,_,h⟩:=h
      cases h
def lookD : List (Nat×DFun)→Nat→Option DFun
  | [],_=>none
  | (k,d) :: r,f=>if k = f then some d else lookD r f
theorem lookD_mem {l : List (Nat×DFun)} {f : Nat} {d : DFun} (h : lookD l f = some d) : (f,d) ∈ l:=by
  induction l with
  | nil=>simp [lookD] at h
  | cons p r ih =>
    obtain ⟨k,e⟩:=p
    simp only [lookD] at h
    split at h
    · rename_i hk; subst hk; obtain rfl:=Option.some.inj h; exact .head _
    · exact .tail _ (ih h)
def tabOfD (A : List (Nat×AFun)) (X : List (Nat×Ext')) (D : List (Nat×DFun)) (f : Nat) : Option Def :=
  match lookX X f with
  | some h=>some (.ext h)
  | none => match lookA A f with
    | some d=>some (.air d)
    | none=>(lookD D f).map .dfr
theorem tabOfD_sound {P : Program} {W0 : World} (hP : P.follows .mixedOrders = true) {A : List (Nat×AFun)} {X : List (Nat×Ext')} {D : List (Nat×DFun)} (hA : A.all (fun p=>mFun P p.1 p.2) = true) (hX : ∀ p ∈ X,SoundFun P W0 p.1 p.2)
    (hD : D.all (fun p=>mFunD P p.1 p.2) = true) (n : Nat) : RecSound P W0 (crun (tabOfD A X D) n):=by
  refine crun_sound hP (fun f fn h=>?_) (fun f h' h=>?_) (fun f fn h=>?_) n
  · unfold tabOfD at h
    split at h
    · cases h
    · split at h
      · rename_i d hd
        simp only [Option.some.injEq,Def.air.injEq] at h
        subst h
        exact List.all_eq_true.1 hA _ (lookA_mem hd)
      · simp only [Option.map_eq_some_iff] at h
        obtain ⟨_,_,h⟩:=h
        cases h
  · unfold tabOfD at h
    split at h
    · rename_i h2 hx
      simp only [Option.some.injEq,Def.ext.injEq] at h
      subst h
      exact hX _ (lookX_mem hx)
    · split at h
      · cases h
      · simp only [Option.map_eq_some_iff] at h
        obtain ⟨_,_,h⟩:=h
        cases h
  · unfold tabOfD at h
    split at h
    · cases h
    · split at h
      · cases h
      · simp only [Option.map_eq_some_iff, Def.dfr.injEq] at h
        obtain ⟨d,h1,rfl⟩:=h
        exact List.all_eq_true.1 hD _ (lookD_mem h1)
end Go.Av
set_option linter.unusedVariables false
set_option linter.unusedSimpArgs false
namespace Go.Av
open Go
inductive KF where
  | seq (c : ACode)
  | blk (id : Nat)
  | ops (os : List AOper) (q : Bool) (live locs : List Nat)
  | skp (q : Bool) (live locs : List Nat)
  | fin (res : List ARes) (kb : Nat) (S : List Bx)
noncomputable def qrec (rec : Rec) (q : Bool) : Rec:=if q then rec.quiet else rec
noncomputable def kret (rec : Rec) : List KF→AEx→St→Option (AEx×St)
  | [],x,s=>some (x,s)
  | .seq c :: ks, x, s => match x with
    | .normal=>(match acode rec c s with | some (y,t)=>kret rec ks y t | none=>none)
    | x=>kret rec ks x s
  | .blk id :: ks, x, s => match x with
    | .exit id'=>if id' = id then kret rec ks .normal s else kret rec ks (.exit id') s
    | x=>kret rec ks x s
  | .ops os q live locs :: ks, x, s => match x with
    | .normal => (match aops (qrec rec q) os s with
      | some (.normal,t)=>kret rec ks .normal (t.keep live locs)
      | some (y,t)=>kret rec ks y t
      | none=>none)
    | x=>kret rec ks x s
  | .skp q live locs :: ks,x,s=>kret rec ks x s
  | .fin res kb S :: ks,x,s=>kret rec ks x s
noncomputable def kbind (rec : Rec) (o : Option (AEx×St)) (ks : List KF) : Option (AEx×St):=match o with
  | some (x,s)=>kret rec ks x s
  | none=>none
noncomputable def kgo (rec : Rec) (c : ACode) (st : St) (ks : List KF) : Option (AEx×St):=kbind rec (acode rec c st) ks
noncomputable def kops (rec : Rec) (q : Bool) (os : List AOper) (st : St) (live locs : List Nat) (ks : List KF) : Option (AEx×St):=kret rec (.ops os q live locs :: ks) .normal st
noncomputable def kop (rec : Rec) (q : Bool) (o : AOp) (st : St) (ks : List KF) : Option (AEx×St):=kbind rec (aop (qrec rec q) st o) ks
noncomputable def kopN (rec : Rec) (q : Bool) (blk : Option Nat) (o : AOp) (st : St) (ks : List KF) : Option (AEx×St):=kbind rec (aopM (qrec rec q) st blk o) ks
noncomputable def kpure (rec : Rec) (s : Option SV) (d : Nat) (st : St) (ks : List KF) : Option (AEx×St):=match s with
  | some s=>kret rec ks .normal (st.put d s)
  | none=>none
theorem acode_k (rec : Rec) (c : ACode) (st : St) : acode rec c st = kgo rec c st []:=by
  unfold kgo kbind
  cases acode rec c st with
  | none=>rfl
  | some p=>rfl
def Slots.bset : Slots→Nat→Bool→Slots
  | [],_,_=>[]
  | (j,x) :: r,k,t=>if j = k then (j,.v (.bool t)) :: r else (j,x) :: Slots.bset r k t
section
variable (rec : Rec) (ks : List KF) (st : St)
noncomputable def kgd (q : Bool) (o : AOp) (want b : Bool) (blk : Option Nat) (os : List AOper) (l lo : List Nat) : Option (AEx×St) :=
  if b = want then (if blkOk st { op:=o,gd:=none,blk:=blk } = true then kopN rec q blk o st (.ops os q l lo :: ks) else none)
  else (match o.dst with | some d=>kret rec (.ops os q l lo :: ks) .normal (st.put d .undef) | none=>kret rec (.ops os q l lo :: ks) .normal st)
theorem kret_nil (x : AEx) : kret rec [] x st = some (x,st):=rfl
theorem kret_seq (c : ACode) : kret rec (.seq c :: ks) .normal st = kgo rec c st ks:=rfl
theorem kret_seq_ret (c : ACode) : kret rec (.seq c :: ks) .ret st = kret rec ks .ret st:=rfl
theorem kret_seq_exit (c : ACode) (i : Nat) : kret rec (.seq c :: ks) (.exit i) st = kret rec ks (.exit i) st:=rfl
theorem kret_seq_panic (c : ACode) (v : AV) : kret rec (.seq c :: ks) (.panic v) st = kret rec ks (.panic v) st:=rfl
theorem kret_blk (i : Nat) : kret rec (.blk i :: ks) .normal st = kret rec ks .normal st:=rfl
theorem kret_blk_ret (i : Nat) : kret rec (.blk i :: ks) .ret st = kret rec ks .ret st:=rfl
theorem kret_blk_panic (i : Nat) (v : AV) : kret rec (.blk i :: ks) (.panic v) st = kret rec ks (.panic v) st:=rfl
theorem kret_blk_exit (i j : Nat) : kret rec (.blk i :: ks) (.exit j) st = if j = i then kret rec ks .normal st else kret rec ks (.exit j) st:=rfl
theorem kret_ops (os : List AOper) (q : Bool) (l lo : List Nat) : kret rec (.ops os q l lo :: ks) .normal st = kops rec q os st l lo ks:=rfl
theorem kret_ops_panic (os : List AOper) (q : Bool) (l lo : List Nat) (v : AV) : kret rec (.ops os q l lo :: ks) (.panic v) st = kret rec ks (.panic v) st:=rfl
theorem kgo_skip (l lo : List Nat) : kgo rec (.skip l lo) st ks = kret rec ks .normal (st.keep l lo):=rfl
theorem kgo_exit (i : Nat) (l lo : List Nat) : kgo rec (.exit i l lo) st ks = kret rec ks (.exit i) (st.keep l lo):=rfl
theorem kgo_ret : kgo rec .ret st ks = kret rec ks .ret st:=rfl
theorem kgo_label : kgo rec .label st ks = kret rec ks .normal st:=rfl
theorem kgo_scope (c : ACode) : kgo rec (.scope c) st ks = kgo rec c st ks:=rfl
theorem kgo_seq (a b : ACode) : kgo rec (.seq a b) st ks = kgo rec a st (.seq b :: ks):=by
  unfold kgo
  simp only [acode]
  cases h : acode rec a st with
  | none=>rfl
  | some p =>
    obtain ⟨x,s⟩:=p
    cases x with
    | normal=>rfl
    | _=>rfl
theorem kgo_cond (c : Opd) (a b : ACode) : kgo rec (.cond c a b) st ks = match st.av c with
    | some (.bool t)=>if t = true then kgo rec a st ks else kgo rec b st ks
    | _=>none:=by
  unfold kgo
  simp only [acode]
  cases h : st.av c with
  | none=>rfl
  | some a =>
    cases a with
    | bool t=>cases t <;> rfl
    | _=>rfl
theorem kgo_block (i : Nat) (c : ACode) : kgo rec (.block i c) st ks = kgo rec c st (.blk i :: ks):=by
  unfold kgo
  simp only [acode]
  cases h : acode rec c st with
  | none=>rfl
  | some p =>
    obtain ⟨x,s⟩:=p
    cases x with
    | exit j =>
      simp only [kbind,kret]
      by_cases hj : j = i
      · simp only [hj,if_true,normal]
      · simp only [hj,if_false]
    | _=>rfl
theorem kgo_loop (c : ACode) : kgo rec (.loop c) st ks = kbind rec (aloopW (acode rec c) st) ks:=rfl
theorem kgo_freeze (d : Nat) (c : ACode) : kgo rec (.freeze d c) st ks = match st.freeze d with
    | some st'=>kgo rec c st' ks
    | none=>none:=by
  unfold kgo
  simp only [acode]
  cases st.freeze d <;> rfl
theorem kgo_region (os : List AOper) (bs : Option (List Nat)) (q : Bool) (l lo : List Nat) : kgo rec (.region os bs q l lo) st ks = kops rec q (porder bs os) (if bs.isSome = true then st.prep os else st) l lo ks:=by
  unfold kgo kops
  simp only [acode,kret,qrec,kbind]
  cases h : aops (if q = true then rec.quiet else rec) (porder bs os) (if bs.isSome = true then st.prep os else st) with
  | none=>simp
  | some p =>
    obtain ⟨x,s⟩:=p
    cases x <;> rfl
theorem kops_nil (q : Bool) (l lo : List Nat) : kops rec q [] st l lo ks = kret rec ks .normal (st.keep l lo):=rfl
theorem kops_cons_aux (q : Bool) (o : AOper) (os : List AOper) (l lo : List Nat) : kops rec q (o :: os) st l lo ks = kbind rec (aoper (qrec rec q) st o) (.ops os q l lo :: ks):=by
  simp only [kops,kret,aops]
  cases h : aoper (qrec rec q) st o with
  | none=>rfl
  | some p =>
    obtain ⟨x,s⟩:=p
    cases x <;> rfl
theorem kbind_none : kbind rec none ks = none:=rfl
theorem kbind_some (x : AEx) : kbind rec (some (x,st)) ks = kret rec ks x st:=rfl
theorem kbind_normal : kbind rec (normal st) ks = kret rec ks .normal st:=rfl
theorem kbind_ite (c : Prop) [Decidable c] (a b : Option (AEx×St)) : kbind rec (if c then a else b) ks = if c then kbind rec a ks else kbind rec b ks:=by split <;> rfl
theorem kops_cons (q : Bool) (o : AOp) (blk : Option Nat) (os : List AOper) (l lo : List Nat) : kops rec q ({ op:=o,gd:=none,blk:=blk } :: os) st l lo ks =
    if blkOk st { op:=o,gd:=none,blk:=blk } = true then kopN rec q blk o st (.ops os q l lo :: ks) else none:=by
  rw [kops_cons_aux]
  simp only [aoper,aopB,kopN]
  rw [kbind_ite]
  rfl
theorem kops_gd_aux (q : Bool) (o : AOp) (k : Nat) (want : Bool) (blk : Option Nat) (os : List AOper) (l lo : List Nat) : kops rec q ({ op:=o,gd:=some (k,want),blk:=blk } :: os) st l lo ks =
    match st.σ.get k with
    | .v (.bool b)=>if b = want then (if blkOk st { op:=o,gd:=some (k,want),blk:=blk } = true then kopN rec q blk o st (.ops os q l lo :: ks) else none)
        else (match o.dst with | some d=>kret rec (.ops os q l lo :: ks) .normal (st.put d .undef) | none=>kret rec (.ops os q l lo :: ks) .normal st)
    | .undef=>(match o.dst with | some d=>kret rec (.ops os q l lo :: ks) .normal (st.put d .undef) | none=>kret rec (.ops os q l lo :: ks) .normal st)
    | _=>none:=by
  rw [kops_cons_aux]
  simp only [aoper]
  cases h : st.σ.get k with
  | v a =>
    cases a with
    | bool b =>
      simp only []
      rw [kbind_ite]
      by_cases hb : b = want
      · simp only [hb, if_true, aopB, kopN]
        rw [kbind_ite]
        rfl
      · simp only [hb, if_false]
        cases o.dst <;> rfl
    | _=>rfl
  | undef =>
    simp only []
    cases o.dst <;> rfl
  | _=>rfl
noncomputable def kskip (q : Bool) (d : Option Nat) (os : List AOper) (l lo : List Nat) : Option (AEx×St):=match d with
  | some d=>kret rec (.ops os q l lo :: ks) .normal (st.put d .undef)
  | none=>kret rec (.ops os q l lo :: ks) .normal st
theorem kskip_some (q : Bool) (d : Nat) (os : List AOper) (l lo : List Nat) : kskip rec ks st q (some d) os l lo = kret rec (.ops os q l lo :: ks) .normal (st.put d .undef):=rfl
theorem kskip_none (q : Bool) (os : List AOper) (l lo : List Nat) : kskip rec ks st q none os l lo = kret rec (.ops os q l lo :: ks) .normal st:=rfl
theorem Slots.bset_same {t : Bool} : ∀ {s : Slots} {k : Nat},s.get k = .v (.bool t)→s.bset k t = s
  | [],k,h=>rfl
  | (j, x) :: r, k, h => by
    simp only [Slots.get] at h
    simp only [Slots.bset]
    split
    · rename_i e
      rw [if_pos e] at h
      rw [h]
    · rename_i e
      rw [if_neg e] at h
      rw [Slots.bset_same h]
theorem kops_gd (q : Bool) (o : AOp) (k : Nat) (want : Bool) (blk : Option Nat) (os : List AOper) (l lo : List Nat) : kops rec q ({ op:=o,gd:=some (k,want),blk:=blk } :: os) st l lo ks =
    match st.σ.get k with
    | .v (.bool b)=>if b = true then kgd rec ks { st with σ:=st.σ.bset k true } q o want true blk os l lo else kgd rec ks { st with σ:=st.σ.bset k false } q o want false blk os l lo
    | .undef=>kskip rec ks st q o.dst os l lo
    | _=>none:=by
  rw [kops_gd_aux]
  cases h : st.σ.get k with
  | v a =>
    cases a with
    | bool b =>
      simp only []
      cases b with
      | false =>
        rw [Slots.bset_same h]
        simp only [kgd]
        cases want <;> rfl
      | true =>
        rw [Slots.bset_same h]
        simp only [kgd]
        cases want <;> rfl
    | _=>rfl
  | _=>rfl
theorem kpure_some (s : SV) (d : Nat) : kpure rec (some s) d st ks = kret rec ks .normal (st.put d s):=rfl
theorem kpure_none (d : Nat) : kpure rec none d st ks = none:=rfl
theorem kpure_ite (c : Prop) [Decidable c] (a b : Option SV) (d : Nat) : kpure rec (if c then a else b) d st ks = if c then kpure rec a d st ks else kpure rec b d st ks:=by split <;> rfl
theorem kop_pure {q : Bool} {o : AOp} {d : Nat} (hd : o.dst = some d) (h : aop (qrec rec q) st o = match apure st o,o.dst with
    | some s,some d=>normal (st.put d s)
    | _,_=>none) : kop rec q o st ks = kpure rec (apure st o) d st ks:=by
  unfold kop
  rw [h,hd]
  cases apure st o <;> rfl
theorem kop_pick (q : Bool) {d c a b} : kop rec q (.pick d c a b) st ks = kpure rec (apure st (.pick d c a b)) d st ks:=kop_pure rec ks st rfl rfl
theorem kop_load (q : Bool) {d n ag x} : kop rec q (.load d n ag x) st ks = kpure rec (apure st (.load d n ag x)) d st ks:=kop_pure rec ks st rfl rfl
theorem kop_bin (q : Bool) {d op x y} : kop rec q (.bin d op x y) st ks = kpure rec (apure st (.bin d op x y)) d st ks:=kop_pure rec ks st rfl rfl
theorem kop_eqb (q : Bool) {d neg x y} : kop rec q (.eqb d neg x y) st ks = kpure rec (apure st (.eqb d neg x y)) d st ks:=kop_pure rec ks st rfl rfl
theorem kop_un (q : Bool) {d op x} : kop rec q (.un d op x) st ks = kpure rec (apure st (.un d op x)) d st ks:=kop_pure rec ks st rfl rfl
theorem kop_convI (q : Bool) {d k x} : kop rec q (.convI d k x) st ks = kpure rec (apure st (.convI d k x)) d st ks:=kop_pure rec ks st rfl rfl
theorem kop_convB (q : Bool) {d x} : kop rec q (.convB d x) st ks = kpure rec (apure st (.convB d x)) d st ks:=kop_pure rec ks st rfl rfl
theorem kop_convS (q : Bool) {d x} : kop rec q (.convS d x) st ks = kpure rec (apure st (.convS d x)) d st ks:=kop_pure rec ks st rfl rfl
theorem kop_mkfn (q : Bool) {d fn first caps} : kop rec q (.mkfn d fn first caps) st ks = kpure rec (apure st (.mkfn d fn first caps)) d st ks:=kop_pure rec ks st rfl rfl
theorem kop_extract (q : Bool) {d x j} : kop rec q (.extract d x j) st ks = kpure rec (apure st (.extract d x j)) d st ks:=kop_pure rec ks st rfl rfl
theorem kop_field (q : Bool) {d off n ag x} : kop rec q (.field d off n ag x) st ks = kpure rec (apure st (.field d off n ag x)) d st ks:=kop_pure rec ks st rfl rfl
theorem kop_faddr (q : Bool) {d off x} : kop rec q (.faddr d off x) st ks = kpure rec (apure st (.faddr d off x)) d st ks:=kop_pure rec ks st rfl rfl
theorem kop_iaddrA (q : Bool) {d len sz x i} : kop rec q (.iaddrA d len sz x i) st ks = kpure rec (apure st (.iaddrA d len sz x i)) d st ks:=kop_pure rec ks st rfl rfl
theorem kop_iaddrS (q : Bool) {d sz x i} : kop rec q (.iaddrS d sz x i) st ks = kpure rec (apure st (.iaddrS d sz x i)) d st ks:=kop_pure rec ks st rfl rfl
theorem kop_idxS (q : Bool) {d x i} : kop rec q (.idxS d x i) st ks = kpure rec (apure st (.idxS d x i)) d st ks:=kop_pure rec ks st rfl rfl
theorem kop_idxA (q : Bool) {d len sz ag x i} : kop rec q (.idxA d len sz ag x i) st ks = kpure rec (apure st (.idxA d len sz ag x i)) d st ks:=kop_pure rec ks st rfl rfl
theorem kop_slice (q : Bool) {d sz x lo hi} : kop rec q (.slice d sz x lo hi) st ks = kpure rec (apure st (.slice d sz x lo hi)) d st ks:=kop_pure rec ks st rfl rfl
theorem kop_sliceS (q : Bool) {d x lo hi} : kop rec q (.sliceS d x lo hi) st ks = kpure rec (apure st (.sliceS d x lo hi)) d st ks:=kop_pure rec ks st rfl rfl
theorem kop_sliceA (q : Bool) {d len sz ag x lo hi} : kop rec q (.sliceA d len sz ag x lo hi) st ks = kpure rec (apure st (.sliceA d len sz ag x lo hi)) d st ks:=kop_pure rec ks st rfl rfl
theorem kop_build (q : Bool) {d z parts} : kop rec q (.build d z parts) st ks = kpure rec (apure st (.build d z parts)) d st ks:=kop_pure rec ks st rfl rfl
theorem kop_nilchk (q : Bool) {d x} : kop rec q (.nilchk d x) st ks = kpure rec (apure st (.nilchk d x)) d st ks:=kop_pure rec ks st rfl rfl
theorem kop_mkif (q : Bool) {d t x} : kop rec q (.mkif d t x) st ks = kpure rec (apure st (.mkif d t x)) d st ks:=kop_pure rec ks st rfl rfl
theorem kop_tassert (q : Bool) {d t ok z x} : kop rec q (.tassert d t ok z x) st ks = kpure rec (apure st (.tassert d t ok z x)) d st ks:=kop_pure rec ks st rfl rfl
theorem kop_len (q : Bool) {d str x} : kop rec q (.len d str x) st ks = kpure rec (apure st (.len d str x)) d st ks:=kop_pure rec ks st rfl rfl
theorem kop_mm (q : Bool) {d mx x y} : kop rec q (.mm d mx x y) st ks = kpure rec (apure st (.mm d mx x y)) d st ks:=kop_pure rec ks st rfl rfl
theorem kop_eqnil (q : Bool) {d neg cls x} : kop rec q (.eqnil d neg cls x) st ks = kpure rec (apure st (.eqnil d neg cls x)) d st ks:=kop_pure rec ks st rfl rfl
theorem kop_eqagg (q : Bool) {d neg kk x y} : kop rec q (.eqagg d neg kk x y) st ks = kpure rec (apure st (.eqagg d neg kk x y)) d st ks:=kop_pure rec ks st rfl rfl
theorem kopN_none (q : Bool) (o : AOp) : kopN rec q none o st ks = kop rec q o st ks:=by
  unfold kopN kop aopM
  simp
theorem kops_cons0 (q : Bool) (o : AOp) (os : List AOper) (l lo : List Nat) : kops rec q ({ op:=o,gd:=none,blk:=none } :: os) st l lo ks = kop rec q o st (.ops os q l lo :: ks):=by
  rw [kops_cons,kopN_none]; rfl
theorem kopN_mem (q : Bool) (blk : Option Nat) (o : AOp) (h : o.isCall = false) : kopN rec q blk o st ks = kop rec q o st ks:=by
  unfold kopN kop aopM
  simp [h]
theorem kopN_load (q : Bool) (blk : Option Nat) (d n : Nat) (ag : Bool) (x : Opd) : kopN rec q blk (.load d n ag x) st ks = kop rec q (.load d n ag x) st ks:=kopN_mem rec ks st q blk _ rfl
theorem kopN_take (q : Bool) (blk : Option Nat) (d : Nat) (x : Opd) : kopN rec q blk (.take d x) st ks = kop rec q (.take d x) st ks:=kopN_mem rec ks st q blk _ rfl
theorem kopN_store (q : Bool) (blk : Option Nat) (x y : Opd) (n : Nat) (t : Bool) (nl : List (Nat×Nat)) : kopN rec q blk (.store x y n t nl) st ks = kop rec q (.store x y n t nl) st ks:=kopN_mem rec ks st q blk _ rfl
theorem kopN_call6 (q : Bool) (d : Option Nat) (f : Nat) (xs : List Opd) : kopN rec q (some 66666) (.call d f xs) st ks = kop rec q (.call d f xs) st ks:=by simp [kopN,kop,aopM]
theorem kopN_callv6 (q : Bool) (d : Option Nat) (c : Opd) (xs : List Opd) : kopN rec q (some 66666) (.callv d c xs) st ks = kop rec q (.callv d c xs) st ks:=by simp [kopN,kop,aopM]
noncomputable def kcallN (d : Option Nat) (o : Option (AEnd×List Bx)) : Option (AEx×St):=match o with
  | some (.ret r own,S')=>kbind rec (afinish d st (.ret r own) S') ks
  | _=>none
theorem kcallN_some (d : Option Nat) (r : AV) (own : Option Nat) (S' : List Bx) : kcallN rec ks st d (some (.ret r own,S')) = kbind rec (afinish d st (.ret r own) S') ks:=rfl
theorem afinish_ret (d : Option Nat) (r : AV) (own : Option Nat) (S' : List Bx) : ∃ s,afinish d st (.ret r own) S' = some (.normal,s):=by
  unfold afinish
  cases d with
  | none=>exact ⟨_,rfl⟩
  | some d=>cases own <;> exact ⟨_,rfl⟩
theorem nopan_call (d : Option Nat) (o : Option (AEnd×List Bx)) : kbind rec (nopan (callEnd d st o)) ks = kcallN rec ks st d o:=by
  cases o with
  | none=>rfl
  | some p =>
    obtain ⟨r,S'⟩:=p
    cases r with
    | ret r own =>
      obtain ⟨s,hs⟩:=afinish_ret st d r own S'
      simp only [callEnd,kcallN,hs,nopan]
    | panic v=>rfl
theorem kopN_call7 (q : Bool) (d : Option Nat) (f : Nat) (xs : List Opd) : kopN rec q (some 66667) (.call d f xs) st ks = match st.avs xs with
    | some as=>kcallN rec ks st d (qrec rec q f as st.S)
    | none=>none:=by
  have h1 : ¬ (some 66667 : Option Nat) = some 55555:=by simp
  simp only [kopN,aopM,AOp.isCall,if_true,if_neg h1,aop_call]
  cases st.avs xs with
  | none=>rfl
  | some as=>exact nopan_call rec ks st d (qrec rec q f as st.S)
theorem kopN_callv7 (q : Bool) (d : Option Nat) (c : Opd) (xs : List Opd) : kopN rec q (some 66667) (.callv d c xs) st ks = match st.av c,st.avs xs with
    | some (.clos (.func f) first caps),some as=>kcallN rec ks st d (qrec rec q f (first++as++caps) st.S)
    | _,_=>none:=by
  have h1 : ¬ (some 66667 : Option Nat) = some 55555:=by simp
  simp only [kopN,aopM,AOp.isCall,if_true,if_neg h1,aop_callv]
  split
  · rename_i f first caps as h1 h2
    simp only [h1,h2]
    exact nopan_call rec ks st d (qrec rec q f (first++as++caps) st.S)
  · rename_i hn
    split
    · rename_i f first caps as h1 h2
      exact absurd h2 (hn f first caps as h1)
    · rfl
noncomputable def kcallP (d : Option Nat) (o : Option (AEnd×List Bx)) : Option (AEx×St):=match o with
  | some (.ret r own,[])=>kbind rec (afinish d st (.ret r own) st.S) ks
  | _=>none
theorem kcallP_some (d : Option Nat) (r : AV) (own : Option Nat) : kcallP rec ks st d (some (.ret r own,[])) = kbind rec (afinish d st (.ret r own) st.S) ks:=rfl
theorem kcallN_ite (d : Option Nat) (c : Prop) [Decidable c] (a b : Option (AEnd×List Bx)) : kcallN rec ks st d (if c then a else b) = if c then kcallN rec ks st d a else kcallN rec ks st d b:=by split <;> rfl
theorem kcallP_ite (d : Option Nat) (c : Prop) [Decidable c] (a b : Option (AEnd×List Bx)) : kcallP rec ks st d (if c then a else b) = if c then kcallP rec ks st d a else kcallP rec ks st d b:=by split <;> rfl
theorem kopN_call5 (q : Bool) (d : Option Nat) (f : Nat) (xs : List Opd) : kopN rec q (some 55555) (.call d f xs) st ks = match st.avs xs with
    | some as=>if closedL 0 as = true then kcallP rec ks st d (qrec rec q f as []) else none
    | none=>none:=by
  simp only [kopN,aopM,AOp.isCall,if_true,apcall]
  cases st.avs xs with
  | none=>rfl
  | some as =>
    simp only
    split
    · cases qrec rec q f as [] with
      | none=>rfl
      | some p =>
        obtain ⟨r,S'⟩:=p
        cases r with
        | ret r own=>cases S' <;> rfl
        | panic v=>rfl
    · rfl
noncomputable def kcall (d : Option Nat) (o : Option (AEnd×List Bx)) : Option (AEx×St):=match o with
  | some (r,S')=>kbind rec (afinish d st r S') ks
  | none=>none
theorem kcall_some (d : Option Nat) (r : AEnd) (S' : List Bx) : kcall rec ks st d (some (r,S')) = kbind rec (afinish d st r S') ks:=rfl
theorem kcall_ite (d : Option Nat) (c : Prop) [Decidable c] (a b : Option (AEnd×List Bx)) : kcall rec ks st d (if c then a else b) = if c then kcall rec ks st d a else kcall rec ks st d b:=by split <;> rfl
theorem kop_call (q : Bool) (d : Option Nat) (f : Nat) (xs : List Opd) : kop rec q (.call d f xs) st ks = match st.avs xs with
    | some as=>kcall rec ks st d (qrec rec q f as st.S)
    | none=>none:=by
  unfold kop kcall
  simp only [aop]
  cases st.avs xs with
  | none=>rfl
  | some as =>
    simp only []
    cases qrec rec q f as st.S with
    | none=>rfl
    | some p=>rfl
theorem kop_callv (q : Bool) (d : Option Nat) (c : Opd) (xs : List Opd) : kop rec q (.callv d c xs) st ks = match st.av c,st.avs xs with
    | some (.clos (.func f) first caps),some as=>kcall rec ks st d (qrec rec q f (first++as++caps) st.S)
    | _,_=>none:=by
  unfold kop
  simp only [aop]
  split
  · rename_i f first caps as h1 h2
    simp only [h1,h2]
    unfold kcall
    cases qrec rec q f (first++as++caps) st.S with
    | none=>rfl
    | some p=>rfl
  · rename_i h
    split
    · rename_i f first caps as h1 h2
      exact absurd h2 (h f first caps as h1)
    · rfl
open Classical in
noncomputable def qfix (o : Option (AEnd×List Bx)) (S : List Bx) : Option (AEnd×List Bx):=match o with
  | some (.ret r own,S')=>if S' = S then some (.ret r own,S') else none
  | _=>none
theorem qrec_false (f : Nat) (as : List AV) (S : List Bx) : qrec rec false f as S = rec f as S:=rfl
theorem qfix_some (r : AV) (own : Option Nat) (S : List Bx) : qfix (some (.ret r own,S)) S = some (.ret r own,S):=by simp [qfix]
theorem qrec_true (f : Nat) (as : List AV) (S : List Bx) : qrec rec true f as S = qfix (rec f as S) S:=by
  rfl
theorem qfix_ite (c : Prop) [Decidable c] (a b : Option (AEnd×List Bx)) (S : List Bx) : qfix (if c then a else b) S = if c then qfix a S else qfix b S:=by split <;> rfl
theorem kop_mov (q : Bool) {d x t} : kop rec q (.mov d x t) st ks = kret rec ks .normal (if t = true then st.move d x else st.put d (st.sv x)):=rfl
theorem kop_nils (q : Bool) {d sz e} : kop rec q (.nils d sz e) st ks = kret rec ks .normal ((st.put d (.v (.slice sz []))).right d e):=rfl
theorem kop_box (q : Bool) {d sh x nl} : kop rec q (.box d sh x nl) st ks = kbind rec (aop (qrec rec q) st (.box d sh x nl)) ks:=rfl
theorem kop_alloc (q : Bool) {d sh z own} : kop rec q (.alloc d sh z own) st ks = kbind rec (aop (qrec rec q) st (.alloc d sh z own)) ks:=rfl
theorem kop_take (q : Bool) {d x} : kop rec q (.take d x) st ks = kbind rec (aop (qrec rec q) st (.take d x)) ks:=rfl
theorem kop_store (q : Bool) {x y n t nl} : kop rec q (.store x y n t nl) st ks = kbind rec (aop (qrec rec q) st (.store x y n t nl)) ks:=rfl
theorem kop_bslice (q : Bool) {d sz e xs} : kop rec q (.bslice d sz e xs) st ks = kbind rec (aop (qrec rec q) st (.bslice d sz e xs)) ks:=rfl
theorem kop_append (q : Bool) {d sz e b x y} : kop rec q (.append d sz e b x y) st ks = kbind rec (aop (qrec rec q) st (.append d sz e b x y)) ks:=rfl
theorem kop_make (q : Bool) {d sz e b z n c} : kop rec q (.make d sz e b z n c) st ks = kbind rec (aop (qrec rec q) st (.make d sz e b z n c)) ks:=rfl
theorem kop_makeL (q : Bool) {d sz b ag z n c} : kop rec q (.makeL d sz b ag z n c) st ks = kbind rec (aop (qrec rec q) st (.makeL d sz b ag z n c)) ks:=rfl
theorem kop_cloneL (q : Bool) {d sz e b ag x y} : kop rec q (.cloneL d sz e b ag x y) st ks = kbind rec (aop (qrec rec q) st (.cloneL d sz e b ag x y)) ks:=rfl
theorem kop_makeMap (q : Bool) {d} : kop rec q (.makeMap d) st ks = kbind rec (aop (qrec rec q) st (.makeMap d)) ks:=rfl
theorem kop_lookup (q : Bool) {d ok kd z x k} : kop rec q (.lookup d ok kd z x k) st ks = kbind rec (aop (qrec rec q) st (.lookup d ok kd z x k)) ks:=rfl
theorem kop_mapUpd (q : Bool) {kd x k v} : kop rec q (.mapUpd kd x k v) st ks = kbind rec (aop (qrec rec q) st (.mapUpd kd x k v)) ks:=rfl
theorem kop_panic (q : Bool) {x} : kop rec q (.panic x) st ks = kbind rec (aop (qrec rec q) st (.panic x)) ks:=rfl
end
noncomputable def kend (res : List ARes) (kb : Nat) (S : List Bx) (o : Option (AEx×St)) : Option (AEnd×List Bx):=match o with
  | some (.normal, st) | some (.ret, st) => match aresult st res with
    | some (r,own)=>aleave kb S st.S (.ret r own)
    | none=>none
  | some (.panic v,st)=>aleave kb S st.S (.panic v)
  | _=>none
theorem afun_k (rec : Rec) (fn : AFun) (args : List AV) (S : List Bx) : afun rec fn args S = if args.length = fn.n then kend fn.res fn.keepB S (kgo rec fn.body (aenter args S) []) else none:=by
  unfold afun kend
  rw [acode_k]
  split
  · cases kgo rec fn.body (aenter args S) [] with
    | none=>rfl
    | some p =>
      obtain ⟨x,s⟩:=p
      cases x <;> rfl
  · rfl
theorem kend_none (res : List ARes) (kb : Nat) (S : List Bx) : kend res kb S none = none:=rfl
theorem kend_ite (res : List ARes) (kb : Nat) (S : List Bx) (c : Prop) [Decidable c] (a b : Option (AEx×St)) : kend res kb S (if c then a else b) = if c then kend res kb S a else kend res kb S b:=by split <;> rfl
noncomputable def kres (kb : Nat) (S S' : List Bx) (o : Option (AV×Option Nat)) : Option (AEnd×List Bx):=match o with
  | some (r,own)=>aleave kb S S' (.ret r own)
  | none=>none
theorem kres_some (kb : Nat) (S S' : List Bx) (r : AV) (own : Option Nat) : kres kb S S' (some (r,own)) = aleave kb S S' (.ret r own):=rfl
theorem kend_normal (res : List ARes) (kb : Nat) (S : List Bx) (st : St) : kend res kb S (some (.normal,st)) = kres kb S st.S (aresult st res):=rfl
theorem kend_ret (res : List ARes) (kb : Nat) (S : List Bx) (st : St) : kend res kb S (some (.ret,st)) = kres kb S st.S (aresult st res):=rfl
theorem kend_panic (res : List ARes) (kb : Nat) (S : List Bx) (st : St) (v : AV) : kend res kb S (some (.panic v,st)) = aleave kb S st.S (.panic v):=rfl
theorem kleave_same (k : Nat) (S : List Bx) (e : AEnd) : aleave k S S e = some (e,S):=by simp [aleave]
theorem omap_ite {α β : Type} (f : α→β) (c : Prop) [Decidable c] (a b : Option α) : Option.map f (if c then a else b) = if c then Option.map f a else Option.map f b:=by split <;> rfl
theorem obind_ite {α β : Type} (f : α→Option β) (c : Prop) [Decidable c] (a b : Option α) : Option.bind (if c then a else b) f = if c then Option.bind a f else Option.bind b f:=by split <;> rfl
attribute [simp] porder_none porder_nil porder_zero porder_succ permO afun_k kend_none kend_ite kend_normal kend_ret kend_panic kres_some kleave_same omap_ite obind_ite kret_nil kret_seq kret_seq_ret kret_seq_exit kret_seq_panic kret_blk kret_blk_ret kret_blk_panic kret_blk_exit kret_ops kret_ops_panic kgo_skip kgo_exit kgo_ret kgo_label kgo_scope kgo_seq kgo_cond kgo_block kgo_loop kgo_freeze kgo_region kops_nil kbind_none kbind_some kbind_normal kbind_ite kops_cons0 kops_cons kopN_none kopN_load kopN_take kopN_store kopN_call6 kopN_callv6 kopN_call7 kopN_callv7 kopN_call5 kcallN_some kcallP_some kcallN_ite kcallP_ite kops_gd kgd kskip_some kskip_none Slots.bset kpure_some kpure_none kpure_ite kop_pick kop_load kop_bin kop_eqb kop_un kop_convI kop_convS kop_convB kop_mkfn kop_extract kop_field kop_faddr kop_iaddrA kop_iaddrS kop_idxS kop_idxA kop_slice kop_sliceS kop_sliceA kop_build kop_nilchk kop_mkif kop_tassert kop_len kop_mm kop_eqnil kop_eqagg kcall_some kcall_ite kop_call kop_callv qrec_false qrec_true qfix_some qfix_ite kop_mov kop_nils kop_box kop_alloc kop_take kop_store kop_bslice kop_append kop_make kop_makeL kop_cloneL kop_makeMap kop_lookup kop_mapUpd kop_panic
attribute [simp] St.cellBox isKeyA lookRes blkOk AOp.isLoad closedL AV.closed aop apure aenter St.av St.avs St.sv SV.av Slots.get Slots.set Slots.kill SV.kill St.put St.drop St.right St.move St.keep Slots.keep Locs.keep Locs.get Locs.set rightOf normal AV.isDat AV.cells St.cellsAt aload abin aun AOp.dst AOp.addr aresult ares aresAll afinish List.filter_cons St.freeze Slots.freeze SV.frozen Locs.del isNilAV boundOf astore putCells dropCells nilOk optOwn sortOwn insOwn nilsOf nilsGo isNilSl abuild chunk srcElems St.prep newsOf Slots.killAll AOp.news AV.isAgg eqCells eqCell
end Go.Av
set_option linter.unusedVariables false
namespace Go.Av
open Go
theorem laid_mem {P : Program} {W : World} {n : String} {d : DataW Unit} : ∀ {l : List (String×DataW Unit)} {ps : List MemPlace},DataW.LaidVars P W l ps→(n,d) ∈ l →
    ∃ g t cs fuel p,P.globalNamed n = some g∧(P.globals[g]?).map (·.type) = some t∧W.var? P n = some cs∧DataW.trod (fun _=>()) P W 0 (fun _=>true) false fuel t cs.toList = some (d,p)
  | [],_,_,hm=>by cases hm
  | (n', d') :: r, ps, h, hm => by
    obtain ⟨g,t,cs,fuel,p,q,h1,h2,h3,h4,h5,_⟩:=h
    rcases List.mem_cons.1 hm with e | hm
    · obtain ⟨rfl, rfl⟩ := Prod.mk.inj e
      exact ⟨g,t,cs,fuel,p,h1,h2,h3,h4⟩
    · exact laid_mem h5 hm
theorem laid_tabIs {P : Program} {W : World} {name : String} {k : IntKind} {zs : List Int} {laid : List (String×DataW Unit)} {g : Nat} {t e : TypeId} {n : Nat}
    (hg : P.globalNamed name = some g) (hty : (P.globals[g]?).map (·.type) = some t) (ht : P.underlying t = some (.array n e)) (he : P.underlying e = some (.int k)) (hce : P.cellsOf e = 1) (hct : P.cellsOf t = n)
    (h : laidMet P laid W) (hm : (name,Lib.tabData k zs) ∈ laid) : Lib.TabIs P W name k zs:=by
  obtain ⟨ps,hv,_⟩:=h
  obtain ⟨g',t',cs,fuel,p,hg',ht',hvar,hd⟩:=laid_mem hv hm
  obtain rfl:=Option.some.inj (hg.symm.trans hg')
  obtain rfl:=Option.some.inj (hty.symm.trans ht')
  unfold Lib.TabIs
  rw [hvar,← Lib.cells_of_tab ht he hce hct hd]
end Go.Av
