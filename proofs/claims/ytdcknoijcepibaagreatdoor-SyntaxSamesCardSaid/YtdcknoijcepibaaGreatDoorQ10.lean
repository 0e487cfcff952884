/- Part of a proof of syntax_sames. -/
import Derived.Test.YtdcknoijcepibaaGreatDoorQ9
import Derived.Test.YtdcknoijcepibaaGreatDoorQ8
import Derived.Lib.ReplaceLaws
import Derived.Lib.AtoiAllCases
set_option maxRecDepth 100000
set_option linter.unusedSimpArgs false
set_option linter.unusedVariables false
namespace Go.Av
open Go Go.Proofs
theorem c120 (c : UInt8) (S : List Bx) : run 120 [.int .u8 (c.toNat : Int)] S = some (.ret (.bool (inNm c)) none,S):=by
  refine eqn rfl ?_
  have h:=c.toNat_lt
  unfold inNm lowB digB
  generalize c.toNat = n at *
  by_cases h1 : 97≤n <;> by_cases h2 : n≤122 <;> by_cases h3 : 48≤n <;> by_cases h4 : n≤57 <;> by_cases h5 : n = 95 <;> first | (exfalso; omega; done) |
    (have h1' : (97≤(n : Int))↔(97≤n):=by omega
     have h2' : ((n : Int)≤122)↔(n≤122):=by omega
     have h3' : (48≤(n : Int))↔(48≤n):=by omega
     have h4' : ((n : Int)≤57)↔(n≤57):=by omega
     have h5' : ((n : Int) = 95)↔(n = 95):=by omega
     simp [a120,h1',h2',h3',h4',h5',h1,h2,h3,h4,h5])
theorem wr8' {x : Int} (h0 : 0≤x) (h1 : x≤255) : IntKind.wrap .u8 x = x:=by
  simp [IntKind.wrap,IntKind.bits,IntKind.signed]
  omega
theorem smallB_int (c : UInt8) : ((smallB c).toNat : Int) = if 65≤c.toNat∧c.toNat≤90 then (c.toNat : Int) + 32 else (c.toNat : Int):=by
  rw [smallB_nat]
  unfold upB
  simp only [Bool.and_eq_true,decide_eq_true_eq]
  split <;> simp
theorem c121 (c : UInt8) (S : List Bx) : run 121 [.int .u8 (c.toNat : Int)] S = some (.ret (.int .u8 ((smallB c).toNat : Int)) none,S):=by
  refine eqn rfl ?_
  have h:=c.toNat_lt
  rw [smallB_int]
  generalize c.toNat = n at *
  by_cases h1 : 65≤n
  · by_cases h2 : n ≤ 90
    · have h1' : (65 : Int) ≤ (n : Int) := by omega
      have h2' : (n : Int)≤90:=by omega
      have e1 : IntKind.wrap .u8 ((n : Int) + 97) = (n : Int) + 97:=wr8' (by omega) (by omega)
      have e2 : IntKind.wrap .u8 ((n : Int) + 97 - 65) = (n : Int) + 32:=by rw [wr8' (by omega) (by omega)]; omega
      simp [a121,h1,h2,h1',h2',e1,e2]
    · have h1' : (65 : Int) ≤ (n : Int) := by omega
      have h2' : ¬ (n : Int)≤90:=by omega
      simp [a121,h1,h2,h1',h2']
  · have h1' : ¬ (65 : Int) ≤ (n : Int) := by omega
    simp [a121,h1,h1']
theorem c124 (c : UInt8) (S : List Bx) : run 124 [.int .u8 (c.toNat : Int)] S = some (.ret (.bool (digB c)) none,S):=by
  refine eqn rfl ?_
  have h:=c.toNat_lt
  unfold digB
  generalize c.toNat = n at *
  by_cases h3 : 48≤n <;> by_cases h4 : n≤57 <;> first | (exfalso; omega; done) |
    (have h3' : (48≤(n : Int))↔(48≤n):=by omega
     have h4' : ((n : Int)≤57)↔(n≤57):=by omega
     simp [a124,h3',h4',h3,h4])
def st127 (s : List UInt8) (S : List Bx) (i : Nat) : St:={ σ:=[(0,.v (.str (bs s))),(22,.v (.int .i64 (s.length : Int))),(23,.v (.int .i64 (i : Int)))],own:=[],loc:=[],S:=S }
theorem loop127 (s : List UInt8) (S : List Bx) (hs : s.length≤1000000) :
    aloopW (acode run a127_l0) (st127 s S 0) = (if s.all inNm then some (.exit 0,{ σ:=[],own:=[],loc:=[],S:=S }) else some (.ret,{ σ:=[(2,.v (.bool false))],own:=[],loc:=[],S:=S })):=by
  have h:=loop_all (f:=acode run a127_l0) s inNm (st127 s S) (bad:=(.ret,{ σ:=[(2,.v (.bool false))],own:=[],loc:=[],S:=S })) (good:=(.exit 0,{ σ:=[],own:=[],loc:=[],S:=S })) (by simp) (by simp)
    (fun i c hx=>by
      have h1:=ilt hx
      have hlt:=(List.getElem?_eq_some_iff.1 hx).1
      have w:=w64s (n:=i) (by omega)
      have q:=c120 c S
      rw [acode_k]
      cases hb : inNm c
      · rw [hb] at q
        simp [-getElem?_pos,List.getElem?_cons_zero,List.getElem?_cons_succ,a127_l0,st127,bs_get,hx,h1,w,q]
      · rw [hb] at q
        simp [-getElem?_pos,List.getElem?_cons_zero,List.getElem?_cons_succ,a127_l0,st127,bs_get,hx,h1,w,q])
    (by
      rw [acode_k]
      simp [a127_l0,st127])
  exact h
theorem c127 (s : List UInt8) (S : List Bx) (hs : s.length≤1000000) : run 127 [.str (bs s)] S = some (.ret (.bool (formedL s)) none,S):=by
  refine eqn rfl ?_
  have h:=loop127 s S hs
  cases s with
  | nil =>
    have e : bs [] = ⟨#[]⟩:=rfl
    simp [a127,e,formedL]
  | cons c r =>
    have hc:=c.toNat_lt
    have hne : ¬ bs (c :: r) = ⟨#[]⟩:=fun e=>by simp [bs] at e
    have g0 : (bs (c :: r))[0]? = some c:=by rw [bs_get]; rfl
    unfold formedL lowB
    simp only [st127,Int.natCast_zero,Int.ofNat_zero] at h
    have hne2 : ¬ (bs (c :: r)).toList = []:=by rw [bs_toList]; simp
    by_cases hl : (c :: r).length≤20
    · have hl' : ¬ (20 : Int) < ((c :: r).length : Int) := by omega
      have hz : (bs (c :: r)).size = (c :: r).length:=bs_size _
      generalize (c :: r).length = n at *
      generalize (c :: r).all inNm = b at *
      generalize bs (c :: r) = B at *
      by_cases h1 : 97≤c.toNat
      · by_cases h2 : c.toNat ≤ 122
        · have h1' : ¬ (c.toNat : Int) < 97 := by omega
          have h2' : ¬ (122 : Int) < (c.toNat : Int):=by omega
          cases b
          · simp [-getElem?_pos,a127,hne,hne2,hz,hl,hl',g0,h1,h2,h1',h2',h]
          · simp [-getElem?_pos,a127,hne,hne2,hz,hl,hl',g0,h1,h2,h1',h2',h]
        · have h1' : ¬ (c.toNat : Int) < 97 := by omega
          have h2' : (122 : Int) < (c.toNat : Int):=by omega
          simp [-getElem?_pos,a127,hne,hne2,hz,hl,hl',g0,h1,h2,h1',h2']
      · have h1' : (c.toNat : Int) < 97 := by omega
        simp [-getElem?_pos,a127,hne,hne2,hz,hl,hl',g0,h1,h1']
    · have hl' : (20 : Int) < ((c :: r).length : Int) := by omega
      have hz : (bs (c :: r)).size = (c :: r).length:=bs_size _
      generalize (c :: r).length = n at *
      generalize (c :: r).all inNm = b at *
      generalize bs (c :: r) = B at *
      simp [a127,hne,hne2,hz,hl,hl']
def st118 (s : List UInt8) (S : List Bx) (n : Nat) : St:={ σ:=[(0,.v (.str (bs s))),(3,.v (.int .i64 (n : Int)))],own:=[],loc:=[],S:=S }
def qEnd (S : List Bx) (q : Nat) : Option (AEx×St):=if q = 0 then some (.exit 0,{ σ:=[],own:=[],loc:=[],S:=S }) else some (.ret,{ σ:=[(2,.v (.int .i64 (q : Int)))],own:=[],loc:=[],S:=S })
theorem drop_some {s : List UInt8} {n : Nat} {c : UInt8} (h : s[n]? = some c) : s.drop n = c :: s.drop (n + 1):=by
  obtain ⟨hlt,e⟩:=List.getElem?_eq_some_iff.1 h
  rw [List.drop_eq_getElem_cons hlt,e]
theorem loop118 (s : List UInt8) (S : List Bx) (hs : s.length≤1000000) : ∀ (k n : Nat),s.length≤n + k→n≤1000001→aloopW (acode run a118_l0) (st118 s S n) = qEnd S (qGo n (s.drop n)):=by
  have hsz : (bs s).size = s.length:=bs_size s
  intro k
  induction k with
  | zero =>
    intro n h hn
    have e : s.drop n = []:=List.drop_eq_nil_of_le (by omega)
    have h1 : ¬ (n : Int) < (s.length : Int):=by omega
    rw [e]
    refine aloopW_stop (r:=(.exit 0,{ σ:=[],own:=[],loc:=[],S:=S })) ?_ (by simp)
    rw [acode_k]
    simp [a118_l0,st118,hsz,h1]
  | succ k ih =>
    intro n h hn
    by_cases hlt : n < s.length
    · obtain ⟨c, hc⟩ : ∃ c, s[n]? = some c := ⟨s[n], List.getElem?_eq_getElem hlt⟩
      have h1 : (n : Int) < (s.length : Int):=by omega
      have w:=w64s (n:=n) (by omega)
      have g : (bs s)[n]? = some c:=by rw [bs_get]; exact hc
      rw [drop_some hc]
      by_cases h39 : c = 39
      · subst h39
        by_cases hlt2 : n + 1 < s.length
        · obtain ⟨d, hd⟩ : ∃ d, s[n + 1]? = some d := ⟨s[n + 1], List.getElem?_eq_getElem hlt2⟩
          have h2 : (n : Int) + 1 < (s.length : Int):=by omega
          have g2 : (bs s)[n + 1]? = some d:=by rw [bs_get]; exact hd
          have w2 : IntKind.wrap .i64 ((n : Int) + 1 + 1) = ((n + 2 : Nat) : Int):=by rw [wr64 (by omega) (by omega)]; omega
          have tn : ((n : Int) + 1).toNat = n + 1:=by omega
          have n0 : (0 : Int)≤(n : Int) + 1:=by omega
          rw [drop_some hd]
          by_cases d39 : d = 39
          · subst d39
            have e : qGo n (39 :: 39 :: s.drop (n + 1 + 1)) = qGo (n + 2) (s.drop (n + 2)):=by simp [qGo]
            rw [e,← ih (n + 2) (by omega) (by omega)]
            refine aloopW_step ?_
            rw [acode_k]
            simp [-getElem?_pos,List.getElem?_cons_zero,List.getElem?_cons_succ,a118_l0,st118,hsz,h1,h2,g,g2,w,w2,tn,n0]
          · have e : qGo n (39 :: d :: s.drop (n + 1 + 1)) = n + 1 := by simp [qGo, d39]
            have d39' : ¬ d.toNat = 39:=fun e=>d39 (UInt8.toNat_inj.1 e)
            have d39i : ¬ (d.toNat : Int) = 39:=by omega
            rw [e]
            refine aloopW_stop (r:=(.ret,{ σ:=[(2,.v (.int .i64 ((n : Int) + 1)))],own:=[],loc:=[],S:=S })) ?_ (by simp)
            rw [acode_k]
            simp [-getElem?_pos,List.getElem?_cons_zero,List.getElem?_cons_succ,a118_l0,st118,hsz,h1,h2,g,g2,w,w2,tn,n0,d39,d39',d39i]
        · have h2 : ¬ (n : Int) + 1 < (s.length : Int) := by omega
          have e0 : s.drop (n + 1) = []:=List.drop_eq_nil_of_le (by omega)
          have e : qGo n (39 :: s.drop (n + 1)) = n + 1:=by rw [e0]; simp [qGo]
          rw [e]
          refine aloopW_stop (r:=(.ret,{ σ:=[(2,.v (.int .i64 ((n : Int) + 1)))],own:=[],loc:=[],S:=S })) ?_ (by simp)
          rw [acode_k]
          simp [-getElem?_pos,List.getElem?_cons_zero,List.getElem?_cons_succ,a118_l0,st118,hsz,h1,h2,g,w]
      · have e : ∀ x, qGo n (c :: x) = qGo (n + 1) x := fun x => by cases x <;> simp [qGo, h39]
        have c39' : ¬ c.toNat = 39:=fun e=>h39 (UInt8.toNat_inj.1 e)
        have c39i : ¬ (c.toNat : Int) = 39:=by omega
        rw [e,← ih (n + 1) (by omega) (by omega)]
        refine aloopW_step ?_
        rw [acode_k]
        simp [-getElem?_pos,List.getElem?_cons_zero,List.getElem?_cons_succ,a118_l0,st118,hsz,h1,g,w,h39,c39',c39i]
    · have e : s.drop n = [] := List.drop_eq_nil_of_le (by omega)
      have h1 : ¬ (n : Int) < (s.length : Int):=by omega
      rw [e]
      refine aloopW_stop (r:=(.exit 0,{ σ:=[],own:=[],loc:=[],S:=S })) ?_ (by simp)
      rw [acode_k]
      simp [a118_l0,st118,hsz,h1]
theorem c118 (s : List UInt8) (S : List Bx) (hs : s.length≤1000000) : run 118 [.str (bs s)] S = some (.ret (.int .i64 (quotedL s : Int)) none,S):=by
  refine eqn rfl ?_
  have h:=loop118 s S hs s.length 1 (by omega) (by omega)
  simp only [st118,Int.natCast_one,Int.ofNat_one,qEnd] at h
  unfold quotedL
  generalize qGo 1 (s.drop 1) = q at *
  by_cases h0 : q = 0
  · subst h0
    simp at h
    simp [a118,h]
  · rw [if_neg h0] at h
    simp [a118,h]
end Go.Av
set_option maxRecDepth 100000
set_option linter.unusedSimpArgs false
set_option linter.unusedVariables false
namespace Go.Av
open Go Go.Proofs
theorem rep_nil {old new : List UInt8} (h : old≠[]) : Lib.replaceAll [] old new = []:=by
  unfold Lib.replaceAll Lib.replace
  split
  · rfl
  · have e : Lib.index [] old = -1 := by cases old with | nil => exact absurd rfl h | cons => rfl
    have c:=Lib.count_miss e
    unfold Lib.replaceNum
    rw [if_pos (.inl (by omega)),c,Lib.replaceK]
theorem rep_eq {old new s : List UInt8} (h : (old == new) = false) : Lib.replaceAll s old new = Lib.replaceK old new (Lib.count s old) s:=by
  unfold Lib.replaceAll Lib.replace
  rw [h]
  simp only [Bool.false_eq_true,if_false]
  unfold Lib.replaceNum
  rw [if_pos (.inl (by omega))]
theorem rep_hit {old new r : List UInt8} (h : (old == new) = false) (ho : old≠[]) : Lib.replaceAll (old++r) old new = new++Lib.replaceAll r old new:=by
  have e : Lib.index (old++r) old = ((0 : Nat) : Int):=by
    cases old with
    | nil=>exact absurd rfl ho
    | cons a l =>
      have : (a :: l).isPrefixOf (a :: l++r) = true:=by simp [List.isPrefixOf_iff_prefix]
      rw [List.cons_append] at this ⊢
      unfold Lib.index
      rw [if_pos this]; rfl
  rw [rep_eq h,rep_eq h,Lib.count_hit ho e,Nat.add_comm,Lib.replaceK_hit _ _ _ _ _ e]
  simp
theorem rep_miss {old new : List UInt8} {b : UInt8} {l : List UInt8} (h : (old == new) = false) (ho : old≠[]) (hp : old.isPrefixOf (b :: l) = false) : Lib.replaceAll (b :: l) old new = b :: Lib.replaceAll l old new:=by
  rw [rep_eq h,rep_eq h]
  have e : Lib.index (b :: l) old = if Lib.index l old == -1 then -1 else Lib.index l old + 1:=by
    conv=>lhs; unfold Lib.index
    rw [if_neg (by rw [hp]; simp)]
  by_cases hm : Lib.index l old = -1
  · rw [hm] at e
    have e' : Lib.index (b :: l) old = -1:=e
    rw [Lib.count_miss hm,Lib.count_miss e',Lib.replaceK,Lib.replaceK]
  · have hge := Lib.index_ge l old
    obtain ⟨i,hi⟩ : ∃ i : Nat,Lib.index l old = i:=⟨(Lib.index l old).toNat,by omega⟩
    have e' : Lib.index (b :: l) old = ((i + 1 : Nat) : Int):=by
      rw [e,hi]
      have : ((i : Int) == -1) = false:=by rw [beq_eq_false_iff_ne]; omega
      rw [this]; simp
    rw [Lib.count_hit ho e',Lib.count_hit ho hi,Nat.add_comm 1,Nat.add_comm 1,Lib.replaceK_hit _ _ _ _ _ e',Lib.replaceK_hit _ _ _ _ _ hi,show i + 1 + old.length = i + old.length + 1 by omega]
    simp
def dbl : List UInt8→List UInt8
  | []=>[]
  | c :: l=>if c = 39 then 39 :: 39 :: dbl l else c :: dbl l
theorem rep_dbl : ∀ (l : List UInt8),Lib.replaceAll l [39] [39,39] = dbl l
  | []=>rep_nil (by simp)
  | c :: l => by
    have ih:=rep_dbl l
    unfold dbl
    split
    · rename_i h
      subst h
      have:=rep_hit (old:=[39]) (new:=[39,39]) (r:=l) (by decide) (by simp)
      simp only [List.singleton_append] at this
      rw [this,ih]; rfl
    · rename_i h
      rw [rep_miss (by decide) (by simp) (by simp [List.isPrefixOf]; exact fun e=>h e.symm),ih]
theorem dbl_len : ∀ (l : List UInt8),(dbl l).length≤2 * l.length
  | []=>by simp [dbl]
  | c :: l => by
    have:=dbl_len l
    unfold dbl
    split <;> simp <;> omega
theorem rep_und : ∀ (l : List UInt8),Lib.replaceAll l [39,39] [39] = und l
  | []=>rep_nil (by simp)
  | [c] => by
    rw [rep_miss (by decide) (by simp) (by simp [List.isPrefixOf]),rep_nil (by simp)]; rfl
  | c :: d :: r => by
    unfold und
    split
    · rename_i h
      obtain ⟨rfl,rfl⟩:=h
      have:=rep_hit (old:=[39,39]) (new:=[39]) (r:=r) (by decide) (by simp)
      simp only [List.cons_append,List.nil_append] at this
      rw [this,rep_und r]
    · rename_i h
      rw [rep_miss (by decide) (by simp) (by
        simp only [List.isPrefixOf,Bool.and_eq_false_iff,beq_eq_false_iff_ne,ne_eq]
        by_cases h1 : c = 39
        · right; left; intro e; exact h ⟨h1,e.symm⟩
        · left; exact fun e=>h1 e.symm),rep_und (d :: r)]
theorem und_len : ∀ (l : List UInt8),(und l).length≤l.length
  | []=>by simp [und]
  | [c]=>by simp [und]
  | c :: d :: r => by
    have h1:=und_len r
    have h2:=und_len (d :: r)
    unfold und
    split <;> simp at * <;> omega
def paired : List UInt8→Bool
  | []=>true
  | [c]=>decide (c≠39)
  | c :: d :: r=>if c = 39 then decide (d = 39) && paired r else paired (d :: r)
theorem dbl_und : ∀ (l : List UInt8),paired l = true→dbl (und l) = l
  | [],_=>rfl
  | [c], h => by
    simp only [paired,decide_eq_true_eq] at h
    simp [und,dbl,h]
  | c :: d :: r, h => by
    by_cases hc : c = 39
    · simp only [paired, hc, if_true, Bool.and_eq_true, decide_eq_true_eq] at h
      obtain ⟨rfl,h2⟩:=h
      simp [und,hc,dbl,dbl_und r h2]
    · simp only [paired, hc, if_false] at h
      simp [und,hc,dbl,dbl_und (d :: r) h]
theorem qGo_paired : ∀ (k n : Nat) (r : List UInt8),r.length≤k→qGo n r≠0→∃ mid z,r = mid++39 :: z∧paired mid = true∧qGo n r = n + mid.length + 1
  | k,n,[],_,h=>absurd rfl h
  | 0,n,c :: r,h,_=>by simp at h
  | k + 1, n, [c], hk, h => by
    by_cases hc : c = 39
    · subst hc
      exact ⟨[],[],rfl,rfl,by simp [qGo]⟩
    · simp [qGo,hc] at h
  | k + 1, n, c :: d :: r, hk, h => by
    simp only [List.length_cons] at hk
    by_cases hc : c = 39
    · subst hc
      by_cases hd : d = 39
      · subst hd
        have e : qGo n (39 :: 39 :: r) = qGo (n + 2) r:=by simp [qGo]
        rw [e] at h ⊢
        obtain ⟨mid,z,h1,h2,h3⟩:=qGo_paired k (n + 2) r (by omega) h
        exact ⟨39 :: 39 :: mid,z,by rw [h1]; rfl,by simp [paired,h2],by rw [h3]; simp; omega⟩
      · exact ⟨[],d :: r,rfl,rfl,by simp [qGo,hd]⟩
    · have e : qGo n (c :: d :: r) = qGo (n + 1) (d :: r) := by simp [qGo, hc]
      rw [e] at h ⊢
      obtain ⟨mid,z,h1,h2,h3⟩:=qGo_paired k (n + 1) (d :: r) (by simp; omega) h
      refine ⟨c :: mid,z,by rw [h1]; rfl,?_,by rw [h3]; simp; omega⟩
      cases mid with
      | nil=>simp [paired,hc]
      | cons m0 mr=>simp [paired,hc]; exact h2
def prB (b : UInt8) : Bool:=decide (32≤b.toNat) && decide (b.toNat≤126)
def st195 (s : List UInt8) (S : List Bx) (i : Nat) : St:={ σ:=[(0,.v (.str (bs s))),(5,.v (.int .i64 (s.length : Int))),(6,.v (.int .i64 (i : Int)))],own:=[],loc:=[],S:=S }
theorem c195 (s : List UInt8) (S : List Bx) (hs : s.length≤1000000) : run 195 [.str (bs s)] S = some (.ret (.bool (s.all prB)) none,S):=by
  refine eqn rfl ?_
  have h:=loop_all (f:=acode run a195_l0) s prB (st195 s S) (bad:=(.ret,{ σ:=[(2,.v (.bool false))],own:=[],loc:=[],S:=S })) (good:=(.exit 0,{ σ:=[],own:=[],loc:=[],S:=S })) (by simp) (by simp)
    (fun i c hx=>by
      have h1:=ilt hx
      have hlt:=(List.getElem?_eq_some_iff.1 hx).1
      have w:=w64s (n:=i) (by omega)
      have g : (bs s)[i]? = some c:=by rw [bs_get]; exact hx
      rw [acode_k]
      unfold prB
      by_cases c1 : 32≤c.toNat
      · have c1' : ¬ (c.toNat : Int) < 32 := by omega
        by_cases c2 : c.toNat≤126
        · have c2' : ¬ (126 : Int) < (c.toNat : Int) := by omega
          simp [-getElem?_pos,List.getElem?_cons_zero,List.getElem?_cons_succ,a195_l0,st195,g,h1,w,c1,c2,c1',c2']
        · have c2' : (126 : Int) < (c.toNat : Int) := by omega
          simp [-getElem?_pos,List.getElem?_cons_zero,List.getElem?_cons_succ,a195_l0,st195,g,h1,w,c1,c2,c1',c2']
      · have c1' : (c.toNat : Int) < 32 := by omega
        simp [-getElem?_pos,List.getElem?_cons_zero,List.getElem?_cons_succ,a195_l0,st195,g,h1,w,c1,c1'])
    (by
      rw [acode_k]
      simp [a195_l0,st195])
  have hz : (bs s).size = s.length:=bs_size s
  simp only [st195,Int.natCast_zero,Int.ofNat_zero] at h
  generalize s.all prB = b at *
  cases b
  · simp at h
    simp [a195,hz,h]
  · simp at h
    simp [a195,hz,h]
def textAV (t : List UInt8) : AV:=.agg [.int .i64 3,.int .i64 0,.str (bs t)]
theorem c162T (t : List UInt8) (S : List Bx) (hs : t.length≤1000000) : run 162 [textAV t] S = some (.ret (.bool (decide (t.length≤200) && t.all prB)) none,S):=by
  refine eqn rfl ?_
  have q:=c195 t S hs
  have hz : (bs t).size = t.length:=bs_size t
  unfold textAV
  generalize t.all prB = b at *
  by_cases h1 : t.length≤200
  · have h1' : (t.length : Int) ≤ 200 := by omega
    simp [a162,hz,h1,h1',q]
  · have h1' : ¬ (t.length : Int) ≤ 200 := by omega
    simp [a162,hz,h1,h1']
theorem c161 (l : List UInt8) (hl : l.length≤100000) (S : List Bx) : run 161 [.str (bs l),.str ⟨#[39]⟩,.str ⟨#[39,39]⟩] S = some (.ret (.str (bs (dbl l))) none,S):=by
  refine recL_ext (hh:=xReplaceAll) rfl ?_
  have e1 : (⟨#[39]⟩ : ByteArray).size = 1:=rfl
  have e2 : (⟨#[39,39]⟩ : ByteArray).size = 2:=rfl
  have e3 : repB (bs l) ⟨#[39]⟩ ⟨#[39,39]⟩ = bs (dbl l):=by
    unfold repB
    rw [bs_data,← rep_dbl]; rfl
  simp only [xReplaceAll,e1,e2,bs_size,e3]
  rw [if_pos ⟨by omega,by omega,by omega⟩]
theorem c161U (l : List UInt8) (hl : l.length≤100000) (S : List Bx) : run 161 [.str (bs l),.str ⟨#[39,39]⟩,.str ⟨#[39]⟩] S = some (.ret (.str (bs (und l))) none,S):=by
  refine recL_ext (hh:=xReplaceAll) rfl ?_
  have e1 : (⟨#[39]⟩ : ByteArray).size = 1:=rfl
  have e2 : (⟨#[39,39]⟩ : ByteArray).size = 2:=rfl
  have e3 : repB (bs l) ⟨#[39,39]⟩ ⟨#[39]⟩ = bs (und l):=by
    unfold repB
    rw [bs_data,← rep_und]; rfl
  simp only [xReplaceAll,e1,e2,bs_size,e3]
  rw [if_pos ⟨by omega,by omega,by omega⟩]
theorem c163T (t : List UInt8) (S : List Bx) (hs : t.length≤100000) : run 163 [textAV t] S = some (.ret (.str (bs (39 :: (dbl t++[39])))) none,S):=by
  refine eqn rfl ?_
  have q:=c161 t hs S
  have e : (⟨#[39]⟩ : ByteArray)++bs (dbl t)++(⟨#[39]⟩ : ByteArray) = bs (39 :: (dbl t++[39])):=by
    change bs [39]++bs (dbl t)++bs [39] = _
    rw [bs_append,bs_append]; rfl
  unfold textAV
  have e1 : (⟨#[39]⟩ : ByteArray).size = 1:=rfl
  have e2:=dbl_len t
  simp [a163,q,e,e1,bs_size]
  omega
theorem text_ne {m : List UInt8} : ¬ (bs (39 :: (m++[39]))).toList = [110,117,108,108]∧¬ (bs (39 :: (m++[39]))).toList = [116,114,117,101]∧¬ (bs (39 :: (m++[39]))).toList = [102,97,108,115,101]:=by
  rw [bs_toList]
  refine ⟨?_,?_,?_⟩ <;> (intro h; simp at h)
def zeroV : AV:=.agg [.int .i64 0,.int .i64 0,.str ⟨#[]⟩]
def readE (m : List UInt8) : AV:=.tuple [if okText m then textAV (und m) else zeroV,.bool (okText m)]
theorem c119Q (m : List UInt8) (S : List Bx) (hs : m.length≤100000) (hp : paired m = true) : run 119 [.str (bs (39 :: (m++[39])))] S = some (.ret (readE m) none,S):=by
  refine eqn rfl ?_
  have hu:=und_len m
  have q1:=c161U m hs S
  have q2:=c162T (und m) S (by omega)
  have q3:=c163T (und m) S (by omega)
  rw [dbl_und m hp] at q3
  obtain ⟨n1,n2,n3⟩:=text_ne (m:=m)
  have hz : (bs (39 :: (m++[39]))).size = m.length + 2:=by rw [bs_size]; simp
  have g0 : (bs (39 :: (m++[39])))[0]? = some 39:=by rw [bs_get]; rfl
  have g1 : (bs (39 :: (m++[39])))[m.length + 1]? = some 39:=by rw [bs_get]; simp
  have ex : (bs (39 :: (m++[39]))).extract 1 (m.length + 1) = bs m:=by rw [bs_extract]; simp
  have eo : okText m = (decide ((und m).length≤200) && (und m).all prB):=rfl
  unfold readE textAV zeroV
  unfold textAV at q2 q3
  rw [← eo] at q2
  generalize okText m = ok at *
  generalize und m = u at *
  generalize bs (39 :: (m++[39])) = B at *
  have i1 : (1 : Int) < ((m.length + 2 : Nat) : Int):=by omega
  have i2 : IntKind.wrap .i64 (((m.length + 2 : Nat) : Int) - 1) = ((m.length + 1 : Nat) : Int):=by rw [wr64 (by omega) (by omega)]; omega
  generalize hN : m.length + 2 = N at *
  cases ok
  · simp [-getElem?_pos, a119, n1, n2, n3, hz, g0, g1, ex, q1, q2, q3, i1, i2]
    omega
  · simp [-getElem?_pos, a119, n1, n2, n3, hz, g0, g1, ex, q1, q2, q3, i1, i2]
    omega
end Go.Av
set_option maxRecDepth 100000
set_option linter.unusedSimpArgs false
set_option linter.unusedVariables false
namespace Go.Av
open Go Go.Proofs
theorem c125 (s : List UInt8) (S : List Bx) (hs : s.length≤1000000) : run 125 [.str (bs s),.int .i64 10,.int .i64 64] S = some (.ret (atoiA 259 (bs s)) none,S):=by
  refine recL_ext (hh:=xParseInt 259) rfl ?_
  simp only [xParseInt,bs_size]
  rw [if_pos ⟨by omega,trivial,trivial⟩]
theorem c126 (n : Int) (h0 : -9223372036854775808≤n) (h1 : n≤9223372036854775807) (S : List Bx) : run 126 [.int .i64 n,.int .i64 10] S = some (.ret (.str (bs (itoaL n))) none,S):=by
  refine recL_ext (hh:=xFormatInt) rfl ?_
  simp [xFormatInt,h0,h1,itoaB_L]
theorem c119N (S : List Bx) : run 119 [.str (bs [])] S = some (.ret (.tuple [zeroV,.bool false]) none,S):=by
  refine eqn rfl ?_
  have q:=c125 [] S (by simp)
  have e : atoiA 259 (bs []) = .tuple [.int .i64 0,.iface 259 (.sptr [])]:=by rfl
  rw [e] at q
  have z : bs [] = ⟨#[]⟩:=rfl
  rw [z] at q ⊢
  have e0 : (⟨#[]⟩ : ByteArray).size = 0:=rfl
  have e1 : (⟨#[]⟩ : ByteArray).toList = []:=bs_toList []
  unfold zeroV
  simp [a119,q,e0,e1]
theorem c158 (s p : List UInt8) (S : List Bx) (hs : s.length≤1000000) (hp : p.length≤1000000) : run 158 [.str (bs s),.str (bs p)] S = some (.ret (.bool (p.isPrefixOf s)) none,S):=by
  refine eqn rfl ?_
  have z1 : (bs s).size = s.length:=bs_size s
  have z2 : (bs p).size = p.length:=bs_size p
  have ex : (bs s).extract 0 p.length = bs (s.take p.length):=by rw [bs_extract]; simp
  by_cases h : p.length≤s.length
  · have h' : (p.length : Int) ≤ (s.length : Int) := by omega
    have e : p.isPrefixOf s = decide (s.take p.length = p):=by
      rw [Bool.eq_iff_iff,List.isPrefixOf_iff_prefix,decide_eq_true_eq]
      exact ⟨fun h=>(List.prefix_iff_eq_take.1 h).symm,fun h=>h ▸ List.take_prefix _ _⟩
    rw [e]
    by_cases hq : s.take p.length = p
    · simp [a158,z1,z2,h,h',ex,hq,bs_toList]
    · simp [a158,z1,z2,h,h',ex,hq,bs_toList]
  · have h' : ¬ (p.length : Int) ≤ (s.length : Int) := by omega
    have e : p.isPrefixOf s = false:=by
      cases hb : p.isPrefixOf s with
      | false=>rfl
      | true=>exact absurd (List.isPrefixOf_iff_prefix.1 hb).length_le h
    rw [e]
    simp [a158,z1,z2,h,h']
theorem c117 (s p : List UInt8) (S : List Bx) (hs : s.length≤1000000) (hp : p.length≤1000000) : run 117 [.str (bs s),.str (bs p)] S = some (.ret (.bool (p.isPrefixOf s)) none,S):=by
  refine eqn rfl ?_
  have q:=c158 s p S hs hp
  simp [a117,q]
end Go.Av
set_option maxRecDepth 100000
set_option linter.unusedSimpArgs false
set_option linter.unusedVariables false
namespace Go.Av
open Go Go.Proofs
def wordsBox : Bx:={ cells:=(wordsL.map fun w=>[AV.str (bs w),AV.bool true]).flatten,own:=[],map:=true }
theorem c66 : run 66 [] [] = some (.ret (.mapp 0) none,[wordsBox]):=recL_run (n:=60) (by kernel_rfl)
theorem mget_words (t : List UInt8) : ∀ (l : List (List UInt8)),mget none (l.map fun w=>[AV.str (bs w),AV.bool true]).flatten (.str (bs t)) = some (if t ∈ l then some (.bool true) else none)
  | []=>by simp [mget]
  | w :: l => by
    have ih:=mget_words t l
    simp only [List.map_cons,List.flatten_cons,List.cons_append,List.nil_append,mget]
    by_cases h : t = w
    · subst h
      simp [isKeyA,keyEq]
    · have h' : ¬ bs t = bs w := fun e => h (bs_inj e)
      simp [isKeyA,keyEq,h,h',bs_toList,ih]
def numM (b : List UInt8) : Bool:=match Lib.atoiAll b with
  | .ok n=>decide (itoaL n = b)
  | _=>false
def numP : List UInt8→Bool
  | []=>false
  | c :: r=>digB c && numM (c :: r)
def emptyTok : AV:=.agg [.int .i64 0,.str ⟨#[]⟩,.int .i64 0]
def tokAV (k : Int) (t : List UInt8) : AV:=.agg [.int .i64 k,.str (bs t),.int .i64 0]
def nextE (s : List UInt8) : AV:=match oneT numP s with
  | some (k,t)=>.tuple [tokAV k t,.int .i64 (t.length : Int)]
  | none=>.tuple [emptyTok,.int .i64 0]
theorem sign_head {x s : List UInt8} (hx : x ∈ signsL) (h : x.isPrefixOf s = true) : s.head?≠some 39∧(s.takeWhile fun c=>inNm (smallB c)) = []:=by
  obtain ⟨z,rfl⟩:=List.isPrefixOf_iff_prefix.1 h
  unfold signsL at hx
  simp only [List.mem_cons,List.not_mem_nil,or_false] at hx
  rcases hx with rfl | rfl | rfl | rfl | rfl | rfl | rfl | rfl | rfl | rfl | rfl | rfl | rfl | rfl | rfl | rfl | rfl <;>
  exact ⟨by simp,by rfl⟩
theorem oneT_sign {s x : List UInt8} {p : List UInt8→Bool} (h : (signsL.find? fun x=>x.isPrefixOf s) = some x) : oneT p s = some (5,x):=by
  have hm:=List.mem_of_find?_eq_some h
  have hp:=List.find?_some h
  obtain ⟨h1,h2⟩:=sign_head hm hp
  unfold oneT
  rw [if_neg h1,h2]
  simp only [List.map_nil,if_true]
  rw [h]; rfl
theorem walkL_find {α γ : Type} (p : α→Bool) (g : α→γ) (e : γ) : ∀ (l : List α),walkL (fun (_ : Unit) x=>if p x then .inr (g x) else .inl ()) (fun _=>e) l () = (l.find? p).elim e g
  | []=>rfl
  | x :: l => by
    unfold walkL
    cases h : p x
    · simp [h,walkL_find p g e l]
    · simp [h]
def zTok : Bx:={ cells:=[.int .i64 0,.str ⟨#[]⟩,.int .i64 0] }
def signsAV : List AV:=[.str ⟨#[60,61]⟩,.str ⟨#[62,61]⟩,.str ⟨#[60,62]⟩,.str ⟨#[124,124]⟩,.str ⟨#[40]⟩,.str ⟨#[41]⟩,.str ⟨#[44]⟩,.str ⟨#[46]⟩,.str ⟨#[42]⟩,.str ⟨#[43]⟩,.str ⟨#[45]⟩,.str ⟨#[47]⟩,.str ⟨#[37]⟩,.str ⟨#[61]⟩,.str ⟨#[60]⟩,.str ⟨#[62]⟩,.str ⟨#[59]⟩]
theorem signsAV_get (i : Nat) (x : List UInt8) (h : signsL[i]? = some x) : signsAV[i]? = some (.str (bs x)):=by
  have e : signsAV = signsL.map fun x=>AV.str (bs x):=by rfl
  rw [e,List.getElem?_map,h]; rfl
def stS (s : List UInt8) (S : List Bx) (i : Nat) : St:={ σ:=[(0,.v (.str (bs s))),(1,.v (.mapp 0)),(4,.l 4 0),(17,.v (.agg signsAV)),(18,.v (.int .i64 (i : Int)))],own:=[],loc:=[(4,zTok)],S:=S }
theorem loop067 (s : List UInt8) (S : List Bx) (hs : s.length≤1000000) :
    aloopW (acode run a67_l0) (stS s S 0) = some ((signsL.find? fun x=>x.isPrefixOf s).elim
      (.exit 0,{ σ:=[(0,.v (.str (bs s))),(1,.v (.mapp 0)),(4,.l 4 0)],own:=[],loc:=[(4,zTok)],S:=S })
      (fun x=>(.ret,{ σ:=[(4,.l 4 0),(5,.v (.int .i64 (x.length : Int)))],own:=[],loc:=[(4,{ cells:=[.int .i64 5,.str (bs x),.int .i64 0] })],S:=S }))):=by
  have h:=loop_walk (f:=acode run a67_l0) signsL (fun (_ : Unit) i=>stS s S i)
    (fun _ x=>if x.isPrefixOf s then .inr (.ret,{ σ:=[(4,.l 4 0),(5,.v (.int .i64 (x.length : Int)))],own:=[],loc:=[(4,{ cells:=[.int .i64 5,.str (bs x),.int .i64 0] })],S:=S }) else .inl ())
    (fun _=>(.exit 0,{ σ:=[(0,.v (.str (bs s))),(1,.v (.mapp 0)),(4,.l 4 0)],own:=[],loc:=[(4,zTok)],S:=S })) (fun _ _=>True) (b0:=()) trivial
    (fun i _ x _ hx=>by
      have hlt:=(List.getElem?_eq_some_iff.1 hx).1
      have h17 : signsL.length = 17:=by rfl
      have h1 : (i : Int) < 17:=by omega
      have w:=w64s (n:=i) (by omega)
      have hxl : x.length≤1000000:=by
        have : ∀ y ∈ signsL,y.length≤1000000:=by decide
        exact this x (List.mem_of_getElem? hx)
      have q:=c117 s x S hs hxl
      have g:=signsAV_get i x hx
      have hz : (bs x).size = x.length:=bs_size x
      have hl : signsAV.length = 17:=rfl
      cases hb : x.isPrefixOf s
      · rw [hb] at q
        left
        refine ⟨(),by simp [hb],?_,trivial⟩
        rw [acode_k]
        simp [-getElem?_pos,List.getElem?_cons_zero,List.getElem?_cons_succ,a67_l0,stS,zTok,h1,w,q,g,hl]
      · rw [hb] at q
        right
        refine ⟨_,if_pos rfl,?_,by simp⟩
        rw [acode_k]
        simp [-getElem?_pos,List.getElem?_cons_zero,List.getElem?_cons_succ,a67_l0,stS,zTok,h1,w,q,g,hl,hz])
    (fun _ _=>by
      refine ⟨?_,by simp⟩
      rw [acode_k]
      have : signsL.length = 17:=rfl
      simp [a67_l0,stS,zTok,this])
  rw [walkL_find] at h
  exact h
def stN (s : List UInt8) (S : List Bx) (i : Nat) : St:={ σ:=[(0,.v (.str (bs s))),(1,.v (.mapp 0)),(4,.l 4 0),(12,.v (.int .i64 (i : Int)))],own:=[],loc:=[(4,zTok)],S:=S }
def nmB (c : UInt8) : Bool:=inNm (smallB c)
theorem loop167 (s : List UInt8) (S : List Bx) (hs : s.length≤1000000) : ∀ (k n : Nat),s.length≤n + k→n≤s.length →
    aloopW (acode run a67_l1) (stN s S n) = some (.exit 2,stN s S (n + ((s.drop n).takeWhile nmB).length)):=by
  have hsz : (bs s).size = s.length:=bs_size s
  have stop : aloopW (acode run a67_l1) (stN s S s.length) = some (.exit 2,stN s S s.length):=by
    refine aloopW_stop ?_ (by simp)
    rw [acode_k]
    simp [a67_l1,stN,zTok,hsz]
  intro k
  induction k with
  | zero =>
    intro n h hn
    obtain rfl : n = s.length:=by omega
    have e : s.drop s.length = []:=List.drop_length
    rw [e]
    exact stop
  | succ k ih =>
    intro n h hn
    by_cases hlt : n < s.length
    · obtain ⟨c, hc⟩ : ∃ c, s[n]? = some c := ⟨s[n], List.getElem?_eq_getElem hlt⟩
      have h1 : (n : Int) < (s.length : Int):=by omega
      have w:=w64s (n:=n) (by omega)
      have g : (bs s)[n]? = some c:=by rw [bs_get]; exact hc
      have q1:=c121 c S
      have q2:=c120 (smallB c) S
      rw [drop_some hc,List.takeWhile_cons]
      unfold nmB
      cases hb : inNm (smallB c)
      · rw [hb] at q2
        refine aloopW_stop (r:=(.exit 2,stN s S n)) ?_ (by simp)
        rw [acode_k]
        simp [-getElem?_pos,List.getElem?_cons_zero,List.getElem?_cons_succ,a67_l1,stN,zTok,hsz,h1,g,q1,q2]
      · rw [hb] at q2
        have e : n + (c :: (s.drop (n + 1)).takeWhile nmB).length = (n + 1) + ((s.drop (n + 1)).takeWhile nmB).length:=by simp; omega
        simp only [if_true]
        change _ = some (AEx.exit 2,stN s S (n + (c :: (s.drop (n + 1)).takeWhile nmB).length))
        rw [e,← ih (n + 1) (by omega) (by omega)]
        refine aloopW_step ?_
        rw [acode_k]
        simp [-getElem?_pos,List.getElem?_cons_zero,List.getElem?_cons_succ,a67_l1,stN,zTok,hsz,h1,g,q1,q2,w]
    · obtain rfl : n = s.length := by omega
      have e : s.drop s.length = []:=List.drop_length
      rw [e]
      exact stop
end Go.Av
set_option maxRecDepth 100000
set_option linter.unusedSimpArgs false
set_option linter.unusedVariables false
namespace Go.Av
open Go Go.Proofs
theorem next67A (s : List UInt8) (S : List Bx) (hs : s.length≤1000000) {x : List UInt8} (hx : (signsL.find? fun x=>x.isPrefixOf s) = some x) :
    run 67 [.str (bs s),.mapp 0] S = some (.ret (.tuple [tokAV 5 x,.int .i64 (x.length : Int)]) none,S):=by
  refine eqn rfl ?_
  have h:=loop067 s S hs
  rw [hx] at h
  simp only [stS,signsAV,zTok,Int.natCast_zero,Int.ofNat_zero,Option.elim_some] at h
  generalize bs s = B at *
  unfold tokAV
  simp (maxSteps:=1000000) [a67,h]
theorem next67B0 (r : List UInt8) (S : List Bx) (hs : r.length≤100000) (hx : (signsL.find? fun x=>x.isPrefixOf (39 :: r)) = none) (hq : quotedL (39 :: r) = 0) :
    run 67 [.str (bs (39 :: r)),.mapp 0] S = some (.ret (.tuple [emptyTok,.int .i64 0]) none,S):=by
  refine eqn rfl ?_
  have h:=loop067 (39 :: r) S (by simp; omega)
  rw [hx] at h
  simp only [stS,signsAV,zTok,Int.natCast_zero,Int.ofNat_zero,Option.elim_none] at h
  have q:=c118 (39 :: r) S (by simp; omega)
  rw [hq] at q
  have q2:=c119N S
  have g : (bs (39 :: r))[0]? = some 39:=by rw [bs_get]; rfl
  have z : bs [] = ByteArray.empty:=rfl
  rw [z] at q2
  generalize bs (39 :: r) = B at *
  unfold emptyTok
  unfold zeroV at q2
  simp (maxSteps:=1000000) [-getElem?_pos,List.getElem?_cons_zero,List.getElem?_cons_succ,a67,h,q,q2,g]
theorem next67B1 (s mid : List UInt8) (S : List Bx) (hs : s.length≤100000) (h0 : s[0]? = some 39) (hx : (signsL.find? fun x=>x.isPrefixOf s) = none) (hq : quotedL s = mid.length + 2) (hm : paired mid = true)
    (ht : s.take (mid.length + 2) = 39 :: (mid++[39])) :
    run 67 [.str (bs s),.mapp 0] S = some (.ret (if okText mid then .tuple [tokAV 4 (39 :: (mid++[39])),.int .i64 ((mid.length + 2 : Nat) : Int)] else .tuple [emptyTok,.int .i64 0]) none,S):=by
  refine eqn rfl ?_
  have h:=loop067 s S (by omega)
  rw [hx] at h
  simp only [stS,signsAV,zTok,Int.natCast_zero,Int.ofNat_zero,Option.elim_none] at h
  have hl : mid.length + 2≤s.length:=by
    have:=congrArg List.length ht
    simp only [List.length_take,List.length_cons,List.length_append,List.length_nil] at this
    omega
  have hz : (bs s).size = s.length:=bs_size s
  have q:=c118 s S (by omega)
  rw [hq] at q
  have q2:=c119Q mid S (by omega) hm
  have g : (bs s)[0]? = some 39:=by rw [bs_get]; exact h0
  have ex : (bs s).extract 0 (mid.length + 2) = bs (39 :: (mid++[39])):=by rw [bs_extract,ht]; rfl
  unfold readE textAV zeroV at q2
  unfold emptyTok tokAV
  generalize bs (39 :: (mid++[39])) = T at *
  generalize bs s = B at *
  generalize bs (und mid) = U at *
  have i1 : ((mid.length + 2 : Nat) : Int)≤(s.length : Int):=by omega
  have i2 : ¬ ((mid.length + 2 : Nat) : Int) = 0:=by omega
  generalize hN : mid.length + 2 = N at *
  have i3 : N≠0:=by omega
  cases hok : okText mid <;> rw [hok] at q2 <;> simp only [Bool.false_eq_true,if_false,if_true] at q2 ⊢
  · simp (maxSteps:=1000000) [-getElem?_pos,List.getElem?_cons_zero,List.getElem?_cons_succ,a67,h,q,q2,g,ex,i1,i2,i3,hz]
  · simp (maxSteps:=1000000) [-getElem?_pos,List.getElem?_cons_zero,List.getElem?_cons_succ,a67,h,q,q2,g,ex,i1,i2,i3,hz]
theorem lowR_small (c : UInt8) : lowR c = smallB c:=by
  unfold lowR smallB upB
  simp only [Bool.and_eq_true,decide_eq_true_eq]
theorem c122 (l : List UInt8) (S : List Bx) (hl : l.length≤1000000) (ha : ∀ b ∈ l,b.toNat < 128) : run 122 [.clos (.func 123) [] [],.str (bs l)] S = some (.ret (.str (bs (l.map smallB))) none,S):=by
  refine recL_ext (hh:=xMapS 123) rfl ?_
  have e : l.map lowR = l.map smallB:=List.map_congr_left fun c _=>lowR_small c
  simp only [xMapS,bs_size,bs_data]
  rw [if_pos ⟨trivial,hl,List.all_eq_true.2 fun b hb=>by simpa using ha b hb⟩,e]
  rfl
theorem nm_ascii {c : UInt8} (h : nmB c = true) : c.toNat < 128:=by
  unfold nmB at h
  have:=smallB_nat c
  simp only [inNm,lowB,digB,upB,Bool.or_eq_true,Bool.and_eq_true,decide_eq_true_eq] at h this
  split at this <;> omega
theorem take_while (s : List UInt8) (p : UInt8→Bool) : s.take (s.takeWhile p).length = s.takeWhile p:=by
  have h:=List.takeWhile_prefix (l:=s) p
  exact (List.prefix_iff_eq_take.1 h).symm
theorem next67C0 (s : List UInt8) (S : List Bx) (hs : s.length≤100000) (c0 : UInt8) (h0 : s[0]? = some c0) (hc : c0≠39) (hx : (signsL.find? fun x=>x.isPrefixOf s) = none) (hn : s.takeWhile nmB = []) :
    run 67 [.str (bs s),.mapp 0] S = some (.ret (.tuple [emptyTok,.int .i64 0]) none,S):=by
  refine eqn rfl ?_
  have h:=loop067 s S (by omega)
  rw [hx] at h
  simp only [stS,signsAV,zTok,Int.natCast_zero,Int.ofNat_zero,Option.elim_none] at h
  have hl:=loop167 s S (by omega) s.length 0 (by omega) (by omega)
  rw [List.drop_zero,hn] at hl
  simp only [stN,zTok,Int.natCast_zero,Int.ofNat_zero,List.length_nil,Nat.add_zero] at hl
  have q:=c122 [] S (by simp) (by simp)
  have g : (bs s)[0]? = some c0:=by rw [bs_get]; exact h0
  have z : bs [] = ByteArray.empty:=rfl
  simp only [List.map_nil] at q
  rw [z] at q
  have c39 : ¬ c0.toNat = 39:=fun e=>hc (UInt8.toNat_inj.1 e)
  have c39i : ¬ (c0.toNat : Int) = 39:=by omega
  generalize bs s = B at *
  unfold emptyTok
  simp (maxSteps:=1000000) [-getElem?_pos,List.getElem?_cons_zero,List.getElem?_cons_succ,a67,h,hl,q,g,hc,c39,c39i]
def nameE (b : List UInt8) : AV:=if b ∈ wordsL then .tuple [tokAV 1 b,.int .i64 (b.length : Int)] else if formedL b then .tuple [tokAV 2 b,.int .i64 (b.length : Int)] else .tuple [emptyTok,.int .i64 0]
theorem next67C2 (s : List UInt8) (hs : s.length≤100000) (c0 : UInt8) (h0 : s[0]? = some c0) (hc : c0≠39) (hd : digB c0 = false) (hx : (signsL.find? fun x=>x.isPrefixOf s) = none) (n : Nat) (hn : (s.takeWhile nmB).length = n) (hn0 : 0 < n) :
    run 67 [.str (bs s),.mapp 0] [wordsBox] = some (.ret (nameE ((s.takeWhile nmB).map smallB)) none,[wordsBox]):=by
  refine eqn rfl ?_
  have h:=loop067 s [wordsBox] (by omega)
  rw [hx] at h
  simp only [stS,signsAV,zTok,Int.natCast_zero,Int.ofNat_zero,Option.elim_none] at h
  have hl:=loop167 s [wordsBox] (by omega) s.length 0 (by omega) (by omega)
  rw [List.drop_zero,hn] at hl
  simp only [stN,zTok,Int.natCast_zero,Int.ofNat_zero,Nat.zero_add] at hl
  have hle : n≤s.length:=by rw [← hn]; exact (List.takeWhile_sublist _).length_le
  have q:=c122 (s.takeWhile nmB) [wordsBox] (by omega) (fun b hb=>nm_ascii (by
    have:=List.all_takeWhile (p:=nmB) (l:=s)
    rw [List.all_eq_true] at this
    exact this b hb))
  have g : (bs s)[0]? = some c0:=by rw [bs_get]; exact h0
  have hz : (bs s).size = s.length:=bs_size s
  have ex : (bs s).extract 0 n = bs (s.takeWhile nmB):=by rw [bs_extract,List.drop_zero,← hn,take_while]
  have c39 : ¬ c0.toNat = 39:=fun e=>hc (UInt8.toNat_inj.1 e)
  have c39i : ¬ (c0.toNat : Int) = 39:=by omega
  have qd:=c124 c0 [wordsBox]
  rw [hd] at qd
  have hb : ((s.takeWhile nmB).map smallB).length = n:=by rw [List.length_map]; exact hn
  have qm:=mget_words ((s.takeWhile nmB).map smallB) wordsL
  have qs:=c127 ((s.takeWhile nmB).map smallB) [wordsBox] (by omega)
  change mget none wordsBox.cells _ = _ at qm
  have hm : wordsBox.map = true:=rfl
  have i1 : (n : Int)≤(s.length : Int):=by omega
  have i2 : ¬ (n : Int) = 0:=by omega
  have i3 : ¬ n = 0:=by omega
  unfold nameE
  rw [hb]
  unfold emptyTok tokAV
  generalize bs (s.takeWhile nmB) = X at *
  generalize (s.takeWhile nmB).map smallB = b at *
  generalize bs b = T at *
  generalize bs s = B at *
  generalize wordsBox = wb at *
  by_cases hw : b ∈ wordsL
  · rw [if_pos hw] at qm ⊢
    simp (maxSteps:=1000000) [-getElem?_pos,List.getElem?_cons_zero,List.getElem?_cons_succ,a67,h,hl,q,g,hc,c39,c39i,hz,ex,qd,qm,hm,i1,i2,i3,isKeyA,lookRes]
  · rw [if_neg hw] at qm ⊢
    cases hf : formedL b
    · rw [hf] at qs
      simp (maxSteps:=1000000) [-getElem?_pos,List.getElem?_cons_zero,List.getElem?_cons_succ,a67,h,hl,q,g,hc,c39,c39i,hz,ex,qd,qm,qs,hm,i1,i2,i3,isKeyA,lookRes]
    · rw [hf] at qs
      simp (maxSteps:=1000000) [-getElem?_pos,List.getElem?_cons_zero,List.getElem?_cons_succ,a67,h,hl,q,g,hc,c39,c39i,hz,ex,qd,qm,qs,hm,i1,i2,i3,isKeyA,lookRes]
theorem next67C1 (s : List UInt8) (S : List Bx) (hs : s.length≤100000) (c0 : UInt8) (h0 : s[0]? = some c0) (hc : c0≠39) (hd : digB c0 = true) (hx : (signsL.find? fun x=>x.isPrefixOf s) = none) (n : Nat) (hn : (s.takeWhile nmB).length = n) (hn0 : 0 < n) (b : List UInt8) (hbb : (s.takeWhile nmB).map smallB = b) :
    run 67 [.str (bs s),.mapp 0] S = some (.ret (if numM b then .tuple [tokAV 3 b,.int .i64 (n : Int)] else .tuple [emptyTok,.int .i64 0]) none,S):=by
  refine eqn rfl ?_
  have h:=loop067 s S (by omega)
  rw [hx] at h
  simp only [stS,signsAV,zTok,Int.natCast_zero,Int.ofNat_zero,Option.elim_none] at h
  have hl:=loop167 s S (by omega) s.length 0 (by omega) (by omega)
  rw [List.drop_zero,hn] at hl
  simp only [stN,zTok,Int.natCast_zero,Int.ofNat_zero,Nat.zero_add] at hl
  have hle : n≤s.length:=by rw [← hn]; exact (List.takeWhile_sublist _).length_le
  have q:=c122 (s.takeWhile nmB) S (by omega) (fun b hb=>nm_ascii (by
    have:=List.all_takeWhile (p:=nmB) (l:=s)
    rw [List.all_eq_true] at this
    exact this b hb))
  have g : (bs s)[0]? = some c0:=by rw [bs_get]; exact h0
  have hz : (bs s).size = s.length:=bs_size s
  have ex : (bs s).extract 0 n = bs (s.takeWhile nmB):=by rw [bs_extract,List.drop_zero,← hn,take_while]
  have c39 : ¬ c0.toNat = 39:=fun e=>hc (UInt8.toNat_inj.1 e)
  have c39i : ¬ (c0.toNat : Int) = 39:=by omega
  have qd:=c124 c0 S
  rw [hd] at qd
  have hb : b.length = n:=by rw [← hbb,List.length_map]; exact hn
  rw [hbb] at q
  have qp:=c125 b S (by omega)
  have i1 : (n : Int)≤(s.length : Int):=by omega
  have i2 : ¬ (n : Int) = 0:=by omega
  have i3 : ¬ n = 0:=by omega
  unfold emptyTok tokAV numM
  rcases hr : Lib.atoiAll b with v | _ | _
  · obtain ⟨v0, v1⟩ := Lib.atoiAll_bounds hr
    have qf:=c126 v v0 v1 S
    have ea : atoiA 259 (bs b) = .tuple [.int .i64 v,.niliface]:=by unfold atoiA; rw [bs_data,hr]
    rw [ea] at qp
    by_cases hi : itoaL v = b
    · rw [hi] at qf
      generalize bs (s.takeWhile nmB) = X at *
      generalize bs b = T at *
      generalize bs s = B at *
      simp (maxSteps:=1000000) [-getElem?_pos,List.getElem?_cons_zero,List.getElem?_cons_succ,a67,h,hl,q,g,hc,c39,c39i,hz,ex,qd,i1,i2,i3,qp,qf,hi]
    · have tne : ¬ (bs (itoaL v)).toList = (bs b).toList := by rw [bs_toList, bs_toList]; exact hi
      generalize bs (s.takeWhile nmB) = X at *
      generalize bs (itoaL v) = I at *
      generalize bs b = T at *
      generalize bs s = B at *
      simp (maxSteps:=1000000) [-getElem?_pos,List.getElem?_cons_zero,List.getElem?_cons_succ,a67,h,hl,q,g,hc,c39,c39i,hz,ex,qd,i1,i2,i3,qp,qf,hi,tne]
  · have ea : atoiA 259 (bs b) = .tuple [.int .i64 0, .iface 259 (.sptr [])] := by unfold atoiA; rw [bs_data, hr]
    rw [ea] at qp
    generalize bs (s.takeWhile nmB) = X at *
    generalize bs b = T at *
    generalize bs s = B at *
    simp (maxSteps:=1000000) [-getElem?_pos,List.getElem?_cons_zero,List.getElem?_cons_succ,a67,h,hl,q,g,hc,c39,c39i,hz,ex,qd,i1,i2,i3,qp]
  · have ea : atoiA 259 (bs b) = .tuple [.int .i64 (Lib.atoiSat b), .iface 259 (.sptr [])] := by unfold atoiA; rw [bs_data, hr]
    rw [ea] at qp
    generalize bs (s.takeWhile nmB) = X at *
    generalize bs b = T at *
    generalize bs s = B at *
    simp (maxSteps:=1000000) [-getElem?_pos,List.getElem?_cons_zero,List.getElem?_cons_succ,a67,h,hl,q,g,hc,c39,c39i,hz,ex,qd,i1,i2,i3,qp]
theorem words_low : ∀ w ∈ wordsL,∃ c r,w = c :: r∧lowB c = true:=by
  have h : wordsL.all (fun w=>match w with | []=>false | c :: _=>lowB c) = true:=by decide
  intro w hw
  have:=List.all_eq_true.1 h w hw
  cases w with
  | nil=>simp at this
  | cons c r=>exact ⟨c,r,rfl,this⟩
theorem dig_small {c : UInt8} (h : digB c = true) : smallB c = c∧lowB c = false∧c≠39:=by
  simp only [digB,Bool.and_eq_true,decide_eq_true_eq] at h
  have hu : upB c = false:=by simp [upB]; omega
  refine ⟨by unfold smallB; rw [hu]; rfl,by simp [lowB]; omega,fun e=>?_⟩
  have:=congrArg UInt8.toNat e
  simp at this
  omega
theorem small_dig {c : UInt8} (h : digB c = false) : digB (smallB c) = false:=by
  have hn:=smallB_nat c
  simp only [digB,Bool.and_eq_false_iff,decide_eq_false_iff_not] at h ⊢
  split at hn
  · rename_i hu
    simp only [upB,Bool.and_eq_true,decide_eq_true_eq] at hu
    omega
  · omega
theorem oneT_name {p : List UInt8→Bool} {s b : List UInt8} (hh : ¬ s.head? = some 39) (hb : (s.takeWhile nmB).map smallB = b) (hne : b≠[]) :
    oneT p s = if b ∈ wordsL then some (1,b) else if formedL b then some (2,b) else if p b then some (3,b) else none:=by
  unfold oneT
  rw [if_neg hh]
  have hb' : (s.takeWhile fun c=>inNm (smallB c)).map smallB = b:=hb
  simp only [hb']
  rw [if_neg hne]
theorem c67 (s : List UInt8) (hs : s.length≤100000) (h0 : s≠[]) : run 67 [.str (bs s),.mapp 0] [wordsBox] = some (.ret (nextE s) none,[wordsBox]):=by
  cases hx : signsL.find? fun x=>x.isPrefixOf s with
  | some x =>
    rw [next67A s _ (by omega) hx]
    unfold nextE
    rw [oneT_sign hx]
  | none =>
    obtain ⟨c0,r,rfl⟩ : ∃ c r,s = c :: r:=by cases s with | nil=>exact absurd rfl h0 | cons c r=>exact ⟨c,r,rfl⟩
    by_cases hc : c0 = 39
    · subst hc
      by_cases hq : quotedL (39 :: r) = 0
      · rw [next67B0 r _ (by simp at hs; omega) hx hq]
        have ho : oneT numP (39 :: r) = none:=by
          unfold oneT
          rw [if_pos (show (39 :: r).head? = some 39 from rfl),if_pos hq]
        unfold nextE
        rw [ho]
      · obtain ⟨mid, z, h1, h2, h3⟩ := qGo_paired r.length 1 r (Nat.le_refl _) hq
        have hq2 : quotedL (39 :: r) = mid.length + 2:=by unfold quotedL; simp only [List.drop_one,List.tail_cons]; omega
        have ht : (39 :: r).take (mid.length + 2) = 39 :: (mid++[39]):=by
          rw [List.take_succ_cons,h1]
          have e : mid++39 :: z = (mid++[39])++z:=by simp
          rw [e,List.take_append_of_le_length (by simp),List.take_of_length_le (by simp)]
        rw [next67B1 _ mid _ (by omega) rfl hx hq2 h2 ht]
        have hm : midL (39 :: (mid++[39])) = mid:=by unfold midL; simp
        have ho : oneT numP (39 :: r) = if okText mid then some (4,39 :: (mid++[39])) else none:=by
          unfold oneT
          rw [if_pos (show (39 :: r).head? = some 39 from rfl),if_neg hq,hq2,ht,hm]
        unfold nextE
        rw [ho]
        cases okText mid
        · simp
        · simp; omega
    · have hh : ¬ (c0 :: r).head? = some 39 := by simp [hc]
      have e1 : ((c0 :: r).takeWhile fun c=>inNm (smallB c)) = (c0 :: r).takeWhile nmB:=rfl
      by_cases hn : (c0 :: r).takeWhile nmB = []
      · rw [next67C0 _ _ (by omega) c0 rfl hc hx hn]
        unfold nextE oneT
        rw [if_neg hh,e1,hn]
        simp only [List.map_nil,if_true]
        rw [hx]; rfl
      · obtain ⟨t,ht⟩ : ∃ t,(c0 :: r).takeWhile nmB = c0 :: t:=by
          rw [List.takeWhile_cons] at hn ⊢
          split at hn
          · rename_i h; rw [if_pos h]; exact ⟨_,rfl⟩
          · exact absurd rfl hn
        have hne : ((c0 :: r).takeWhile nmB).map smallB≠[]:=by rw [ht]; simp
        have hpos : 0 < ((c0 :: r).takeWhile nmB).length:=List.length_pos_iff.2 hn
        cases hd : digB c0 with
        | true =>
          obtain ⟨d1,d2,d3⟩:=dig_small hd
          have hb : ((c0 :: r).takeWhile nmB).map smallB = c0 :: t.map smallB:=by rw [ht,List.map_cons,d1]
          rw [next67C1 _ _ (by omega) c0 rfl hc hd hx _ rfl hpos _ hb]
          have hw : ¬ (c0 :: t.map smallB) ∈ wordsL:=fun hw=>by
            obtain ⟨c,r',e,hl⟩:=words_low _ hw
            simp only [List.cons.injEq] at e
            rw [← e.1,d2] at hl; cases hl
          have hf : formedL (c0 :: t.map smallB) = false:=by simp [formedL,d2]
          have ho:=oneT_name (p:=numP) hh hb (by simp)
          rw [if_neg hw,hf] at ho
          have hlen : ((c0 :: r).takeWhile nmB).length = (c0 :: t.map smallB).length:=by rw [ht]; simp
          unfold nextE
          rw [ho,hlen]
          simp only [Bool.false_eq_true,if_false,numP,hd,Bool.true_and]
          cases numM (c0 :: t.map smallB) <;> simp
        | false =>
          rw [next67C2 _ (by omega) c0 rfl hc hd hx _ rfl hpos]
          have hb : ((c0 :: r).takeWhile nmB).map smallB = smallB c0 :: t.map smallB:=by rw [ht,List.map_cons]
          have hp : numP (smallB c0 :: t.map smallB) = false:=by simp [numP,small_dig hd]
          have ho:=oneT_name (p:=numP) hh hb (by simp)
          rw [hp] at ho
          unfold nextE nameE
          rw [ho,hb]
          generalize smallB c0 :: t.map smallB = b
          by_cases hw : b ∈ wordsL
          · rw [if_pos hw,if_pos hw]
          · rw [if_neg hw, if_neg hw]
            cases formedL b <;> simp
end Go.Av
