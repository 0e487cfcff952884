/- Part of a proof of syntax_sames. -/
import Derived.Test.YtdcknoijcepibaaGreatDoorQ4
import Derived.Test.YtdcknoijcepibaaGreatDoorQ8
import Derived.Lib.ItoaNum
import Derived.Lib.AtoiAll
import Derived.Lib.Fields
import Derived.Lib.ReplaceLaws
set_option maxRecDepth 100000
set_option linter.unusedSimpArgs false
set_option linter.unusedVariables false
namespace Go.Av
open Go Go.Proofs
def itoaL (n : Int) : List UInt8:=if n < 0 then 45 :: Lib.decDigits n.natAbs else Lib.decDigits n.toNat
theorem itoaB_L {n : Int} (h0 : -9223372036854775808≤n) (h1 : n≤9223372036854775807) : itoaB n = bs (itoaL n):=itoaB_eq h0 h1
end Go.Av
set_option maxRecDepth 100000
set_option linter.unusedSimpArgs false
set_option linter.unusedVariables false
namespace Go.Av
open Go Go.Proofs
def digB (c : UInt8) : Bool:=decide (48≤c.toNat) && decide (c.toNat≤57)
def lowB (c : UInt8) : Bool:=decide (97≤c.toNat) && decide (c.toNat≤122)
def upB (c : UInt8) : Bool:=decide (65≤c.toNat) && decide (c.toNat≤90)
def inNm (c : UInt8) : Bool:=lowB c || digB c || decide (c.toNat = 95)
def smallB (c : UInt8) : UInt8:=if upB c then UInt8.ofNat (c.toNat + 32) else c
theorem smallB_nat (c : UInt8) : (smallB c).toNat = if upB c then c.toNat + 32 else c.toNat:=by
  unfold smallB
  split
  · rename_i h
    simp only [upB,Bool.and_eq_true,decide_eq_true_eq] at h
    simp [UInt8.toNat_ofNat']; omega
  · rfl
def qGo : Nat→List UInt8→Nat
  | _,[]=>0
  | n,[c]=>if c = 39 then n + 1 else 0
  | n,c :: d :: r=>if c = 39 then (if d = 39 then qGo (n + 2) r else n + 1) else qGo (n + 1) (d :: r)
def quotedL (s : List UInt8) : Nat:=qGo 1 (s.drop 1)
theorem qGo_spec : ∀ (k : Nat) (n : Nat) (r : List UInt8),r.length≤k→qGo n r = 0∨(n < qGo n r∧qGo n r - n≤r.length∧r[qGo n r - n - 1]? = some 39 ∧
    ∀ z : List UInt8,z.head?≠some 39→qGo n (r.take (qGo n r - n)++z) = qGo n r)
  | k,n,[],_=>.inl rfl
  | 0,n,c :: r,h=>by simp at h
  | k + 1, n, c :: r, h => by
    by_cases hc : c = 39
    · subst hc
      match r,h with
      | [], _ =>
        right
        have e : qGo n [39] = n + 1:=by simp [qGo]
        rw [e]
        refine ⟨by omega,by simp,by simp,fun z hz=>?_⟩
        have : n + 1 - n = 1:=by omega
        rw [this]
        cases z with
        | nil=>simp [qGo]
        | cons d z =>
          have : ¬ d = 39:=fun e=>hz (by simp [e])
          simp [qGo,this]
      | d :: r, h =>
        by_cases hd : d = 39
        · subst hd
          have e : qGo n (39 :: 39 :: r) = qGo (n + 2) r:=by simp [qGo]
          rw [e]
          rcases qGo_spec k (n + 2) r (by simp at h; omega) with h0 | ⟨h1,h2,h3,h4⟩
          · exact .inl h0
          · right
            refine ⟨by omega,by simp; omega,?_,fun z hz=>?_⟩
            · have : qGo (n + 2) r - n - 1 = (qGo (n + 2) r - (n + 2) - 1) + 2 := by omega
              rw [this]
              simpa using h3
            · have : qGo (n + 2) r - n = (qGo (n + 2) r - (n + 2)) + 2 := by omega
              rw [this]
              simp only [List.take_succ_cons,List.cons_append]
              have e2 : ∀ x,qGo n (39 :: 39 :: x) = qGo (n + 2) x:=fun x=>by simp [qGo]
              rw [e2]
              exact h4 z hz
        · right
          have e : qGo n (39 :: d :: r) = n + 1:=by simp [qGo,hd]
          rw [e]
          refine ⟨by omega,by simp,by simp,fun z hz=>?_⟩
          have : n + 1 - n = 1:=by omega
          rw [this]
          cases z with
          | nil=>simp [qGo]
          | cons d z =>
            have : ¬ d = 39:=fun e=>hz (by simp [e])
            simp [qGo,this]
    · have e : ∀ x, qGo n (c :: x) = qGo (n + 1) x := fun x => by cases x <;> simp [qGo, hc]
      rw [e]
      rcases qGo_spec k (n + 1) r (by simp at h; omega) with h0 | ⟨h1,h2,h3,h4⟩
      · exact .inl h0
      · right
        refine ⟨by omega,by simp; omega,?_,fun z hz=>?_⟩
        · have : qGo (n + 1) r - n - 1 = (qGo (n + 1) r - (n + 1) - 1) + 1 := by omega
          rw [this]
          simpa using h3
        · have : qGo (n + 1) r - n = (qGo (n + 1) r - (n + 1)) + 1 := by omega
          rw [this]
          simp only [List.take_succ_cons,List.cons_append]
          rw [e]
          exact h4 z hz
def und : List UInt8→List UInt8
  | []=>[]
  | [c]=>[c]
  | c :: d :: r=>if c = 39∧d = 39 then 39 :: und r else c :: und (d :: r)
def okText (t : List UInt8) : Bool:=decide ((und t).length≤200) && (und t).all fun b=>decide (32≤b.toNat) && decide (b.toNat≤126)
def midL (s : List UInt8) : List UInt8:=(s.take (s.length - 1)).drop 1
def wordsL : List (List UInt8) := ["all", "and", "as", "asc", "between", "by", "case", "cross", "desc", "distinct", "else", "end", "except", "exists", "false", "from", "full", "group", "having", "in", "inner", "intersect", "is", "join", "left", "limit", "not", "null", "offset", "on", "or", "order", "outer", "right", "select", "then", "true", "union", "values", "when", "where"].map fun s => s.toUTF8.data.toList
def signsL : List (List UInt8):=[[60,61],[62,61],[60,62],[124,124],[40],[41],[44],[46],[42],[43],[45],[47],[37],[61],[60],[62],[59]]
def formedL (s : List UInt8) : Bool:=match s with
  | []=>false
  | c :: r=>decide (s.length≤20) && lowB c && s.all inNm
structure Tok where
  k : Int
  t : List UInt8
  at' : Nat
def oneT (numOk : List UInt8→Bool) (s : List UInt8) : Option (Int×List UInt8) :=
  if s.head? = some 39 then
    (if quotedL s = 0 then none else if okText (midL (s.take (quotedL s))) then some (4,s.take (quotedL s)) else none)
  else
    let b:=(s.takeWhile fun c=>inNm (smallB c)).map smallB
    if b = [] then (signsL.find? fun x=>x.isPrefixOf s).map fun x=>(5,x)
    else if b ∈ wordsL then some (1,b)
    else if formedL b then some (2,b)
    else if numOk b then some (3,b)
    else none
def blankB (c : UInt8) : Bool:=decide (c = 32) || decide (c = 10)
def tokF (numOk : List UInt8→Bool) : Nat→List UInt8→Nat→Option (List Tok)
  | 0,_,_=>none
  | _ + 1,[],_=>some []
  | f + 1, c :: r, n => if blankB c then tokF numOk f r (n + 1) else match oneT numOk (c :: r) with
    | some (k,t)=>(tokF numOk f ((c :: r).drop t.length) (n + t.length)).map fun l=>⟨k,t,n⟩ :: l
    | none=>none
theorem oneT_len {numOk : List UInt8→Bool} {s : List UInt8} {k : Int} {t : List UInt8} (h : oneT numOk s = some (k,t)) : 1≤t.length∧t.length≤s.length:=by
  unfold oneT at h
  split at h
  · rename_i hq
    split at h
    · cases h
    · rename_i hn
      split at h
      · simp only [Option.some.injEq, Prod.mk.injEq] at h
        obtain ⟨_,rfl⟩:=h
        unfold quotedL at *
        rcases qGo_spec _ 1 (s.drop 1) (Nat.le_refl _) with h0 | ⟨h1,h2,_⟩
        · exact absurd h0 hn
        · rw [List.length_drop] at h2
          have hs : 1≤s.length:=by cases s with | nil=>simp at hq | cons=>simp
          rw [List.length_take]
          omega
      · cases h
  · simp only at h
    have hb : ∀ x : List UInt8,x = (s.takeWhile fun c=>inNm (smallB c)).map smallB→x≠[]→1≤x.length∧x.length≤s.length:=by
      rintro x rfl hne
      refine ⟨List.length_pos_iff.2 hne,?_⟩
      rw [List.length_map]
      exact (List.takeWhile_sublist _).length_le
    split at h
    · simp only [Option.map_eq_some_iff, Prod.mk.injEq] at h
      obtain ⟨x,hx,_,rfl⟩:=h
      have h1:=List.mem_of_find?_eq_some hx
      have h2:=List.find?_some hx
      refine ⟨?_,(List.isPrefixOf_iff_prefix.1 h2).length_le⟩
      have : ∀ y ∈ signsL,1≤y.length:=by decide
      exact this x h1
    · rename_i hne
      split at h
      · simp only [Option.some.injEq, Prod.mk.injEq] at h
        exact hb t h.2.symm (h.2 ▸ hne)
      · split at h
        · simp only [Option.some.injEq, Prod.mk.injEq] at h
          exact hb t h.2.symm (h.2 ▸ hne)
        · split at h
          · simp only [Option.some.injEq, Prod.mk.injEq] at h
            exact hb t h.2.symm (h.2 ▸ hne)
          · cases h
end Go.Av
