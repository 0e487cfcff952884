/- Part of a proof of syntax_sames. -/
import Derived.Test.YtdcknoijcepibaaGreatDoorQ10
import Derived.Test.YtdcknoijcepibaaGreatDoorQ13
import Derived.Test.YtdcknoijcepibaaGreatDoorQ14
import Derived.Test.YtdcknoijcepibaaGreatDoorQ9
import Derived.Test.YtdcknoijcepibaaGreatDoorQ8
import Derived.Test.YtdcknoijcepibaaGreatDoorQ4
set_option maxRecDepth 100000
set_option linter.unusedSimpArgs false
set_option linter.unusedVariables false
namespace Go.Av
open Go Go.Proofs Go.RowKit
def nxB (s : ByteArray) : Int×ByteArray×Nat:=match oneT numP s.data.toList with
  | some (k,t)=>(k,bs t,t.length)
  | none=>(0,⟨#[]⟩,0)
theorem nxB_le (s : ByteArray) : (nxB s).2.2≤s.size:=by
  unfold nxB
  split
  · rename_i k t h
    exact (oneT_len h).2
  · exact Nat.zero_le _
def MOw (o : Obj) : Prop:=∃ es clock,o = .map es clock∧∀ g W,MR g W wordsBox.cells es.toList
theorem MOw_map (o : Obj) (h : MOw o) : isMapO o = true:=by
  obtain ⟨es,clock,rfl,_⟩:=h
  rfl
theorem MR_flat : ∀ (l : List (List UInt8)) {g : Gh} {W : World} {es : List MapEntry},MR g W (l.map fun w=>[AV.str (bs w),AV.bool true]).flatten es→∀ g' W',MR g' W' (l.map fun w=>[AV.str (bs w),AV.bool true]).flatten es
  | [],g,W,[],h,g',W'=>trivial
  | [],g,W,e :: es,h,g',W'=>h
  | w :: l, g, W, [], h, g', W' => by
    simp only [List.map_cons,List.flatten_cons,List.cons_append,List.nil_append,MR] at h
  | w :: l, g, W, e :: es, h, g', W' => by
    simp only [List.map_cons,List.flatten_cons,List.cons_append,List.nil_append,MR] at h ⊢
    refine ⟨⟨?_,?_⟩,MR_flat l h.2 g' W'⟩
    · have := h.1.1
      simpa [RV,R] using this
    · have := h.1.2
      simpa [RV,R] using this
theorem box_words {g : Gh} {W : World} (hS : SInv g W [wordsBox]) : ∃ b o,g.B[0]? = some b∧W.heap[b]? = some o∧MOw o∧g.O b = .box 0:=by
  obtain ⟨b,h1,h2⟩:=hS.box 0 wordsBox rfl
  unfold BxS at h2
  rw [if_pos (show wordsBox.map = true from rfl)] at h2
  obtain ⟨_,es,clock,h3,h4,h5,_⟩:=h2
  exact ⟨b,_,h1,h3,⟨es,clock,rfl,fun g' W'=>MR_flat wordsL h4 g' W'⟩,h5⟩
theorem RV_map {g : Gh} {W : World} {v : Value} (h : RV g W (.mapp 0) v) : ∃ b,g.B[0]? = some b∧v = .map (some b):=by
  obtain ⟨h1,h2⟩:=h
  simp only [R] at h1
  obtain ⟨b,hb,e⟩:=h1
  refine ⟨b,hb,?_⟩
  cases v <;> simp_all [Value.cells,AV.isAgg,vAgg]
theorem gOf_base' {W0 W : World} (hW : Below W0.heap.size W0 W) : Base W0 (gOf W) W :=
  ⟨hW.size,hW.os,hW.tape,hW.output,fun b hb=>⟨by simp [gOf]; have:=hW.size; omega,hW.block b hb⟩⟩
theorem setHyp {W0 : World} (hL : LaidV W0) : SetHyp W0 MOw:=by
  intro W hW
  obtain ⟨_,hC⟩:=recL_sound (fun n=>run_sound hL n) _ _ _ _ _ c66
  refine (hC (gOf W) W #[] (gOf_base' hW) (by simp [RT]) (gOf_S W) (gOf_calm W)).mono fun e W' hp=>?_
  obtain ⟨hb,g',v,rfl,hv,hS,hE⟩:=post_old hp
  obtain ⟨b,h1,rfl⟩:=RV_map hv
  obtain ⟨b',o,h1',h2,h3,h4⟩:=box_words hS
  obtain rfl : b = b':=by rw [h1] at h1'; exact Option.some.inj h1'
  refine ⟨hb,b,o,rfl,?_,h2,h3⟩
  rcases Nat.lt_or_ge b W.heap.size with hlt | hge
  · have := (hE.ext b (by simp [gOf, hlt])).1
    rw [h4] at this; cases this
  · exact hge
theorem RV_tok {g : Gh} {W : World} {a c n : Int} {b : ByteArray} {v : Value} (h : RV g W (.tuple [.agg [.int .i64 a,.str b,.int .i64 c],.int .i64 n]) v) : v = .tuple #[.agg #[.int .i64 a,.string b,.int .i64 c],.int .i64 n]:=by
  obtain ⟨h1,h2⟩:=h
  simp only [R,RT,RL] at h1
  obtain ⟨arr,e,v1,r1,e1,⟨⟨x1,y1,f1,⟨_,g1⟩,x2,y2,f2,⟨_,g2⟩,x3,y3,f3,⟨_,g3⟩,f4⟩,a1⟩,v2,r2,e2,⟨k1,a2⟩,e3⟩:=h1
  simp only [List.cons.injEq,and_true] at g1 g2 g3
  subst f4 f3 f2 g1 g2 g3 e3 e2
  have q1 : v1 = .agg #[.int .i64 a,.string b,.int .i64 c]:=by
    cases v1 <;> simp_all [Value.cells,AV.isAgg,vAgg]
    rename_i cs
    have:=congrArg List.toArray f1
    simpa using this
  have q2 : v2 = .int .i64 n:=by
    cases v2 <;> simp_all [Value.cells,AV.isAgg,vAgg]
  obtain ⟨l⟩:=arr
  simp only at e1
  subst e1 q1 q2
  cases v <;> simp_all [Value.cells,AV.isAgg,vAgg]
theorem nextE_nx (s : ByteArray) : nextE s.data.toList = .tuple [.agg [.int .i64 (nxB s).1,.str (nxB s).2.1,.int .i64 0],.int .i64 ((nxB s).2.2 : Int)]:=by
  unfold nextE nxB tokAV emptyTok
  split <;> simp_all
theorem nextHyp {W0 : World} (hL : LaidV W0) : NextHyp nxB W0 MOw:=by
  intro W s b o hW hbW hs0 hs hbo hmo
  have hsl : s.data.toList.length = s.size:=rfl
  have hc:=c67 s.data.toList (by omega) (fun e=>by
    have:=congrArg List.length e
    rw [hsl] at this
    simp only [List.length_nil] at this
    omega)
  rw [← bs_of,nextE_nx] at hc
  obtain ⟨_,hC⟩:=recL_sound (fun n=>run_sound hL n) _ _ _ _ _ hc
  have hlt:=(Array.getElem?_eq_some_iff.1 hbo).1
  let g : Gh:={ T:=fun k=>if k = b then 0 else (gOf W).T k,B:=[b],O:=fun k=>if k = b then .box 0 else (gOf W).O k }
  have hS0:=gOf_S W
  have hB : Base W0 g W:=⟨hW.size,hW.os,hW.tape,hW.output,fun k hk=>by
    have hne : k≠b:=by omega
    have:=hW.size
    exact ⟨by simp [g,hne,gOf]; omega,hW.block k hk⟩⟩
  have hS : SInv g W [wordsBox]:=by
    refine ⟨rfl,fun i x hx=>?_,fun k hk=>?_⟩
    · cases i with
      | zero =>
        simp only [List.getElem?_cons_zero,Option.some.injEq] at hx
        subst hx
        obtain ⟨es,clock,rfl,hm⟩:=hmo
        refine ⟨b,rfl,?_⟩
        unfold BxS
        rw [if_pos (show wordsBox.map = true from rfl)]
        exact ⟨rfl,es,clock,hbo,hm _ _,by simp [g],by simp [g]⟩
      | succ i=>simp at hx
    · have hne : k ≠ b := by omega
      have:=hS0.fresh k hk
      exact ⟨by simp [g,hne,this.1],by simp [g,hne,this.2]⟩
  have hcalm : ∀ k,(g.O k).calm:=fun k=>by
    by_cases e : k = b
    · simp [g,e,Own.calm]
    · simp only [g,e,if_false]; exact gOf_calm W k
  refine (hC g W #[.string s,.map (some b)] hB (by
    show RT g W [.str s,.mapp 0] [.string s,.map (some b)]
    simp only [RT]
    exact ⟨_,_,rfl,RV_str.2 rfl,_,_,rfl,⟨by simp only [R,Value.cells]; exact ⟨b,rfl,rfl⟩,rfl⟩,rfl⟩) hS hcalm).mono fun e W' hp=>?_
  obtain ⟨g',hE,hS',_,v,rfl,hv,_⟩:=hp
  obtain rfl:=RV_tok hv
  obtain ⟨b',o',h1,h2,h3,_⟩:=box_words hS'
  have hb' : g'.B[0]? = some b:=hE.B 0 b rfl
  obtain rfl : b' = b:=by rw [h1] at hb'; exact Option.some.inj hb'
  exact ⟨⟨hE.os,hE.tape,hE.output,hE.size,fun k hk hne=>(hE.ext k (by simp [g,hne,gOf,hk])).2.1⟩,⟨o',h2,h3⟩,rfl⟩
end Go.Av
set_option maxRecDepth 100000
set_option linter.unusedSimpArgs false
set_option linter.unusedVariables false
namespace Go.Av
open Go Go.Proofs Go.RowKit
def Tok.row (x : Tok) : List Value:=[.int .i64 x.k,.string (bs x.t),.int .i64 (x.at' : Int)]
def Tok.av (x : Tok) : AV:=.agg [.int .i64 x.k,.str (bs x.t),.int .i64 (x.at' : Int)]
def tokRows (l : List Tok) : List Value:=(l.map Tok.row).flatten
def ydIs (ys : List Yd) : Option (List Tok)→Prop
  | some l=>ydOk ys = true∧ydRows ys = tokRows l∧ys.length = l.length
  | none=>ydOk ys = false
theorem ydIs_cons {y : Yd} {ys : List Yd} {x : Tok} {o : Option (List Tok)} (h : ydIs ys o) (h1 : y.ok = true) (h2 : y.row = x.row) : ydIs (y :: ys) (o.map fun l=>x :: l):=by
  cases o with
  | none =>
    simp only [ydIs,Option.map_none,ydOk,List.all_cons,h1,Bool.true_and] at h ⊢
    exact h
  | some l =>
    obtain ⟨g1,g2,g3⟩:=h
    refine ⟨?_,?_,by simp [g3]⟩
    · simp only [ydOk,List.all_cons,h1,Bool.true_and]; exact g1
    · simp only [ydRows, tokRows, List.map_cons, List.flatten_cons, h2] at g2 ⊢
      rw [g2]
theorem bs_idx (s : List UInt8) {a : Nat} {c : UInt8} (h : s[a]? = some c) : (bs s)[a]! = c:=by
  have hlt:=(List.getElem?_eq_some_iff.1 h).1
  have h2 : (bs s)[a]? = some c:=by rw [bs_get]; exact h
  rw [getElem!_pos (bs s) a (by rw [bs_size]; exact hlt)]
  rw [getElem?_pos (bs s) a (by rw [bs_size]; exact hlt)] at h2
  exact Option.some.inj h2
theorem nxB_bs (s : List UInt8) : nxB (bs s) = match oneT numP s with
    | some (k,t)=>(k,bs t,t.length)
    | none=>(0,⟨#[]⟩,0):=by
  unfold nxB
  rw [bs_data]
  all_goals (rcases oneT numP s with _ | ⟨k,t⟩ <;> rfl)
theorem yd_tok (s : List UInt8) : ∀ (f a : Nat),s.length < a + f→a≤s.length→ydIs (ydL nxB (bs s) f a) (tokF numP f (s.drop a) a)
  | 0,a,h,ha=>by omega
  | f + 1, a, h, ha => by
    rw [ydL,bs_size]
    by_cases hlt : a < s.length
    · obtain ⟨c, hc⟩ : ∃ c, s[a]? = some c := ⟨s[a], List.getElem?_eq_getElem hlt⟩
      have hb : blankB c = true↔(c = 32∨c = 10):=by simp [blankB]
      have hex : (bs s).extract a s.length = bs (s.drop a):=by rw [bs_extract]; simp
      rw [if_pos hlt,bs_idx s hc,hex]
      have hd:=drop_some hc
      by_cases hbl : c = 32∨c = 10
      · rw [if_pos hbl, hd, tokF, if_pos (hb.2 hbl)]
        exact yd_tok s f (a + 1) (by omega) (by omega)
      · rw [if_neg hbl, nxB_bs]
        have htf : tokF numP (f + 1) (s.drop a) a = match oneT numP (s.drop a) with
            | some (k,t)=>(tokF numP f ((s.drop a).drop t.length) (a + t.length)).map fun l=>⟨k,t,a⟩ :: l
            | none=>none:=by
          conv=>lhs; rw [hd,tokF,if_neg (fun h=>hbl (hb.1 h))]
          rw [hd]
          rcases oneT numP (c :: s.drop (a + 1)) with _ | ⟨k,t⟩ <;> rfl
        rw [htf]
        cases ho : oneT numP (s.drop a) with
        | none=>simp [ydIs,ydOk]
        | some p =>
          obtain ⟨k,t⟩:=p
          obtain ⟨l1,l2⟩:=oneT_len ho
          rw [List.length_drop] at l2
          have ht0 : ¬ t.length = 0:=by omega
          simp only
          rw [if_neg ht0,List.drop_drop]
          refine ydIs_cons (x:=⟨k,t,a⟩) (yd_tok s f (a + t.length) (by omega) (by omega)) ?_ rfl
          simp only [decide_eq_true_eq]; omega
    · rw [if_neg hlt]
      have e : s.drop a = []:=List.drop_eq_nil_of_le (by omega)
      rw [e,tokF]
      exact ⟨rfl,rfl,rfl⟩
def toksOf (s : List UInt8) : Option (List Tok):=tokF numP (s.length + 1) s 0
def tokE (s : List UInt8) : AV:=if 4000 < s.length then .tuple [.slice 3 [],.int .i64 2] else match toksOf s with
  | some l=>.tuple [.slice 3 (l.map Tok.av),.int .i64 0]
  | none=>.tuple [.slice 3 [],.int .i64 80]
def xTokens (args : List AV) (S : List Bx) : Option (AEnd×List Bx) :=
  match args,S with
  | [.str s],[]=>some (.ret (tokE s.data.toList) none,[])
  | _,_=>none
theorem RE_toks {g : Gh} {W : World} : ∀ (l : List Tok),RE g W 3 (l.map Tok.av) (tokRows l)
  | []=>by simp [RE,tokRows]
  | x :: l => by
    simp only [List.map_cons,RE]
    refine ⟨x.row,tokRows l,by simp [tokRows],rfl,⟨rfl,?_⟩,RE_toks l⟩
    simp [Tok.av,Tok.row,R,RL,AV.isCell]
theorem RV_two {g : Gh} {W : World} {a : AV} {n : Int} {v : Value} (h : RV g W a v) : RV g W (.tuple [a,.int .i64 n]) (.tuple #[v,.int .i64 n]) :=
  ⟨by simp only [Value.cells,R,RT]; exact ⟨_,rfl,_,_,rfl,h,_,_,rfl,⟨rfl,rfl⟩,rfl⟩,rfl⟩
theorem RV_nil3 {g : Gh} {W : World} : RV g W (.slice 3 []) (.slice none 0 0) :=
  ⟨by simp only [Value.cells,R]; exact ⟨none,0,rfl,Nat.le_refl _,.inl trivial⟩,rfl⟩
theorem post_tok {g : Gh} {W W' : World} (hS : SInv g W []) (hc : ∀ b,(g.O b).calm) (hB : Below W.heap.size W W') {l : List Tok} {v : Value} {e n : Nat} {c : Int} (hn : n = l.length) (ho : W'.ownsRow W.heap.size e 3 v n (tokRows l)) :
    Post g W (.ret (.tuple [.slice 3 (l.map Tok.av),.int .i64 c]) none) [] (.returned (.tuple #[v,.int .i64 c])) W':=by
  subst hn
  rcases ho.2 with ⟨rfl,h0⟩ | ⟨gb,cap,cur,rfl,hg,hgg,hcap,hm,hsz,htk⟩
  · obtain rfl : l = [] := List.length_eq_zero_iff.1 h0
    exact post_below hS hc hB (RV_two RV_nil3)
  · have hlt := (Array.getElem?_eq_some_iff.1 hgg).1
    have hrl : (tokRows l).length = l.length * 3:=ho.1
    let g' : Gh:={ g with T:=upd g.T gb (l.length * 3) }
    have hT0 : g.T gb = 0:=(hS.fresh gb hg).1
    have lt : ∀ b,(g.T b≠0∨g.O b≠.free)→b < W.heap.size:=by
      intro b h
      rcases Nat.lt_or_ge b W.heap.size with h1 | h1
      · exact h1
      · have := hS.fresh b h1
        rcases h with h | h
        · exact absurd this.1 h
        · exact absurd this.2 h
    have hE0:=ext_below hS hB
    have hE : Ext g W g' W':=by
      refine ⟨⟨fun b=>?_,hE0.cell,fun _ _ h=>h⟩,hB.size,hB.os,hB.tape,hB.output,fun b hb=>?_⟩
      · show g.T b ≤ upd g.T gb (l.length * 3) b
        by_cases e : b = gb
        · subst e; rw [upd_same,hT0]; omega
        · rw [upd_other _ _ _ _ e]; exact Nat.le_refl _
      · have h1 := lt b (.inr (by rw [hb]; simp))
        have e : b≠gb:=by omega
        exact ⟨hb,hB.block b h1,by show upd g.T gb (l.length * 3) b = _; rw [upd_other _ _ _ _ e]⟩
    have hS' : SInv g' W' []:=by
      refine ⟨hS.len,fun i x hx=>by simp at hx,fun b hb=>?_⟩
      have e : b≠gb:=by omega
      have:=hS.fresh b (Nat.le_trans hB.size hb)
      exact ⟨by show upd g.T gb (l.length * 3) b = _; rw [upd_other _ _ _ _ e]; exact this.1,this.2⟩
    refine ⟨g',hE,hS',fun b=>calm_calmR (hc b),_,rfl,RV_two ?_,fun te h=>by cases h⟩
    refine ⟨?_,rfl⟩
    simp only [Value.cells,R]
    refine ⟨some ⟨gb,0,none⟩,cap,by simp,by simp; exact hcap,.inr ⟨gb,0,tokRows l,rfl,?_,?_,RE_toks l⟩⟩
    · intro j u hu
      have:=ho.cells (g:=gb) rfl j u hu
      rw [add_offJ] at this
      rw [Nat.zero_add]; exact this
    · show 0 + (tokRows l).length ≤ upd g.T gb (l.length * 3) gb
      rw [upd_same,hrl]; omega
theorem soundTokens {W0 : World} (hL : LaidV W0) : SoundFun Tryz.prog W0 20 xTokens:=by
  intro args S e S' h
  refine ⟨callable Tryz.func20 (by kernel_rfl) (by kernel_rfl),fun g W vs hB hT hS hcalm=>?_⟩
  unfold xTokens at h
  split at h
  · rename_i s
    simp only [Option.some.injEq,Prod.mk.injEq] at h
    obtain ⟨rfl,rfl⟩:=h
    obtain ⟨l⟩:=vs
    simp only [RT] at hT
    obtain ⟨v1,r1,hl,hv1,rfl⟩:=hT
    subst hl
    obtain rfl:=RV_str.1 hv1
    have hW : Below W0.heap.size W0 W:=⟨hB.os,hB.tape,hB.output,hB.size,fun k hk=>(hB.ext k hk).2⟩
    refine (Tokens_in (setHyp hL) (nextHyp hL) nxB_le MOw_map s W hW).mono fun e w' hh=>?_
    obtain ⟨hb,hh⟩:=hh
    have hsl : s.data.toList.length = s.size:=rfl
    have hy:=yd_tok s.data.toList (s.size + 1) 0 (by omega) (Nat.zero_le _)
    rw [← bs_of,List.drop_zero] at hy
    unfold tokE toksOf
    rw [hsl]
    by_cases hbig : 4000 < s.size
    · rw [if_pos hbig] at hh ⊢
      subst hh
      exact post_below hS hcalm hb (RV_two RV_nil3)
    · rw [if_neg hbig] at hh ⊢
      cases ht : tokF numP (s.size + 1) s.data.toList 0 with
      | none =>
        rw [ht] at hy
        simp only [ydIs] at hy
        rw [hy] at hh
        simp only [Bool.false_eq_true,if_false] at hh
        subst hh
        exact post_below hS hcalm hb (RV_two RV_nil3)
      | some toks =>
        rw [ht] at hy
        obtain ⟨y1,y2,y3⟩:=hy
        rw [y1] at hh
        simp only [if_true] at hh
        obtain ⟨v,rfl,ho⟩:=hh
        rw [y2] at ho
        exact post_tok hS hcalm hb y3 ho
  · cases h
end Go.Av
set_option maxRecDepth 100000
set_option linter.unusedSimpArgs false
set_option linter.unusedVariables false
namespace Go.Av
open Go Go.Proofs Go.RowKit
def tkIn : List AV→Option (List Tk)
  | []=>some []
  | .agg [.int .i64 k,.str t,.int .i64 a] :: r=>(tkIn r).map fun l=>(k,t,a) :: l
  | _=>none
def tkRow (x : Tk) : List Value:=[.int .i64 x.1,.string x.2.1,.int .i64 x.2.2]
theorem tkIn_cells {g : Gh} {W : World} : ∀ {es : List AV} {xs : List Tk} {ms : List Value},tkIn es = some xs→RE g W 3 es ms→ms = (xs.map tkRow).flatten∧xs.length = es.length
  | [], xs, ms, h, hE => by
    simp only [tkIn,Option.some.injEq] at h
    subst h
    simp only [RE] at hE
    simp [hE]
  | e :: es, xs, ms, h, hE => by
    unfold tkIn at h
    split at h
    · rename_i h'
      cases h'
    · rename_i k t a r h'
      simp only [List.cons.injEq] at h'
      obtain ⟨rfl,rfl⟩:=h'
      simp only [Option.map_eq_some_iff] at h
      obtain ⟨ys,hy,rfl⟩:=h
      simp only [RE] at hE
      obtain ⟨x,r,rfl,hx,⟨_,hR⟩,hE⟩:=hE
      obtain ⟨h1,h2⟩:=tkIn_cells hy hE
      simp only [R,RL] at hR
      obtain ⟨x1,y1,f1,⟨_,g1⟩,x2,y2,f2,⟨_,g2⟩,x3,y3,f3,⟨_,g3⟩,f4⟩:=hR
      simp only [List.cons.injEq,and_true] at g1 g2 g3
      subst f4 f3 f2 f1 g1 g2 g3
      simp [h1,h2,tkRow]
    · cases h
theorem rows_at : ∀ (xs : List Tk) (j : Nat) (x : Tk),xs[j]? = some x→(xs.map tkRow).flatten[j * 3]? = some (.int .i64 x.1)∧(xs.map tkRow).flatten[j * 3 + 1]? = some (.string x.2.1)∧(xs.map tkRow).flatten[j * 3 + 2]? = some (.int .i64 x.2.2)
  | [],j,x,h=>by simp at h
  | y :: xs, 0, x, h => by
    simp only [List.getElem?_cons_zero,Option.some.injEq] at h
    subst h
    simp [tkRow]
  | y :: xs, j + 1, x, h => by
    simp only [List.getElem?_cons_succ] at h
    obtain ⟨h1,h2,h3⟩:=rows_at xs j x h
    have e : (j + 1) * 3 = j * 3 + 3:=by omega
    refine ⟨?_,?_,?_⟩
    · rw [e]; simpa [tkRow] using h1
    · rw [e]; simpa [tkRow] using h2
    · rw [e]; simpa [tkRow] using h3
def xTokJoin (args : List AV) (S : List Bx) : Option (AEnd×List Bx) :=
  match args with
  | [.slice 3 es] => match tkIn es with
    | some xs=>if xs.length≤1000000∧(Lib.join (xs.map (fun x=>x.2.1.data.toList)) [32]).length≤140737488355328 then some (.ret (.str ⟨(Lib.join (xs.map (fun x=>x.2.1.data.toList)) [32]).toArray⟩) none,S) else none
    | none=>none
  | _=>none
theorem soundTokJoin (W0 : World) : SoundFun Tryz.prog W0 30 xTokJoin:=by
  intro args S e S' h
  refine ⟨callable Tryz.func30 (by kernel_rfl) (by kernel_rfl),fun g W vs hB hT hS hcalm=>?_⟩
  unfold xTokJoin at h
  split at h
  · rename_i es
    split at h
    · rename_i xs hxs
      split at h
      · rename_i hb
        simp only [Option.some.injEq,Prod.mk.injEq] at h
        obtain ⟨rfl,rfl⟩:=h
        obtain ⟨l⟩:=vs
        simp only [RT] at hT
        obtain ⟨v1,r1,hl,hv1,rfl⟩:=hT
        subst hl
        obtain ⟨p,cap,rfl,hcap,hes⟩:=RV_slice hv1
        have hlen : xs.length = es.length:=by
          cases es with
          | nil =>
            simp only [tkIn,Option.some.injEq] at hxs
            subst hxs; rfl
          | cons e0 es0 =>
            rcases hes with hes | ⟨b,o,ms,rfl,hm,hTb,hE⟩
            · cases hes
            · exact (tkIn_cells hxs hE).2
        have hin : TksIn W p W.heap.size xs:=by
          rcases hes with rfl | ⟨b,o,ms,rfl,hm,hTb,hE⟩
          · exact .inl (List.length_eq_zero_iff.1 hlen)
          · obtain ⟨rfl, _⟩ := tkIn_cells hxs hE
            rcases xs with _ | ⟨x0,xs0⟩
            · exact .inl rfl
            · refine .inr ⟨b, o, rfl, ?_, fun j x hj => ?_⟩
              · have := hm 0 (.int .i64 x0.1) (by simp [tkRow])
                unfold World.cell? at this
                simp only at this
                rcases Nat.lt_or_ge b W.heap.size with h1 | h1
                · exact h1
                · rw [Array.getElem?_eq_none h1] at this; cases this
              · obtain ⟨h1, h2, h3⟩ := rows_at _ j x hj
                exact ⟨hm _ _ h1,hm _ _ h2,hm _ _ h3⟩
        rw [← hlen]
        refine (Join_in p cap xs W (by omega) (by omega) hin hb.2).mono fun e w' hh=>?_
        obtain ⟨rfl,hbel⟩:=hh
        exact post_str hS hcalm hbel _
      · cases h
    · cases h
  · cases h
def tabX1 : List (Nat×Ext'):=(20,xTokens) :: (30,xTokJoin) :: tabX
end Go.Av
set_option linter.unusedVariables false
namespace Go.Av
open Go
structure Ky where
  name : List UInt8
  at' : Int
  desc : Bool
mutual
inductive Nd where
  | mk (op : Int) (text : List UInt8) (num : Int) (no dis : Bool) (args : List Nd) (query : List Qr)
inductive It where
  | mk (star : Bool) (table : List UInt8) (expr : List Nd) (as' : List UInt8)
inductive Sr where
  | mk (op : Int) (name as' : List UInt8) (query : List Qr) (ins : List Sr) (on : List Nd)
inductive Bd where
  | mk (op : Int) (all dis : Bool) (items : List It) (frm : List Sr) (whr group having : List Nd) (rows : List (List Nd)) (ins : List Qr)
inductive Qr where
  | mk (body : Bd) (keys : List Ky) (limit offset : Int)
end
def Ky.av (k : Ky) : AV:=.agg [.str (bs k.name),.int .i64 k.at',.bool k.desc]
mutual
def Nd.av : Nd→AV
  | .mk op text num no dis args query=>.agg [.int .i64 op,.str (bs text),.int .i64 num,.bool no,.bool dis,.slice 7 (ndsAV args),.slice 13 (qrsAV query)]
def ndsAV : List Nd→List AV
  | []=>[]
  | n :: r=>n.av :: ndsAV r
def It.av : It→AV
  | .mk star table expr as'=>.agg [.bool star,.str (bs table),.slice 7 (ndsAV expr),.str (bs as')]
def itsAV : List It→List AV
  | []=>[]
  | n :: r=>n.av :: itsAV r
def Sr.av : Sr→AV
  | .mk op name as' query ins on=>.agg [.int .i64 op,.str (bs name),.str (bs as'),.slice 13 (qrsAV query),.slice 6 (srsAV ins),.slice 7 (ndsAV on)]
def srsAV : List Sr→List AV
  | []=>[]
  | n :: r=>n.av :: srsAV r
def rowsAV : List (List Nd)→List AV
  | []=>[]
  | n :: r=>.slice 7 (ndsAV n) :: rowsAV r
def Bd.cells : Bd→List AV
  | .mk op all dis items frm whr group having rows ins=>[.int .i64 op,.bool all,.bool dis,.slice 4 (itsAV items),.slice 6 (srsAV frm),.slice 7 (ndsAV whr),.slice 7 (ndsAV group),.slice 7 (ndsAV having),.slice 1 (rowsAV rows),.slice 13 (qrsAV ins)]
def Qr.av : Qr→AV
  | .mk body keys limit offset=>.agg (body.cells++[.slice 3 (keys.map Ky.av),.int .i64 limit,.int .i64 offset])
def qrsAV : List Qr→List AV
  | []=>[]
  | n :: r=>n.av :: qrsAV r
end
def Bd.av (b : Bd) : AV:=.agg b.cells
theorem ndsAV_map : ∀ l : List Nd,ndsAV l = l.map Nd.av
  | []=>rfl
  | n :: r=>by simp [ndsAV,ndsAV_map r]
theorem qrsAV_map : ∀ l : List Qr,qrsAV l = l.map Qr.av
  | []=>rfl
  | n :: r=>by simp [qrsAV,qrsAV_map r]
theorem itsAV_map : ∀ l : List It,itsAV l = l.map It.av
  | []=>rfl
  | n :: r=>by simp [itsAV,itsAV_map r]
theorem srsAV_map : ∀ l : List Sr,srsAV l = l.map Sr.av
  | []=>rfl
  | n :: r=>by simp [srsAV,srsAV_map r]
theorem rowsAV_map : ∀ l : List (List Nd),rowsAV l = l.map fun r=>.slice 7 (ndsAV r)
  | []=>rfl
  | n :: r=>by simp [rowsAV,rowsAV_map r]
theorem ndsAV_len (l : List Nd) : (ndsAV l).length = l.length:=by rw [ndsAV_map]; simp
theorem qrsAV_len (l : List Qr) : (qrsAV l).length = l.length:=by rw [qrsAV_map]; simp
theorem itsAV_len (l : List It) : (itsAV l).length = l.length:=by rw [itsAV_map]; simp
theorem srsAV_len (l : List Sr) : (srsAV l).length = l.length:=by rw [srsAV_map]; simp
theorem rowsAV_len (l : List (List Nd)) : (rowsAV l).length = l.length:=by rw [rowsAV_map]; simp
theorem ndsAV_app (l r : List Nd) : ndsAV (l++r) = ndsAV l++ndsAV r:=by simp [ndsAV_map]
theorem qrsAV_app (l r : List Qr) : qrsAV (l++r) = qrsAV l++qrsAV r:=by simp [qrsAV_map]
theorem itsAV_app (l r : List It) : itsAV (l++r) = itsAV l++itsAV r:=by simp [itsAV_map]
theorem srsAV_app (l r : List Sr) : srsAV (l++r) = srsAV l++srsAV r:=by simp [srsAV_map]
theorem rowsAV_app (l r : List (List Nd)) : rowsAV (l++r) = rowsAV l++rowsAV r:=by simp [rowsAV_map]
theorem ndsAV_get {l : List Nd} {i : Nat} {n : Nd} (h : l[i]? = some n) : (ndsAV l)[i]? = some n.av:=by rw [ndsAV_map,List.getElem?_map,h]; rfl
theorem qrsAV_get {l : List Qr} {i : Nat} {n : Qr} (h : l[i]? = some n) : (qrsAV l)[i]? = some n.av:=by rw [qrsAV_map,List.getElem?_map,h]; rfl
theorem itsAV_get {l : List It} {i : Nat} {n : It} (h : l[i]? = some n) : (itsAV l)[i]? = some n.av:=by rw [itsAV_map,List.getElem?_map,h]; rfl
theorem srsAV_get {l : List Sr} {i : Nat} {n : Sr} (h : l[i]? = some n) : (srsAV l)[i]? = some n.av:=by rw [srsAV_map,List.getElem?_map,h]; rfl
theorem rowsAV_get {l : List (List Nd)} {i : Nat} {n : List Nd} (h : l[i]? = some n) : (rowsAV l)[i]? = some (.slice 7 (ndsAV n)):=by rw [rowsAV_map,List.getElem?_map,h]; rfl
def Bd.zero : Bd:=.mk 0 false false [] [] [] [] [] [] []
def Qr.zero : Qr:=.mk .zero [] 0 0
end Go.Av
set_option linter.unusedVariables false
namespace Go.Av
open Go
def ms (L : Int) : Int:=IntKind.wrap .i64 (L - 1)
def sh (s : List UInt8) : List UInt8:=s.take 210
def thKs : List Ky→Int→List Ky×Int
  | [],L=>([],L)
  | k :: r,L=>if 0≤ms L then
      let q:=thKs r (ms L)
      (⟨sh k.name,k.at',k.desc⟩ :: q.1,q.2) else ([],ms L)
mutual
def thN : Nd→Int→Nd×Int
  | .mk op text num no dis args query, L =>
    let a:=thNs args L
    let q:=thQs query a.2
    (.mk op (sh text) num no dis a.1 q.1,q.2)
def thNs : List Nd→Int→List Nd×Int
  | [],L=>([],L)
  | n :: r,L=>if 0≤ms L then
      let p:=thN n (ms L)
      let q:=thNs r p.2
      (p.1 :: q.1,q.2) else ([],ms L)
def thI : It→Int→It×Int
  | .mk star table expr as', L =>
    let p:=thNs expr L
    (.mk star (sh table) p.1 (sh as'),p.2)
def thIs : List It→Int→List It×Int
  | [],L=>([],L)
  | n :: r,L=>if 0≤ms L then
      let p:=thI n (ms L)
      let q:=thIs r p.2
      (p.1 :: q.1,q.2) else ([],ms L)
def thS : Sr→Int→Sr×Int
  | .mk op name as' query ins on, L =>
    let a:=thQs query L
    let b:=thSs ins a.2
    let c:=thNs on b.2
    (.mk op (sh name) (sh as') a.1 b.1 c.1,c.2)
def thSs : List Sr→Int→List Sr×Int
  | [],L=>([],L)
  | n :: r,L=>if 0≤ms L then
      let p:=thS n (ms L)
      let q:=thSs r p.2
      (p.1 :: q.1,q.2) else ([],ms L)
def thRs : List (List Nd)→Int→List (List Nd)×Int
  | [],L=>([],L)
  | n :: r,L=>if 0≤ms L then
      let p:=thNs n (ms L)
      let q:=thRs r p.2
      (p.1 :: q.1,q.2) else ([],ms L)
def thB : Bd→Int→Bd×Int
  | .mk op all dis items frm whr group having rows ins, L =>
    let a:=thIs items L
    let b:=thSs frm a.2
    let c:=thNs whr b.2
    let d:=thNs group c.2
    let e:=thNs having d.2
    let f:=thRs rows e.2
    let g:=thQs ins f.2
    (.mk op all dis a.1 b.1 c.1 d.1 e.1 f.1 g.1,g.2)
def thQ : Qr→Int→Qr×Int
  | .mk body keys limit offset, L =>
    let b:=thB body L
    let k:=thKs keys b.2
    (.mk b.1 k.1 limit offset,k.2)
def thQs : List Qr→Int→List Qr×Int
  | [],L=>([],L)
  | n :: r,L=>if 0≤ms L then
      let p:=thQ n (ms L)
      let q:=thQs r p.2
      (p.1 :: q.1,q.2) else ([],ms L)
end
def cutL {α β : Type} (g : α→Int→β×Int) : List α→Int→List β×Int
  | [],L=>([],L)
  | x :: r,L=>if 0≤ms L then
      let p:=g x (ms L)
      let q:=cutL g r p.2
      (p.1 :: q.1,q.2) else ([],ms L)
theorem thNs_cut : ∀ (l : List Nd) (L : Int),thNs l L = cutL thN l L
  | [],L=>rfl
  | n :: r,L=>by simp only [thNs,cutL]; split <;> simp [thNs_cut r]
theorem thIs_cut : ∀ (l : List It) (L : Int),thIs l L = cutL thI l L
  | [],L=>rfl
  | n :: r,L=>by simp only [thIs,cutL]; split <;> simp [thIs_cut r]
theorem thSs_cut : ∀ (l : List Sr) (L : Int),thSs l L = cutL thS l L
  | [],L=>rfl
  | n :: r,L=>by simp only [thSs,cutL]; split <;> simp [thSs_cut r]
theorem thRs_cut : ∀ (l : List (List Nd)) (L : Int),thRs l L = cutL thNs l L
  | [],L=>rfl
  | n :: r,L=>by simp only [thRs,cutL]; split <;> simp [thRs_cut r]
theorem thQs_cut : ∀ (l : List Qr) (L : Int),thQs l L = cutL thQ l L
  | [],L=>rfl
  | n :: r,L=>by simp only [thQs,cutL]; split <;> simp [thQs_cut r]
theorem thKs_cut : ∀ (l : List Ky) (L : Int),thKs l L = cutL (fun k L=>(⟨sh k.name,k.at',k.desc⟩,L)) l L
  | [],L=>rfl
  | n :: r,L=>by simp only [thKs,cutL]; split <;> simp [thKs_cut r]
theorem loop_cut {f : St→Option (AEx×St)} {α β : Type} (g : α→Int→β×Int) (Inv : List β→Int→Prop) (st : List β→Int→Nat→St) (fin : List β→Int→AEx×St) (hfin : ∀ a L,(fin a L).1≠.normal) (l : List α)
    (hround : ∀ acc L (i : Nat) x,Inv acc L→l[i]? = some x→0≤ms L→f (st acc L i) = some (.normal,st (acc++[(g x (ms L)).1]) (g x (ms L)).2 (i + 1))∧Inv (acc++[(g x (ms L)).1]) (g x (ms L)).2)
    (hstop : ∀ acc L (i : Nat) x,Inv acc L→l[i]? = some x→¬ 0≤ms L→f (st acc L i) = some (fin acc (ms L)))
    (hend : ∀ acc L,Inv acc L→f (st acc L l.length) = some (fin acc L)) (L : Int) (h0 : Inv [] L) : aloopW f (st [] L 0) = some (fin (cutL g l L).1 (cutL g l L).2):=by
  have key : ∀ (m pre : List α) (acc : List β) (L : Int),Inv acc L→l = pre++m→aloopW f (st acc L pre.length) = some (fin (acc++(cutL g m L).1) (cutL g m L).2):=by
    intro m
    induction m with
    | nil =>
      intro pre acc L hI e
      simp only [List.append_nil] at e
      subst e
      rw [aloopW_stop (hend acc L hI) (hfin _ _)]
      simp [cutL]
    | cons x m ih =>
      intro pre acc L hI e
      have hx : l[pre.length]? = some x:=by rw [e]; simp
      by_cases h0 : 0≤ms L
      · obtain ⟨h1, h2⟩ := hround acc L pre.length x hI hx h0
        rw [aloopW_step h1]
        have:=ih (pre++[x]) (acc++[(g x (ms L)).1]) (g x (ms L)).2 h2 (by rw [e]; simp)
        simp only [List.length_append,List.length_cons,List.length_nil,Nat.zero_add] at this
        rw [this]
        simp [cutL,h0]
      · rw [aloopW_stop (hstop acc L pre.length x hI hx h0) (hfin _ _)]
        simp [cutL,h0]
  have:=key l [] [] L h0 rfl
  simpa using this
def Po (L : Int) : Int:=if 0≤L then -10 * L else L
def Bd1 (c L L' : Int) : Prop:=L'≤L∧Po L - c≤Po L'
def Ok1 (c L : Int) : Prop:=L≤20000∧-1000000000000 + c≤Po L
theorem ms_eq {c L : Int} (h : Ok1 c L) (hc : 0≤c) : ms L = L - 1:=by
  obtain ⟨h1,h2⟩:=h
  unfold ms
  refine wr64 ?_ ?_
  · unfold Po at h2; split at h2 <;> omega
  · omega
theorem Ok1.step {c L L' : Int} (h : Ok1 c L) {d e : Int} (hb : Bd1 d L L') (he : e + d≤c) : Ok1 e L':=by
  obtain ⟨h1,h2⟩:=h
  obtain ⟨h3,h4⟩:=hb
  exact ⟨by omega,by omega⟩
theorem Bd1.trans {c d L L' L'' : Int} (h : Bd1 c L L') (k : Bd1 d L' L'') : Bd1 (c + d) L L'':=⟨by have:=h.1; have:=k.1; omega,by have:=h.2; have:=k.2; omega⟩
theorem Bd1.refl (L : Int) : Bd1 0 L L:=⟨Int.le_refl _,by omega⟩
theorem Po_step {L : Int} (h : 0≤L - 1) : Po (L - 1) = Po L + 10:=by unfold Po; rw [if_pos h,if_pos (by omega)]; omega
theorem Po_stop {L : Int} (h : ¬ 0≤L - 1) : Po L - 1≤Po (L - 1):=by
  unfold Po; rw [if_neg h]
  split <;> omega
theorem cut_bd {α β : Type} {g : α→Int→β×Int} {c : Int} (hc : 0≤c) (hc9 : c≤9) : ∀ (l : List α) (L : Int),(∀ x ∈ l,∀ L,Ok1 c L→Bd1 c L (g x L).2)→Ok1 1 L→Bd1 1 L (cutL g l L).2
  | [],L,_,h=>⟨Int.le_refl _,by show Po L - 1≤Po L; omega⟩
  | x :: r, L, hg, h => by
    simp only [cutL]
    have e:=ms_eq h (by omega)
    by_cases h0 : 0≤ms L
    · rw [if_pos h0]
      simp only
      rw [e] at h0 ⊢
      have p1:=Po_step h0
      obtain ⟨h1,h2⟩:=h
      have ok1 : Ok1 c (L - 1):=⟨by omega,by omega⟩
      have b1:=hg x (.head _) (L - 1) ok1
      have b1':=b1
      obtain ⟨b2,b3⟩:=b1'
      have ok2 : Ok1 1 (g x (L - 1)).2:=⟨by omega,by omega⟩
      have b4:=cut_bd hc hc9 r (g x (L - 1)).2 (fun y hy=>hg y (.tail _ hy)) ok2
      obtain ⟨b5,b6⟩:=b4
      exact ⟨by omega,by omega⟩
    · rw [if_neg h0]
      simp only
      rw [e] at h0 ⊢
      exact ⟨by omega,by have:=Po_stop h0; omega⟩
mutual
theorem thN_bd : ∀ (n : Nd) (L : Int),Ok1 2 L→Bd1 2 L (thN n L).2
  | .mk op text num no dis args query, L, h => by
    simp only [thN]
    have b1:=thNs_bd args L (h.step (Bd1.refl L) (by omega))
    have b2:=thQs_bd query _ (h.step b1 (by omega))
    exact b1.trans b2
theorem thNs_bd : ∀ (l : List Nd) (L : Int),Ok1 1 L→Bd1 1 L (thNs l L).2
  | [],L,_=>⟨Int.le_refl _,by show Po L - 1≤Po L; omega⟩
  | n :: r, L, h => by
    have hn:=thN_bd n
    have hr:=thNs_bd r
    have:=cut_bd (g:=thN) (c:=2) (by omega) (by omega) [n] L (fun x hx=>by
      simp only [List.mem_singleton] at hx
      subst hx; exact hn) h
    simp only [cutL,thNs] at this ⊢
    by_cases h0 : 0≤ms L
    · rw [if_pos h0] at this ⊢
      simp only at this ⊢
      have e:=ms_eq h (by omega)
      rw [e] at h0 this ⊢
      have p1:=Po_step h0
      obtain ⟨h1,h2⟩:=h
      obtain ⟨b2,b3⟩:=hn (L - 1) ⟨by omega,by omega⟩
      obtain ⟨b5,b6⟩:=hr (thN n (L - 1)).2 ⟨by omega,by omega⟩
      exact ⟨by omega,by omega⟩
    · rw [if_neg h0] at this ⊢
      exact this
theorem thI_bd : ∀ (n : It) (L : Int),Ok1 1 L→Bd1 1 L (thI n L).2
  | .mk star table expr as', L, h => by
    simp only [thI]
    exact thNs_bd expr L h
theorem thIs_bd : ∀ (l : List It) (L : Int),Ok1 1 L→Bd1 1 L (thIs l L).2
  | [],L,_=>⟨Int.le_refl _,by show Po L - 1≤Po L; omega⟩
  | n :: r, L, h => by
    have hn:=thI_bd n
    have hr:=thIs_bd r
    have:=cut_bd (g:=thI) (c:=1) (by omega) (by omega) [n] L (fun x hx=>by
      simp only [List.mem_singleton] at hx
      subst hx; exact hn) h
    simp only [cutL,thIs] at this ⊢
    by_cases h0 : 0≤ms L
    · rw [if_pos h0] at this ⊢
      simp only at this ⊢
      have e:=ms_eq h (by omega)
      rw [e] at h0 this ⊢
      have p1:=Po_step h0
      obtain ⟨h1,h2⟩:=h
      obtain ⟨b2,b3⟩:=hn (L - 1) ⟨by omega,by omega⟩
      obtain ⟨b5,b6⟩:=hr (thI n (L - 1)).2 ⟨by omega,by omega⟩
      exact ⟨by omega,by omega⟩
    · rw [if_neg h0] at this ⊢
      exact this
theorem thS_bd : ∀ (n : Sr) (L : Int),Ok1 3 L→Bd1 3 L (thS n L).2
  | .mk op name as' query ins on, L, h => by
    simp only [thS]
    have b1:=thQs_bd query L (h.step (Bd1.refl L) (by omega))
    have b2:=thSs_bd ins _ (h.step b1 (by omega))
    have b3:=thNs_bd on _ (h.step (b1.trans b2) (by omega))
    exact (b1.trans b2).trans b3
theorem thSs_bd : ∀ (l : List Sr) (L : Int),Ok1 1 L→Bd1 1 L (thSs l L).2
  | [],L,_=>⟨Int.le_refl _,by show Po L - 1≤Po L; omega⟩
  | n :: r, L, h => by
    have hn:=thS_bd n
    have hr:=thSs_bd r
    have:=cut_bd (g:=thS) (c:=3) (by omega) (by omega) [n] L (fun x hx=>by
      simp only [List.mem_singleton] at hx
      subst hx; exact hn) h
    simp only [cutL,thSs] at this ⊢
    by_cases h0 : 0≤ms L
    · rw [if_pos h0] at this ⊢
      simp only at this ⊢
      have e:=ms_eq h (by omega)
      rw [e] at h0 this ⊢
      have p1:=Po_step h0
      obtain ⟨h1,h2⟩:=h
      obtain ⟨b2,b3⟩:=hn (L - 1) ⟨by omega,by omega⟩
      obtain ⟨b5,b6⟩:=hr (thS n (L - 1)).2 ⟨by omega,by omega⟩
      exact ⟨by omega,by omega⟩
    · rw [if_neg h0] at this ⊢
      exact this
theorem thRs_bd : ∀ (l : List (List Nd)) (L : Int),Ok1 1 L→Bd1 1 L (thRs l L).2
  | [],L,_=>⟨Int.le_refl _,by show Po L - 1≤Po L; omega⟩
  | n :: r, L, h => by
    have hn:=thNs_bd n
    have hr:=thRs_bd r
    have:=cut_bd (g:=thNs) (c:=1) (by omega) (by omega) [n] L (fun x hx=>by
      simp only [List.mem_singleton] at hx
      subst hx; exact hn) h
    simp only [cutL,thRs] at this ⊢
    by_cases h0 : 0≤ms L
    · rw [if_pos h0] at this ⊢
      simp only at this ⊢
      have e:=ms_eq h (by omega)
      rw [e] at h0 this ⊢
      have p1:=Po_step h0
      obtain ⟨h1,h2⟩:=h
      obtain ⟨b2,b3⟩:=hn (L - 1) ⟨by omega,by omega⟩
      obtain ⟨b5,b6⟩:=hr (thNs n (L - 1)).2 ⟨by omega,by omega⟩
      exact ⟨by omega,by omega⟩
    · rw [if_neg h0] at this ⊢
      exact this
theorem thB_bd : ∀ (b : Bd) (L : Int),Ok1 7 L→Bd1 7 L (thB b L).2
  | .mk op all dis items frm whr group having rows ins, L, h => by
    simp only [thB]
    have b1:=thIs_bd items L (h.step (Bd1.refl L) (by omega))
    have b2:=b1.trans (thSs_bd frm _ (h.step b1 (by omega)))
    have b3:=b2.trans (thNs_bd whr _ (h.step b2 (by omega)))
    have b4:=b3.trans (thNs_bd group _ (h.step b3 (by omega)))
    have b5:=b4.trans (thNs_bd having _ (h.step b4 (by omega)))
    have b6:=b5.trans (thRs_bd rows _ (h.step b5 (by omega)))
    exact b6.trans (thQs_bd ins _ (h.step b6 (by omega)))
theorem thQ_bd : ∀ (q : Qr) (L : Int),Ok1 8 L→Bd1 8 L (thQ q L).2
  | .mk body keys limit offset, L, h => by
    simp only [thQ]
    have b1:=thB_bd body L (h.step (Bd1.refl L) (by omega))
    have b2 : Bd1 1 (thB body L).2 (thKs keys (thB body L).2).2:=by
      rw [thKs_cut]
      exact cut_bd (c:=0) (by omega) (by omega) keys _ (fun x _ L _=>Bd1.refl L) (h.step b1 (by omega))
    exact b1.trans b2
theorem thQs_bd : ∀ (l : List Qr) (L : Int),Ok1 1 L→Bd1 1 L (thQs l L).2
  | [],L,_=>⟨Int.le_refl _,by show Po L - 1≤Po L; omega⟩
  | n :: r, L, h => by
    have hn:=thQ_bd n
    have hr:=thQs_bd r
    have:=cut_bd (g:=thQ) (c:=8) (by omega) (by omega) [n] L (fun x hx=>by
      simp only [List.mem_singleton] at hx
      subst hx; exact hn) h
    simp only [cutL,thQs] at this ⊢
    by_cases h0 : 0≤ms L
    · rw [if_pos h0] at this ⊢
      simp only at this ⊢
      have e:=ms_eq h (by omega)
      rw [e] at h0 this ⊢
      have p1:=Po_step h0
      obtain ⟨h1,h2⟩:=h
      obtain ⟨b2,b3⟩:=hn (L - 1) ⟨by omega,by omega⟩
      obtain ⟨b5,b6⟩:=hr (thQ n (L - 1)).2 ⟨by omega,by omega⟩
      exact ⟨by omega,by omega⟩
    · rw [if_neg h0] at this ⊢
      exact this
end
def CutI {β : Type} (acc : List β) (L : Int) : Prop:=Ok1 1 L∧L + acc.length≤20000∧acc.length≤20000
theorem CutI.start {β : Type} {L : Int} (h : Ok1 1 L) : CutI ([] : List β) L:=⟨h,by have:=h.1; simp; omega,by simp⟩
theorem CutI.next {β : Type} {acc : List β} {L L' c : Int} {x : β} (h : CutI acc L) (h0 : 0≤ms L) (hb : Ok1 c (ms L)→Bd1 c (ms L) L') (hc : 0≤c) (hc9 : c≤9) : Ok1 c (ms L)∧CutI (acc++[x]) L':=by
  obtain ⟨⟨h1,h2⟩,h3,h4⟩:=h
  have e:=ms_eq (c:=1) ⟨h1,h2⟩ (by omega)
  rw [e] at h0 hb ⊢
  have p1:=Po_step h0
  have ok : Ok1 c (L - 1):=⟨by omega,by omega⟩
  obtain ⟨b1,b2⟩:=hb ok
  refine ⟨ok,⟨by omega,by omega⟩,?_,?_⟩
  · simp; omega
  · simp; omega
def maxL : Nat:=9223372036854775807
mutual
def Nd.fit : Nd→Prop
  | .mk _ text _ _ _ args query=>text.length≤maxL∧args.length≤maxL∧query.length≤maxL∧ndsFit args∧qrsFit query
def ndsFit : List Nd→Prop
  | []=>True
  | n :: r=>n.fit∧ndsFit r
def It.fit : It→Prop
  | .mk _ table expr as'=>table.length≤maxL∧expr.length≤maxL∧as'.length≤maxL∧ndsFit expr
def itsFit : List It→Prop
  | []=>True
  | n :: r=>n.fit∧itsFit r
def Sr.fit : Sr→Prop
  | .mk _ name as' query ins on=>name.length≤maxL∧as'.length≤maxL∧query.length≤maxL∧ins.length≤maxL∧on.length≤maxL∧qrsFit query∧srsFit ins∧ndsFit on
def srsFit : List Sr→Prop
  | []=>True
  | n :: r=>n.fit∧srsFit r
def rowsFit : List (List Nd)→Prop
  | []=>True
  | n :: r=>(n.length≤maxL∧ndsFit n)∧rowsFit r
def Bd.fit : Bd→Prop
  | .mk _ _ _ items frm whr group having rows ins => (items.length ≤ maxL ∧ frm.length ≤ maxL ∧ whr.length ≤ maxL ∧ group.length ≤ maxL ∧ having.length ≤ maxL ∧ rows.length ≤ maxL ∧ ins.length ≤ maxL) ∧
    itsFit items∧srsFit frm∧ndsFit whr∧ndsFit group∧ndsFit having∧rowsFit rows∧qrsFit ins
def Qr.fit : Qr→Prop
  | .mk body keys _ _=>body.fit∧keys.length≤maxL∧∀ k ∈ keys,k.name.length≤maxL
def qrsFit : List Qr→Prop
  | []=>True
  | n :: r=>n.fit∧qrsFit r
end
theorem ndsFit_iff : ∀ l : List Nd,ndsFit l↔∀ n ∈ l,n.fit
  | []=>by simp [ndsFit]
  | n :: r=>by simp [ndsFit,ndsFit_iff r]
theorem itsFit_iff : ∀ l : List It,itsFit l↔∀ n ∈ l,n.fit
  | []=>by simp [itsFit]
  | n :: r=>by simp [itsFit,itsFit_iff r]
theorem srsFit_iff : ∀ l : List Sr,srsFit l↔∀ n ∈ l,n.fit
  | []=>by simp [srsFit]
  | n :: r=>by simp [srsFit,srsFit_iff r]
theorem qrsFit_iff : ∀ l : List Qr,qrsFit l↔∀ n ∈ l,n.fit
  | []=>by simp [qrsFit]
  | n :: r=>by simp [qrsFit,qrsFit_iff r]
theorem rowsFit_iff : ∀ l : List (List Nd),rowsFit l↔∀ n ∈ l,n.length≤maxL∧ndsFit n
  | []=>by simp [rowsFit]
  | n :: r=>by simp [rowsFit,rowsFit_iff r]
end Go.Av
