/- Part of syntax_parses. -/
import Derived.WalkKit
import Derived.Laws.StructEq
import Derived.Laws.Slices
import Derived.Deep.AppendSrc
import Derived.MapKept
import Derived.Laws.IdiomStrings
set_option linter.unusedSectionVars false
set_option linter.unusedSimpArgs false
set_option linter.unusedVariables false
set_option maxHeartbeats 16000000
namespace Go.Av
open Go
theorem bb:type_of% @Option.bind_some:=@Option.bind_some
theorem bc:type_of% @Option.map_some:=@Option.map_some
theorem bd:type_of% @Option.some.injEq:=@Option.some.injEq
theorem bf:type_of% @Option.some.inj:=@Option.some.inj
theorem bg:type_of% @Option.bind_eq_some_iff:=@Option.bind_eq_some_iff
theorem bh:type_of% @Option.bind_none:=@Option.bind_none
theorem bm:type_of% @Option.map_none:=@Option.map_none
theorem bp:type_of% @Bool.and_eq_true:=@Bool.and_eq_true
theorem bq:type_of% @Prod.mk.injEq:=@Prod.mk.injEq
theorem br:type_of% @List.suffix_refl:=@List.suffix_refl
theorem bv:type_of% @Option.map_eq_some_iff:=@Option.map_eq_some_iff
theorem cf:type_of% @List.getElem?_eq_some_iff:=@List.getElem?_eq_some_iff
theorem cg:type_of% @List.map_nil:=@List.map_nil
theorem cj:type_of% @Nat.le_refl:=@Nat.le_refl
theorem ck:type_of% @Bool.false_eq_true:=@Bool.false_eq_true
theorem cm:type_of% @List.length_cons:=@List.length_cons
theorem cp:type_of% @List.mem_of_getElem?:=@List.mem_of_getElem?
theorem cq:type_of% @List.all_eq_true:=@List.all_eq_true
theorem cr:type_of% @List.map_cons:=@List.map_cons
theorem ct:type_of% @List.length_nil:=@List.length_nil
theorem cx:type_of% @Int.natCast_zero:=@Int.natCast_zero
theorem cz:type_of% @List.getElem?_eq_getElem:=@List.getElem?_eq_getElem
theorem db:type_of% @Array.getElem?_eq_some_iff:=@Array.getElem?_eq_some_iff
theorem dc:type_of% @List.mem_cons:=@List.mem_cons
theorem dd:type_of% @Int.ofNat_zero:=@Int.ofNat_zero
theorem dg:type_of% @Nat.le_trans:=@Nat.le_trans
theorem dh:type_of% @List.length_append:=@List.length_append
theorem dj:type_of% @List.drop_zero:=@List.drop_zero
theorem dk:type_of% @List.getElem?_append_left:=@List.getElem?_append_left
theorem dm:type_of% @List.take_of_length_le:=@List.take_of_length_le
theorem dp:type_of% @List.length_take:=@List.length_take
theorem dq:type_of% @Nat.mul_le_mul_right:=@Nat.mul_le_mul_right
theorem dr:type_of% @Bool.not_eq_true':=@Bool.not_eq_true'
theorem dt:type_of% @Nat.zero_add:=@Nat.zero_add
theorem dv:type_of% @List.cons_append:=@List.cons_append
theorem dz:type_of% @List.getElem?_take:=@List.getElem?_take
theorem d4:type_of% @List.getElem?_map:=@List.getElem?_map
theorem d5:type_of% @Array.length_toList:=@Array.length_toList
theorem d7:type_of% @List.mem_append:=@List.mem_append
theorem d8:type_of% @Bool.or_eq_true:=@Bool.or_eq_true
theorem d9:type_of% @List.getElem?_append_right:=@List.getElem?_append_right
theorem fb:type_of% @List.length_drop:=@List.length_drop
theorem fc:type_of% @List.contains_eq_mem:=@List.contains_eq_mem
theorem fd:type_of% @List.getElem?_drop:=@List.getElem?_drop
theorem ff:type_of% @List.mem_singleton:=@List.mem_singleton
theorem fg:type_of% @List.getElem?_eq_none:=@List.getElem?_eq_none
theorem fh:type_of% @List.length_eq_zero_iff:=@List.length_eq_zero_iff
theorem fj:type_of% @List.drop_eq_nil_of_le:=@List.drop_eq_nil_of_le
theorem fk:type_of% @Nat.lt_or_ge:=@Nat.lt_or_ge
theorem fm:type_of% @List.sizeOf_lt_of_mem:=@List.sizeOf_lt_of_mem
theorem fp:type_of% @List.not_mem_nil:=@List.not_mem_nil
theorem fq:type_of% @List.suffix_cons:=@List.suffix_cons
theorem ft:type_of% @List.eq_nil_of_length_eq_zero:=@List.eq_nil_of_length_eq_zero
theorem fx:type_of% @Array.getElem?_toList:=@Array.getElem?_toList
theorem fz:type_of% @List.drop_drop:=@List.drop_drop
theorem f9:type_of% @List.isPrefixOf_iff_prefix:=@List.isPrefixOf_iff_prefix
theorem gc:type_of% @Nat.le_max_left:=@Nat.le_max_left
theorem gj:type_of% @List.nil_append:=@List.nil_append
theorem gk:type_of% @Nat.le_max_right:=@Nat.le_max_right
theorem gq:type_of% @List.append_assoc:=@List.append_assoc
theorem gr:type_of% @List.cons.injEq:=@List.cons.injEq
theorem gt:type_of% @List.map_append:=@List.map_append
theorem gv:type_of% @Array.getD_eq_getD_getElem?:=@Array.getD_eq_getD_getElem?
theorem jb:type_of% @Nat.sub_le:=@Nat.sub_le
theorem jc:type_of% @Nat.add_mul:=@Nat.add_mul
theorem jd:type_of% @List.take_succ_cons:=@List.take_succ_cons
theorem jf:type_of% @List.drop_succ_cons:=@List.drop_succ_cons
theorem jg:type_of% @Nat.add_comm:=@Nat.add_comm
theorem jh:type_of% @Bool.true_or:=@Bool.true_or
theorem jj:type_of% @Bool.false_or:=@Bool.false_or
theorem jk:type_of% @List.size_toArray:=@List.size_toArray
theorem jm:type_of% @List.flatten_cons:=@List.flatten_cons
theorem jp:type_of% @List.mem_filter:=@List.mem_filter
theorem jq:type_of% @Array.getElem?_eq_none:=@Array.getElem?_eq_none
theorem jr:type_of% @List.mem_range:=@List.mem_range
theorem jt:type_of% @Nat.add_zero:=@Nat.add_zero
theorem jv:type_of% @List.foldl_cons:=@List.foldl_cons
theorem jx:type_of% @Array.replicate_succ:=@Array.replicate_succ
theorem jz:type_of% @Array.replicate_zero:=@Array.replicate_zero
theorem j2:type_of% @Option.bind_assoc:=@Option.bind_assoc
theorem kf:type_of% @Bool.true_and:=@Bool.true_and
theorem kg:type_of% @List.take_append_of_le_length:=@List.take_append_of_le_length
theorem kj:type_of% @List.length_pos_iff:=@List.length_pos_iff
theorem km:type_of% @List.append_toArray:=@List.append_toArray
theorem kp:type_of% @List.filter_cons:=@List.filter_cons
theorem kq:type_of% @Nat.succ_le_succ:=@Nat.succ_le_succ
theorem kr:type_of% @Nat.lt_of_lt_of_le:=@Nat.lt_of_lt_of_le
theorem kz:type_of% @List.getElem?_toArray:=@List.getElem?_toArray
theorem mb:type_of% @List.append_nil:=@List.append_nil
theorem mc:type_of% @List.length_map:=@List.length_map
theorem md:type_of% @List.push_toArray:=@List.push_toArray
theorem mf:type_of% @List.drop_eq_getElem_cons:=@List.drop_eq_getElem_cons
theorem mg:type_of% @List.mem_map:=@List.mem_map
theorem mh:type_of% @List.drop_length:=@List.drop_length
theorem mj:type_of% @Option.elim_none:=@Option.elim_none
theorem mp:type_of% @List.getElem?_cons_zero:=@List.getElem?_cons_zero
theorem mq:type_of% @Bool.or_false:=@Bool.or_false
theorem mt:type_of% @Bool.true_eq_false:=@Bool.true_eq_false
theorem mv:type_of% @Int.le_refl:=@Int.le_refl
theorem pc:type_of% @List.takeWhile_sublist:=@List.takeWhile_sublist
theorem pf:type_of% @List.getElem?_set:=@List.getElem?_set
theorem pg:type_of% @List.singleton_append:=@List.singleton_append
theorem ph:type_of% @Bool.or_true:=@Bool.or_true
theorem pj:type_of% @Bool.and_true:=@Bool.and_true
theorem pm:type_of% @Array.getElem?_push:=@Array.getElem?_push
theorem pp:type_of% @List.nodup_cons:=@List.nodup_cons
theorem pq:type_of% @Int.natCast_one:=@Int.natCast_one
theorem pr:type_of% @Option.isSome_iff_exists:=@Option.isSome_iff_exists
theorem pt:type_of% @List.pairwise_cons:=@List.pairwise_cons
theorem px:type_of% @Bool.or_self:=@Bool.or_self
theorem pz:type_of% @Nat.le_mul_of_pos_right:=@Nat.le_mul_of_pos_right
theorem p9:type_of% @List.prefix_iff_eq_take:=@List.prefix_iff_eq_take
theorem qg:type_of% @List.take_add_one:=@List.take_add_one
theorem qj:type_of% @Nat.one_mul:=@Nat.one_mul
theorem qk:type_of% @Int.ofNat_one:=@Int.ofNat_one
theorem qq:type_of% @List.take_append:=@List.take_append
theorem qr:type_of% @List.mem_flatMap:=@List.mem_flatMap
theorem qz:type_of% @Array.all_eq_true_iff_forall_mem:=@Array.all_eq_true_iff_forall_mem
theorem rc:type_of% @Bool.and_eq_false_iff:=@Bool.and_eq_false_iff
theorem rf:type_of% @List.mem_append_right:=@List.mem_append_right
theorem rj:type_of% @List.getElem?_append:=@List.getElem?_append
theorem rk:type_of% @Int.mul_le_mul_of_nonneg_right:=@Int.mul_le_mul_of_nonneg_right
theorem rm:type_of% @Bool.eq_iff_iff:=@Bool.eq_iff_iff
theorem rp:type_of% @List.pairwise_append:=@List.pairwise_append
theorem rq:type_of% @Int.natCast_add:=@Int.natCast_add
theorem rz:type_of% @List.drop_append_of_le_length:=@List.drop_append_of_le_length
theorem r7:type_of% @Array.toList_zipIdx:=@Array.toList_zipIdx
theorem r8:type_of% @Array.toList_append:=@Array.toList_append
theorem r9:type_of% @List.replicate_succ:=@List.replicate_succ
theorem sb:type_of% @List.takeWhile_cons:=@List.takeWhile_cons
theorem sc:type_of% @Array.getElem?_setIfInBounds:=@Array.getElem?_setIfInBounds
theorem sd:type_of% @List.drop_take:=@List.drop_take
theorem sf:type_of% @Bool.false_and:=@Bool.false_and
theorem sg:type_of% @Nat.zero_le:=@Nat.zero_le
theorem sk:type_of% @Array.foldl_toList:=@Array.foldl_toList
theorem sq:type_of% @List.getElem?_concat_length:=@List.getElem?_concat_length
theorem ss:type_of% @Option.isSome_none:=@Option.isSome_none
theorem tc:type_of% @Nat.eq_zero_or_pos:=@Nat.eq_zero_or_pos
theorem tf:type_of% @Nat.add_assoc:=@Nat.add_assoc
theorem tg:type_of% @Array.toList_setIfInBounds:=@Array.toList_setIfInBounds
theorem tj:type_of% @List.all_cons:=@List.all_cons
theorem tq:type_of% @Array.getElem?_append_left:=@Array.getElem?_append_left
theorem tt:type_of% @List.ext_getElem?:=@List.ext_getElem?
theorem tv:type_of% @Array.getElem?_eq_getElem:=@Array.getElem?_eq_getElem
theorem tz:type_of% @List.getElem?_eq_none_iff:=@List.getElem?_eq_none_iff
theorem t7:type_of% @List.mem_of_find?_eq_some:=@List.mem_of_find?_eq_some
theorem t8:type_of% @List.any_eq_true:=@List.any_eq_true
theorem t9:type_of% @Nat.le_add_right:=@Nat.le_add_right
theorem vb:type_of% @List.take_prefix:=@List.take_prefix
theorem vc:type_of% @List.map_map:=@List.map_map
theorem vd:type_of% @Nat.add_sub_cancel_left:=@Nat.add_sub_cancel_left
theorem vf:type_of% @Array.toList_eq_nil_iff:=@Array.toList_eq_nil_iff
theorem vg:type_of% @List.getElem?_cons_succ:=@List.getElem?_cons_succ
theorem vh:type_of% @List.sublist_cons_self:=@List.sublist_cons_self
theorem vj:type_of% @List.reverse_singleton:=@List.reverse_singleton
theorem vk:type_of% @List.drop_left:=@List.drop_left
theorem vm:type_of% @List.tail_cons:=@List.tail_cons
theorem vp:type_of% @List.set_append_right:=@List.set_append_right
theorem vq:type_of% @Nat.add_le_add:=@Nat.add_le_add
theorem vt:type_of% @Nat.mod_lt:=@Nat.mod_lt
theorem vx:type_of% @List.drop_one:=@List.drop_one
abbrev LU:=List UInt8
abbrev LV:=List LU
theorem rZd.{u}:(∀{α:Type u} {a:α} {l m:List α},(a::l)++m=a::(l++m))∧(∀{α:Type u} (l:List α),[]++l=l):=And.intro @List.cons_append @List.nil_append
theorem rZa.{u}:(∀{α:Type u} {a:α} {l:List α},(a::l)[0]? = some a)∧(∀{α:Type u} {a:α} {i:Nat} {l:List α},(a::l)[i+1]? = l[i]?):=And.intro @List.getElem?_cons_zero @List.getElem?_cons_succ
inductive AV where
 | bool (b:Bool)
 | int (k:IntKind) (n:Int)
 | str (s:ByteArray)
 | agg (cs:List AV)
 | tuple (vs:List AV)
 | slice (sz:Nat) (es:List AV)
 | sptr (cs:List AV)
 | nilptr
 | ptr (i off:Nat)
 | clos (fn:Fn) (first caps:List AV)
 | nilfn
 | iface (t:TypeId) (v:AV)
 | niliface
 | mapp (i:Nat)
 | nilmap
 deriving Inhabited
abbrev LA:=List AV
abbrev ii(n:Int):AV:=.int .i64 n
def AV.isAgg:AV→Bool
 | .agg _=>true
 | _=>false
def AV.isCell:AV→Bool
 | .agg _ | .tuple _=>false
 | _=>true
def AV.isDat:AV→Bool
 | .tuple _=>false
 | _=>true
def AV.cells:AV→LA
 | .agg cs=>cs
 | a=>[a]
def cp2:Value→Bool
 | .agg _=>true
 | _=>false
inductive Own where
 | free
 | ext
 | slot (k:Nat)
 | loc (d:Nat)
 | lcell (d j:Nat)
 | box (i:Nat)
 | cell (i j:Nat)
 | res (j:Nat)
 deriving DecidableEq
structure Gh where
 T:Nat→Nat
 B:List Nat
 O:Nat→Own
def mem(W:World)(b o:Nat)(ms:List Value):Prop:=∀j v,ms[j]? = some v→W.cell? ⟨b,o+j,none⟩=some v
mutual
def R(g:Gh)(W:World):AV→List Value→Prop
 | .bool b,l=>l=[.bool b]
 | .int k n,l=>l=[.int k n]
 | .str s,l=>l=[.string s]
 | .agg cs,l=>RL g W cs l
 | .tuple vs,l=>∃a:Array Value,l=[.tuple a]∧RT g W vs a.toList
 | .slice sz es,l=>∃p cap,l=[.slice p es.length cap]∧es.length≤cap ∧
   (es=[]∨∃b o ms,p=some ⟨b,o,none⟩∧mem W b o ms∧o+ms.length≤g.T b∧RE g W sz es ms)
 | .sptr cs,l=>∃b o ms,l=[.pointer (some ⟨b,o,none⟩)]∧mem W b o ms∧o+ms.length≤g.T b∧RL g W cs ms
 | .nilptr,l=>l=[.pointer none]
 | .ptr i off,l=>∃b,g.B[i]? = some b∧l=[.pointer (some ⟨b,off,none⟩)]
 | .clos fn first caps,l=>∃f c:Array Value,l=[.func fn f c]∧RT g W first f.toList∧RT g W caps c.toList
 | .nilfn,l=>l=[.nilFunc]
 | .iface t v,l=>∃u:Value,l=[.iface t u]∧R g W v u.cells.toList∧v.isAgg=cp2 u
 | .niliface,l=>l=[.nilIface]
 | .mapp i,l=>∃b,g.B[i]? = some b∧l=[.map (some b)]
 | .nilmap,l=>l=[.map none]
def RL(g:Gh)(W:World):LA→List Value→Prop
 | [],l=>l=[]
 | c::cs,l=>∃v r,l=v::r∧(c.isCell=true∧R g W c [v])∧RL g W cs r
def RE(g:Gh)(W:World)(sz:Nat):LA→List Value→Prop
 | [],l=>l=[]
 | e::es,l=>∃x r,l=x++r∧x.length=sz∧(e.isDat=true∧R g W e x)∧RE g W sz es r
def RT(g:Gh)(W:World):LA→List Value→Prop
 | [],l=>l=[]
 | a::as,l=>∃v r,l=v::r∧(R g W a v.cells.toList∧a.isAgg=cp2 v)∧RT g W as r
end
def RV(g:Gh)(W:World)(a:AV)(v:Value):Prop:=R g W a v.cells.toList∧a.isAgg=cp2 v
structure Keeps(g:Gh)(W:World)(g':Gh)(W':World):Prop where
 T:∀b,g.T b≤g'.T b
 cell:∀b o,o<g.T b→W'.cell? ⟨b,o,none⟩=W.cell? ⟨b,o,none⟩
 B:∀(i b:Nat),g.B[i]? = some b→g'.B[i]? = some b
theorem Keeps.refl(g:Gh)(W:World):Keeps g W g W:=⟨fun _=>cj _,fun _ _ _=>rfl,fun _ _ h=>h⟩
theorem Keeps.trans{g1 g2 g3:Gh}{W1 W2 W3:World}(h:Keeps g1 W1 g2 W2)(k:Keeps g2 W2 g3 W3):Keeps g1 W1 g3 W3:=
 ⟨fun b=>dg (h.T b) (k.T b),fun b o ho=>(k.cell b o (kr ho (h.T b))).trans (h.cell b o ho),fun i b hi=>k.B i b (h.B i b hi)⟩
theorem cgd{g g':Gh}{W W':World}(k:Keeps g W g' W'){b o:Nat}{ms:List Value}(h:mem W b o ms)(hT:o+ms.length≤g.T b):mem W' b o ms:=by
 intro j v hj;have hlt:j<ms.length:=by
  rcases fk j ms.length with h' | h'
  ·exact h'
  ·simp[fg h']at hj
 rw[k.cell b (o+j) (by omega)];exact h j v hj
mutual
theorem b64{g g':Gh}{W W':World}(k:Keeps g W g' W'):∀(a:AV) (l:List Value),R g W a l→R g' W' a l
 | .bool b,l,h=>by simpa[R] using h
 | .int _ _,l,h=>by simpa[R] using h
 | .str _,l,h=>by simpa[R] using h
 | .agg cs,l,h=>by
  simp only[R]at h ⊢;exact bg3 k cs l h
 | .tuple vs,l,h=>by
  simp only[R]at h ⊢;obtain⟨a,e,h⟩:=h;exact⟨a,e,bq5 k vs _ h⟩
 | .slice sz es,l,h=>by
  simp only[R]at h ⊢;obtain⟨p,cap,e,hc,h⟩:=h;refine⟨p,cap,e,hc,h.imp id ?_⟩;rintro⟨b,o,ms,hp,hm,hT,he⟩;exact⟨b,o,ms,hp,cgd k hm hT,dg hT (k.T b),btk k sz es ms he⟩
 | .sptr cs,l,h=>by
  simp only[R]at h ⊢;obtain⟨b,o,ms,hp,hm,hT,he⟩:=h;exact⟨b,o,ms,hp,cgd k hm hT,dg hT (k.T b),bg3 k cs ms he⟩
 | .nilptr,l,h=>by simpa[R] using h
 | .ptr i off,l,h=>by
  simp only[R]at h ⊢;obtain⟨b,hb,e⟩:=h;exact⟨b,k.B i b hb,e⟩
 | .clos fn first caps,l,h=>by
  simp only[R]at h ⊢;obtain⟨f,c,e,h1,h2⟩:=h;exact⟨f,c,e,bq5 k first _ h1,bq5 k caps _ h2⟩
 | .nilfn,l,h=>by simpa[R] using h
 | .iface t v,l,h=>by
  simp only[R]at h ⊢;obtain⟨u,e,h,s⟩:=h;exact⟨u,e,b64 k v _ h,s⟩
 | .niliface,l,h=>by simpa[R] using h
 | .mapp i,l,h=>by
  simp only[R]at h ⊢;obtain⟨b,hb,e⟩:=h;exact⟨b,k.B i b hb,e⟩
 | .nilmap,l,h=>by simpa[R] using h
theorem bg3{g g':Gh}{W W':World}(k:Keeps g W g' W'):∀(a:LA) (l:List Value),RL g W a l→RL g' W' a l
 | [],l,h=>by simpa[RL] using h
 | c::cs,l,h=>by
  simp only[RL]at h ⊢;obtain⟨v,r,e,⟨h0,h1⟩,h2⟩:=h;exact⟨v,r,e,⟨h0,b64 k c _ h1⟩,bg3 k cs r h2⟩
theorem btk{g g':Gh}{W W':World}(k:Keeps g W g' W')(sz:Nat):∀(a:LA) (l:List Value),RE g W sz a l→RE g' W' sz a l
 | [],l,h=>by simpa[RE] using h
 | c::cs,l,h=>by
  simp only[RE]at h ⊢;obtain⟨v,r,e,hx,⟨h0,h1⟩,h2⟩:=h;exact⟨v,r,e,hx,⟨h0,b64 k c _ h1⟩,btk k sz cs r h2⟩
theorem bq5{g g':Gh}{W W':World}(k:Keeps g W g' W'):∀(a:LA) (l:List Value),RT g W a l→RT g' W' a l
 | [],l,h=>by simpa[RT] using h
 | c::cs,l,h=>by
  simp only[RT]at h ⊢;obtain⟨v,r,e,⟨h1,hs⟩,h2⟩:=h;exact⟨v,r,e,⟨b64 k c _ h1,hs⟩,bq5 k cs r h2⟩
end
theorem bdx{g g':Gh}{W W':World}(k:Keeps g W g' W'){a:AV}{v:Value}(h:RV g W a v):RV g' W' a v:=⟨b64 k a _ h.1,h.2⟩
theorem csd{g:Gh}{W:World}{c:AV}{l:List Value}(h:R g W c l)(hc:c.isCell=true):∃v,l=[v]∧v.oneCell'=true∧cp2 v=false∧v.cells=#[v]:=by
 cases c<;>simp only[R]at h<;>first
  | (simp[AV.isCell]at hc;done)
  | (subst h;exact⟨_,rfl,rfl,rfl,rfl⟩)
  | (obtain⟨p,cap,e,_⟩:=h;subst e;exact⟨_,rfl,rfl,rfl,rfl⟩)
  | (obtain⟨b,o,ms,e,_⟩:=h;subst e;exact⟨_,rfl,rfl,rfl,rfl⟩)
  | (obtain⟨b,_,e⟩:=h;subst e;exact⟨_,rfl,rfl,rfl,rfl⟩)
  | (obtain⟨f,d,e,_⟩:=h;subst e;exact⟨_,rfl,rfl,rfl,rfl⟩)
  | (obtain⟨u,e,_⟩:=h;subst e;exact⟨_,rfl,rfl,rfl,rfl⟩)
theorem bqq{c:AV}(h:c.isCell=true):c.isAgg=false:=by cases c<;>simp_all [AV.isCell,AV.isAgg]
theorem bqp{c:AV}(h:c.isCell=true):c.isDat=true:=by cases c<;>simp_all [AV.isCell,AV.isDat]
theorem bzz{c:AV}(h:c.isCell=true):c.cells=[c]:=by cases c<;>simp_all [AV.isCell,AV.cells]
theorem bh5{g:Gh}{W:World}{c:AV}{v:Value}(h:R g W c [v])(hc:c.isCell=true):RV g W c v:=by
 obtain⟨u,e,_,h2,h3⟩:=csd h hc;obtain rfl:v=u:=by simpa using e
 exact⟨by rw[h3];exact h,by rw[bqq hc,h2]⟩
theorem b39{g:Gh}{W:World}{e:AV}{x:List Value}(h:R g W e x)(hd:e.isDat=true):RL g W e.cells x:=by
 by_cases hc:e.isCell=true
 ·obtain⟨v,rfl,_⟩:=csd h hc;rw[bzz hc];simp only[RL];exact⟨v,[],rfl,⟨hc,h⟩,rfl⟩
 ·cases e<;>simp_all [AV.isCell,AV.isDat,AV.cells,R]
theorem bbv{g:Gh}{W:World}:∀{cs:LA} {ms:List Value},RL g W cs ms→ms.length=cs.length
 | [],ms,h=>by simp only[RL]at h;simp[h]
 | c::cs,ms,h=>by
  simp only[RL]at h;obtain⟨v,r,rfl,_,h⟩:=h;simp[bbv h]
theorem bsq{g:Gh}{W:World}:∀{cs:LA} {ms:List Value},RL g W cs ms→∀{j:Nat} {c:AV},cs[j]? = some c→∃v,ms[j]? = some v∧c.isCell=true∧R g W c [v]
 | [],ms,h,j,c,hj=>by simp at hj
 | c0::cs,ms,h,j,c,hj=>by
  simp only[RL]at h;obtain⟨v,r,rfl,h0,h⟩:=h;cases j with
  | zero=>
   obtain rfl:c0=c:=by simpa using hj
   exact⟨v,rfl,h0⟩
  | succ j=>exact bsq h (by simpa using hj)
theorem bq6{g:Gh}{W:World}:∀{cs:LA} {ms:List Value},RL g W cs ms→∀n,RL g W (cs.drop n) (ms.drop n)
 | cs,ms,h,0=>h
 | [],ms,h,n+1=>by simp only[RL]at h;subst h;simp[RL]
 | c::cs,ms,h,n+1=>by
  simp only[RL]at h;obtain⟨v,r,rfl,_,h⟩:=h;exact bq6 h n
theorem bv9{g:Gh}{W:World}:∀{cs:LA} {ms:List Value},RL g W cs ms→∀n,RL g W (cs.take n) (ms.take n)
 | cs,ms,h,0=>by simp[RL]
 | [],ms,h,n+1=>by simp only[RL]at h;subst h;simp[RL]
 | c::cs,ms,h,n+1=>by
  simp only[RL]at h;obtain⟨v,r,rfl,h0,h⟩:=h;simp only[jd,RL];exact⟨v,_,rfl,h0,bv9 h n⟩
theorem b3d{g:Gh}{W:World}:∀{cs ds:LA} {ms ns:List Value},RL g W cs ms→RL g W ds ns→RL g W (cs++ds) (ms++ns)
 | [],ds,ms,ns,h,k=>by simp only[RL]at h;subst h;exact k
 | c::cs,ds,ms,ns,h,k=>by
  simp only[RL]at h;obtain⟨v,r,rfl,h0,h⟩:=h;simp only[dv,RL];exact⟨v,_,rfl,h0,b3d h k⟩
theorem dcv{g:Gh}{W:World}:∀{cs:LA} {ms:List Value},RL g W cs ms→∀v∈ms,v.oneCell'=true
 | [],ms,h,v,hv=>by simp only[RL]at h;subst h;simp at hv
 | c::cs,ms,h,v,hv=>by
  simp only[RL]at h;obtain⟨u,r,rfl,⟨hc,h0⟩,h⟩:=h;simp only[dc]at hv;rcases hv with rfl | hv
  ·obtain⟨w,e,h1,_⟩:=csd h0 hc;obtain rfl:v=w:=by simpa using e
   exact h1
  ·exact dcv h v hv
theorem dbm(a:Array Value):(Value.agg a).cells=a:=rfl
theorem bcm{v:Value}(h:cp2 v=false):v.cells=#[v]:=by cases v<;>simp_all [Value.cells,cp2]
theorem dcs{g:Gh}{W:World}{cs:LA}{ms:List Value}(h:RL g W cs ms):RV g W (.agg cs) (.agg ms.toArray):=by
 refine⟨?_,rfl⟩;simp only[R,dbm,List.toList_toArray];exact h
theorem cjf{g:Gh}{W:World}{a:AV}{v:Value}(h:RV g W a v)(hd:a.isDat=true):RL g W a.cells v.cells.toList:=b39 h.1 hd
theorem RV_one{g:Gh}{W:World}{a:AV}{v:Value}(h:RV g W a v)(ha:a.isCell=true):v.cells.toList=[v]∧R g W a [v]∧v.oneCell'=true:=by
 have h2:cp2 v=false:=by rw[← h.2];exact bqq ha
 have h3:=bcm h2;have h1:=h.1;rw[h3]at h1;obtain⟨u,e,h4,_⟩:=csd h1 ha;obtain rfl:v=u:=by simpa using e
 exact⟨by rw[h3],h1,h4⟩
theorem bd3{g:Gh}{W:World}{sz:Nat}:∀{es:LA} {ms:List Value},RE g W sz es ms→ms.length=es.length*sz
 | [],ms,h=>by simp only[RE]at h;simp[h]
 | e::es,ms,h=>by
  simp only[RE]at h;obtain⟨x,r,rfl,hx,_,h⟩:=h;simp[bd3 h,hx,jc,jg]
theorem dm5{g:Gh}{W:World}{sz:Nat}:∀{es:LA} {ms:List Value},RE g W sz es ms→∀{j:Nat} {e:AV},es[j]? = some e →
  ∃x,x=(ms.drop (j*sz)).take sz∧x.length=sz∧e.isDat=true∧R g W e x
 | [],ms,h,j,e,hj=>by simp at hj
 | e0::es,ms,h,j,e,hj=>by
  simp only[RE]at h;obtain⟨x,r,rfl,hx,h0,h⟩:=h;cases j with
  | zero=>
   obtain rfl:e0=e:=by simpa using hj
   refine⟨x,?_,hx,h0⟩;simp[← hx]
  | succ j=>
   obtain⟨y,hy,h1,h2⟩:=dm5 h (j:=j) (by simpa using hj);refine⟨y,?_,h1,h2⟩;rw[hy,jc,qj,jg,← fz,← hx,vk]
theorem cpp{g:Gh}{W:World}{sz:Nat}:∀{es:LA} {ms:List Value},RE g W sz es ms→∀n,RE g W sz (es.drop n) (ms.drop (n*sz))
 | es,ms,h,0=>by simpa using h
 | [],ms,h,n+1=>by simp only[RE]at h;subst h;simp[RE]
 | e::es,ms,h,n+1=>by
  simp only[RE]at h;obtain⟨x,r,rfl,hx,_,h⟩:=h;have:=cpp h n;have e2:(x++r).drop ((n+1)*sz)=r.drop (n*sz):=by
   rw[jc,qj,jg,← fz,← hx,vk]
  rw[e2,jf];exact this
theorem cpm{g:Gh}{W:World}{sz:Nat}:∀{es:LA} {ms:List Value},RE g W sz es ms→∀n,RE g W sz (es.take n) (ms.take (n*sz))
 | es,ms,h,0=>by simp[RE]
 | [],ms,h,n+1=>by simp only[RE]at h;subst h;simp[RE]
 | e::es,ms,h,n+1=>by
  simp only[RE]at h;obtain⟨x,r,rfl,hx,h0,h⟩:=h;have:=cpm h n;simp only[jd,RE];refine⟨x,r.take (n*sz),?_,hx,h0,this⟩;rw[jc,qj,jg,qq,hx,dm (by omega)];simp
theorem csj{g:Gh}{W:World}{sz:Nat}:∀{es ds:LA} {ms ns:List Value},RE g W sz es ms→RE g W sz ds ns→RE g W sz (es++ds) (ms++ns)
 | [],ds,ms,ns,h,k=>by simp only[RE]at h;subst h;exact k
 | e::es,ds,ms,ns,h,k=>by
  simp only[RE]at h;obtain⟨x,r,rfl,hx,h0,h⟩:=h;simp only[dv,RE,gq];exact⟨x,_,rfl,hx,h0,csj h k⟩
theorem dm4{g:Gh}{W:World}{sz:Nat}:∀{es:LA} {ms:List Value},RE g W sz es ms→∀v∈ms,v.oneCell'=true
 | [],ms,h,v,hv=>by simp only[RE]at h;subst h;simp at hv
 | e::es,ms,h,v,hv=>by
  simp only[RE]at h;obtain⟨x,r,rfl,hx,⟨hd,h0⟩,h⟩:=h;simp only[d7]at hv;rcases hv with hv | hv
  ·exact dcv (b39 h0 hd) v hv
  ·exact dm4 h v hv
theorem dct{g:Gh}{W:World}:∀{as:LA} {vs:List Value},RT g W as vs→∀{j:Nat} {a:AV},as[j]? = some a→∃v,vs[j]? = some v∧RV g W a v
 | [],vs,h,j,a,hj=>by simp at hj
 | a0::as,vs,h,j,a,hj=>by
  simp only[RT]at h;obtain⟨v,r,rfl,h0,h⟩:=h;cases j with
  | zero=>
   obtain rfl:a0=a:=by simpa using hj
   exact⟨v,rfl,h0⟩
  | succ j=>exact dct h (by simpa using hj)
theorem bp5{g:Gh}{W:World}:∀{as:LA} {vs:List Value},RT g W as vs→vs.length=as.length
 | [],vs,h=>by simp only[RT]at h;simp[h]
 | a::as,vs,h=>by
  simp only[RT]at h;obtain⟨v,r,rfl,_,h⟩:=h;simp[bp5 h]
theorem cjg{g:Gh}{W:World}:∀{as bs:LA} {vs us:List Value},RT g W as vs→RT g W bs us→RT g W (as++bs) (vs++us)
 | [],bs,vs,us,h,k=>by simp only[RT]at h;subst h;exact k
 | a::as,bs,vs,us,h,k=>by
  simp only[RT]at h;obtain⟨v,r,rfl,h0,h⟩:=h;simp only[dv,RT];exact⟨v,_,rfl,h0,cjg h k⟩
theorem b3z{W:World}{b o:Nat}{ms:List Value}(h:mem W b o ms)(n:Nat):mem W b (o+n) (ms.drop n):=by
 intro j v hj;rw[fd]at hj;have:=h _ v hj
 rwa [← tf]at this
theorem bs5{W:World}{b o:Nat}{ms:List Value}(h:mem W b o ms)(n:Nat):mem W b o (ms.take n):=by
 intro j v hj;rw[dz]at hj;split at hj
 ·exact h j v hj
 ·simp at hj
theorem bmh(b o j:Nat):(⟨b,o,none⟩:Addr).add j=⟨b,o+j,none⟩:=by unfold Addr.add;split<;>simp_all
theorem br2{W:World}{b o:Nat}{ms:List Value}(h:mem W b o ms):∀j v,ms[j]? = some v→W.cell? ((⟨b,o,none⟩:Addr).add j)=some v:=by
 intro j v hj;rw[bmh];exact h j v hj
end Go.Av
namespace Go.Av
open Go
structure Bx where
 cells:LA
 own:List (Nat×Nat):=[]
 map:Bool:=false
 deriving Inhabited
abbrev LB:=List Bx
inductive SV where
 | v (a:AV)
 | l (d off:Nat)
 | junk
 | vn (a:AV) (ns:List Nat)
 | undef
 | ls (d sz:Nat) (ag:Bool) (n:Nat)
 | vr (a:AV) (ns:List Nat) (j:Nat)
 deriving Inhabited
abbrev zq:=List (Nat×SV)
def zq.get:zq→Nat→SV
 | [],_=>.junk
 | (k,x)::r,j=>if k=j then x else zq.get r j
def zq.set:zq→Nat→SV→zq
 | [],j,y=>[(j,y)]
 | (k,x)::r,j,y=>if j<k then(j,y)::(k,x)::r else if k=j then(j,y)::r else(k,x)::zq.set r j y
def SV.kill(d:Nat):SV→SV
 | .l d' off=>if d'=d then .junk else .l d' off
 | .ls d' sz ag n=>if d'=d then .junk else .ls d' sz ag n
 | x=>x
def SV.aims(d:Nat):SV→Bool
 | .l d' _=>d'==d
 | .ls d' _ _ _=>d'==d
 | _=>false
def zq.kill:zq→Nat→zq
 | [],_=>[]
 | (k,x)::r,d=>(k,x.kill d)::zq.kill r d
def zq.keep(s:zq)(live:List Nat):zq:=live.map fun k=>(k,s.get k)
abbrev bc8:=List (Nat×Bx)
def bc8.get:bc8→Nat→Option Bx
 | [],_=>none
 | (k,x)::r,j=>if k=j then some x else bc8.get r j
def bc8.set:bc8→Nat→Bx→bc8
 | [],j,y=>[(j,y)]
 | (k,x)::r,j,y=>if j<k then(j,y)::(k,x)::r else if k=j then(j,y)::r else(k,x)::bc8.set r j y
def bc8.del:bc8→Nat→bc8
 | [],_=>[]
 | (k,x)::r,j=>if k=j then bc8.del r j else(k,x)::bc8.del r j
def bc8.keep(s:bc8)(live:List Nat):bc8:=live.filterMap fun k=>(s.get k).map fun x=>(k,x)
theorem zq.get_set(s:zq)(j:Nat)(y:SV)(i:Nat):(s.set j y).get i=if j=i then y else s.get i:=by
 induction s with
 | nil=>simp only[zq.set,zq.get]
 | cons p r ih=>
  obtain⟨k,x⟩:=p;simp only[zq.set];split
  ·simp only[zq.get]
  ·split
   ·rename_i h1 h2;subst h2;simp only[zq.get];split<;>rfl
   ·rename_i h1 h2;simp only[zq.get,ih];by_cases hk:k=i
    ·subst hk;have:¬ j=k:=fun e=>h2 e.symm
     simp[this]
    ·simp[hk]
theorem zq.get_kill(s:zq)(d k:Nat):(s.kill d).get k=(s.get k).kill d:=by
 induction s with
 | nil=>rfl
 | cons p r ih=>
  obtain⟨j,x⟩:=p;simp only[zq.kill,zq.get];split
  ·rfl
  ·exact ih
theorem zq.get_keep(s:zq)(live:List Nat)(k:Nat):(s.keep live).get k=if k∈live then s.get k else .junk:=by
 induction live with
 | nil=>rfl
 | cons j r ih=>
  simp only[zq.keep,cr,zq.get];by_cases e:j=k
  ·subst e;simp
  ·simp only[e,if_false];have:¬ k=j:=fun h=>e h.symm
   simp only[dc,this,false_or];exact ih
theorem bc8.get_set(s:bc8)(j:Nat)(y:Bx)(i:Nat):(s.set j y).get i=if j=i then some y else s.get i:=by
 induction s with
 | nil=>simp only[bc8.set,bc8.get]
 | cons p r ih=>
  obtain⟨k,x⟩:=p;simp only[bc8.set];split
  ·simp only[bc8.get]
  ·split
   ·rename_i h1 h2;subst h2;simp only[bc8.get];split<;>rfl
   ·rename_i h1 h2;simp only[bc8.get,ih];by_cases hk:k=i
    ·subst hk;have:¬ j=k:=fun e=>h2 e.symm
     simp[this]
    ·simp[hk]
theorem bc8.get_del(s:bc8)(j i:Nat):(s.del j).get i=if j=i then none else s.get i:=by
 induction s with
 | nil=>simp[bc8.del,bc8.get]
 | cons p r ih=>
  obtain⟨k,x⟩:=p;simp only[bc8.del];split
  ·rename_i h;subst h;rw[ih];by_cases e:k=i
   ·simp[e]
   ·simp[bc8.get,e]
  ·rename_i h;simp only[bc8.get,ih];by_cases e:k=i
   ·subst e;have:¬ j=k:=fun e=>h e.symm
    simp[this]
   ·simp[e]
theorem bc8.get_keep(s:bc8)(live:List Nat)(k:Nat){x:Bx}(h:(s.keep live).get k=some x):s.get k=some x:=by
 induction live with
 | nil=>simp[bc8.keep,bc8.get]at h
 | cons j r ih=>
  simp only[bc8.keep,List.filterMap_cons]at h;cases hj:s.get j with
  | none=>simp only[hj,bm]at h;exact ih h
  | some y=>
   simp only[hj,bc,bc8.get]at h;split at h
   ·rename_i e;subst e;rw[hj];exact h
   ·exact ih h
structure St where
 σ:zq
 own:List (Nat×Nat)
 loc:bc8
 S:LB
 deriving Inhabited
def bj4(g:Gh)(W:World)(o:Own)(e:Nat)(a:AV)(v:Value):Prop:=
 ∃ sz es,a=.slice sz es∧((v=.slice none 0 0∧es=[])∨∃b cap cur,v=.slice (some ⟨b,0,none⟩) es.length cap ∧
   W.heap[b]? = some (.cells cur e (0,0))∧es.length≤cap∧cap≤maxLen∧cur.size=cap*sz∧g.O b=o∧g.T b=es.length*sz)
def bz8(g:Gh)(W:World)(o:Own)(te:Nat):AV→Value→Prop
 | .agg cs,v=>∃x w,cs[te / 100000]? = some x∧v.cells[te / 100000]? = some w∧bj4 g W o (te % 100000) x w
 | a,v=>bj4 g W o te a v
def bxb(g:Gh)(W:World)(b:Nat)(o:Own)(oc:Nat→Own)(x:Bx):Prop:=
 ∃ cs ty,W.heap[b]? = some (.cells cs ty (0,0))∧RL g W x.cells (cs.toList.take x.cells.length)∧g.O b=o∧g.T b=0 ∧
   ∀j e,(j,e)∈x.own→∃a v,x.cells[j]? = some a∧cs[j]? = some v∧bj4 g W (oc j) e a v
def SVR(g:Gh)(W:World)(L:Nat→Nat):SV→Value→Prop
 | .v a,v=>RV g W a v
 | .l d off,v=>v=.pointer (some ⟨L d,off,none⟩)
 | .junk,_=>True
 | .vn a ns,v=>RV g W a v∧∀j∈ns,v.cells[j]? = some (.slice none 0 0)
 | .undef,v=>v=Go.undef
 | .vr a ns _,v=>RV g W a v∧∀j∈ns,v.cells[j]? = some (.slice none 0 0)
 | .ls d sz ag n,v=>(ag=false→sz=1)∧∃cap,n≤cap∧v=.slice (some ⟨L d,0,none⟩) n cap
def SV.part:SV→Value→Option (AV×Value)
 | .v a,u=>some (a,u)
 | .vr (.agg cs) _ j,u=>match cs[j]?,u.cells[j]? with
  | some x,some w=>some (x,w)
  | _,_=>none
 | _,_=>none
theorem SV.part_kill{s:SV}{u:Value}{p:AV×Value}(h:s.part u=some p)(d:Nat):s.kill d=s:=by
 cases s<;>first | rfl | (simp[SV.part]at h)
theorem SV.part_agg{s:SV}{u:Value}{p:AV×Value}(h:s.part u=some p):(∃x,s=.v x∧p=(x,u))∨∃cs ns j x w,s=.vr (.agg cs) ns j∧p=(x,w)∧cs[j]? = some x∧u.cells[j]? = some w:=by
 unfold SV.part at h;split at h
 ·rename_i x;obtain rfl:=bf h;exact .inl ⟨x,rfl,rfl⟩
 ·rename_i cs ns j;split at h
  ·rename_i x w h1 h2;obtain rfl:=bf h;exact .inr ⟨cs,ns,j,x,w,rfl,rfl,h1,h2⟩
  ·cases h
 ·cases h
theorem bk3{W:World}{b:Nat}{cs:Array Value}{ty:TypeId}{fr:Nat×Nat}(h:W.heap[b]? = some (.cells cs ty fr))(n o:Nat):mem W b o ((cs.toList.take n).drop o):=by
 intro j v hj;rw[cell_of_row W b (o+j) cs ty fr h];rw[fd,dz]at hj;split at hj
 ·simpa using hj
 ·cases hj
theorem csg{g:Gh}{W:World}{cells:LA}{ms:List Value}(h:RL g W cells ms):RL g W cells (ms.take cells.length):=by
 rw[dm (by rw[bbv h];exact cj _)];exact h
def MR(g:Gh)(W:World):LA→List MapEntry→Prop
 | [],[]=>True
 | k::v::r,e::es=>(RV g W k e.key∧RV g W v e.val)∧MR g W r es
 | _,_=>False
theorem MR.keep{g g':Gh}{W W':World}(k:Keeps g W g' W'):∀{r:LA} {es:List MapEntry},MR g W r es→MR g' W' r es
 | [],[],_=>trivial
 | [],_::_,h=>h
 | [_],[],h=>h
 | [_],_::_,h=>h
 | _::_::_,[],h=>h
 | _::_::r,_::es,h=>⟨⟨bdx k h.1.1,bdx k h.1.2⟩,MR.keep k h.2⟩
def BxS(g:Gh)(W:World)(b i:Nat)(x:Bx):Prop:=
 if x.map=true then x.own=[]∧∃es clock,W.heap[b]? = some (.map es clock)∧MR g W x.cells es.toList∧g.O b=.box i∧g.T b=0
 else bxb g W b (.box i) (fun j=>.cell i j) x
theorem BxS.of{g:Gh}{W:World}{b i:Nat}{x:Bx}(h:BxS g W b i x)(hm:x.map=false):bxb g W b (.box i) (fun j=>.cell i j) x:=by
 unfold BxS at h;rw[hm]at h;exact h
theorem BxS.mk{g:Gh}{W:World}{b i:Nat}{x:Bx}(h:bxb g W b (.box i) (fun j=>.cell i j) x)(hm:x.map=false):BxS g W b i x:=by
 unfold BxS;rw[hm];exact h
structure SInv(g:Gh)(W:World)(S:LB):Prop where
 len:g.B.length=S.length
 box:∀(i:Nat) x,S[i]? = some x→∃b,g.B[i]? = some b∧BxS g W b i x
 fresh:∀b,W.heap.size≤b→g.T b=0∧g.O b=.free
structure Inv(g:Gh)(W:World)(a:Act)(N:Nat)(L:Nat→Nat)(st:St):Prop where
 size:a.tmps.size=N
 slot:∀k,SVR g W L (st.σ.get k) (a.tmps.getD k undef)
 own:∀k e,(k,e)∈st.own→∃x w,(st.σ.get k).part (a.tmps.getD k undef)=some (x,w)∧bj4 g W (.slot k) e x w
 loc:∀d x,st.loc.get d=some x→bxb g W (L d) (.loc d) (fun j=>.lcell d j) x
 sh:SInv g W st.S
structure Ext(g:Gh)(W:World)(g':Gh)(W':World):Prop extends Keeps g W g' W' where
 size:W.heap.size≤W'.heap.size
 os:W'.os=W.os
 tape:W'.tape=W.tape
 output:W'.output=W.output
 ext:∀b,g.O b=.ext→g'.O b=.ext∧W'.heap[b]? = W.heap[b]?∧g'.T b=g.T b
theorem Ext.refl(g:Gh)(W:World):Ext g W g W:=⟨Keeps.refl g W,cj _,rfl,rfl,rfl,fun _ h=>⟨h,rfl,rfl⟩⟩
theorem Ext.trans{g1 g2 g3:Gh}{W1 W2 W3:World}(h:Ext g1 W1 g2 W2)(k:Ext g2 W2 g3 W3):Ext g1 W1 g3 W3:=
 ⟨h.toKeeps.trans k.toKeeps,dg h.size k.size,k.os.trans h.os,k.tape.trans h.tape,k.output.trans h.output,fun b hb=>by
  obtain⟨h1,h2,h3⟩:=h.ext b hb;obtain⟨k1,k2,k3⟩:=k.ext b h1;exact⟨k1,k2.trans h2,k3.trans h3⟩⟩
structure Same(g:Gh)(W:World)(g':Gh)(W':World)(b:Nat):Prop where
 heap:W'.heap[b]? = W.heap[b]?
 O:g'.O b=g.O b
 T:g'.T b=g.T b
theorem bd0{W:World}{b:Nat}{o:Obj}(h:W.heap[b]? = some o):b<W.heap.size:=by
 rcases fk b W.heap.size with h' | h'
 ·exact h'
 ·simp[jq h']at h
theorem bj4.keep{g g':Gh}{W W':World}{o:Own}{e:Nat}{a:AV}{v:Value}(h:bj4 g W o e a v)
  (same:∀b,b<W.heap.size→g.O b=o→Same g W g' W' b):bj4 g' W' o e a v:=by
 obtain⟨sz,es,rfl,h⟩:=h;refine⟨sz,es,rfl,h.imp id ?_⟩;rintro⟨b,cap,cur,hv,hb,h1,h2,h3,h4,h5⟩;have s:=same b (bd0 hb) h4;exact⟨b,cap,cur,hv,s.heap.trans hb,h1,h2,h3,s.O.trans h4,s.T.trans h5⟩
theorem bxb.keep{g g':Gh}{W W':World}{b:Nat}{o:Own}{oc:Nat→Own}{x:Bx}(h:bxb g W b o oc x)(k:Keeps g W g' W')
  (same:∀b,b<W.heap.size→(g.O b=o∨∃j e,(j,e)∈x.own∧g.O b=oc j)→Same g W g' W' b):bxb g' W' b o oc x:=by
 obtain⟨cs,ty,hb,hl,ho,hT,hr⟩:=h;have s:=same b (bd0 hb) (.inl ho);refine⟨cs,ty,s.heap.trans hb,bg3 k _ _ hl,s.O.trans ho,s.T.trans hT,fun j e hj=>?_⟩;obtain⟨a,v,h1,h2,h3⟩:=hr j e hj;exact⟨a,v,h1,h2,h3.keep fun b hb hO=>same b hb (.inr ⟨j,e,hj,hO⟩)⟩
theorem BxS.keep{g g':Gh}{W W':World}{b i:Nat}{x:Bx}(h:BxS g W b i x)(k:Keeps g W g' W')
  (same:∀b,b<W.heap.size→(g.O b=.box i∨∃j e,(j,e)∈x.own∧g.O b=.cell i j)→Same g W g' W' b):BxS g' W' b i x:=by
 unfold BxS at h ⊢;split at h
 ·rename_i hm;rw[if_pos hm];obtain⟨h1,es,clock,hb,hr,hO,hT⟩:=h;have s:=same b (bd0 hb) (.inl hO);exact⟨h1,es,clock,s.heap.trans hb,hr.keep k,s.O.trans hO,s.T.trans hT⟩
 ·rename_i hm;rw[if_neg hm];exact bxb.keep h k same
theorem SVR.keep{g g':Gh}{W W':World}{L:Nat→Nat}{s:SV}{v:Value}(h:SVR g W L s v)(k:Keeps g W g' W'):SVR g' W' L s v:=by
 cases s with
 | v a=>exact bdx k h
 | l d off=>exact h
 | junk=>trivial
 | vn a ns=>exact⟨bdx k h.1,h.2⟩
 | undef=>exact h
 | ls d sz ag n=>exact h
 | vr a ns j=>exact⟨bdx k h.1,h.2⟩
structure Unused(st:St)(o:Own):Prop where
 slot:∀k,o=.slot k→∀e,(k,e)∉st.own
 loc:∀d,o=.loc d→st.loc.get d=none
 lcell:∀d j,o=.lcell d j→∀x,st.loc.get d=some x→∀e,(j,e)∉x.own
 box:∀i,o≠.box i
 cell:∀i j,o=.cell i j→∀x,st.S[i]? = some x→∀e,(j,e)∉x.own
theorem SInv.keepX{g g':Gh}{W W':World}{S:LB}(h:SInv g W S)(k:Keeps g W g' W')(hB:g'.B=g.B)(o:Own)
  (same:∀b,b<W.heap.size→g.O b≠o→Same g W g' W' b) (fresh:∀b,W'.heap.size≤b→g'.T b=0∧g'.O b=.free)
  (h4:∀i,o≠.box i) (h5:∀i j,o=.cell i j→∀x,S[i]? = some x→∀e,(j,e)∉x.own):SInv g' W' S:=by
 refine⟨by rw[hB];exact h.len,fun i x hx=>?_,fresh⟩;obtain⟨b,hb,hi⟩:=h.box i x hx;refine⟨b,by rw[hB];exact hb,hi.keep k fun b hb ho=>same b hb ?_⟩;rcases ho with ho | ⟨j,e,hj,ho⟩
 ·rw[ho];exact fun e=>h4 i e.symm
 ·rw[ho];exact fun q=>h5 i j q.symm x hx e hj
theorem Inv.keepX{g g':Gh}{W W':World}{a:Act}{N:Nat}{L:Nat→Nat}{st:St}(h:Inv g W a N L st)(k:Keeps g W g' W')(hB:g'.B=g.B)(o:Own)
  (same:∀b,b<W.heap.size→g.O b≠o→Same g W g' W' b) (fresh:∀b,W'.heap.size≤b→g'.T b=0∧g'.O b=.free)
  (u:Unused st o):Inv g' W' a N L st:=by
 refine⟨h.size,fun i=>(h.slot i).keep k,fun i e hi=>?_,fun d x hx=>(h.loc d x hx).keep k fun b hb ho=>same b hb ?_,h.sh.keepX k hB o same fresh u.box u.cell⟩
 ·obtain⟨x,w,q1,q2⟩:=h.own i e hi;exact⟨x,w,q1,q2.keep fun b hb hO=>same b hb (by rw[hO];exact fun q=>u.slot i q.symm e hi)⟩
 ·rcases ho with ho | ⟨j,e,hj,ho⟩
  ·rw[ho];intro q;rw[u.loc d q.symm]at hx;cases hx
  ·rw[ho];intro q;exact u.lcell d j q.symm x hx e hj
theorem b4k(st:St):Unused st .free:=⟨fun _ h=>(by cases h),fun _ h=>(by cases h),fun _ _ h=>(by cases h),fun _ h=>(by cases h),fun _ _ h=>(by cases h)⟩
theorem bkt{st:St}{k:Nat}(h:∀e,(k,e)∉st.own):Unused st (.slot k):=
 ⟨fun j e=>by cases e;exact h,fun _ h=>(by cases h),fun _ _ h=>(by cases h),fun _ h=>(by cases h),fun _ _ h=>(by cases h)⟩
theorem b73{st:St}{d:Nat}(h:st.loc.get d=none):Unused st (.loc d):=
 ⟨fun _ h=>(by cases h),fun j e=>(by cases e;exact h),fun _ _ h=>(by cases h),fun _ h=>(by cases h),fun _ _ h=>(by cases h)⟩
theorem b2h{st:St}{d j:Nat}(h:∀x,st.loc.get d=some x→∀e,(j,e)∉x.own):Unused st (.lcell d j):=
 ⟨fun _ h=>(by cases h),fun _ h=>(by cases h),fun d' j' e=>(by cases e;exact h),fun _ h=>(by cases h),fun _ _ h=>(by cases h)⟩
theorem cj3{st:St}{i j:Nat}(h:∀x,st.S[i]? = some x→∀e,(j,e)∉x.own):Unused st (.cell i j):=
 ⟨fun _ h=>(by cases h),fun _ h=>(by cases h),fun _ _ h=>(by cases h),fun _ h=>(by cases h),fun i' j' e=>(by cases e;exact h)⟩
theorem Inv.keep{g g':Gh}{W W':World}{a:Act}{N:Nat}{L:Nat→Nat}{st:St}(h:Inv g W a N L st)(k:Keeps g W g' W')(hB:g'.B=g.B)
  (same:∀b,b<W.heap.size→Same g W g' W' b) (fresh:∀b,W'.heap.size≤b→g'.T b=0∧g'.O b=.free):Inv g' W' a N L st:=
 h.keepX k hB .free (fun b hb _=>same b hb) fresh (b4k st)
def Bx.le(x' x:Bx):Prop:=x'.cells=x.cells∧(∀p∈x'.own,p∈x.own)∧x'.map=x.map
theorem bxb.sub{g:Gh}{W:World}{b:Nat}{o:Own}{oc:Nat→Own}{x x':Bx}(h:bxb g W b o oc x)(k:x'.le x):bxb g W b o oc x':=by
 obtain⟨cs,ty,hb,hl,ho,hT,hr⟩:=h;exact⟨cs,ty,hb,by rw[k.1];exact hl,ho,hT,fun j e hj=>by rw[k.1];exact hr j e (k.2.1 _ hj)⟩
theorem BxS.sub{g:Gh}{W:World}{b i:Nat}{x x':Bx}(h:BxS g W b i x)(k:x'.le x):BxS g W b i x':=by
 unfold BxS at h ⊢;rw[k.2.2];split at h
 ·rename_i hm;rw[if_pos hm,k.1];refine⟨List.eq_nil_iff_forall_not_mem.2 fun p hp=>?_,h.2⟩;have:=k.2.1 p hp;rw[h.1]at this;cases this
 ·rename_i hm;rw[if_neg hm];exact bxb.sub h k
theorem Inv.sub{g:Gh}{W:World}{a:Act}{N:Nat}{L:Nat→Nat}{st st':St}(h:Inv g W a N L st)(hσ:st'.σ=st.σ)(ho:∀p∈st'.own,p∈st.own)
  (hl:∀d x',st'.loc.get d=some x'→∃x,st.loc.get d=some x∧x'.le x) (hn:st'.S.length=st.S.length) (hS:∀(i:Nat) x',st'.S[i]? = some x'→∃x,st.S[i]? = some x∧x'.le x):Inv g W a N L st':=
 ⟨h.size,fun k=>by rw[hσ];exact h.slot k,fun k e hk=>by rw[hσ];exact h.own k e (ho _ hk),
  fun d x' hx=>by obtain⟨x,h1,h2⟩:=hl d x' hx;exact(h.loc d x h1).sub h2,
  ⟨by rw[hn];exact h.sh.len,fun i x' hx=>by
   obtain⟨x,h1,h2⟩:=hS i x' hx;obtain⟨b,h3,h4⟩:=h.sh.box i x h1;exact⟨b,h3,h4.sub h2⟩,h.sh.fresh⟩⟩
theorem Bx.le_refl(x:Bx):x.le x:=⟨rfl,fun _ h=>h,rfl⟩
theorem Inv.subOwn{g:Gh}{W:World}{a:Act}{N:Nat}{L:Nat→Nat}{st:St}(h:Inv g W a N L st)(own:List (Nat×Nat))(ho:∀p∈own,p∈st.own):Inv g W a N L {st with own:=own}:=
 h.sub rfl ho (fun _ x hx=>⟨x,hx,x.le_refl⟩) rfl (fun _ x hx=>⟨x,hx,x.le_refl⟩)
theorem b34(a:Array Value)(d k:Nat)(v:Value):(a.setIfInBounds d v).getD k undef=if d=k∧d<a.size then v else a.getD k undef:=by
 simp only[gv,sc];by_cases h:d=k
 ·subst h;by_cases h2:d<a.size
  ·simp[h2]
  ·simp[h2]
 ·simp[h]
def St.drop(st:St)(d:Nat):List (Nat×Nat):=st.own.filter fun p=>p.1 != d
theorem Inv.put{g:Gh}{W:World}{a:Act}{N:Nat}{L:Nat→Nat}{st:St}(h:Inv g W a N L st)(d:Nat)(hd:d<N)(s:SV)(v:Value)(hs:SVR g W L s v) :
  Inv g W (a.put (some d) v) N L {st with σ:=st.σ.set d s,own:=st.drop d}:=by
 refine⟨by simp[Act.put,h.size],fun k=>?_,fun k e hk=>?_,h.loc,h.sh⟩
 ·simp only[Act.put,b34,zq.get_set];by_cases e:d=k
  ·subst e;simp only[h.size,hd,and_self,if_true];exact hs
  ·simp only[e,false_and,if_false];exact h.slot k
 ·simp only[St.drop,jp,bne_iff_ne,ne_eq]at hk;obtain⟨hk,hne⟩:=hk;obtain⟨x,w,h1,h2⟩:=h.own k e hk;have e:¬ d=k:=fun e=>hne e.symm
  refine⟨x,w,?_,h2⟩;simp only[Act.put,b34,zq.get_set,e,false_and,if_false];exact h1
def upd{α:Type}(f:Nat→α)(b:Nat)(x:α):Nat→α:=fun c=>if c=b then x else f c
theorem bb2{α:Type}(f:Nat→α)(b:Nat)(x:α):upd f b x b=x:=by simp[upd]
theorem bbh{α:Type}(f:Nat→α)(b c:Nat)(x:α)(h:c≠b):upd f b x c=f c:=by simp[upd,h]
def Gh.new(g:Gh)(W:World)(n:Nat)(o:Own):Gh:={g with T:=upd g.T W.heap.size n,O:=upd g.O W.heap.size o}
section
variable{g:Gh}{W:World}{S:LB}(h:∀b,W.heap.size≤b→g.T b=0∧g.O b=.free)
include h
theorem b5p(n:Nat)(o:Own)(ob:Obj):Ext g W (g.new W n o) (W.alloc ob):=by
 refine⟨⟨fun b=>?_,fun b i hi=>?_,fun _ _ h=>h⟩,by simp,rfl,rfl,rfl,fun b hb=>?_⟩
 ·by_cases e:b=W.heap.size
  ·subst e;simp[(h _ (cj _)).1]
  ·simp[Gh.new,bbh _ _ _ _ e]
 ·have e:b≠W.heap.size:=fun e=>by subst e;rw[(h _ (cj _)).1]at hi;omega
  exact World.cell?_alloc_old _ _ _ e
 ·have e:b≠W.heap.size:=fun e=>by subst e;rw[(h _ (cj _)).2]at hb;cases hb
  refine⟨by simp[Gh.new,bbh _ _ _ _ e,hb],?_,by simp[Gh.new,bbh _ _ _ _ e]⟩;simp only[World.alloc,pm];simp[e]
theorem c5p(n:Nat)(o:Own)(ob:Obj):∀b,(W.alloc ob).heap.size≤b→(g.new W n o).T b=0∧(g.new W n o).O b=.free:=by
 intro b hb;simp only[World.size_alloc]at hb;have e:b≠W.heap.size:=by omega
 simp only[Gh.new,bbh _ _ _ _ e];exact h b (by omega)
omit h in
theorem dgs(n:Nat)(o:Own)(ob:Obj):∀b,b<W.heap.size→Same g W (g.new W n o) (W.alloc ob) b:=by
 intro b hb;have e:b≠W.heap.size:=by omega
 refine⟨?_,by simp[Gh.new,bbh _ _ _ _ e],by simp[Gh.new,bbh _ _ _ _ e]⟩;simp only[World.alloc,pm];simp[e]
end
theorem Inv.new{g:Gh}{W:World}{a:Act}{N:Nat}{L:Nat→Nat}{st:St}(h:Inv g W a N L st)(n:Nat)(o:Own)(ob:Obj) :
  Inv (g.new W n o) (W.alloc ob) a N L st:=
 h.keep (b5p h.sh.fresh n o ob).toKeeps rfl (dgs n o ob) (c5p h.sh.fresh n o ob)
theorem bqt(g:Gh)(W:World):Ext g W g W.drew:=⟨⟨fun _=>cj _,fun _ _ _=>rfl,fun _ _ h=>h⟩,cj _,rfl,rfl,rfl,fun _ h=>⟨h,rfl,rfl⟩⟩
theorem Inv.drew{g:Gh}{W:World}{a:Act}{N:Nat}{L:Nat→Nat}{st:St}(h:Inv g W a N L st):Inv g W.drew a N L st:=
 h.keep (bqt g W).toKeeps rfl (fun _ _=>⟨rfl,rfl,rfl⟩) h.sh.fresh
def Gh.give(g:Gh)(b:Nat)(o:Own):Gh:={g with O:=upd g.O b o}
theorem b33{g:Gh}{W:World}{b:Nat}{o:Own}(hb:g.O b≠.ext):Ext g W (g.give b o) W:=by
 refine⟨⟨fun _=>cj _,fun _ _ _=>rfl,fun _ _ h=>h⟩,cj _,rfl,rfl,rfl,fun c hc=>⟨?_,rfl,rfl⟩⟩;have e:c≠b:=fun e=>by subst e;exact hb hc
 simp[Gh.give,bbh _ _ _ _ e,hc]
theorem b52{g:Gh}{W:World}{b:Nat}{o:Own}:∀c,c<W.heap.size→c≠b→Same g W (g.give b o) W c:=
 fun c _ hc=>⟨rfl,by simp[Gh.give,bbh _ _ _ _ hc],rfl⟩
theorem b1s{g:Gh}{W:World}{b:Nat}{o:Own}(h:∀b,W.heap.size≤b→g.T b=0∧g.O b=.free)(hb:b<W.heap.size) :
  ∀c,W.heap.size≤c→(g.give b o).T c=0∧(g.give b o).O c=.free:=by
 intro c hc;have e:c≠b:=by omega
 simp only[Gh.give,bbh _ _ _ _ e];exact h c hc
theorem Inv.giveRight{g:Gh}{W:World}{a:Act}{N:Nat}{L:Nat→Nat}{st:St}(h:Inv g W a N L st){o:Own}(u:Unused st o)(hne:o≠.ext){e:Nat}{x:AV}{v:Value}(hr:bj4 g W o e x v)(o':Own) :
  ∃g',Ext g W g' W∧g'.B=g.B∧Inv g' W a N L st∧bj4 g' W o' e x v:=by
 obtain⟨sz,es,rfl,hr⟩:=hr;rcases hr with hr | ⟨b,cap,cur,hv,hb,h1,h2,h3,h4,h5⟩
 ·exact⟨g,Ext.refl g W,rfl,h,sz,es,rfl,.inl hr⟩
 ·have hO:g.O b≠.ext:=by rw[h4];exact hne
  refine⟨g.give b o',b33 hO,rfl,h.keepX (b33 hO).toKeeps rfl o (fun c hc hco=>b52 c hc fun e=>?_) (b1s h.sh.fresh (bd0 hb)) u,sz,es,rfl,.inr ⟨b,cap,cur,hv,hb,h1,h2,h3,?_,h5⟩⟩
  ·subst e;exact hco h4
  ·simp[Gh.give,bb2]
def Gh.promise(g:Gh)(b n:Nat):Gh:={g with T:=upd g.T b n}
theorem ckr{g:Gh}{W:World}{b n:Nat}{cs cs':Array Value}{ty:TypeId}(hb:W.heap[b]? = some (.cells cs ty (0,0)))(hO:g.O b≠.ext)
  (hT:g.T b≤n) (hc:∀i,i<g.T b→cs'[i]? = cs[i]?):Ext g W (g.promise b n) (W.setRow b cs'):=by
 refine⟨⟨fun c=>?_,fun c i hi=>?_,fun _ _ h=>h⟩,by simp,rfl,rfl,rfl,fun c hx=>⟨hx,?_,?_⟩⟩
 ·by_cases e:c=b
  ·subst e;simpa[Gh.promise,bb2] using hT
  ·simp[Gh.promise,bbh _ _ _ _ e]
 ·by_cases e:c=b
  ·subst e;rw[cell_of_row (W.setRow c cs') c i cs' ty (0,0) (setRow_heap W c cs cs' ty _ hb),cell_of_row W c i cs ty (0,0) hb];exact hc i hi
  ·exact World.cell?_of_block (setRow_other W b c cs' e)
 ·have e:c≠b:=fun e=>by subst e;exact hO hx
  exact setRow_other W b c cs' e
 ·have e:c≠b:=fun e=>by subst e;exact hO hx
  simp[Gh.promise,bbh _ _ _ _ e]
theorem cb4{g:Gh}{W:World}{b n:Nat}{cs':Array Value}:∀c,c<W.heap.size→c≠b→Same g W (g.promise b n) (W.setRow b cs') c:=
 fun c _ hc=>⟨setRow_other W b c cs' hc,rfl,by simp[Gh.promise,bbh _ _ _ _ hc]⟩
theorem cf1{g:Gh}{W:World}{b n:Nat}{cs':Array Value}(h:∀b,W.heap.size≤b→g.T b=0∧g.O b=.free)(hb:b<W.heap.size) :
  ∀c,(W.setRow b cs').heap.size≤c→(g.promise b n).T c=0∧(g.promise b n).O c=.free:=by
 intro c hc;rw[setRow_size]at hc;have e:c≠b:=by omega
 simp only[Gh.promise,bbh _ _ _ _ e];exact h c hc
theorem cf4(g:Gh)(b:Nat):g.promise b (g.T b)=g:=by
 unfold Gh.promise upd;congr
 funext c
 split
 ·rename_i h;rw[h]
 ·rfl
end Go.Av
namespace Go.Av
open Go
inductive Opd where
 | s (k:Nat)
 | c (a:AV)
 deriving Inhabited
inductive AOp where
 | mov (d:Nat) (x:Opd) (take:Bool)
 | nils (d sz e:Nat)
 | pick (d:Nat) (c a b:Opd)
 | box (d:Nat) (sh:Bool) (x:Opd) (nl:List (Nat×Nat):=[])
 | alloc (d:Nat) (sh:Bool) (z:LA) (own:List (Nat×Nat))
 | load (d n:Nat) (ag:Bool) (x:Opd)
 | take (d:Nat) (x:Opd)
 | store (x y:Opd) (n:Nat) (take:Bool) (nl:List (Nat×Nat):=[])
 | bin (d:Nat) (op:BinOp) (x y:Opd)
 | eqb (d:Nat) (neg:Bool) (x y:Opd)
 | un (d:Nat) (op:UnOp) (x:Opd)
 | convI (d:Nat) (k:IntKind) (x:Opd)
 | convS (d:Nat) (x:Opd)
 | convB (d:Nat) (x:Opd)
 | mkfn (d:Nat) (fn:Fn) (first caps:List Opd)
 | extract (d:Nat) (x:Opd) (j:Nat)
 | field (d off n:Nat) (ag:Bool) (x:Opd)
 | faddr (d off:Nat) (x:Opd)
 | iaddrA (d len sz:Nat) (x i:Opd)
 | iaddrS (d sz:Nat) (x i:Opd)
 | idxS (d:Nat) (x i:Opd)
 | idxA (d len sz:Nat) (ag:Bool) (x i:Opd)
 | slice (d sz:Nat) (x:Opd) (lo hi:Option Opd)
 | sliceS (d:Nat) (x:Opd) (lo hi:Option Opd)
 | sliceA (d len sz:Nat) (ag:Bool) (x:Opd) (lo hi:Option Opd)
 | build (d:Nat) (z:LA) (parts:List (Nat×Nat×Opd))
 | buildR (d:Nat) (z:LA) (parts:List (Nat×Nat×Opd)) (j k:Nat)
 | bslice (d sz e:Nat) (xs:List Opd)
 | nilchk (d:Nat) (x:Opd)
 | mkif (d t:Nat) (x:Opd)
 | tassert (d t:Nat) (ok:Bool) (z:AV) (x:Opd)
 | len (d:Nat) (str:Bool) (x:Opd)
 | mm (d:Nat) (mx:Bool) (x y:Opd)
 | append (d sz e bytes:Nat) (x y:Opd)
 | make (d sz e bytes:Nat) (z:LA) (n c:Opd)
 | makeL (d sz bytes:Nat) (ag:Bool) (z:LA) (n c:Opd)
 | cloneL (d sz e bytes:Nat) (ag:Bool) (x y:Opd)
 | makeMap (d:Nat)
 | lookup (d:Nat) (ok:Bool) (kd:Option IntKind) (z:AV) (x k:Opd)
 | mapUpd (kd:Option IntKind) (x k v:Opd)
 | eqnil (d:Nat) (neg:Bool) (cls:Nat) (x:Opd)
 | eqagg (d:Nat) (neg:Bool) (ks:List Nat) (x y:Opd)
 | call (d:Option Nat) (f:Nat) (xs:List Opd)
 | callv (d:Option Nat) (c:Opd) (xs:List Opd)
 | panic (x:Opd)
 deriving Inhabited
structure AOper where
 op:AOp
 gd:Option (Nat×Bool):=none
 blk:Option Nat:=none
 deriving Inhabited
inductive AEx where
 | normal
 | exit (id:Nat)
 | ret
 | panic (v:AV)
inductive AEnd where
 | ret (r:AV) (own:Option Nat)
 | panic (v:AV)
abbrev Rec:=Nat→LA→LB→Option (AEnd×LB)
def St.sv(st:St):Opd→SV
 | .s k=>st.σ.get k
 | .c a=>.v a
def SV.av:SV→Option AV
 | .v a=>some a
 | .vn a _=>some a
 | .vr a _ _=>some a
 | _=>none
def St.av(st:St)(x:Opd):Option AV:=(st.sv x).av
def St.avs(st:St):List Opd→Option (LA)
 | []=>some []
 | x::xs=>match st.av x,st.avs xs with
  | some a,some as=>some (a::as)
  | _,_=>none
def St.put(st:St)(d:Nat)(s:SV):St:={st with σ:=st.σ.set d s,own:=st.drop d}
def St.right(st:St)(d e:Nat):St:={st with own:=(d,e)::st.own}
def bbx:List (Nat×Nat)→Nat→Option Nat
 | [],_=>none
 | (k,e)::r,j=>if k=j then some e else bbx r j
theorem bdq{l:List (Nat×Nat)}{k e:Nat}(h:bbx l k=some e):(k,e)∈l:=by
 induction l with
 | nil=>simp[bbx]at h
 | cons p r ih=>
  obtain⟨j,f⟩:=p;simp only[bbx]at h;split at h
  ·rename_i e1;subst e1;obtain rfl:=bf h;exact .head _
  ·exact .tail _ (ih h)
def St.move(st:St)(d:Nat)(x:Opd):St:=
 match x with
 | .s k=>match bbx st.own k with
  | some e=>if k=d then st else(St.put {st with own:=st.drop k} d (st.σ.get k)).right d e
  | none=>st.put d (st.σ.get k)
 | .c a=>st.put d (.v a)
def bp4(cs:LA)(n:Nat)(ag:Bool)(off:Nat):Option AV:=
 if ag then(if off+n≤cs.length then some (.agg ((cs.drop off).take n)) else none) else cs[off]?
def St.cellBox(st:St)(i:Nat):Option Bx:=(st.S[i]?).bind fun x=>if x.map=true then none else some x
theorem bsc{st:St}{i:Nat}{x:Bx}(h:st.cellBox i=some x):st.S[i]? = some x∧x.map=false:=by
 unfold St.cellBox at h;obtain⟨y,h1,h2⟩:=bg.1 h;split at h2
 ·cases h2
 ·rename_i hm;obtain rfl:=bf h2;exact⟨h1,by simpa using hm⟩
def St.cellsAt(st:St):SV→Option (LA×Nat)
 | .v (.sptr cs)=>some (cs,0)
 | .l d off=>(st.loc.get d).map fun x=>(x.cells,off)
 | .v (.ptr i off)=>(st.cellBox i).map fun x=>(x.cells,off)
 | _=>none
def dmz(op:BinOp)(k:IntKind)(x y:Int):Option Int:=
 let a:=BitVec.ofInt k.bits x
 let b:=BitVec.ofInt k.bits y
 match op with
 | .and=>some (k.wrap (a &&& b).toNat)
 | .or=>some (k.wrap (a ||| b).toNat)
 | .xor=>some (k.wrap (a ^^^ b).toNat)
 | .andNot=>some (k.wrap (a &&& ~~~b).toNat)
 | _=>none
def ddp(op:BinOp):AV→AV→Option AV
 | .int k a,.int k' b=>
  match op with
  | .shl=>if b<0 then none else some (.int k (k.wrap (a*2 ^ (min b.toNat k.bits))))
  | .shr=>if b<0 then none else some (.int k (a.fdiv (2 ^ (min b.toNat k.bits))))
  | _=>if k=k' then
    match op with
    | .add=>some (.int k (k.wrap (a+b)))
    | .sub=>some (.int k (k.wrap (a - b)))
    | .mul=>some (.int k (k.wrap (a*b)))
    | .quo=>if b=0 then none else some (.int k (k.wrap (a.tdiv b)))
    | .rem=>if b=0 then none else some (.int k (a.tmod b))
    | .eql=>some (.bool (a==b))
    | .neq=>some (.bool (a != b))
    | .lss=>some (.bool (decide (a<b)))
    | .leq=>some (.bool (decide (a≤b)))
    | .gtr=>some (.bool (decide (a > b)))
    | .geq=>some (.bool (decide (a≥b)))
    | op=>(dmz op k a b).map (.int k)
   else none
 | .str a,.str b=>
  match op with
  | .add=>if a.size+b.size≤9223372036854775807 then some (.str (a++b)) else none
  | .eql=>some (.bool (a.toList==b.toList))
  | .neq=>some (.bool (!(a.toList==b.toList)))
  | .lss=>some (.bool (Op.bytesLess a.toList b.toList))
  | .leq=>some (.bool (Op.bytesLess a.toList b.toList||a.toList==b.toList))
  | .gtr=>some (.bool (!(Op.bytesLess a.toList b.toList||a.toList==b.toList)))
  | .geq=>some (.bool (!(Op.bytesLess a.toList b.toList)))
  | _=>none
 | _,_=>none
def aun(op:UnOp):AV→Option AV
 | .bool b=>match op with | .not=>some (.bool !b) | _=>none
 | .int k n=>match op with | .neg=>some (.int k (k.wrap (0 - n))) | _=>none
 | _=>none
def bdf(cs:LA)(off:Nat)(new:LA):LA:=cs.take off++new++cs.drop (off+new.length)
def bgd(st:St)(z:LA):List (Nat×Nat×Opd)→Option (LA)
 | []=>some z
 | (off,n,x)::r=>match st.av x with
  | some a=>if a.isDat=true∧a.cells.length=n∧off+n≤z.length then bgd st (bdf z off a.cells) r else none
  | none=>none
def br5:AV→Bool
 | .slice _ []=>true
 | _=>false
def bmx(parts:List (Nat×Nat×Opd)):LA→Nat→List Nat
 | [],_=>[]
 | c::cs,j=>if br5 c&&parts.all (fun p=>decide (j<p.1)||decide (p.1+p.2.1≤j)) then j::bmx parts cs (j+1) else bmx parts cs (j+1)
def br0(z:LA)(parts:List (Nat×Nat×Opd)):List Nat:=bmx parts z 0
theorem b8x{parts:List (Nat×Nat×Opd)}:∀{z:LA} {k j:Nat},j∈bmx parts z k→∃i sz,j=k+i∧z[i]? = some (.slice sz [])∧∀p∈parts,j<p.1∨p.1+p.2.1≤j
 | [],k,j,h=>by simp[bmx]at h
 | c::cs,k,j,h=>by
  have tail:j∈bmx parts cs (k+1)→∃i sz,j=k+i∧(c::cs)[i]? = some (.slice sz [])∧∀p∈parts,j<p.1∨p.1+p.2.1≤j:=by
   intro h;obtain⟨i,sz,h1,h2,h3⟩:=b8x h;exact⟨i+1,sz,by omega,by simpa using h2,h3⟩
  simp only[bmx]at h;split at h
  ·rename_i hc;simp only[bp,cq,d8,decide_eq_true_eq]at hc;rcases dc.1 h with rfl | h
   ·have hn:=hc.1;unfold br5 at hn;split at hn
    ·exact⟨0,_,rfl,rfl,hc.2⟩
    ·cases hn
   ·exact tail h
  ·exact tail h
def bhq:Nat→AV→Option Bool
 | 0,.nilptr=>some true
 | 1,.nilfn=>some true
 | 2,.niliface=>some true
 | 3,.nilmap=>some true
 | 0,.sptr _=>some false
 | 0,.ptr _ _=>some false
 | 1,.clos _ _ _=>some false
 | 2,.iface _ _=>some false
 | 3,.mapp _=>some false
 | _,_=>none
def crt:Nat→AV→AV→Option Bool
 | 0,.int k a,.int k' b=>if k=k' then some (a==b) else none
 | 1,.bool a,.bool b=>some (a==b)
 | 2,.str a,.str b=>some (a.toList==b.toList)
 | _,_,_=>none
def bqs:List Nat→LA→LA→Option Bool
 | [],[],[]=>some true
 | k::ks,x::xs,y::ys=>match crt k x y,bqs ks xs ys with
  | some b,some c=>some (b&&c)
  | _,_=>none
 | _,_,_=>none
def chh(ag:Bool)(sz:Nat):Nat→LA→Option (LA)
 | 0,_=>some []
 | n+1,cs=>match bp4 cs sz ag 0,chh ag sz n (cs.drop sz) with
  | some c,some r=>some (c::r)
  | _,_=>none
def bfv(st:St)(dflt:Nat):Option Opd→Option Int
 | none=>some dflt
 | some x=>match st.av x with
  | some (.int _ i)=>some i
  | _=>none
def bsf:LA→Option (LU)
 | []=>some []
 | .int .u8 n::r=>if 0≤n∧n<256 then(bsf r).map fun l=>UInt8.ofNat n.toNat::l else none
 | _=>none
def bbb(st:St):AOp→Option SV
 | .pick _ c a b=>match st.av c with
  | some (.bool t)=>match st.sv a,st.sv b with
   | .v (.bool p),.v (.bool q)=>some (.v (.bool (if t then p else q)))
   | p,q=>some (if t then p else q)
  | _=>none
 | .load _ n ag x=>match st.cellsAt (st.sv x) with
  | some (cs,off)=>(bp4 cs n ag off).map .v
  | none=>none
 | .bin _ op x y=>match st.av x,st.av y with
  | some a,some b=>(ddp op a b).map .v
  | _,_=>none
 | .eqb _ neg x y=>match st.av x,st.av y with
  | some (.bool a),some (.bool b)=>some (.v (.bool (if neg then !(a==b) else a==b)))
  | _,_=>none
 | .un _ op x=>match st.av x with
  | some a=>(aun op a).map .v
  | none=>none
 | .convI _ k x=>match st.av x with
  | some (.int _ n)=>some (.v (.int k (k.wrap n)))
  | _=>none
 | .convB _ x=>match st.av x with
  | some (.slice 1 es)=>(bsf es).map fun l=>.v (.str ⟨l.toArray⟩)
  | _=>none
 | .convS _ x=>match st.av x with
  | some (.str s)=>some (.v (.str s))
  | _=>none
 | .mkfn _ fn first caps=>match st.avs first,st.avs caps with
  | some f,some c=>some (.v (.clos fn f c))
  | _,_=>none
 | .extract _ x j=>match st.av x with
  | some (.tuple vs)=>(vs[j]?).map .v
  | _=>none
 | .field _ off n ag x=>match st.av x with
  | some (.agg cs)=>(bp4 cs n ag off).map .v
  | _=>none
 | .faddr _ off x=>match st.sv x with
  | .v (.sptr cs)=>if off≤cs.length then some (.v (.sptr (cs.drop off))) else none
  | .l d o=>some (.l d (o+off))
  | .v (.ptr i o)=>some (.v (.ptr i (o+off)))
  | _=>none
 | .iaddrA _ len sz x i=>match st.av i with
  | some (.int _ i)=>if 0≤i∧i<len then
    match st.sv x with
    | .v (.sptr cs)=>if i.toNat*sz≤cs.length then some (.v (.sptr (cs.drop (i.toNat*sz)))) else none
    | .l d o=>some (.l d (o+i.toNat*sz))
    | .v (.ptr j o)=>some (.v (.ptr j (o+i.toNat*sz)))
    | _=>none
   else none
  | _=>none
 | .iaddrS _ sz x i=>match st.sv x with
  | .ls d sz' _ n=>(match st.av i with
   | some (.int _ i)=>if sz=sz'∧0≤i∧i<n then some (.l d (i.toNat*sz)) else none
   | _=>none)
  | _=>(match st.av x,st.av i with
   | some (.slice sz' es),some (.int _ i)=>if sz=sz'∧0≤i then(es[i.toNat]?).map fun e=>.v (.sptr e.cells) else none
   | _,_=>none)
 | .idxS _ x i=>match st.av x,st.av i with
  | some (.str s),some (.int _ i)=>if 0≤i then(s[i.toNat]?).map fun b=>.v (.int .u8 b.toNat) else none
  | _,_=>none
 | .idxA _ len sz ag x i=>match st.av x,st.av i with
  | some (.agg cs),some (.int _ i)=>if 0≤i∧i<len then(bp4 cs sz ag (i.toNat*sz)).map .v else none
  | _,_=>none
 | .slice _ sz x lo hi=>match st.av x with
  | some (.slice sz' es)=>match bfv st 0 lo,bfv st es.length hi with
   | some l,some h=>if sz=sz'∧0≤l∧l≤h∧h≤es.length then some (.v (.slice sz ((es.take h.toNat).drop l.toNat))) else none
   | _,_=>none
  | _=>none
 | .sliceS _ x lo hi=>match st.av x with
  | some (.str s)=>match bfv st 0 lo,bfv st s.size hi with
   | some l,some h=>if 0≤l∧l≤h∧h≤s.size then some (.v (.str (s.extract l.toNat h.toNat))) else none
   | _,_=>none
  | _=>none
 | .sliceA _ len sz ag x lo hi=>match st.av x with
  | some (.sptr cs)=>match bfv st 0 lo,bfv st len hi,chh ag sz len cs with
   | some l,some h,some es=>if 0≤l∧l≤h∧h≤len∧0<sz then some (.v (.slice sz ((es.take h.toNat).drop l.toNat))) else none
   | _,_,_=>none
  | _=>none
 | .build _ z parts=>(bgd st z parts).map fun cs=>if br0 z parts=[] then .v (.agg cs) else .vn (.agg cs) (br0 z parts)
 | .nilchk _ x=>match st.sv x with
  | .v (.sptr cs)=>some (.v (.sptr cs))
  | .l d o=>some (.l d o)
  | .v (.ptr i o)=>some (.v (.ptr i o))
  | _=>none
 | .tassert _ t ok z x=>match st.av x with
  | some (.iface t' v)=>if t'=t then some (.v (if ok then .tuple [v,.bool true] else v)) else if ok then some (.v (.tuple [z,.bool false])) else none
  | some .niliface=>if ok then some (.v (.tuple [z,.bool false])) else none
  | _=>none
 | .mkif _ t x=>match st.av x with
  | some a=>if a.isDat=true then some (.v (.iface t a)) else none
  | none=>none
 | .len _ str x=>match st.sv x with
  | .ls _ _ _ n=>if str then none else some (.v (.int .i64 n))
  | _=>(match st.av x with
   | some (.slice _ es)=>if str then none else some (.v (.int .i64 es.length))
   | some (.str s)=>if str then some (.v (.int .i64 s.size)) else none
   | _=>none)
 | .mm _ mx x y=>match st.av x,st.av y with
  | some (.int k a),some (.int k' b)=>if k=k' then some (.v (.int k (if mx then max a b else min a b))) else none
  | _,_=>none
 | .eqnil _ neg cls x=>match st.av x with
  | some a=>(bhq cls a).map fun b=>.v (.bool (if neg then !b else b))
  | none=>none
 | .eqagg _ neg ks x y=>match st.av x,st.av y with
  | some (.agg a),some (.agg b)=>(bqs ks a b).map fun c=>.v (.bool (if neg then !c else c))
  | _,_=>none
 | _=>none
def AOp.dst:AOp→Option Nat
 | .mov d _ _ | .nils d _ _ | .pick d _ _ _ | .box d _ _ _ | .alloc d _ _ _ | .load d _ _ _ | .take d _ | .bin d _ _ _ | .eqb d _ _ _ | .un d _ _ | .convI d _ _ | .convS d _ | .convB d _
 | .mkfn d _ _ _ | .extract d _ _ | .field d _ _ _ _ | .faddr d _ _ | .iaddrA d _ _ _ _ | .iaddrS d _ _ _ | .idxS d _ _ | .idxA d _ _ _ _ _ | .slice d _ _ _ _ | .sliceS d _ _ _ | .sliceA d _ _ _ _ _ _
 | .build d _ _ | .buildR d _ _ _ _ | .bslice d _ _ _ | .nilchk d _ | .mkif d _ _ | .tassert d _ _ _ _ | .len d _ _ | .mm d _ _ _ | .append d _ _ _ _ _ | .make d _ _ _ _ _ _ | .makeL d _ _ _ _ _ _ | .cloneL d _ _ _ _ _ _ | .makeMap d | .lookup d _ _ _ _ _ | .eqnil d _ _ _ | .eqagg d _ _ _ _=>some d
 | .store .. | .panic _ | .mapUpd ..=>none
 | .call d _ _ | .callv d _ _=>d
def bd1:Option IntKind→AV→Bool
 | none,.str _=>true
 | some k,.int k' _=>decide (k'=k)
 | _,_=>false
def bg4:AV→AV→Bool
 | .int _ a,.int _ b=>a==b
 | .str a,.str b=>a.toList==b.toList
 | _,_=>false
def b7q(kd:Option IntKind):LA→AV→Option (Option AV)
 | [],_=>some none
 | k'::v::r,k=>if bd1 kd k'=true then(if bg4 k k'=true then some (some v) else b7q kd r k) else none
 | [_],_=>none
def cq5(kd:Option IntKind):LA→AV→AV→Option (LA)
 | [],k,v=>some [k,v]
 | k'::v'::r,k,v=>if bd1 kd k'=true then(if bg4 k k'=true then some (k::v::r) else(cq5 kd r k v).map fun r'=>k'::v'::r') else none
 | [_],_,_=>none
def bvm(ok:Bool)(z:AV):Option AV→AV
 | some v=>if ok=true then .tuple [v,.bool true] else v
 | none=>if ok=true then .tuple [z,.bool false] else z
def bqb:AV→Option (Nat×LA)
 | .slice sz ys=>some (sz,ys)
 | .str s=>some (1,s.data.toList.map fun b=>.int .u8 b.toNat)
 | _=>none
def normal(st:St):Option (AEx×St):=some (.normal,st)
def bdj(own:List (Nat×Nat))(off n:Nat):List (Nat×Nat):=own.filter fun p=>!(off≤p.1&&p.1<off+n)
def bt1(off:Nat):Option (Nat×Nat)→List (Nat×Nat)
 | some (j,e)=>[(off+j,e)]
 | none=>[]
def bk2:SV→List (Nat×Nat)→Bool
 | .vn _ ns,nl=>nl.all fun p=>ns.contains p.1
 | .vr _ ns _,nl=>nl.all fun p=>ns.contains p.1
 | _,nl=>nl.isEmpty
def b88(p:Nat×Nat):List (Nat×Nat)→List (Nat×Nat)
 | []=>[p]
 | q::r=>if p.1≤q.1 then p::q::r else q::b88 p r
def b43:List (Nat×Nat)→List (Nat×Nat)
 | []=>[]
 | p::r=>b88 p (b43 r)
theorem b82{p x:Nat×Nat}:∀{l:List (Nat×Nat)},x∈b88 p l↔x=p∨x∈l
 | []=>by simp[b88]
 | q::r=>by
  simp only[b88];split
  ·simp
  ·simp only[dc,b82 (l:=r)];constructor
   ·rintro(h | h | h)
    ·exact .inr (.inl h)
    ·exact .inl h
    ·exact .inr (.inr h)
   ·rintro(h | h | h)
    ·exact .inr (.inl h)
    ·exact .inl h
    ·exact .inr (.inr h)
theorem bvk{x:Nat×Nat}:∀{l:List (Nat×Nat)},x∈b43 l↔x∈l
 | []=>Iff.rfl
 | p::r=>by simp only[b43,b82,bvk (l:=r),dc]
def bgb(st:St)(x:SV)(new:LA)(r:Option (Nat×Nat))(nl:List (Nat×Nat)):Option St:=
 let put (bx:Bx) (off:Nat):Option Bx:=
  if off+new.length≤bx.cells.length then
   some {cells:=bdf bx.cells off new,own:=b43 ((bt1 off r++nl.map fun p=>(off+p.1,p.2))++bdj bx.own off new.length)}
  else none
 match x with
 | .l d off=>match st.loc.get d with
  | some bx=>(put bx off).map fun bx'=>{st with loc:=st.loc.set d bx'}
  | none=>none
 | .v (.ptr i off)=>match st.cellBox i with
  | some bx=>(put bx off).map fun bx'=>{st with S:=st.S.set i bx'}
  | none=>none
 | _=>none
@[simp] def cks:AV→Nat→SV
 | .agg cs,te=>.vr (.agg cs) [] (te / 100000)
 | r,_=>.v r
@[simp] def retE:AV→Nat→Nat
 | .agg _,te=>te % 100000
 | _,te=>te
def bch(d:Option Nat)(st:St)(r:AEnd)(S':LB):Option (AEx×St):=
 match r with
 | .ret r own=>match d with
  | some d=>match own with
   | some e=>normal ((({st with S:=S'}:St).put d (cks r e)).right d (retE r e))
   | none=>normal (({st with S:=S'}:St).put d (.v r))
  | none=>normal {st with S:=S'}
 | .panic v=>some (.panic v,{st with S:=S'})
def aop(rec:Rec)(st:St):AOp→Option (AEx×St)
 | .mov d x take=>normal (if take then st.move d x else st.put d (st.sv x))
 | .nils d sz e=>normal ((st.put d (.v (.slice sz []))).right d e)
 | .box d sh x nl=>match st.av x with
  | some a=>if a.isDat=true∧bk2 (st.sv x) nl=true then
    (if sh then normal (St.put {st with S:=st.S++[{cells:=a.cells,own:=nl}]} d (.v (.ptr st.S.length 0)))
    else normal (St.put {st with σ:=st.σ.kill d,loc:=st.loc.set d {cells:=a.cells,own:=nl}} d (.l d 0)))
   else none
  | none=>none
 | .alloc d sh z own=>
  if sh then normal (St.put {st with S:=st.S++[{cells:=z,own:=own}]} d (.v (.ptr st.S.length 0)))
  else normal (St.put {st with σ:=st.σ.kill d,loc:=st.loc.set d {cells:=z,own:=own}} d (.l d 0))
 | .take d x=>match st.sv x with
  | .l b off=>match st.loc.get b with
   | some bx=>match bx.cells[off]?,bbx bx.own off with
    | some a,some e=>normal ((St.put {st with loc:=st.loc.set b {bx with own:=bdj bx.own off 1}} d (.v a)).right d e)
    | some a,none=>normal (st.put d (.v a))
    | none,_=>none
   | none=>none
  | .v (.ptr i off)=>match st.cellBox i with
   | some bx=>match bx.cells[off]?,bbx bx.own off with
    | some a,some e=>normal ((St.put {st with S:=st.S.set i {bx with own:=bdj bx.own off 1}} d (.v a)).right d e)
    | some a,none=>normal (st.put d (.v a))
    | none,_=>none
   | none=>none
  | _=>none
 | .store x y n take nl=>match st.av y with
  | some a=>if(a.isDat=true∧a.cells.length=n)∧bk2 (st.sv y) nl=true then
    match take,y with
    | true,.s k=>match bbx st.own k with
     | some e=>if a.isAgg then(match st.σ.get k with | .vr _ _ j=>(bgb {st with own:=st.drop k} (st.sv x) a.cells (some (j,e)) nl).bind normal | _=>none) else(bgb {st with own:=st.drop k} (st.sv x) a.cells (some (0,e)) nl).bind normal
     | none=>(bgb st (st.sv x) a.cells none nl).bind normal
    | _,_=>(bgb st (st.sv x) a.cells none nl).bind normal
   else none
  | none=>none
 | .bslice d sz e xs=>match st.avs xs with
  | some as=>if as.all (fun a=>a.isDat&&a.cells.length==sz) then normal ((st.put d (.v (.slice sz as))).right d e) else none
  | none=>none
 | .buildR d z parts j k=>match st.σ.get k,bbx st.own k,bgd st z (parts++[(j,1,.s k)]) with
  | .v _,some e,some cs=>normal ((St.put {st with own:=st.drop k} d (.vr (.agg cs) (br0 z (parts++[(j,1,.s k)])) j)).right d e)
  | _,_,_=>none
 | .append d sz e bytes x y=>match x,st.av x,(st.av y).bind bqb with
  | .s k,some (.slice sz1 xs),some (sz2,ys)=>
   match bbx st.own k with
   | some e'=>if e=e'∧sz1=sz∧sz2=sz∧(xs.length+ys.length)*bytes≤140737488355328 then
     normal ((St.put {st with own:=st.drop k} d (.v (.slice sz (xs++ys)))).right d e)
    else none
   | none=>none
  | _,_,_=>none
 | .make d sz e bytes z n c=>match st.av n,st.av c with
  | some (.int _ n),some (.int _ c)=>if 0≤n∧n≤c∧bytes*c≤140737488355328 then
    normal ((st.put d (.v (.slice sz (List.replicate n.toNat (if sz=1 then z.headD .niliface else .agg z))))).right d e) else none
  | _,_=>none
 | .makeL d sz bytes ag z n c=>match st.av n,st.av c with
  | some (.int _ n),some (.int _ c)=>if n=c∧0≤n∧bytes*c≤140737488355328 then
    normal (St.put {st with σ:=st.σ.kill d,loc:=st.loc.set d {cells:=(List.replicate n.toNat z).flatten}} d (.ls d sz ag n.toNat)) else none
  | _,_=>none
 | .cloneL d sz e bytes ag x y=>match x,st.av x,(st.av y).bind bqb with
  | .s k,some (.slice sz1 xs),some (sz2,ys)=>
   match bbx st.own k with
   | some e'=>if(e=e'∧sz1=sz∧sz2=sz∧ys.length*bytes≤140737488355328)∧xs.isEmpty=true∧ys.isEmpty=false then
     normal (St.put {st with own:=st.drop k,σ:=st.σ.kill d,loc:=st.loc.set d {cells:=(ys.map AV.cells).flatten}} d (.ls d sz ag ys.length))
    else none
   | none=>none
  | _,_,_=>none
 | .makeMap d=>normal (St.put {st with S:=st.S++[{cells:=[],map:=true}]} d (.v (.mapp st.S.length)))
 | .lookup d ok kd z x k=>match st.av x,st.av k with
  | some .nilmap,some kv=>if bd1 kd kv=true then normal (st.put d (.v (bvm ok z none))) else none
  | some (.mapp i),some kv=>if bd1 kd kv=true then(match st.S[i]? with
   | some bx=>if bx.map=true then(match b7q kd bx.cells kv with
    | some r=>normal (st.put d (.v (bvm ok z r)))
    | none=>none) else none
   | none=>none) else none
  | _,_=>none
 | .mapUpd kd x k v=>match st.av x,st.av k,st.av v with
  | some (.mapp i),some kv,some vv=>if bd1 kd kv=true then(match st.S[i]? with
   | some bx=>if bx.map=true then(match cq5 kd bx.cells kv vv with
    | some cs=>normal {st with S:=st.S.set i {cells:=cs,map:=true}}
    | none=>none) else none
   | none=>none) else none
  | _,_,_=>none
 | .call d f xs=>match st.avs xs with
  | some as=>match rec f as st.S with
   | some (r,S')=>bch d st r S'
   | none=>none
  | none=>none
 | .callv d c xs=>match st.av c,st.avs xs with
  | some (.clos (.func f) first caps),some as=>match rec f (first++as++caps) st.S with
   | some (r,S')=>bch d st r S'
   | none=>none
  | _,_=>none
 | .panic x=>match st.av x with
  | some (.iface t a)=>some (.panic (.iface t a),st)
  | _=>none
 | o=>match bbb st o,o.dst with
  | some s,some d=>normal (st.put d s)
  | _,_=>none
open Classical in
noncomputable def Rec.quiet(rec:Rec):Rec:=fun f args S=>
 match rec f args S with
 | some (.ret r own,S')=>if S'=S then some (.ret r own,S') else none
 | _=>none
def AOp.addr:AOp→Option Opd
 | .load _ _ _ x | .take _ x | .store x _ _ _ _=>some x
 | _=>none
mutual
def AV.closed(m:Nat):AV→Bool
 | .ptr i _=>i<m
 | .mapp i=>i<m
 | .agg cs | .tuple cs | .slice _ cs | .sptr cs=>zd m cs
 | .clos _ f c=>zd m f&&zd m c
 | .iface _ v=>v.closed m
 | _=>true
def zd(m:Nat):LA→Bool
 | []=>true
 | c::cs=>c.closed m&&zd m cs
end
def AOp.isLoad:AOp→Bool
 | .load ..=>true
 | _=>false
def AOp.isCall:AOp→Bool
 | .call .. | .callv ..=>true
 | _=>false
def bqz(st:St)(o:AOper):Bool:=
 match o.blk,o.op.addr with
 | some m,some x=>if m=77777 then(match st.sv x with | .v (.sptr _)=>o.op.isLoad | .v (.ptr _ _)=>true | _=>false)
   else(match st.sv x with | .l d _=>d==m | .v (.sptr _)=>true | _=>false)
 | _,_=>true
theorem bmc{st:St}{o:AOper}(h:bqz st o=true){m:Nat}{x:Opd}(hm:o.blk=some m)(hx:o.op.addr=some x) :
  (∃off,st.sv x=.l m off∧m≠77777)∨(∃cs,st.sv x=.v (.sptr cs))∨(m=77777∧∃i off,st.sv x=.v (.ptr i off)):=by
 simp only[bqz,hm,hx]at h;split at h
 ·rename_i h7;split at h
  ·rename_i cs hs;exact .inr (.inl ⟨cs,hs⟩)
  ·rename_i i off hs;exact .inr (.inr ⟨h7,i,off,hs⟩)
  ·cases h
 ·rename_i h7;split at h
  ·rename_i d off hs;obtain rfl:d=m:=by simpa using h
   exact .inl ⟨off,hs,h7⟩
  ·rename_i cs hs;exact .inr (.inl ⟨cs,hs⟩)
  ·cases h
def brd(rec:Rec)(st:St):AOp→Option (AEx×St)
 | .call d f xs=>match st.avs xs with
  | some as=>if zd 0 as=true then(match rec f as [] with
   | some (.ret r own,[])=>bch d st (.ret r own) st.S
   | _=>none) else none
  | none=>none
 | _=>none
def cvr(o:Option (AEx×St)):Option (AEx×St):=match o with
 | some (.panic _,_)=>none
 | o=>o
def b70(rec:Rec)(st:St)(blk:Option Nat)(o:AOp):Option (AEx×St):=
 if o.isCall=true then(if blk=some 55555 then brd rec st o else if blk=some 66667 then cvr (aop rec st o) else aop rec st o) else aop rec st o
def b27(rec:Rec)(st:St)(o:AOper):Option (AEx×St):=if bqz st o then b70 rec st o.blk o.op else none
def bdb(rec:Rec)(st:St)(o:AOper):Option (AEx×St):=
 match o.gd with
 | none=>b27 rec st o
 | some (k,want)=>match st.σ.get k with
  | .v (.bool b)=>if b=want then b27 rec st o else
    (match o.op.dst with | some d=>normal (st.put d .undef) | none=>normal st)
  | .undef=>(match o.op.dst with | some d=>normal (st.put d .undef) | none=>normal st)
  | _=>none
def bp2(rec:Rec):List AOper→St→Option (AEx×St)
 | [],st=>normal st
 | o::os,st=>match bdb rec st o with
  | some (.normal,st')=>bp2 rec os st'
  | r=>r
def St.keep(st:St)(live locs:List Nat):St:=
 {σ:=st.σ.keep live,own:=live.filterMap fun k=>(bbx st.own k).map fun e=>(k,e),loc:=st.loc.keep locs,S:=st.S}
def SV.frozen(d:Nat)(cells:LA):SV→SV
 | .l d' off=>if d'=d then(if off≤cells.length then .v (.sptr (cells.drop off)) else .junk) else .l d' off
 | .ls d' sz ag n=>if d'=d then(match chh ag sz n cells with | some es=>.v (.slice sz es) | none=>.junk) else .ls d' sz ag n
 | x=>x
theorem SV.part_slice{s:SV}{u w:Value}{x:AV}{sz:Nat}{es:LA}(h:s.part u=some (x,w))(ha:s.av=some (.slice sz es)):x=.slice sz es∧w=u:=by
 rcases SV.part_agg h with⟨x0,q1,q2⟩ | ⟨cs,ns',j1,x1,w1,q1,q2,q3,q4⟩
 ·simp only[bq]at q2;obtain⟨rfl,rfl⟩:=q2;rw[q1]at ha;simp only[SV.av,bd]at ha;exact⟨ha,rfl⟩
 ·rw[q1]at ha;simp[SV.av]at ha
theorem SV.part_frozen{s:SV}{u:Value}{p:AV×Value}(h:s.part u=some p)(d:Nat)(cs:LA):s.frozen d cs=s:=by
 cases s<;>first | rfl | (simp[SV.part]at h)
def zq.freeze:zq→Nat→LA→zq
 | [],_,_=>[]
 | (k,x)::r,d,cs=>(k,x.frozen d cs)::zq.freeze r d cs
def St.freeze(st:St)(d:Nat):Option St:=
 match st.loc.get d with
 | some bx=>some {st with σ:=st.σ.freeze d bx.cells,loc:=st.loc.del d}
 | none=>none
inductive ACode where
 | skip (live locs:List Nat)
 | region (ops:List AOper) (bs:Option (List Nat)) (quiet:Bool) (live locs:List Nat)
 | seq (a b:ACode)
 | cond (c:Opd) (a b:ACode)
 | block (id:Nat) (c:ACode)
 | loop (c:ACode)
 | exit (id:Nat) (live locs:List Nat)
 | ret
 | freeze (d:Nat) (c:ACode)
 | scope (c:ACode)
 | label
 deriving Inhabited
def AOp.news:AOp→List Nat
 | .box d false _ _ | .alloc d false _ _=>[d]
 | .makeL d _ _ _ _ _ _=>[d]
 | .cloneL d _ _ _ _ _ _=>[d]
 | _=>[]
def b8z(ops:List AOper):List Nat:=ops.flatMap fun o=>o.op.news
def zq.killAll(σ:zq):List Nat→zq
 | []=>σ
 | d::ds=>zq.killAll (σ.kill d) ds
def St.prep(st:St)(ops:List AOper):St:={st with σ:=st.σ.killAll (b8z ops)}
def bjx(f:St→Option (AEx×St)):Nat→St→Option (AEx×St)
 | 0,_=>none
 | k+1,st=>match f st with
  | some (.normal,st')=>bjx f k st'
  | r=>r
theorem bp3{f:St→Option (AEx×St)}:∀{n:Nat} {st:St} {r:AEx×St},bjx f n st=some r→∀m,n≤m→bjx f m st=some r
 | 0,st,r,h,_,_=>by simp[bjx]at h
 | n+1,st,r,h,0,hm=>by omega
 | n+1,st,r,h,m+1,hm=>by
  simp only[bjx]at h ⊢;split at h
  ·rename_i st' hf;exact bp3 h m (by omega)
  ·exact h
open Classical in
noncomputable def zc(f:St→Option (AEx×St))(st:St):Option (AEx×St):=
 if h:∃n r,bjx f n st=some r then some (h.choose_spec.choose) else none
theorem bfm{f:St→Option (AEx×St)}{st:St}{r:AEx×St}:zc f st=some r↔∃n,bjx f n st=some r:=by
 unfold zc;constructor
 ·intro h;split at h
  ·rename_i hx;have:=hx.choose_spec.choose_spec;obtain rfl:=bf h;exact⟨_,this⟩
  ·cases h
 ·rintro⟨n,hn⟩;have hx:∃n r,bjx f n st=some r:=⟨n,r,hn⟩;rw[dif_pos hx];have h1:=hx.choose_spec.choose_spec;have h2:=bp3 h1 (max hx.choose n) (gc _ _);have h3:=bp3 hn (max hx.choose n) (gk _ _);rw[h2]at h3;exact h3
theorem bmf(f:St→Option (AEx×St))(st:St):zc f st=match f st with | some (.normal,st')=>zc f st' | r=>r:=by
 cases hf:f st with
 | none=>
  simp only[];cases hw:zc f st with
  | none=>rfl
  | some r=>
   obtain⟨n,hn⟩:=bfm.1 hw;cases n<;>simp[bjx,hf]at hn
 | some p=>
  obtain⟨x,st'⟩:=p;by_cases hx:x=.normal
  ·subst hx;simp only[];cases hw:zc f st with
   | none=>
    cases hw':zc f st' with
    | none=>rfl
    | some r=>
     obtain⟨n,hn⟩:=bfm.1 hw';have:zc f st=some r:=bfm.2 ⟨n+1,by simp[bjx,hf,hn]⟩;rw[hw]at this;cases this
   | some r=>
    obtain⟨n,hn⟩:=bfm.1 hw;cases n with
    | zero=>simp[bjx]at hn
    | succ n=>
     simp only[bjx,hf]at hn;exact(bfm.2 ⟨n,hn⟩).symm
  ·have:zc f st=some (x,st'):=bfm.2 ⟨1,by cases x<;>simp_all [bjx]⟩;rw[this];cases x<;>simp_all
def b7m{α:Type}(k:Nat)(l:List α):List α:=l.take (k / 16)++((l.drop (k / 16+1)).take (k % 16 - k / 16)++((l.drop (k / 16)).take 1++l.drop (k % 16+1)))
def bkz{α:Type}:Option (List Nat)→List α→List α
 | some ((k+1)::_),l=>b7m k l
 | _,l=>l
theorem bvg{α:Type}(l:List α):bkz none l=l:=rfl
theorem cvc{α:Type}(l:List α):bkz (some []) l=l:=rfl
theorem ckz{α:Type}(b:List Nat)(l:List α):bkz (some (0::b)) l=l:=rfl
theorem b5f{α:Type}(k:Nat)(b:List Nat)(l:List α):bkz (some ((k+1)::b)) l=b7m k l:=rfl
noncomputable def xf(rec:Rec):ACode→St→Option (AEx×St)
 | .skip live locs,st=>normal (st.keep live locs)
 | .region ops bs quiet live locs,st=>match bp2 (if quiet then rec.quiet else rec) (bkz bs ops) (if bs.isSome then st.prep ops else st) with
  | some (.normal,st')=>normal (st'.keep live locs)
  | r=>r
 | .seq a b,st=>match xf rec a st with
  | some (.normal,st')=>xf rec b st'
  | r=>r
 | .cond c a b,st=>match st.av c with
  | some (.bool t)=>if t then xf rec a st else xf rec b st
  | _=>none
 | .block id c,st=>match xf rec c st with
  | some (.exit id',st')=>if id'=id then normal st' else some (.exit id',st')
  | r=>r
 | .loop c,st=>zc (xf rec c) st
 | .exit id live locs,st=>some (.exit id,st.keep live locs)
 | .ret,st=>some (.ret,st)
 | .freeze d c,st=>match st.freeze d with
  | some st'=>xf rec c st'
  | none=>none
 | .scope c,st=>xf rec c st
 | .label,st=>normal st
inductive ARes where
 | tmp (t:Nat)
 | cell (a n:Nat) (ag:Bool)
 | cellR (a n j e:Nat)
 deriving Inhabited
structure AFun where
 n:Nat
 N:Nat
 body:ACode
 res:List ARes
 keepB:Nat:=0
 deriving Inhabited
def cdk(st:St):ARes→Option AV
 | .tmp t=>st.av (.s t)
 | .cell a n ag=>match st.cellsAt (st.σ.get a) with
  | some (cs,off)=>bp4 cs n ag off
  | none=>none
 | .cellR a n _ _=>match st.cellsAt (st.σ.get a) with
  | some (cs,off)=>bp4 cs n true off
  | none=>none
def bfx(st:St):List ARes→Option (LA)
 | []=>some []
 | x::xs=>match cdk st x,bfx st xs with
  | some a,some as=>some (a::as)
  | _,_=>none
@[simp] def SV.isVr:SV→Bool
 | .vr _ _ _=>true
 | _=>false
def bcp(st:St):List ARes→Option (AV×Option Nat)
 | [.tmp t]=>match st.av (.s t) with
  | some a=>some (a,if(st.σ.get t).isVr=true then none else bbx st.own t)
  | none=>none
 | [.cellR a n j e]=>match st.σ.get a with
  | .l d 0=>(match st.loc.get d with
   | some bx=>if(bbx bx.own j=some e∧e<100000)∧j<n∧n≤bx.cells.length then some (.agg (bx.cells.take n),some (100000*j+e)) else none
   | none=>none)
  | _=>none
 | [x]=>(cdk st x).map fun a=>(a,none)
 | l=>(bfx st l).map fun as=>(.tuple as,none)
def bq4(S S':LB)(m:Nat):Prop:=
 ∀i x,i<m→S'[i]? = some x→S[i]? = some x∨zd m x.cells=true
def bgc(args:LA)(S:LB):St:={σ:=args.zipIdx.map fun p=>(p.2,.v p.1),own:=[],loc:=[],S:=S}
def AEnd.closed(n:Nat):AEnd→Bool
 | .ret r _=>r.closed n
 | .panic v=>v.closed n
open Classical in
noncomputable def xr(keepB:Nat)(S S':LB)(e:AEnd):Option (AEnd×LB):=
 if S'.length≤S.length+keepB then some (e,S')
 else if bq4 S S' (S.length+keepB)∧e.closed (S.length+keepB)=true then
  some (e,S'.take (S.length+keepB))
 else none
noncomputable def b9v(rec:Rec)(fn:AFun)(args:LA)(S:LB):Option (AEnd×LB):=
 if args.length=fn.n then
  match xf rec fn.body (bgc args S) with
  | some (.normal,st) | some (.ret,st)=>match bcp st fn.res with
   | some (r,own)=>xr fn.keepB S st.S (.ret r own)
   | none=>none
  | some (.panic v,st)=>xr fn.keepB S st.S (.panic v)
  | _=>none
 else none
end Go.Av
namespace Go.Av
open Go
structure Trunc(n:Nat)(g g':Gh):Prop where
 T:g'.T=g.T
 B:g'.B=g.B.take n
theorem Trunc.get{n:Nat}{g g':Gh}(k:Trunc n g g'){i b:Nat}(hi:i<n)(h:g.B[i]? = some b):g'.B[i]? = some b:=by
 rw[k.B,dz,if_pos hi];exact h
mutual
theorem bsp{n:Nat}{g g':Gh}{W:World}(k:Trunc n g g'):∀{a:AV} {l:List Value},a.closed n=true→R g W a l→R g' W a l
 | .bool _,l,_,h=>by simpa[R] using h
 | .int _ _,l,_,h=>by simpa[R] using h
 | .str _,l,_,h=>by simpa[R] using h
 | .agg cs,l,c,h=>by simp only[R,AV.closed]at h c ⊢;exact b38 k c h
 | .tuple vs,l,c,h=>by
  simp only[R,AV.closed]at h c ⊢;obtain⟨a,e,h⟩:=h;exact⟨a,e,bz9 k c h⟩
 | .slice sz es,l,c,h=>by
  simp only[R,AV.closed]at h c ⊢;obtain⟨p,cap,e,hc,h⟩:=h;refine⟨p,cap,e,hc,h.imp id ?_⟩;rintro⟨b,o,ms,hp,hm,hT,he⟩;exact⟨b,o,ms,hp,hm,by rw[k.T];exact hT,csh k c he⟩
 | .sptr cs,l,c,h=>by
  simp only[R,AV.closed]at h c ⊢;obtain⟨b,o,ms,hp,hm,hT,he⟩:=h;exact⟨b,o,ms,hp,hm,by rw[k.T];exact hT,b38 k c he⟩
 | .nilptr,l,_,h=>by simpa[R] using h
 | .ptr i off,l,c,h=>by
  simp only[R,AV.closed,decide_eq_true_eq]at h c ⊢;obtain⟨b,h,e⟩:=h;exact⟨b,k.get c h,e⟩
 | .clos fn first caps,l,c,h=>by
  simp only[R,AV.closed,bp]at h c ⊢;obtain⟨f,d,e,h1,h2⟩:=h;exact⟨f,d,e,bz9 k c.1 h1,bz9 k c.2 h2⟩
 | .nilfn,l,_,h=>by simpa[R] using h
 | .iface t v,l,c,h=>by
  simp only[R,AV.closed]at h c ⊢;obtain⟨u,e,h,s⟩:=h;exact⟨u,e,bsp k c h,s⟩
 | .niliface,l,_,h=>by simpa[R] using h
 | .mapp i,l,c,h=>by
  simp only[R,AV.closed,decide_eq_true_eq]at h c ⊢;obtain⟨b,h,e⟩:=h;exact⟨b,k.get c h,e⟩
 | .nilmap,l,_,h=>by simpa[R] using h
theorem b38{n:Nat}{g g':Gh}{W:World}(k:Trunc n g g'):∀{cs:LA} {l:List Value},zd n cs=true→RL g W cs l→RL g' W cs l
 | [],l,_,h=>by simpa[RL] using h
 | c::cs,l,q,h=>by
  simp only[RL,zd,bp]at h q ⊢;obtain⟨v,r,e,⟨h0,h1⟩,h2⟩:=h;exact⟨v,r,e,⟨h0,bsp k q.1 h1⟩,b38 k q.2 h2⟩
theorem csh{n:Nat}{g g':Gh}{W:World}(k:Trunc n g g'){sz:Nat}:∀{cs:LA} {l:List Value},zd n cs=true→RE g W sz cs l→RE g' W sz cs l
 | [],l,_,h=>by simpa[RE] using h
 | c::cs,l,q,h=>by
  simp only[RE,zd,bp]at h q ⊢;obtain⟨x,r,e,hx,⟨h0,h1⟩,h2⟩:=h;exact⟨x,r,e,hx,⟨h0,bsp k q.1 h1⟩,csh k q.2 h2⟩
theorem bz9{n:Nat}{g g':Gh}{W:World}(k:Trunc n g g'):∀{cs:LA} {l:List Value},zd n cs=true→RT g W cs l→RT g' W cs l
 | [],l,_,h=>by simpa[RT] using h
 | c::cs,l,q,h=>by
  simp only[RT,zd,bp]at h q ⊢;obtain⟨v,r,e,⟨h0,h1⟩,h2⟩:=h;exact⟨v,r,e,⟨bsp k q.1 h0,h1⟩,bz9 k q.2 h2⟩
end
end Go.Av
namespace Go.Av
open Go
def bm9:AV→Value→Bool
 | .bool b,.bool b'=>b==b'
 | .int k n,.int k' n'=>k==k'&&n==n'
 | .str s,.string s'=>decide (s=s')
 | .slice _ [],.slice none 0 0=>true
 | .nilptr,.pointer none=>true
 | .nilfn,.nilFunc=>true
 | .niliface,.nilIface=>true
 | .nilmap,.map none=>true
 | _,_=>false
def bcs:LA→List Value→Bool
 | [],[]=>true
 | a::as,v::vs=>bm9 a v&&bcs as vs
 | _,_=>false
theorem bzx{a:AV}{v:Value}(h:bm9 a v=true)(g:Gh)(W:World):a.isCell=true∧R g W a [v]∧RV g W a v:=by
 have h2:a.isCell=true∧R g W a [v]:=by
  unfold bm9 at h;split at h<;>first
   | (simp at h;done)
   | (simp at h;subst h;exact⟨rfl,by simp[R]⟩)
   | (simp at h;obtain⟨rfl,rfl⟩:=h;exact⟨rfl,by simp[R]⟩)
   | (exact⟨rfl,by simp[R]⟩)
 exact⟨h2.1,h2.2,bh5 h2.2 h2.1⟩
theorem bk7{as:LA}{vs:List Value}(h:bcs as vs=true)(g:Gh)(W:World):RL g W as vs:=by
 induction as generalizing vs with
 | nil=>cases vs<;>simp_all [bcs,RL]
 | cons a as ih=>
  cases vs with
  | nil=>simp[bcs]at h
  | cons v vs=>
   simp only[bcs,bp]at h;simp only[RL];exact⟨v,vs,rfl,⟨(bzx h.1 g W).1,(bzx h.1 g W).2.1⟩,ih h.2⟩
def bb1:Opd→Operand→Bool
 | .s k,.tmp t=>k==t
 | .c a,.const v=>bm9 a v
 | .c (.clos (.func f) [] []),.func f'=>f==f'
 | _,_=>false
def b3p:List Opd→List Operand→Bool
 | [],[]=>true
 | x::xs,y::ys=>bb1 x y&&b3p xs ys
 | _,_=>false
def btr:Option Opd→Option Operand→Bool
 | none,none=>true
 | some x,some y=>bb1 x y
 | _,_=>false
section
variable{g:Gh}{W:World}{a:Act}{N:Nat}{L:Nat→Nat}{st:St}(hi:Inv g W a N L st)
include hi
theorem bxp{x:Opd}{y:Operand}(h:bb1 x y=true):SVR g W L (st.sv x) (a.eval y):=by
 unfold bb1 at h;split at h
 ·rename_i k t;obtain rfl:k=t:=by simpa using h
  exact hi.slot k
 ·exact(bzx h g W).2.2
 ·rename_i f f';obtain rfl:f=f':=by simpa using h
  refine⟨?_,rfl⟩;simp[Act.eval,R,RT,Value.cells]
 ·cases h
theorem bb7{x:Opd}{y:Operand}(h:bb1 x y=true){c:AV}(hc:st.av x=some c):RV g W c (a.eval y):=by
 have:=bxp hi h;unfold St.av at hc;cases hs:st.sv x with
 | v b=>
  rw[hs]at hc this;obtain rfl:b=c:=by simpa[SV.av] using hc
  exact this
 | l d off=>rw[hs]at hc;simp[SV.av]at hc
 | junk=>rw[hs]at hc;simp[SV.av]at hc
 | undef=>rw[hs]at hc;simp[SV.av]at hc
 | ls d sz ag n=>rw[hs]at hc;simp[SV.av]at hc
 | vn b ns=>
  rw[hs]at hc this;obtain rfl:b=c:=by simpa[SV.av] using hc
  exact this.1
 | vr b ns j=>
  rw[hs]at hc this;obtain rfl:b=c:=by simpa[SV.av] using hc
  exact this.1
theorem b9q{xs:List Opd}{ys:List Operand}(h:b3p xs ys=true){cs:LA}(hc:st.avs xs=some cs):RT g W cs (ys.map a.eval):=by
 induction xs generalizing ys cs with
 | nil=>
  cases ys<;>simp_all [b3p,St.avs,RT]
 | cons x xs ih=>
  cases ys with
  | nil=>simp[b3p]at h
  | cons y ys=>
   simp only[b3p,bp]at h;simp only[St.avs]at hc;split at hc
   ·rename_i a1 as1 h1 h2;obtain rfl:=(bf hc).symm;simp only[cr,RT];exact⟨_,_,rfl,bb7 hi h.1 h1,ih h.2 h2⟩
   ·cases hc
end
def b0g(P:Program)(t:TypeId):Option Bool:=
 match P.underlying t with
 | some (.struct _) | some (.array _ _)=>some true
 | some _=>some false
 | none=>none
def bxg(P:Program)(t:TypeId):Option Nat:=(P.info? t).map (·.size)
def brb(P:Program)(t:TypeId):Option (List Value):=((P.info? t).bind (·.zero)).map fun v=>v.cells.toList
section
variable{P:Program}{W:World}
theorem bpq{t:TypeId}{b:Bool}(h:b0g P t=some b):(isAgg t).run P W=.ok b W:=by
 unfold b0g at h;unfold isAgg;split at h
 ·rename_i fs hu;simp at h;subst h;simp[run_underlying hu]
 ·rename_i n e hu;simp at h;subst h;simp[run_underlying hu]
 ·rename_i d h1 h2 hu;simp at h;subst h;simp only[Sem.run_bind,run_underlying hu,Result.andThen_ok];rfl
 ·cases h
theorem bdc{t:TypeId}{n:Nat}(h:bxg P t=some n):(sizeOf t).run P W=.ok n W:=by
 unfold bxg at h;cases hi:P.info? t with
 | none=>simp[hi]at h
 | some i=>simp[hi]at h;simp[sizeOf,typeInfo,hi,h]
theorem b45{t:TypeId}{ag:Bool}{n:Nat}(hag:b0g P t=some ag)(hsz:bxg P t=some n){b o:Nat}{ms:List Value}(hm:mem W b o ms) :
  (ag=true→n≤ms.length→(loadVar t ⟨b,o,none⟩).run P W=.ok (.agg (ms.take n).toArray) W) ∧
  (ag=false→∀v,ms[0]? = some v→(loadVar t ⟨b,o,none⟩).run P W=.ok v W):=by
 constructor
 ·rintro rfl hn;have hl:(ms.take n).length=n:=by simp;omega
  have h2:=run_loadCells_list (P:=P) W ⟨b,o,none⟩ (ms.take n) (br2 (bs5 hm n));rw[hl]at h2;simp[loadVar,bpq hag,bdc hsz,h2]
 ·rintro rfl v hv;have h2:=hm 0 v hv;simp only[jt]at h2;simp[loadVar,bpq hag,h2]
end
theorem b1v{g:Gh}{W:World}{a:Act}{N:Nat}{L:Nat→Nat}{st:St}(hi:Inv g W a N L st){s:SV}{v:Value}(hs:SVR g W L s v){cs:LA}{off:Nat}
  (h:st.cellsAt s=some (cs,off)):∃b o ms,v=.pointer (some ⟨b,o,none⟩)∧mem W b o ms∧RL g W (cs.drop off) ms:=by
 unfold St.cellsAt at h;split at h
 ·rename_i cs';simp only[bd,bq]at h;obtain⟨rfl,rfl⟩:=h;obtain⟨h1,h2⟩:=hs;have hv:v.cells=#[v]:=bcm (by rw[← h2];rfl);rw[hv]at h1;simp only[R]at h1;obtain⟨b,o,ms,e,hm,_,hl⟩:=h1;exact⟨b,o,ms,by simpa using e,hm,by simpa using hl⟩
 ·rename_i d o;cases hx:st.loc.get d with
  | none=>simp[hx]at h
  | some x=>
   simp only[hx,bc,bd,bq]at h;obtain⟨rfl,rfl⟩:=h;obtain⟨cs',ty,hb,hl,_⟩:=hi.loc d x hx;exact⟨_,_,_,hs,bk3 hb _ o,bq6 hl o⟩
 ·rename_i i o;cases hx0:st.cellBox i with
  | none=>simp[hx0]at h
  | some x=>
   obtain⟨hx,hmap⟩:=bsc hx0;simp only[hx0,bc,bd,bq]at h;obtain⟨rfl,rfl⟩:=h;obtain⟨b,hB,hbs⟩:=hi.sh.box i x hx;obtain⟨cs',ty,hb,hl,_⟩:=hbs.of hmap;obtain⟨h1,h2⟩:=hs;have hv:v.cells=#[v]:=bcm (by rw[← h2];rfl);rw[hv]at h1;simp only[R]at h1;obtain⟨b',hB',e⟩:=h1;obtain rfl:b=b':=by rw[hB]at hB';simpa using hB'
   exact⟨b,o,_,by simpa using e,bk3 hb _ o,bq6 hl o⟩
 ·cases h
theorem cdm{P:Program}{g:Gh}{W:World}{t:TypeId}{ag:Bool}{n:Nat}(hag:b0g P t=some ag)(hsz:bxg P t=some n){cs:LA}{off:Nat}{b o:Nat}{ms:List Value}
  (hm:mem W b o ms) (hl:RL g W (cs.drop off) ms) {c:AV} (h:bp4 cs n ag off=some c):∃v,(loadVar t ⟨b,o,none⟩).run P W=.ok v W∧RV g W c v:=by
 have hr:=b45 (P:=P) hag hsz hm;have hlen:=bbv hl;unfold bp4 at h;split at h
 ·rename_i hb;split at h
  ·rename_i hle;obtain rfl:=(bf h).symm;refine⟨_,hr.1 hb (by simp only[fb]at hlen;omega),dcs (bv9 hl n)⟩
  ·cases h
 ·rename_i hb;have h':(cs.drop off)[0]? = some c:=by simpa[fd] using h
  obtain⟨v,hv,hc,hR⟩:=bsq hl h';exact⟨v,hr.2 (by simpa using hb) v hv,bh5 hR hc⟩
def zp(P:Program)(o:Oper)(a:Act)(W:World)(v:Value)(W':World):Prop:=(execOp a.eval o).run P W=.ok (.value v) W'
end Go.Av
namespace Go.Av
open Go
section
variable{P:Program}{g:Gh}{W:World}{a:Act}{N:Nat}{L:Nat→Nat}{st:St}(hi:Inv g W a N L st)(o:Oper)
include hi
theorem dqp{d:Nat}{c x y:Opd}{c' x' y':Operand}(hc:bb1 c c'=true)(hx:bb1 x x'=true)(hy:bb1 y y'=true)(ho:o.op=.pick c' x' y'){s:SV}
  (h:bbb st (.pick d c x y)=some s):∃v,zp P o a W v W∧SVR g W L s v:=by
 simp only[bbb]at h;split at h
 ·rename_i t ht;have h1:=bb7 hi hc ht;have hb:a.eval c'=.bool t:=by
   have h2:=bcm (v:=a.eval c') (by rw[← h1.2];rfl);have h3:=h1.1;rw[h2]at h3;simpa[R] using h3
  have hsx:=bxp hi hx;have hsy:=bxp hi hy;have hr:zp P o a W (if t then a.eval x' else a.eval y') W:=by
   simp[zp,execOp,ho,hb,asBool]
  refine⟨_,hr,?_⟩;split at h
  ·rename_i p q hp hq;obtain rfl:=bf h;rw[hp]at hsx;rw[hq]at hsy;cases t<;>assumption
  ·obtain rfl:=bf h;cases t
   ·exact hsy
   ·exact hsx
 ·cases h
theorem drt{d n:Nat}{ag:Bool}{x:Opd}{t:TypeId}{x':Operand}(hag:b0g P t=some ag)(hsz:bxg P t=some n)(hx:bb1 x x'=true)(ho:o.op=.load t x'){s:SV}
  (h:bbb st (.load d n ag x)=some s):∃v,zp P o a W v W∧SVR g W L s v:=by
 simp only[bbb]at h;split at h
 ·rename_i cs off hc;obtain⟨b,off',ms,he,hm,hl⟩:=b1v hi (bxp hi hx) hc;cases hq:bp4 cs n ag off with
  | none=>simp[hq]at h
  | some c=>
   simp only[hq,bc,bd]at h;subst h;obtain⟨v,hr,hv⟩:=cdm hag hsz hm hl hq;exact⟨v,by simp[zp,execOp,ho,Instr.loadAt,he,Instr.sureAddr,hr],hv⟩
 ·cases h
omit hi in
theorem bcv{k:IntKind}{n:Int}{v:Value}:RV g W (.int k n) v↔v=.int k n:=by
 constructor
 ·intro h;have h2:=bcm (v:=v) (by rw[← h.2];rfl);have h3:=h.1;rw[h2]at h3;simpa[R] using h3
 ·rintro rfl;exact⟨by simp[R,Value.cells],rfl⟩
omit hi in
theorem bgr{b:Bool}{v:Value}:RV g W (.bool b) v↔v=.bool b:=by
 constructor
 ·intro h;have h2:=bcm (v:=v) (by rw[← h.2];rfl);have h3:=h.1;rw[h2]at h3;simpa[R] using h3
 ·rintro rfl;exact⟨by simp[R,Value.cells],rfl⟩
omit hi in
theorem bfb{s:ByteArray}{v:Value}:RV g W (.str s) v↔v=.string s:=by
 constructor
 ·intro h;have h2:=bcm (v:=v) (by rw[← h.2];rfl);have h3:=h.1;rw[h2]at h3;simpa[R] using h3
 ·rintro rfl;exact⟨by simp[R,Value.cells],rfl⟩
omit hi in
theorem bcg{c:AV}{v:Value}(h:RV g W c v)(hc:c.isAgg=false):R g W c [v]:=by
 have h2:=bcm (v:=v) (by rw[← h.2];exact hc);have h3:=h.1
 rwa [h2]at h3
omit hi in
theorem dtj{op:BinOp}{t:TypeId}{y1 y2:Operand}{x y z:AV}{u v:Value}(hx:RV g W x u)(hy:RV g W y v)(h:ddp op x y=some z) :
  ∃r,(eqGuard op t y1 y2 u v).run P W=.ok () W∧(binOp op t u v).run P W=.ok r W∧RV g W z r:=by
 unfold ddp at h;split at h
 ·rename_i k n k' m;rw[bcv]at hx hy;subst hx hy;have hg:(eqGuard op t y1 y2 (.int k n) (.int k' m)).run P W=.ok () W:=by cases op<;>simp[eqGuard]
  cases op<;>dsimp only at h
  all_goals first
   | (split at h
      ·cases h
      ·rename_i hneg;obtain rfl:=bf h;refine⟨_,hg,?_,bcv.2 rfl⟩;simp[binOp,Op.shift,hneg])
   | (split at h
      ·rename_i hk;subst hk
       first
        | (obtain rfl:=bf h
           first
            | (refine⟨_,hg,?_,bcv.2 rfl⟩;simp[binOp,Op.intArith];done)
            | (refine⟨_,hg,?_,bgr.2 rfl⟩;simp[binOp,Op.intCmp];done))
        | (split at h
           ·cases h
           ·rename_i hz;obtain rfl:=bf h;refine⟨_,hg,?_,bcv.2 rfl⟩;simp[binOp,Op.intDiv,hz])
        | (simp only[dmz,bc,bd]at h
           subst h;refine⟨_,hg,?_,bcv.2 rfl⟩;simp[binOp,Op.intBits])
      ·cases h)
 ·rename_i s t';rw[bfb]at hx hy;subst hx hy;have hg:(eqGuard op t y1 y2 (.string s) (.string t')).run P W=.ok () W:=by cases op<;>simp[eqGuard]
  cases op<;>dsimp only at h
  all_goals first
   | (cases h;done)
   | (obtain rfl:=bf h
      refine⟨_,hg,?_,bgr.2 rfl⟩;simp[binOp,Op.stringOp])
   | (split at h
      ·rename_i hle;obtain rfl:=bf h;have hno:¬ (((s.size+t'.size:Nat):Int) > IntKind.i64.max):=by
        have:IntKind.i64.max=9223372036854775807:=by decide
        rw[this];omega
       refine⟨_,hg,?_,bfb.2 rfl⟩;simp only[binOp,Op.stringOp];rw[if_neg hno];rfl
      ·cases h)
 ·cases h
theorem bin_ok{d:Nat}{op:BinOp}{x y:Opd}{t t':TypeId}{x' y':Operand}(hx:bb1 x x'=true)(hy:bb1 y y'=true)(ho:o.op=.binOp op t x' y' t'){s:SV}
  (h:bbb st (.bin d op x y)=some s):∃v,zp P o a W v W∧SVR g W L s v:=by
 simp only[bbb]at h;split at h
 ·rename_i u v hu hv;cases hq:ddp op u v with
  | none=>simp[hq]at h
  | some z=>
   simp only[hq,bc,bd]at h;subst h;obtain⟨r,h1,h2,h3⟩:=dtj (P:=P) (t:=t) (y1:=x') (y2:=y') (bb7 hi hx hu) (bb7 hi hy hv) hq;exact⟨r,by simp[zp,execOp,ho,h1,h2],h3⟩
 ·cases h
theorem eqb_ok{d:Nat}{neg:Bool}{x y:Opd}{t t':TypeId}{x' y':Operand}(hx:bb1 x x'=true)(hy:bb1 y y'=true)(ht:P.underlying t=some .bool)
  (ho:o.op=.binOp (if neg then .neq else .eql) t x' y' t') {s:SV} (h:bbb st (.eqb d neg x y)=some s):∃v,zp P o a W v W∧SVR g W L s v:=by
 simp only[bbb]at h;split at h
 ·rename_i u v hu hv;obtain rfl:=bf h;have e1:=bgr.1 (bb7 hi hx hu);have e2:=bgr.1 (bb7 hi hy hv);refine⟨_,?_,bgr.2 rfl⟩;have hg:∀op,(eqGuard op t x' y' (.bool u) (.bool v)).run P W=.ok () W:=by intro op;cases op<;>simp[eqGuard]
  have he:(Op.equal t (.bool u) (.bool v)).run P W=.ok (u==v) W:=run_equalIn_bool' W 9999 t u v ht;cases neg
  ·simp[zp,execOp,ho,e1,e2,hg,binOp,he]
  ·simp[zp,execOp,ho,e1,e2,hg,binOp,he]
 ·cases h
theorem un_ok{d:Nat}{op:UnOp}{x:Opd}{t:TypeId}{x':Operand}(hx:bb1 x x'=true)(ho:o.op=.unOp op t x'){s:SV}
  (h:bbb st (.un d op x)=some s):∃v,zp P o a W v W∧SVR g W L s v:=by
 simp only[bbb]at h;split at h
 ·rename_i u hu;have hR:=bb7 hi hx hu;cases hq:aun op u with
  | none=>simp[hq]at h
  | some z=>
   simp only[hq,bc,bd]at h;subst h;unfold aun at hq;split at hq
   ·rename_i b;have e:=bgr.1 hR;cases op<;>simp at hq;subst hq;exact⟨_,by simp[zp,execOp,ho,e,Op.unary],bgr.2 rfl⟩
   ·rename_i k n;have e:=bcv.1 hR;cases op<;>simp at hq;subst hq;exact⟨_,by simp[zp,execOp,ho,e,Op.unary,Op.intArith],bcv.2 rfl⟩
   ·cases hq
 ·cases h
theorem dj0{d:Nat}{k:IntKind}{x:Opd}{src dst:TypeId}{ds:TypeDesc}{x':Operand}(hx:bb1 x x'=true)(hs:P.underlying src=some ds)(hd:P.underlying dst=some (.int k))
  (ho:o.op=.convert src dst x') {s:SV} (h:bbb st (.convI d k x)=some s):∃v,zp P o a W v W∧SVR g W L s v:=by
 simp only[bbb]at h;split at h
 ·rename_i k' n hu;obtain rfl:=bf h;have e:=bcv.1 (bb7 hi hx hu);refine⟨_,?_,bcv.2 rfl⟩;cases ds<;>simp[zp,execOp,ho,e,convert,run_underlying hs,run_underlying hd,Conv.intToInt]
 ·cases h
theorem djz{d:Nat}{x:Opd}{src dst:TypeId}{ds:TypeDesc}{x':Operand}(hx:bb1 x x'=true)(hs:P.underlying src=some ds)(hd:P.underlying dst=some .string)
  (ho:o.op=.convert src dst x') {s:SV} (h:bbb st (.convS d x)=some s):∃v,zp P o a W v W∧SVR g W L s v:=by
 simp only[bbb]at h;split at h
 ·rename_i b hu;obtain rfl:=bf h;have e:=bfb.1 (bb7 hi hx hu);refine⟨_,?_,bfb.2 rfl⟩;cases ds<;>simp[zp,execOp,ho,e,convert,run_underlying hs,run_underlying hd]
 ·cases h
theorem dq7{d:Nat}{fn:Fn}{f c:List Opd}{f' c':Array Operand}(hf:b3p f f'.toList=true)(hc:b3p c c'.toList=true)(ho:o.op=.makeFunc fn f' c'){s:SV}
  (h:bbb st (.mkfn d fn f c)=some s):∃v,zp P o a W v W∧SVR g W L s v:=by
 simp only[bbb]at h;split at h
 ·rename_i u v hu hv;obtain rfl:=bf h;have h1:=b9q hi hf hu;have h2:=b9q hi hc hv;refine⟨_,by simp[zp,execOp,ho,Instr.makeFunc];rfl,?_,rfl⟩;simp only[Value.cells,R];exact⟨_,_,rfl,by simpa using h1,by simpa using h2⟩
 ·cases h
theorem czh{d:Nat}{x:Opd}{j:Nat}{x':Operand}(hx:bb1 x x'=true)(ho:o.op=.extract x' j){s:SV}
  (h:bbb st (.extract d x j)=some s):∃v,zp P o a W v W∧SVR g W L s v:=by
 simp only[bbb]at h;split at h
 ·rename_i vs hu;have hR:=bcg (bb7 hi hx hu) rfl;simp only[R]at hR;obtain⟨arr,e,hT⟩:=hR;have e':a.eval x'=.tuple arr:=by simpa using e
  cases hj:vs[j]? with
  | none=>simp[hj]at h
  | some c=>
   simp only[hj,bc,bd]at h;subst h;obtain⟨v,hv,hRV⟩:=dct hT hj;have hv':arr[j]? = some v:=by simpa using hv
   exact⟨v,by simp[zp,execOp,ho,e',Instr.extract,hv'],hRV⟩
 ·cases h
omit hi in
theorem cdq{cs:LA}{v:Value}(h:RV g W (.agg cs) v):∃arr:Array Value,v=.agg arr∧RL g W cs arr.toList:=by
 obtain⟨h1,h2⟩:=h;cases v<;>simp[AV.isAgg,cp2]at h2;rename_i arr;exact⟨arr,rfl,by simpa[R,Value.cells] using h1⟩
omit hi in
theorem c4p{t:TypeId}{ag:Bool}{n:Nat}(hag:b0g P t=some ag)(hsz:bxg P t=some n){cs:LA}{arr:Array Value}(hl:RL g W cs arr.toList){off:Nat}{c:AV}
  (h:bp4 cs n ag off=some c):∃v,(part t arr off).run P W=.ok v W∧RV g W c v:=by
 have hlen:=bbv hl;unfold bp4 at h;split at h
 ·rename_i hb;subst hb;split at h
  ·rename_i hle;obtain rfl:=(bf h).symm;refine⟨.agg (arr.extract off (off+n)),by simp[part,bpq hag,bdc hsz],?_,rfl⟩;simp only[R,Value.cells,Array.toList_extract,List.extract_eq_take_drop,vd];exact bv9 (bq6 hl off) n
  ·cases h
 ·rename_i hb;obtain rfl:ag=false:=by simpa using hb
  obtain⟨v,hv,hc,hR⟩:=bsq hl h;have hv':arr[off]? = some v:=by simpa using hv
  exact⟨v,by simp[part,bpq hag,hv'],bh5 hR hc⟩
theorem dh6{d off n:Nat}{ag:Bool}{x:Opd}{t:TypeId}{fs:Array Field}{f:Nat}{fl:Field}{x':Operand}(hx:bb1 x x'=true)(ht:P.underlying t=some (.struct fs))(hf:fs[f]? = some fl)
  (hoff:fl.offset=off) (hag:b0g P fl.type=some ag) (hsz:bxg P fl.type=some n) (ho:o.op=.field t x' f) {s:SV}
  (h:bbb st (.field d off n ag x)=some s):∃v,zp P o a W v W∧SVR g W L s v:=by
 simp only[bbb]at h;split at h
 ·rename_i cs hu;obtain⟨arr,e,hl⟩:=cdq (bb7 hi hx hu);cases hq:bp4 cs n ag off with
  | none=>simp[hq]at h
  | some c=>
   simp only[hq,bc,bd]at h;subst h;obtain⟨v,hr,hv⟩:=c4p (P:=P) hag hsz hl hq;exact⟨v,by simp[zp,execOp,ho,e,Instr.field,run_underlying ht,hf,asAgg,hoff,hr],hv⟩
 ·cases h
theorem ch7{s:SV}{v:Value}(hs:SVR g W L s v)(k:Nat) :
  (∀cs,s=.v (.sptr cs)→∃b o,v=.pointer (some ⟨b,o,none⟩)∧(k≤cs.length→SVR g W L (.v (.sptr (cs.drop k))) (.pointer (some ⟨b,o+k,none⟩)))) ∧
  (∀d off,s=.l d off→∃b o,v=.pointer (some ⟨b,o,none⟩)∧SVR g W L (.l d (off+k)) (.pointer (some ⟨b,o+k,none⟩))) ∧
  (∀i off,s=.v (.ptr i off)→∃b o,v=.pointer (some ⟨b,o,none⟩)∧SVR g W L (.v (.ptr i (off+k))) (.pointer (some ⟨b,o+k,none⟩))):=by
 refine⟨?_,?_,?_⟩
 ·rintro cs rfl;have h:=bcg hs rfl;simp only[R]at h;obtain⟨b,o,ms,e,hm,hT,hl⟩:=h;refine⟨b,o,by simpa using e,fun hk=>⟨?_,rfl⟩⟩;simp only[Value.cells,R];exact⟨b,o+k,ms.drop k,rfl,b3z hm k,by rw[fb];have:=bbv hl;omega,bq6 hl k⟩
 ·rintro d off rfl;exact⟨L d,off,hs,rfl⟩
 ·rintro i off rfl;have h:=bcg hs rfl;simp only[R]at h;obtain⟨b,hb,e⟩:=h;refine⟨b,off,by simpa using e,⟨?_,rfl⟩⟩;simp only[Value.cells,R];exact⟨b,hb,rfl⟩
theorem dh7{d off n:Nat}{x:Opd}{t:TypeId}{fs:Array Field}{f:Nat}{fl:Field}{x':Operand}(hx:bb1 x x'=true)(ht:P.underlying t=some (.struct fs))(hf:fs[f]? = some fl)
  (hoff:fl.offset=off) (hsz:bxg P fl.type=some n) (hn:n≠0) (ho:o.op=.fieldAddr t x' f) {s:SV}
  (h:bbb st (.faddr d off x)=some s):∃v,zp P o a W v W∧SVR g W L s v:=by
 have hs:=bxp hi hx;have st':=ch7 hi hs off;have run:∀b q,a.eval x'=.pointer (some ⟨b,q,none⟩)→zp P o a W (.pointer (some ⟨b,q+off,none⟩)) W:=by
  intro b q e;simp[zp,execOp,ho,Instr.fieldAt,run_underlying ht,hf,e,Instr.sureAddr,fieldPlace,bdc hsz,hn,bmh,hoff]
 simp only[bbb]at h;split at h
 ·rename_i cs hcs;split at h
  ·rename_i hle;obtain rfl:=bf h;obtain⟨b,q,e,h2⟩:=st'.1 cs hcs;exact⟨_,run b q e,h2 hle⟩
  ·cases h
 ·rename_i d' off' hl;obtain rfl:=bf h;obtain⟨b,q,e,h2⟩:=st'.2.1 d' off' hl;exact⟨_,run b q e,h2⟩
 ·rename_i i off' hp;obtain rfl:=bf h;obtain⟨b,q,e,h2⟩:=st'.2.2 i off' hp;exact⟨_,run b q e,h2⟩
 ·cases h
theorem c8q{d len sz:Nat}{x i:Opd}{t e:TypeId}{x' i':Operand}(hx:bb1 x x'=true)(hi':bb1 i i'=true)(ht:P.underlying t=some (.array len e))(hsz:bxg P e=some sz)
  (ho:o.op=.indexAddr t x' i') {s:SV} (h:bbb st (.iaddrA d len sz x i)=some s):∃v,zp P o a W v W∧SVR g W L s v:=by
 simp only[bbb]at h;split at h
 ·rename_i k n hn;have en:=bcv.1 (bb7 hi hi' hn);split at h
  ·rename_i hb;have hs:=bxp hi hx;have st':=ch7 hi hs (n.toNat*sz);have run:∀b q,a.eval x'=.pointer (some ⟨b,q,none⟩)→zp P o a W (.pointer (some ⟨b,q+n.toNat*sz,none⟩)) W:=by
    intro b q e;simp[zp,execOp,ho,Instr.indexAt,run_underlying ht,en,asIntOf,e,Instr.sureAddr,hb,bdc hsz,bmh]
   split at h
   ·rename_i cs hcs;split at h
    ·rename_i hle;obtain rfl:=bf h;obtain⟨b,q,e,h2⟩:=st'.1 cs hcs;exact⟨_,run b q e,h2 hle⟩
    ·cases h
   ·rename_i d' off' hl;obtain rfl:=bf h;obtain⟨b,q,e,h2⟩:=st'.2.1 d' off' hl;exact⟨_,run b q e,h2⟩
   ·rename_i i off' hp;obtain rfl:=bf h;obtain⟨b,q,e,h2⟩:=st'.2.2 i off' hp;exact⟨_,run b q e,h2⟩
   ·cases h
  ·cases h
 ·cases h
omit hi in
theorem bm2{sz:Nat}{es:LA}{v:Value}(h:RV g W (.slice sz es) v):∃p cap,v=.slice p es.length cap∧es.length≤cap ∧
  (es=[]∨∃b o ms,p=some ⟨b,o,none⟩∧mem W b o ms∧o+ms.length≤g.T b∧RE g W sz es ms):=by
 have h:=bcg h rfl;simp only[R]at h;obtain⟨p,cap,e,h1,h2⟩:=h;exact⟨p,cap,by simpa using e,h1,h2⟩
omit hi in
theorem bgf{sz:Nat}{es:LA}{p:Option Addr}{cap:Nat}(h1:es.length≤cap)
  (h2:es=[]∨∃b o ms,p=some ⟨b,o,none⟩∧mem W b o ms∧o+ms.length≤g.T b∧RE g W sz es ms):RV g W (.slice sz es) (.slice p es.length cap):=
 ⟨by simp only[Value.cells,R];exact⟨p,cap,rfl,h1,h2⟩,rfl⟩
theorem czf{sz:Nat}{x i:Opd}{t e:TypeId}{x' i':Operand}(hx:bb1 x x'=true)(hi':bb1 i i'=true)(ht:P.underlying t=some (.slice e))(hsz:bxg P e=some sz)
  (ho:o.op=.indexAddr t x' i') {s:SV} (h:(match st.av x,st.av i with
   | some (.slice sz' es),some (.int _ i)=>if sz=sz'∧0≤i then(es[i.toNat]?).map fun e=>SV.v (.sptr e.cells) else none
   | _,_=>none)=some s):∃v,zp P o a W v W∧SVR g W L s v:=by
 split at h
 ·rename_i sz' es k n hn1 hn;have en:=bcv.1 (bb7 hi hi' hn);obtain⟨p,cap,ev,hcap,hes⟩:=bm2 (bb7 hi hx hn1);split at h
  ·rename_i hb;obtain⟨rfl,h0⟩:=hb;cases hj:es[n.toNat]? with
   | none=>simp[hj]at h
   | some c=>
    simp only[hj,bc,bd]at h;subst h;have hlt:n.toNat<es.length:=by
     rcases fk n.toNat es.length with h' | h'
     ·exact h'
     ·simp[fg h']at hj
    rcases hes with rfl | ⟨b,q,ms,rfl,hm,hT,hE⟩
    ·simp at hlt
    have hlen:=bd3 hE;obtain⟨y,hy,hyl,hd,hR⟩:=dm5 hE hj;refine⟨.pointer (some ⟨b,q+n.toNat*sz,none⟩),?_,⟨?_,rfl⟩⟩
    ·simp[zp,execOp,ho,Instr.indexAt,run_underlying ht,en,asIntOf,ev,h0,show n<(es.length:Int) by omega,bdc hsz,bmh]
    ·simp only[Value.cells,R];refine⟨b,q+n.toNat*sz,y,rfl,?_,?_,b39 hR hd⟩
     ·rw[hy];exact bs5 (b3z hm _) _
     ·rw[hyl];have:(n.toNat+1)*sz≤es.length*sz:=dq _ hlt;rw[jc,qj]at this;omega
  ·cases h
 ·cases h
theorem c8p{d sz:Nat}{x i:Opd}{t e:TypeId}{x' i':Operand}(hx:bb1 x x'=true)(hi':bb1 i i'=true)(ht:P.underlying t=some (.slice e))(hsz:bxg P e=some sz)
  (ho:o.op=.indexAddr t x' i') {s:SV} (h:bbb st (.iaddrS d sz x i)=some s):∃v,zp P o a W v W∧SVR g W L s v:=by
 have key:(match st.av x,st.av i with
   | some (.slice sz' es),some (.int _ i)=>if sz=sz'∧0≤i then(es[i.toNat]?).map fun e=>SV.v (.sptr e.cells) else none
   | _,_=>none)=some s→∃v,zp P o a W v W∧SVR g W L s v:=by
  clear h;intro h;exact czf hi o hx hi' ht hsz ho h
 simp only[bbb]at h;split at h
 ·rename_i d0 sz' ag0 n0 hs;have hsv:=bxp hi hx;rw[hs]at hsv;obtain⟨_,cap,hcap,hv⟩:=hsv;split at h
  ·rename_i k n hn;have en:=bcv.1 (bb7 hi hi' hn);split at h
   ·rename_i hb;obtain⟨rfl,h0,hlt⟩:=hb;obtain rfl:=bf h;refine⟨.pointer (some ⟨L d0,n.toNat*sz,none⟩),?_,rfl⟩;simp[zp,execOp,ho,Instr.indexAt,run_underlying ht,en,asIntOf,hv,h0,hlt,bdc hsz,bmh]
   ·cases h
  ·cases h
 ·exact key h
theorem dsd{d:Nat}{x i:Opd}{t:TypeId}{x' i':Operand}(hx:bb1 x x'=true)(hi':bb1 i i'=true)(ht:P.underlying t=some .string)
  (ho:o.op=.index t x' i') {s:SV} (h:bbb st (.idxS d x i)=some s):∃v,zp P o a W v W∧SVR g W L s v:=by
 simp only[bbb]at h;split at h
 ·rename_i b k n hn1 hn;have en:=bcv.1 (bb7 hi hi' hn);have eb:=bfb.1 (bb7 hi hx hn1);split at h
  ·rename_i h0;cases hj:b[n.toNat]? with
   | none=>simp[hj]at h
   | some c=>
    simp only[hj,bc,bd]at h;subst h;exact⟨_,by simp[zp,execOp,ho,Instr.index,run_underlying ht,en,asIntOf,eb,h0,hj],bcv.2 rfl⟩
  ·cases h
 ·cases h
theorem dsf{d len sz:Nat}{ag:Bool}{x i:Opd}{t e:TypeId}{x' i':Operand}(hx:bb1 x x'=true)(hi':bb1 i i'=true)(ht:P.underlying t=some (.array len e))(hag:b0g P e=some ag)(hsz:bxg P e=some sz)
  (ho:o.op=.index t x' i') {s:SV} (h:bbb st (.idxA d len sz ag x i)=some s):∃v,zp P o a W v W∧SVR g W L s v:=by
 simp only[bbb]at h;split at h
 ·rename_i cs k n hn1 hn;have en:=bcv.1 (bb7 hi hi' hn);obtain⟨arr,ea,hl⟩:=cdq (bb7 hi hx hn1);split at h
  ·rename_i hb;cases hq:bp4 cs sz ag (n.toNat*sz) with
   | none=>simp[hq]at h
   | some c=>
    simp only[hq,bc,bd]at h;subst h;obtain⟨v,hr,hv⟩:=c4p (P:=P) hag hsz hl hq;exact⟨v,by simp[zp,execOp,ho,Instr.index,run_underlying ht,en,asIntOf,ea,hb,bdc hsz,hr],hv⟩
  ·cases h
 ·cases h
end
end Go.Av
namespace Go.Av
open Go
section
variable{P:Program}{g:Gh}{W:World}{a:Act}{N:Nat}{L:Nat→Nat}{st:St}(hi:Inv g W a N L st)(o:Oper)
include hi
theorem bth{dflt:Nat}{x:Option Opd}{x':Option Operand}(hx:btr x x'=true){n:Int}(h:bfv st dflt x=some n) :
  (x'.map a.eval=none∧n=dflt)∨∃k,x'.map a.eval=some (.int k n):=by
 cases x with
 | none=>
  cases x' with
  | none=>simp[bfv]at h;exact .inl ⟨rfl,h.symm⟩
  | some y=>simp[btr]at hx
 | some x=>
  cases x' with
  | none=>simp[btr]at hx
  | some y=>
   simp only[btr]at hx;simp only[bfv]at h;split at h
   ·rename_i k i hv;obtain rfl:=bf h;exact .inr ⟨k,by simp[bcv.1 (bb7 hi hx hv)]⟩
   ·cases h
omit hi in
theorem b04(bvr:Bool)(len cap:Nat)(lo hi:Option Value)(l h:Int)(hlo:(lo=none∧l=0)∨∃k,lo=some (.int k l))(hhi:(hi=none∧h=len)∨∃k,hi=some (.int k h))
  (h0:0≤l) (h1:l≤h) (h2:h≤len) (hc:len≤cap):(Instr.sliceBounds bvr len cap lo hi none).run P W=.ok (l.toNat,h.toNat,cap) W:=by
 have b1:h≤(cap:Int):=by omega
 have b0:0≤h:=by omega
 have e1:((h.toNat:Nat):Int)=h:=Int.toNat_of_nonneg b0;rcases hlo with⟨rfl,rfl⟩ | ⟨kl,rfl⟩<;>rcases hhi with⟨rfl,rfl⟩ | ⟨kh,rfl⟩
 ·simp[Instr.sliceBounds]
 ·simp[Instr.sliceBounds,run_sliceBound,b0,b1]
 ·simp[Instr.sliceBounds,run_sliceBound,h0,h1]
 ·simp[Instr.sliceBounds,run_sliceBound,b0,b1,h0,h1,e1]
theorem dfp{d sz:Nat}{x:Opd}{lo hh:Option Opd}{t e:TypeId}{x':Operand}{lo' hh':Option Operand}(hx:bb1 x x'=true)(hlo:btr lo lo'=true)(hhi:btr hh hh'=true)
  (ht:P.underlying t=some (.slice e)) (hsz:bxg P e=some sz) (ho:o.op=.slice t x' lo' hh' none) {s:SV} (h:bbb st (.slice d sz x lo hh)=some s) :
  ∃v,zp P o a W v W∧SVR g W L s v:=by
 simp only[bbb]at h;split at h
 ·rename_i sz' es hu;obtain⟨p,cap,ev,hcap,hes⟩:=bm2 (bb7 hi hx hu);split at h
  ·rename_i l r hl hr;split at h
   ·rename_i hb;obtain⟨rfl,h0,h1,h2⟩:=hb;obtain rfl:=bf h;have hbd:=b04 (P:=P) (W:=W) true es.length cap (lo'.map a.eval) (hh'.map a.eval) l r (by have:=bth hi hlo hl;simpa only[cx,dd] using this) (bth hi hhi hr) h0 h1 h2 hcap;refine⟨.slice (if cap=l.toNat then p else p.map (·.add (l.toNat*sz))) (r.toNat - l.toNat) (cap - l.toNat),?_,?_⟩
    ·simp[zp,execOp,ho,Instr.sliceAt,run_underlying ht,Instr.slice,ev,hbd,bdc hsz]
    ·have hlen:((es.take r.toNat).drop l.toNat).length=r.toNat - l.toNat:=by
      simp only[fb,dp];omega
     rw[← hlen];refine bgf (by rw[hlen];omega) ?_;by_cases hz:(es.take r.toNat).drop l.toNat=[]
     ·exact .inl hz
     ·have hlt:l.toNat<r.toNat:=by
       rcases fk l.toNat r.toNat with h' | h'
       ·exact h'
       ·exact absurd (ft (by omega)) hz
      rcases hes with rfl | ⟨b,q,ms,rfl,hm,hT,hE⟩
      ·simp at hz
      refine .inr ⟨b,q+l.toNat*sz,(ms.take (r.toNat*sz)).drop (l.toNat*sz),?_,b3z (bs5 hm _) _,?_,cpp (cpm hE _) _⟩
      ·have:cap≠l.toNat:=by omega
       simp[this,bmh]
      ·have hml:=bd3 hE;simp only[fb,dp];have:r.toNat*sz≤es.length*sz:=dq _ (by omega);have:l.toNat*sz≤r.toNat*sz:=dq _ (by omega);omega
   ·cases h
  ·cases h
 ·cases h
omit hi in
theorem b22:∀{as:LA} {vs:List Value} (h:bcs as vs=true) {j:Nat} {c:AV},as[j]? = some c→∃v,vs[j]? = some v∧bm9 c v=true
 | [],_,_,j,c,hj=>by simp at hj
 | a::as,[],h,_,_,_=>by simp[bcs]at h
 | a::as,v::vs,h,j,c,hj=>by
  simp only[bcs,bp]at h;cases j with
  | zero=>
   obtain rfl:a=c:=by simpa using hj
   exact⟨v,rfl,h.1⟩
  | succ j=>exact b22 h.2 (by simpa using hj)
omit hi in
theorem cdh{ag:Bool}{sz:Nat}(hag:ag=false→sz=1):∀{n:Nat} {cs es:LA} {ms:List Value},RL g W cs ms→chh ag sz n cs=some es→es.length=n∧n*sz≤ms.length∧RE g W sz es (ms.take (n*sz))
 | 0,cs,es,ms,_,h=>by
  simp only[chh,bd]at h;subst h;simp[RE]
 | n+1,cs,es,ms,hl,h=>by
  simp only[chh]at h;split at h
  ·rename_i c r hc hr;simp only[bd]at h;subst h;obtain⟨h1,h2,h3⟩:=cdh hag (bq6 hl sz) hr;have hlen:=bbv hl;have e:(n+1)*sz=sz+n*sz:=by rw[jc,qj,jg]
   simp only[fb]at h2;have hsz:sz≤ms.length∧c.isDat=true∧R g W c (ms.take sz):=by
    unfold bp4 at hc;split at hc
    ·rename_i hb;split at hc
     ·rename_i hle;obtain rfl:=bf hc;refine⟨by omega,rfl,?_⟩;simp only[R,dj];exact bv9 hl sz
     ·cases hc
    ·rename_i hb;have hs1:=hag (by simpa using hb);subst hs1;obtain⟨v,hv,hcc,hR⟩:=bsq hl hc;have hlt:0<ms.length:=(cf.1 hv).1;refine⟨by omega,bqp hcc,?_⟩;have:ms.take 1=[v]:=by
      cases ms with
      | nil=>simp at hlt
      | cons a b=>simp at hv;simp[hv]
     rw[this];exact hR
   refine⟨by simp[h1],by omega,?_⟩;simp only[RE];refine⟨ms.take sz,(ms.drop sz).take (n*sz),?_,by simp;omega,⟨hsz.2.1,hsz.2.2⟩,h3⟩;rw[e,List.take_add]
  ·cases h
theorem c3c{d len sz:Nat}{ag:Bool}{x:Opd}{lo hh:Option Opd}{t e:TypeId}{x':Operand}{lo' hh':Option Operand}(hx:bb1 x x'=true)(hlo:btr lo lo'=true)(hhi:btr hh hh'=true)
  (ht:P.underlying t=some (.array len e)) (hsz:bxg P e=some sz) (hag:ag=false→sz=1) (ho:o.op=.slice t x' lo' hh' none) {s:SV} (h:bbb st (.sliceA d len sz ag x lo hh)=some s) :
  ∃v,zp P o a W v W∧SVR g W L s v:=by
 simp only[bbb]at h;split at h
 ·rename_i cs hu;have hp:=bcg (bb7 hi hx hu) rfl;simp only[R]at hp;obtain⟨b,q,ms,ev,hm,hT,hL⟩:=hp;have ev':a.eval x'=.pointer (some ⟨b,q,none⟩):=by simpa using ev
  split at h
  ·rename_i l r es hl hr hes;split at h
   ·rename_i hb;obtain⟨h0,h1,h2,hz0⟩:=hb;obtain rfl:=bf h;obtain⟨c1,c2,c3⟩:=cdh hag hL hes;have hbd:=b04 (P:=P) (W:=W) false len len (lo'.map a.eval) (hh'.map a.eval) l r (by have:=bth hi hlo hl;simpa only[cx,dd] using this) (bth hi hhi hr) h0 h1 h2 (cj _);refine⟨.slice (some (if len=l.toNat then⟨b,q,none⟩ else⟨b,q+l.toNat*sz,none⟩)) (r.toNat - l.toNat) (len - l.toNat),?_,?_⟩
    ·simp[zp,execOp,ho,Instr.sliceAt,run_underlying ht,ev',Instr.sureAddr,hbd,bdc hsz,bmh]
    ·have hlen:((es.take r.toNat).drop l.toNat).length=r.toNat - l.toNat:=by
      simp only[fb,dp];omega
     rw[← hlen];refine bgf (by rw[hlen];omega) ?_;by_cases hz:(es.take r.toNat).drop l.toNat=[]
     ·exact .inl hz
     ·have hlt:l.toNat<r.toNat:=by
       rcases fk l.toNat r.toNat with h' | h'
       ·exact h'
       ·exact absurd (ft (by omega)) hz
      have hne:len≠l.toNat:=by omega
      refine .inr ⟨b,q+l.toNat*sz,((ms.take (len*sz)).take (r.toNat*sz)).drop (l.toNat*sz),by simp[hne],b3z (bs5 (bs5 hm _) _) _,?_,cpp (cpm c3 _) _⟩;have:r.toNat*sz≤len*sz:=dq _ (by omega);have:l.toNat*sz≤r.toNat*sz:=dq _ (by omega);simp only[fb,dp];omega
   ·cases h
  ·cases h
 ·cases h
theorem c3b{d:Nat}{x:Opd}{lo hh:Option Opd}{t:TypeId}{x':Operand}{lo' hh':Option Operand}(hx:bb1 x x'=true)(hlo:btr lo lo'=true)(hhi:btr hh hh'=true)
  (ht:P.underlying t=some .string) (ho:o.op=.slice t x' lo' hh' none) {s:SV} (h:bbb st (.sliceS d x lo hh)=some s) :
  ∃v,zp P o a W v W∧SVR g W L s v:=by
 simp only[bbb]at h;split at h
 ·rename_i b hu;have ev:=bfb.1 (bb7 hi hx hu);split at h
  ·rename_i l r hl hr;split at h
   ·rename_i hb;obtain⟨h0,h1,h2⟩:=hb;obtain rfl:=bf h;have hbd:=b04 (P:=P) (W:=W) false b.size b.size (lo'.map a.eval) (hh'.map a.eval) l r (by have:=bth hi hlo hl;simpa only[cx,dd] using this) (bth hi hhi hr) h0 h1 h2 (cj _);exact⟨_,by simp[zp,execOp,ho,Instr.sliceAt,run_underlying ht,Instr.slice,ev,hbd],bfb.2 rfl⟩
   ·cases h
  ·cases h
 ·cases h
theorem c5m{d:Nat}{x:Opd}{x':Operand}(hx:bb1 x x'=true)(ho:o.op=.nilCheck x'){s:SV}(h:bbb st (.nilchk d x)=some s) :
  ∃v,zp P o a W v W∧SVR g W L s v:=by
 have hs:=bxp hi hx;simp only[bbb]at h;split at h
 ·rename_i cs hcs;obtain rfl:=bf h;rw[hcs]at hs;have h1:=bcg hs rfl;simp only[R]at h1;obtain⟨b,q,ms,e,_⟩:=h1;have e':a.eval x'=.pointer (some ⟨b,q,none⟩):=by simpa using e
  exact⟨a.eval x',by simp[zp,execOp,ho,e'],hs⟩
 ·rename_i d' off hl;obtain rfl:=bf h;rw[hl]at hs;have e':a.eval x'=.pointer (some ⟨L d',off,none⟩):=hs;exact⟨a.eval x',by simp[zp,execOp,ho,e'],hs⟩
 ·rename_i i off hp;obtain rfl:=bf h;rw[hp]at hs;have h1:=bcg hs rfl;simp only[R]at h1;obtain⟨b,hb,e⟩:=h1;have e':a.eval x'=.pointer (some ⟨b,off,none⟩):=by simpa using e
  exact⟨a.eval x',by simp[zp,execOp,ho,e'],hs⟩
 ·cases h
def b74(P:Program)(t:TypeId):Bool:=
 match P.underlying t with
 | some (.interface _)=>false
 | some _=>true
 | none=>false
theorem dq6{d t:Nat}{x:Opd}{x':Operand}(hx:bb1 x x'=true)(ht:b74 P t=true)(ho:o.op=.makeInterface t x'){s:SV}(h:bbb st (.mkif d t x)=some s) :
  ∃v,zp P o a W v W∧SVR g W L s v:=by
 simp only[bbb]at h;split at h
 ·rename_i c hu;have hR:=bb7 hi hx hu;split at h
  ·rename_i hd;obtain rfl:=bf h;refine⟨.iface t (a.eval x'),?_,⟨?_,rfl⟩⟩
   ·unfold b74 at ht;cases hu2:P.underlying t with
    | none=>simp[hu2]at ht
    | some ds=>
     cases ds<;>simp[hu2]at ht<;>simp[zp,execOp,ho,Instr.makeInterface,run_underlying hu2]
   ·simp only[Value.cells,R];exact⟨_,rfl,hR.1,hR.2⟩
  ·cases h
 ·cases h
theorem ctd{d t xt:Nat}{ok:Bool}{z:AV}{zz:Value}{it:TypeInfo}{x:Opd}{x':Operand}(hx:bb1 x x'=true)(ht:b74 P t=true)(hit:P.info? t=some it)(hzz:it.zero=some zz)(hzR:RV g W z zz)
  (ho:o.op=.typeAssert x' xt t ok) {s:SV} (h:bbb st (.tassert d t ok z x)=some s) :
  ∃v,zp P o a W v W∧SVR g W L s v:=by
 have hzero:(zeroValue t).run P W=.ok zz W:=by simp[zeroValue,typeInfo,hit,hzz]
 have two:∀{y:AV} {u:Value} {b:Bool},RV g W y u→RV g W (.tuple [y,.bool b]) (.tuple #[u,.bool b]):=by
  intro y u b hy;refine⟨?_,rfl⟩;simp only[Value.cells,R,RT];exact⟨_,rfl,u,_,rfl,hy,_,_,rfl,⟨rfl,rfl⟩,rfl⟩
 simp only[bbb]at h;unfold b74 at ht;cases hu2:P.underlying t with
 | none=>simp[hu2]at ht
 | some ds=>
  split at h
  ·rename_i t' y hu;have hR:=bcg (bb7 hi hx hu) rfl;simp only[R]at hR;obtain⟨u,e1,hy⟩:=hR;have e1:a.eval x'=.iface t' u:=by simpa using e1
   split at h
   ·rename_i heq;subst heq;obtain rfl:=bf h;cases ok with
    | true=>
     refine⟨.tuple #[u,.bool true],?_,two hy⟩;cases ds<;>simp[hu2]at ht<;>simp[zp,execOp,ho,Instr.typeAssert,run_underlying hu2,e1]
    | false=>
     refine⟨u,?_,hy⟩;cases ds<;>simp[hu2]at ht<;>simp[zp,execOp,ho,Instr.typeAssert,run_underlying hu2,e1]
   ·rename_i hne;cases ok with
    | true=>
     simp only[if_true]at h;obtain rfl:=bf h;refine⟨.tuple #[zz,.bool false],?_,two hzR⟩;cases ds<;>simp[hu2]at ht<;>simp[zp,execOp,ho,Instr.typeAssert,run_underlying hu2,e1,hne,hzero]
    | false=>simp at h
  ·rename_i hu;have hR:=bcg (bb7 hi hx hu) rfl;simp only[R]at hR;have e1:a.eval x'=.nilIface:=by simpa using hR
   cases ok with
   | true=>
    simp only[if_true]at h;obtain rfl:=bf h;refine⟨.tuple #[zz,.bool false],?_,two hzR⟩;cases ds<;>simp[hu2]at ht<;>simp[zp,execOp,ho,Instr.typeAssert,run_underlying hu2,e1,hzero]
   | false=>simp at h
  ·cases h
theorem len_ok{d:Nat}{str:Bool}{x:Opd}{t:TypeId}{x':Operand}(hx:bb1 x x'=true)(ht:if str then P.underlying t=some .string else ∃e,P.underlying t=some (.slice e))
  (ho:o.op=.call {callee:=.builtin .len,args:=#[x'],argTypes:=#[t]}) {s:SV} (h:bbb st (.len d str x)=some s) :
  ∃v,zp P o a W v W∧SVR g W L s v:=by
 simp only[bbb]at h;split at h
 ·rename_i d0 sz0 ag0 n0 hs;have hsv:=bxp hi hx;rw[hs]at hsv;obtain⟨_,cap,hcap,hv⟩:=hsv;cases str
  ·obtain rfl:=bf h;obtain⟨e,ht⟩:=ht;exact⟨_,by simp[zp,execOp,ho,resolve,invoke,builtin,Builtin.len_,run_underlying ht,hv,goInt],bcv.2 rfl⟩
  ·cases h
 split at h
 ·rename_i sz es hu;cases str
  ·obtain rfl:=bf h;obtain⟨p,cap,ev,_⟩:=bm2 (bb7 hi hx hu);obtain⟨e,ht⟩:=ht;exact⟨_,by simp[zp,execOp,ho,resolve,invoke,builtin,Builtin.len_,run_underlying ht,ev,goInt],bcv.2 rfl⟩
  ·cases h
 ·rename_i b hu;cases str
  ·cases h
  ·obtain rfl:=bf h;have ev:=bfb.1 (bb7 hi hx hu);have ht':P.underlying t=some .string:=ht;exact⟨_,by simp[zp,execOp,ho,resolve,invoke,builtin,Builtin.len_,run_underlying ht',ev,goInt],bcv.2 rfl⟩
 ·cases h
theorem mm_ok{d:Nat}{mx:Bool}{x y:Opd}{ts:Array TypeId}{x' y':Operand}(hx:bb1 x x'=true)(hy:bb1 y y'=true)
  (ho:o.op=.call {callee:=.builtin (if mx then .max else .min),args:=#[x',y'],argTypes:=ts}) {s:SV} (h:bbb st (.mm d mx x y)=some s) :
  ∃v,zp P o a W v W∧SVR g W L s v:=by
 simp only[bbb]at h;split at h
 ·rename_i k n k' m hu hv;have e1:=bcv.1 (bb7 hi hx hu);have e2:=bcv.1 (bb7 hi hy hv);split at h
  ·rename_i hk;subst hk;obtain rfl:=bf h;refine⟨.int k (if mx then max n m else min n m),?_,bcv.2 rfl⟩;cases mx
   ·have:(if m<n then m else n)=min n m:=by omega
    simp[zp,execOp,ho,resolve,invoke,builtin,Builtin.min_,Builtin.min2,e1,e2,this]
   ·have:(if n<m then m else n)=max n m:=by omega
    have h2:(if m<n then n else m)=max n m:=by omega
    simp[zp,execOp,ho,resolve,invoke,builtin,Builtin.max_,Builtin.max2,e1,e2,this,h2]
  ·cases h
 ·cases h
omit hi in
theorem cc2:∀(l:List Value) (off k:Nat) (cells:Array Value),off+k+l.length≤cells.size →
  ((l.zipIdx k).foldl (fun(cs:Array Value) (p:Value×Nat)=>cs.setIfInBounds (off+p.2) p.1) cells).toList=cells.toList.take (off+k)++l++cells.toList.drop (off+k+l.length)
 | [],off,k,cells,h=>by simp
 | v::r,off,k,cells,h=>by
  simp only[List.zipIdx_cons,jv];rw[show off+(v,k).2=off+k from rfl,cc2 r off (k+1) _ (by simp only[Array.size_setIfInBounds];simp at h;omega)];have:=list_seg_step cells.toList (off+k) v r (by simp at h ⊢;omega);simp only[tg,cm];rw[show off+(k+1)=off+k+1 from by omega,show off+k+(r.length+1)=off+k+(r.length+1) from rfl];simpa[tf] using this
def bst(P:Program)(t:TypeId):Option (Nat→Option (Nat×Nat)):=
 match P.underlying t with
 | some (.array _ e)=>(P.info? e).map fun ie=>fun i=>some (i*ie.size,ie.size)
 | some (.struct fields)=>(fields.toList.mapM (fun f=>(P.info? f.type).map fun i=>(f.offset,i.size))).map fun places=>(places.toArray[·]?)
 | _=>none
def bt3(pl:Nat→Option (Nat×Nat)):List (Nat×Nat×Opd)→List (Nat×Operand)→Bool
 | [],[]=>true
 | (off,n,x)::xs,(i,y)::ys=>decide (pl i=some (off,n))&&bb1 x y&&bt3 pl xs ys
 | _,_=>false
theorem c8x{pl:Nat→Option (Nat×Nat)}:∀{xs:List (Nat×Nat×Opd)} {ys:List (Nat×Operand)} (hm:bt3 pl xs ys=true) {z:LA} {arr:Array Value} (hz:RL g W z arr.toList)
  {cs:LA} (h:bgd st z xs=some cs),∃arr',Instr.fill pl arr (ys.map fun p=>(p.1,a.eval p.2))=some arr'∧RL g W cs arr'.toList∧(∀j:Nat,(∀p∈xs,j<p.1∨p.1+p.2.1≤j)→arr'[j]? = arr[j]?) ∧
   ∀off k w,xs.getLast? = some (off,1,.s k)→(a.eval (.tmp k)).cells.toList=[w]→arr'[off]? = some w
 | [],[],_,z,arr,hz,cs,h=>by
  simp only[bgd,bd]at h;subst h;exact⟨arr,rfl,hz,fun _ _=>rfl,fun _ _ _ h=>by simp at h⟩
 | [],_::_,hm,_,_,_,_,_=>by simp[bt3]at hm
 | _::_,[],hm,_,_,_,_,_=>by simp[bt3]at hm
 | (off,n,x)::xs,(i,y)::ys,hm,z,arr,hz,cs,h=>by
  simp only[bt3,bp,decide_eq_true_eq]at hm;obtain⟨⟨hp,hx⟩,hm⟩:=hm;simp only[bgd]at h;split at h
  ·rename_i c hc;split at h
   ·rename_i hb;obtain⟨hd,hn,hle⟩:=hb;have hR:=cjf (bb7 hi hx hc) hd;have hl1:=bbv hR;have hl2:=bbv hz;have hsz:(a.eval y).cells.size=n:=by rw[← d5,hl1,hn]
    have hlen:arr.size=z.length:=by rw[← d5,hl2]
    have hfold:=cc2 (a.eval y).cells.toList off 0 arr (by simp;omega);have hz':RL g W (bdf z off c.cells) ((a.eval y).cells.zipIdx.foldl (fun cs (p:Value×Nat)=>cs.setIfInBounds (off+p.2) p.1) arr).toList:=by
     rw[← sk,r7,hfold,jt,hl1];unfold bdf;exact b3d (b3d (bv9 hz _) hR) (bq6 hz _)
    have hf:((a.eval y).cells.zipIdx.foldl (fun cs (p:Value×Nat)=>cs.setIfInBounds (off+p.2) p.1) arr).toList=arr.toList.take off++(a.eval y).cells.toList++arr.toList.drop (off+n):=by
     rw[← sk,r7,hfold,jt,hl1,hn]
    obtain⟨arr',h1,h2,h3,h4⟩:=c8x hm hz' h;refine⟨arr',?_,h2,fun j hj=>?_,fun off' k w hlast hw=>?_⟩
    rotate_left
    rotate_left
    ·cases xs with
     | cons q qs=>exact h4 off' k w (by simpa[List.getLast?_cons_cons] using hlast) hw
     | nil=>
      simp only[List.getLast?_singleton,bd,bq]at hlast;obtain⟨rfl,rfl,rfl⟩:=hlast;have ey:y=.tmp k:=by
       unfold bb1 at hx;split at hx<;>simp_all
      subst ey;rw[h3 off (by simp),← fx,hf,hw];have hal:arr.toList.length=z.length:=by simpa using hlen
      rw[gq,d9 (by rw[dp];omega)];simp only[dp];rw[show off - min off arr.toList.length=0 by omega];rfl
    rotate_left
    ·rw[h3 j fun p hp=>hj p (.tail _ hp),← fx,hf,← fx];have hnl:(a.eval y).cells.toList.length=n:=by rw[hl1,hn]
     have hal:arr.toList.length=z.length:=by simpa using hlen
     rcases hj (off,n,x) (.head _) with h | h
     ·simp only at h;rw[gq,dk (by simp;omega),dz,if_pos h]
     ·simp only at h;rw[d9 (by simp at hnl ⊢;omega),fd];congr 1;simp at hnl ⊢;omega
    simp only[cr,Instr.fill,hp,hsz];rw[if_neg (by simp;omega)];exact h1
   ·cases h
  ·cases h
theorem b9p{z:LA}{xs:List (Nat×Nat×Opd)}{t:TypeId}{ys:Array (Nat×Operand)}{pl:Nat→Option (Nat×Nat)}{zv:List Value}(hpl:bst P t=some pl)(hz:brb P t=some zv)
  (hc:bcs z zv=true) (hm:bt3 pl xs ys.toList=true) (ho:o.op=.build t ys) {cs:LA} (hq:bgd st z xs=some cs) :
  ∃ arr':Array Value,zp P o a W (.agg arr') W∧RV g W (.agg cs) (.agg arr')∧(∀j∈br0 z xs,(Value.agg arr').cells[j]? = some (.slice none 0 0)) ∧
    ∀off k w,xs.getLast? = some (off,1,.s k)→(a.eval (.tmp k)).cells.toList=[w]→arr'[off]? = some w:=by
 unfold brb at hz;cases hit:P.info? t with
 | none=>simp[hit]at hz
 | some it=>
  cases hzz:it.zero with
  | none=>simp[hit,hzz]at hz
  | some zz=>
   simp only[hit,bb,hzz,bc,bd]at hz;subst hz;obtain⟨arr',h1,h2,h3,h5⟩:=c8x hi hm (bk7 hc g W) hq;have hb:P.built t (ys.map fun p=>(p.1,a.eval p.2)).toList=some arr':=by
    unfold Program.built;unfold bst at hpl;split at hpl
    ·rename_i n e hu;cases hie:P.info? e with
     | none=>simp[hie]at hpl
     | some ie=>
      simp only[hie,bc,bd]at hpl;subst hpl;simpa[hit,hu,hzz,hie] using h1
    ·rename_i fields hu;cases hp:fields.toList.mapM (fun f=>(P.info? f.type).map fun i=>(f.offset,i.size)) with
     | none=>simp[hp]at hpl
     | some places=>
      simp only[hp,bc,bd]at hpl;subst hpl;simpa[hit,hu,hzz,hp] using h1
    ·cases hpl
   have hRV:RV g W (.agg cs) (.agg arr'):=⟨by simpa[R,Value.cells] using h2,rfl⟩;refine⟨arr',by simp[zp,execOp,ho,run_build W t _ arr' hb],hRV,fun j hj=>?_,h5⟩;obtain⟨i,sz,e0,hzj,hcov⟩:=b8x (show j∈bmx xs z 0 from hj);rw[dt]at e0;subst e0;have h4:=h3 j hcov;show arr'[j]? = _;rw[h4]
   ·obtain⟨v,hv,hcv⟩:=b22 hc hzj;have hv':zz.cells[j]? = some v:=by simpa using hv
    rw[hv'];congr 1
    revert hcv
    unfold bm9;split<;>simp_all
theorem dj9{d:Nat}{z:LA}{xs:List (Nat×Nat×Opd)}{t:TypeId}{ys:Array (Nat×Operand)}{pl:Nat→Option (Nat×Nat)}{zv:List Value}(hpl:bst P t=some pl)(hz:brb P t=some zv)
  (hc:bcs z zv=true) (hm:bt3 pl xs ys.toList=true) (ho:o.op=.build t ys) {s:SV} (h:bbb st (.build d z xs)=some s) :
  ∃v,zp P o a W v W∧SVR g W L s v:=by
 simp only[bbb]at h;cases hq:bgd st z xs with
 | none=>simp[hq]at h
 | some cs=>
  simp only[hq,bc,bd]at h;subst h;obtain⟨arr',h1,h2,h3,_⟩:=b9p hi o hpl hz hc hm ho hq;refine⟨.agg arr',h1,?_⟩;split
  ·exact h2
  ·exact⟨h2,h3⟩
end
end Go.Av
namespace Go.Av
open Go
def dgh(P:Program)(t:TypeId):Nat→Value→Bool
 | 0,.pointer none=>match P.underlying t with | some (.pointer _)=>true | _=>false
 | 1,.nilFunc=>match P.underlying t with | some (.func ..)=>true | _=>false
 | 2,.nilIface=>match P.underlying t with | some (.interface _)=>true | _=>false
 | 3,.map none=>match P.underlying t with | some (.map ..)=>true | _=>false
 | _,_=>false
section
variable{P:Program}{g:Gh}{W:World}{a:Act}{N:Nat}{L:Nat→Nat}{st:St}(hi:Inv g W a N L st)(o:Oper)
include hi
omit hi in
theorem bkd{t:TypeId}{u z:Value}{b:Bool}(h:∀n,(Op.equalIn (n+1) t u z).run P W=.ok b W)
  (h1:binOp .eql t u z=(do pure (.bool (← Op.equal t u z)))) (h2:binOp .neq t u z=(do pure (.bool (!(← Op.equal t u z))))) :
  (binOp .eql t u z).run P W=.ok (.bool b) W∧(binOp .neq t u z).run P W=.ok (.bool !b) W:=by
 have h':(Op.equal t u z).run P W=.ok b W:=h 9999;rw[h1,h2];simp[h']
omit hi in
theorem c9g{t:TypeId}{cls:Nat}{u z:Value}{x':Operand}{c:AV}(hc:dgh P t cls z=true)(hR:RV g W c u){b:Bool}(hb:bhq cls c=some b) :
  (∀op,(eqGuard op t x' (.const z) u z).run P W=.ok () W)∧(binOp .eql t u z).run P W=.ok (.bool b) W∧(binOp .neq t u z).run P W=.ok (.bool !b) W:=by
 have h1:c.isAgg=false:=by
  unfold bhq at hb;split at hb<;>first | rfl | (cases hb;done)
 have h1:=bcg hR h1;unfold dgh at hc;split at hc
 ·split at hc
  ·rename_i e ht;unfold bhq at hb;split at hb<;>(try contradiction)<;>(try (cases hb;done))<;>obtain rfl:=bf hb<;>simp only[R]at h1
   ·obtain rfl:u=_:=by simpa using h1
    exact⟨fun op=>by cases op<;>simp[eqGuard],bkd (fun n=>by simp[Op.equalIn,run_underlying ht]) rfl rfl⟩
   ·obtain⟨b,q,ms,e,_⟩:=h1;obtain rfl:u=_:=by simpa using e
    exact⟨fun op=>by cases op<;>simp[eqGuard],bkd (fun n=>by simp[Op.equalIn,run_underlying ht]) rfl rfl⟩
   ·obtain⟨b,_,e⟩:=h1;obtain rfl:u=_:=by simpa using e
    exact⟨fun op=>by cases op<;>simp[eqGuard],bkd (fun n=>by simp[Op.equalIn,run_underlying ht]) rfl rfl⟩
  ·cases hc
 ·split at hc
  ·rename_i ht;unfold bhq at hb;split at hb<;>(try contradiction)<;>(try (cases hb;done))<;>obtain rfl:=bf hb<;>simp only[R]at h1
   ·obtain rfl:u=_:=by simpa using h1
    exact⟨fun op=>by cases op<;>simp[eqGuard],bkd (fun n=>by simp[Op.equalIn,run_underlying ht]) rfl rfl⟩
   ·obtain⟨f,d,e,_⟩:=h1;obtain rfl:u=_:=by simpa using e
    exact⟨fun op=>by cases op<;>simp[eqGuard],bkd (fun n=>by simp[Op.equalIn,run_underlying ht]) rfl rfl⟩
  ·cases hc
 ·split at hc
  ·rename_i ms ht;unfold bhq at hb;split at hb<;>(try contradiction)<;>(try (cases hb;done))<;>obtain rfl:=bf hb<;>simp only[R]at h1
   ·obtain rfl:u=_:=by simpa using h1
    exact⟨fun op=>by cases op<;>simp[eqGuard],bkd (fun n=>by simp[Op.equalIn,run_underlying ht]) rfl rfl⟩
   ·obtain⟨v,e,_⟩:=h1;obtain rfl:u=_:=by simpa using e
    exact⟨fun op=>by cases op<;>simp[eqGuard],bkd (fun n=>by simp[Op.equalIn,run_underlying ht]) rfl rfl⟩
  ·cases hc
 ·split at hc
  ·rename_i ht;unfold bhq at hb;split at hb<;>(try contradiction)<;>(try (cases hb;done))<;>obtain rfl:=bf hb<;>simp only[R]at h1
   ·obtain rfl:u=_:=by simpa using h1
    exact⟨fun op=>by cases op<;>simp[eqGuard],bkd (fun n=>by simp[Op.equalIn,run_underlying ht]) rfl rfl⟩
   ·obtain⟨b,_,e⟩:=h1;obtain rfl:u=_:=by simpa using e
    exact⟨fun op=>by cases op<;>simp[eqGuard],bkd (fun n=>by simp[Op.equalIn,run_underlying ht]) rfl rfl⟩
  ·cases hc
 ·cases hc
theorem djc{d cls:Nat}{neg:Bool}{x:Opd}{t t':TypeId}{x':Operand}{z:Value}(hx:bb1 x x'=true)(hc:dgh P t cls z=true)
  (ho:o.op=.binOp (if neg then .neq else .eql) t x' (.const z) t') {s:SV} (h:bbb st (.eqnil d neg cls x)=some s):∃v,zp P o a W v W∧SVR g W L s v:=by
 simp only[bbb]at h;split at h
 ·rename_i c hu;cases hq:bhq cls c with
  | none=>simp[hq]at h
  | some b=>
   simp only[hq,bc,bd]at h;subst h;obtain⟨h1,h2,h3⟩:=c9g (P:=P) (x':=x') hc (bb7 hi hx hu) hq;have ev:a.eval (.const z)=z:=rfl;cases neg
   ·exact⟨_,by simp[zp,execOp,ho,ev,h1,h2],bgr.2 rfl⟩
   ·exact⟨_,by simp[zp,execOp,ho,ev,h1,h3],bgr.2 rfl⟩
 ·cases h
def b4m(P:Program)(t:TypeId):Nat→Bool
 | 0=>match P.underlying t with | some (.int _)=>true | _=>false
 | 1=>match P.underlying t with | some .bool=>true | _=>false
 | 2=>match P.underlying t with | some .string=>true | _=>false
 | _=>false
def bkm(P:Program):Nat→List Nat→List Field→Bool
 | _,[],[]=>true
 | k, q :: qs, f :: fs => f.name != "_" && decide (f.offset = k) && b4m P f.type q && bkm P (k + 1) qs fs
 | _,_,_=>false
omit hi in
theorem cqt{t:TypeId}{q:Nat}{arr:Array Value}{k:Nat}{v:Value}(ht:b4m P t q=true)(h:arr[k]? = some v):(part t arr k).run P W=.ok v W:=by
 have hag:b0g P t=some false:=by
  unfold b4m at ht;unfold b0g;split at ht<;>(try (cases ht;done))<;>split at ht<;>simp_all
 simp[part,bpq hag,h]
omit hi in
theorem czm{t:TypeId}{q:Nat}(ht:b4m P t q=true)(n:Nat){c d:AV}{u v:Value}(hu:R g W c [u])(hv:R g W d [v]){b:Bool}(h:crt q c d=some b) :
  (Op.equalIn (n+1) t u v).run P W=.ok b W:=by
 unfold crt at h;split at h
 ·split at h
  ·rename_i hk;subst hk;obtain rfl:=bf h;simp only[R,gr,and_true]at hu hv;subst hu hv;simp only[b4m]at ht;split at ht
   ·rename_i k' hu;exact run_equalIn_int W n t _ k' _ _ hu
   ·cases ht
  ·cases h
 ·obtain rfl:=bf h;simp only[R,gr,and_true]at hu hv;subst hu hv;simp only[b4m]at ht;split at ht
  ·rename_i hu;exact run_equalIn_bool' W n t _ _ hu
  ·cases ht
 ·obtain rfl:=bf h;simp only[R,gr,and_true]at hu hv;subst hu hv;simp only[b4m]at ht;split at ht
  ·rename_i hu;exact run_equalIn_string W n t _ _ hu
  ·cases ht
 ·cases h
omit hi in
theorem b21(n:Nat){xs ys:Array Value}:∀(fs:List Field) (qs:List Nat) (k:Nat) (cs ds:LA),bkm P k qs fs=true→RL g W cs (xs.toList.drop k)→RL g W ds (ys.toList.drop k) →
  ∀{b:Bool},bqs qs cs ds=some b→(Op.eqFields (n+1) xs ys fs).run P W=.ok b W
 | [],qs,k,cs,ds,hf,hx,hy,b,h=>by
  cases qs with
  | cons _ _=>simp[bkm]at hf
  | nil=>
   cases cs<;>cases ds<;>simp[bqs]at h;subst h;simp[Op.eqFields]
 | f::fs,qs,k,cs,ds,hf,hx,hy,b,h=>by
  cases qs with
  | nil=>simp[bkm]at hf
  | cons q qs=>
   cases cs with
   | nil=>simp[bqs]at h
   | cons c cs=>
    cases ds with
    | nil=>simp[bqs]at h
    | cons d ds=>
     simp only[bqs]at h;split at h
     ·rename_i b1 b2 h1 h2;obtain rfl:=bf h;simp only[bkm,bp,bne_iff_ne,ne_eq,decide_eq_true_eq]at hf;obtain⟨⟨⟨hn,ho⟩,ht⟩,hf⟩:=hf;simp only[RL]at hx hy;obtain⟨u,r,e1,⟨_,hu⟩,hx⟩:=hx;obtain⟨v,r',e2,⟨_,hv⟩,hy⟩:=hy;have xu:xs[k]? = some u:=by
       have:=congrArg (fun l=>l[0]?) e1;simpa[fd] using this
      have yv:ys[k]? = some v:=by
       have:=congrArg (fun l=>l[0]?) e2;simpa[fd] using this
      have dx:xs.toList.drop (k+1)=r:=by rw[← fz,e1];rfl
      have dy:ys.toList.drop (k+1)=r':=by rw[← fz,e2];rfl
      have ih:=b21 n fs qs (k+1) cs ds hf (by rw[dx];exact hx) (by rw[dy];exact hy) h2;have hne : f.name ≠ "_" := hn
      simp only[Op.eqFields,if_pos hne,ho];simp only[Sem.run_bind,cqt ht xu,cqt ht yv,Result.andThen_ok,czm ht n hu hv h1,Sem.run_ite];cases b1
      ·simp
      ·simpa using ih
     ·cases h
def c6c(P:Program)(t:TypeId)(ks:List Nat):Bool:=
 match P.underlying t with
 | some (.struct fs)=>bkm P 0 ks fs.toList&&!P.stoodInHeld t&&!P.eqGuardType P.depth t
 | _=>false
theorem djd{d:Nat}{neg:Bool}{ks:List Nat}{x y:Opd}{t t':TypeId}{x' y':Operand}(hx:bb1 x x'=true)(hy:bb1 y y'=true)(hm:c6c P t ks=true)
  (ho:o.op=.binOp (if neg then .neq else .eql) t x' y' t') {s:SV} (h:bbb st (.eqagg d neg ks x y)=some s):∃v,zp P o a W v W∧SVR g W L s v:=by
 simp only[bbb]at h;split at h
 ·rename_i cs ds hu hv;cases hq:bqs ks cs ds with
  | none=>simp[hq]at h
  | some b=>
   simp only[hq,bc,bd]at h;subst h;obtain⟨xs,e1,hl1⟩:=cdq (bb7 hi hx hu);obtain⟨ys,e2,hl2⟩:=cdq (bb7 hi hy hv);unfold c6c at hm;split at hm
   ·rename_i fs ht;simp only[bp,dr]at hm;obtain⟨⟨h1,h2⟩,h3⟩:=hm;have hfo:P.fieldsOf t=fs:=by simp[Program.fieldsOf,ht]
    have hr:=b21 (P:=P) (xs:=xs) (ys:=ys) 9998 fs.toList ks 0 cs ds h1 (by simpa using hl1) (by simpa using hl2) hq;have he:(Op.equalIn 10000 t (.agg xs) (.agg ys)).run P W=.ok b W:=by
     rw[run_equalIn_struct W 9999 t xs ys (by rw[hfo];exact ht) h2,hfo];exact hr
    have hg:∀op,(eqGuard op t x' y' (.agg xs) (.agg ys)).run P W=.ok () W:=fun op=>run_eqGuard_agg W op t x' y' xs ys h3
    cases neg
    ·exact⟨_,by simp only[zp,execOp,ho,e1,e2];simp[hg,run_eql_struct,he],bgr.2 rfl⟩
    ·exact⟨_,by simp only[zp,execOp,ho,e1,e2];simp[hg,run_neq_struct,he],bgr.2 rfl⟩
   ·cases hm
 ·cases h
end
end Go.Av
namespace Go.Av
open Go
def b2g(P:Program)(o:Oper)(a:Act)(g:Gh)(W:World)(N:Nat)(L:Nat→Nat)(st':St):Prop:=
 ∃nx v W' g' L',(execOp a.eval o).run P W=.ok nx W'∧(nx=.value v∨(nx=.skip∧v=undef))∧Ext g W g' W'∧Inv g' W' (a.put o.dst v) N L' st'
section
variable{P:Program}{g:Gh}{W:World}{a:Act}{N:Nat}{L:Nat→Nat}{st:St}(hi:Inv g W a N L st)(o:Oper)
include hi
theorem Inv.right{d e:Nat}{x:AV}(hs:st.σ.get d=.v x)(hr:bj4 g W (.slot d) e x (a.tmps.getD d undef)):Inv g W a N L (st.right d e):=by
 refine⟨hi.size,hi.slot,fun k e' hk=>?_,hi.loc,hi.sh⟩;simp only[St.right,dc,bq]at hk;rcases hk with⟨rfl,rfl⟩ | hk
 ·exact⟨x,_,by show(st.σ.get k).part _=_;rw[hs];rfl,hr⟩
 ·exact hi.own k e' hk
theorem Inv.rightP{d e:Nat}{x:AV}{w:Value}(hs:(st.σ.get d).part (a.tmps.getD d undef)=some (x,w))(hr:bj4 g W (.slot d) e x w):Inv g W a N L (st.right d e):=by
 refine⟨hi.size,hi.slot,fun k e' hk=>?_,hi.loc,hi.sh⟩;simp only[St.right,dc,bq]at hk;rcases hk with⟨rfl,rfl⟩ | hk
 ·exact⟨x,w,hs,hr⟩
 ·exact hi.own k e' hk
theorem bjm{d:Nat}(hd:d<N)(hod:o.dst=some d){s:SV}{v:Value}(hr:zp P o a W v W)(hs:SVR g W L s v):b2g P o a g W N L (st.put d s):=by
 refine⟨_,v,W,g,L,hr,.inl rfl,Ext.refl g W,?_⟩;rw[hod];exact hi.put d hd s v hs
omit hi in
theorem bjc{st:St}{d:Nat}{p:Nat×Nat}:p∈st.drop d↔p∈st.own∧p.1≠d:=by simp[St.drop]
omit hi in
theorem bjb{a:Act}{d:Nat}(hd:d<a.tmps.size)(v:Value):(a.put (some d) v).tmps.getD d undef=v:=by
 simp[Act.put,hd]
theorem dmf{d:Nat}{x:Opd}{take:Bool}{y:Operand}(hx:bb1 x y=true)(hd:d<N)(hod:o.dst=some d)(ho:o.op=.move y∨o.op=.assign y){st':St}{r:AEx}{rec:Rec}
  (h:aop rec st (.mov d x take)=some (r,st')):r=.normal∧b2g P o a g W N L st':=by
 simp only[aop,normal,bd,bq]at h;obtain⟨rfl,rfl⟩:=h;refine⟨rfl,?_⟩;have hr:zp P o a W (a.eval y) W:=by rcases ho with ho | ho<;>simp[zp,execOp,ho]
 have hs:=bxp hi hx;cases take
 ·exact bjm hi o hd hod hr hs
 ·simp only[if_true];unfold St.move;split
  ·rename_i k;split
   ·rename_i e hro;have hmem:=bdq hro;have ey:y=.tmp k:=by
     unfold bb1 at hx;split at hx<;>simp_all
    subst ey;split
    ·rename_i hk;subst hk;refine⟨_,a.eval (.tmp k),W,g,L,hr,.inl rfl,Ext.refl g W,?_⟩;rw[hod];have:a.put (some k) (a.eval (.tmp k))=a:=by
      simp only[Act.put,Act.eval];have hk:k<a.tmps.size:=by rw[hi.size];exact hd
      cases a with
      | mk t df=>
       simp only[Act.mk.injEq,and_true];apply Array.ext';simp only[tg];apply tt;intro i;simp only[pf];split
       ·rename_i e;subst e;simp[hk]
       ·rfl
     rw[this];exact hi
    ·rename_i hk;obtain⟨xv,w,h1,h2⟩:=hi.own k e hmem;have hi0:=hi.subOwn (st.drop k) fun p hp=>(bjc.1 hp).1
     obtain⟨g',hE,hB,hi1,hr1⟩:=hi0.giveRight (o:=.slot k) (bkt fun e he=>by simpa using(bjc.1 he).2) (by simp) h2 (.slot d);have hs1:SVR g' W L (st.σ.get k) (a.eval (.tmp k)):=SVR.keep (hi.slot k) hE.toKeeps;have hi2:=hi1.put d hd (st.σ.get k) (a.eval (.tmp k)) hs1;refine⟨_,a.eval (.tmp k),W,g',L,hr,.inl rfl,hE,?_⟩;rw[hod];refine Inv.rightP hi2 (x:=xv) (w:=w) ?_ hr1;rw[bjb (by rw[hi.size];exact hd)];simp only[zq.get_set,if_true];exact h1
   ·exact bjm hi o hd hod hr hs
  ·exact bjm hi o hd hod hr hs
theorem c5k{d sz e:Nat}(hd:d<N)(hod:o.dst=some d)(ho:o.op=.move (.const (.slice none 0 0))∨o.op=.assign (.const (.slice none 0 0))){st':St}{r:AEx}{rec:Rec}
  (h:aop rec st (.nils d sz e)=some (r,st')):r=.normal∧b2g P o a g W N L st':=by
 simp only[aop,normal,bd,bq]at h;obtain⟨rfl,rfl⟩:=h;refine⟨rfl,?_⟩;have hr:zp P o a W (.slice none 0 0) W:=by rcases ho with ho | ho<;>simp[zp,execOp,ho,Act.eval]
 have hs:SVR g W L (.v (.slice sz [])) (.slice none 0 0):=bgf (es:=[]) (cj 0) (.inl rfl);refine⟨_,_,W,g,L,hr,.inl rfl,Ext.refl g W,?_⟩;rw[hod];have hi2:=hi.put d hd _ _ hs;refine Inv.right hi2 (x:=.slice sz []) (by simp[St.put,zq.get_set]) ?_;rw[bjb (by rw[hi.size];exact hd)];exact⟨sz,[],rfl,.inl ⟨rfl,rfl⟩⟩
omit hi in
theorem Inv.setLoc(hi1:Inv g W a N L st){d b:Nat}(hd:d<N){cells:LA}{arr:Array Value}{ty:TypeId}(hb:W.heap[b]? = some (.cells arr ty (0,0)))(hl:RL g W cells (arr.toList.take cells.length))
  (hO:g.O b=.loc d) (hT:g.T b=0) {own:List (Nat×Nat)}
  (hown:∀j e,(j,e)∈own→∃sz,cells[j]? = some (.slice sz [])∧arr[j]? = some (.slice none 0 0)) :
   Inv g W (a.put (some d) (.pointer (some ⟨b,0,none⟩))) N (upd L d b)
    (St.put {st with σ:=st.σ.kill d,loc:=st.loc.set d {cells:=cells,own:=own}} d (.l d 0)):=by
 refine⟨by simp[Act.put,hi1.size],fun k=>?_,fun k e hk=>?_,fun d' x hx=>?_,hi1.sh⟩
 ·simp only[St.put,Act.put,b34,zq.get_set];by_cases ek:d=k
  ·subst ek;simp only[hi1.size,hd,and_self,if_true,SVR,bb2]
  ·simp only[ek,false_and,if_false,zq.get_kill];have:=hi1.slot k;cases hs:st.σ.get k with
   | v c=>rw[hs]at this;exact this
   | vn c ns=>rw[hs]at this;exact this
   | vr c ns j=>rw[hs]at this;exact this
   | undef=>rw[hs]at this;exact this
   | ls d' sz ag n=>
    rw[hs]at this;simp only[SV.kill];split
    ·trivial
    ·rename_i hne;simp only[SVR,bbh _ _ _ _ hne]at this ⊢;exact this
   | junk=>trivial
   | l d' off=>
    rw[hs]at this;simp only[SV.kill];split
    ·trivial
    ·rename_i hne;simp only[SVR,bbh _ _ _ _ hne]at this ⊢;exact this
 ·simp only[St.put,St.drop,jp,bne_iff_ne,ne_eq]at hk;obtain⟨hk,hne⟩:=hk;obtain⟨x,w,h1,h2⟩:=hi1.own k e hk;have ek:¬ d=k:=fun e=>hne e.symm
  refine⟨x,w,?_,h2⟩;simp only[St.put,Act.put,b34,zq.get_set,zq.get_kill,ek,false_and,if_false];rw[SV.part_kill h1];exact h1
 ·simp only[St.put,bc8.get_set]at hx;by_cases ed:d=d'
  ·subst ed;simp only[if_true,bd]at hx;subst hx;rw[bb2];refine⟨arr,ty,hb,hl,hO,hT,fun j e hj=>?_⟩;obtain⟨sz,h1,h2⟩:=hown j e hj;exact⟨_,_,h1,h2,sz,[],rfl,.inl ⟨rfl,rfl⟩⟩
  ·simp only[ed,if_false]at hx;rw[bbh _ _ _ _ (fun e=>ed e.symm)];exact hi1.loc d' x hx
theorem Inv.newLocT{d:Nat}(hd:d<N){cells:LA}{arr:Array Value}(hl:RL g W cells (arr.toList.take cells.length)){own:List (Nat×Nat)}
  (hown:∀j e,(j,e)∈own→∃sz,cells[j]? = some (.slice sz [])∧arr[j]? = some (.slice none 0 0)) (ty:TypeId) :
  ∃ g',Ext g W g' (W.alloc (.cells arr ty)) ∧
    Inv g' (W.alloc (.cells arr ty)) (a.put (some d) (.pointer (some ⟨W.heap.size,0,none⟩))) N (upd L d W.heap.size)
     (St.put {st with σ:=st.σ.kill d,loc:=st.loc.set d {cells:=cells,own:=own}} d (.l d 0)):=by
 have hE:=b5p (g:=g) (W:=W) hi.sh.fresh 0 (.loc d) (.cells arr ty);have hi1:=hi.new 0 (.loc d) (.cells arr ty);exact⟨g.new W 0 (.loc d),hE,hi1.setLoc hd (heap_alloc_new W _) (bg3 hE.toKeeps _ _ hl) (by simp[Gh.new,bb2]) (by simp[Gh.new,bb2]) hown⟩
theorem Inv.newLoc{d:Nat}(hd:d<N){cells:LA}{arr:Array Value}(hl:RL g W cells arr.toList){own:List (Nat×Nat)}
  (hown:∀j e,(j,e)∈own→∃sz,cells[j]? = some (.slice sz [])∧arr[j]? = some (.slice none 0 0)) (ty:TypeId) :
  ∃ g' L',Ext g W g' (W.alloc (.cells arr ty)) ∧
    Inv g' (W.alloc (.cells arr ty)) (a.put (some d) (.pointer (some ⟨W.heap.size,0,none⟩))) N L'
     (St.put {st with σ:=st.σ.kill d,loc:=st.loc.set d {cells:=cells,own:=own}} d (.l d 0)):=by
 obtain⟨g',h1,h2⟩:=hi.newLocT hd (csg hl) hown ty;exact⟨g',_,h1,h2⟩
theorem Inv.newBox{d:Nat}(hd:d<N){cells:LA}{arr:Array Value}(hl:RL g W cells arr.toList){own:List (Nat×Nat)}
  (hown:∀j e,(j,e)∈own→∃sz,cells[j]? = some (.slice sz [])∧arr[j]? = some (.slice none 0 0)) (ty:TypeId) :
  ∃ g' L',Ext g W g' (W.alloc (.cells arr ty)) ∧
    Inv g' (W.alloc (.cells arr ty)) (a.put (some d) (.pointer (some ⟨W.heap.size,0,none⟩))) N L'
     (St.put {st with S:=st.S++[{cells:=cells,own:=own}]} d (.v (.ptr st.S.length 0))):=by
 have hE0:=b5p (g:=g) (W:=W) hi.sh.fresh 0 (.box st.S.length) (.cells arr ty);have hi1:=hi.new 0 (.box st.S.length) (.cells arr ty);have hlen:=hi.sh.len
 let g1:Gh:={g.new W 0 (.box st.S.length) with B:=g.B++[W.heap.size]}
 have hB:∀(i b:Nat),g.B[i]? = some b→(g.B++[W.heap.size])[i]? = some b:=by
  intro i b hb;have hlt:i<g.B.length:=by
   rcases fk i g.B.length with h' | h'
   ·exact h'
   ·simp[fg h']at hb
  rw[dk hlt];exact hb
 have hk:Keeps (g.new W 0 (.box st.S.length)) (W.alloc (.cells arr ty)) g1 (W.alloc (.cells arr ty)):=⟨fun _=>cj _,fun _ _ _=>rfl,hB⟩;have hE:Ext g W g1 (W.alloc (.cells arr ty)):=⟨hE0.toKeeps.trans hk,hE0.size,hE0.os,hE0.tape,hE0.output,hE0.ext⟩;have same:∀b,b<(W.alloc (.cells arr ty)).heap.size→Same (g.new W 0 (.box st.S.length)) (W.alloc (.cells arr ty)) g1 (W.alloc (.cells arr ty)) b:=fun _ _=>⟨rfl,rfl,rfl⟩
 have hsh:SInv g1 (W.alloc (.cells arr ty)) (st.S++[{cells:=cells,own:=own}]):=by
  refine⟨by simp[g1,hlen],fun i x hx=>?_,hi1.sh.fresh⟩;by_cases hlt:i<st.S.length
  ·rw[dk hlt]at hx;obtain⟨b,h1,h2⟩:=hi1.sh.box i x hx;exact⟨b,hB i b h1,h2.keep hk fun b hb _=>same b hb⟩
  ·have hii:i=st.S.length:=by
    rcases fk i (st.S.length+1) with h' | h'
    ·omega
    ·simp[fg (show(st.S++[({cells:=cells,own:=own}:Bx)]).length≤i by simp;omega)]at hx
   subst hii;simp only[sq,bd]at hx;subst hx;refine⟨W.heap.size,by rw[← hlen];simp[g1],BxS.mk ?_ rfl⟩;refine⟨arr,ty,heap_alloc_new W _,bg3 hE.toKeeps _ _ (csg hl),by simp[g1,Gh.new,bb2],by simp[g1,Gh.new,bb2],fun j e hj=>?_⟩;obtain⟨sz,h1,h2⟩:=hown j e hj;exact⟨_,_,h1,h2,sz,[],rfl,.inl ⟨rfl,rfl⟩⟩
 have hi2:Inv g1 (W.alloc (.cells arr ty)) a N L {st with S:=st.S++[{cells:=cells,own:=own}]}:=
  ⟨hi1.size,fun k=>(hi1.slot k).keep hk,fun k e he=>by
   obtain⟨x,w,h1,h2⟩:=hi1.own k e he;exact⟨x,w,h1,h2.keep fun b hb _=>same b hb⟩,fun d x hx=>(hi1.loc d x hx).keep hk fun b hb _=>same b hb,hsh⟩
 refine⟨g1,L,hE,hi2.put d hd _ _ ⟨?_,rfl⟩⟩;simp only[Value.cells,R];exact⟨W.heap.size,by rw[← hlen];simp[g1],rfl⟩
theorem dgg{x:Opd}{y:Operand}(hx:bb1 x y=true){c:AV}(hc:st.av x=some c)(hd:c.isDat=true){nl:List (Nat×Nat)}(hn:bk2 (st.sv x) nl=true) :
  ∀j e,(j,e)∈nl→∃sz,c.cells[j]? = some (.slice sz [])∧(a.eval y).cells[j]? = some (.slice none 0 0):=by
 intro j e hj;have hsv:=bxp hi hx;have hl:=cjf (bb7 hi hx hc) hd;cases hq:st.sv x with
 | vn b ns=>
  rw[hq]at hn hsv;simp only[bk2,cq,fc,decide_eq_true_eq]at hn;have h1:=hsv.2 j (hn _ hj);have hlt:j<(a.eval y).cells.toList.length:=by
   have:=(db.1 h1).1;simpa using this
  have hlen:=bbv hl;obtain⟨cc,hcc⟩:∃cc,c.cells[j]? = some cc:=⟨c.cells[j]'(by omega),cz _⟩;obtain⟨v,q1,q2,q3⟩:=bsq hl hcc;have:v=.slice none 0 0:=by
   rw[fx]at q1;rw[h1]at q1;exact(bf q1).symm
  subst this;cases cc with
  | slice sz es=>
   simp only[R]at q3;obtain⟨p,cap,e1,_,e2⟩:=q3;simp only[gr,Value.slice.injEq,and_true]at e1;have:es=[]:=fh.1 e1.2.1.symm;subst this;exact⟨sz,hcc,h1⟩
  | agg cs=>cases q2
  | _=>simp[R]at q3
 | vr b ns j0=>
  rw[hq]at hn hsv;simp only[bk2,cq,fc,decide_eq_true_eq]at hn;have h1:=hsv.2 j (hn _ hj);have hlt:j<(a.eval y).cells.toList.length:=by
   have:=(db.1 h1).1;simpa using this
  have hlen:=bbv hl;obtain⟨cc,hcc⟩:∃cc,c.cells[j]? = some cc:=⟨c.cells[j]'(by omega),cz _⟩;obtain⟨v,q1,q2,q3⟩:=bsq hl hcc;have:v=.slice none 0 0:=by
   rw[fx]at q1;rw[h1]at q1;exact(bf q1).symm
  subst this;cases cc with
  | slice sz es=>
   simp only[R]at q3;obtain⟨p,cap,e1,_,e2⟩:=q3;simp only[gr,Value.slice.injEq,and_true]at e1;have:es=[]:=fh.1 e1.2.1.symm;subst this;exact⟨sz,hcc,h1⟩
  | agg cs=>cases q2
  | _=>simp[R]at q3
 | v b=>rw[hq]at hn;simp[bk2]at hn;subst hn;cases hj
 | l d o=>rw[hq]at hn;simp[bk2]at hn;subst hn;cases hj
 | junk=>rw[hq]at hn;simp[bk2]at hn;subst hn;cases hj
 | undef=>rw[hq]at hn;simp[bk2]at hn;subst hn;cases hj
 | ls d sz ag n=>rw[hq]at hn;simp[bk2]at hn;subst hn;cases hj
theorem box_ok{d:Nat}{sh:Bool}{x:Opd}{nl:List (Nat×Nat)}{t:TypeId}{y:Operand}(hx:bb1 x y=true)(hd:d<N)(hod:o.dst=some d)(ho:o.op=.box t y){st':St}{r:AEx}{rec:Rec}
  (h:aop rec st (.box d sh x nl)=some (r,st')):r=.normal∧b2g P o a g W N L st':=by
 simp only[aop]at h;split at h
 ·rename_i c hc;split at h
  ·rename_i hdat;have hl:=cjf (bb7 hi hx hc) hdat.1;have hn:=dgg hi hx hc hdat.1 hdat.2;have hr:zp P o a W (.pointer (some ⟨W.heap.size,0,none⟩)) (W.alloc (.cells (a.eval y).cells t)):=by
    simp[zp,execOp,ho,Instr.box,newVar,newRow]
   cases sh
   ·simp only[normal,if_false,ck,bd,bq]at h;obtain⟨rfl,rfl⟩:=h;obtain⟨g',L',hE,hi'⟩:=Inv.newLoc hi hd hl (own:=nl) hn t;exact⟨rfl,_,_,_,g',L',hr,.inl rfl,hE,by rw[hod];exact hi'⟩
   ·simp only[normal,if_true,bd,bq]at h;obtain⟨rfl,rfl⟩:=h;obtain⟨g',L',hE,hi'⟩:=Inv.newBox hi hd hl (own:=nl) hn t;exact⟨rfl,_,_,_,g',L',hr,.inl rfl,hE,by rw[hod];exact hi'⟩
  ·cases h
 ·cases h
def bx4(z:LA)(zv:List Value):List (Nat×Nat)→Bool
 | []=>true
 | (j,_)::r=>(match z[j]?,zv[j]? with | some (.slice _ []),some (.slice none 0 0)=>true | _,_=>false)&&bx4 z zv r
omit hi in
theorem b5m{z:LA}{zv:List Value}:∀{own:List (Nat×Nat)},bx4 z zv own=true→∀j e,(j,e)∈own→∃sz,z[j]? = some (.slice sz [])∧zv[j]? = some (.slice none 0 0)
 | [],_,j,e,hj=>by cases hj
 | (k,_)::r,h,j,e,hj=>by
  simp only[bx4,bp]at h;cases hj with
  | head=>
   have h1:=h.1;split at h1
   ·rename_i sz q1 q2;exact⟨sz,q1,q2⟩
   ·cases h1
  | tail _ hj=>exact b5m h.2 j e hj
theorem dkh{d:Nat}{sh:Bool}{z:LA}{own:List (Nat×Nat)}{t:TypeId}{zv:List Value}(hz:brb P t=some zv)(hc:bcs z zv=true)(hn:bx4 z zv own=true)
  (hd:d<N) (hod:o.dst=some d) (ho:o.op=.alloc t) {st':St} {r:AEx} {rec:Rec} (h:aop rec st (.alloc d sh z own)=some (r,st')):r=.normal∧b2g P o a g W N L st':=by
 simp only[aop]at h;unfold brb at hz;cases hit:P.info? t with
 | none=>simp[hit]at hz
 | some it=>
  cases hzz:it.zero with
  | none=>simp[hit,hzz]at hz
  | some zz=>
   simp only[hit,bb,hzz,bc,bd]at hz;subst hz;have hl:RL g W z zz.cells.toList:=bk7 hc g W;have hr:zp P o a W (.pointer (some ⟨W.heap.size,0,none⟩)) (W.alloc (.cells zz.cells t)):=by
    simp[zp,execOp,ho,Instr.alloc,newVar,newRow,zeroValue,typeInfo,hit,hzz]
   have hn':∀j e,(j,e)∈own→∃sz,z[j]? = some (.slice sz [])∧zz.cells[j]? = some (.slice none 0 0):=by
    intro j e hj;obtain⟨sz,h1,h2⟩:=b5m hn j e hj;exact⟨sz,h1,by simpa using h2⟩
   cases sh
   ·simp only[normal,if_false,ck,bd,bq]at h;obtain⟨rfl,rfl⟩:=h;obtain⟨g',L',hE,hi'⟩:=Inv.newLoc hi hd hl hn' t;exact⟨rfl,_,_,_,g',L',hr,.inl rfl,hE,by rw[hod];exact hi'⟩
   ·simp only[normal,if_true,bd,bq]at h;obtain⟨rfl,rfl⟩:=h;obtain⟨g',L',hE,hi'⟩:=Inv.newBox hi hd hl hn' t;exact⟨rfl,_,_,_,g',L',hr,.inl rfl,hE,by rw[hod];exact hi'⟩
end
end Go.Av
namespace Go.Av
open Go
theorem bht{own:List (Nat×Nat)}{off n:Nat}{p:Nat×Nat}:p∈bdj own off n↔p∈own∧¬ (off≤p.1∧p.1<off+n):=by
 simp only[bdj,jp,dr,rc,decide_eq_false_iff_not];constructor
 ·rintro⟨h1,h2⟩;exact⟨h1,by omega⟩
 ·rintro⟨h1,h2⟩;exact⟨h1,by omega⟩
section
variable{P:Program}{g:Gh}{W:World}
theorem bxb.write{b:Nat}{o:Own}{oc:Nat→Own}{x:Bx}(h:bxb g W b o oc x)(hne:o≠.ext){off:Nat}{new:LA}{vs:List Value}(hl:RL g W new vs)
  (hfit:off+new.length≤x.cells.length) {extra:List (Nat×Nat)} (hex:∀j e,(j,e)∈extra→∃i c v,j=off+i∧new[i]? = some c∧vs[i]? = some v∧bj4 g W (oc j) e c v) (hoc:∀j,o≠oc j) :
  ∃ cs ty,W.heap[b]? = some (.cells cs ty (0,0))∧off+vs.length≤cs.size ∧
    (∀W',W'=W.setRow b (cs.toList.take off++vs++cs.toList.drop (off+vs.length)).toArray →
     Ext g W g W'∧(∀c,c<W.heap.size→c≠b→Same g W g W' c)∧b<W.heap.size∧g.O b=o ∧
     bxb g W' b o oc {cells:=bdf x.cells off new,own:=extra++bdj x.own off new.length}):=by
 obtain⟨cs,ty,hb,hc,hO,hT,hr⟩:=h;have e1:=bbv hl;have e2:=bbv hc;have hsz:x.cells.length≤cs.size:=by
  simp only[dp,d5]at e2;omega
 refine⟨cs,ty,hb,by omega,?_⟩;rintro W' rfl;have hE:Ext g W (g.promise b 0) (W.setRow b _):=ckr (n:=0) (cs':=(cs.toList.take off++vs++cs.toList.drop (off+vs.length)).toArray) hb (by rw[hO];exact hne) (by omega) (fun i hi=>by omega);have hp:g.promise b 0=g:=by rw[← hT];exact cf4 g b
 rw[hp]at hE;have hsame:∀c,c<W.heap.size→c≠b→Same g W g (W.setRow b (cs.toList.take off++vs++cs.toList.drop (off+vs.length)).toArray) c:=by
  intro c hc' hcb;have:=cb4 (g:=g) (W:=W) (b:=b) (n:=0) (cs':=(cs.toList.take off++vs++cs.toList.drop (off+vs.length)).toArray) c hc' hcb
  rwa [hp]at this
 refine⟨hE,hsame,bd0 hb,hO,_,ty,setRow_heap W b cs _ ty _ hb,?_,hO,hT,fun j e hj=>?_⟩
 ·have hl2:=bg3 hE.toKeeps _ _ (b3d (b3d (bv9 hc off) hl) (bq6 hc (off+new.length)));have hlen:(bdf x.cells off new).length=x.cells.length:=by simp[bdf];omega
  have hcut:(cs.toList.take off++vs++cs.toList.drop (off+vs.length)).take x.cells.length=(cs.toList.take x.cells.length).take off++vs++(cs.toList.take x.cells.length).drop (off+new.length):=by
   rw[qq,qq,List.take_take,List.take_take,sd];simp only[dh,dp,d5];rw[show min x.cells.length off=min off x.cells.length by omega,e1,dm (l:=vs) (by omega)];congr 2;omega
  rw[hlen];show RL g _ (bdf x.cells off new) (List.take x.cells.length (cs.toList.take off++vs++cs.toList.drop (off+vs.length)));rw[hcut];exact hl2
 ·have keepR:∀{j e c v},bj4 g W (oc j) e c v→bj4 g (W.setRow b (cs.toList.take off++vs++cs.toList.drop (off+vs.length)).toArray) (oc j) e c v:=by
   intro j e c v hR;refine hR.keep fun b' hb' hO'=>hsame b' hb' fun e=>?_
   subst e;rw[hO]at hO';exact hoc j hO'
  simp only[d7]at hj;rcases hj with hj | hj
  ·obtain⟨i,c,v,rfl,hci,hvi,hR⟩:=hex j e hj;have hin:i<new.length:=(cf.1 hci).1;refine⟨c,v,?_,?_,keepR hR⟩
   ·simp only[bdf];rw[dk (by simp;omega),d9 (by simp;omega)];rw[← hci];congr 1;simp;omega
   ·rw[kz,dk (by simp;omega),d9 (by simp;omega)];rw[← hvi];congr 1;simp;omega
  ·obtain⟨hj,hnot⟩:=bht.1 hj;simp only at hnot;obtain⟨c,v,h1,h2,h3⟩:=hr j e hj;refine⟨c,v,?_,?_,keepR h3⟩
   ·simp only[bdf,rj,dp,dh,dz,fd];have:min off x.cells.length=off:=by omega
    rw[this];by_cases h4:j<off
    ·rw[if_pos (by omega),if_pos h4,if_pos h4];exact h1
    ·rw[if_neg (by omega),show off+new.length+(j - (off+new.length))=j by omega];exact h1
   ·have h2':cs.toList[j]? = some v:=by simpa using h2
    simp only[kz,rj,dp,dh,dz,fd,d5];have:min off cs.size=off:=by omega
    rw[this,e1];by_cases h4:j<off
    ·rw[if_pos (by omega),if_pos h4,if_pos h4];exact h2'
    ·rw[if_neg (by omega),show off+new.length+(j - (off+new.length))=j by omega];exact h2'
end
section
variable{P:Program}{g:Gh}{W:World}{a:Act}{N:Nat}{L:Nat→Nat}{st:St}(hi:Inv g W a N L st)(o:Oper)
include hi
theorem db9{s:SV}{u:Value}(hs:SVR g W L s u){new:LA}{vs:List Value}(hl:RL g W new vs){nl:List (Nat×Nat)}(hnl:∀p∈nl,vs[p.1]? = some (.slice none 0 0)){q:Option (Nat×Nat)}
  (hq:∀j e,q=some (j,e)→∃k c v,new[j]? = some c∧vs[j]? = some v∧(∀e',(k,e')∉st.own)∧bj4 g W (.slot k) e c v) {st':St} (h:bgb st s new q nl=some st') :
  ∃b off g' W',u=.pointer (some ⟨b,off,none⟩)∧(storeCells ⟨b,off,none⟩ vs).run P W=.ok () W'∧Ext g W g' W'∧Inv g' W' a N L st':=by
 have h1:=dcv hl;have key:∀(oc:Nat→Own) (off:Nat),∃g',Ext g W g' W∧g'.B=g.B∧Inv g' W a N L st ∧
   (∀j e,(j,e)∈(bt1 off q++nl.map fun p=>(off+p.1,p.2))→∃i c v,j=off+i∧new[i]? = some c∧vs[i]? = some v∧bj4 g' W (oc j) e c v):=by
  intro oc off;have nils:∀(g':Gh) j e,(j,e)∈(nl.map fun p=>(off+p.1,p.2))→∃i c v,j=off+i∧new[i]? = some c∧vs[i]? = some v∧bj4 g' W (oc j) e c v:=by
   intro g' j e hj;simp only[mg,bq]at hj;obtain⟨p,hp,rfl,rfl⟩:=hj;have hv:=hnl p hp;have hlt:p.1<new.length:=by
    have:=(cf.1 hv).1;rw[bbv hl]at this;exact this
   obtain⟨v,hv2,hc,hR⟩:=bsq hl (show new[p.1]? = some new[p.1] by simp[hlt]);rw[hv]at hv2;obtain rfl:=bf hv2;refine⟨p.1,new[p.1],_,rfl,by simp[hlt],hv,?_⟩;have:∃sz,new[p.1]=.slice sz []:=by
    revert hR hc
    cases new[p.1] with
    | slice sz es=>
     intro _ hR;simp only[R]at hR;obtain⟨p',cap,e5,_,_⟩:=hR;simp only[gr,Value.slice.injEq,and_true]at e5;have:es=[]:=ft e5.2.1.symm;exact⟨sz,by rw[this]⟩
    | agg cs=>intro hc _;simp[AV.isCell]at hc
    | _=>intro _ hR;simp[R]at hR
   obtain⟨sz,e3⟩:=this;rw[e3];exact⟨sz,[],rfl,.inl ⟨rfl,rfl⟩⟩
  cases hqq:q with
  | none=>exact⟨g,Ext.refl g W,rfl,hi,fun j e hj=>nils g j e (by simpa[bt1] using hj)⟩
  | some je=>
   obtain⟨j0,e⟩:=je;obtain⟨k,c,v,e1,e2,hno,hr⟩:=hq j0 e hqq;obtain⟨g',hE,hB,hi',hr'⟩:=hi.giveRight (bkt hno) (by simp) hr (oc (off+j0));refine⟨g',hE,hB,hi',fun j e' hj=>?_⟩;simp only[bt1,d7,ff,bq]at hj;rcases hj with⟨rfl,rfl⟩ | hj
   ·exact⟨j0,c,v,rfl,e1,e2,hr'⟩
   ·exact nils g' j e' hj
 unfold bgb at h;dsimp only at h;split at h
 ·rename_i d off;split at h
  ·rename_i bx hbx;split at h
   ·rename_i hfit;simp only[bc,bd]at h;subst h;obtain⟨g',hE0,hB0,hi',hex⟩:=key (fun j=>.lcell d j) off;have hl':=bg3 hE0.toKeeps _ _ hl;obtain⟨cs,ty,hb,hle,hw⟩:=(hi'.loc d bx hbx).write (by simp) hl' hfit hex (by simp);have hrun:=run_storeCells_at P (L d) off ty vs 0 cs W hb (by omega) h1;simp only[jt]at hrun;obtain⟨hE,hsame,hlt,hOb,hbi⟩:=hw _ rfl;refine⟨L d,off,g',_,hs,hrun,hE0.trans hE,?_⟩;have hi0:Inv g' W a N L {st with loc:=st.loc.del d}:=hi'.sub rfl (fun _ h=>h) (fun d' x hx=>by
      rw[bc8.get_del]at hx;split at hx
      ·cases hx
      ·exact⟨x,hx,x.le_refl⟩) rfl (fun _ x hx=>⟨x,hx,x.le_refl⟩)
    have hi1:=hi0.keepX hE.toKeeps rfl (.loc d) (fun c hc hco=>hsame c hc fun e=>by subst e;exact hco hOb) (by
      intro c hc;rw[setRow_size]at hc;exact hi'.sh.fresh c hc) (b73 (by simp[bc8.get_del]))
    refine⟨hi1.size,hi1.slot,hi1.own,fun d' x hx=>?_,hi1.sh⟩;rw[bc8.get_set]at hx;split at hx
    ·rename_i e;subst e;simp only[bd]at hx;subst hx;exact hbi.sub ⟨rfl,fun p hp=>bvk.1 hp,rfl⟩
    ·rename_i e;exact hi1.loc d' x (by simp[bc8.get_del,e,hx])
   ·simp at h
  ·cases h
 ·rename_i i off;split at h
  ·rename_i bx hbx0;obtain⟨hbx,hmap⟩:=bsc hbx0;split at h
   ·rename_i hfit;simp only[bc,bd]at h;subst h;obtain⟨g',hE0,hB0,hi',hex⟩:=key (fun j=>.cell i j) off;have hl':=bg3 hE0.toKeeps _ _ hl;obtain⟨b,hBb,hbs'⟩:=hi'.sh.box i bx hbx;have hbx':=hbs'.of hmap;obtain⟨cs,ty,hb,hle,hw⟩:=hbx'.write (by simp) hl' hfit hex (by simp);have hu:u=.pointer (some ⟨b,off,none⟩):=by
     have h2:=bcg hs rfl;simp only[R]at h2;obtain⟨b',hb',e⟩:=h2;rw[hB0,hb']at hBb;obtain rfl:b'=b:=by simpa using hBb
     simpa using e
    have hrun:=run_storeCells_at P b off ty vs 0 cs W hb (by omega) h1;simp only[jt]at hrun;obtain⟨hE,hsame,hlt,hOb,hbi⟩:=hw _ rfl;refine⟨b,off,g',_,hu,hrun,hE0.trans hE,?_⟩;refine⟨hi'.size,fun k=>(hi'.slot k).keep hE.toKeeps,fun k e hk=>?_,fun d x hx=>(hi'.loc d x hx).keep hE.toKeeps fun c hc hco=>hsame c hc fun e=>?_,by simpa using hi'.sh.len,fun i' x hx=>?_,fun c hc=>?_⟩
    ·obtain⟨x,w,q1,q2⟩:=hi'.own k e hk;exact⟨x,w,q1,q2.keep fun c hc hO=>hsame c hc fun e=>by subst e;rw[hOb]at hO;cases hO⟩
    ·subst e;rw[hOb]at hco;rcases hco with hco | ⟨_,_,_,hco⟩<;>cases hco
    ·rw[pf]at hx;split at hx
     ·rename_i e;subst e;split at hx
      ·simp only[bd]at hx;subst hx;exact⟨b,hBb,BxS.mk (hbi.sub ⟨rfl,fun p hp=>bvk.1 hp,rfl⟩) rfl⟩
      ·cases hx
     ·rename_i e;obtain⟨b',q1,q2⟩:=hi'.sh.box i' x hx;refine⟨b',q1,q2.keep hE.toKeeps fun c hc hO=>hsame c hc fun ec=>?_⟩;subst ec;rw[hOb]at hO;rcases hO with hO | ⟨_,_,_,hO⟩
      ·cases hO;exact e rfl
      ·cases hO
    ·rw[setRow_size]at hc;exact hi'.sh.fresh c hc
   ·simp at h
  ·cases h
 ·cases h
theorem dfc{x y:Opd}{n:Nat}{take:Bool}{nl:List (Nat×Nat)}{t:TypeId}{x' y':Operand}(hx:bb1 x x'=true)(hy:bb1 y y'=true)(hsz:bxg P t=some n)(hod:o.dst=none)
  (ho:o.op=.store t x' y') {st':St} {r:AEx} {rec:Rec} (h:aop rec st (.store x y n take nl)=some (r,st')):r=.normal∧b2g P o a g W N L st':=by
 simp only[aop]at h;split at h
 ·rename_i c hc;split at h
  ·rename_i hb;obtain⟨⟨hdat,hn⟩,hnil⟩:=hb;have hRV:=bb7 hi hy hc;have hnl:∀p∈nl,(a.eval y').cells.toList[p.1]? = some (.slice none 0 0):=by
    intro p hp;have hs:=bxp hi hy;cases hq:st.sv y with
    | vn b ns=>
     rw[hq]at hnil hs;simp only[bk2,cq,fc,decide_eq_true_eq]at hnil;simpa using hs.2 p.1 (hnil p hp)
    | vr b ns j0=>
     rw[hq]at hnil hs;simp only[bk2,cq,fc,decide_eq_true_eq]at hnil;simpa using hs.2 p.1 (hnil p hp)
    | v b=>rw[hq]at hnil;simp[bk2]at hnil;subst hnil;cases hp
    | l d o=>rw[hq]at hnil;simp[bk2]at hnil;subst hnil;cases hp
    | junk=>rw[hq]at hnil;simp[bk2]at hnil;subst hnil;cases hp
    | undef=>rw[hq]at hnil;simp[bk2]at hnil;subst hnil;cases hp
    | ls d sz ag n=>rw[hq]at hnil;simp[bk2]at hnil;subst hnil;cases hp
   have hl:=cjf hRV hdat;have hlen:=bbv hl;have fin:∀{st0:St} (hi0:Inv g W a N L st0) (hsv:st0.sv x=st.sv x) {q:Option (Nat×Nat)}
     (hq:∀j e,q=some (j,e)→∃k c' v,c.cells[j]? = some c'∧(a.eval y').cells.toList[j]? = some v∧(∀e',(k,e')∉st0.own)∧bj4 g W (.slot k) e c' v),
     (bgb st0 (st.sv x) c.cells q nl).bind normal=some (r,st')→r=.normal∧b2g P o a g W N L st':=by
    intro st0 hi0 hsv q hq h;cases hst:bgb st0 (st.sv x) c.cells q nl with
    | none=>simp[hst]at h
    | some st1=>
     simp only[hst,bb,normal,bd,bq]at h;obtain⟨rfl,rfl⟩:=h;obtain⟨b,off,g',W',hu,hrun,hE,hi'⟩:=db9 (P:=P) hi0 (bxp hi hx) hl hnl hq hst;have hcs:(a.eval y').cells.size=n:=by rw[← d5,hlen,hn]
     refine⟨rfl,.skip,undef,W',g',L,?_,.inr ⟨rfl,rfl⟩,hE,by rw[hod];exact hi'⟩;simp[execOp,ho,Instr.storeAt,hu,Instr.sureAddr,storeVar,bdc hsz,hcs,hrun]
   split at h
   ·rename_i k;split at h
    ·rename_i e hro;have ey:y'=.tmp k:=by
      unfold bb1 at hy;split at hy<;>simp_all
     have hmem:=bdq hro;obtain⟨xv,w,h1,h2⟩:=hi.own k e hmem;have hi0:=hi.subOwn (st.drop k) fun p hp=>(bjc.1 hp).1
     have hno:∀e',(k,e')∉st.drop k:=fun e he=>by simpa using(bjc.1 he).2
     split at h
     ·split at h
      ·rename_i b ns j0 hvr;refine fin hi0 (by cases x<;>rfl) (q:=some (j0,e)) (fun j' e' he'=>?_) h;simp only[bd,bq]at he';obtain⟨rfl,rfl⟩:=he';rcases SV.part_agg h1 with⟨x0,q1,_⟩ | ⟨cs,ns',j1,x1,w1,q1,q2,q3,q4⟩
       ·rw[hvr]at q1;cases q1
       ·rw[hvr]at q1;simp only[SV.vr.injEq]at q1;obtain⟨rfl,rfl,rfl⟩:=q1;simp only[bq]at q2;obtain⟨rfl,rfl⟩:=q2;have ec:c=.agg cs:=by
         simp only[St.av,St.sv,hvr,SV.av,bd]at hc;exact hc.symm
        subst ec;refine⟨k,xv,w,q3,?_,hno,h2⟩;rw[ey,fx];exact q4
      ·cases h
     ·rename_i hag;have hxc:c=xv∧w=a.tmps.getD k undef:=by
       rcases SV.part_agg h1 with⟨x0,q1,q2⟩ | ⟨cs,ns',j1,x1,w1,q1,q2,q3,q4⟩
       ·simp only[bq]at q2;obtain⟨rfl,rfl⟩:=q2;simp only[St.av,St.sv,q1,SV.av,bd]at hc;exact⟨hc.symm,rfl⟩
       ·simp only[St.av,St.sv,q1,SV.av,bd]at hc;subst hc;exact absurd rfl hag
      obtain⟨rfl,rfl⟩:=hxc;have hcell:c.isCell=true:=by
       obtain⟨sz,es,rfl,_⟩:=h2;rfl
      obtain⟨e1,_,_⟩:=RV_one hRV hcell;refine fin hi0 (by cases x<;>rfl) (q:=some (0,e)) (fun j' e' he'=>?_) h;simp only[bd,bq]at he';obtain⟨rfl,rfl⟩:=he';refine⟨k,c,a.eval y',by rw[bzz hcell];rfl,by rw[e1];rfl,hno,?_⟩;rw[ey];exact h2
    ·exact fin hi rfl (fun j e he=>by cases he) h
   ·exact fin hi rfl (fun j e he=>by cases he) h
  ·cases h
 ·cases h
omit hi in
theorem bz5{st:St}:∀{xs ys:List (Nat×Nat×Opd)} {z:LA},bgd st z (xs++ys)=(bgd st z xs).bind fun z'=>bgd st z' ys
 | [],ys,z=>by simp[bgd]
 | (off,n,x)::xs,ys,z=>by
  simp only[dv,bgd];split
  ·split
   ·exact bz5
   ·rfl
  ·rfl
omit hi in
theorem cpg{st:St}{xs:List (Nat×Nat×Opd)}{j:Nat}{x:Opd}{z cs:LA}{c:AV}(h:bgd st z (xs++[(j,1,x)])=some cs)(hx:st.av x=some c)(hc:c.cells=[c]):cs[j]? = some c:=by
 rw[bz5]at h;obtain⟨z',h1,h2⟩:=bg.1 h;simp only[bgd,hx,hc]at h2;split at h2
 ·rename_i hb;obtain⟨_,_,hle⟩:=hb;obtain rfl:=bf h2;unfold bdf;rw[gq,d9 (by rw[dp];omega)];simp only[dp];rw[show j - min j z'.length=0 by omega];rfl
 ·cases h2
theorem dbx{d j k:Nat}{z:LA}{xs:List (Nat×Nat×Opd)}{t:TypeId}{ys:Array (Nat×Operand)}{pl:Nat→Option (Nat×Nat)}{zv:List Value}(hpl:bst P t=some pl)(hz:brb P t=some zv)
  (hc:bcs z zv=true) (hm:bt3 pl (xs++[(j,1,.s k)]) ys.toList=true) (ho:o.op=.build t ys) (hd:d<N) (hod:o.dst=some d) {st':St} {r:AEx} {rec:Rec}
  (h:aop rec st (.buildR d z xs j k)=some (r,st')):r=.normal∧b2g P o a g W N L st':=by
 simp only[aop]at h;split at h
 ·rename_i xv e cs hσ hro hq;simp only[normal,bd,bq]at h;obtain⟨rfl,rfl⟩:=h;refine⟨rfl,?_⟩;obtain⟨arr',hr,hRV,hn,hl⟩:=b9p hi o hpl hz hc hm ho hq;obtain⟨x,w,h1,h2⟩:=hi.own k e (bdq hro);rw[hσ]at h1;simp only[SV.part,bd,bq]at h1;obtain⟨rfl,rfl⟩:=h1;have hw:(a.eval (.tmp k)).cells.toList=[a.tmps.getD k undef]:=by
   obtain⟨sz,es,rfl,⟨e1,_⟩ | ⟨b,cap,cur,e1,_⟩⟩:=h2<;>(show(a.tmps.getD k undef).cells.toList=_;rw[e1];rfl)
  have hcell:=hl j k _ (by simp) hw;have hlt:j<cs.length:=by
   have h3:=bbv (show RL g W cs arr'.toList by simpa[R,Value.cells] using hRV.1);have h4:=(db.1 hcell).1;simp at h3;omega
  have hx:cs[j]? = some xv:=by
   refine cpg hq (by simp[St.av,St.sv,hσ,SV.av]) ?_;obtain⟨sz,es,rfl,_⟩:=h2;rfl
  have hi0:=hi.subOwn (st.drop k) fun p hp=>(bjc.1 hp).1
  obtain⟨g',hE,hB,hi1,hr1⟩:=hi0.giveRight (o:=.slot k) (bkt fun e he=>by simpa using(bjc.1 he).2) (by simp) h2 (.slot d);have hs1:SVR g' W L (.vr (.agg cs) (br0 z (xs++[(j,1,.s k)])) j) (.agg arr'):=⟨bdx hE.toKeeps hRV,hn⟩;have hi2:=hi1.put d hd _ (.agg arr') hs1;refine⟨_,.agg arr',W,g',L,hr,.inl rfl,hE,?_⟩;rw[hod];refine Inv.rightP hi2 (x:=xv) (w:=a.tmps.getD k undef) ?_ hr1;rw[bjb (by rw[hi.size];exact hd)];simp only[zq.get_set,if_true,SV.part,hx,Value.cells,hcell]
 ·cases h
end
end Go.Av
namespace Go.Av
open Go
section
variable{P:Program}{g:Gh}{W:World}{a:Act}{N:Nat}{L:Nat→Nat}{st:St}(hi:Inv g W a N L st)(o:Oper)
include hi
omit hi in
theorem b2m{t:TypeId}(hag:b0g P t=some false){b off:Nat}{cs:Array Value}{ty:TypeId}{fr:Nat×Nat}(hb:W.heap[b]? = some (.cells cs ty fr)){v:Value}(hv:cs[off]? = some v) :
  (loadVar t ⟨b,off,none⟩).run P W=.ok v W:=by
 have:W.cell? ⟨b,off,none⟩=some v:=by rw[cell_of_row W b off cs ty fr hb];exact hv
 simp[loadVar,bpq hag,this]
theorem dpv{d:Nat}{x:Opd}{t:TypeId}{x':Operand}(hx:bb1 x x'=true)(hag:b0g P t=some false)(hd:d<N)(hod:o.dst=some d)
  (ho:o.op=.load t x') {st':St} {r:AEx} {rec:Rec} (h:aop rec st (.take d x)=some (r,st')):r=.normal∧b2g P o a g W N L st':=by
 have hsv:=bxp hi hx;have fin:∀{st0:St} (hi0:Inv g W a N L st0) {ow:Own} (hu:Unused st0 ow) (hne:ow≠.ext) {b off:Nat} {cs:Array Value} {ty:TypeId} (hb:W.heap[b]? = some (.cells cs ty (0,0)))
   (he:a.eval x'=.pointer (some ⟨b,off,none⟩)) {v:Value} (hv:cs[off]? = some v) {c:AV} {e:Nat} (hc:RV g W c v) (hR:bj4 g W ow e c v),
   b2g P o a g W N L ((st0.put d (.v c)).right d e):=by
  intro st0 hi0 ow hu hne b off cs ty hb he v hv c e hc hR;obtain⟨g',hE,hB,hi1,hR'⟩:=hi0.giveRight hu hne hR (.slot d);have hi2:=hi1.put d hd (.v c) v (bdx hE.toKeeps hc);refine⟨_,v,W,g',L,?_,.inl rfl,hE,?_⟩
  ·simp[execOp,ho,Instr.loadAt,he,Instr.sureAddr,b2m hag hb hv]
  ·rw[hod];refine Inv.right hi2 (x:=c) (by simp[zq.get_set]) ?_;rw[bjb (by rw[hi.size];exact hd)];exact hR'
 have plain:∀{b off:Nat} {cs:Array Value} {ty:TypeId} (hb:W.heap[b]? = some (.cells cs ty (0,0))) (he:a.eval x'=.pointer (some ⟨b,off,none⟩)) {v:Value} (hv:cs[off]? = some v) {c:AV} (hc:RV g W c v),
   b2g P o a g W N L (st.put d (.v c)):=by
  intro b off cs ty hb he v hv c hc;refine bjm hi o hd hod (v:=v) ?_ hc;simp[zp,execOp,ho,Instr.loadAt,he,Instr.sureAddr,b2m hag hb hv]
 simp only[aop]at h;split at h
 ·rename_i b off hs;rw[hs]at hsv;split at h
  ·rename_i bx hbx;obtain⟨cs,ty,hb,hl,hO,hT,hr⟩:=hi.loc b bx hbx;split at h
   ·rename_i c e hc he;simp only[normal,bd,bq]at h;obtain⟨rfl,rfl⟩:=h;obtain⟨c',v,q1,q2,q3⟩:=hr off e (bdq he);obtain rfl:c'=c:=by rw[q1]at hc;simpa using hc
    obtain⟨v',q4,q5,q6⟩:=bsq hl q1;obtain rfl:v'=v:=by
     rw[dz]at q4;split at q4
     ·rw[fx,q2]at q4;simpa using q4.symm
     ·cases q4
    have hi0:Inv g W a N L {st with loc:=st.loc.set b {bx with own:=bdj bx.own off 1}}:=
     hi.sub rfl (fun _ h=>h) (fun d' x hx=>by
      rw[bc8.get_set]at hx;split at hx
      ·rename_i e1;subst e1;simp only[bd]at hx;subst hx;exact⟨bx,hbx,rfl,fun p hp=>(bht.1 hp).1,rfl⟩
      ·exact⟨x,hx,x.le_refl⟩) rfl (fun _ x hx=>⟨x,hx,x.le_refl⟩)
    refine⟨rfl,fin hi0 (ow:=.lcell b off) (b2h fun x hx e' he'=>?_) (by simp) hb hsv q2 (bh5 q6 q5) q3⟩;rw[bc8.get_set,if_pos rfl]at hx;simp only[bd]at hx;subst hx;exact(bht.1 he').2 ⟨cj _,by simp⟩
   ·rename_i c hc he;simp only[normal,bd,bq]at h;obtain⟨rfl,rfl⟩:=h;obtain⟨v,q4,q5,q6⟩:=bsq hl hc;rw[dz]at q4;split at q4
    ·exact⟨rfl,plain hb hsv (by simpa using q4) (bh5 q6 q5)⟩
    ·cases q4
   ·cases h
  ·cases h
 ·rename_i i off hs;rw[hs]at hsv;split at h
  ·rename_i bx hbx0;obtain⟨hbx,hmap⟩:=bsc hbx0;obtain⟨b,hBb,hbs⟩:=hi.sh.box i bx hbx;obtain⟨cs,ty,hb,hl,hO,hT,hr⟩:=hbs.of hmap;have hu:a.eval x'=.pointer (some ⟨b,off,none⟩):=by
    have h2:=bcg hsv rfl;simp only[R]at h2;obtain⟨b',hb',e⟩:=h2;rw[hb']at hBb;obtain rfl:b'=b:=by simpa using hBb
    simpa using e
   split at h
   ·rename_i c e hc he;simp only[normal,bd,bq]at h;obtain⟨rfl,rfl⟩:=h;obtain⟨c',v,q1,q2,q3⟩:=hr off e (bdq he);obtain rfl:c'=c:=by rw[q1]at hc;simpa using hc
    obtain⟨v',q4,q5,q6⟩:=bsq hl q1;obtain rfl:v'=v:=by
     rw[dz]at q4;split at q4
     ·rw[fx,q2]at q4;simpa using q4.symm
     ·cases q4
    have hi0:Inv g W a N L {st with S:=st.S.set i {bx with own:=bdj bx.own off 1}}:=
     hi.sub rfl (fun _ h=>h) (fun _ x hx=>⟨x,hx,x.le_refl⟩) (by simp) (fun i' x hx=>by
      rw[pf]at hx;split at hx
      ·rename_i e1;subst e1;split at hx
       ·simp only[bd]at hx;subst hx;exact⟨bx,hbx,rfl,fun p hp=>(bht.1 hp).1,rfl⟩
       ·cases hx
      ·exact⟨x,hx,x.le_refl⟩)
    refine⟨rfl,fin hi0 (ow:=.cell i off) (cj3 fun x hx e' he'=>?_) (by simp) hb hu q2 (bh5 q6 q5) q3⟩;rw[pf,if_pos rfl]at hx;split at hx
    ·simp only[bd]at hx;subst hx;exact(bht.1 he').2 ⟨cj _,by simp⟩
    ·cases hx
   ·rename_i c hc he;simp only[normal,bd,bq]at h;obtain⟨rfl,rfl⟩:=h;obtain⟨v,q4,q5,q6⟩:=bsq hl hc;rw[dz]at q4;split at q4
    ·exact⟨rfl,plain hb hu (by simpa using q4) (bh5 q6 q5)⟩
    ·cases q4
   ·cases h
  ·cases h
 ·cases h
theorem Inv.newRow{d e:Nat}(hd:d<N){sz:Nat}{es:LA}{ms:List Value}(hE:RE g W sz es ms){cur:Array Value}{cap:Nat}(hcap:es.length≤cap)(hmax:cap≤maxLen)(hcur:cur.size=cap*sz)
  (htake:∀(j:Nat) v,ms[j]? = some v→cur[j]? = some v) :
  ∃g',Ext g W g' (W.alloc (.cells cur e))∧Inv g' (W.alloc (.cells cur e)) (a.put (some d) (.slice (some ⟨W.heap.size,0,none⟩) es.length cap)) N L ((st.put d (.v (.slice sz es))).right d e):=by
 have hX:=b5p (g:=g) (W:=W) hi.sh.fresh (es.length*sz) (.slot d) (.cells cur e);have hi1:=hi.new (es.length*sz) (.slot d) (.cells cur e);have hml:=bd3 hE;have hs:SVR (g.new W (es.length*sz) (.slot d)) (W.alloc (.cells cur e)) L (.v (.slice sz es)) (.slice (some ⟨W.heap.size,0,none⟩) es.length cap):=by
  refine bgf hcap (.inr ⟨W.heap.size,0,ms,rfl,?_,by simp[Gh.new,bb2,hml],btk hX.toKeeps _ _ _ hE⟩);intro j v hj;rw[dt,cell_of_row _ _ _ _ _ _ (heap_alloc_new W _)];exact htake j v hj
 have hi2:=hi1.put d hd _ _ hs;refine⟨_,hX,Inv.right hi2 (x:=.slice sz es) (by simp[St.put,zq.get_set]) ?_⟩;rw[bjb (by rw[hi.size];exact hd)];exact⟨sz,es,rfl,.inr ⟨W.heap.size,cap,cur,rfl,heap_alloc_new W _,hcap,hmax,hcur,by simp[Gh.new,bb2],by simp[Gh.new,bb2]⟩⟩
def b5t:Nat→List Opd→List (Nat×Operand)→Bool
 | _,[],[]=>true
 | k,x::xs,(i,y)::ys=>i==k&&bb1 x y&&b5t (k+1) xs ys
 | _,_,_=>false
theorem b54{sz:Nat}:∀{k:Nat} {xs:List Opd} {ys:List (Nat×Operand)} (hm:b5t k xs ys=true) {as:LA} (ha:st.avs xs=some as) (hall:as.all (fun c=>c.isDat&&c.cells.length==sz)=true)
  {arr:Array Value} (hsz:(k+xs.length)*sz≤arr.size),
  ∃arr' ms,Instr.fill (fun i=>some (i*sz,sz)) arr (ys.map fun p=>(p.1,a.eval p.2))=some arr'∧RE g W sz as ms∧arr'.toList=arr.toList.take (k*sz)++ms++arr.toList.drop ((k+xs.length)*sz)
 | k,[],[],_,as,ha,hall,arr,hsz=>by
  simp only[St.avs,bd]at ha;subst ha;exact⟨arr,[],rfl,by simp[RE],by simp⟩
 | k,[],_::_,hm,_,_,_,_,_=>by simp[b5t]at hm
 | k,_::_,[],hm,_,_,_,_,_=>by simp[b5t]at hm
 | k,x::xs,(i,y)::ys,hm,as,ha,hall,arr,hsz=>by
  simp only[b5t,bp,beq_iff_eq]at hm;obtain⟨⟨rfl,hx⟩,hm⟩:=hm;simp only[St.avs]at ha;split at ha
  ·rename_i c cs hc hcs;obtain rfl:=(bf ha).symm;simp only[tj,bp,beq_iff_eq]at hall;obtain⟨⟨hdat,hlen⟩,hall⟩:=hall;have hRV:=bb7 hi hx hc;have hl:=cjf hRV hdat;have hvl:=bbv hl;have hcsz:(a.eval y).cells.size=sz:=by rw[← d5,hvl,hlen]
   have hle:(i+1+xs.length)*sz≤arr.size:=by simpa[tf,jg 1] using hsz
   have hi1:(i+1)*sz≤arr.size:=dg (dq _ (by omega)) hle;have hi1':i*sz+sz≤arr.size:=by rwa [jc,qj]at hi1
   let arr1:=(a.eval y).cells.zipIdx.foldl (fun cs (p:Value×Nat)=>cs.setIfInBounds (i*sz+p.2) p.1) arr
   have harr1:arr1.toList=arr.toList.take (i*sz)++(a.eval y).cells.toList++arr.toList.drop (i*sz+sz):=by
    have:=cc2 (a.eval y).cells.toList (i*sz) 0 arr (by simp[hcsz];omega);simp only[arr1];rw[← sk,r7,this];simp[hcsz]
   have hsz1:arr1.size=arr.size:=by
    rw[← d5,harr1];simp[hcsz];omega
   obtain⟨arr',ms,h1,h2,h3⟩:=b54 hm hcs hall (arr:=arr1) (by rw[hsz1];exact hle);refine⟨arr',(a.eval y).cells.toList++ms,?_,?_,?_⟩
   ·simp only[cr,Instr.fill,hcsz];rw[if_neg (by simp;omega)];exact h1
   ·simp only[RE];exact⟨_,ms,rfl,by simp[hcsz],⟨hdat,hRV.1⟩,h2⟩
   ·have e1:arr1.toList.take ((i+1)*sz)=arr.toList.take (i*sz)++(a.eval y).cells.toList:=by
     have hl1:(arr.toList.take (i*sz)++(a.eval y).cells.toList).length=(i+1)*sz:=by
      simp[hcsz,jc];omega
     rw[harr1,← hl1,List.take_left]
    have e2:arr1.toList.drop ((i+1+xs.length)*sz)=arr.toList.drop ((i+(xs.length+1))*sz):=by
     have hl1:(arr.toList.take (i*sz)++(a.eval y).cells.toList).length=i*sz+sz:=by
      simp[hcsz];omega
     have e3:(i+1+xs.length)*sz=i*sz+sz+xs.length*sz:=by simp[jc]
     have e4:(i+(xs.length+1))*sz=i*sz+sz+xs.length*sz:=by simp[jc];omega
     rw[harr1,e3,e4,← fz,← hl1,vk,hl1,fz]
    rw[h3,e1,e2];simp
  ·cases ha
theorem dbz{d sz e:Nat}{xs:List Opd}{t:TypeId}{ys:Array (Nat×Operand)}{zv:List Value}(ht:P.underlying t=some (.slice e))(hsz:bxg P e=some sz)(hz:brb P e=some zv)
  (hm:b5t 0 xs ys.toList=true) (hbig:xs.length*sz≤2 ^ 24) (hpos:0<sz) (hd:d<N) (hod:o.dst=some d) (ho:o.op=.buildSlice t xs.length ys) {st':St} {r:AEx} {rec:Rec}
  (h:aop rec st (.bslice d sz e xs)=some (r,st')):r=.normal∧b2g P o a g W N L st':=by
 simp only[aop]at h;split at h
 ·rename_i as ha;split at h
  ·rename_i hall;simp only[normal,bd,bq]at h;obtain⟨rfl,rfl⟩:=h;unfold brb at hz;cases hit:P.info? e with
   | none=>simp[hit]at hz
   | some it=>
    cases hzz:it.zero with
    | none=>simp[hit,hzz]at hz
    | some zz=>
     have hal:as.length=xs.length:=by
      clear hm hbig ho hall
      induction xs generalizing as with
      | nil=>simp[St.avs]at ha;subst ha;rfl
      | cons x xs ih=>
       simp only[St.avs]at ha;split at ha
       ·rename_i c cs _ hcs;obtain rfl:=(bf ha).symm;simp[ih cs hcs]
       ·cases ha
     have key:∀arr0:Array Value,arr0.size=xs.length*sz→∃arr',Instr.fill (fun i=>some (i*sz,sz)) arr0 (ys.toList.map fun p=>(p.1,a.eval p.2))=some arr'∧RE g W sz as arr'.toList:=by
      intro arr0 h0;obtain⟨arr',ms,h1,h2,h3⟩:=b54 hi hm ha hall (arr:=arr0) (by simp[h0]);refine⟨arr',h1,?_⟩;have hml:=bd3 h2;have:arr'.toList=ms:=by
       rw[h3];simp[List.drop_of_length_le,h0]
      rw[this];exact h2
     have hsz':it.size=sz:=by simpa[bxg,hit] using hsz
     refine⟨rfl,?_⟩;have hmax:as.length≤maxLen:=by
      have h1:as.length≤as.length*sz:=pz _ hpos;rw[hal]at h1 ⊢;unfold maxLen;omega
     have fin:∀arr':Array Value,RE g W sz as arr'.toList→(Instr.buildSlice t xs.length (ys.map fun p=>(p.1,a.eval p.2))).run P W=.ok (.slice (some ⟨W.heap.size,0,none⟩) xs.length xs.length) (W.alloc (.cells arr' e)) →
       b2g P o a g W N L ((st.put d (.v (.slice sz as))).right d e):=by
      intro arr' h2 hrun;have hml:=bd3 h2;obtain⟨g',hE,hi'⟩:=Inv.newRow hi hd (e:=e) h2 (cur:=arr') (cap:=as.length) (cj _) hmax (by rw[← d5,hml]) (fun j v hj=>by simpa using hj);rw[hal]at hi';refine⟨_,_,_,g',L,?_,.inl rfl,hE,by rw[hod];exact hi'⟩;simp[execOp,ho,hrun]
     have hp:ys.toList.map (fun p=>(p.1,a.eval p.2))=(ys.map fun p=>(p.1,a.eval p.2)).toList:=by simp
     by_cases h0:xs.length*sz=0
     ·obtain⟨arr',h1,h2⟩:=key (Array.map (fun _=>default) (Array.range 0)) (by simp[h0]);refine fin arr' h2 ?_;simp only[Instr.buildSlice,Sem.run_bind,run_underlying ht,Result.andThen_ok,bdc hsz,h0];simp only[show ¬ (0 > 2 ^ 24) by omega,if_false,if_true,Sem.run_pure,Result.andThen_ok,Sem.run_bind];simp[newRow];rw[h1];simp
     ·obtain⟨arr',h1,h2⟩:=key ((Array.range (xs.length*sz)).map (zz.cells[· % zz.cells.size]!)) (by simp);refine fin arr' h2 ?_;rw[hp]at h1;simp only[Instr.buildSlice,Sem.run_bind,run_underlying ht,Result.andThen_ok,bdc hsz];have hz1:(zeroValue e).run P W=.ok zz W:=by simp[zeroValue,typeInfo,hit,hzz]
      simp only[show ¬ (xs.length*sz > 2 ^ 24) by omega,h0,if_false,Sem.run_pure,Result.andThen_ok,Sem.run_bind,hz1];rw[h1];simp[newRow]
  ·cases h
 ·cases h
end
end Go.Av
namespace Go.Av
open Go
section
variable{P:Program}{g:Gh}{W:World}{a:Act}{N:Nat}{L:Nat→Nat}{st:St}
theorem dkk{l:LU}:RE g W 1 (l.map fun b=>.int .u8 b.toNat) (l.map fun b=>Value.int .u8 b.toNat):=by
 induction l with
 | nil=>simp[RE]
 | cons b l ih=>
  simp only[cr,RE];exact⟨[.int .u8 b.toNat],_,rfl,rfl,⟨rfl,by simp[R]⟩,ih⟩
theorem dk4{c:AV}{sz:Nat}{ys:LA}(hc:bqb c=some (sz,ys)){u:Value}(hR:RV g W c u){tx:TypeId}(hk:(∃e,P.underlying tx=some (.slice e))∨P.underlying tx=some .string) :
  ∃news,Src P sz tx u ys.length news W∧RE g W sz ys news:=by
 unfold bqb at hc;split at hc
 ·rename_i sz' ys';simp only[bd,bq]at hc;obtain⟨rfl,rfl⟩:=hc;obtain⟨p,cap,rfl,hcap,hes⟩:=bm2 hR;rcases hes with rfl | ⟨b,q,ms,rfl,hm,hT,hE⟩
  ·refine⟨[],?_,by simp[RE]⟩;cases p with
   | none=>exact⟨hk,fun _=>rfl,run_firstCells_none W sz' 0 0 cap,run_firstCells_none W.drew sz' 0 0 cap,by simp,fun _ h=>by cases h⟩
   | some ad=>exact⟨hk,fun _=>rfl,run_firstCells_some W sz' 0 ad 0 cap [] (by simp) (by simp),run_firstCells_some W.drew sz' 0 ad 0 cap [] (by simp) (by simp),by simp,fun _ h=>by cases h⟩
  ·refine⟨ms,⟨hk,fun _=>rfl,?_,?_,bd3 hE,dm4 hE⟩,hE⟩
   ·exact run_firstCells_some W sz' ys'.length ⟨b,q,none⟩ ys'.length cap ms (bd3 hE) (br2 hm)
   ·exact run_firstCells_some W.drew sz' ys'.length ⟨b,q,none⟩ ys'.length cap ms (bd3 hE) (fun j v hj=>br2 hm j v hj)
 ·rename_i s;simp only[bd,bq]at hc;obtain⟨rfl,rfl⟩:=hc;obtain rfl:=bfb.1 hR;refine⟨byteCells s,⟨hk,fun _=>?_,?_,?_,?_,?_⟩,dkk⟩
  ·simp[Builtin.lenOf]
  ·have:=firstCells_string (P:=P) s W;simpa using this
  ·have:=firstCells_string (P:=P) s W.drew;simpa using this
  ·rw[byteCells_length];simp
  ·intro u hu;obtain⟨_,_,rfl⟩:=mg.1 hu;rfl
 ·cases hc
theorem dcd(hi:Inv g W a N L st)(o:Oper){d sz e bytes:Nat}{x y:Opd}{t tx:TypeId}{x' y':Operand}{it:TypeInfo}{zz:Value}(hx:bb1 x x'=true)(hy:bb1 y y'=true)
  (ht:P.underlying t=some (.slice e)) (htx:(∃e',P.underlying tx=some (.slice e'))∨P.underlying tx=some .string) (hit:P.info? e=some it) (hz:it.zero=some zz) (hsz:it.size=sz) (hby:it.bytes=bytes)
  (hzs:zz.cells.size=sz) (hpos:0<sz) (hbpos:0<bytes) (hd:d<N) (hod:o.dst=some d)
  (ho:o.op=.call {callee:=.builtin .append,args:=#[x',y'],argTypes:=#[t,tx]}) {st':St} {r:AEx} {rec:Rec}
  (h:aop rec st (.append d sz e bytes x y)=some (r,st')):r=.normal∧b2g P o a g W N L st':=by
 simp only[aop]at h;split at h
 ·rename_i k sz1 xs sz2 ys hys hxs;split at h
  ·rename_i e' hro;split at h
   ·rename_i hb;obtain⟨rfl,rfl,rfl,hbig⟩:=hb;simp only[normal,bd,bq]at h;obtain⟨rfl,rfl⟩:=h;refine⟨rfl,?_⟩;subst hsz;subst hby;have hRx:=bb7 hi hx hxs;obtain⟨xv,w,h1,h2⟩:=hi.own k e (bdq hro);obtain⟨exv,ew⟩:=SV.part_slice h1 (by simpa only[St.av,St.sv] using hxs);subst exv;subst ew;have ex':x'=.tmp k:=by
     unfold bb1 at hx;split at hx<;>simp_all
    obtain⟨c,hc,hcs⟩:=bg.1 hys;obtain⟨news,hsrc,hEy⟩:=dk4 (P:=P) hcs (bb7 hi hy hc) htx;have hi0:=hi.subOwn (st.drop k) fun p hp=>(bjc.1 hp).1
    have hun:Unused {st with own:=st.drop k} (.slot k):=bkt fun e he=>by simpa using(bjc.1 he).2
    have hlen:xs.length+ys.length≤140737488355328:=dg (pz _ hbpos) hbig;have hnl:=hsrc.newsLen;have hrunwrap:∀{v W'},(Builtin.append_ #[t,tx] o.type #[a.eval x',a.eval y']).run P W=.ok v W'→(execOp a.eval o).run P W=.ok (.value v) W':=by
     intro v W' hr;simp[execOp,ho,resolve,invoke,builtin,hr]
    have grow:∀(base:Option Addr) (cap:Nat) (olds:List Value),a.eval x'=.slice base xs.length cap→(Builtin.firstCells it.size xs.length (.slice base xs.length cap)).run P W.drew=.ok olds.toArray W.drew →
      RE g W it.size xs olds→cap<xs.length+ys.length→b2g P o a g W N L ((St.put {st with own:=st.drop k} d (.v (.slice it.size (xs++ys)))).right d e):=by
     intro base cap olds hev hold hEx hlt;have hr:=run_append_grow_src (P:=P) W t tx o.type e it zz ht hit hz base xs.length cap olds hold (a.eval y') ys.length news hsrc hlt (by omega) (growslice_fits hlt hbig);rw[← hev]at hr;have hge:=grownCap_ge W (xs.length+ys.length) cap e;have hmax:=grownCap_le_maxLen W (xs.length+ys.length) cap e (by unfold maxLen;omega);have hE:=csj hEx hEy;have hol:=bd3 hEx;obtain⟨g',hX,hi'⟩:=Inv.newRow hi0.drew hd (e:=e) (btk (bqt g W).toKeeps _ _ _ hE) (cur:=(olds++news).toArray++Builtin.zeroCells zz.cells (grownCap W (xs.length+ys.length) cap e - (xs.length+ys.length)))
      (cap:=grownCap W (xs.length+ys.length) cap e) (by simpa using hge) hmax (by
       simp only[Array.size_append,jk,size_zeroCells,hzs,dh,hol,hnl,← jc];congr 1;omega) (fun j v hj=>by
       rw[tq]
       ·simpa using hj
       ·rcases fk j (olds++news).length with h' | h'
        ·simpa using h'
        ·simp[fg h']at hj)
     refine⟨_,_,_,g',L,hrunwrap hr,.inl rfl,(bqt g W).trans hX,?_⟩;rw[hod];simpa using hi'
    subst ex';obtain⟨sz',es',e1,h2⟩:=h2;obtain⟨rfl,rfl⟩:it.size=sz'∧xs=es':=by simpa using e1
    rcases h2 with⟨hv,rfl⟩ | ⟨b,cap,cur,hv,hb,hle,hcm,hcs',hO,hT⟩
    ·
     have hev:a.eval (.tmp k)=.slice none 0 0:=hv;by_cases h0:ys=[]
     ·subst h0;have hn0:news=[]:=ft (by simpa using hnl);subst hn0;have hcells:=hsrc.cells;simp only[ct]at hcells;have hlen0:=hsrc.len;simp only[ct]at hlen0;have hr:(Builtin.append_ #[t,tx] o.type #[a.eval (.tmp k),a.eval y']).run P W=.ok (.slice none 0 0) W:=by
       rw[hev];rcases htx with⟨e',hk⟩ | hk<;>simp[Builtin.append_,run_underlying ht,run_underlying hk,sizeOf,typeInfo,hit,hlen0,hcells]
      refine⟨_,_,W,g,L,hrunwrap hr,.inl rfl,Ext.refl g W,?_⟩;rw[hod];have hs:SVR g W L (.v (.slice it.size ([]++[]))) (.slice none 0 0):=bgf (es:=[]) (cj 0) (.inl rfl);have hi2:=hi0.put d hd _ _ hs;refine Inv.right hi2 (x:=.slice it.size ([]++[])) (by simp[St.put,zq.get_set]) ?_;rw[bjb (by rw[hi.size];exact hd)];exact⟨it.size,[],rfl,.inl ⟨rfl,rfl⟩⟩
     ·have hpos':0<ys.length:=kj.2 h0;exact grow none 0 [] hev (run_firstCells_none W.drew it.size 0 0 0) (by simp[RE]) (by simpa using hpos')
    ·have hev:a.eval (.tmp k)=.slice (some ⟨b,0,none⟩) xs.length cap:=hv;have hxsR:∃ms,mem W b 0 ms∧RE g W it.size xs ms:=by
      obtain⟨p,cap',ev,_,hes⟩:=bm2 hRx;rw[hev]at ev;rcases hes with rfl | ⟨b',q,ms,hp,hm,_,hE⟩
      ·exact⟨[],fun j v hj=>by simp at hj,by simp[RE]⟩
      ·subst hp;simp only[Value.slice.injEq,bd,Addr.mk.injEq]at ev;obtain⟨⟨rfl,rfl,_⟩,_⟩:=ev;exact⟨ms,hm,hE⟩
     obtain⟨ms,hm,hEx⟩:=hxsR;have hml:=bd3 hEx;by_cases hroom:xs.length+ys.length≤cap
     ·have hfit:xs.length*it.size+news.length≤cur.size:=by rw[hnl,hcs',← jc];exact dq _ hroom
      have hst:=run_storeCells_at P b (xs.length*it.size) e news 0 cur W hb (by simpa using hfit) hsrc.one;simp only[jt]at hst
      let cs':=(cur.toList.take (xs.length*it.size)++news++cur.toList.drop (xs.length*it.size+news.length)).toArray
      have hr:(Builtin.append_ #[t,tx] o.type #[a.eval (.tmp k),a.eval y']).run P W=.ok (.slice (some ⟨b,0,none⟩) (xs.length+ys.length) cap) (W.setRow b cs'):=by
       rw[hev];rcases htx with⟨e',hk⟩ | hk<;>simp[Builtin.append_,run_underlying ht,run_underlying hk,sizeOf,typeInfo,hit,hsrc.len,hroom,hsrc.cells,Addr.add_lit,hst,cs']
      have htk:(cur.toList.take (xs.length*it.size)).length=xs.length*it.size:=by
       have hcl:cur.toList.length=cur.size:=by simp
       rw[dp,hcl,hcs',Nat.min_eq_left (dq _ hle)]
      have hcells:∀i,i<g.T b→cs'[i]? = cur[i]?:=by
       intro i hi';rw[hT]at hi';simp only[cs',kz,gq];rw[dk (by rw[htk];exact hi'),dz,if_pos hi'];simp
      have hX:Ext g W (g.promise b ((xs.length+ys.length)*it.size)) (W.setRow b cs'):=
       ckr hb (by rw[hO];simp) (by rw[hT];exact dq _ (by omega)) hcells
      have hXX:Ext (g.promise b ((xs.length+ys.length)*it.size)) (W.setRow b cs') ((g.promise b ((xs.length+ys.length)*it.size)).give b (.slot d)) (W.setRow b cs'):=b33 (by simp[Gh.promise,hO]);have hi1:=hi0.keepX hX.toKeeps rfl (.slot k) (fun c hc hco=>cb4 c hc fun e=>by subst e;exact hco hO) (cf1 hi.sh.fresh (bd0 hb)) hun;have hi2:=hi1.keepX hXX.toKeeps rfl (.slot k) (fun c hc hco=>b52 c hc fun e=>by subst e;exact hco (by simp[Gh.promise,hO])) (b1s hi1.sh.fresh (by rw[setRow_size];exact bd0 hb)) hun;have hEn:=btk (hX.trans hXX).toKeeps _ _ _ (csj hEx hEy);have hmem':mem (W.setRow b cs') b 0 (ms++news):=by
       intro j v hj;rw[dt,cell_of_row _ _ _ _ _ _ (setRow_heap W b cur cs' e _ hb)];simp only[cs',kz,gq];by_cases hjl:j<xs.length*it.size
       ·rw[dk (by rw[htk];exact hjl),dz,if_pos hjl];rw[dk (by rw[hml];exact hjl)]at hj;have:=hm j v hj;rw[dt,cell_of_row _ _ _ _ _ _ hb]at this;simpa using this
       ·rw[d9 (by rw[htk];omega),htk];rw[d9 (by rw[hml];omega),hml]at hj;rw[dk]
        ·exact hj
        ·rcases fk (j - xs.length*it.size) news.length with h' | h'
         ·exact h'
         ·simp[fg h']at hj
      have hs:SVR ((g.promise b ((xs.length+ys.length)*it.size)).give b (.slot d)) (W.setRow b cs') L (.v (.slice it.size (xs++ys))) (.slice (some ⟨b,0,none⟩) (xs++ys).length cap):=by
       refine bgf (by simpa using hroom) (.inr ⟨b,0,ms++news,rfl,hmem',?_,hEn⟩);simp[Gh.give,Gh.promise,bb2,hml,hnl,jc]
      have hi3:=hi2.put d hd _ _ hs;refine⟨_,_,_,_,L,hrunwrap hr,.inl rfl,hX.trans hXX,?_⟩;rw[hod];rw[dh]at hi3;refine Inv.right (d:=d) hi3 (x:=.slice it.size (xs++ys)) (by simp[zq.get_set]) ?_;rw[bjb (by rw[hi.size];exact hd)];refine⟨it.size,xs++ys,rfl,.inr ⟨b,cap,cs',by rw[dh],setRow_heap W b cur cs' e _ hb,by simpa using hroom,hcm,?_,by simp[Gh.give,bb2],by simp[Gh.give,Gh.promise,bb2]⟩⟩;simp only[cs',jk,dh,htk,fb,d5];omega
     ·refine grow (some ⟨b,0,none⟩) cap ms hev ?_ hEx (by omega);exact run_firstCells_some W.drew it.size xs.length ⟨b,0,none⟩ xs.length cap ms hml (fun j v hj=>br2 hm j v hj)
   ·cases h
  ·cases h
 ·cases h
theorem zq.set_set(x y:SV):∀(s:zq) (d:Nat),(s.set d x).set d y=s.set d y
 | [],d=>by simp[zq.set]
 | (k,z)::r,d=>by
  simp only[zq.set];by_cases h1:d<k
  ·simp[h1,zq.set]
  ·by_cases h2:k=d
   ·subst h2;simp[zq.set]
   ·simp only[h1,h2,if_false,zq.set,zq.set_set x y r d]
theorem b6q(a:Act)(d:Nat)(u v:Value):(a.put (some d) u).put (some d) v=a.put (some d) v:=by
 simp[Act.put]
theorem dc1{sz:Nat}:∀{es:LA} {ms:List Value},RE g W sz es ms→RL g W (es.map AV.cells).flatten ms
 | [],ms,h=>by simp only[RE]at h;subst h;simp[RL]
 | e::es,ms,h=>by
  simp only[RE]at h;obtain⟨m1,m2,rfl,_,⟨h1,h2⟩,h3⟩:=h;simp only[cr,jm];exact b3d (b39 h2 h1) (dc1 h3)
theorem dbg(hi:Inv g W a N L st)(o:Oper){d sz e bytes:Nat}{ag:Bool}{x y:Opd}{t tx:TypeId}{x' y':Operand}{it:TypeInfo}{zz:Value}(hx:bb1 x x'=true)(hy:bb1 y y'=true)
  (ht:P.underlying t=some (.slice e)) (htx:(∃e',P.underlying tx=some (.slice e'))∨P.underlying tx=some .string) (hit:P.info? e=some it) (hz:it.zero=some zz) (hsz:it.size=sz) (hby:it.bytes=bytes)
  (hzs:zz.cells.size=sz) (hpos:0<sz) (hbpos:0<bytes) (hag:ag=false→sz=1) (hd:d<N) (hod:o.dst=some d)
  (ho:o.op=.call {callee:=.builtin .append,args:=#[x',y'],argTypes:=#[t,tx]}) {st':St} {r:AEx} {rec:Rec}
  (h:aop rec st (.cloneL d sz e bytes ag x y)=some (r,st')):r=.normal∧b2g P o a g W N L st':=by
 simp only[aop]at h;split at h
 ·rename_i k sz1 xs sz2 ys hys hxs;split at h
  ·rename_i e' hro;split at h
   ·rename_i hb;obtain⟨⟨rfl,rfl,rfl,hbig⟩,hxe,hye⟩:=hb;obtain rfl:xs=[]:=by simpa using hxe
    have hyne:ys≠[]:=by intro q;subst q;simp at hye
    have hyp:0<ys.length:=kj.2 hyne;simp only[normal,bd,bq]at h;obtain⟨rfl,rfl⟩:=h;refine⟨rfl,?_⟩;subst hsz;subst hby;have hRx:=bb7 hi hx hxs;obtain⟨xv,w,h1,h2⟩:=hi.own k e (bdq hro);obtain⟨exv,ew⟩:=SV.part_slice h1 (by simpa only[St.av,St.sv] using hxs);subst exv;subst ew;have ex':x'=.tmp k:=by
     unfold bb1 at hx;split at hx<;>simp_all
    obtain⟨c,hc,hcs⟩:=bg.1 hys;obtain⟨news,hsrc,hEy⟩:=dk4 (P:=P) hcs (bb7 hi hy hc) htx;have hi0:=hi.subOwn (st.drop k) fun p hp=>(bjc.1 hp).1
    have hun:Unused {st with own:=st.drop k} (.slot k):=bkt fun e he=>by simpa using(bjc.1 he).2
    have hlen:ys.length≤140737488355328:=dg (pz _ hbpos) hbig;have hnl:=hsrc.newsLen;have hLy:=dc1 hEy;have hLl:=bbv hLy;have hrunwrap:∀{v W'},(Builtin.append_ #[t,tx] o.type #[a.eval x',a.eval y']).run P W=.ok v W'→(execOp a.eval o).run P W=.ok (.value v) W':=by
     intro v W' hr;simp[execOp,ho,resolve,invoke,builtin,hr]
    have fin:∀{g':Gh} {W':World} {b cap:Nat} (hX:Ext g W g' W') (hcap:ys.length≤cap)
      (hr:(Builtin.append_ #[t,tx] o.type #[a.eval x',a.eval y']).run P W=.ok (.slice (some ⟨b,0,none⟩) ys.length cap) W')
      (hi':Inv g' W' (a.put (some d) (.pointer (some ⟨b,0,none⟩))) N (upd L d b)
       (St.put {st with own:=st.drop k,σ:=st.σ.kill d,loc:=st.loc.set d {cells:=(ys.map AV.cells).flatten}} d (.l d 0))),
      b2g P o a g W N L (St.put {st with own:=st.drop k,σ:=st.σ.kill d,loc:=st.loc.set d {cells:=(ys.map AV.cells).flatten}} d (.ls d it.size ag ys.length)):=by
     intro g' W' b cap hX hcap hr hi';have hi2:=hi'.put d hd (.ls d it.size ag ys.length) (.slice (some ⟨b,0,none⟩) ys.length cap) ⟨hag,cap,hcap,by rw[bb2]⟩;rw[b6q]at hi2;refine⟨_,_,W',g',upd L d b,hrunwrap hr,.inl rfl,hX,?_⟩;rw[hod];refine hi2.sub ?_ ?_ (fun d x hx=>⟨x,hx,x.le_refl⟩) rfl (fun _ x hx=>⟨x,hx,x.le_refl⟩)
     ·simp[St.put,zq.set_set]
     ·intro p hp;simp only[St.put,St.drop,jp]at hp ⊢;exact⟨hp,hp.2⟩
    have grow:∀(base:Option Addr) (cap:Nat),a.eval x'=.slice base 0 cap→(Builtin.firstCells it.size 0 (.slice base 0 cap)).run P W.drew=.ok #[] W.drew →
      cap<ys.length→b2g P o a g W N L (St.put {st with own:=st.drop k,σ:=st.σ.kill d,loc:=st.loc.set d {cells:=(ys.map AV.cells).flatten}} d (.ls d it.size ag ys.length)):=by
     intro base cap hev hold hlt;have hr:=run_append_grow_src (P:=P) W t tx o.type e it zz ht hit hz base 0 cap [] hold (a.eval y') ys.length news hsrc (by omega) (by omega) (growslice_fits (by omega) (by rw[dt];exact hbig));rw[← hev]at hr;have hge:=grownCap_ge W (0+ys.length) cap e;obtain⟨g',hX,hi'⟩:=Inv.newLocT hi0.drew hd (cells:=(ys.map AV.cells).flatten) (own:=[]) (arr:=([]++news).toArray++Builtin.zeroCells zz.cells (grownCap W (0+ys.length) cap e - (0+ys.length)))
      (by
       have e1:(([]++news).toArray++Builtin.zeroCells zz.cells (grownCap W (0+ys.length) cap e - (0+ys.length))).toList.take (ys.map AV.cells).flatten.length=news:=by
        rw[r8,kg (by simp[hLl])];simp[← hLl]
       rw[e1];exact bg3 (bqt g W).toKeeps _ _ hLy) (by simp) e
     refine fin (hX:=(bqt g W).trans hX) (cap:=grownCap W (0+ys.length) cap e) (by omega) (by simpa using hr) hi'
    subst ex';obtain⟨sz',es',e1,h2⟩:=h2;obtain⟨rfl,rfl⟩:it.size=sz'∧[]=es':=by simpa using e1
    rcases h2 with⟨hv,_⟩ | ⟨b,cap,cur,hv,hb,hle,hcm,hcs',hO,hT⟩
    ·exact grow none 0 hv (run_firstCells_none W.drew it.size 0 0 0) hyp
    ·have hev:a.eval (.tmp k)=.slice (some ⟨b,0,none⟩) 0 cap:=hv;have hT0:g.T b=0:=by simpa using hT
     by_cases hroom:ys.length≤cap
     ·have hfit:news.length≤cur.size:=by rw[hnl,hcs'];exact dq _ hroom
      have hst:=run_storeCells_at P b 0 e news 0 cur W hb (by simpa using hfit) hsrc.one;simp only[jt]at hst
      let cs':=(cur.toList.take 0++news++cur.toList.drop (0+news.length)).toArray
      have hr:(Builtin.append_ #[t,tx] o.type #[a.eval (.tmp k),a.eval y']).run P W=.ok (.slice (some ⟨b,0,none⟩) ys.length cap) (W.setRow b cs'):=by
       rw[hev];rcases htx with⟨e',hk⟩ | hk<;>simp[Builtin.append_,run_underlying ht,run_underlying hk,sizeOf,typeInfo,hit,hsrc.len,hroom,hsrc.cells,Addr.add_lit,hst,cs']
      have hX:Ext g W (g.promise b 0) (W.setRow b cs'):=
       ckr hb (by rw[hO];simp) (by rw[hT0];exact cj _) (fun i hi'=>by omega)
      have hXX:Ext (g.promise b 0) (W.setRow b cs') ((g.promise b 0).give b (.loc d)) (W.setRow b cs'):=b33 (by simp[Gh.promise,hO]);have hi1:=hi0.keepX hX.toKeeps rfl (.slot k) (fun c hc hco=>cb4 c hc fun e=>by subst e;exact hco hO) (cf1 hi.sh.fresh (bd0 hb)) hun;have hi2:=hi1.keepX hXX.toKeeps rfl (.slot k) (fun c hc hco=>b52 c hc fun e=>by subst e;exact hco (by simp[Gh.promise,hO])) (b1s hi1.sh.fresh (by rw[setRow_size];exact bd0 hb)) hun;refine fin (hX.trans hXX) hroom hr (hi2.setLoc hd (setRow_heap W b cur cs' e _ hb) ?_ (by simp[Gh.give,bb2]) (by simp[Gh.give,Gh.promise,bb2]) (by simp));have e1:cs'.toList.take (ys.map AV.cells).flatten.length=news:=by
       simp[cs',← hLl]
      rw[e1];exact bg3 (hX.trans hXX).toKeeps _ _ hLy
     ·refine grow (some ⟨b,0,none⟩) cap hev ?_ (by omega);exact run_firstCells_some W.drew it.size 0 ⟨b,0,none⟩ 0 cap [] (by simp) (by simp)
   ·cases h
  ·cases h
 ·cases h
theorem b3f{sz:Nat}{c:AV}{ms:List Value}(hd:c.isDat=true)(hl:ms.length=sz)(hR:R g W c ms):∀n,RE g W sz (List.replicate n c) (List.replicate n ms).flatten
 | 0=>by simp[RE]
 | n+1=>by
  simp only[r9,jm,RE];exact⟨ms,_,rfl,hl,⟨hd,hR⟩,b3f hd hl hR n⟩
theorem bvs{ms:List Value}(hpos:0<ms.length):∀(n j:Nat),j<n*ms.length→((List.replicate n ms).flatten)[j]? = ms[j % ms.length]?
 | 0,j,h=>by simp at h
 | n+1,j,h=>by
  simp only[r9,jm];by_cases hj:j<ms.length
  ·rw[dk hj,Nat.mod_eq_of_lt hj]
  ·rw[d9 (by omega),bvs hpos n _ (by rw[jc]at h;omega)];congr 1;have:j=(j - ms.length)+ms.length:=by omega
   conv=>rhs;rw[this,Nat.add_mod_right]
theorem drb(hi:Inv g W a N L st)(o:Oper){d sz e bytes:Nat}{z:LA}{x y:Opd}{t:TypeId}{x' y':Operand}{it:TypeInfo}{zz:Value}(hx:bb1 x x'=true)(hy:bb1 y y'=true)
  (ht:P.underlying t=some (.slice e)) (hit:P.info? e=some it) (hz:it.zero=some zz) (hsz:it.size=sz) (hby:it.bytes=bytes) (hc:bcs z zz.cells.toList=true) (hzs:zz.cells.size=sz) (hpos:0<sz) (hbpos:0<bytes)
  (hd:d<N) (hod:o.dst=some d) (ho:o.op=.makeSlice t x' y') {st':St} {r:AEx} {rec:Rec}
  (h:aop rec st (.make d sz e bytes z x y)=some (r,st')):r=.normal∧b2g P o a g W N L st':=by
 simp only[aop]at h;split at h
 ·rename_i kn n kc c hn hcc;split at h
  ·rename_i hb;obtain⟨h0,h1,h2⟩:=hb;simp only[normal,bd,bq]at h;obtain⟨rfl,rfl⟩:=h;refine⟨rfl,?_⟩;have e1:=bcv.1 (bb7 hi hx hn);have e2:=bcv.1 (bb7 hi hy hcc);subst hsz;subst hby;have hc0:0≤c:=by omega
   have hcb:c≤(it.bytes:Int)*c:=by
    have:=rk (a:=1) (b:=(it.bytes:Int)) (c:=c) (by omega) hc0;simpa using this
   have hr:=run_make (P:=P) W t e it zz ht hit hz kn kc n c h0 h1 (by omega) (by omega);have hl:RL g W z zz.cells.toList:=bk7 hc g W;have hzl:=bbv hl;have hzlen:zz.cells.toList.length=it.size:=by rw[d5,hzs]
   have hRz:(if it.size=1 then z.headD .niliface else .agg z).isDat=true∧R g W (if it.size=1 then z.headD .niliface else .agg z) zz.cells.toList:=by
    split
    ·rename_i h1;rw[hzlen,h1]at hzl
     match z,hzl with
     | [c0],_=>
      simp only[RL]at hl;obtain⟨v,r,e3,⟨q1,q2⟩,e4⟩:=hl;subst e4;rw[e3];exact⟨bqp q1,q2⟩
    ·exact⟨rfl,by simpa[R] using hl⟩
   have hE:=b3f hRz.1 hzlen hRz.2 n.toNat;have hcn:n.toNat≤c.toNat:=by omega
   obtain⟨g',hX,hi'⟩:=Inv.newRow hi hd (e:=e) hE (cur:=madeCells zz.cells (c.toNat*it.size)) (cap:=c.toNat) (by simpa using hcn) (by unfold maxLen;omega) (size_madeCells _ _) (fun j v hj=>by
    have hjl:j<n.toNat*it.size:=by
     rcases fk j (n.toNat*it.size) with h' | h'
     ·exact h'
     ·rw[fg (by simp[hzs];exact h')]at hj;cases hj
    have hjc:j<c.toNat*it.size:=kr hjl (dq _ hcn);rw[bvs (by rw[hzlen];exact hpos) _ _ (by rw[hzlen];exact hjl),hzlen]at hj;have hm:j % it.size<zz.cells.size:=by rw[hzs];exact vt _ hpos
    have hv:zz.cells[j % it.size]? = some v:=by simpa using hj
    rw[tv hm]at hv;simp only[madeCells,Array.getElem?_map,Array.getElem?_range,hjc,if_true,bc,hzs,bd];rw[getElem!_pos zz.cells (j % it.size) hm];simpa using hv)
   refine⟨.value (.slice (some ⟨W.heap.size,0,none⟩) n.toNat c.toNat),_,_,g',L,?_,.inl rfl,hX,?_⟩
   ·simp only[execOp,ho,e1,e2];simp[hr]
   ·rw[hod];simpa using hi'
  ·cases h
 ·cases h
theorem b98{z:LA}{zv:List Value}(h:RL g W z zv):∀n,RL g W (List.replicate n z).flatten (List.replicate n zv).flatten
 | 0=>by simp[RL]
 | n+1=>by
  simp only[r9,jm];exact b3d h (b98 h n)
theorem dg0(hi:Inv g W a N L st)(o:Oper){d sz e bytes:Nat}{ag:Bool}{z:LA}{x y:Opd}{t:TypeId}{x' y':Operand}{it:TypeInfo}{zz:Value}(hx:bb1 x x'=true)(hy:bb1 y y'=true)
  (ht:P.underlying t=some (.slice e)) (hit:P.info? e=some it) (hz:it.zero=some zz) (hsz:it.size=sz) (hby:it.bytes=bytes) (hc:bcs z zz.cells.toList=true) (hzs:zz.cells.size=sz) (hpos:0<sz) (hbpos:0<bytes) (hag:ag=false→sz=1)
  (hd:d<N) (hod:o.dst=some d) (ho:o.op=.makeSlice t x' y') {st':St} {r:AEx} {rec:Rec}
  (h:aop rec st (.makeL d sz bytes ag z x y)=some (r,st')):r=.normal∧b2g P o a g W N L st':=by
 simp only[aop]at h;split at h
 ·rename_i kn n kc c hn hcc;split at h
  ·rename_i hb;obtain⟨hnc,h0,h2⟩:=hb;subst hnc;simp only[normal,bd,bq]at h;obtain⟨rfl,rfl⟩:=h;refine⟨rfl,?_⟩;have e1:=bcv.1 (bb7 hi hx hn);have e2:=bcv.1 (bb7 hi hy hcc);subst hsz;subst hby;have hcb:n≤(it.bytes:Int)*n:=by
    have:=rk (a:=1) (b:=(it.bytes:Int)) (c:=n) (by omega) h0;simpa using this
   have hr:=run_make (P:=P) W t e it zz ht hit hz kn kc n n h0 (mv _) (by omega) (by omega);have hl:RL g W z zz.cells.toList:=bk7 hc g W;have hzlen:zz.cells.toList.length=it.size:=by rw[d5,hzs]
   have hfl:(List.replicate n.toNat zz.cells.toList).flatten=(madeCells zz.cells (n.toNat*it.size)).toList:=by
    apply tt;intro j;by_cases hj:j<n.toNat*it.size
    ·rw[bvs (by rw[hzlen];exact hpos) _ _ (by rw[hzlen];exact hj),hzlen];have hm:j % it.size<zz.cells.size:=by rw[hzs];exact vt _ hpos
     simp only[madeCells,fx,Array.getElem?_map,Array.getElem?_range,hj,if_true,bc,hzs];rw[getElem!_pos zz.cells (j % it.size) hm,tv hm]
    ·rw[fg (by simp[hzs];omega),fg (by rw[d5,size_madeCells];omega)]
   have hL:RL g W (List.replicate n.toNat z).flatten (madeCells zz.cells (n.toNat*it.size)).toList:=by
    rw[← hfl];exact b98 hl n.toNat
   obtain⟨g',L',hX,hi'⟩:=Inv.newLoc hi hd hL (own:=[]) (by simp) e;have hL':L' d=W.heap.size:=by
    have:=hi'.slot d;simp only[St.put,zq.get_set,if_true,SVR]at this;rw[bjb (by rw[hi.size];exact hd)]at this;simpa using this.symm
   have hi2:=hi'.put d hd (.ls d it.size ag n.toNat) (.slice (some ⟨W.heap.size,0,none⟩) n.toNat n.toNat) ⟨hag,n.toNat,cj _,by rw[hL']⟩;rw[b6q]at hi2;refine⟨.value (.slice (some ⟨W.heap.size,0,none⟩) n.toNat n.toNat),_,_,g',L',?_,.inl rfl,hX,?_⟩
   ·simp only[execOp,ho,e1,e2];simp[hr]
   ·rw[hod];refine hi2.sub ?_ ?_ (fun d x hx=>⟨x,hx,x.le_refl⟩) rfl (fun _ x hx=>⟨x,hx,x.le_refl⟩)
    ·simp[St.put,zq.set_set]
    ·intro p hp;simp only[St.put,St.drop,jp]at hp ⊢;exact⟨hp,hp.2⟩
  ·cases h
 ·cases h
end
end Go.Av
namespace Go.Av
open Go
def bp1:Option IntKind→TypeDesc
 | none=>.string
 | some k=>.int k
section
variable{P:Program}{g:Gh}{W:World}{a:Act}{N:Nat}{L:Nat→Nat}{st:St}
theorem cc0{kd:Option IntKind}{k:AV}{v:Value}(h:bd1 kd k=true)(hR:RV g W k v):MapKept.IsKey (bp1 kd) v:=by
 unfold bd1 at h;split at h
 ·rename_i s;obtain rfl:=bfb.1 hR
  trivial
 ·rename_i k0 k' n;obtain rfl:=bcv.1 hR;simpa[bp1,MapKept.IsKey] using h
 ·cases h
theorem crd{kd:Option IntKind}{k k':AV}{v v':Value}(h:bd1 kd k=true)(h':bd1 kd k'=true)(hR:RV g W k v)(hR':RV g W k' v'):Instr.sameNow (bp1 kd) v v'=some (bg4 k k')∧(bg4 k k'=true→v'=v):=by
 cases kd with
 | none=>
  cases k<;>simp[bd1]at h;rename_i s;cases k'<;>simp[bd1]at h';rename_i s';obtain rfl:=bfb.1 hR;obtain rfl:=bfb.1 hR';have e:(s==s')=(s.toList==s'.toList):=by
   rw[rm,MapKept.bytes_beq,beq_iff_eq,ByteArray.toList_eq,ByteArray.toList_eq];constructor
   ·rintro rfl;rfl
   ·intro h;apply ByteArray.ext;exact Array.ext' h
  refine⟨by simp[bp1,Instr.sameNow,bg4,e],fun q=>?_⟩;simp only[bg4,← e,MapKept.bytes_beq]at q;rw[q]
 | some kd=>
  cases k<;>simp[bd1]at h;cases k'<;>simp[bd1]at h';subst h;subst h';obtain rfl:=bcv.1 hR;obtain rfl:=bcv.1 hR';refine⟨by simp[bp1,Instr.sameNow,bg4],fun q=>?_⟩;simp only[bg4,beq_iff_eq]at q;rw[q]
theorem c5v{kd:Option IntKind}{k:AV}{v:Value}(h:bd1 kd k=true)(hR:RV g W k v):∀{cs:LA} {es:List MapEntry} {i:Nat} {r:Option AV},MR g W cs es→b7q kd cs k=some r →
  (r=none∧Instr.findNow (bp1 kd) v es i=some none)∨∃w j e,r=some w∧Instr.findNow (bp1 kd) v es i=some (some (i+j,e.val))∧es[j]? = some e∧RV g W w e.val∧e.key=v
 | [],[],i,r,_,hg=>by
  simp only[b7q,bd]at hg;exact .inl ⟨hg.symm,rfl⟩
 | [],_::_,i,r,hm,hg=>by simp[MR]at hm
 | [_],[],i,r,hm,hg=>by simp[MR]at hm
 | [_],_::_,i,r,hm,hg=>by simp[MR]at hm
 | _::_::_,[],i,r,hm,hg=>by simp[MR]at hm
 | k'::w::cs,e::es,i,r,hm,hg=>by
  obtain⟨⟨h1,h2⟩,h3⟩:=hm;simp only[b7q]at hg;split at hg
  ·rename_i hk';obtain⟨q1,q2⟩:=crd h hk' hR h1;split at hg
   ·rename_i he;obtain rfl:=bf hg;rw[he]at q1;exact .inr ⟨w,0,e,rfl,by simp[Instr.findNow,q1],rfl,h2,q2 he⟩
   ·rename_i he;have he':bg4 k k'=false:=by simpa using he
    rw[he']at q1;rcases c5v h hR (i:=i+1) h3 hg with⟨p1,p2⟩ | ⟨x,j,e',p1,p2,p3,p4,p5⟩
    ·exact .inl ⟨p1,by simp[Instr.findNow,q1,p2]⟩
    ·exact .inr ⟨x,j+1,e',p1,by simp[Instr.findNow,q1,p2];omega,by simpa using p3,p4,p5⟩
  ·cases hg
theorem c5t{kd:Option IntKind}{k w:AV}{v u:Value}(h:bd1 kd k=true)(hR:RV g W k v)(hw:RV g W w u)(born:Nat):∀{cs cs':LA} {es:List MapEntry} {i:Nat},MR g W cs es→cq5 kd cs k w=some cs' →
  (Instr.findNow (bp1 kd) v es i=some none∧MR g W cs' (es++[{key:=v,val:=u,born:=born}])) ∨
  ∃j e,Instr.findNow (bp1 kd) v es i=some (some (i+j,e.val))∧es[j]? = some e∧e.key=v∧MR g W cs' (es.modify j fun e=>{e with key:=v,val:=u})
 | [],cs',[],i,_,hg=>by
  simp only[cq5,bd]at hg;subst hg;exact .inl ⟨rfl,⟨hR,hw⟩,trivial⟩
 | [],_,_::_,i,hm,hg=>by simp[MR]at hm
 | [_],_,[],i,hm,hg=>by simp[MR]at hm
 | [_],_,_::_,i,hm,hg=>by simp[MR]at hm
 | _::_::_,_,[],i,hm,hg=>by simp[MR]at hm
 | k'::w'::cs,cs',e::es,i,hm,hg=>by
  obtain⟨⟨h1,h2⟩,h3⟩:=hm;simp only[cq5]at hg;split at hg
  ·rename_i hk';obtain⟨q1,q2⟩:=crd h hk' hR h1;split at hg
   ·rename_i he;obtain rfl:=bf hg;rw[he]at q1;exact .inr ⟨0,e,by simp[Instr.findNow,q1],rfl,q2 he,by simpa using⟨⟨hR,hw⟩,h3⟩⟩
   ·rename_i he;have he':bg4 k k'=false:=by simpa using he
    rw[he']at q1;obtain⟨cs1,g1,rfl⟩:=bv.1 hg;rcases c5t h hR hw born (i:=i+1) h3 g1 with⟨p1,p2⟩ | ⟨j,e',p1,p2,p3,p4⟩
    ·exact .inl ⟨by simp[Instr.findNow,q1,p1],⟨h1,h2⟩,p2⟩
    ·exact .inr ⟨j+1,e',by simp[Instr.findNow,q1,p1];omega,by simpa using p2,p3,by simpa using⟨⟨h1,h2⟩,p4⟩⟩
  ·cases hg
theorem dq9{b:Nat}{o o':Obj}(hb:W.heap[b]? = some o)(hO:g.O b≠.ext)(hT:g.T b=0):Ext g W g {W with heap:=W.heap.setIfInBounds b o'}:=by
 refine⟨⟨fun c=>cj _,fun c i hi=>?_,fun _ _ h=>h⟩,by simp,rfl,rfl,rfl,fun c hx=>⟨hx,?_,rfl⟩⟩
 ·have e:c≠b:=by rintro rfl;rw[hT]at hi;omega
  exact World.cell?_of_block ((MapKept.heap_set (o':=o') hb).2 c e)
 ·have e:c≠b:=by rintro rfl;exact hO hx
  exact(MapKept.heap_set (o':=o') hb).2 c e
theorem dgz{b:Nat}{o o':Obj}(hb:W.heap[b]? = some o):∀c,c<W.heap.size→c≠b→Same g W g {W with heap:=W.heap.setIfInBounds b o'} c:=
 fun c _ hc=>⟨(MapKept.heap_set (o':=o') hb).2 c hc,rfl,rfl⟩
theorem cv1(hi:Inv g W a N L st)(o:Oper){d:Nat}{t:TypeId}(hd:d<N)(hod:o.dst=some d)(ho:o.op=.makeMap t none){st':St}{r:AEx}{rec:Rec}
  (h:aop rec st (.makeMap d)=some (r,st')):r=.normal∧b2g P o a g W N L st':=by
 simp only[aop,normal,bd,bq]at h;obtain⟨rfl,rfl⟩:=h;refine⟨rfl,?_⟩;have hr:zp P o a W (.map (some W.heap.size)) (W.alloc (.map #[] 0)):=by
  simp[zp,execOp,ho,Instr.makeMap]
 have hE0:=b5p (g:=g) (W:=W) hi.sh.fresh 0 (.box st.S.length) (.map #[] 0);have hi1:=hi.new 0 (.box st.S.length) (.map #[] 0);have hlen:=hi.sh.len
 let g1:Gh:={g.new W 0 (.box st.S.length) with B:=g.B++[W.heap.size]}
 have hB:∀(i b:Nat),g.B[i]? = some b→(g.B++[W.heap.size])[i]? = some b:=by
  intro i b hb;have hlt:i<g.B.length:=(cf.1 hb).1;rw[dk hlt];exact hb
 have hk:Keeps (g.new W 0 (.box st.S.length)) (W.alloc (.map #[] 0)) g1 (W.alloc (.map #[] 0)):=⟨fun _=>cj _,fun _ _ _=>rfl,hB⟩;have hE:Ext g W g1 (W.alloc (.map #[] 0)):=⟨hE0.toKeeps.trans hk,hE0.size,hE0.os,hE0.tape,hE0.output,hE0.ext⟩;have hsh:SInv g1 (W.alloc (.map #[] 0)) (st.S++[{cells:=[],map:=true}]):=by
  refine⟨by simp[g1,hlen],fun i x hx=>?_,hi1.sh.fresh⟩;by_cases hlt:i<st.S.length
  ·rw[dk hlt]at hx;obtain⟨b,h1,h2⟩:=hi1.sh.box i x hx;exact⟨b,hB i b h1,h2.keep hk fun b hb _=>⟨rfl,rfl,rfl⟩⟩
  ·have hii:i=st.S.length:=by
    have:=(cf.1 hx).1;simp at this;omega
   subst hii;simp only[sq,bd]at hx;subst hx;refine⟨W.heap.size,by rw[← hlen];simp[g1],?_⟩;unfold BxS;rw[if_pos rfl];exact⟨rfl,#[],0,(MapKept.heap_alloc W _).1,trivial,by simp[g1,Gh.new,bb2],by simp[g1,Gh.new,bb2]⟩
 have hi2:Inv g1 (W.alloc (.map #[] 0)) a N L {st with S:=st.S++[{cells:=[],map:=true}]}:=
  ⟨hi1.size,fun k=>(hi1.slot k).keep hk,fun k e he=>by
   obtain⟨x,w,h1,h2⟩:=hi1.own k e he;exact⟨x,w,h1,h2.keep fun b hb _=>⟨rfl,rfl,rfl⟩⟩,fun d x hx=>(hi1.loc d x hx).keep hk fun b hb _=>⟨rfl,rfl,rfl⟩,hsh⟩
 refine⟨_,_,_,g1,L,hr,.inl rfl,hE,?_⟩;rw[hod];refine hi2.put d hd _ _ ⟨?_,rfl⟩;simp only[Value.cells,R];exact⟨W.heap.size,by rw[← hlen];simp[g1],rfl⟩
theorem b1g{ok:Bool}{z:AV}{zz:Value}{r:Option AV}{v:Value}(hz:RV g W z zz)(hr:∀w,r=some w→RV g W w v) :
  RV g W (bvm ok z r) (if ok=true then .tuple #[if r.isSome=true then v else zz,.bool r.isSome] else if r.isSome=true then v else zz):=by
 have tup:∀{x:AV} {y:Value} {b:Bool},RV g W x y→RV g W (.tuple [x,.bool b]) (.tuple #[y,.bool b]):=by
  intro x y b hx;refine⟨?_,rfl⟩;simp only[Value.cells,R];exact⟨_,rfl,by simp only[RT];exact⟨y,_,rfl,hx,.bool b,[],rfl,bgr.2 rfl,rfl⟩⟩
 cases r with
 | none=>
  cases ok
  ·exact hz
  ·exact tup hz
 | some w=>
  cases ok
  ·exact hr w rfl
  ·exact tup (hr w rfl)
theorem dmh{i b:Nat}{x:Bx}(h:BxS g W b i x)(hm:x.map=true):x.own=[]∧∃es clock,W.heap[b]? = some (.map es clock)∧MR g W x.cells es.toList∧g.O b=.box i∧g.T b=0:=by
 unfold BxS at h;rw[if_pos hm]at h;exact h
theorem c6h(hi:Inv g W a N L st)(o:Oper){d:Nat}{ok:Bool}{kd:Option IntKind}{z:AV}{zz:Value}{x k:Opd}{t kt et:TypeId}{x' k':Operand}{it:TypeInfo}(hx:bb1 x x'=true)(hk:bb1 k k'=true)
  (ht:P.underlying t=some (.map kt et)) (hkt:P.underlying kt=some (bp1 kd)) (hit:P.info? et=some it) (hzz:it.zero=some zz) (hz:bm9 z zz=true) (hd:d<N) (hod:o.dst=some d)
  (ho:o.op=.lookup t x' k' ok) {st':St} {r:AEx} {rec:Rec} (h:aop rec st (.lookup d ok kd z x k)=some (r,st')):r=.normal∧b2g P o a g W N L st':=by
 have hzR:RV g W z zz:=bb7 hi (x:=.c z) (y:=.const zz) (by simpa[bb1] using hz) rfl;have hzero:(zeroValue et).run P W=.ok zz W:=by simp[zeroValue,typeInfo,hit,hzz]
 simp only[aop]at h;split at h
 ·rename_i kv hxv hkv;split at h
  ·rename_i hkey;simp only[normal,bd,bq]at h;obtain⟨rfl,rfl⟩:=h;refine⟨rfl,?_⟩;have e1:a.eval x'=.map none:=by
    have:=bcg (bb7 hi hx hxv) rfl;simp only[R]at this;simpa using this
   have hK:=cc0 hkey (bb7 hi hk hkv);have hr:=b1g (ok:=ok) (r:=none) (v:=zz) hzR (fun w hw=>by cases hw);refine bjm hi o hd hod (v:=if ok=true then .tuple #[zz,.bool false] else zz) ?_ (by simpa[SVR] using hr);have hf:Instr.findNow (bp1 kd) (a.eval k') ([]:List MapEntry) 0=some none:=rfl;cases ok<;>simp[zp,execOp,ho,Instr.lookup,run_underlying ht,e1,MapKept.run_checkKey hkt hK,MapKept.run_findKey hkt hf,hzero,Result.andThen]
  ·cases h
 ·rename_i i kv hxv hkv;split at h
  ·rename_i hkey;split at h
   ·rename_i bx hbx;split at h
    ·rename_i hmap;split at h
     ·rename_i res hres;simp only[normal,bd,bq]at h;obtain⟨rfl,rfl⟩:=h;refine⟨rfl,?_⟩;obtain⟨b,hBb,hbs⟩:=hi.sh.box i bx hbx;obtain⟨_,es,clock,hb,hM,hO,hT⟩:=dmh hbs hmap;have e1:a.eval x'=.map (some b):=by
       have:=bcg (bb7 hi hx hxv) rfl;simp only[R]at this;obtain⟨b',q1,q2⟩:=this;rw[hBb]at q1;obtain rfl:b=b':=by simpa using q1
       simpa using q2
      have hRk:=bb7 hi hk hkv;have hK:=cc0 hkey hRk;rcases c5v hkey hRk (i:=0) hM hres with⟨rfl,hf⟩ | ⟨w,j,e,rfl,hf,_,hw,_⟩
      ·have hr:=b1g (ok:=ok) (r:=none) (v:=zz) hzR (fun w hw=>by cases hw);refine bjm hi o hd hod (v:=if ok=true then .tuple #[zz,.bool false] else zz) ?_ (by simpa[SVR] using hr);cases ok<;>simp[zp,execOp,ho,Instr.lookup,run_underlying ht,e1,MapKept.run_getObj_map hb,MapKept.run_checkKey hkt hK,MapKept.run_findKey hkt hf,hzero,Result.andThen]
      ·have hr:=b1g (ok:=ok) (r:=some w) (v:=e.val) hzR (fun w' hw'=>by cases hw';exact hw);refine bjm hi o hd hod (v:=if ok=true then .tuple #[e.val,.bool true] else e.val) ?_ (by simpa[SVR] using hr);cases ok<;>simp[zp,execOp,ho,Instr.lookup,run_underlying ht,e1,MapKept.run_getObj_map hb,MapKept.run_checkKey hkt hK,MapKept.run_findKey hkt hf,Result.andThen]
     ·cases h
    ·cases h
   ·cases h
  ·cases h
 ·cases h
theorem cgg(hi:Inv g W a N L st)(o:Oper){kd:Option IntKind}{x k v:Opd}{t kt et:TypeId}{x' k' v':Operand}(hx:bb1 x x'=true)(hk:bb1 k k'=true)(hv:bb1 v v'=true)
  (ht:P.underlying t=some (.map kt et)) (hkt:P.underlying kt=some (bp1 kd)) (hod:o.dst=none)
  (ho:o.op=.mapUpdate t x' k' v'∨o.op=.insert t x' k' v') {st':St} {r:AEx} {rec:Rec} (h:aop rec st (.mapUpd kd x k v)=some (r,st')):r=.normal∧b2g P o a g W N L st':=by
 simp only[aop]at h;split at h
 ·rename_i i kv vv hxv hkv hvv;split at h
  ·rename_i hkey;split at h
   ·rename_i bx hbx;split at h
    ·rename_i hmap;split at h
     ·rename_i cs hcs;simp only[normal,bd,bq]at h;obtain⟨rfl,rfl⟩:=h;refine⟨rfl,?_⟩;obtain⟨b,hBb,hbs⟩:=hi.sh.box i bx hbx;obtain⟨_,es,clock,hb,hM,hO,hT⟩:=dmh hbs hmap;have e1:a.eval x'=.map (some b):=by
       have:=bcg (bb7 hi hx hxv) rfl;simp only[R]at this;obtain⟨b',q1,q2⟩:=this;rw[hBb]at q1;obtain rfl:b=b':=by simpa using q1
       simpa using q2
      have hRk:=bb7 hi hk hkv;have hRv:=bb7 hi hv hvv;have hK:=cc0 hkey hRk;have fin:∀(es':Array MapEntry) (clock':Nat),MR g W cs es'.toList→(Instr.mapUpdate t (a.eval x') (a.eval k') (a.eval v')).run P W=.ok () {W with heap:=W.heap.setIfInBounds b (.map es' clock')} →
        b2g P o a g W N L {st with S:=st.S.set i {cells:=cs,map:=true}}:=by
       intro es' clock' hM' hrun;have hE:=dq9 (o':=.map es' clock') hb (by rw[hO];simp) hT;have hsame:=dgz (g:=g) (o':=.map es' clock') hb;refine⟨.skip,undef,_,g,L,?_,.inr ⟨rfl,rfl⟩,hE,?_⟩
       ·rcases ho with ho | ho<;>simp[execOp,ho,hrun]
       ·rw[hod];refine⟨hi.size,fun j=>(hi.slot j).keep hE.toKeeps,fun j e hj=>?_,fun d x hx=>(hi.loc d x hx).keep hE.toKeeps fun c hc hco=>hsame c hc fun e=>?_,by simpa using hi.sh.len,fun i' x hx=>?_,fun c hc=>?_⟩
        ·obtain⟨y,w,q1,q2⟩:=hi.own j e hj;exact⟨y,w,q1,q2.keep fun c hc hcO=>hsame c hc fun e=>by subst e;rw[hO]at hcO;cases hcO⟩
        ·subst e;rw[hO]at hco;rcases hco with hco | ⟨_,_,_,hco⟩<;>cases hco
        ·rw[pf]at hx;split at hx
         ·rename_i e;subst e;split at hx
          ·simp only[bd]at hx;subst hx;refine⟨b,hBb,?_⟩;unfold BxS;rw[if_pos rfl];exact⟨rfl,es',clock',(MapKept.heap_set hb).1,hM'.keep hE.toKeeps,hO,hT⟩
          ·cases hx
         ·rename_i e;obtain⟨b',q1,q2⟩:=hi.sh.box i' x hx;refine⟨b',q1,q2.keep hE.toKeeps fun c hc hcO=>hsame c hc fun ec=>?_⟩;subst ec;rw[hO]at hcO;rcases hcO with hcO | ⟨_,_,_,hcO⟩
          ·cases hcO;exact e rfl
          ·cases hcO
        ·exact hi.sh.fresh c (by simpa using hc)
      rcases c5t hkey hRk hRv clock (i:=0) hM hcs with⟨hf,hM'⟩ | ⟨j,e,hf,hj,he,hM'⟩
      ·refine fin (es.push {key:=a.eval k',val:=a.eval v',born:=clock}) (clock+1) (by simpa using hM') ?_;rw[e1];simp[Instr.mapUpdate,run_underlying ht,MapKept.run_getObj_map hb,MapKept.run_checkKey hkt hK,MapKept.run_findKey hkt hf,MapKept.run_setObj_map _ hb,Result.andThen]
      ·have hj':es[j]? = some e:=by simpa using hj
       refine fin (es.modify j fun e=>{e with key:=a.eval k',val:=a.eval v'}) clock (by simpa using hM') ?_;rw[e1];simp[Instr.mapUpdate,run_underlying ht,MapKept.run_getObj_map hb,MapKept.run_checkKey hkt hK,MapKept.run_findKey hkt hf,hj',he,MapKept.run_keyThatStays hK,MapKept.run_setObj_map _ hb,Result.andThen]
     ·cases h
    ·cases h
   ·cases h
  ·cases h
 ·cases h
theorem chr:∀{es:LA} {l:LU} {ms:List Value},bsf es=some l→RE g W 1 es ms→l.length=es.length∧∀j (hj:j<l.length),ms[j]? = some (.int .u8 (l[j].toNat:Int))
 | [],l,ms,h,hE=>by
  simp only[bsf,bd]at h;subst h;exact⟨rfl,fun j hj=>by simp at hj⟩
 | e::es,l,ms,h,hE=>by
  simp only[RE]at hE;obtain⟨x,r,rfl,hx,⟨_,h1⟩,h2⟩:=hE;cases e with
  | int k n=>
   cases k<;>simp only[bsf]at h<;>try (cases h;done)
   split at h
   ·rename_i hn;obtain⟨l',hl',rfl⟩:=bv.1 h;obtain⟨q1,q2⟩:=chr hl' h2;simp only[R]at h1;subst h1;refine⟨by simp[q1],fun j hj=>?_⟩;cases j with
    | zero=>
     simp only[rZd,mp,List.getElem_cons_zero];congr 2;have:(UInt8.ofNat n.toNat).toNat=n.toNat:=by simp;omega
     rw[this];omega
    | succ j=>simpa using q2 j (by simpa using hj)
   ·cases h
  | _=>simp[bsf]at h
theorem dj1(hi:Inv g W a N L st)(o:Oper){d:Nat}{x:Opd}{src dst e:TypeId}{x':Operand}(hx:bb1 x x'=true)(hs:P.underlying src=some (.slice e))(he:P.underlying e=some (.int .u8))(hd:P.underlying dst=some .string)
  (ho:o.op=.convert src dst x') {s:SV} (h:bbb st (.convB d x)=some s):∃v,zp P o a W v W∧SVR g W L s v:=by
 simp only[bbb]at h;split at h
 ·rename_i es hes;obtain⟨l,hl,rfl⟩:=bv.1 h;refine⟨.string ⟨l.toArray⟩,?_,bfb.2 rfl⟩;obtain⟨p,cap,ev,_,hp⟩:=bm2 (bb7 hi hx hes);have key:(convert src dst (a.eval x')).run P W=.ok (.string ⟨l.toArray⟩) W:=by
   rw[ev];rcases hp with rfl | ⟨b,q,ms,rfl,hm,_,hE⟩
   ·simp only[bsf,bd]at hl;subst hl;cases p with
    | none=>
     rw[ct,run_convert_bytes_string W src dst e none 0 cap hs he hd];rfl
    | some ad=>exact run_convert_bytes_back W src dst e ad cap [] hs he hd (fun j hj=>by simp at hj)
   ·obtain⟨q1,q2⟩:=chr hl hE;rw[← q1];exact run_convert_bytes_back W src dst e _ cap l hs he hd (fun j hj=>br2 hm j _ (q2 j hj))
  simp[zp,execOp,ho,key]
 ·cases h
end
end Go.Av
namespace Go.Av
open Go
structure Base(W0:World)(g:Gh)(W:World):Prop where
 size:W0.heap.size≤W.heap.size
 os:W.os=W0.os
 tape:W.tape=W0.tape
 output:W.output=W0.output
 ext:∀b,b<W0.heap.size→g.O b=.ext∧W.heap[b]? = W0.heap[b]?
theorem Base.ext'{W0:World}{g g':Gh}{W W':World}(h:Base W0 g W)(k:Ext g W g' W'):Base W0 g' W':=
 ⟨dg h.size k.size,k.os.trans h.os,k.tape.trans h.tape,k.output.trans h.output,fun b hb=>by
  obtain⟨h1,h2⟩:=h.ext b hb;obtain⟨k1,k2,_⟩:=k.ext b h1;exact⟨k1,k2.trans h2⟩⟩
def Own.calm:Own→Prop
 | .free | .ext | .box _ | .cell _ _=>True
 | _=>False
def Own.calmR:Own→Prop
 | .free | .ext | .box _ | .cell _ _ | .res _=>True
 | _=>False
def b99(g:Gh)(W:World)(e:AEnd)(S':LB)(e':Ending)(W':World):Prop:=
 ∃ g',Ext g W g' W'∧SInv g' W' S'∧(∀b,(g'.O b).calmR) ∧
   match e with
   | .ret r own=>∃v,e'=.returned v∧RV g' W' r v∧∀te,own=some te→bz8 g' W' (.res 0) te r v
   | .panic x=>∃u,e'=.panicked [{v:=u,recovered:=false}]∧RV g' W' x u
def bdp (P : Program) (f : FuncId) : Prop := ∃ fn, P.funcs[f]? = some fn ∧ (fn.name == "runtime.NumGoroutine") = false ∧ fn.body.isNone = false
def bbk(P:Program)(W0:World)(rec:Rec):Prop:=
 ∀ f args S e S',rec f args S=some (e,S')→bdp P f ∧
   ∀g W (vs:Array Value),Base W0 g W→RT g W args vs.toList→SInv g W S→(∀b,(g.O b).calm)→Calls P f vs W (b99 g W e S')
theorem bbk.quiet{P:Program}{W0:World}{rec:Rec}(h:bbk P W0 rec):bbk P W0 rec.quiet:=by
 intro f args S e S' hr;unfold Rec.quiet at hr;split at hr
 ·rename_i r own S'' hq;split at hr
  ·simp only[bd,bq]at hr;obtain⟨rfl,rfl⟩:=hr;exact h _ _ _ _ _ hq
  ·cases hr
 ·cases hr
def Own.hide:Own→Own
 | .slot _ | .loc _ | .lcell _ _ | .res _=>.ext
 | o=>o
def Own.hidden:Own→Bool
 | .slot _ | .loc _ | .lcell _ _ | .res _=>true
 | _=>false
def Gh.hide(g:Gh):Gh:={g with O:=fun b=>(g.O b).hide}
def Gh.back(g g':Gh)(d:Option Nat):Gh:=
 {g' with O:=fun b=>if(g.O b).hidden then g.O b else match g'.O b with | .res _=>(match d with | some d=>.slot d | none=>.free) | o=>o}
theorem c8r(o:Own):o.hide.calm:=by cases o<;>trivial
theorem cmq{o:Own}(h:o.hidden=true):o.hide=.ext:=by cases o<;>simp_all [Own.hidden,Own.hide]
section
variable{P:Program}{W0:World}{g:Gh}{W:World}{a:Act}{N:Nat}{L:Nat→Nat}{st:St}
theorem dk7{r:AV}{v:Value}(h:RV g W r v)(te:Nat):SVR g W L (cks r te) v:=by
 cases r<;>first | exact h | exact⟨h,by simp⟩
theorem cqk{o:Own}{te:Nat}{r:AV}{v:Value}(h:bz8 g W o te r v):∃x w,(cks r te).part v=some (x,w)∧bj4 g W o (retE r te) x w:=by
 cases r with
 | agg cs=>
  obtain⟨x,w,h1,h2,h3⟩:=h;exact⟨x,w,by simp[cks,SV.part,h1,h2],h3⟩
 | _=>exact⟨_,v,rfl,h⟩
theorem b1r(g:Gh)(W:World):Keeps g W g.hide W:=⟨fun _=>cj _,fun _ _ _=>rfl,fun _ _ h=>h⟩
theorem SInv.hide(h:SInv g W st.S):SInv g.hide W st.S:=by
 refine⟨h.len,fun i x hx=>?_,fun b hb=>⟨(h.fresh b hb).1,by simp[Gh.hide,(h.fresh b hb).2,Own.hide]⟩⟩;obtain⟨b,h1,h2⟩:=h.box i x hx;refine⟨b,h1,h2.keep (b1r g W) fun c hc ho=>⟨rfl,?_,rfl⟩⟩;rcases ho with ho | ⟨j,e,_,ho⟩<;>simp[Gh.hide,ho,Own.hide]
theorem Base.hide(h:Base W0 g W):Base W0 g.hide W:=
 ⟨h.size,h.os,h.tape,h.output,fun b hb=>⟨by simp[Gh.hide,(h.ext b hb).1,Own.hide],(h.ext b hb).2⟩⟩
theorem Inv.back(hi:Inv g W a N L st){g':Gh}{W':World}(hE:Ext g.hide W g' W'){S':LB}(hS:SInv g' W' S')(d:Option Nat) :
  Ext g W (g.back g' d) W'∧Inv (g.back g' d) W' a N L {st with S:=S'}∧Keeps g' W' (g.back g' d) W'∧(∀b,(g.O b).hidden=false→(∀j,g'.O b≠.res j)→(g.back g' d).O b=g'.O b)∧(∀b,(g.O b).hidden=true→g'.O b=.ext):=by
 have hhid:∀b,(g.O b).hidden=true→g'.O b=.ext∧W'.heap[b]? = W.heap[b]?∧g'.T b=g.T b:=fun b hb=>hE.ext b (cmq hb)
 have hK:Keeps g W (g.back g' d) W':=⟨hE.T,hE.cell,hE.B⟩;have hK':Keeps g' W' (g.back g' d) W':=⟨fun _=>cj _,fun _ _ _=>rfl,fun _ _ h=>h⟩;have hO:∀b,(g.O b).hidden=false→(∀j,g'.O b≠.res j)→(g.back g' d).O b=g'.O b:=by
  intro b hb hn;have hn':∀j,g'.O b≠.res j:=hn;unfold Gh.back;simp only[hb,ck,if_false]
 have same:∀b,(g.O b).hidden=true→Same g W (g.back g' d) W' b:=by
  intro b hb;obtain⟨_,h2,h3⟩:=hhid b hb;exact⟨h2,by simp[Gh.back,hb],h3⟩
 have hX:Ext g W (g.back g' d) W':=by
  refine⟨hK,hE.size,hE.os,hE.tape,hE.output,fun b hb=>?_⟩;obtain⟨h1,h2,h3⟩:=hE.ext b (by simp[Gh.hide,hb,Own.hide]);exact⟨(hO b (by simp[hb,Own.hidden]) (by simp[h1])).trans h1,h2,h3⟩
 refine⟨hX,⟨hi.size,fun k=>(hi.slot k).keep hK,fun k e hk=>?_,fun d' x hx=>(hi.loc d' x hx).keep hK fun b hb ho=>same b ?_,?_⟩,hK',hO,fun b hb=>(hhid b hb).1⟩
 ·obtain⟨x,w,h1,h2⟩:=hi.own k e hk;exact⟨x,w,h1,h2.keep fun b hb ho=>same b (by rw[ho];rfl)⟩
 ·rcases ho with ho | ⟨j,e,_,ho⟩<;>rw[ho]<;>rfl
 ·refine⟨hS.len,fun i x hx=>?_,fun b hb=>?_⟩
  ·obtain⟨b,h1,h2⟩:=hS.box i x hx;refine⟨b,h1,h2.keep hK' fun c hc ho=>⟨rfl,hO c ?_ ?_,rfl⟩⟩
   ·cases hh:(g.O c).hidden with
    | false=>rfl
    | true=>
     rw[(hhid c hh).1]at ho;rcases ho with ho | ⟨_,_,_,ho⟩<;>cases ho
   ·intro j hj;rw[hj]at ho;rcases ho with ho | ⟨_,_,_,ho⟩<;>cases ho
  ·obtain⟨h1,h2⟩:=hS.fresh b hb;refine⟨h1,?_⟩;have hg:=hi.sh.fresh b (dg hE.size hb);rw[hO b (by simp[hg.2,Own.hidden]) (by simp[h2]),h2]
theorem dbq(hi:Inv g W a N L st)(hB:Base W0 g W){rec:Rec}(hrec:bbk P W0 rec)(o:Oper){f:FuncId}{args:LA}{vs:Array Value}{e:AEnd}{S':LB}(hr:rec f args st.S=some (e,S'))
  (hT:RT g W args vs.toList) (hrun:(bdp P f)→(execOp a.eval o).run P W=.ok (.enter f vs) W) {d:Option Nat} (hd:∀d',d=some d'→d'<N) (hod:o.dst=d) {x:AEx} {st':St} (hf:bch d st e S'=some (x,st'))
  {next:Act→World→Prop} {Q:Exit→Act→World→Prop}
  (hn:x=.normal→∀g' W' a' L',a'.defers=a.defers→Ext g W g' W'→Inv g' W' a' N L' st'→next a' W')
  (hp:∀v,x=.panic v→∀g' W' a' L' u,a'.defers=a.defers→Ext g W g' W'→Inv g' W' a' N L' st'→RV g' W' v u→Q (.panic [{v:=u,recovered:=false}]) a' W'):o.wp P a W next Q:=by
 obtain⟨hcall,hC⟩:=hrec f args st.S e S' hr;have hC':=hC g.hide W vs hB.hide (by
  have:∀{as:LA} {us:List Value},RT g W as us→RT g.hide W as us:=fun h=>bq5 (b1r g W) _ _ h
  exact this hT) hi.sh.hide (fun b=>c8r _)
 unfold Oper.wp;rw[hrun hcall];show Calls P f vs W _;refine hC'.mono fun e' W' hpost=>?_
 obtain⟨g',hE,hS,hcalm,hend⟩:=hpost;obtain⟨hX,hi',hK',hO,hhid⟩:=hi.back hE hS d;cases e with
 | ret r own=>
  obtain⟨v,rfl,hRV,hRt⟩:=hend;have hRV':=bdx hK' hRV;show next (a.put o.dst v) W'
  unfold bch at hf;cases d with
  | none=>
   simp only[normal,bd,bq]at hf;obtain⟨rfl,rfl⟩:=hf;rw[hod];exact hn rfl _ _ _ L rfl hX hi'
  | some d=>
   have hdN:=hd d rfl;rw[hod];cases own with
   | none=>
    simp only[normal,bd,bq]at hf;obtain⟨rfl,rfl⟩:=hf;exact hn rfl _ _ _ L rfl hX (hi'.put d hdN (.v r) v hRV')
   | some te=>
    have hi2:=hi'.put d hdN (cks r te) v (dk7 hRV' te);simp only[normal,bd,bq]at hf;obtain⟨rfl,rfl⟩:=hf;obtain⟨x,w,hp,hR⟩:=cqk (hRt te rfl);refine hn rfl _ _ _ L rfl hX (Inv.rightP (d:=d) hi2 (x:=x) (w:=w) (by rw[bjb (by rw[hi.size];exact hdN)];simpa[zq.get_set] using hp) ?_);obtain⟨sz,es,rfl,hR⟩:=hR;refine⟨sz,es,rfl,hR.imp id ?_⟩;rintro⟨b,cap,cur,q1,q2,q3,q4,q5,q6,q7⟩;refine⟨b,cap,cur,q1,q2,q3,q4,q5,?_,q7⟩;have hnh:(g.O b).hidden=false:=by
     cases hh:(g.O b).hidden with
     | false=>rfl
     | true=>rw[hhid b hh]at q6;cases q6
    simp only[Gh.back,hnh,ck,if_false,q6]
 | panic y=>
  obtain⟨u,rfl,hRV⟩:=hend;show Q (.panic [{v:=u,recovered:=false}]) a W';simp only[bch,bd,bq]at hf;obtain⟨rfl,rfl⟩:=hf;exact hp _ rfl _ _ _ L _ rfl hX hi' (bdx hK' hRV)
theorem dgb(hi:Inv g W a N L st)(hB:Base W0 g W){rec:Rec}(hrec:bbk P W0 rec)(o:Oper){f:FuncId}{args:LA}{vs:Array Value}{r:AV}{own:Option Nat}(hr:rec f args []=some (.ret r own,[]))(hcl:zd 0 args=true)
  (hT:RT g W args vs.toList) (hrun:(bdp P f)→(execOp a.eval o).run P W=.ok (.enter f vs) W) {d:Option Nat} (hd:∀d',d=some d'→d'<N) (hod:o.dst=d) {x:AEx} {st':St} (hf:bch d st (.ret r own) st.S=some (x,st'))
  {next:Act→World→Prop} {Q:Exit→Act→World→Prop}
  (hn:x=.normal→∀g' W' a' L',a'.defers=a.defers→Ext g W g' W'→Inv g' W' a' N L' st'→next a' W'):o.wp P a W next Q:=by
 obtain⟨hcall,hC⟩:=hrec f args [] _ _ hr
 let g0:Gh:={T:=g.T,B:=[],O:=fun b=>if g.O b=.free then .free else .ext}
 have hT0:RT g0 W args vs.toList:=bz9 (show Trunc 0 g g0 from⟨rfl,by simp[g0]⟩) hcl hT;have hB0:Base W0 g0 W:=⟨hB.size,hB.os,hB.tape,hB.output,fun b hb=>⟨by simp[g0,(hB.ext b hb).1],(hB.ext b hb).2⟩⟩;have hS0:SInv g0 W []:=⟨rfl,fun i x hx=>by simp at hx,fun b hb=>⟨(hi.sh.fresh b hb).1,by simp[g0,(hi.sh.fresh b hb).2]⟩⟩;have hC':=hC g0 W vs hB0 hT0 hS0 (fun b=>by
  show(if g.O b=.free then Own.free else Own.ext).calm;split<;>trivial)
 unfold Oper.wp;rw[hrun hcall];show Calls P f vs W _;refine hC'.mono fun e' W' hpost=>?_
 obtain⟨g',hE,hS,hcalm,hend⟩:=hpost
 let gb:Gh:={T:=g'.T,B:=g.B,O:=fun b=>if g.O b=.free then(match g'.O b with | .res _=>(match d with | some d=>.slot d | none=>.free) | _=>.free) else g.O b}
 have hext:∀b,g.O b≠.free→g'.O b=.ext∧W'.heap[b]? = W.heap[b]?∧g'.T b=g.T b:=fun b hb=>hE.ext b (by simp[g0,hb])
 have hgb:∀b,g.O b≠.free→gb.O b=g.O b:=fun b hb=>by simp[gb,hb]
 have hK:Keeps g W gb W':=⟨hE.T,hE.cell,fun _ _ h=>h⟩;have hX:Ext g W gb W':=⟨hK,hE.size,hE.os,hE.tape,hE.output,fun b hb=>by
  obtain⟨h1,h2,h3⟩:=hext b (by rw[hb];simp);exact⟨(hgb b (by rw[hb];simp)).trans hb,h2,h3⟩⟩
 have hi':Inv gb W' a N L st:=hi.keepX hK rfl .free (fun b hb hne=>by
  obtain⟨h1,h2,h3⟩:=hext b hne;exact⟨h2,hgb b hne,h3⟩) (fun b hb=>by
   have h1:=hS.fresh b hb;have h2:=hi.sh.fresh b (dg hE.size hb);exact⟨h1.1,by simp[gb,h1.2,h2.2]⟩) (b4k st)
 have hBn:g'.B=[]:=by have:=hS.len;simpa using this
 have hK':Keeps g' W' gb W':=⟨fun _=>cj _,fun _ _ _=>rfl,fun i b h=>by rw[hBn]at h;simp at h⟩;obtain⟨v,rfl,hRV,hRt⟩:=hend;have hRV':=bdx hK' hRV;show next (a.put o.dst v) W'
 unfold bch at hf;cases d with
 | none=>
  simp only[normal,bd,bq]at hf;obtain⟨rfl,rfl⟩:=hf;rw[hod];exact hn rfl _ _ _ L rfl hX hi'
 | some d=>
  have hdN:=hd d rfl;rw[hod];cases own with
  | none=>
   simp only[normal,bd,bq]at hf;obtain⟨rfl,rfl⟩:=hf;exact hn rfl _ _ _ L rfl hX (hi'.put d hdN (.v r) v hRV')
  | some te=>
   have hi2:=hi'.put d hdN (cks r te) v (dk7 hRV' te);simp only[normal,bd,bq]at hf;obtain⟨rfl,rfl⟩:=hf;obtain⟨x,w,hp,hR⟩:=cqk (hRt te rfl);refine hn rfl _ _ _ L rfl hX (Inv.rightP (d:=d) hi2 (x:=x) (w:=w) (by rw[bjb (by rw[hi.size];exact hdN)];simpa[zq.get_set] using hp) ?_);obtain⟨sz,es,rfl,hR⟩:=hR;refine⟨sz,es,rfl,hR.imp id ?_⟩;rintro⟨b,cap,cur,q1,q2,q3,q4,q5,q6,q7⟩;refine⟨b,cap,cur,q1,q2,q3,q4,q5,?_,q7⟩;have hnh:g.O b=.free:=by
    refine Classical.byContradiction fun hne=>?_
    rw[(hext b hne).1]at q6;cases q6
   show gb.O b=.slot d;simp[gb,hnh,q6]
end
end Go.Av
namespace Go.Av
open Go
def bp0(P:Program)(t e:TypeId):Bool:=match P.underlying t with | some (.slice e')=>e==e' | _=>false
def bvr(P:Program)(t:TypeId):Bool:=match P.underlying t with | some (.slice _)=>true | _=>false
def ccz(P:Program)(t:TypeId):Bool:=match P.underlying t with | some .string=>true | _=>false
theorem bmz{P:Program}{t e:TypeId}(h:bp0 P t e=true):P.underlying t=some (.slice e):=by
 unfold bp0 at h;split at h
 ·rename_i e' he;rw[he];simp at h;rw[h]
 ·cases h
theorem b1m{P:Program}{t:TypeId}(h:bvr P t=true):∃e,P.underlying t=some (.slice e):=by
 unfold bvr at h;split at h
 ·rename_i e' he;exact⟨e',he⟩
 ·cases h
theorem bqm{P:Program}{t:TypeId}(h:ccz P t=true):P.underlying t=some .string:=by
 unfold ccz at h;split at h
 ·assumption
 ·cases h
def cc3(P:Program)(t:TypeId)(f off:Nat):Option TypeId:=
 match P.underlying t with
 | some (.struct fs)=>match fs[f]? with
  | some fl=>if fl.offset=off then some fl.type else none
  | none=>none
 | _=>none
theorem b9b{P:Program}{t:TypeId}{f off:Nat}{u:TypeId}(h:cc3 P t f off=some u):∃fs fl,P.underlying t=some (.struct fs)∧fs[f]? = some fl∧fl.offset=off∧fl.type=u:=by
 unfold cc3 at h;split at h
 ·rename_i fs hu;split at h
  ·rename_i fl hf;split at h
   ·rename_i ho;exact⟨fs,fl,hu,hf,ho,by simpa using h⟩
   ·cases h
  ·cases h
 ·cases h
def b6g(P:Program)(t:TypeId)(len:Nat):Option TypeId:=
 match P.underlying t with
 | some (.array n e)=>if n=len then some e else none
 | _=>none
theorem b16{P:Program}{t:TypeId}{len:Nat}{e:TypeId}(h:b6g P t len=some e):P.underlying t=some (.array len e):=by
 unfold b6g at h;split at h
 ·rename_i n e' hu;split at h
  ·rename_i hn;subst hn;rw[hu];simpa using h
  ·cases h
 ·cases h
def b9h(P:Program)(e sz bytes:Nat)(z:Option (LA)):Bool:=
 match P.info? e with
 | some it=>match it.zero with
  | some zz=>it.size==sz&&it.bytes==bytes&&zz.cells.size==sz&&decide (0<sz)&&decide (0<bytes)&&(match z with | some z=>bcs z zz.cells.toList | none=>true)
  | none=>false
 | none=>false
theorem bzr{P:Program}{e sz bytes:Nat}{z:Option (LA)}(h:b9h P e sz bytes z=true) :
  ∃it zz,P.info? e=some it∧it.zero=some zz∧it.size=sz∧it.bytes=bytes∧zz.cells.size=sz∧0<sz∧0<bytes∧(∀l,z=some l→bcs l zz.cells.toList=true):=by
 unfold b9h at h;split at h
 ·rename_i it hit;split at h
  ·rename_i zz hz;simp only[bp,beq_iff_eq,decide_eq_true_eq]at h;obtain⟨⟨⟨⟨⟨h1,h2⟩,h3⟩,h4⟩,h5⟩,h6⟩:=h;exact⟨it,zz,hit,hz,h1,h2,h3,h4,h5,fun l hl=>by subst hl;exact h6⟩
  ·cases h
 ·cases h
def cpt:AV→Value→Bool
 | .agg cs,.agg a=>bcs cs a.toList
 | z,zz=>bm9 z zz
theorem c0p{z:AV}{zz:Value}(h:cpt z zz=true)(g:Gh)(W:World):RV g W z zz:=by
 unfold cpt at h;split at h
 ·rename_i cs a;have:=dcs (bk7 h g W);simpa using this
 ·exact(bzx h g W).2.2
def c0m(P:Program)(t:TypeId)(z:AV):Bool:=match P.info? t with
 | some it=>(match it.zero with | some zz=>cpt z zz | none=>false)
 | none=>false
theorem c0k{P:Program}{t:TypeId}{z:AV}(h:c0m P t z=true):∃it zz,P.info? t=some it∧it.zero=some zz∧cpt z zz=true:=by
 unfold c0m at h;split at h
 ·rename_i it hit;split at h
  ·rename_i zz hz;exact⟨it,zz,hit,hz,h⟩
  ·cases h
 ·cases h
def mMap(P:Program)(t:TypeId)(kd:Option IntKind)(z:Option AV):Bool:=
 match P.underlying t with
 | some (.map kt et)=>
  (match P.underlying kt,kd with
   | some .string,none=>true
   | some (.int k),some k'=>decide (k=k')
   | _,_=>false) &&
  (match z with
   | some z=>(match P.info? et with
    | some it=>(match it.zero with | some zz=>bm9 z zz | none=>false)
    | none=>false)
   | none=>true)
 | _=>false
theorem ck3{P:Program}{t:TypeId}{kd:Option IntKind}{z:Option AV}(h:mMap P t kd z=true) :
  ∃kt et,P.underlying t=some (.map kt et)∧P.underlying kt=some (bp1 kd)∧∀w,z=some w→∃it zz,P.info? et=some it∧it.zero=some zz∧bm9 w zz=true:=by
 unfold mMap at h;split at h
 ·rename_i kt et ht;rw[bp]at h;obtain⟨h1,h2⟩:=h;refine⟨kt,et,ht,?_,fun w hw=>?_⟩
  ·split at h1
   ·rename_i hk;rw[hk];rfl
   ·rename_i k k' hk;rw[hk];obtain rfl:k=k':=by simpa using h1
    rfl
   ·cases h1
  ·subst hw;simp only at h2;split at h2
   ·rename_i it hit;split at h2
    ·rename_i zz hzz;exact⟨it,zz,hit,hzz,h2⟩
    ·cases h2
   ·cases h2
 ·cases h
def mOp(P:Program):AOp→Op→Bool
 | .mov _ x _,.move y | .mov _ x _,.assign y=>bb1 x y
 | .nils _ _ _,.move (.const (.slice none 0 0)) | .nils _ _ _,.assign (.const (.slice none 0 0))=>true
 | .pick _ c x y,.pick c' x' y'=>bb1 c c'&&bb1 x x'&&bb1 y y'
 | .box _ _ x _,.box _ y=>bb1 x y
 | .alloc _ _ z own,.alloc t=>match brb P t with | some zv=>bcs z zv&&bx4 z zv own | none=>false
 | .load _ n ag x,.load t y=>b0g P t==some ag&&bxg P t==some n&&bb1 x y
 | .take _ x,.load t y=>b0g P t==some false&&bb1 x y
 | .store x y n _ _,.store t x' y'=>bxg P t==some n&&bb1 x x'&&bb1 y y'
 | .bin _ op x y,.binOp op' _ x' y' _=>decide (op=op')&&bb1 x x'&&bb1 y y'
 | .eqb _ neg x y,.binOp op t x' y' _=>decide (op=if neg then .neq else .eql)&&(match P.underlying t with | some .bool=>true | _=>false)&&bb1 x x'&&bb1 y y'
 | .un _ op x,.unOp op' _ x'=>decide (op=op')&&bb1 x x'
 | .convI _ k x,.convert src dst x'=>(P.underlying src).isSome&&(match P.underlying dst with | some (.int k')=>decide (k=k') | _=>false)&&bb1 x x'
 | .convB _ x,.convert src dst x'=>(match P.underlying src with | some (.slice e)=>(match P.underlying e with | some (.int .u8)=>true | _=>false) | _=>false)&&ccz P dst&&bb1 x x'
 | .convS _ x,.convert src dst x'=>(P.underlying src).isSome&&ccz P dst&&bb1 x x'
 | .mkfn _ fn f c,.makeFunc fn' f' c'=>decide (fn=fn')&&b3p f f'.toList&&b3p c c'.toList
 | .extract _ x j,.extract x' j'=>j==j'&&bb1 x x'
 | .field _ off n ag x,.field t x' f=>match cc3 P t f off with | some u=>b0g P u==some ag&&bxg P u==some n&&bb1 x x' | none=>false
 | .faddr _ off x,.fieldAddr t x' f=>match cc3 P t f off with | some u=>(match bxg P u with | some n=>n != 0 | none=>false)&&bb1 x x' | none=>false
 | .iaddrA _ len sz x i,.indexAddr t x' i'=>match b6g P t len with | some e=>bxg P e==some sz&&bb1 x x'&&bb1 i i' | none=>false
 | .iaddrS _ sz x i,.indexAddr t x' i'=>match P.underlying t with | some (.slice e)=>bxg P e==some sz&&bb1 x x'&&bb1 i i' | _=>false
 | .idxS _ x i,.index t x' i'=>ccz P t&&bb1 x x'&&bb1 i i'
 | .idxA _ len sz ag x i,.index t x' i'=>match b6g P t len with | some e=>b0g P e==some ag&&bxg P e==some sz&&bb1 x x'&&bb1 i i' | none=>false
 | .slice _ sz x lo hi,.slice t x' lo' hi' none=>match P.underlying t with | some (.slice e)=>bxg P e==some sz&&bb1 x x'&&btr lo lo'&&btr hi hi' | _=>false
 | .sliceS _ x lo hi,.slice t x' lo' hi' none=>ccz P t&&bb1 x x'&&btr lo lo'&&btr hi hi'
 | .sliceA _ len sz ag x lo hi,.slice t x' lo' hi' none=>match b6g P t len with | some e=>bxg P e==some sz&&(ag||sz==1)&&bb1 x x'&&btr lo lo'&&btr hi hi' | none=>false
 | .build _ z xs,.build t ys=>match bst P t,brb P t with | some pl,some zv=>bcs z zv&&bt3 pl xs ys.toList | _,_=>false
 | .buildR _ z xs j k,.build t ys=>match bst P t,brb P t with | some pl,some zv=>bcs z zv&&bt3 pl (xs++[(j,1,.s k)]) ys.toList | _,_=>false
 | .bslice _ sz e xs,.buildSlice t n ys=>bp0 P t e&&bxg P e==some sz&&(brb P e).isSome&&decide (0<sz)&&n==xs.length&&decide (n*sz≤2 ^ 24)&&b5t 0 xs ys.toList
 | .nilchk _ x,.nilCheck x'=>bb1 x x'
 | .mkif _ t x,.makeInterface t' x'=>t==t'&&b74 P t&&bb1 x x'
 | .tassert _ t ok z x,.typeAssert x' _ t' ok'=>t==t'&&ok==ok'&&b74 P t&&c0m P t z&&bb1 x x'
 | .len _ str x,.call {callee:=.builtin .len,args:=⟨[x']⟩,argTypes:=⟨[t]⟩}=>(if str then ccz P t else bvr P t)&&bb1 x x'
 | .mm _ mx x y,.call {callee:=.builtin b,args:=⟨[x',y']⟩,argTypes:=_}=>decide (b=if mx then .max else .min)&&bb1 x x'&&bb1 y y'
 | .append _ sz e bytes x y,.call {callee:=.builtin .append,args:=⟨[x',y']⟩,argTypes:=⟨[t,tx]⟩}=>bp0 P t e&&(bvr P tx||ccz P tx)&&b9h P e sz bytes none&&bb1 x x'&&bb1 y y'
 | .make _ sz e bytes z x y,.makeSlice t x' y'=>bp0 P t e&&b9h P e sz bytes (some z)&&bb1 x x'&&bb1 y y'
 | .makeL _ sz bytes ag z x y,.makeSlice t x' y'=>(match P.underlying t with | some (.slice e)=>b9h P e sz bytes (some z) | _=>false)&&(ag||sz==1)&&bb1 x x'&&bb1 y y'
 | .cloneL _ sz e bytes ag x y,.call {callee:=.builtin .append,args:=⟨[x',y']⟩,argTypes:=⟨[t,tx]⟩}=>bp0 P t e&&(bvr P tx||ccz P tx)&&b9h P e sz bytes none&&(ag||sz==1)&&bb1 x x'&&bb1 y y'
 | .makeMap _,.makeMap _ none=>true
 | .lookup _ ok kd z x k,.lookup t x' k' ok'=>ok==ok'&&mMap P t kd (some z)&&bb1 x x'&&bb1 k k'
 | .mapUpd kd x k v,.mapUpdate t x' k' v'=>mMap P t kd none&&bb1 x x'&&bb1 k k'&&bb1 v v'
 | .mapUpd kd x k v,.insert t x' k' v'=>mMap P t kd none&&bb1 x x'&&bb1 k k'&&bb1 v v'
 | .eqnil _ neg cls x,.binOp op t x' (.const z) _=>decide (op=if neg then .neq else .eql)&&dgh P t cls z&&bb1 x x'
 | .eqagg _ neg ks x y,.binOp op t x' y' _=>decide (op=if neg then .neq else .eql)&&c6c P t ks&&bb1 x x'&&bb1 y y'
 | .call _ f xs,.call {callee:=.value (.func f'),args:=ys,argTypes:=_}=>f==f'&&b3p xs ys.toList
 | .callv _ c xs,.call {callee:=.value c',args:=ys,argTypes:=_}=>bb1 c c'&&b3p xs ys.toList
 | .panic x,.panic x'=>bb1 x x'
 | _,_=>false
def b1d(N:Nat):Option Nat→Option Nat→Bool
 | some d,some d'=>d==d'&&decide (d<N)
 | none,none=>true
 | _,_=>false
section
variable{P:Program}{W0:World}{g:Gh}{W:World}{a:Act}{N:Nat}{L:Nat→Nat}{st:St}
theorem cgh{d:Option Nat}(h:b1d N none d=true):d=none:=by
 cases d with
 | none=>rfl
 | some d=>simp[b1d]at h
theorem aop_ok(hi:Inv g W a N L st)(o:Oper){ao:AOp}(hm:mOp P ao o.op=true)(hdst:b1d N ao.dst o.dst=true){rec:Rec}{x:AEx}{st':St}(h:aop rec st ao=some (x,st'))
  (hnc:(∀d f xs,ao≠.call d f xs)∧(∀d c xs,ao≠.callv d c xs)∧∀x,ao≠.panic x):x=.normal∧b2g P o a g W N L st':=by
 have pd:∀{s:SV},(∃d,ao.dst=some d∧bbb st ao=some s∧x=.normal∧st'=st.put d s)→(∀s,bbb st ao=some s→∃v,zp P o a W v W∧SVR g W L s v)→x=.normal∧b2g P o a g W N L st':=by
  rintro s ⟨d,h1,h2,rfl,rfl⟩ h3;rw[h1]at hdst;cases hod:o.dst with
  | none=>rw[hod]at hdst;simp[b1d]at hdst
  | some d'=>
   rw[hod]at hdst;simp only[b1d,bp,beq_iff_eq,decide_eq_true_eq]at hdst;obtain⟨rfl,hN⟩:=hdst;obtain⟨v,q1,q2⟩:=h3 s h2;exact⟨rfl,bjm hi o hN hod q1 q2⟩
 have hdd:∀{d:Nat},ao.dst=some d→d<N∧o.dst=some d:=by
  intro d h1;rw[h1]at hdst;cases hod:o.dst with
  | none=>rw[hod]at hdst;simp[b1d]at hdst
  | some d'=>
   rw[hod]at hdst;simp only[b1d,bp,beq_iff_eq,decide_eq_true_eq]at hdst;obtain⟨rfl,hN⟩:=hdst;exact⟨hN,rfl⟩
 have hdn:ao.dst=none→o.dst=none:=by
  intro h1;rw[h1]at hdst;cases hod:o.dst with
  | none=>rfl
  | some d'=>rw[hod]at hdst;simp[b1d]at hdst
 have hp:∀{d:Nat},ao.dst=some d→(aop rec st ao=match bbb st ao,ao.dst with | some s,some d=>normal (st.put d s) | _,_=>none)→∃s,∃d,ao.dst=some d∧bbb st ao=some s∧x=.normal∧st'=st.put d s:=by
  intro d h1 h2;rw[h2,h1]at h;cases hs:bbb st ao with
  | none=>rw[hs]at h;simp at h
  | some s=>
   rw[hs]at h;simp only[normal,bd,bq]at h;exact⟨s,d,h1,rfl,h.1.symm,h.2.symm⟩
 unfold mOp at hm;split at hm<;>(try (cases hm;done))
 ·rename_i d x0 tk y ho;obtain⟨h1,h2⟩:=hdd rfl;exact dmf hi o hm h1 h2 (.inl ho) h
 ·rename_i d x0 tk y ho;obtain⟨h1,h2⟩:=hdd rfl;exact dmf hi o hm h1 h2 (.inr ho) h
 ·rename_i d s e ho;obtain⟨h1,h2⟩:=hdd rfl;exact c5k hi o h1 h2 (.inl ho) h
 ·rename_i d s e ho;obtain⟨h1,h2⟩:=hdd rfl;exact c5k hi o h1 h2 (.inr ho) h
 ·rename_i d c x0 y c' x' y' ho;simp only[bp]at hm;obtain⟨s,hs⟩:=hp rfl rfl;exact pd hs fun s h=>dqp hi o hm.1.1 hm.1.2 hm.2 ho h
 ·rename_i d sh x0 t y ho;obtain⟨h1,h2⟩:=hdd rfl;exact box_ok hi o hm h1 h2 ho h
 ·rename_i d sh z own t ho;obtain⟨h1,h2⟩:=hdd rfl;split at hm
  ·rename_i zv hz;simp only[bp]at hm;exact dkh hi o hz hm.1 hm.2 h1 h2 ho h
  ·cases hm
 ·rename_i d n ag x0 t y ho;simp only[bp,beq_iff_eq]at hm;obtain⟨s,hs⟩:=hp rfl rfl;exact pd hs fun s h=>drt hi o hm.1.1 hm.1.2 hm.2 ho h
 ·rename_i d x0 t y ho;simp only[bp,beq_iff_eq]at hm;obtain⟨h1,h2⟩:=hdd rfl;exact dpv hi o hm.2 hm.1 h1 h2 ho h
 ·rename_i x0 y n tk nl t x' y' ho;simp only[bp,beq_iff_eq]at hm;exact dfc hi o hm.1.2 hm.2 hm.1.1 (hdn rfl) ho h
 ·rename_i d op x0 y op' t x' y' t' ho;simp only[bp,decide_eq_true_eq]at hm;obtain⟨⟨rfl,hx⟩,hy⟩:=hm;obtain⟨s,hs⟩:=hp rfl rfl;exact pd hs fun s h=>bin_ok hi o hx hy ho h
 ·rename_i d neg x0 y op t x' y' t' ho;simp only[bp,decide_eq_true_eq]at hm;obtain⟨⟨⟨rfl,ht⟩,hx⟩,hy⟩:=hm;have ht':P.underlying t=some .bool:=by split at ht<;>first | assumption | (cases ht;done)
  obtain⟨s,hs⟩:=hp rfl rfl;exact pd hs fun s h=>eqb_ok hi o hx hy ht' ho h
 ·rename_i d op x0 op' t x' ho;simp only[bp,decide_eq_true_eq]at hm;obtain⟨rfl,hx⟩:=hm;obtain⟨s,hs⟩:=hp rfl rfl;exact pd hs fun s h=>un_ok hi o hx ho h
 ·rename_i d k x0 src dst x' ho;simp only[bp]at hm;obtain⟨⟨h1,h2⟩,hx⟩:=hm;obtain⟨ds,h1⟩:=pr.1 h1;have h2':P.underlying dst=some (.int k):=by
   split at h2
   ·rename_i k' hk;rw[hk];simp at h2;rw[h2]
   ·cases h2
  obtain⟨s,hs⟩:=hp rfl rfl;exact pd hs fun s h=>dj0 hi o hx h1 h2' ho h
 ·rename_i d x0 src dst x' ho;simp only[bp]at hm;obtain⟨⟨h1,h2⟩,hx⟩:=hm;obtain⟨s,hs⟩:=hp rfl rfl;split at h1
  ·rename_i e hse;split at h1
   ·rename_i he;exact pd hs fun s h=>dj1 hi o hx hse he (bqm h2) ho h
   ·cases h1
  ·cases h1
 ·rename_i d x0 src dst x' ho;simp only[bp]at hm;obtain⟨⟨h1,h2⟩,hx⟩:=hm;obtain⟨ds,h1⟩:=pr.1 h1;obtain⟨s,hs⟩:=hp rfl rfl;exact pd hs fun s h=>djz hi o hx h1 (bqm h2) ho h
 ·rename_i d fn f c fn' f' c' ho;simp only[bp,decide_eq_true_eq]at hm;obtain⟨⟨rfl,hf⟩,hc⟩:=hm;obtain⟨s,hs⟩:=hp rfl rfl;exact pd hs fun s h=>dq7 hi o hf hc ho h
 ·rename_i d x0 j x' j' ho;simp only[bp,beq_iff_eq]at hm;obtain⟨rfl,hx⟩:=hm;obtain⟨s,hs⟩:=hp rfl rfl;exact pd hs fun s h=>czh hi o hx ho h
 ·rename_i d off n ag x0 t x' f ho;split at hm
  ·rename_i u hu;obtain⟨fs,fl,q1,q2,q3,rfl⟩:=b9b hu;simp only[bp,beq_iff_eq]at hm;obtain⟨s,hs⟩:=hp rfl rfl;exact pd hs fun s h=>dh6 hi o hm.2 q1 q2 q3 hm.1.1 hm.1.2 ho h
  ·cases hm
 ·rename_i d off x0 t x' f ho;split at hm
  ·rename_i u hu;obtain⟨fs,fl,q1,q2,q3,rfl⟩:=b9b hu;simp only[bp]at hm;obtain⟨h1,hx⟩:=hm;split at h1
   ·rename_i n hn;obtain⟨s,hs⟩:=hp rfl rfl;exact pd hs fun s h=>dh7 hi o hx q1 q2 q3 hn (by simpa using h1) ho h
   ·cases h1
  ·cases hm
 ·rename_i d len sz x0 i t x' i' ho;split at hm
  ·rename_i e he;simp only[bp,beq_iff_eq]at hm;obtain⟨s,hs⟩:=hp rfl rfl;exact pd hs fun s h=>c8q hi o hm.1.2 hm.2 (b16 he) hm.1.1 ho h
  ·cases hm
 ·rename_i d sz x0 i t x' i' ho;split at hm
  ·rename_i e he;simp only[bp,beq_iff_eq]at hm;obtain⟨s,hs⟩:=hp rfl rfl;exact pd hs fun s h=>c8p hi o hm.1.2 hm.2 he hm.1.1 ho h
  ·cases hm
 ·rename_i d x0 i t x' i' ho;simp only[bp]at hm;obtain⟨s,hs⟩:=hp rfl rfl;exact pd hs fun s h=>dsd hi o hm.1.2 hm.2 (bqm hm.1.1) ho h
 ·rename_i d len sz ag x0 i t x' i' ho;split at hm
  ·rename_i e he;simp only[bp,beq_iff_eq]at hm;obtain⟨s,hs⟩:=hp rfl rfl;exact pd hs fun s h=>dsf hi o hm.1.2 hm.2 (b16 he) hm.1.1.1 hm.1.1.2 ho h
  ·cases hm
 ·rename_i d sz x0 lo hh t x' lo' hh' ho;split at hm
  ·rename_i e he;simp only[bp,beq_iff_eq]at hm;obtain⟨s,hs⟩:=hp rfl rfl;exact pd hs fun s h=>dfp hi o hm.1.1.2 hm.1.2 hm.2 he hm.1.1.1 ho h
  ·cases hm
 ·rename_i d x0 lo hh t x' lo' hh' ho;simp only[bp]at hm;obtain⟨s,hs⟩:=hp rfl rfl;exact pd hs fun s h=>c3b hi o hm.1.1.2 hm.1.2 hm.2 (bqm hm.1.1.1) ho h
 ·rename_i d len sz ag x0 lo hh t x' lo' hh' ho;split at hm
  ·rename_i e he;simp only[bp,beq_iff_eq,d8]at hm;obtain⟨⟨⟨⟨q1,q2⟩,q3⟩,q4⟩,q5⟩:=hm;obtain⟨s,hs⟩:=hp rfl rfl;exact pd hs fun s h=>c3c hi o q3 q4 q5 (b16 he) q1 (fun h=>by
    rcases q2 with q | q
    ·rw[h]at q;cases q
    ·exact q) ho h
  ·cases hm
 ·rename_i d z xs t ys ho;split at hm
  ·rename_i pl zv hpl hz;simp only[bp]at hm;obtain⟨s,hs⟩:=hp rfl rfl;exact pd hs fun s h=>dj9 hi o hpl hz hm.1 hm.2 ho h
  ·cases hm
 ·rename_i d z xs j k t ys ho;split at hm
  ·rename_i pl zv hpl hz;simp only[bp]at hm;obtain⟨h1,h2⟩:=hdd rfl;exact dbx hi o hpl hz hm.1 hm.2 ho h1 h2 h
  ·cases hm
 ·rename_i d sz e xs t n ys ho;simp only[bp,beq_iff_eq,decide_eq_true_eq]at hm;obtain⟨⟨⟨⟨⟨⟨q1,q2⟩,q3⟩,q4⟩,rfl⟩,q6⟩,q7⟩:=hm;obtain⟨zv,q3⟩:=pr.1 q3;obtain⟨h1,h2⟩:=hdd rfl;exact dbz hi o (bmz q1) q2 q3 q7 q6 q4 h1 h2 ho h
 ·rename_i d x0 x' ho;obtain⟨s,hs⟩:=hp rfl rfl;exact pd hs fun s h=>c5m hi o hm ho h
 ·rename_i d t x0 t' x' ho;simp only[bp,beq_iff_eq]at hm;obtain⟨⟨rfl,ht⟩,hx⟩:=hm;obtain⟨s,hs⟩:=hp rfl rfl;exact pd hs fun s h=>dq6 hi o hx ht ho h
 ·rename_i d t ok z x0 x' xt t' ok' ho;simp only[bp,beq_iff_eq]at hm;obtain⟨⟨⟨⟨rfl,rfl⟩,ht⟩,hz⟩,hx⟩:=hm;obtain⟨it,zz,z1,z2,z3⟩:=c0k hz;obtain⟨s,hs⟩:=hp rfl rfl;exact pd hs fun s h=>ctd hi o hx ht z1 z2 (c0p z3 g W) ho h
 ·rename_i d str x0 x' t ho;simp only[bp]at hm;obtain⟨s,hs⟩:=hp rfl rfl;refine pd hs fun s h=>len_ok hi o hm.2 ?_ ho h
  have h1:=hm.1;cases str
  ·exact b1m (by simpa using h1)
  ·exact bqm (by simpa using h1)
 ·rename_i d mx x0 y b x' y' ts ho;simp only[bp,decide_eq_true_eq]at hm;obtain⟨⟨rfl,hx⟩,hy⟩:=hm;obtain⟨s,hs⟩:=hp rfl rfl;exact pd hs fun s h=>mm_ok hi o hx hy ho h
 ·rename_i d sz e bytes x0 y x' y' t tx ho;simp only[bp,d8]at hm;obtain⟨⟨⟨⟨q1,q2⟩,q3⟩,q4⟩,q5⟩:=hm;obtain⟨it,zz,p1,p2,p3,p4,p5,p6,p7,_⟩:=bzr q3;obtain⟨h1,h2⟩:=hdd rfl;exact dcd hi o q4 q5 (bmz q1) (q2.imp b1m bqm) p1 p2 p3 p4 p5 p6 p7 h1 h2 ho h
 ·rename_i d sz e bytes z x0 y t x' y' ho;simp only[bp]at hm;obtain⟨⟨⟨q1,q3⟩,q4⟩,q5⟩:=hm;obtain⟨it,zz,p1,p2,p3,p4,p5,p6,p7,p8⟩:=bzr q3;obtain⟨h1,h2⟩:=hdd rfl;exact drb hi o q4 q5 (bmz q1) p1 p2 p3 p4 (p8 z rfl) p5 p6 p7 h1 h2 ho h
 ·rename_i d sz bytes ag z x0 y t x' y' ho;simp only[bp]at hm;obtain⟨⟨⟨q1,q2⟩,q4⟩,q5⟩:=hm;split at q1
  ·rename_i e he;obtain⟨it,zz,p1,p2,p3,p4,p5,p6,p7,p8⟩:=bzr q1;obtain⟨h1,h2⟩:=hdd rfl;exact dg0 hi o q4 q5 he p1 p2 p3 p4 (p8 z rfl) p5 p6 p7 (fun hag=>by subst hag;simpa using q2) h1 h2 ho h
  ·cases q1
 ·rename_i d sz e bytes ag x0 y x' y' t tx ho;simp only[bp,d8]at hm;obtain⟨⟨⟨⟨⟨q1,q2⟩,q3⟩,q6⟩,q4⟩,q5⟩:=hm;obtain⟨it,zz,p1,p2,p3,p4,p5,p6,p7,_⟩:=bzr q3;obtain⟨h1,h2⟩:=hdd rfl;exact dbg hi o q4 q5 (bmz q1) (q2.imp b1m bqm) p1 p2 p3 p4 p5 p6 p7 (fun hag=>by subst hag;simpa using q6) h1 h2 ho h
 ·rename_i d t ho;obtain⟨h1,h2⟩:=hdd rfl;exact cv1 hi o h1 h2 ho h
 ·rename_i d ok kd z x0 k t x' k' ok' ho;simp only[bp,beq_iff_eq]at hm;obtain⟨⟨⟨rfl,q1⟩,q2⟩,q3⟩:=hm;obtain⟨kt,et,p1,p2,p3⟩:=ck3 q1;obtain⟨it,zz,p4,p5,p6⟩:=p3 z rfl;obtain⟨h1,h2⟩:=hdd rfl;exact c6h hi o q2 q3 p1 p2 p4 p5 p6 h1 h2 ho h
 ·rename_i kd x0 k v t x' k' v' ho;simp only[bp]at hm;obtain⟨⟨⟨q1,q2⟩,q3⟩,q4⟩:=hm;obtain⟨kt,et,p1,p2,_⟩:=ck3 q1;exact cgg hi o q2 q3 q4 p1 p2 (cgh hdst) (.inl ho) h
 ·rename_i kd x0 k v t x' k' v' ho;simp only[bp]at hm;obtain⟨⟨⟨q1,q2⟩,q3⟩,q4⟩:=hm;obtain⟨kt,et,p1,p2,_⟩:=ck3 q1;exact cgg hi o q2 q3 q4 p1 p2 (cgh hdst) (.inr ho) h
 ·rename_i d neg cls x0 op t x' z t' ho;simp only[bp,decide_eq_true_eq]at hm;obtain⟨⟨rfl,hc⟩,hx⟩:=hm;obtain⟨s,hs⟩:=hp rfl rfl;exact pd hs fun s h=>djc hi o hx hc ho h
 ·rename_i d neg ks x0 y op t x' y' t' ho;simp only[bp,decide_eq_true_eq]at hm;obtain⟨⟨⟨rfl,hc⟩,hx⟩,hy⟩:=hm;obtain⟨s,hs⟩:=hp rfl rfl;exact pd hs fun s h=>djd hi o hx hy hc ho h
 ·rename_i d f xs f' ys ts ho;exact absurd rfl (hnc.1 d f xs)
 ·rename_i d c xs c' ys ts ho;exact absurd rfl (hnc.2.1 d c xs)
 ·rename_i x0 x' ho;exact absurd rfl (hnc.2.2 x0)
end
end Go.Av
