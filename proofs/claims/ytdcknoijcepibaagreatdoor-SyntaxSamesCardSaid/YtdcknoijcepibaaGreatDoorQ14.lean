/- Part of a proof of syntax_sames. -/
import Derived.Test.YtdcknoijcepibaaGreatDoorQ7
import Derived.Test.YtdcknoijcepibaaGreatDoorQ4
import Derived.Test.YtdcknoijcepibaaGreatDoorQ8
import Derived.Test.YtdcknoijcepibaaGreatDoorQ3
import Derived.Lib.ParseIntBTie
import Derived.Lib.AtoiErrMem
set_option maxRecDepth 1000000
set_option linter.unusedSimpArgs false
set_option linter.unusedVariables false
namespace Go.Av
open Go Go.Proofs Go.RowKit Go.Sort
structure LaidV (W : World) : Prop where
  pow : Lib.TabIs Tryz.prog W "internal/strconv.uint64pow10" .u64 Lib.pow10Tab
  spc : Lib.TabIs Tryz.prog W "strings.asciiSpace" .u8 Lib.asciiSpaceTab
  wht : Lib.WhiteTab 2 W
  syn : ∃ tp p, W.var? Tryz.prog "strconv.ErrSyntax" = some #[.iface tp p]
  rng : ∃ tp p, W.var? Tryz.prog "strconv.ErrRange" = some #[.iface tp p]
  rep : ∃ m,W.cell? ⟨1,0,none⟩ = some (.int .i64 m)
  utf : Lib.Utf8Tabs 3 4 W
theorem var_same {P : Program} {W0 w : World} (h : ∀ b,b < W0.heap.size→w.heap[b]? = W0.heap[b]?) {n : String} {cs : Array Value} (hv : W0.var? P n = some cs) : w.var? P n = some cs:=by
  unfold World.var? at hv ⊢
  cases hg : P.globalNamed n with
  | none=>rw [hg] at hv; cases hv
  | some g =>
    rw [hg] at hv
    simp only [Option.bind_some] at hv ⊢
    have hlt : g < W0.heap.size:=by
      rcases Nat.lt_or_ge g W0.heap.size with h' | h'
      · exact h'
      · simp [Array.getElem?_eq_none h'] at hv
    rw [h g hlt]; exact hv
theorem cell_same {W0 w : World} (h : ∀ b,b < W0.heap.size→w.heap[b]? = W0.heap[b]?) {b o : Nat} {v : Value} (hv : W0.cell? ⟨b,o,none⟩ = some v) : w.cell? ⟨b,o,none⟩ = some v:=by
  have hlt : b < W0.heap.size:=by
    rcases Nat.lt_or_ge b W0.heap.size with h' | h'
    · exact h'
    · unfold World.cell? at hv; simp [Array.getElem?_eq_none h'] at hv
  rw [World.cell?_of_block (w:=W0) (h b hlt)]; exact hv
theorem below_grow (w : World) (k : Nat) (os : Array Obj) : Below w.heap.size w (grow (w.drewN k) os):=by
  have h : ∀ k,Below w.heap.size w (w.drewN k):=by
    intro k
    induction k with
    | zero=>exact Below.refl _ _
    | succ k ih=>exact ih.drew
  have h1:=h k
  refine ⟨h1.os,h1.tape,h1.output,Nat.le_trans h1.size (by simp [grow]),fun b hb=>?_⟩
  rw [← h1.block b hb]
  have : b < (w.drewN k).heap.size:=Nat.lt_of_lt_of_le hb h1.size
  simp only [grow]
  rw [Array.getElem?_append_left this]
theorem white_same {W0 w : World} (h : ∀ b,b < W0.heap.size→w.heap[b]? = W0.heap[b]?) (hv : Lib.WhiteTab 2 W0) : Lib.WhiteTab 2 w:=by
  obtain ⟨T,oT,R,oR,h1,h2,h3,h4,h5⟩:=hv
  exact ⟨T,oT,R,oR,cell_same h h1,cell_same h h2,cell_same h h3,cell_same h h4,fun i hi=>cell_same h (h5 i hi)⟩
theorem sound55 (W0 : World) : SoundFun Tryz.prog W0 55 xJoin:=ext_join (callable Tryz.func55 (by kernel_rfl) (by kernel_rfl)) Tryz.strings_Join_none Tryz.strings_Join
theorem sound126 {W0 : World} (hL : LaidV W0) : SoundFun Tryz.prog W0 126 xFormatInt :=
  ext_formatInt (callable Tryz.func126 (by kernel_rfl) (by kernel_rfl)) (fun n w h0 h1 hw=>(Tryz.strconv_FormatInt_10 n h0 h1 w (var_same hw hL.pow)).mono fun e w' ⟨he,k,os,hg⟩=>⟨he,hg ▸ below_grow w k os⟩)
theorem sound161 {W0 : World} (hL : LaidV W0) : SoundFun Tryz.prog W0 161 xReplaceAll :=
  ext_replaceAll (callable Tryz.func161 (by kernel_rfl) (by kernel_rfl)) (fun s old new w h0 h1 h2 hw=>by
    obtain ⟨m,hm⟩:=hL.rep
    refine Tryz.strings_ReplaceAll s old new m w h0 (cell_same hw hm) h1 ?_
    have hc:=Lib.countB_le old h1 s.size s (Nat.le_refl _)
    have:=Nat.mul_le_mul_right new.size hc
    omega)
theorem sound157 {W0 : World} (hL : LaidV W0) : SoundFun Tryz.prog W0 157 xFields :=
  ext_fields (callable Tryz.func157 (by kernel_rfl) (by kernel_rfl)) (fun s w hs hw=>by
    have e : fieldsF s.data.toList = Lib.fieldsD s.data.toList:=by
      unfold fieldsF
      split
      · rename_i h
        rw [List.all_eq_true] at h
        rw [Lib.fieldsD_ascii _ (fun b hb=>by simpa using h b hb)]
      · rfl
    rw [e]
    refine (Tryz.strings_Fields_any s w hs (var_same hw hL.spc) (white_same hw hL.wht)).mono fun e w' ⟨A,he,hA,ho,hb⟩=>?_
    obtain ⟨_,h⟩:=ho
    rcases h with ⟨h,_⟩ | ⟨g,cap,cur,h1,h2,h3,h4,h5,h6,h7⟩
    · cases h
    · injection h1 with h1 _ h1'
      injection h1 with h1
      injection h1 with h1
      subst h1
      subst h1'
      refine ⟨A,cur,_,_,he,hA,Nat.le_refl _,h3,fun j v hj=>?_,hb⟩
      rw [← h7,List.getElem?_take] at hj
      split at hj
      · simpa using hj
      · cases hj)
theorem sound125 {W0 : World} (hL : LaidV W0) : SoundFun Tryz.prog W0 125 (xParseInt 259) :=
  ext_parseInt (callable Tryz.func125 (by kernel_rfl) (by kernel_rfl)) (fun s w hs hw=>by
    unfold atoiEnd
    rcases hr : Lib.atoiAll s.data.toList with v | _ | _
    · exact (Tryz.strconv_ParseInt_10_at64_ok s (by omega) v (by rw [Lib.parseIntB_64]; exact hr) w).mono fun e w' ⟨he,hx⟩=>⟨he,by
        rcases hx with rfl | ⟨t,rfl⟩
        · exact Below.refl _ _
        · exact Lib.bytesWorld_below _ _ _⟩
    · obtain ⟨tp, p, hv⟩ := hL.syn
      exact (Tryz.strconv_ParseInt_10_at64_syntax_var s hs (by rw [Lib.parseIntB_64]; exact hr) tp p w (var_same hw hv)).mono fun e w' ⟨N,he,_,_,hb⟩=>⟨⟨N,he⟩,hb⟩
    · obtain ⟨tp, p, hv⟩ := hL.rng
      exact (Tryz.strconv_ParseInt_10_at64_range_var s hs (by rw [Lib.parseIntB_64]; exact hr) tp p w (var_same hw hv)).mono fun e w' ⟨N,he,_,_,hb⟩=>⟨⟨N,by rw [he,Lib.intSat_64]⟩,hb⟩)
theorem sound138 {W0 : World} (hL : LaidV W0) : SoundFun Tryz.prog W0 138 (xAtoi 259) :=
  ext_atoi (callable Tryz.func138 (by kernel_rfl) (by kernel_rfl)) (fun s w hs hw=>by
    unfold atoiEnd
    rcases hr : Lib.atoiAll s.data.toList with v | _ | _
    · exact (Tryz.strconv_Atoi_ok s (by omega) v hr w).mono fun e w' ⟨he,hx⟩=>⟨he,by
        rcases hx with rfl | ⟨t,rfl⟩
        · exact Below.refl _ _
        · exact Lib.bytesWorld_below _ _ _⟩
    · obtain ⟨tp, p, hv⟩ := hL.syn
      exact (Tryz.strconv_Atoi_syntax_var s hs hr tp p w (var_same hw hv)).mono fun e w' ⟨N,he,_,_,hb⟩=>⟨⟨N,he⟩,hb⟩
    · obtain ⟨tp, p, hv⟩ := hL.rng
      exact (Tryz.strconv_Atoi_range_var s hs hr tp p w (var_same hw hv)).mono fun e w' ⟨N,he,_,_,hb⟩=>⟨⟨N,he⟩,hb⟩)
theorem sound244 {W0 : World} (hL : LaidV W0) : SoundFun Tryz.prog W0 244 xSplit :=
  ext_split (ty:=9) (callable Tryz.func244 (by kernel_rfl) (by kernel_rfl)) (fun s sep w hs h1 hw=>by
    obtain ⟨m,hm⟩:=hL.rep
    exact Tryz.strings_Split s sep m w hs (cell_same hw hm) h1)
noncomputable abbrev run00 : Rec:=recL (tabOf tabA [])
theorem eqn00 {f : Nat} {fn : AFun} (hT : tabOf tabA [] f = some (.air fn)) {args : List AV} {S : List Bx} {r : AEnd×List Bx} (h : afun run00 fn args S = some r) : run00 f args S = some r:=recL_air hT h
theorem small00 (n : Nat) (h : n≤255) (S : List Bx) : run00 121 [.int .u8 (n : Int)] S = some (.ret (.int .u8 (if 65≤n∧n≤90 then (n : Int) + 32 else (n : Int))) none,S):=by
  refine eqn00 rfl ?_
  by_cases h1 : 65≤n
  · by_cases h2 : n ≤ 90
    · have h1' : (65 : Int) ≤ (n : Int) := by omega
      have h2' : (n : Int)≤90:=by omega
      have e1 : IntKind.wrap .u8 ((n : Int) + 97) = (n : Int) + 97:=by simp [IntKind.wrap,IntKind.bits,IntKind.signed]; omega
      have e2 : IntKind.wrap .u8 ((n : Int) + 97 - 65) = (n : Int) + 32:=by simp [IntKind.wrap,IntKind.bits,IntKind.signed]; omega
      simp [a121,h1,h2,h1',h2',e1,e2]
    · have h1' : (65 : Int) ≤ (n : Int) := by omega
      have h2' : ¬ (n : Int)≤90:=by omega
      simp [a121,h1,h2,h1',h2']
  · have h1' : ¬ (65 : Int) ≤ (n : Int) := by omega
    simp [a121,h1,h1']
theorem low00 (x : Nat) (S : List Bx) : run00 123 [.int .i32 (x : Int)] S = some (.ret (.int .i32 (lowI (x : Int))) none,S):=by
  refine eqn00 rfl ?_
  obtain ⟨n,hn⟩ : ∃ n,x % 256 = n:=⟨_,rfl⟩
  have hle : n≤255:=by omega
  have e1 : IntKind.wrap .u8 (x : Int) = (n : Int):=by simp [IntKind.wrap,IntKind.bits,IntKind.signed]; omega
  have e2 : ((x : Int) % 256).toNat = n:=by omega
  have q:=small00 n hle S
  unfold lowI
  simp only [e2]
  have hr : (0 : Int)≤(if 65≤n∧n≤90 then (n : Int) + 32 else (n : Int))∧(if 65≤n∧n≤90 then (n : Int) + 32 else (n : Int))≤1000:=by split <;> omega
  generalize (if 65≤n∧n≤90 then (n : Int) + 32 else (n : Int)) = m at *
  have e3 : IntKind.wrap .i32 m = m:=by simp [IntKind.wrap,IntKind.bits,IntKind.signed]; omega
  simp [a123,e1,q,e3]
theorem post_old {W W' : World} {r : AV} {own : Option Nat} {S' : List Bx} {e : Ending} (h : Post (gOf W) W (.ret r own) S' e W') : Below W.heap.size W W'∧∃ g' v,e = .returned v∧RV g' W' r v∧SInv g' W' S'∧Ext (gOf W) W g' W':=by
  obtain ⟨g',hE,hS,_,v,he,hv,_⟩:=h
  exact ⟨⟨hE.os,hE.tape,hE.output,hE.size,fun k hk=>(hE.ext k (by simp [gOf,hk])).2.1⟩,g',v,he,hv,hS,hE⟩
theorem low_pays (w : World) : MapGrows Tryz.prog 123 #[] lowI w:=by
  intro W x hx hb
  have hr : RecSound Tryz.prog W (recL (tabOf tabA [])):=recL_sound (fun n=>tabOf_sound mixed tabA_ok (by intro p hp; cases hp) n)
  obtain ⟨_,hC⟩:=hr _ _ _ _ _ (low00 x [])
  refine (hC (gOf W) W #[.int .i32 (x : Int)] (gOf_base W) (by simp [RT,R,Value.cells,AV.isAgg,vAgg]) (gOf_S W) (gOf_calm W)).mono fun e W' hp=>?_
  obtain ⟨hb,g',v,rfl,hv,_⟩:=post_old hp
  obtain rfl:=RV_int.1 hv
  exact ⟨rfl,hb⟩
theorem sound122 {W0 : World} (hL : LaidV W0) : SoundFun Tryz.prog W0 122 (xMapS 123) :=
  ext_map (callable Tryz.func122 (by kernel_rfl) (by kernel_rfl)) (fun s w h1 h2 hb=>by
    have h:=Tryz.strings_Map_grows 123 #[] (enters_of Tryz.func123 (by kernel_rfl) rfl) lowI s w (by omega) (low_pays w) (fun x _=>lowI_range x) (Utf8Tabs_below hL.utf hb)
    rw [mapD_low _ h2] at h
    exact h)
theorem run_sound {W0 : World} (hL : LaidV W0) (n : Nat) : RecSound Tryz.prog W0 (crun (tabOf tabA tabX) n):=tabOf_sound mixed tabA_ok (by
  intro p hp
  simp only [tabX,List.mem_cons,List.mem_nil_iff,or_false] at hp
  rcases hp with rfl | rfl | rfl | rfl | rfl | rfl | rfl | rfl <;> first | exact sound138 hL | exact sound244 hL | exact sound55 W0 | exact sound122 hL | exact sound125 hL | exact sound126 hL | exact sound157 hL | exact sound161 hL) n
end Go.Av
