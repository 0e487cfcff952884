/- Part of a proof of syntax_sames. -/
import Derived.Test.YtdcknoijcepibaaGreatDoorQ8
import Derived.Test.YtdcknoijcepibaaGreatDoorQ3
set_option maxRecDepth 100000
set_option linter.unusedSimpArgs false
set_option linter.unusedVariables false
namespace Go.Av
open Go Go.Proofs
theorem HasTy.int_inv {P : Program} {t : TypeId} {k : IntKind} {a : AV} (hu : P.underlying t = some (.int k)) (h : HasTy P t a) : ∃ n,a = .int k n∧(Lit.int k n).wf = true:=by
  cases h with
  | int k' n h hw => rw [hu] at h; obtain rfl : k = k' := by simpa using h
                     exact ⟨n,rfl,hw⟩
  | bool b h=>rw [hu] at h; cases h
  | str s h=>rw [hu] at h; cases h
  | slice es h=>rw [hu] at h; cases h
  | struct cs h=>rw [hu] at h; cases h
  | array cs h=>rw [hu] at h; cases h
theorem HasTy.bool_inv {P : Program} {t : TypeId} {a : AV} (hu : P.underlying t = some .bool) (h : HasTy P t a) : ∃ b,a = .bool b:=by
  cases h with
  | bool b h=>exact ⟨b,rfl⟩
  | int k' n h hw=>rw [hu] at h; cases h
  | str s h=>rw [hu] at h; cases h
  | slice es h=>rw [hu] at h; cases h
  | struct cs h=>rw [hu] at h; cases h
  | array cs h=>rw [hu] at h; cases h
theorem HasTy.str_inv {P : Program} {t : TypeId} {a : AV} (hu : P.underlying t = some .string) (h : HasTy P t a) : ∃ s,a = .str s∧s.size≤maxLen:=by
  cases h with
  | str s h hs=>exact ⟨s,rfl,hs⟩
  | bool b h=>rw [hu] at h; cases h
  | int k' n h hw=>rw [hu] at h; cases h
  | slice es h=>rw [hu] at h; cases h
  | struct cs h=>rw [hu] at h; cases h
  | array cs h=>rw [hu] at h; cases h
theorem HasTy.slice_inv {P : Program} {t e : TypeId} {a : AV} (hu : P.underlying t = some (.slice e)) (h : HasTy P t a) : ∃ es,a = .slice (P.cellsOf e) es∧es.length≤maxLen∧∀ x ∈ es,HasTy P e x:=by
  cases h with
  | slice es h hl he => rw [hu] at h; obtain rfl := by simpa using h
                        exact ⟨es,rfl,hl,he⟩
  | bool b h=>rw [hu] at h; cases h
  | int k' n h hw=>rw [hu] at h; cases h
  | str s h=>rw [hu] at h; cases h
  | struct cs h=>rw [hu] at h; cases h
  | array cs h=>rw [hu] at h; cases h
theorem HasTy.struct_inv {P : Program} {t : TypeId} {fs : Array Field} {a : AV} (hu : P.underlying t = some (.struct fs)) (h : HasTy P t a) : ∃ cs,a = .agg cs∧cs.length = P.cellsOf t∧∀ f ∈ fs.toList,HasTy P f.type (pickAV P f.type cs f.offset):=by
  cases h with
  | struct cs h hl hf => rw [hu] at h; obtain rfl := by simpa using h
                         exact ⟨cs,rfl,hl,hf⟩
  | bool b h=>rw [hu] at h; cases h
  | int k' n h hw=>rw [hu] at h; cases h
  | str s h=>rw [hu] at h; cases h
  | slice es h=>rw [hu] at h; cases h
  | array cs h=>rw [hu] at h; cases h
theorem map_of {α : Type} {f : α→AV} {Q : α→Prop} : ∀ {es : List AV},(∀ x ∈ es,∃ k,x = f k∧Q k)→∃ ks : List α,es = ks.map f∧∀ k ∈ ks,Q k
  | [],_=>⟨[],rfl,by simp⟩
  | x :: es, h => by
    obtain ⟨k,rfl,hk⟩:=h x (.head _)
    obtain ⟨ks,rfl,hq⟩:=map_of (fun y hy=>h y (.tail _ hy))
    exact ⟨k :: ks,rfl,by simpa using ⟨hk,hq⟩⟩
theorem list_of {α : Type} {P : Program} {t e : TypeId} {a : AV} {n : Nat} {f : α→AV} {Q : α→Prop} (hu : P.underlying t = some (.slice e)) (hn : P.cellsOf e = n) (hx : ∀ x,HasTy P e x→∃ k,x = f k∧Q k) (h : HasTy P t a) :
    ∃ ks : List α,a = .slice n (ks.map f)∧ks.length≤maxLen∧∀ k ∈ ks,Q k:=by
  obtain ⟨es,rfl,hl,he⟩:=h.slice_inv hu
  obtain ⟨ks,rfl,hq⟩:=map_of (fun x hm=>hx x (he x hm))
  exact ⟨ks,by rw [hn],by simpa using hl,hq⟩
theorem pick1 {P : Program} {t : TypeId} {cs : List AV} {off : Nat} (h : (tyAg P t == some true) = false) : pickAV P t cs off = cs.getD off .niliface:=by
  unfold pickAV
  rw [if_neg]
  intro e
  rw [e] at h
  simp at h
end Go.Av
