import Derived.Test.YtdcfoaafkppojaaM2
import Derived.Deep.LoopGhost
set_option linter.unusedVariables false
set_option linter.unusedSimpArgs false
namespace Go.Proofs.Ytdcfoaafkppojaa.Sh
open Go Go.RowKit
inductive Cls where
 | P | R | T | W
 deriving DecidableEq
def z4 : I → Cls
 | .load1 _ | .loadN _ _ | .toStr _ => .R
 | .box _ _ _ | .call _ _ | .callv _ _ | .buildSl _ _ _ _ _ | .makeSl _ _ _ _ _ | .toBytes _ _ | .mkMap => .T
 | .store _ _ _ | .append _ _ _ _ _ | .appendS _ _ _ | .callW _ _ | .callvW _ _ | .mapGet _ _ _ | .mapSet _ _ _ _ => .W
 | _ => .P
def I.ops : I → List Operand
 | .mov x | .box _ _ x | .load1 x | .loadN _ x | .nilchk x | .isNil _ _ x | .un _ x | .conv _ x | .convS x | .fieldAddr _ x | .field1 _ x | .fieldN _ _ x | .lenS x | .lenL x | .extract x _ | .toBytes _ x | .toStr x => [x]
 | .append _ _ _ s x | .appendS _ s x | .makeSl _ _ _ s x | .indexAgg _ s x | .indexAggN _ _ s x | .eqF _ _ s x => [s,x]
 | .build _ ps | .buildSl _ _ _ _ ps => ps.map fun p => p.2.2
 | .mkMap => []
 | .pick a b c => [a,b,c]
 | .mapGet _ x i => [x,i]
 | .mapSet _ x i v => [x,i,v]
 | .store _ a x => [a,x]
 | .bin _ x y | .eqB _ x y | .indexPtr _ _ x y | .indexSl _ x y | .indexStr x y | .min x y | .max x y => [x,y]
 | .sliceStr x lo hi | .sliceSl _ x lo hi => x :: (lo.toList ++ hi.toList)
 | .mkFunc _ a b => a ++ b
 | .call _ a | .callW _ a => a
 | .callv x a | .callvW x a => x :: a
def zbix (fr fr' : Fr) (l : List Operand) : Prop := ∀ x ∈ l,evO fr' x = evO fr x
theorem zbix.map {fr fr' : Fr} {l : List Operand} (h : zbix fr fr' l) : l.map (evO fr') = l.map (evO fr) := List.map_congr_left h
theorem zbix.opt {fr fr' : Fr} {x : Option Operand} (h : zbix fr fr' x.toList) : x.map (evO fr') = x.map (evO fr) := by
 cases x with
 | none => rfl
 | some x => simp only [Option.map_some]; rw [h x (by simp)]
def zbly (P : Program) (i : I) (K : Value → aq → Prop) (fr : Fr) (σ : aq) : Prop :=
 match i with
 | .call f args => nj P f (args.map (evO fr)) σ fun v σ' => σ.le σ' ∧ K v σ'
 | .callv x args => zbxw (evO fr x) fun f first captured => nj P f (first.toList ++ args.map (evO fr) ++ captured.toList) σ fun v σ' => σ.le σ' ∧ K v σ'
 | i => evI P i K fr σ
theorem zb6k {v : Value} {K : Addr → Prop} (h : zbig v K) : ∃ a,v = .pointer (some a) ∧ K a := by unfold zbig at h; split at h <;> first | exact ⟨_,rfl,h⟩ | exact h.elim
theorem rj {v : Value} {K : IntKind → Int → Prop} (h : zavu v K) : ∃ k n,v = .int k n ∧ K k n := by unfold zavu at h; split at h <;> first | exact ⟨_,_,rfl,h⟩ | exact h.elim
theorem zccz {v : Value} {K : Bool → Prop} (h : zbmm v K) : ∃ b,v = .bool b ∧ K b := by unfold zbmm at h; split at h <;> first | exact ⟨_,rfl,h⟩ | exact h.elim
theorem zb4v {v : Value} {K : ByteArray → Prop} (h : zblu v K) : ∃ b,v = .string b ∧ K b := by unfold zblu at h; split at h <;> first | exact ⟨_,rfl,h⟩ | exact h.elim
theorem zcj7 {v : Value} {K : Addr → Nat → Nat → Prop} (h : kSl v K) : ∃ a n s,v = .slice (some a) n s ∧ K a n s := by unfold kSl at h; split at h <;> first | exact ⟨_,_,_,rfl,h⟩ | exact h.elim
theorem zbtq {v : Value} {K : Nat → Prop} (h : zbxv v K) : ∃ a n s,v = .slice a n s ∧ K n := by unfold zbxv at h; split at h <;> first | exact ⟨_,_,_,rfl,h⟩ | exact h.elim
theorem zb4u {v : Value} {K : Array Value → Prop} (h : zbl0 v K) : ∃ b,v = .agg b ∧ K b := by unfold zbl0 at h; split at h <;> first | exact ⟨_,rfl,h⟩ | exact h.elim
theorem zbtp {v : Value} {K : Array Value → Prop} (h : zcb4 v K) : ∃ b,v = .tuple b ∧ K b := by unfold zcb4 at h; split at h <;> first | exact ⟨_,rfl,h⟩ | exact h.elim
theorem zcg6 {v : Value} {K : FuncId → Array Value → Array Value → Prop} (h : zbxw v K) : ∃ f a b,v = .func (.func f) a b ∧ K f a b := by unfold zbxw at h; split at h <;> first | exact ⟨_,_,_,rfl,h⟩ | exact h.elim
theorem nu {α : Type} {v : Option α} {K : α → Prop} (h : ri v K) : ∃ b,v = some b ∧ K b := by unfold ri at h; split at h <;> first | exact ⟨_,rfl,h⟩ | exact h.elim
theorem zbtr {v : Value} {K : Prop} (h : zcb5 v K) : K ∧ ∀ K' : Prop,K' → zcb5 v K' := by
 unfold zcb5 at *
 split at h <;> first | exact ⟨h,fun _ h => h⟩ | exact h.elim
theorem zcd4 {v : Value} {Kn : Prop} {Ks : Addr → Nat → Nat → Prop} (h : ke v Kn Ks) : (∃ n s,v = .slice none n s ∧ Kn) ∨ ∃ a n s,v = .slice (some a) n s ∧ Ks a n s := by
 unfold ke at h; split at h <;> first | exact .inl ⟨_,_,rfl,h⟩ | exact .inr ⟨_,_,_,rfl,h⟩ | exact h.elim
theorem zc8m {fr fr' : Fr} {ps : List (Nat × Nat × Operand)} (h : zbix fr fr' (ps.map fun p => p.2.2)) : (ps.map fun p => (p.1,p.2.1,evO fr' p.2.2)) = ps.map fun p => (p.1,p.2.1,evO fr p.2.2) :=
 List.map_congr_left fun p hp => by rw [h p.2.2 (List.mem_map.2 ⟨p,hp,rfl⟩)]
theorem zcnd {σ : aq} {t : TypeId} {sz bytes : Nat} {s : Value} {m : Nat} {news : List Value} {K K' : Value → aq → Prop} (h : zbu5 σ t sz bytes s m news K) (hK : ∀ v σ',K v σ' → K' v σ') : zbu5 σ t sz bytes s m news K' := by
 unfold zbu5 at *
 rcases zcd4 h with ⟨n,s',rfl,h1,h2⟩ | ⟨a,n,s',rfl,h1,h2,h3,h4⟩
 · exact ⟨h1,h2.imp (hK _ _) (hK _ _)⟩
 · refine ⟨h1,h2,h3,h4.imp (fun h4 => ?_) fun h4 => ?_⟩
   · obtain ⟨cs,e,h5,h6⟩ := nu h4
     rw [e]
     exact ⟨h5,hK _ _ h6⟩
   · obtain ⟨cs,e,h5,h6⟩ := nu h4
     rw [e]
     exact ⟨h5,hK _ _ h6⟩
theorem zca1 {v : Value} {Kn Kn' : Prop} {Ks Ks' : Addr → Nat → Nat → Prop} (h : ke v Kn Ks) (h1 : Kn → Kn') (h2 : ∀ a n s,Ks a n s → Ks' a n s) : ke v Kn' Ks' := by
 rcases zcd4 h with ⟨n,s',rfl,h⟩ | ⟨a,n,s',rfl,h⟩
 · exact h1 h
 · exact h2 _ _ _ h
section
variable {P : Program} {K : Value → aq → Prop} {fr : Fr} {σ : aq}
theorem zb30 {i : I} (hc : z4 i = .P) (h : evI P i K fr σ) : ∃ v,K v σ ∧ ∀ fr' σ' (K' : Value → aq → Prop),zbix fr fr' i.ops → K' v σ' → evI P i K' fr' σ' := by
 cases i <;> simp [z4] at hc <;> simp only [evI] at h
 case mov x => exact ⟨_,h,fun fr' σ' K' ha hK => by simp only [evI,ha x (by simp [I.ops])]; exact hK⟩
 case pick c a b =>
  obtain ⟨t,e,h⟩ := zccz h
  exact ⟨_,h,fun fr' σ' K' ha hK => by simp only [evI,ha c (by simp [I.ops]),ha a (by simp [I.ops]),ha b (by simp [I.ops]),e]; exact hK⟩
 case nilchk x =>
  obtain ⟨h,e⟩ := zbtr h
  exact ⟨_,h,fun fr' σ' K' ha hK => by simp only [evI,ha x (by simp [I.ops])]; exact e _ hK⟩
 case bin op x y =>
  obtain ⟨t,e,h⟩ := nu h
  exact ⟨_,h,fun fr' σ' K' ha hK => by simp only [evI,ha x (by simp [I.ops]),ha y (by simp [I.ops]),e]; exact hK⟩
 case eqB neg x y =>
  obtain ⟨t,e,h⟩ := zccz h
  obtain ⟨t2,e2,h⟩ := zccz h
  exact ⟨_,h,fun fr' σ' K' ha hK => by simp only [evI,ha x (by simp [I.ops]),ha y (by simp [I.ops]),e,e2]; exact hK⟩
 case isNil k neg x =>
  obtain ⟨t,e,h⟩ := nu h
  exact ⟨_,h,fun fr' σ' K' ha hK => by simp only [evI,ha x (by simp [I.ops]),e]; exact hK⟩
 case un op x =>
  obtain ⟨t,e,h⟩ := nu h
  exact ⟨_,h,fun fr' σ' K' ha hK => by simp only [evI,ha x (by simp [I.ops]),e]; exact hK⟩
 case conv k x =>
  obtain ⟨k',n,e,h⟩ := rj h
  exact ⟨_,h,fun fr' σ' K' ha hK => by simp only [evI,ha x (by simp [I.ops]),e]; exact hK⟩
 case convS x =>
  obtain ⟨k',e,h⟩ := zb4v h
  exact ⟨_,h,fun fr' σ' K' ha hK => by simp only [evI,ha x (by simp [I.ops]),e]; rw [e] at hK; exact hK⟩
 case fieldAddr off x =>
  obtain ⟨k',e,h⟩ := zb6k h
  exact ⟨_,h,fun fr' σ' K' ha hK => by simp only [evI,ha x (by simp [I.ops]),e]; exact hK⟩
 case field1 off x =>
  obtain ⟨k',e,h1,h⟩ := zb4u h
  exact ⟨_,h,fun fr' σ' K' ha hK => by simp only [evI,ha x (by simp [I.ops]),e]; exact ⟨h1,hK⟩⟩
 case fieldN off n x =>
  obtain ⟨k',e,h1,h⟩ := zb4u h
  exact ⟨_,h,fun fr' σ' K' ha hK => by simp only [evI,ha x (by simp [I.ops]),e]; exact ⟨h1,hK⟩⟩
 case indexPtr len sz x y =>
  obtain ⟨a,e,h⟩ := zb6k h
  obtain ⟨k,n,e2,h1,h⟩ := rj h
  exact ⟨_,h,fun fr' σ' K' ha hK => by simp only [evI,ha x (by simp [I.ops]),ha y (by simp [I.ops]),e,e2]; exact ⟨h1,hK⟩⟩
 case indexSl sz x y =>
  obtain ⟨a,n,s,e,h⟩ := zcj7 h
  obtain ⟨k,n,e2,h1,h⟩ := rj h
  exact ⟨_,h,fun fr' σ' K' ha hK => by simp only [evI,ha x (by simp [I.ops]),ha y (by simp [I.ops]),e,e2]; exact ⟨h1,hK⟩⟩
 case indexStr x y =>
  obtain ⟨a,e,h⟩ := zb4v h
  obtain ⟨k,n,e2,h1,h⟩ := rj h
  exact ⟨_,h,fun fr' σ' K' ha hK => by simp only [evI,ha x (by simp [I.ops]),ha y (by simp [I.ops]),e,e2]; exact ⟨h1,hK⟩⟩
 case sliceStr x lo hi =>
  obtain ⟨a,e,h⟩ := zb4v h
  obtain ⟨lh,e2,h⟩ := nu h
  refine ⟨_,h,fun fr' σ' K' ha hK => ?_⟩
  have h1 : lo.map (evO fr') = lo.map (evO fr) := zbix.opt fun y hy => ha y (by simp [I.ops] at hy ⊢; simp [hy])
  have h2 : hi.map (evO fr') = hi.map (evO fr) := zbix.opt fun y hy => ha y (by simp [I.ops] at hy ⊢; simp [hy])
  simp only [evI,ha x (by simp [I.ops]),h1,h2,e,zblu,e2]; exact hK
 case sliceSl sz x lo hi =>
  obtain ⟨a,n,s,e,hs,h⟩ := zcj7 h
  obtain ⟨lh,e2,h⟩ := nu h
  refine ⟨_,h,fun fr' σ' K' ha hK => ?_⟩
  have h1 : lo.map (evO fr') = lo.map (evO fr) := zbix.opt fun y hy => ha y (by simp [I.ops] at hy ⊢; simp [hy])
  have h2 : hi.map (evO fr') = hi.map (evO fr) := zbix.opt fun y hy => ha y (by simp [I.ops] at hy ⊢; simp [hy])
  simp only [evI,ha x (by simp [I.ops]),h1,h2,e,kSl,e2]; exact ⟨hs,hK⟩
 case lenS x =>
  obtain ⟨k',e,h⟩ := zb4v h
  exact ⟨_,h,fun fr' σ' K' ha hK => by simp only [evI,ha x (by simp [I.ops]),e]; exact hK⟩
 case lenL x =>
  obtain ⟨a,n,s,e,h⟩ := zbtq h
  exact ⟨_,h,fun fr' σ' K' ha hK => by simp only [evI,ha x (by simp [I.ops]),e]; exact hK⟩
 case min x y =>
  obtain ⟨k,n,e,h⟩ := rj h
  obtain ⟨k2,n2,e2,h⟩ := rj h
  exact ⟨_,h,fun fr' σ' K' ha hK => by simp only [evI,ha x (by simp [I.ops]),ha y (by simp [I.ops]),e,e2]; exact hK⟩
 case max x y =>
  obtain ⟨k,n,e,h⟩ := rj h
  obtain ⟨k2,n2,e2,h⟩ := rj h
  exact ⟨_,h,fun fr' σ' K' ha hK => by simp only [evI,ha x (by simp [I.ops]),ha y (by simp [I.ops]),e,e2]; exact hK⟩
 case mkFunc fn a b =>
  refine ⟨_,h,fun fr' σ' K' ha hK => ?_⟩
  have h1 := zbix.map (l := a) fun y hy => ha y (by simp [I.ops,hy])
  have h2 := zbix.map (l := b) fun y hy => ha y (by simp [I.ops,hy])
  simp only [evI,h1,h2]; exact hK
 case build zero ps =>
  obtain ⟨cs,e,h⟩ := nu h
  refine ⟨_,h,fun fr' σ' K' ha hK => ?_⟩
  have h1 : (ps.map fun p => (p.1,p.2.1,evO fr' p.2.2)) = ps.map fun p => (p.1,p.2.1,evO fr p.2.2) := zc8m ha
  simp only [evI,h1,e]; exact hK
 case indexAgg len x y =>
  obtain ⟨a,e,h⟩ := zb4u h
  obtain ⟨k,n,e2,h1,h⟩ := rj h
  exact ⟨_,h,fun fr' σ' K' ha hK => by simp only [evI,ha x (by simp [I.ops]),ha y (by simp [I.ops]),e,e2]; exact ⟨h1,hK⟩⟩
 case indexAggN len sz x y =>
  obtain ⟨a,e,h⟩ := zb4u h
  obtain ⟨k,n,e2,h1,h⟩ := rj h
  exact ⟨_,h,fun fr' σ' K' ha hK => by simp only [evI,ha x (by simp [I.ops]),ha y (by simp [I.ops]),e,e2]; exact ⟨h1,hK⟩⟩
 case eqF neg ks x y =>
  obtain ⟨a,e,h⟩ := zb4u h
  obtain ⟨b,e2,h⟩ := zb4u h
  obtain ⟨c,e3,h⟩ := nu h
  exact ⟨_,h,fun fr' σ' K' ha hK => by simp only [evI,ha x (by simp [I.ops]),ha y (by simp [I.ops]),e,e2,zbl0,e3]; exact hK⟩
 case extract x n =>
  obtain ⟨k',e,h1,h⟩ := zbtp h
  exact ⟨_,h,fun fr' σ' K' ha hK => by simp only [evI,ha x (by simp [I.ops]),e]; exact ⟨h1,hK⟩⟩
theorem zb1w {i : I} (hc : z4 i = .R) (h : evI P i K fr σ) : ∃ v,K v σ ∧ ∀ fr' σ' (K' : Value → aq → Prop),zbix fr fr' i.ops → σ.le σ' → K' v σ' → evI P i K' fr' σ' := by
 cases i <;> simp [z4] at hc <;> simp only [evI] at h
 case load1 x =>
  obtain ⟨a,e,h⟩ := zb6k h
  obtain ⟨v,e2,h⟩ := nu h
  exact ⟨_,h,fun fr' σ' K' ha hl hK => by simp only [evI,ha x (by simp [I.ops]),e,zbig,hl.load e2]; exact hK⟩
 case loadN n x =>
  obtain ⟨a,e,h⟩ := zb6k h
  obtain ⟨v,e2,h⟩ := nu h
  exact ⟨_,h,fun fr' σ' K' ha hl hK => by simp only [evI,ha x (by simp [I.ops]),e,zbig,hl.row e2]; exact hK⟩
 case toStr x =>
  rcases zcd4 h with ⟨n,s',e,h⟩ | ⟨a,n,s',e,h1,h2⟩
  · exact ⟨_,h,fun fr' σ' K' ha hl hK => by simp only [evI,ha x (by simp [I.ops]),e]; exact hK⟩
  · by_cases hn : n = 0
    · exact ⟨_,h1 hn,fun fr' σ' K' ha hl hK => by simp only [evI,ha x (by simp [I.ops]),e]; exact ⟨fun _ => hK,fun h => absurd hn h⟩⟩
    · obtain ⟨bs,e2,h⟩ := nu (h2 hn)
      refine ⟨_,h,fun fr' σ' K' ha hl hK => ?_⟩
      simp only [evI,ha x (by simp [I.ops]),e]
      refine ⟨fun h => absurd h hn,fun _ => ?_⟩
      cases hr : σ.row a.block a.off n with
      | none => rw [hr] at e2; cases e2
      | some vs => rw [hl.row hr]; rw [hr] at e2; rw [e2]; exact hK
theorem zb04 {i : I} (hc : z4 i = .T) (h : zbly P i K fr σ) {fr' : Fr} {K' : Value → aq → Prop} (ha : zbix fr fr' i.ops) (hK : ∀ v σ',σ.le σ' → K v σ' → K' v σ') : zbly P i K' fr' σ := by
 cases i <;> simp [z4] at hc <;> simp only [zbly,evI] at h ⊢
 case box t n x => rw [ha x (by simp [I.ops])]; exact ⟨h.1,hK _ _ (aq.le_push _ _) h.2⟩
 case buildSl t sz len zs ps =>
  obtain ⟨cs,e,h1,h⟩ := nu h
  rw [zc8m (fr := fr) (fr' := fr') ha,e]
  obtain ⟨md,h⟩ := h
  exact ⟨h1,md,hK _ _ (aq.le_push _ _) h⟩
 case makeSl t b z x y =>
  obtain ⟨k,n,e,h⟩ := rj h
  obtain ⟨k2,n2,e2,h1,h⟩ := rj h
  rw [ha x (by simp [I.ops]),ha y (by simp [I.ops]),e,e2]
  obtain ⟨md,h⟩ := h
  exact ⟨h1,md,hK _ _ (aq.le_push _ _) h⟩
 case toBytes t x =>
  obtain ⟨s,e,h⟩ := zb4v h
  rw [ha x (by simp [I.ops]),e]
  obtain ⟨md,h⟩ := h
  exact ⟨md,hK _ _ (aq.le_push _ _) h⟩
 case mkMap => exact hK _ _ (aq.le_push _ _) h
 case call f args =>
  rw [zbix.map (l := args) fun y hy => ha y (by simp [I.ops,hy])]
  exact h.mono fun v σ' ⟨h1,h2⟩ => ⟨h1,hK _ _ h1 h2⟩
 case callv x args =>
  obtain ⟨f,a,b,e,h⟩ := zcg6 h
  rw [zbix.map (l := args) fun y hy => ha y (by simp [I.ops,hy]),ha x (by simp [I.ops]),e]
  exact nj.mono h fun v σ' ⟨h1,h2⟩ => ⟨h1,hK _ _ h1 h2⟩
theorem zb03 {i : I} (hc : z4 i = .W) (h : zbly P i K fr σ) {fr' : Fr} {K' : Value → aq → Prop} (ha : zbix fr fr' i.ops) (hK : ∀ v σ',K v σ' → K' v σ') : zbly P i K' fr' σ := by
 cases i <;> simp [z4] at hc <;> simp only [zbly,evI] at h ⊢
 case store n p x =>
  obtain ⟨a,e,h1,h⟩ := zb6k h
  obtain ⟨v,e2,h⟩ := nu h
  rw [ha p (by simp [I.ops]),ha x (by simp [I.ops]),e]
  refine ⟨h1,?_⟩
  rw [e2]
  exact hK _ _ h
 case append t sz b s x =>
  rw [ha s (by simp [I.ops]),ha x (by simp [I.ops])]
  refine zca1 h (fun h => zca1 h (fun h => hK _ _ h) fun _ _ _ h => hK _ _ h) fun a n s h => ⟨fun h0 => zca1 (h.1 h0) (fun h => hK _ _ h) fun _ _ _ h => hK _ _ h,fun h0 => ⟨(h.2 h0).1,?_⟩⟩
  obtain ⟨cs,e,h2⟩ := nu (h.2 h0).2
  rw [e]
  exact zcnd h2 hK
 case appendS t s x =>
  rw [ha s (by simp [I.ops]),ha x (by simp [I.ops])]
  obtain ⟨str,e,h1,h2⟩ := zb4v h
  rw [e]
  exact ⟨fun h0 => zca1 (h1 h0) (fun h => hK _ _ h) fun _ _ _ h => hK _ _ h,fun h0 => zcnd (h2 h0) hK⟩
 case mapGet kt x i =>
  obtain ⟨es,h1,h2,h3⟩ := h
  rw [ha x (by simp [I.ops]),ha i (by simp [I.ops])]
  exact ⟨es,h1,fun e he hq => hK _ _ (h2 e he hq),fun hn => hK _ _ (h3 hn)⟩
 case mapSet kt x i v =>
  obtain ⟨es,id,h1,h2,h3,h4⟩ := h
  rw [ha x (by simp [I.ops]),ha i (by simp [I.ops]),ha v (by simp [I.ops])]
  exact ⟨es,id,h1,h2,h3,hK _ _ h4⟩
 case callW f args =>
  rw [zbix.map (l := args) fun y hy => ha y (by simp [I.ops,hy])]
  exact h.mono fun v σ' h2 => hK _ _ h2
 case callvW x args =>
  obtain ⟨f,a,b,e,h⟩ := zcg6 h
  rw [zbix.map (l := args) fun y hy => ha y (by simp [I.ops,hy]),ha x (by simp [I.ops]),e]
  exact nj.mono h fun v σ' h2 => hK _ _ h2
def I.toW : I → I
 | .call f a => .callW f a
 | .callv x a => .callvW x a
 | i => i
theorem zb3z {i : I} : evI P i.toW K fr σ = evI P i K fr σ := by cases i <;> rfl
theorem zbwb {i : I} (hc : z4 i ≠ .T) : zbly P i K fr σ = evI P i K fr σ := by
 cases i <;> simp [z4] at hc <;> rfl
theorem zc96 {i : I} (h : zbly P i K fr σ) : evI P i K fr σ := by
 cases i <;> first | exact h | skip
 case call f args => exact nj.mono h fun v σ' h => h.2
 case callv x args =>
  obtain ⟨f,a,b,e,h⟩ := zcg6 h
  simp only [evI,e]
  exact nj.mono h fun v σ' h => h.2
theorem zcoc {i : I} {K' : Value → aq → Prop} (h : zbly P i K fr σ) (hK : ∀ v σ',K v σ' → K' v σ') : zbly P i K' fr σ := by
 cases hc : z4 i with
 | P => rw [zbwb (by rw [hc]; simp)] at h ⊢; obtain ⟨v,h1,h2⟩ := zb30 hc h; exact h2 fr σ K' (fun _ _ => rfl) (hK _ _ h1)
 | R => rw [zbwb (by rw [hc]; simp)] at h ⊢; obtain ⟨v,h1,h2⟩ := zb1w hc h; exact h2 fr σ K' (fun _ _ => rfl) (.refl _) (hK _ _ h1)
 | T => exact zb04 hc h (fun _ _ => rfl) fun v σ' _ h => hK _ _ h
 | W => exact zb03 hc h (fun _ _ => rfl) hK
end
end Go.Proofs.Ytdcfoaafkppojaa.Sh
namespace Go.Proofs.Ytdcfoaafkppojaa.Sh
open Go Go.RowKit
structure Ins where
 dst : Option Nat
 i : I
 guard : Option (Nat × Bool)
inductive IC where
 | skip
 | ops (l : List Ins)
 | draw (l : List (Ins × List Ins))
 | seq (a b : IC)
 | cond (c : Operand) (a b : IC)
 | block (id : Nat) (a : IC)
 | loop (a : IC)
 | exit (id : Nat)
 | ret
def zb37 (N : Nat) (ops : Array Oper) (g : Option (Nat × Bool)) : Option (Option (Nat × Bool)) :=
 match g with
 | none => some none
 | some (j,b) => match (ops[j]?).bind (·.dst) with
  | some t => if t < N then some (some (t,b)) else none
  | none => none
def zbyo (P : Program) (N : Nat) (ops : Array Oper) (o : Oper) : Option Ins :=
 match lc P N o,zb37 N ops o.guard with
 | some i,some g => some ⟨o.dst,i,g⟩
 | _,_ => none
def zb1v (P : Program) (N : Nat) (ops : Array Oper) : List Oper → Option (List Ins)
 | [] => some []
 | o :: r => match zbyo P N ops o,zb1v P N ops r with
  | some x,some l => some (x :: l)
  | _,_ => none
def zbwt (P : Program) (x : Ins) (K : Fr → aq → Prop) (fr : Fr) (σ : aq) : Prop :=
 match x.guard with
 | none => evI P x.i (fun v σ' => K (fr.put x.dst v) σ') fr σ
 | some (t,b) => (fr t = .bool b → evI P x.i (fun v σ' => K (fr.put x.dst v) σ') fr σ) ∧ (fr t ≠ .bool b → K (fr.put x.dst undef) σ)
def evL (P : Program) : List Ins → (Fr → aq → Prop) → Fr → aq → Prop
 | [],K => K
 | x :: r,K => zbwt P x (evL P r K)
def zb4k (B : Nat) (w0 : World) (m : Mp) (N : Nat) (Q : Exit → Fr → aq → Prop) : Exit → Act → World → Prop := fun e a' w' =>
 ∃ m' fr' σ',m.le m' ∧ Rep B w0 σ' m' w' ∧ mi m' N fr' a' ∧ Q e fr' σ'
def SWp (P : Program) (N : Nat) (c : Code) (Q : Exit → Fr → aq → Prop) (fr : Fr) (σ : aq) : Prop :=
 ∀ B w0 m w a,Rep B w0 σ m w → mi m N fr a → c.wp P (zb4k B w0 m N Q) a w
theorem zb4k.le {B : Nat} {w0 : World} {m m' : Mp} {N : Nat} {Q Q' : Exit → Fr → aq → Prop} (hm : m.le m') (hq : ∀ e fr σ,Q e fr σ → Q' e fr σ) : ∀ e a w,zb4k B w0 m' N Q e a w → zb4k B w0 m N Q' e a w :=
 fun e a w ⟨m2,fr',σ',h1,h2,h3,h4⟩ => ⟨m2,fr',σ',hm.trans h1,h2,h3,hq _ _ _ h4⟩
section
variable {P : Program} {N : Nat}
def zbtz (fr : Fr) : Option (Nat × Bool) → Prop
 | none => True
 | some (t,b) => fr t = .bool b
theorem zc6w {ops : Array Oper} {o : Oper} {m : Mp} {fr : Fr} {a : Act} (hf : mi m N fr a) {g : Option (Nat × Bool)} (hg : zb37 N ops o.guard = some g) :
 Region.wanted o (yielded ops a.tmps) = true ↔ zbtz fr g := by
 unfold zb37 at hg
 cases ho : o.guard with
 | none =>
  rw [ho] at hg
  injection hg with hg
  subst hg
  simp [Region.wanted,ho,zbtz]
 | some jb =>
  obtain ⟨j,b⟩ := jb
  rw [ho] at hg
  simp only at hg
  cases hd : (ops[j]?).bind (·.dst) with
  | none => rw [hd] at hg; cases hg
  | some t =>
   rw [hd] at hg
   simp only at hg
   split at hg
   · rename_i ht
     injection hg with hg
     subst hg
     have hv := hf.at_ t ht
     have hs := hf.size
     have e : a.tmps[t]? = some (a.tmps.getD t undef) := by simp [Array.getD,hs,ht]
     simp only [Region.wanted,ho,yielded,hd,Option.bind_some,e,zbtz]
     generalize a.tmps.getD t undef = c at hv
     generalize fr t = v at hv
     cases hv <;> simp
   · cases hg
theorem zbr4 {ops : Array Oper} {B : Nat} {w0 : World} {K : Fr → aq → Prop} {Q : Exit → Act → World → Prop} : ∀ (l : List Oper) (k : Nat) (xs : List Ins),(∀ j,l[j]? = ops[k + j]?) → zb1v P N ops l = some xs →
 ∀ (m : Mp) (fr : Fr) (σ : aq) (w : World) (a : Act),Rep B w0 σ m w → mi m N fr a → evL P xs K fr σ →
 (∀ m' fr' σ' a' w',m.le m' → Rep B w0 σ' m' w' → mi m' N fr' a' → K fr' σ' → Q .normal a' w') → wpOps P ops Q (List.range' k l.length) a w := by
 intro l
 induction l with
 | nil =>
  intro k xs _ hc m fr σ w a hr hf hev hQ
  simp only [zb1v] at hc
  injection hc with hc
  subst hc
  exact hQ m fr σ a w (.refl m) hr hf hev
 | cons o r ih =>
  intro k xs hl hc m fr σ w a hr hf hev hQ
  simp only [zb1v] at hc
  split at hc
  · rename_i x l' hx hl'
    injection hc with hc
    subst hc
    have h0 : ops[k]? = some o := by simpa using (hl 0).symm
    have hrest : ∀ j,r[j]? = ops[k + 1 + j]? := fun j => by
     have := hl (j + 1)
     simpa [Nat.add_assoc,Nat.add_comm 1 j] using this
    simp only [zbyo] at hx
    split at hx
    · rename_i i g hi hg
      injection hx with hx
      subst hx
      have hw := zc6w (ops := ops) hf hg
      simp only [List.length_cons,List.range'_succ,wpOps,h0]
      have go : evI P i (fun v σ' => evL P l' K (fr.put o.dst v) σ') fr σ → o.wp P a w (wpOps P ops Q (List.range' (k + 1) r.length)) Q := fun hi' =>
       zcru (zbt1 o i hi hr hf hi') fun v c m' σ' w' h1 h2 h3 h4 =>
        ih (k + 1) l' hrest hl' m' (fr.put o.dst v) σ' w' (a.put o.dst c) h3 ((hf.mono h1).put _ h2) h4
         fun m2 fr2 σ2 a2 w2 h5 h6 h7 h8 => hQ m2 fr2 σ2 a2 w2 (h1.trans h5) h6 h7 h8
      cases g with
      | none =>
       rw [if_pos (hw.2 trivial)]
       exact .inl (go hev)
      | some tb =>
       obtain ⟨t,b⟩ := tb
       obtain ⟨e1,e2⟩ := hev
       by_cases hfr : fr t = .bool b
       · rw [if_pos (hw.2 hfr)]
         exact .inl (go (e1 hfr))
       · rw [if_neg (fun h => hfr (hw.1 h))]
         exact ih (k + 1) l' hrest hl' m (fr.put o.dst undef) σ w (a.put o.dst undef) hr (hf.put _ (.undef m)) (e2 hfr) hQ
    · cases hx
  · cases hc
def rk (P : Program) (x : Ins) (K : Fr → aq → Prop) (fr : Fr) (σ : aq) : Prop :=
 match x.guard with
 | none => zbly P x.i (fun v σ' => K (fr.put x.dst v) σ') fr σ
 | some (t,b) => (fr t = .bool b → zbly P x.i (fun v σ' => K (fr.put x.dst v) σ') fr σ) ∧ (fr t ≠ .bool b → K (fr.put x.dst undef) σ)
theorem zcaz {x : Ins} {K K' : Fr → aq → Prop} {fr : Fr} {σ : aq} (h : rk P x K fr σ) (hK : ∀ fr σ,K fr σ → K' fr σ) : rk P x K' fr σ := by
 unfold rk at *
 split at h
 · exact zcoc h fun v σ' h => hK _ _ h
 · exact ⟨fun e => zcoc (h.1 e) fun v σ' h => hK _ _ h,fun e => hK _ _ (h.2 e)⟩
def zbos (l : List Operand) : List Nat := l.filterMap fun | .tmp t => some t | _ => none
def Ins.looks (x : Ins) : List Nat := (match x.guard with | some (t,_) => [t] | none => []) ++ zbos x.i.ops
def gj (d : Option Nat) (l : List Nat) : Bool := match d with | some d => !(l.contains d) | none => true
def apart (y x : Ins) : Bool := gj y.dst x.looks && gj x.dst y.looks && gj y.dst x.dst.toList
def zb38 (y x : Cls) : Bool := match y,x with
 | .P,_ => true
 | .R,.W => false
 | .R,_ => true
 | _,_ => false
theorem zcbs {fr : Fr} {d : Option Nat} {v : Value} {l : List Nat} (h : gj d l = true) {t : Nat} (ht : t ∈ l) : fr.put d v t = fr t := by
 cases d with
 | none => rfl
 | some d =>
  simp only [gj,Bool.not_eq_true',List.contains_eq_mem,decide_eq_false_iff_not] at h
  simp only [Fr.put]
  rw [if_neg]
  rintro rfl
  exact h ht
theorem zb6l {fr : Fr} {d : Option Nat} {v : Value} {x : Ins} (h : gj d x.looks = true) : zbix fr (fr.put d v) x.i.ops := by
 intro o ho
 cases o with
 | tmp t =>
  refine zcbs h ?_
  simp only [Ins.looks,zbos,List.mem_append,List.mem_filterMap]
  exact .inr ⟨_,ho,rfl⟩
 | _ => rfl
theorem zb4t {fr : Fr} {d : Option Nat} {v : Value} {x : Ins} (h : gj d x.looks = true) {t : Nat} {b : Bool} (hg : x.guard = some (t,b)) : fr.put d v t = fr t := by
 refine zcbs h ?_
 simp [Ins.looks,hg]
theorem zcgw {fr : Fr} {d e : Option Nat} {u v : Value} (h : gj d e.toList = true) : (fr.put d u).put e v = (fr.put e v).put d u := by
 cases d with
 | none => rfl
 | some d =>
  cases e with
  | none => rfl
  | some e =>
   have hne : d ≠ e := by
    simp [gj] at h
    exact h
   funext s
   simp only [Fr.put]
   by_cases h1 : s = d
   · subst h1; simp [hne]
   · simp [h1]
theorem zcal {fr fr' : Fr} {l : List Operand} (h : zbix fr fr' l) : zbix fr' fr l := fun x hx => (h x hx).symm
def gdP (fr : Fr) (g : Option (Nat × Bool)) : Prop := match g with | none => True | some (t,b) => fr t = .bool b
theorem zdbg {y : Ins} {K : Fr → aq → Prop} {fr : Fr} {σ : aq} (hc : z4 y.i = .P ∨ z4 y.i = .R) (h : rk P y K fr σ) :
 ∃ v,(¬ gdP fr y.guard → v = undef) ∧ K (fr.put y.dst v) σ ∧ ∀ fr' σ' (K' : Fr → aq → Prop),zbix fr fr' y.i.ops → (∀ t b,y.guard = some (t,b) → fr' t = fr t) → (z4 y.i = .R → σ.le σ') → K' (fr'.put y.dst v) σ' → rk P y K' fr' σ' := by
 have key : zbly P y.i (fun v σ' => K (fr.put y.dst v) σ') fr σ → ∃ v,K (fr.put y.dst v) σ ∧ ∀ fr' σ' (K' : Fr → aq → Prop),zbix fr fr' y.i.ops → (z4 y.i = .R → σ.le σ') → K' (fr'.put y.dst v) σ' → zbly P y.i (fun v σ' => K' (fr'.put y.dst v) σ') fr' σ' := by
  intro h
  rw [zbwb (by rcases hc with h | h <;> rw [h] <;> simp)] at h
  rcases hc with hc | hc
  · obtain ⟨v,h1,h2⟩ := zb30 hc h
    exact ⟨v,h1,fun fr' σ' K' ha _ hK => by rw [zbwb (by rw [hc]; simp)]; exact h2 fr' σ' _ ha hK⟩
  · obtain ⟨v,h1,h2⟩ := zb1w hc h
    exact ⟨v,h1,fun fr' σ' K' ha hl hK => by rw [zbwb (by rw [hc]; simp)]; exact h2 fr' σ' _ ha (hl hc) hK⟩
 unfold rk at h
 split at h
 · rename_i hg
   obtain ⟨v,h1,h2⟩ := key h
   exact ⟨v,fun hn => absurd (by rw [hg]; trivial) hn,h1,fun fr' σ' K' ha _ hl hK => by unfold rk; rw [hg]; exact h2 fr' σ' K' ha hl hK⟩
 · rename_i t b hg
   by_cases ht : fr t = .bool b
   · obtain ⟨v,h1,h2⟩ := key (h.1 ht)
     refine ⟨v,fun hn => absurd (by rw [hg]; exact ht) hn,h1,fun fr' σ' K' ha hgt hl hK => ?_⟩
     unfold rk; rw [hg]
     have := hgt t b hg
     exact ⟨fun _ => h2 fr' σ' K' ha hl hK,fun hne => absurd (this.trans ht) hne⟩
   · refine ⟨undef,fun _ => rfl,h.2 ht,fun fr' σ' K' ha hgt hl hK => ?_⟩
     unfold rk; rw [hg]
     have := hgt t b hg
     exact ⟨fun e => absurd (this.symm.trans e) ht,fun _ => hK⟩
theorem zdbf {x : Ins} {K K' : Fr → aq → Prop} {fr fr' : Fr} {σ : aq} (ha : zbix fr fr' x.i.ops) (hg : ∀ t b,x.guard = some (t,b) → fr' t = fr t)
 (hK : ∀ u σ',(z4 x.i ≠ .W → σ.le σ') → K (fr.put x.dst u) σ' → K' (fr'.put x.dst u) σ') (h : rk P x K fr σ) : rk P x K' fr' σ := by
 have key : zbly P x.i (fun v σ' => K (fr.put x.dst v) σ') fr σ → zbly P x.i (fun v σ' => K' (fr'.put x.dst v) σ') fr' σ := by
  intro h
  cases hc : z4 x.i with
  | P =>
   rw [zbwb (by rw [hc]; simp)] at h ⊢
   obtain ⟨v,h1,h2⟩ := zb30 hc h
   exact h2 fr' σ _ ha (hK v σ (fun _ => .refl _) h1)
  | R =>
   rw [zbwb (by rw [hc]; simp)] at h ⊢
   obtain ⟨v,h1,h2⟩ := zb1w hc h
   exact h2 fr' σ _ ha (.refl _) (hK v σ (fun _ => .refl _) h1)
  | T => exact zb04 hc h ha fun v σ' hl h => hK v σ' (fun _ => hl) h
  | W => exact zb03 hc h ha fun v σ' h => hK v σ' (fun e => absurd hc e) h
 unfold rk at *
 split at h
 · exact key h
 · rename_i t b hgd
   have e := hg t b hgd
   exact ⟨fun e1 => key (h.1 (e.symm.trans e1)),fun e1 => hK undef σ (fun _ => .refl _) (h.2 fun e2 => e1 (e.trans e2))⟩
def Ins.dsts (x : Ins) : List Nat := x.looks ++ x.dst.toList
def zbma (P : Program) (y : Ins) (fr : Fr) (σ : aq) : Prop := gdP fr y.guard → evI P y.i (fun u _ => ∀ d,y.dst = some d → u = fr d) fr σ
def zb7h (P : Program) (ys : List Ins) (fr : Fr) (σ : aq) : Prop := match ys with
 | [] => True
 | y :: r => zbma P y fr σ ∧ zb7h P r fr σ
theorem zcdm {ys : List Ins} {fr : Fr} {σ : aq} : zb7h P ys fr σ ↔ ∀ y ∈ ys,zbma P y fr σ := by
 induction ys with
 | nil => simp [zb7h]
 | cons y r ih => simp [zb7h,ih]
def zbwl (P : Program) (x : Ins × List Ins) (K : Fr → aq → Prop) (fr : Fr) (σ : aq) : Prop := rk P x.1 (fun fr' σ' => zb7h P x.2 fr' σ' ∧ K fr' σ') fr σ
theorem zbug {x : Ins × List Ins} {K K' : Fr → aq → Prop} {fr : Fr} {σ : aq} (h : zbwl P x K fr σ) (hK : ∀ fr σ,K fr σ → K' fr σ) : zbwl P x K' fr σ := zcaz h fun _ _ h => ⟨h.1,hK _ _ h.2⟩
theorem zcg7 {x : Ins × List Ins} {K : Fr → aq → Prop} {fr : Fr} {σ : aq} (h : zbwl P x K fr σ) : rk P x.1 K fr σ := zcaz h fun _ _ h => h.2
theorem zcjw {x : Ins} {K : Fr → aq → Prop} {fr : Fr} {σ : aq} : zbwl P (x,[]) K fr σ ↔ rk P x K fr σ := ⟨zcg7,fun h => zcaz h fun _ _ h => ⟨trivial,h⟩⟩
def zbmh (P : Program) : List (Ins × List Ins) → (Fr → aq → Prop) → Fr → aq → Prop
 | [],K => K
 | x :: r,K => match x.2 with | [] => rk P x.1 (zbmh P r K) | _ :: _ => zbwl P x (zbmh P r K)
theorem zcaa {x : Ins × List Ins} {r : List (Ins × List Ins)} {K : Fr → aq → Prop} {fr : Fr} {σ : aq} : zbmh P (x :: r) K fr σ ↔ zbwl P x (zbmh P r K) fr σ := by
 obtain ⟨x,ys⟩ := x
 cases ys with
 | nil => exact zcjw.symm
 | cons y ys => exact Iff.rfl
theorem zco0 {fr : Fr} {d : Option Nat} {v : Value} {y : Ins} (h : gj d y.looks = true) : zbix fr (fr.put d v) y.i.ops ∧ (∀ t b,y.guard = some (t,b) → (fr.put d v) t = fr t) := ⟨zb6l h,fun t b hg => zb4t h hg⟩
theorem zc70 {d : Option Nat} {l r : List Nat} (h : gj d (l ++ r) = true) : gj d l = true ∧ gj d r = true := by
 cases d with
 | none => exact ⟨rfl,rfl⟩
 | some d => simpa [gj] using h
theorem zbt5 {fr fr' : Fr} {g : Option (Nat × Bool)} (h : ∀ t b,g = some (t,b) → fr' t = fr t) : gdP fr' g ↔ gdP fr g := by
 cases g with
 | none => exact Iff.rfl
 | some tb => obtain ⟨t,b⟩ := tb; simp only [gdP]; rw [h t b rfl]
theorem zdd3 {y : Ins} {fr fr' : Fr} {σ : aq} (hc : z4 y.i = .R) (h1 : zbix fr fr' y.i.ops) (h2 : ∀ t b,y.guard = some (t,b) → fr' t = fr t) (h3 : ∀ d,y.dst = some d → fr' d = fr d) (h : zbma P y fr σ) : zbma P y fr' σ := by
 intro hg
 obtain ⟨v,e,h⟩ := zb1w hc (h ((zbt5 h2).1 hg))
 exact h fr' σ _ h1 (.refl _) fun d hd => (e d hd).trans (h3 d hd).symm
structure Ent where
 k : Nat
 x : Ins
 ys : List (Nat × Ins)
def Ent.out (e : Ent) : Ins × List Ins := (e.x,e.ys.map (·.2))
def zb7d (anc : List Nat) (y x : Ent) : Bool :=
 y.ys.isEmpty && apart y.x x.x && (zb38 (z4 y.x.i) (z4 x.x.i) || (decide (z4 y.x.i = .R) && x.ys.any (fun z => z.1 == y.k) && gj y.x.dst y.x.looks)) &&
 x.ys.all fun z => (z.1 == y.k) || ((anc.getD z.1 0).testBit y.k) || (gj y.x.dst z.2.dsts)
theorem zchm {y : Ins} {k : Nat} {x : Ins} {ys : List (Nat × Ins)} {K : Fr → aq → Prop} {fr : Fr} {σ : aq} (hap : apart y x = true) (hcl : zb38 (z4 y.i) (z4 x.i) = true ∨ ((z4 y.i = .R ∧ ∃ z ∈ ys,z.1 = k) ∧ gj y.dst y.looks = true)) (hoth : ∀ z ∈ ys,z.1 = k ∨ gj y.dst z.2.dsts = true) (hR : ∀ z ∈ ys,z4 z.2.i = .R ∧ (z.1 = k → z.2 = y))
 (h : rk P y (zbwl P (x,ys.map (·.2)) K) fr σ) : zbwl P (x,(ys.filter fun z => z.1 != k).map (·.2)) (rk P y K) fr σ := by
 simp only [apart,Bool.and_eq_true] at hap
 obtain ⟨⟨h1,h2⟩,h3⟩ := hap
 have hy : z4 y.i = .P ∨ z4 y.i = .R := by
  rcases hcl with hcl | hcl
  · cases hc : z4 y.i <;> rw [hc] at hcl <;> simp [zb38] at hcl ⊢
  · exact .inr hcl.1.1
 have hfirst := zdbg hy h
 -- what is told when the guard does not hold
 obtain ⟨v,hvu,hx,hrest⟩ := hfirst
 refine zdbf (zcal (zb6l h1)) (fun t b hg => (zb4t h1 hg).symm) (fun u σ' hl hk => ?_) hx
 obtain ⟨hst,hk⟩ := hk
 rw [zcdm] at hst
 refine ⟨?_,?_⟩
 · rw [zcdm]
   intro z hz
   obtain ⟨⟨kz,z'⟩,hz1,rfl⟩ := List.mem_map.1 hz
   simp only [List.mem_filter,bne_iff_ne,ne_eq] at hz1
   have hs := hst z' (List.mem_map.2 ⟨_,hz1.1,rfl⟩)
   have hf : gj y.dst z'.dsts = true := by
    rcases hoth _ hz1.1 with e | e
    · exact absurd e hz1.2
    · exact e
   obtain ⟨f1,f2⟩ := zc70 hf
   have e : (fr.put y.dst v).put x.dst u = (fr.put x.dst u).put y.dst v := zcgw h3
   rw [e] at hs
   obtain ⟨q1,q2⟩ := zco0 (fr := fr.put x.dst u) (v := v) f1
   refine zdd3 (hR _ hz1.1).1 (zcal q1) (fun t b hg => (q2 t b hg).symm) (fun d hd => ?_) hs
   have hd' : z'.dst = some d := hd
   exact (zcbs f2 (by simp [hd'])).symm
 · rw [zcgw h3] at hk
   rcases hcl with hcl | ⟨⟨hyR,z,hzm,hzk⟩,hself⟩
   · refine hrest _ σ' K (zb6l h2) (fun t b hg => zb4t h2 hg) (fun hc => hl fun hw => ?_) hk
     rw [hc,hw] at hcl; cases hcl
   · have hzy := (hR z hzm).2 hzk
     have hs := hst z.2 (List.mem_map.2 ⟨z,hzm,rfl⟩)
     rw [hzy,zcgw h3] at hs
     obtain ⟨q1,q2⟩ := zco0 (fr := fr.put x.dst u) (v := v) hself
     unfold rk
     unfold zbma at hs
     cases hg : y.guard with
     | none =>
      rw [hg] at hs
      simp only
      obtain ⟨w,e,hw⟩ := zb1w hyR (hs trivial)
      have := hw (fr.put x.dst u) σ' (fun v σ' => K ((fr.put x.dst u).put y.dst v) σ') (zcal q1) (.refl _) (by
       cases hd : y.dst with
       | none => rw [hd] at hk; exact hk
       | some d =>
        have := e d hd
        rw [hd] at this hk
        simp only [Fr.put,if_true] at this
        rw [this]; exact hk)
      rw [zbwb (by rw [hyR]; simp)]
      exact this
     | some tb =>
      obtain ⟨t,b⟩ := tb
      rw [hg] at hs
      simp only [gdP] at hs
      rw [q2 t b hg] at hs
      simp only
      refine ⟨fun ht => ?_,fun ht => ?_⟩
      · obtain ⟨w,e,hw⟩ := zb1w hyR (hs ht)
        have := hw (fr.put x.dst u) σ' (fun v σ' => K ((fr.put x.dst u).put y.dst v) σ') (zcal q1) (.refl _) (by
         cases hd : y.dst with
         | none => rw [hd] at hk; exact hk
         | some d =>
          have := e d hd
          rw [hd] at this hk
          simp only [Fr.put,if_true] at this
          rw [this]; exact hk)
        rw [zbwb (by rw [hyR]; simp)]
        exact this
      · -- the guard does not hold: nothing was told
        have hgf : (fr.put x.dst u) t = fr t := zb4t h2 hg
        rw [hgf] at ht
        have hvu := hvu (by rw [hg]; exact ht)
        rw [hvu] at hk
        exact hk
theorem zc5r {x : Ins} {K : Fr → aq → Prop} {l2 : List (Ins × List Ins)} {ys : List (Nat × Ins)} {anc : List Nat} (hR : ∀ z ∈ ys,z4 z.2.i = .R) : ∀ (l1 : List Ent) {fr : Fr} {σ : aq},(∀ e ∈ l1,zb7d anc e ⟨0,x,ys⟩ = true ∧ ∀ z ∈ ys,z.1 = e.k → z.2 = e.x) →
 (∀ a e b,l1 = a ++ e :: b → ∀ z ∈ ys,(anc.getD z.1 0).testBit e.k = true → z.1 ∈ b.map (·.k)) →
 (l1.map (·.k)).Nodup → zbmh P (l1.map Ent.out ++ (x,ys.map (·.2)) :: l2) K fr σ → zbwl P (x,(ys.filter fun z => l1.all fun e => z.1 != e.k).map (·.2)) (zbmh P (l1.map Ent.out ++ l2) K) fr σ
 | [],fr,σ,_,_,_,h => by
  have e : (ys.filter fun z => ([] : List Ent).all fun e => z.1 != e.k) = ys := by simp
  rw [e]
  exact zcaa.1 h
 | e :: l1,fr,σ,hall,hH,hnd,h => by
  obtain ⟨k,y,yy⟩ := e
  have hw := (hall ⟨k,y,yy⟩ (by simp)).1
  have heq := (hall ⟨k,y,yy⟩ (by simp)).2
  have hyy : yy = [] := by
   simp only [zb7d,Bool.and_eq_true,List.isEmpty_iff] at hw
   exact hw.1.1.1
  subst hyy
  have h0 := zcg7 (zcaa.1 h)
  have hnd' : k ∉ l1.map (·.k) ∧ (l1.map (·.k)).Nodup := by simpa using hnd
  have h1 : rk P y (zbwl P (x,(ys.filter fun z => l1.all fun e => z.1 != e.k).map (·.2)) (zbmh P (l1.map Ent.out ++ l2) K)) fr σ :=
   zcaz h0 fun fr σ h => zc5r hR l1 (fun e he => hall e (List.mem_cons_of_mem _ he)) (fun a e b hb => hH (⟨k,y,[]⟩ :: a) e b (by rw [hb]; rfl)) hnd'.2 h
  simp only [zb7d,Bool.and_eq_true,Bool.or_eq_true,List.all_eq_true,List.any_eq_true,beq_iff_eq,decide_eq_true_eq] at hw
  obtain ⟨⟨q1,q2⟩,q3⟩ := hw
  have h2 := zchm (k := k) q1.2 (by
   rcases q2 with q2 | ⟨⟨p1,z,p2,p3⟩,p4⟩
   · exact .inl q2
   · refine .inr ⟨⟨p1,z,List.mem_filter.2 ⟨p2,?_⟩,p3⟩,p4⟩
     rw [List.all_eq_true]
     intro e he
     simp only [bne_iff_ne,ne_eq]
     intro hk
     exact hnd'.1 (List.mem_map.2 ⟨e,he,by rw [← hk,p3]⟩))
   (fun z hz => by
    obtain ⟨hz1,hz2⟩ := List.mem_filter.1 hz
    rcases q3 z hz1 with (h | h) | h
    · exact .inl h
    · exfalso
      have := hH [] ⟨k,y,[]⟩ l1 rfl z hz1 h
      obtain ⟨e,he,hk⟩ := List.mem_map.1 this
      rw [List.all_eq_true] at hz2
      have := hz2 e he
      simp [hk] at this
    · exact .inr h)
   (fun z hz => ⟨hR z (List.mem_filter.1 hz).1,fun hk => heq z (List.mem_filter.1 hz).1 hk⟩) h1
  have e1 : ((ys.filter fun z => l1.all fun e => z.1 != e.k).filter fun z => z.1 != k) = ys.filter fun z => ((⟨k,y,[]⟩ : Ent) :: l1).all fun e => z.1 != e.k := by
   rw [List.filter_filter]
   congr 1
  rw [e1] at h2
  exact zbug h2 fun fr σ h => zcaa.2 (zcjw.2 h)
structure DH where
 ord : List Nat
 anc : List Nat
 wr : List Nat
 pend : List (Nat × List Nat)
def zbot (o : Oper) : List Nat := (o.after.toList.filter (Region.binds .any)).map (·.on)
def zb0n (anc : List Nat) (l : List Nat) : Nat := l.foldl (fun s e => s ||| (2 ^ e ||| anc.getD e 0)) 0
def zb7c (anc : List Nat) : List Oper → Nat → Bool
 | [],_ => true
 | o :: r,i => (zbot o).all (· < i) && (anc.getD i 0 == zb0n anc (zbot o)) && zb7c anc r (i + 1)
def zbwp (anc : List Nat) (p q : Ent) : Bool :=
 p.k != q.k && !((anc.getD p.k 0).testBit q.k) && ((anc.getD q.k 0).testBit p.k || zb7d anc p q)
def zbo0 (anc : List Nat) : List Ent → Bool
 | [] => true
 | p :: r => r.all (zbwp anc p) && !((anc.getD p.k 0).testBit p.k) && p.ys.all (fun z => decide (z4 z.2.i = .R) && !((r.map (·.k)).contains z.1)) && zbo0 anc r
def zbwx (wr : List Nat) (i : Nat) (x : Ins) : Ins := if wr.contains i then { x with i := x.i.toW } else x
theorem zb2l (wr : List Nat) (i : Nat) (x : Ins) : (zbwx wr i x).dst = x.dst ∧ (zbwx wr i x).guard = x.guard ∧ ((zbwx wr i x).i = x.i ∨ (zbwx wr i x).i = x.i.toW) := by
 unfold zbwx; split <;> simp
theorem zchk {i : I} (h : z4 i = .R) : i.toW = i := by cases i <;> first | rfl | cases h
theorem zb7q {wr : List Nat} {i : Nat} {x : Ins} (h : z4 x.i = .R) : zbwx wr i x = x := by
 unfold zbwx
 split
 · rw [zchk h]
 · rfl
def zb0g (l : List (Nat × List Nat)) (i : Nat) : List Nat := match l with | [] => [] | (k,js) :: r => if k = i then js else zb0g r i
def zb90 (P : Program) (N : Nat) (ops : Array Oper) : List Nat → Option (List (Nat × Ins))
 | [] => some []
 | j :: r => match ops[j]? with
  | none => none
  | some o => match zbyo P N ops o,zb90 P N ops r with
   | some x,some l => some ((j,x) :: l)
   | _,_ => none
theorem zc5m {ops : Array Oper} : ∀ {js : List Nat} {l : List (Nat × Ins)},zb90 P N ops js = some l → ∀ z ∈ l,∃ o,ops[z.1]? = some o ∧ zbyo P N ops o = some z.2
 | [],l,h => by injection h with h; subst h; exact fun z hz => by simp at hz
 | j :: r,l,h => by
  simp only [zb90] at h
  split at h
  · cases h
  · rename_i o ho
    split at h
    · rename_i x l' hx hl'
      injection h with h; subst h
      intro z hz
      rcases List.mem_cons.1 hz with rfl | hz
      · exact ⟨o,ho,hx⟩
      · exact zc5m hl' z hz
    · cases h
def zbx7 (P : Program) (N : Nat) (ops : Array Oper) (h : DH) : List Nat → Option (List Ent)
 | [] => some []
 | i :: r => match ops[i]? with
  | none => none
  | some o => match zbyo P N ops o,zb90 P N ops (zb0g h.pend i),zbx7 P N ops h r with
   | some x,some ys,some l => some (⟨i,zbwx h.wr i x,ys⟩ :: l)
   | _,_,_ => none
def zb6a (P : Program) (N : Nat) (ops : Array Oper) (h : DH) : Option (List (Ins × List Ins)) :=
 match zbx7 P N ops h h.ord with
 | none => none
 | some l => if (h.ord.length == ops.size) && zb7c h.anc ops.toList 0 && zbo0 h.anc l && (List.range ops.size).all (h.ord.contains ·) && P.follows .mixedOrders then some (l.map Ent.out) else none
theorem zc7k (anc : List Nat) (y : Nat) : ∀ (l : List Nat) (s : Nat),(l.foldl (fun s e => s ||| (2 ^ e ||| anc.getD e 0)) s).testBit y = true → s.testBit y = true ∨ ∃ e ∈ l,y = e ∨ (anc.getD e 0).testBit y = true
 | [],s,h => .inl h
 | e :: l,s,h => by
  rcases zc7k anc y l _ h with h | ⟨e',he,h⟩
  · simp only [Nat.testBit_or,Bool.or_eq_true,Nat.testBit_two_pow,decide_eq_true_eq] at h
    rcases h with h | h | h
    · exact .inl h
    · exact .inr ⟨e,by simp,.inl h.symm⟩
    · exact .inr ⟨e,by simp,.inr h⟩
  · exact .inr ⟨e',by simp [he],h⟩
theorem zc51 (anc : List Nat) (y : Nat) : ∀ (l : List Nat) (s : Nat),(s.testBit y = true ∨ y ∈ l) → (l.foldl (fun s e => s ||| (2 ^ e ||| anc.getD e 0)) s).testBit y = true
 | [],s,h => by simpa using h
 | e :: l,s,h => by
  refine zc51 anc y l _ ?_
  rcases h with h | h
  · exact .inl (by simp [h])
  · rcases List.mem_cons.1 h with rfl | h
    · exact .inl (by simp)
    · exact .inr h
theorem zcan {anc : List Nat} : ∀ (l : List Oper) (k : Nat),zb7c anc l k = true → ∀ j o,l[j]? = some o → (∀ e ∈ zbot o,e < k + j) ∧ anc.getD (k + j) 0 = zb0n anc (zbot o)
 | [],_,_,j,o,h => by simp at h
 | x :: r,k,hm,j,o,h => by
  simp only [zb7c,Bool.and_eq_true,List.all_eq_true,decide_eq_true_eq,beq_iff_eq] at hm
  cases j with
  | zero => simp at h; subst h; exact ⟨hm.1.1,hm.1.2⟩
  | succ j =>
   have := zcan r (k + 1) hm.2 j o (by simpa using h)
   rwa [show k + (j + 1) = k + 1 + j by omega]
def zb4l (P : Program) (N : Nat) (ops : Array Oper) (wr : List Nat) (p : Ent) : Prop := ∃ o x,ops[p.k]? = some o ∧ zbyo P N ops o = some x ∧ p.x = zbwx wr p.k x ∧ ∀ z ∈ p.ys,∃ oz,ops[z.1]? = some oz ∧ zbyo P N ops oz = some z.2
theorem zcob {ops : Array Oper} {h : DH} : ∀ {ord : List Nat} {l : List Ent},zbx7 P N ops h ord = some l → l.map (·.k) = ord ∧ ∀ p ∈ l,zb4l P N ops h.wr p
 | [],l,hd => by injection hd with hd; subst hd; exact ⟨rfl,fun p hp => by simp at hp⟩
 | i :: r,l,hd => by
  simp only [zbx7] at hd
  split at hd
  · cases hd
  · rename_i o ho
    split at hd
    · rename_i x ys l' hx hys hl'
      injection hd with hd; subst hd
      obtain ⟨e1,e2⟩ := zcob hl'
      refine ⟨by simp [e1],fun p hp => ?_⟩
      rcases List.mem_cons.1 hp with rfl | hp
      · exact ⟨o,x,ho,hx,rfl,zc5m hys⟩
      · exact e2 p hp
    · cases hd
theorem zb6s {anc : List Nat} : ∀ {l1 : List Ent} {x : Ent} {l2 : List Ent},zbo0 anc (l1 ++ x :: l2) = true → (∀ y ∈ l1,zbwp anc y x = true) ∧ (∀ y ∈ l2,zbwp anc x y = true) ∧ (anc.getD x.k 0).testBit x.k = false ∧ (∀ z ∈ x.ys,z4 z.2.i = .R ∧ z.1 ∉ l2.map (·.k)) ∧ zbo0 anc (l1 ++ l2) = true
 | [],x,l2,h => by
  simp only [List.nil_append,zbo0,Bool.and_eq_true,List.all_eq_true,Bool.not_eq_true',decide_eq_true_eq] at h
  exact ⟨fun y hy => by simp at hy,h.1.1.1,h.1.1.2,fun z hz => ⟨(h.1.2 z hz).1,by simpa using (h.1.2 z hz).2⟩,h.2⟩
 | z :: l1,x,l2,h => by
  simp only [List.cons_append,zbo0,Bool.and_eq_true,List.all_eq_true,Bool.not_eq_true',decide_eq_true_eq] at h ⊢
  obtain ⟨a,b,c,c2,d⟩ := zb6s h.2
  refine ⟨fun y hy => ?_,b,c,c2,⟨⟨fun y hy => h.1.1.1 y ?_,h.1.1.2⟩,fun y hy => ⟨(h.1.2 y hy).1,?_⟩⟩,d⟩
  · rcases List.mem_cons.1 hy with rfl | hy
    · exact h.1.1.1 x (by simp)
    · exact a y hy
  · rcases List.mem_append.1 hy with hy | hy
    · exact List.mem_append_left _ hy
    · exact List.mem_append_right _ (List.mem_cons_of_mem _ hy)
  · have := (h.1.2 y hy).2
    simp only [List.contains_eq_mem,decide_eq_false_iff_not,List.mem_map,List.mem_append,List.mem_cons,not_exists,not_and] at this ⊢
    intro e he
    exact this e (he.imp id .inr)
theorem zcuy {anc : List Nat} : ∀ {l : List Ent},zbo0 anc l = true → (l.map (·.k)).Nodup
 | [],_ => by simp
 | p :: r,h => by
  simp only [zbo0,Bool.and_eq_true,List.all_eq_true] at h
  simp only [List.map_cons,List.nodup_cons,List.mem_map,not_exists,not_and]
  refine ⟨fun y hy he => ?_,zcuy h.2⟩
  have := h.1.1.1 y hy
  simp [zbwp,he] at this
theorem zc52 {ops : Array Oper} {listed : Array Bool} {i : Nat} (h : i ∈ Region.ready .any ops listed) : i < ops.size ∧ listed.getD i true = false ∧ ∃ o,ops[i]? = some o ∧ ∀ e ∈ zbot o,listed.getD e false = true := by
 simp only [Region.ready,List.mem_filter,List.mem_range,Bool.and_eq_true,Bool.not_eq_true'] at h
 obtain ⟨h1,h2,h3⟩ := h
 have ho : ops[i]? = some ops[i] := Array.getElem?_eq_getElem h1
 refine ⟨h1,h2,ops[i],ho,fun e he => ?_⟩
 rw [ho] at h3
 simp only [Option.map_some,Option.getD_some,Array.all_eq_true'] at h3
 simp only [zbot,List.mem_map,List.mem_filter] at he
 obtain ⟨ed,⟨hed,hb⟩,rfl⟩ := he
 have := h3 ed (by simpa using hed)
 simpa [hb] using this
theorem zbn3 {ops : Array Oper} {B : Nat} {w0 : World} {K : Fr → aq → Prop} {Q : Exit → Act → World → Prop} {anc wr : List Nat} (hm : zb7c anc ops.toList 0 = true) :
 ∀ (n : Nat) (l : List Ent) (listed : Array Bool) (m : Mp) (fr : Fr) (σ : aq) (w : World) (a : Act),l.length = n → listed.size = ops.size →
 (∀ p ∈ l,zb4l P N ops wr p) → zbo0 anc l = true → (∀ i,i < ops.size → (listed.getD i true = false ↔ i ∈ l.map (·.k))) →
 (∀ i o,listed.getD i true = true → ops[i]? = some o → ∀ e ∈ zbot o,listed.getD e false = true) →
 Rep B w0 σ m w → mi m N fr a → zbmh P (l.map Ent.out) K fr σ →
 (∀ m' fr' σ' a' w',m.le m' → Rep B w0 σ' m' w' → mi m' N fr' a' → K fr' σ' → Q .normal a' w') → wpAny P .any ops Q n listed a w := by
 have gd : ∀ (b : Array Bool) (j : Nat) (x y : Bool),j < b.size → b.getD j x = b.getD j y := fun b j x y h => by simp [Array.getD,h]
 intro n
 induction n with
 | zero =>
  intro l listed m fr σ w a hl hs hc hp hu hcl hr hf hev hQ
  have hl0 : l = [] := List.eq_nil_of_length_eq_zero hl
  subst hl0
  refine ⟨?_,hQ m fr σ a w (.refl m) hr hf hev⟩
  refine List.eq_nil_iff_forall_not_mem.2 fun i hi => ?_
  obtain ⟨h1,h2,_⟩ := zc52 hi
  simpa using (hu i h1).1 h2
 | succ n ih =>
  intro l listed m fr σ w a hl hs hc hp hu hcl hr hf hev hQ
  -- every unlisted thing all of whose forerunners are listed
  refine ⟨fun hnil => ?_,fun i hi => ?_⟩
  · exfalso
    cases l with
    | nil => simp at hl
    | cons p r =>
     obtain ⟨o,_,ho,hco,_⟩ := hc p (by simp)
     have hlt : p.k < ops.size := (Array.getElem?_eq_some_iff.1 ho).1
     have hun := (hu p.k hlt).2 (by simp)
     obtain ⟨_,hpr,hself,_,_⟩ := zb6s (l1 := []) (x := p) (l2 := r) hp
     obtain ⟨k1,k2⟩ := zcan ops.toList 0 hm p.k o (by simpa using ho)
     rw [Nat.zero_add] at k1 k2
     have hmem : p.k ∈ Region.ready .any ops listed := by
      simp only [Region.ready,List.mem_filter,List.mem_range,Bool.and_eq_true,Bool.not_eq_true']
      refine ⟨hlt,hun,?_⟩
      rw [ho]
      simp only [Option.map_some,Option.getD_some,Array.all_eq_true']
      intro e he
      by_cases hb : Region.binds .any e = true
      · have hmp : e.on ∈ zbot o := by
         simp only [zbot,List.mem_map,List.mem_filter]
         exact ⟨e,⟨by simpa using he,hb⟩,rfl⟩
        have hbit : (anc.getD p.k 0).testBit e.on = true := by rw [k2]; exact zc51 anc e.on _ 0 (.inr hmp)
        have hlt2 : e.on < ops.size := Nat.lt_trans (k1 _ hmp) hlt
        have : listed.getD e.on true = true := by
         cases hq : listed.getD e.on true with
         | true => rfl
         | false =>
          have hin := (hu _ hlt2).1 hq
          simp only [List.map_cons,List.mem_cons,List.mem_map] at hin
          rcases hin with e1 | ⟨q,hq1,hq2⟩
          · rw [e1] at hbit; rw [hbit] at hself; cases hself
          · have := hpr q hq1
            simp only [zbwp,Bool.and_eq_true,Bool.not_eq_true'] at this
            rw [hq2,hbit] at this
            exact absurd this.1.2 (by simp)
        rw [hb,gd listed e.on false true (by rw [hs]; exact hlt2),this]
        rfl
      · simp [hb]
     rw [hnil] at hmem
     cases hmem
  · obtain ⟨hlt,hun,o,ho,hpre⟩ := zc52 hi
    have hin := (hu i hlt).1 hun
    obtain ⟨p,hp1,hp2⟩ := List.mem_map.1 hin
    obtain ⟨l1,l2,rfl⟩ := List.append_of_mem hp1
    obtain ⟨i',x,ys⟩ := p
    simp only at hp2
    subst hp2
    obtain ⟨q1,q2,q3,qR,q4⟩ := zb6s hp
    obtain ⟨o',x0,ho',hx,hxw,hys⟩ := hc _ hp1
    rw [ho] at ho'
    injection ho' with ho'
    subst ho'
    -- nothing that is still to come comes before it
    have back : ∀ (j : Nat) (oj : Oper),ops[j]? = some oj → (∀ e ∈ zbot oj,listed.getD e false = true) → ∀ y,listed.getD y false = false → (anc.getD j 0).testBit y = true → False := by
     intro j
     induction j using Nat.strongRecOn with
     | _ j ihj =>
      intro oj hoj hpj y hyu hb
      obtain ⟨k1,k2⟩ := zcan ops.toList 0 hm j oj (by simpa using hoj)
      rw [Nat.zero_add] at k1 k2
      rw [k2] at hb
      rcases zc7k anc y (zbot oj) 0 hb with h0 | ⟨e,he,rfl | hbe⟩
      · simp at h0
      · rw [hpj _ he] at hyu; cases hyu
      · have hej := k1 e he
        have hjs : j < ops.size := (Array.getElem?_eq_some_iff.1 hoj).1
        have hes : e < ops.size := Nat.lt_trans hej hjs
        have hoe : ops[e]? = some ops[e] := Array.getElem?_eq_getElem hes
        have hle := hpj e he
        exact ihj e hej ops[e] hoe (hcl e ops[e] (by rw [gd listed e true false (by rw [hs]; exact hes)]; exact hle) hoe) y hyu hbe
    have hfront : ∀ y ∈ l1,zb7d anc y ⟨0,x,ys⟩ = true := by
     intro y hy
     have h1 := q1 y hy
     simp only [zbwp,Bool.and_eq_true,Bool.or_eq_true] at h1
     rcases h1.2 with h2 | h2
     · exfalso
       obtain ⟨oy,_,hoy,_⟩ := hc y (List.mem_append_left _ hy)
       have hys : y.k < ops.size := (Array.getElem?_eq_some_iff.1 hoy).1
       have hyu := (hu y.k hys).2 (List.mem_map.2 ⟨y,List.mem_append_left _ hy,rfl⟩)
       exact back i' o ho hpre y.k (by rw [gd listed y.k false true (by rw [hs]; exact hys)]; exact hyu) h2
     · exact h2
    have hsame : ∀ y ∈ l1,∀ z ∈ ys,z.1 = y.k → z.2 = y.x := by
     intro y hy z hz hk
     obtain ⟨oz,hoz,hcz⟩ := hys z hz
     obtain ⟨oy,xy,hoy,hcy,hxy,_⟩ := hc y (List.mem_append_left _ hy)
     rw [hk,hoy] at hoz
     injection hoz with hoz
     subst hoz
     rw [hcy] at hcz
     injection hcz with hcz
     rw [hxy,hcz,zb7q (by exact (qR z hz).1)]
    have hnd : (l1.map (·.k)).Nodup := by
     have := zcuy hp
     rw [List.map_append] at this
     exact (List.nodup_append.1 this).1
    have hH : ∀ a e b,l1 = a ++ e :: b → ∀ z ∈ ys,(anc.getD z.1 0).testBit e.k = true → z.1 ∈ b.map (·.k) := by
     intro a e b hab z hz hbit
     have he1 : e ∈ l1 := by rw [hab]; simp
     obtain ⟨oe,_,hoe,_⟩ := hc e (List.mem_append_left _ he1)
     have hes : e.k < ops.size := (Array.getElem?_eq_some_iff.1 hoe).1
     have heu := (hu e.k hes).2 (List.mem_map.2 ⟨e,List.mem_append_left _ he1,rfl⟩)
     have heu' : listed.getD e.k false = false := by rw [gd listed e.k false true (by rw [hs]; exact hes)]; exact heu
     obtain ⟨oz,hoz,_⟩ := hys z hz
     have hzs : z.1 < ops.size := (Array.getElem?_eq_some_iff.1 hoz).1
     cases hq : listed.getD z.1 true with
     | true => exact (back z.1 oz hoz (hcl z.1 oz hq hoz) e.k heu' hbit).elim
     | false =>
      have hin := (hu z.1 hzs).1 hq
      obtain ⟨w,hw,hwk⟩ := List.mem_map.1 hin
      rcases List.mem_append.1 hw with hw | hw
      · rw [hab] at hw
        rcases List.mem_append.1 hw with hw | hw
        · exfalso
          obtain ⟨a1,a2,rfl⟩ := List.append_of_mem hw
          have hp' : zbo0 anc (a1 ++ w :: (a2 ++ e :: b ++ ⟨i',x,ys⟩ :: l2)) = true := by
           rw [hab] at hp
           simpa using hp
          have := (zb6s hp').2.1 e (by simp)
          simp only [zbwp,Bool.and_eq_true,Bool.not_eq_true'] at this
          rw [hwk,hbit] at this
          exact absurd this.1.2 (by simp)
        · rcases List.mem_cons.1 hw with rfl | hw
          · exfalso
            have hp' : zbo0 anc (a ++ w :: (b ++ ⟨i',x,ys⟩ :: l2)) = true := by
             rw [hab] at hp
             simpa using hp
            have := (zb6s hp').2.2.1
            rw [← hwk] at hbit
            rw [hbit] at this
            cases this
          · exact List.mem_map.2 ⟨w,hw,hwk⟩
      · exfalso
        rcases List.mem_cons.1 hw with rfl | hw
        · rw [← hwk] at hbit
          exact back i' o ho hpre e.k heu' hbit
        · exact (qR z hz).2 (List.mem_map.2 ⟨w,hw,hwk⟩)
    have hev' : rk P x (zbmh P ((l1 ++ l2).map Ent.out) K) fr σ := by
     have h1 : zbmh P (l1.map Ent.out ++ (x,ys.map (·.2)) :: l2.map Ent.out) K fr σ := by simpa [Ent.out] using hev
     have h2 := zc5r (fun z hz => (qR z hz).1) l1 (fun e he => ⟨hfront e he,hsame e he⟩) hH hnd h1
     have h3 := zcg7 h2
     rw [List.map_append]
     exact h3
    have hlen : (l1 ++ l2).length = n := by simp at hl ⊢; omega
    have hset : (listed.setIfInBounds i' true).size = ops.size := by simpa using hs
    have hc' : ∀ p ∈ l1 ++ l2,zb4l P N ops wr p := fun p hp => hc p (by
     rcases List.mem_append.1 hp with h | h
     · exact List.mem_append_left _ h
     · exact List.mem_append_right _ (List.mem_cons_of_mem _ h))
    have gset : ∀ j x,j < ops.size → (listed.setIfInBounds i' true).getD j x = if j = i' then true else listed.getD j x := fun j x hj => by
     by_cases e : j = i'
     · subst e; simp [Array.getD,hs,hlt]
     · simp only [Array.getD_eq_getD_getElem?]
       rw [Array.getElem?_setIfInBounds_ne (fun h => e h.symm),if_neg e]
    have hu' : ∀ j,j < ops.size → ((listed.setIfInBounds i' true).getD j true = false ↔ j ∈ (l1 ++ l2).map (·.k)) := fun j hj => by
     rw [gset j true hj]
     by_cases e : j = i'
     · subst e
       simp only [if_true,Bool.true_eq_false,false_iff,List.mem_map,not_exists,not_and]
       intro y hy he
       rcases List.mem_append.1 hy with h | h
       · have := q1 y h
         simp [zbwp,he] at this
       · have := q2 y h
         simp [zbwp,he] at this
     · rw [if_neg e,hu j hj]
       simp only [List.map_append,List.map_cons,List.mem_append,List.mem_cons]
       constructor
       · rintro (h | h | h)
         · exact .inl h
         · exact absurd h e
         · exact .inr h
       · rintro (h | h)
         · exact .inl h
         · exact .inr (.inr h)
    have hcl' : ∀ j oj,(listed.setIfInBounds i' true).getD j true = true → ops[j]? = some oj → ∀ e ∈ zbot oj,(listed.setIfInBounds i' true).getD e false = true := fun j oj hj hoj e he => by
     have hjs : j < ops.size := (Array.getElem?_eq_some_iff.1 hoj).1
     have hes : e < ops.size := by
      have := (zcan ops.toList 0 hm j oj (by simpa using hoj)).1 e he
      omega
     rw [gset e false hes]
     split
     · rfl
     · rw [gset j true hjs] at hj
       by_cases e1 : j = i'
       · subst e1
         rw [ho] at hoj
         injection hoj with hoj
         subst hoj
         exact hpre e he
       · rw [if_neg e1] at hj
         exact hcl j oj hj hoj e he
    unfold wpOp
    simp only [ho]
    obtain ⟨u1,u2,u3⟩ := zb2l wr i' x0
    simp only at hxw
    rw [← hxw] at u1 u2 u3
    simp only [zbyo] at hx
    split at hx
    · rename_i ii g hi' hg
      injection hx with hx
      subst hx
      simp only at u1 u2 u3
      have hw := zc6w (ops := ops) hf hg
      have go : zbly P x.i (fun v σ' => zbmh P ((l1 ++ l2).map Ent.out) K (fr.put x.dst v) σ') fr σ → o.wp P a w (wpAny P .any ops Q n (listed.setIfInBounds i' true)) Q := fun he => by
       have he' : evI P ii (fun v σ' => zbmh P ((l1 ++ l2).map Ent.out) K (fr.put o.dst v) σ') fr σ := by
        have := zc96 he
        rw [u1] at this
        rcases u3 with u3 | u3
        · rwa [u3] at this
        · rwa [u3,zb3z] at this
       exact zcru (zbt1 o ii hi' hr hf he') fun v c m' σ' w' h1 h2 h3 h4 =>
        ih (l1 ++ l2) _ m' (fr.put o.dst v) σ' w' (a.put o.dst c) hlen hset hc' q4 hu' hcl' h3 ((hf.mono h1).put _ h2) h4
         fun m2 fr2 σ2 a2 w2 h5 h6 h7 h8 => hQ m2 fr2 σ2 a2 w2 (h1.trans h5) h6 h7 h8
      unfold rk at hev'
      rw [u2] at hev'
      cases g with
      | none =>
       rw [if_pos (hw.2 trivial)]
       exact .inl (go hev')
      | some tb =>
       obtain ⟨t,b⟩ := tb
       obtain ⟨e1,e2⟩ := hev'
       by_cases hfr : fr t = .bool b
       · rw [if_pos (hw.2 hfr)]
         exact .inl (go (e1 hfr))
       · rw [if_neg (fun h => hfr (hw.1 h))]
         have e2 := e2 hfr
         rw [u1] at e2
         exact ih (l1 ++ l2) _ m (fr.put o.dst undef) σ w (a.put o.dst undef) hlen hset hc' q4 hu' hcl' hr (hf.put _ (.undef m)) e2 hQ
    · cases hx
theorem zc95 {id : Nat} {ops : Array Oper} {h : DH} {xs : List (Ins × List Ins)} (hd : zb6a P N ops h = some xs) {Q : Exit → Fr → aq → Prop} {fr : Fr} {σ : aq} (hev : zbmh P xs (Q .normal) fr σ) : SWp P N (.region id ops true) Q fr σ := by
 intro B w0 m w a hr hf
 unfold zb6a at hd
 split at hd
 · cases hd
 · rename_i l hl
   split at hd
   · rename_i hc
     injection hd with hd
     subst hd
     simp only [Bool.and_eq_true,beq_iff_eq,List.all_eq_true,List.mem_range,List.contains_eq_mem,decide_eq_true_eq] at hc
     obtain ⟨⟨⟨⟨h1,h2⟩,h3⟩,h4⟩,h5⟩ := hc
     obtain ⟨e1,e2⟩ := zcob hl
     refine wp_region_any h5 ?_
     have hlen : l.length = ops.size := by rw [← h1,← e1]; simp
     refine zbn3 (P := P) (N := N) (ops := ops) (K := Q .normal) (Q := zb4k B w0 m N Q) h2 ops.size l _ m fr σ _ a hlen (by simp) e2 h3 (fun i hi => ?_) (fun i o hi => ?_) hr.drew hf hev
      fun m' fr' σ' a' w' h1 h2 h3 h4 => ⟨m',fr',σ',h1,h2,h3,h4⟩
     · have : (Array.replicate ops.size false).getD i true = false := by simp [Array.getD,hi]
       simp only [this,true_iff]
       rw [e1]; exact h4 i hi
     · by_cases hlt : i < ops.size
       · simp [Array.getD,hlt] at hi
       · intro ho; exact absurd (Array.getElem?_eq_some_iff.1 ho).1 hlt
   · cases hd
end
def zcb6 (H : List (Nat × DH)) (id : Nat) : DH := match H with | [] => ⟨[],[],[],[]⟩ | (k,d) :: r => if k = id then d else zcb6 r id
def xd (P : Program) (N : Nat) (H : List (Nat × DH)) : Code → Option IC
 | .skip => some .skip
 | .region id ops draw => if draw then (zb6a P N ops (zcb6 H id)).map .draw else (zb1v P N ops ops.toList).map .ops
 | .seq a b => match xd P N H a,xd P N H b with
  | some x,some y => some (.seq x y)
  | _,_ => none
 | .cond c a b => if okO N c then match xd P N H a,xd P N H b with
  | some x,some y => some (.cond c x y)
  | _,_ => none else none
 | .block id a => (xd P N H a).map (.block id)
 | .loop a => (xd P N H a).map .loop
 | .exit id => some (.exit id)
 | .ret => some .ret
 | .label _ => some .skip
 | _ => none
def zb36 (P : Program) (N : Nat) (H : List (Nat × DH)) : Code → Option IC
 | .scope c => xd P N H c
 | .seq a (.scope c) => match xd P N H a,xd P N H c with
  | some x,some y => some (.seq x y)
  | _,_ => none
 | c => xd P N H c
def zc9s (P : Program) (N : Nat) (ic : IC) (Q : Exit → Fr → aq → Prop) (fr : Fr) (σ : aq) : Prop := ∀ H c,xd P N H c = some ic → SWp P N c Q fr σ
def zbyw (next : Fr → aq → Prop) (Q : Exit → Fr → aq → Prop) : Exit → Fr → aq → Prop
 | .normal => next
 | e => Q e
def zb12 (id : Nat) (Q : Exit → Fr → aq → Prop) : Exit → Fr → aq → Prop
 | .exit j => if j = id then Q .normal else Q (.exit j)
 | e => Q e
def evC (P : Program) (N : Nat) : IC → (Exit → Fr → aq → Prop) → Fr → aq → Prop
 | .skip,Q => Q .normal
 | .ops l,Q => evL P l (Q .normal)
 | .draw l,Q => zbmh P l (Q .normal)
 | .seq a b,Q => evC P N a (zbyw (evC P N b Q) Q)
 | .cond c a b,Q => fun fr σ => zbmm (evO fr c) fun t => (t = true → evC P N a Q fr σ) ∧ (t = false → evC P N b Q fr σ)
 | .block id a,Q => evC P N a (zb12 id Q)
 | .loop a,Q => zc9s P N (.loop a) Q
 | .exit id,Q => Q (.exit id)
 | .ret,Q => Q .ret
section
variable {P : Program} {N : Nat} {H : List (Nat × DH)}
theorem zcda : ∀ (c : Code) (ic : IC),xd P N H c = some ic → ∀ (Q : Exit → Fr → aq → Prop) (fr : Fr) (σ : aq),evC P N ic Q fr σ → SWp P N c Q fr σ := by
 intro c
 induction c with
 | skip =>
  intro ic hc Q fr σ h B w0 m w a hr hf
  injection hc with hc; subst hc
  exact wp_skip ⟨m,fr,σ,.refl m,hr,hf,h⟩
 | region id ops draw =>
  intro ic hc Q fr σ h B w0 m w a hr hf
  simp only [xd] at hc
  split at hc
  · rename_i hd
    subst hd
    cases hl : zb6a P N ops (zcb6 H id) with
    | none => simp [hl] at hc
    | some xs =>
     simp [hl] at hc
     subst hc
     exact zc95 hl h B w0 m w a hr hf
  · rename_i hd
    have hd' : draw = false := by simpa using hd
    subst hd'
    cases hl : zb1v P N ops ops.toList with
    | none => simp [hl] at hc
    | some xs =>
     simp [hl] at hc
     subst hc
     refine wp_region ?_
     have := zbr4 (P := P) (N := N) (ops := ops) (K := Q .normal) (Q := zb4k B w0 m N Q) ops.toList 0 xs (fun j => by simp) hl m fr σ w a hr hf h
      fun m' fr' σ' a' w' h1 h2 h3 h4 => ⟨m',fr',σ',h1,h2,h3,h4⟩
     simpa [List.range_eq_range'] using this
 | seq x y ihx ihy =>
  intro ic hc Q fr σ h B w0 m w a hr hf
  simp only [xd] at hc
  split at hc
  · rename_i p q hp hq
    injection hc with hc; subst hc
    have h1 := ihx p hp _ fr σ h B w0 m w a hr hf
    refine wp_seq (wp_mono h1 ?_)
    rintro e a' w' ⟨m',fr',σ',h2,h3,h4,h5⟩
    cases e with
    | normal => exact wp_mono (ihy q hq Q fr' σ' h5 B w0 m' w' a' h3 h4) (zb4k.le h2 fun _ _ _ h => h)
    | exit id => exact ⟨m',fr',σ',h2,h3,h4,h5⟩
    | goto id => exact ⟨m',fr',σ',h2,h3,h4,h5⟩
    | ret => exact ⟨m',fr',σ',h2,h3,h4,h5⟩
    | panic id => exact ⟨m',fr',σ',h2,h3,h4,h5⟩
    | outgrown => exact ⟨m',fr',σ',h2,h3,h4,h5⟩
  · cases hc
 | cond c x y ihx ihy =>
  intro ic hc Q fr σ h B w0 m w a hr hf
  simp only [xd] at hc
  split at hc
  · rename_i hoc
    split at hc
    · rename_i p q hp hq
      injection hc with hc; subst hc
      have hv := bp hf hoc
      simp only [evC] at h
      cases hx : evO fr c with
      | bool t =>
       rw [hx] at hv h
       have := zchf hv
       refine wp_cond this ?_
       cases t
       · exact ihy q hq Q fr σ (h.2 rfl) B w0 m w a hr hf
       · exact ihx p hp Q fr σ (h.1 rfl) B w0 m w a hr hf
      | _ => rw [hx] at h; exact h.elim
    · cases hc
  · cases hc
 | block id x ih =>
  intro ic hc Q fr σ h B w0 m w a hr hf
  simp only [xd] at hc
  cases hx : xd P N H x with
  | none => simp [hx] at hc
  | some p =>
   simp [hx] at hc
   subst hc
   have h1 := ih p hx _ fr σ h B w0 m w a hr hf
   refine wp_block (wp_mono h1 ?_)
   rintro e a' w' ⟨m',fr',σ',h2,h3,h4,h5⟩
   cases e with
   | exit j =>
    simp only [zb12] at h5
    simp only [Exit.inBlock]
    split
    · rename_i hj; rw [if_pos hj] at h5; exact ⟨m',fr',σ',h2,h3,h4,h5⟩
    · rename_i hj; rw [if_neg hj] at h5; exact ⟨m',fr',σ',h2,h3,h4,h5⟩
   | normal => exact ⟨m',fr',σ',h2,h3,h4,h5⟩
   | goto id => exact ⟨m',fr',σ',h2,h3,h4,h5⟩
   | ret => exact ⟨m',fr',σ',h2,h3,h4,h5⟩
   | panic id => exact ⟨m',fr',σ',h2,h3,h4,h5⟩
   | outgrown => exact ⟨m',fr',σ',h2,h3,h4,h5⟩
 | loop x ih =>
  intro ic hc Q fr σ h
  have hc' := hc
  simp only [xd] at hc
  cases hx : xd P N H x with
  | none => simp [hx] at hc
  | some p =>
   simp [hx] at hc
   subst hc
   exact h H _ hc'
 | exit id =>
  intro ic hc Q fr σ h B w0 m w a hr hf
  injection hc with hc; subst hc
  exact wp_exit ⟨m,fr,σ,.refl m,hr,hf,h⟩
 | ret =>
  intro ic hc Q fr σ h B w0 m w a hr hf
  injection hc with hc; subst hc
  exact wp_ret ⟨m,fr,σ,.refl m,hr,hf,h⟩
 | rangeFunc f ps x y _ _ => intro ic hc; simp [xd] at hc
 | scope x _ => intro ic hc; simp [xd] at hc
 | label l =>
  intro ic hc Q fr σ h B w0 m w a hr hf
  injection hc with hc; subst hc
  exact wp_label ⟨m,fr,σ,.refl m,hr,hf,h⟩
 | goto l => intro ic hc; simp [xd] at hc
 | refuse s => intro ic hc; simp [xd] at hc
theorem zcah {ι : Type} {a : IC} {Q : Exit → Fr → aq → Prop} (I : ι → Fr → aq → Prop) (μ : ι → Nat) (i0 : ι) {fr : Fr} {σ : aq} (h0 : I i0 fr σ)
 (round : ∀ i fr σ,I i fr σ → evC P N a (zbyw (fun fr' σ' => ∃ i',μ i' < μ i ∧ I i' fr' σ') Q) fr σ) : zc9s P N (.loop a) Q fr σ := by
 intro H c hc B w0 m w act hr hf
 cases c with
 | loop x =>
  simp only [xd] at hc
  cases hx : xd P N H x with
  | none => simp [hx] at hc
  | some p =>
   simp [hx] at hc
   subst hc
   refine wp_loop_ghost (fun n act w => ∃ i m' fr σ,μ i = n ∧ m.le m' ∧ Rep B w0 σ m' w ∧ mi m' N fr act ∧ I i fr σ) (μ i0) ⟨i0,m,fr,σ,rfl,.refl m,hr,hf,h0⟩ ?_
   rintro n act w ⟨i,m',fr,σ,rfl,hm,hr,hf,hI⟩
   refine wp_mono (zcda x p hx _ fr σ (round i fr σ hI) B w0 m' w act hr hf) ?_
   rintro e a' w' ⟨m2,fr2,σ2,h2,h3,h4,h5⟩
   cases e with
   | normal =>
    obtain ⟨i',hlt,hI'⟩ := h5
    exact ⟨μ i',hlt,i',m2,fr2,σ2,rfl,hm.trans h2,h3,h4,hI'⟩
   | exit id => exact ⟨m2,fr2,σ2,hm.trans h2,h3,h4,h5⟩
   | goto id => exact ⟨m2,fr2,σ2,hm.trans h2,h3,h4,h5⟩
   | ret => exact ⟨m2,fr2,σ2,hm.trans h2,h3,h4,h5⟩
   | panic id => exact ⟨m2,fr2,σ2,hm.trans h2,h3,h4,h5⟩
   | outgrown => exact ⟨m2,fr2,σ2,hm.trans h2,h3,h4,h5⟩
 | region id ops draw =>
  simp only [xd] at hc
  split at hc
  · cases hl : zb6a P N ops (zcb6 H id) <;> simp [hl] at hc
  · cases hl : zb1v P N ops ops.toList <;> simp [hl] at hc
 | seq x y => simp only [xd] at hc; split at hc <;> cases hc
 | cond q x y => simp only [xd] at hc; split at hc <;> (try split at hc) <;> cases hc
 | block id x => simp only [xd] at hc; cases hx : xd P N H x <;> simp [hx] at hc
 | _ => simp [xd] at hc
end
end Go.Proofs.Ytdcfoaafkppojaa.Sh
