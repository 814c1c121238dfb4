import Derived.Test.YtdcfoaafkppojaaM2
set_option linter.unusedVariables false
set_option linter.unusedSimpArgs false
/- Regions whose order the model draws: what may come in any order, told in one order. -/
namespace Go.Proofs.Ytdcfoaafkppojaa.Sh
open Go Go.RowKit
inductive Cls where
 | P | R | T | W
 deriving DecidableEq
def u5 : I → Cls
 | .load1 _ | .loadN _ _ | .toStr _ => .R
 | .box _ _ _ | .call _ _ | .callv _ _ | .buildSl _ _ _ _ _ | .makeSl _ _ _ _ _ | .toBytes _ _ | .mkMap => .T
 | .store _ _ _ | .append _ _ _ _ _ | .appendS _ _ _ | .callW _ _ | .callvW _ _ | .mapGet _ _ _ | .mapSet _ _ _ _ => .W
 | _ => .P
def I.ops : I → List Operand
 | .mov x | .box _ _ x | .load1 x | .loadN _ x | .nilchk x | .isNil _ _ x | .un _ x | .conv _ x | .convS x | .fieldAddr _ x | .field1 _ x | .fieldN _ _ x | .lenS x | .lenL x | .extract x _ | .toBytes _ x | .toStr x => [x]
 | .append _ _ _ s x | .appendS _ s x | .makeSl _ _ _ s x | .indexAgg _ s x | .indexAggN _ _ s x | .eqF _ _ s x => [s,x]
 | .build _ ps | .buildSl _ _ _ _ ps => ps.map fun p => p.2.2
 | .mkMap => []
 | .pick a b c => [a,b,c]
 | .mapGet _ x i => [x,i]
 | .mapSet _ x i v => [x,i,v]
 | .store _ a x => [a,x]
 | .bin _ x y | .eqB _ x y | .indexPtr _ _ x y | .indexSl _ x y | .indexStr x y | .min x y | .max x y => [x,y]
 | .sliceStr x lo hi | .sliceSl _ x lo hi => x :: (lo.toList ++ hi.toList)
 | .mkFunc _ a b => a ++ b
 | .call _ a | .callW _ a => a
 | .callv x a | .callvW x a => x :: a
def zanj (fr fr' : Fr) (l : List Operand) : Prop := ∀ x ∈ l,evO fr' x = evO fr x
theorem zanj.map {fr fr' : Fr} {l : List Operand} (h : zanj fr fr' l) : l.map (evO fr') = l.map (evO fr) := List.map_congr_left h
theorem zanj.opt {fr fr' : Fr} {x : Option Operand} (h : zanj fr fr' x.toList) : x.map (evO fr') = x.map (evO fr) := by
 cases x with
 | none => rfl
 | some x => simp only [Option.map_some]; rw [h x (by simp)]
def zbf0 (P : Program) (i : I) (K : Value → ar → Prop) (fr : Fr) (σ : ar) : Prop :=
 match i with
 | .call f args => nm P f (args.map (evO fr)) σ fun v σ' => σ.le σ' ∧ K v σ'
 | .callv x args => zbve (evO fr x) fun f first captured => nm P f (first.toList ++ args.map (evO fr) ++ captured.toList) σ fun v σ' => σ.le σ' ∧ K v σ'
 | i => evI P i K fr σ
theorem zb4m {v : Value} {K : Addr → Prop} (h : j5 v K) : ∃ a,v = .pointer (some a) ∧ K a := by unfold j5 at h; split at h <;> first | exact ⟨_,rfl,h⟩ | exact h.elim
theorem sf {v : Value} {K : IntKind → Int → Prop} (h : a7 v K) : ∃ k n,v = .int k n ∧ K k n := by unfold a7 at h; split at h <;> first | exact ⟨_,_,rfl,h⟩ | exact h.elim
theorem zcbr {v : Value} {K : Bool → Prop} (h : zbj2 v K) : ∃ b,v = .bool b ∧ K b := by unfold zbj2 at h; split at h <;> first | exact ⟨_,rfl,h⟩ | exact h.elim
theorem zb2z {v : Value} {K : ByteArray → Prop} (h : zbe0 v K) : ∃ b,v = .string b ∧ K b := by unfold zbe0 at h; split at h <;> first | exact ⟨_,rfl,h⟩ | exact h.elim
theorem zcij {v : Value} {K : Addr → Nat → Nat → Prop} (h : kSl v K) : ∃ a n s,v = .slice (some a) n s ∧ K a n s := by unfold kSl at h; split at h <;> first | exact ⟨_,_,_,rfl,h⟩ | exact h.elim
theorem zbrd {v : Value} {K : Nat → Prop} (h : zbvd v K) : ∃ a n s,v = .slice a n s ∧ K n := by unfold zbvd at h; split at h <;> first | exact ⟨_,_,_,rfl,h⟩ | exact h.elim
theorem zb2y {v : Value} {K : Array Value → Prop} (h : zbhb v K) : ∃ b,v = .agg b ∧ K b := by unfold zbhb at h; split at h <;> first | exact ⟨_,rfl,h⟩ | exact h.elim
theorem zbrc {v : Value} {K : Array Value → Prop} (h : zcae v K) : ∃ b,v = .tuple b ∧ K b := by unfold zcae at h; split at h <;> first | exact ⟨_,rfl,h⟩ | exact h.elim
theorem zca6 {v : Value} {K : FuncId → Array Value → Array Value → Prop} (h : zbve v K) : ∃ f a b,v = .func (.func f) a b ∧ K f a b := by unfold zbve at h; split at h <;> first | exact ⟨_,_,_,rfl,h⟩ | exact h.elim
theorem nz {α : Type} {v : Option α} {K : α → Prop} (h : se v K) : ∃ b,v = some b ∧ K b := by unfold se at h; split at h <;> first | exact ⟨_,rfl,h⟩ | exact h.elim
theorem zbre {v : Value} {K : Prop} (h : zcaf v K) : K ∧ ∀ K' : Prop,K' → zcaf v K' := by
 unfold zcaf at *
 split at h <;> first | exact ⟨h,fun _ h => h⟩ | exact h.elim
theorem zccn {v : Value} {Kn : Prop} {Ks : Addr → Nat → Nat → Prop} (h : j9 v Kn Ks) : (∃ n s,v = .slice none n s ∧ Kn) ∨ ∃ a n s,v = .slice (some a) n s ∧ Ks a n s := by
 unfold j9 at h; split at h <;> first | exact .inl ⟨_,_,rfl,h⟩ | exact .inr ⟨_,_,_,rfl,h⟩ | exact h.elim
theorem zcl9 {fr fr' : Fr} {ps : List (Nat × Nat × Operand)} (h : zanj fr fr' (ps.map fun p => p.2.2)) : (ps.map fun p => (p.1,p.2.1,evO fr' p.2.2)) = ps.map fun p => (p.1,p.2.1,evO fr p.2.2) :=
 List.map_congr_left fun p hp => by rw [h p.2.2 (List.mem_map.2 ⟨p,hp,rfl⟩)]
theorem zck7 {σ : ar} {t : TypeId} {sz bytes : Nat} {s : Value} {m : Nat} {news : List Value} {K K' : Value → ar → Prop} (h : zbsr σ t sz bytes s m news K) (hK : ∀ v σ',K v σ' → K' v σ') : zbsr σ t sz bytes s m news K' := by
 unfold zbsr at *
 rcases zccn h with ⟨n,s',rfl,h1,h2⟩ | ⟨a,n,s',rfl,h1,h2,h3,h4⟩
 · exact ⟨h1,h2.imp (hK _ _) (hK _ _)⟩
 · refine ⟨h1,h2,h3,h4.imp (fun h4 => ?_) fun h4 => ?_⟩
   · obtain ⟨cs,e,h5,h6⟩ := nz h4
     rw [e]
     exact ⟨h5,hK _ _ h6⟩
   · obtain ⟨cs,e,h5,h6⟩ := nz h4
     rw [e]
     exact ⟨h5,hK _ _ h6⟩
theorem zb9d {v : Value} {Kn Kn' : Prop} {Ks Ks' : Addr → Nat → Nat → Prop} (h : j9 v Kn Ks) (h1 : Kn → Kn') (h2 : ∀ a n s,Ks a n s → Ks' a n s) : j9 v Kn' Ks' := by
 rcases zccn h with ⟨n,s',rfl,h⟩ | ⟨a,n,s',rfl,h⟩
 · exact h1 h
 · exact h2 _ _ _ h
section
variable {P : Program} {K : Value → ar → Prop} {fr : Fr} {σ : ar}
theorem zb17 {i : I} (hc : u5 i = .P) (h : evI P i K fr σ) : ∃ v,K v σ ∧ ∀ fr' σ' (K' : Value → ar → Prop),zanj fr fr' i.ops → K' v σ' → evI P i K' fr' σ' := by
 cases i <;> simp [u5] at hc <;> simp only [evI] at h
 case mov x => exact ⟨_,h,fun fr' σ' K' ha hK => by simp only [evI,ha x (by simp [I.ops])]; exact hK⟩
 case pick c a b =>
  obtain ⟨t,e,h⟩ := zcbr h
  exact ⟨_,h,fun fr' σ' K' ha hK => by simp only [evI,ha c (by simp [I.ops]),ha a (by simp [I.ops]),ha b (by simp [I.ops]),e]; exact hK⟩
 case nilchk x =>
  obtain ⟨h,e⟩ := zbre h
  exact ⟨_,h,fun fr' σ' K' ha hK => by simp only [evI,ha x (by simp [I.ops])]; exact e _ hK⟩
 case bin op x y =>
  obtain ⟨t,e,h⟩ := nz h
  exact ⟨_,h,fun fr' σ' K' ha hK => by simp only [evI,ha x (by simp [I.ops]),ha y (by simp [I.ops]),e]; exact hK⟩
 case eqB neg x y =>
  obtain ⟨t,e,h⟩ := zcbr h
  obtain ⟨t2,e2,h⟩ := zcbr h
  exact ⟨_,h,fun fr' σ' K' ha hK => by simp only [evI,ha x (by simp [I.ops]),ha y (by simp [I.ops]),e,e2]; exact hK⟩
 case isNil k neg x =>
  obtain ⟨t,e,h⟩ := nz h
  exact ⟨_,h,fun fr' σ' K' ha hK => by simp only [evI,ha x (by simp [I.ops]),e]; exact hK⟩
 case un op x =>
  obtain ⟨t,e,h⟩ := nz h
  exact ⟨_,h,fun fr' σ' K' ha hK => by simp only [evI,ha x (by simp [I.ops]),e]; exact hK⟩
 case conv k x =>
  obtain ⟨k',n,e,h⟩ := sf h
  exact ⟨_,h,fun fr' σ' K' ha hK => by simp only [evI,ha x (by simp [I.ops]),e]; exact hK⟩
 case convS x =>
  obtain ⟨k',e,h⟩ := zb2z h
  exact ⟨_,h,fun fr' σ' K' ha hK => by simp only [evI,ha x (by simp [I.ops]),e]; rw [e] at hK; exact hK⟩
 case fieldAddr off x =>
  obtain ⟨k',e,h⟩ := zb4m h
  exact ⟨_,h,fun fr' σ' K' ha hK => by simp only [evI,ha x (by simp [I.ops]),e]; exact hK⟩
 case field1 off x =>
  obtain ⟨k',e,h1,h⟩ := zb2y h
  exact ⟨_,h,fun fr' σ' K' ha hK => by simp only [evI,ha x (by simp [I.ops]),e]; exact ⟨h1,hK⟩⟩
 case fieldN off n x =>
  obtain ⟨k',e,h1,h⟩ := zb2y h
  exact ⟨_,h,fun fr' σ' K' ha hK => by simp only [evI,ha x (by simp [I.ops]),e]; exact ⟨h1,hK⟩⟩
 case indexPtr len sz x y =>
  obtain ⟨a,e,h⟩ := zb4m h
  obtain ⟨k,n,e2,h1,h⟩ := sf h
  exact ⟨_,h,fun fr' σ' K' ha hK => by simp only [evI,ha x (by simp [I.ops]),ha y (by simp [I.ops]),e,e2]; exact ⟨h1,hK⟩⟩
 case indexSl sz x y =>
  obtain ⟨a,n,s,e,h⟩ := zcij h
  obtain ⟨k,n,e2,h1,h⟩ := sf h
  exact ⟨_,h,fun fr' σ' K' ha hK => by simp only [evI,ha x (by simp [I.ops]),ha y (by simp [I.ops]),e,e2]; exact ⟨h1,hK⟩⟩
 case indexStr x y =>
  obtain ⟨a,e,h⟩ := zb2z h
  obtain ⟨k,n,e2,h1,h⟩ := sf h
  exact ⟨_,h,fun fr' σ' K' ha hK => by simp only [evI,ha x (by simp [I.ops]),ha y (by simp [I.ops]),e,e2]; exact ⟨h1,hK⟩⟩
 case sliceStr x lo hi =>
  obtain ⟨a,e,h⟩ := zb2z h
  obtain ⟨lh,e2,h⟩ := nz h
  refine ⟨_,h,fun fr' σ' K' ha hK => ?_⟩
  have h1 : lo.map (evO fr') = lo.map (evO fr) := zanj.opt fun y hy => ha y (by simp [I.ops] at hy ⊢; simp [hy])
  have h2 : hi.map (evO fr') = hi.map (evO fr) := zanj.opt fun y hy => ha y (by simp [I.ops] at hy ⊢; simp [hy])
  simp only [evI,ha x (by simp [I.ops]),h1,h2,e,zbe0,e2]; exact hK
 case sliceSl sz x lo hi =>
  obtain ⟨a,n,s,e,hs,h⟩ := zcij h
  obtain ⟨lh,e2,h⟩ := nz h
  refine ⟨_,h,fun fr' σ' K' ha hK => ?_⟩
  have h1 : lo.map (evO fr') = lo.map (evO fr) := zanj.opt fun y hy => ha y (by simp [I.ops] at hy ⊢; simp [hy])
  have h2 : hi.map (evO fr') = hi.map (evO fr) := zanj.opt fun y hy => ha y (by simp [I.ops] at hy ⊢; simp [hy])
  simp only [evI,ha x (by simp [I.ops]),h1,h2,e,kSl,e2]; exact ⟨hs,hK⟩
 case lenS x =>
  obtain ⟨k',e,h⟩ := zb2z h
  exact ⟨_,h,fun fr' σ' K' ha hK => by simp only [evI,ha x (by simp [I.ops]),e]; exact hK⟩
 case lenL x =>
  obtain ⟨a,n,s,e,h⟩ := zbrd h
  exact ⟨_,h,fun fr' σ' K' ha hK => by simp only [evI,ha x (by simp [I.ops]),e]; exact hK⟩
 case min x y =>
  obtain ⟨k,n,e,h⟩ := sf h
  obtain ⟨k2,n2,e2,h⟩ := sf h
  exact ⟨_,h,fun fr' σ' K' ha hK => by simp only [evI,ha x (by simp [I.ops]),ha y (by simp [I.ops]),e,e2]; exact hK⟩
 case max x y =>
  obtain ⟨k,n,e,h⟩ := sf h
  obtain ⟨k2,n2,e2,h⟩ := sf h
  exact ⟨_,h,fun fr' σ' K' ha hK => by simp only [evI,ha x (by simp [I.ops]),ha y (by simp [I.ops]),e,e2]; exact hK⟩
 case mkFunc fn a b =>
  refine ⟨_,h,fun fr' σ' K' ha hK => ?_⟩
  have h1 := zanj.map (l := a) fun y hy => ha y (by simp [I.ops,hy])
  have h2 := zanj.map (l := b) fun y hy => ha y (by simp [I.ops,hy])
  simp only [evI,h1,h2]; exact hK
 case build zero ps =>
  obtain ⟨cs,e,h⟩ := nz h
  refine ⟨_,h,fun fr' σ' K' ha hK => ?_⟩
  have h1 : (ps.map fun p => (p.1,p.2.1,evO fr' p.2.2)) = ps.map fun p => (p.1,p.2.1,evO fr p.2.2) := zcl9 ha
  simp only [evI,h1,e]; exact hK
 case indexAgg len x y =>
  obtain ⟨a,e,h⟩ := zb2y h
  obtain ⟨k,n,e2,h1,h⟩ := sf h
  exact ⟨_,h,fun fr' σ' K' ha hK => by simp only [evI,ha x (by simp [I.ops]),ha y (by simp [I.ops]),e,e2]; exact ⟨h1,hK⟩⟩
 case indexAggN len sz x y =>
  obtain ⟨a,e,h⟩ := zb2y h
  obtain ⟨k,n,e2,h1,h⟩ := sf h
  exact ⟨_,h,fun fr' σ' K' ha hK => by simp only [evI,ha x (by simp [I.ops]),ha y (by simp [I.ops]),e,e2]; exact ⟨h1,hK⟩⟩
 case eqF neg ks x y =>
  obtain ⟨a,e,h⟩ := zb2y h
  obtain ⟨b,e2,h⟩ := zb2y h
  obtain ⟨c,e3,h⟩ := nz h
  exact ⟨_,h,fun fr' σ' K' ha hK => by simp only [evI,ha x (by simp [I.ops]),ha y (by simp [I.ops]),e,e2,zbhb,e3]; exact hK⟩
 case extract x n =>
  obtain ⟨k',e,h1,h⟩ := zbrc h
  exact ⟨_,h,fun fr' σ' K' ha hK => by simp only [evI,ha x (by simp [I.ops]),e]; exact ⟨h1,hK⟩⟩
theorem zbzz {i : I} (hc : u5 i = .R) (h : evI P i K fr σ) : ∃ v,K v σ ∧ ∀ fr' σ' (K' : Value → ar → Prop),zanj fr fr' i.ops → σ.le σ' → K' v σ' → evI P i K' fr' σ' := by
 cases i <;> simp [u5] at hc <;> simp only [evI] at h
 case load1 x =>
  obtain ⟨a,e,h⟩ := zb4m h
  obtain ⟨v,e2,h⟩ := nz h
  exact ⟨_,h,fun fr' σ' K' ha hl hK => by simp only [evI,ha x (by simp [I.ops]),e,j5,hl.load e2]; exact hK⟩
 case loadN n x =>
  obtain ⟨a,e,h⟩ := zb4m h
  obtain ⟨v,e2,h⟩ := nz h
  exact ⟨_,h,fun fr' σ' K' ha hl hK => by simp only [evI,ha x (by simp [I.ops]),e,j5,hl.row e2]; exact hK⟩
 case toStr x =>
  rcases zccn h with ⟨n,s',e,h⟩ | ⟨a,n,s',e,h1,h2⟩
  · exact ⟨_,h,fun fr' σ' K' ha hl hK => by simp only [evI,ha x (by simp [I.ops]),e]; exact hK⟩
  · by_cases hn : n = 0
    · exact ⟨_,h1 hn,fun fr' σ' K' ha hl hK => by simp only [evI,ha x (by simp [I.ops]),e]; exact ⟨fun _ => hK,fun h => absurd hn h⟩⟩
    · obtain ⟨bs,e2,h⟩ := nz (h2 hn)
      refine ⟨_,h,fun fr' σ' K' ha hl hK => ?_⟩
      simp only [evI,ha x (by simp [I.ops]),e]
      refine ⟨fun h => absurd h hn,fun _ => ?_⟩
      cases hr : σ.row a.block a.off n with
      | none => rw [hr] at e2; cases e2
      | some vs => rw [hl.row hr]; rw [hr] at e2; rw [e2]; exact hK
theorem zby6 {i : I} (hc : u5 i = .T) (h : zbf0 P i K fr σ) {fr' : Fr} {K' : Value → ar → Prop} (ha : zanj fr fr' i.ops) (hK : ∀ v σ',σ.le σ' → K v σ' → K' v σ') : zbf0 P i K' fr' σ := by
 cases i <;> simp [u5] at hc <;> simp only [zbf0,evI] at h ⊢
 case box t n x => rw [ha x (by simp [I.ops])]; exact ⟨h.1,hK _ _ (ar.le_push _ _) h.2⟩
 case buildSl t sz len zs ps =>
  obtain ⟨cs,e,h1,h⟩ := nz h
  rw [zcl9 (fr := fr) (fr' := fr') ha,e]
  obtain ⟨md,h⟩ := h
  exact ⟨h1,md,hK _ _ (ar.le_push _ _) h⟩
 case makeSl t b z x y =>
  obtain ⟨k,n,e,h⟩ := sf h
  obtain ⟨k2,n2,e2,h1,h⟩ := sf h
  rw [ha x (by simp [I.ops]),ha y (by simp [I.ops]),e,e2]
  obtain ⟨md,h⟩ := h
  exact ⟨h1,md,hK _ _ (ar.le_push _ _) h⟩
 case toBytes t x =>
  obtain ⟨s,e,h⟩ := zb2z h
  rw [ha x (by simp [I.ops]),e]
  obtain ⟨md,h⟩ := h
  exact ⟨md,hK _ _ (ar.le_push _ _) h⟩
 case mkMap => exact hK _ _ (ar.le_push _ _) h
 case call f args =>
  rw [zanj.map (l := args) fun y hy => ha y (by simp [I.ops,hy])]
  exact h.mono fun v σ' ⟨h1,h2⟩ => ⟨h1,hK _ _ h1 h2⟩
 case callv x args =>
  obtain ⟨f,a,b,e,h⟩ := zca6 h
  rw [zanj.map (l := args) fun y hy => ha y (by simp [I.ops,hy]),ha x (by simp [I.ops]),e]
  exact nm.mono h fun v σ' ⟨h1,h2⟩ => ⟨h1,hK _ _ h1 h2⟩
theorem zby5 {i : I} (hc : u5 i = .W) (h : zbf0 P i K fr σ) {fr' : Fr} {K' : Value → ar → Prop} (ha : zanj fr fr' i.ops) (hK : ∀ v σ',K v σ' → K' v σ') : zbf0 P i K' fr' σ := by
 cases i <;> simp [u5] at hc <;> simp only [zbf0,evI] at h ⊢
 case store n p x =>
  obtain ⟨a,e,h1,h⟩ := zb4m h
  obtain ⟨v,e2,h⟩ := nz h
  rw [ha p (by simp [I.ops]),ha x (by simp [I.ops]),e]
  refine ⟨h1,?_⟩
  rw [e2]
  exact hK _ _ h
 case append t sz b s x =>
  rw [ha s (by simp [I.ops]),ha x (by simp [I.ops])]
  refine zb9d h (fun h => zb9d h (fun h => hK _ _ h) fun _ _ _ h => hK _ _ h) fun a n s h => ⟨fun h0 => zb9d (h.1 h0) (fun h => hK _ _ h) fun _ _ _ h => hK _ _ h,fun h0 => ⟨(h.2 h0).1,?_⟩⟩
  obtain ⟨cs,e,h2⟩ := nz (h.2 h0).2
  rw [e]
  exact zck7 h2 hK
 case appendS t s x =>
  rw [ha s (by simp [I.ops]),ha x (by simp [I.ops])]
  obtain ⟨str,e,h1,h2⟩ := zb2z h
  rw [e]
  exact ⟨fun h0 => zb9d (h1 h0) (fun h => hK _ _ h) fun _ _ _ h => hK _ _ h,fun h0 => zck7 (h2 h0) hK⟩
 case mapGet kt x i =>
  obtain ⟨es,h1,h2,h3⟩ := h
  rw [ha x (by simp [I.ops]),ha i (by simp [I.ops])]
  exact ⟨es,h1,fun e he hq => hK _ _ (h2 e he hq),fun hn => hK _ _ (h3 hn)⟩
 case mapSet kt x i v =>
  obtain ⟨es,id,h1,h2,h3,h4⟩ := h
  rw [ha x (by simp [I.ops]),ha i (by simp [I.ops]),ha v (by simp [I.ops])]
  exact ⟨es,id,h1,h2,h3,hK _ _ h4⟩
 case callW f args =>
  rw [zanj.map (l := args) fun y hy => ha y (by simp [I.ops,hy])]
  exact h.mono fun v σ' h2 => hK _ _ h2
 case callvW x args =>
  obtain ⟨f,a,b,e,h⟩ := zca6 h
  rw [zanj.map (l := args) fun y hy => ha y (by simp [I.ops,hy]),ha x (by simp [I.ops]),e]
  exact nm.mono h fun v σ' h2 => hK _ _ h2
def I.toW : I → I
 | .call f a => .callW f a
 | .callv x a => .callvW x a
 | i => i
theorem zb16 {i : I} : evI P i.toW K fr σ = evI P i K fr σ := by cases i <;> rfl
theorem zbtu {i : I} (hc : u5 i ≠ .T) : zbf0 P i K fr σ = evI P i K fr σ := by
 cases i <;> simp [u5] at hc <;> rfl
theorem zc4i {i : I} (h : zbf0 P i K fr σ) : evI P i K fr σ := by
 cases i <;> first | exact h | skip
 case call f args => exact nm.mono h fun v σ' h => h.2
 case callv x args =>
  obtain ⟨f,a,b,e,h⟩ := zca6 h
  simp only [evI,e]
  exact nm.mono h fun v σ' h => h.2
theorem zcxw {i : I} {K' : Value → ar → Prop} (h : zbf0 P i K fr σ) (hK : ∀ v σ',K v σ' → K' v σ') : zbf0 P i K' fr σ := by
 cases hc : u5 i with
 | P => rw [zbtu (by rw [hc]; simp)] at h ⊢; obtain ⟨v,h1,h2⟩ := zb17 hc h; exact h2 fr σ K' (fun _ _ => rfl) (hK _ _ h1)
 | R => rw [zbtu (by rw [hc]; simp)] at h ⊢; obtain ⟨v,h1,h2⟩ := zbzz hc h; exact h2 fr σ K' (fun _ _ => rfl) (.refl _) (hK _ _ h1)
 | T => exact zby6 hc h (fun _ _ => rfl) fun v σ' _ h => hK _ _ h
 | W => exact zby5 hc h (fun _ _ => rfl) hK
end
end Go.Proofs.Ytdcfoaafkppojaa.Sh
