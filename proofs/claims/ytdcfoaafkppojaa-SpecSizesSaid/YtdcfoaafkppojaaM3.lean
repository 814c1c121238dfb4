import Derived.Test.YtdcfoaafkppojaaM2
import Derived.Deep.LoopGhost
set_option linter.unusedVariables false
set_option linter.unusedSimpArgs false
namespace Go.Proofs.Ytdcfoaafkppojaa.Sh
open Go Go.RowKit
inductive Cls where
 | P | R | T | W
 deriving DecidableEq
def vp : I → Cls
 | .load1 _ | .loadN _ _ | .toStr _ => .R
 | .box _ _ _ | .call _ _ | .callv _ _ | .buildSl _ _ _ _ _ | .makeSl _ _ _ _ _ | .toBytes _ _ | .mkMap => .T
 | .store _ _ _ | .append _ _ _ _ _ | .appendS _ _ _ | .callW _ _ | .callvW _ _ | .mapGet _ _ _ | .mapSet _ _ _ _ => .W
 | _ => .P
def I.ops : I → List Operand
 | .mov x | .box _ _ x | .load1 x | .loadN _ x | .nilchk x | .isNil _ _ x | .un _ x | .conv _ x | .convS x | .fieldAddr _ x | .field1 _ x | .fieldN _ _ x | .lenS x | .lenL x | .extract x _ | .toBytes _ x | .toStr x => [x]
 | .append _ _ _ s x | .appendS _ s x | .makeSl _ _ _ s x | .indexAgg _ s x | .indexAggN _ _ s x | .eqF _ _ s x => [s,x]
 | .build _ ps | .buildSl _ _ _ _ ps => ps.map fun p => p.2.2
 | .mkMap => []
 | .pick a b c => [a,b,c]
 | .mapGet _ x i => [x,i]
 | .mapSet _ x i v => [x,i,v]
 | .store _ a x => [a,x]
 | .bin _ x y | .eqB _ x y | .indexPtr _ _ x y | .indexSl _ x y | .indexStr x y | .min x y | .max x y => [x,y]
 | .sliceStr x lo hi | .sliceSl _ x lo hi => x :: (lo.toList ++ hi.toList)
 | .mkFunc _ a b => a ++ b
 | .call _ a | .callW _ a => a
 | .callv x a | .callvW x a => x :: a
def zaat (fr fr' : Fr) (l : List Operand) : Prop := ∀ x ∈ l,evO fr' x = evO fr x
theorem zaat.map {fr fr' : Fr} {l : List Operand} (h : zaat fr fr' l) : l.map (evO fr') = l.map (evO fr) := List.map_congr_left h
theorem zaat.opt {fr fr' : Fr} {x : Option Operand} (h : zaat fr fr' x.toList) : x.map (evO fr') = x.map (evO fr) := by
 cases x with
 | none => rfl
 | some x => simp only [Option.map_some]; rw [h x (by simp)]
def za0p (P : Program) (i : I) (K : Value → ar → Prop) (fr : Fr) (σ : ar) : Prop :=
 match i with
 | .call f args => nf P f (args.map (evO fr)) σ fun v σ' => σ.le σ' ∧ K v σ'
 | .callv x args => kFun (evO fr x) fun f first captured => nf P f (first.toList ++ args.map (evO fr) ++ captured.toList) σ fun v σ' => σ.le σ' ∧ K v σ'
 | i => evI P i K fr σ
theorem zaln {v : Value} {K : Addr → Prop} (h : zaka v K) : ∃ a,v = .pointer (some a) ∧ K a := by unfold zaka at h; split at h <;> first | exact ⟨_,rfl,h⟩ | exact h.elim
theorem ry {v : Value} {K : IntKind → Int → Prop} (h : zaif v K) : ∃ k n,v = .int k n ∧ K k n := by unfold zaif at h; split at h <;> first | exact ⟨_,_,rfl,h⟩ | exact h.elim
theorem zaul {v : Value} {K : Bool → Prop} (h : zapq v K) : ∃ b,v = .bool b ∧ K b := by unfold zapq at h; split at h <;> first | exact ⟨_,rfl,h⟩ | exact h.elim
theorem zahy {v : Value} {K : ByteArray → Prop} (h : zay7 v K) : ∃ b,v = .string b ∧ K b := by unfold zay7 at h; split at h <;> first | exact ⟨_,rfl,h⟩ | exact h.elim
theorem zbfw {v : Value} {K : Addr → Nat → Nat → Prop} (h : kSl v K) : ∃ a n s,v = .slice (some a) n s ∧ K a n s := by unfold kSl at h; split at h <;> first | exact ⟨_,_,_,rfl,h⟩ | exact h.elim
theorem kSlN_elim {v : Value} {K : Nat → Prop} (h : kSlN v K) : ∃ a n s,v = .slice a n s ∧ K n := by unfold kSlN at h; split at h <;> first | exact ⟨_,_,_,rfl,h⟩ | exact h.elim
theorem zahz {v : Value} {K : Array Value → Prop} (h : za2d v K) : ∃ b,v = .agg b ∧ K b := by unfold za2d at h; split at h <;> first | exact ⟨_,rfl,h⟩ | exact h.elim
theorem kTup_elim {v : Value} {K : Array Value → Prop} (h : kTup v K) : ∃ b,v = .tuple b ∧ K b := by unfold kTup at h; split at h <;> first | exact ⟨_,rfl,h⟩ | exact h.elim
theorem zay8 {v : Value} {K : FuncId → Array Value → Array Value → Prop} (h : kFun v K) : ∃ f a b,v = .func (.func f) a b ∧ K f a b := by unfold kFun at h; split at h <;> first | exact ⟨_,_,_,rfl,h⟩ | exact h.elim
theorem nm {α : Type} {v : Option α} {K : α → Prop} (h : rx v K) : ∃ b,v = some b ∧ K b := by unfold rx at h; split at h <;> first | exact ⟨_,rfl,h⟩ | exact h.elim
theorem kChk_elim {v : Value} {K : Prop} (h : kChk v K) : K ∧ ∀ K' : Prop,K' → kChk v K' := by
 unfold kChk at *
 split at h <;> first | exact ⟨h,fun _ h => h⟩ | exact h.elim
theorem zalm {v : Value} {Kn : Prop} {Ks : Addr → Nat → Nat → Prop} (h : j0 v Kn Ks) : (∃ n s,v = .slice none n s ∧ Kn) ∨ ∃ a n s,v = .slice (some a) n s ∧ Ks a n s := by
 unfold j0 at h; split at h <;> first | exact .inl ⟨_,_,rfl,h⟩ | exact .inr ⟨_,_,_,rfl,h⟩ | exact h.elim
theorem zayl {fr fr' : Fr} {ps : List (Nat × Nat × Operand)} (h : zaat fr fr' (ps.map fun p => p.2.2)) : (ps.map fun p => (p.1,p.2.1,evO fr' p.2.2)) = ps.map fun p => (p.1,p.2.1,evO fr p.2.2) :=
 List.map_congr_left fun p hp => by rw [h p.2.2 (List.mem_map.2 ⟨p,hp,rfl⟩)]
theorem za90 {σ : ar} {t : TypeId} {sz bytes : Nat} {s : Value} {m : Nat} {news : List Value} {K K' : Value → ar → Prop} (h : appK σ t sz bytes s m news K) (hK : ∀ v σ',K v σ' → K' v σ') : appK σ t sz bytes s m news K' := by
 unfold appK at *
 rcases zalm h with ⟨n,s',rfl,h1,h2⟩ | ⟨a,n,s',rfl,h1,h2,h3,h4⟩
 · exact ⟨h1,h2.imp (hK _ _) (hK _ _)⟩
 · refine ⟨h1,h2,h3,h4.imp (fun h4 => ?_) fun h4 => ?_⟩
   · obtain ⟨cs,e,h5,h6⟩ := nm h4
     rw [e]
     exact ⟨h5,hK _ _ h6⟩
   · obtain ⟨cs,e,h5,h6⟩ := nm h4
     rw [e]
     exact ⟨h5,hK _ _ h6⟩
theorem zagg {v : Value} {Kn Kn' : Prop} {Ks Ks' : Addr → Nat → Nat → Prop} (h : j0 v Kn Ks) (h1 : Kn → Kn') (h2 : ∀ a n s,Ks a n s → Ks' a n s) : j0 v Kn' Ks' := by
 rcases zalm h with ⟨n,s',rfl,h⟩ | ⟨a,n,s',rfl,h⟩
 · exact h1 h
 · exact h2 _ _ _ h
section
variable {P : Program} {K : Value → ar → Prop} {fr : Fr} {σ : ar}
theorem evI_P {i : I} (hc : vp i = .P) (h : evI P i K fr σ) : ∃ v,K v σ ∧ ∀ fr' σ' (K' : Value → ar → Prop),zaat fr fr' i.ops → K' v σ' → evI P i K' fr' σ' := by
 cases i <;> simp [vp] at hc <;> simp only [evI] at h
 case mov x => exact ⟨_,h,fun fr' σ' K' ha hK => by simp only [evI,ha x (by simp [I.ops])]; exact hK⟩
 case pick c a b =>
  obtain ⟨t,e,h⟩ := zaul h
  exact ⟨_,h,fun fr' σ' K' ha hK => by simp only [evI,ha c (by simp [I.ops]),ha a (by simp [I.ops]),ha b (by simp [I.ops]),e]; exact hK⟩
 case nilchk x =>
  obtain ⟨h,e⟩ := kChk_elim h
  exact ⟨_,h,fun fr' σ' K' ha hK => by simp only [evI,ha x (by simp [I.ops])]; exact e _ hK⟩
 case bin op x y =>
  obtain ⟨t,e,h⟩ := nm h
  exact ⟨_,h,fun fr' σ' K' ha hK => by simp only [evI,ha x (by simp [I.ops]),ha y (by simp [I.ops]),e]; exact hK⟩
 case eqB neg x y =>
  obtain ⟨t,e,h⟩ := zaul h
  obtain ⟨t2,e2,h⟩ := zaul h
  exact ⟨_,h,fun fr' σ' K' ha hK => by simp only [evI,ha x (by simp [I.ops]),ha y (by simp [I.ops]),e,e2]; exact hK⟩
 case isNil k neg x =>
  obtain ⟨t,e,h⟩ := nm h
  exact ⟨_,h,fun fr' σ' K' ha hK => by simp only [evI,ha x (by simp [I.ops]),e]; exact hK⟩
 case un op x =>
  obtain ⟨t,e,h⟩ := nm h
  exact ⟨_,h,fun fr' σ' K' ha hK => by simp only [evI,ha x (by simp [I.ops]),e]; exact hK⟩
 case conv k x =>
  obtain ⟨k',n,e,h⟩ := ry h
  exact ⟨_,h,fun fr' σ' K' ha hK => by simp only [evI,ha x (by simp [I.ops]),e]; exact hK⟩
 case convS x =>
  obtain ⟨k',e,h⟩ := zahy h
  exact ⟨_,h,fun fr' σ' K' ha hK => by simp only [evI,ha x (by simp [I.ops]),e]; rw [e] at hK; exact hK⟩
 case fieldAddr off x =>
  obtain ⟨k',e,h⟩ := zaln h
  exact ⟨_,h,fun fr' σ' K' ha hK => by simp only [evI,ha x (by simp [I.ops]),e]; exact hK⟩
 case field1 off x =>
  obtain ⟨k',e,h1,h⟩ := zahz h
  exact ⟨_,h,fun fr' σ' K' ha hK => by simp only [evI,ha x (by simp [I.ops]),e]; exact ⟨h1,hK⟩⟩
 case fieldN off n x =>
  obtain ⟨k',e,h1,h⟩ := zahz h
  exact ⟨_,h,fun fr' σ' K' ha hK => by simp only [evI,ha x (by simp [I.ops]),e]; exact ⟨h1,hK⟩⟩
 case indexPtr len sz x y =>
  obtain ⟨a,e,h⟩ := zaln h
  obtain ⟨k,n,e2,h1,h⟩ := ry h
  exact ⟨_,h,fun fr' σ' K' ha hK => by simp only [evI,ha x (by simp [I.ops]),ha y (by simp [I.ops]),e,e2]; exact ⟨h1,hK⟩⟩
 case indexSl sz x y =>
  obtain ⟨a,n,s,e,h⟩ := zbfw h
  obtain ⟨k,n,e2,h1,h⟩ := ry h
  exact ⟨_,h,fun fr' σ' K' ha hK => by simp only [evI,ha x (by simp [I.ops]),ha y (by simp [I.ops]),e,e2]; exact ⟨h1,hK⟩⟩
 case indexStr x y =>
  obtain ⟨a,e,h⟩ := zahy h
  obtain ⟨k,n,e2,h1,h⟩ := ry h
  exact ⟨_,h,fun fr' σ' K' ha hK => by simp only [evI,ha x (by simp [I.ops]),ha y (by simp [I.ops]),e,e2]; exact ⟨h1,hK⟩⟩
 case sliceStr x lo hi =>
  obtain ⟨a,e,h⟩ := zahy h
  obtain ⟨lh,e2,h⟩ := nm h
  refine ⟨_,h,fun fr' σ' K' ha hK => ?_⟩
  have h1 : lo.map (evO fr') = lo.map (evO fr) := zaat.opt fun y hy => ha y (by simp [I.ops] at hy ⊢; simp [hy])
  have h2 : hi.map (evO fr') = hi.map (evO fr) := zaat.opt fun y hy => ha y (by simp [I.ops] at hy ⊢; simp [hy])
  simp only [evI,ha x (by simp [I.ops]),h1,h2,e,zay7,e2]; exact hK
 case sliceSl sz x lo hi =>
  obtain ⟨a,n,s,e,hs,h⟩ := zbfw h
  obtain ⟨lh,e2,h⟩ := nm h
  refine ⟨_,h,fun fr' σ' K' ha hK => ?_⟩
  have h1 : lo.map (evO fr') = lo.map (evO fr) := zaat.opt fun y hy => ha y (by simp [I.ops] at hy ⊢; simp [hy])
  have h2 : hi.map (evO fr') = hi.map (evO fr) := zaat.opt fun y hy => ha y (by simp [I.ops] at hy ⊢; simp [hy])
  simp only [evI,ha x (by simp [I.ops]),h1,h2,e,kSl,e2]; exact ⟨hs,hK⟩
 case lenS x =>
  obtain ⟨k',e,h⟩ := zahy h
  exact ⟨_,h,fun fr' σ' K' ha hK => by simp only [evI,ha x (by simp [I.ops]),e]; exact hK⟩
 case lenL x =>
  obtain ⟨a,n,s,e,h⟩ := kSlN_elim h
  exact ⟨_,h,fun fr' σ' K' ha hK => by simp only [evI,ha x (by simp [I.ops]),e]; exact hK⟩
 case min x y =>
  obtain ⟨k,n,e,h⟩ := ry h
  obtain ⟨k2,n2,e2,h⟩ := ry h
  exact ⟨_,h,fun fr' σ' K' ha hK => by simp only [evI,ha x (by simp [I.ops]),ha y (by simp [I.ops]),e,e2]; exact hK⟩
 case max x y =>
  obtain ⟨k,n,e,h⟩ := ry h
  obtain ⟨k2,n2,e2,h⟩ := ry h
  exact ⟨_,h,fun fr' σ' K' ha hK => by simp only [evI,ha x (by simp [I.ops]),ha y (by simp [I.ops]),e,e2]; exact hK⟩
 case mkFunc fn a b =>
  refine ⟨_,h,fun fr' σ' K' ha hK => ?_⟩
  have h1 := zaat.map (l := a) fun y hy => ha y (by simp [I.ops,hy])
  have h2 := zaat.map (l := b) fun y hy => ha y (by simp [I.ops,hy])
  simp only [evI,h1,h2]; exact hK
 case build zero ps =>
  obtain ⟨cs,e,h⟩ := nm h
  refine ⟨_,h,fun fr' σ' K' ha hK => ?_⟩
  have h1 : (ps.map fun p => (p.1,p.2.1,evO fr' p.2.2)) = ps.map fun p => (p.1,p.2.1,evO fr p.2.2) := zayl ha
  simp only [evI,h1,e]; exact hK
 case indexAgg len x y =>
  obtain ⟨a,e,h⟩ := zahz h
  obtain ⟨k,n,e2,h1,h⟩ := ry h
  exact ⟨_,h,fun fr' σ' K' ha hK => by simp only [evI,ha x (by simp [I.ops]),ha y (by simp [I.ops]),e,e2]; exact ⟨h1,hK⟩⟩
 case indexAggN len sz x y =>
  obtain ⟨a,e,h⟩ := zahz h
  obtain ⟨k,n,e2,h1,h⟩ := ry h
  exact ⟨_,h,fun fr' σ' K' ha hK => by simp only [evI,ha x (by simp [I.ops]),ha y (by simp [I.ops]),e,e2]; exact ⟨h1,hK⟩⟩
 case eqF neg ks x y =>
  obtain ⟨a,e,h⟩ := zahz h
  obtain ⟨b,e2,h⟩ := zahz h
  obtain ⟨c,e3,h⟩ := nm h
  exact ⟨_,h,fun fr' σ' K' ha hK => by simp only [evI,ha x (by simp [I.ops]),ha y (by simp [I.ops]),e,e2,za2d,e3]; exact hK⟩
 case extract x n =>
  obtain ⟨k',e,h1,h⟩ := kTup_elim h
  exact ⟨_,h,fun fr' σ' K' ha hK => by simp only [evI,ha x (by simp [I.ops]),e]; exact ⟨h1,hK⟩⟩
theorem zbbw {i : I} (hc : vp i = .R) (h : evI P i K fr σ) : ∃ v,K v σ ∧ ∀ fr' σ' (K' : Value → ar → Prop),zaat fr fr' i.ops → σ.le σ' → K' v σ' → evI P i K' fr' σ' := by
 cases i <;> simp [vp] at hc <;> simp only [evI] at h
 case load1 x =>
  obtain ⟨a,e,h⟩ := zaln h
  obtain ⟨v,e2,h⟩ := nm h
  exact ⟨_,h,fun fr' σ' K' ha hl hK => by simp only [evI,ha x (by simp [I.ops]),e,zaka,hl.load e2]; exact hK⟩
 case loadN n x =>
  obtain ⟨a,e,h⟩ := zaln h
  obtain ⟨v,e2,h⟩ := nm h
  exact ⟨_,h,fun fr' σ' K' ha hl hK => by simp only [evI,ha x (by simp [I.ops]),e,zaka,hl.row e2]; exact hK⟩
 case toStr x =>
  rcases zalm h with ⟨n,s',e,h⟩ | ⟨a,n,s',e,h1,h2⟩
  · exact ⟨_,h,fun fr' σ' K' ha hl hK => by simp only [evI,ha x (by simp [I.ops]),e]; exact hK⟩
  · by_cases hn : n = 0
    · exact ⟨_,h1 hn,fun fr' σ' K' ha hl hK => by simp only [evI,ha x (by simp [I.ops]),e]; exact ⟨fun _ => hK,fun h => absurd hn h⟩⟩
    · obtain ⟨bs,e2,h⟩ := nm (h2 hn)
      refine ⟨_,h,fun fr' σ' K' ha hl hK => ?_⟩
      simp only [evI,ha x (by simp [I.ops]),e]
      refine ⟨fun h => absurd h hn,fun _ => ?_⟩
      cases hr : σ.row a.block a.off n with
      | none => rw [hr] at e2; cases e2
      | some vs => rw [hl.row hr]; rw [hr] at e2; rw [e2]; exact hK
theorem evDI_T {i : I} (hc : vp i = .T) (h : za0p P i K fr σ) {fr' : Fr} {K' : Value → ar → Prop} (ha : zaat fr fr' i.ops) (hK : ∀ v σ',σ.le σ' → K v σ' → K' v σ') : za0p P i K' fr' σ := by
 cases i <;> simp [vp] at hc <;> simp only [za0p,evI] at h ⊢
 case box t n x => rw [ha x (by simp [I.ops])]; exact ⟨h.1,hK _ _ (ar.le_push _ _) h.2⟩
 case buildSl t sz len zs ps =>
  obtain ⟨cs,e,h1,h⟩ := nm h
  rw [zayl (fr := fr) (fr' := fr') ha,e]
  obtain ⟨md,h⟩ := h
  exact ⟨h1,md,hK _ _ (ar.le_push _ _) h⟩
 case makeSl t b z x y =>
  obtain ⟨k,n,e,h⟩ := ry h
  obtain ⟨k2,n2,e2,h1,h⟩ := ry h
  rw [ha x (by simp [I.ops]),ha y (by simp [I.ops]),e,e2]
  obtain ⟨md,h⟩ := h
  exact ⟨h1,md,hK _ _ (ar.le_push _ _) h⟩
 case toBytes t x =>
  obtain ⟨s,e,h⟩ := zahy h
  rw [ha x (by simp [I.ops]),e]
  obtain ⟨md,h⟩ := h
  exact ⟨md,hK _ _ (ar.le_push _ _) h⟩
 case mkMap => exact hK _ _ (ar.le_push _ _) h
 case call f args =>
  rw [zaat.map (l := args) fun y hy => ha y (by simp [I.ops,hy])]
  exact h.mono fun v σ' ⟨h1,h2⟩ => ⟨h1,hK _ _ h1 h2⟩
 case callv x args =>
  obtain ⟨f,a,b,e,h⟩ := zay8 h
  rw [zaat.map (l := args) fun y hy => ha y (by simp [I.ops,hy]),ha x (by simp [I.ops]),e]
  exact nf.mono h fun v σ' ⟨h1,h2⟩ => ⟨h1,hK _ _ h1 h2⟩
theorem evDI_W {i : I} (hc : vp i = .W) (h : za0p P i K fr σ) {fr' : Fr} {K' : Value → ar → Prop} (ha : zaat fr fr' i.ops) (hK : ∀ v σ',K v σ' → K' v σ') : za0p P i K' fr' σ := by
 cases i <;> simp [vp] at hc <;> simp only [za0p,evI] at h ⊢
 case store n p x =>
  obtain ⟨a,e,h1,h⟩ := zaln h
  obtain ⟨v,e2,h⟩ := nm h
  rw [ha p (by simp [I.ops]),ha x (by simp [I.ops]),e]
  refine ⟨h1,?_⟩
  rw [e2]
  exact hK _ _ h
 case append t sz b s x =>
  rw [ha s (by simp [I.ops]),ha x (by simp [I.ops])]
  refine zagg h (fun h => zagg h (fun h => hK _ _ h) fun _ _ _ h => hK _ _ h) fun a n s h => ⟨fun h0 => zagg (h.1 h0) (fun h => hK _ _ h) fun _ _ _ h => hK _ _ h,fun h0 => ⟨(h.2 h0).1,?_⟩⟩
  obtain ⟨cs,e,h2⟩ := nm (h.2 h0).2
  rw [e]
  exact za90 h2 hK
 case appendS t s x =>
  rw [ha s (by simp [I.ops]),ha x (by simp [I.ops])]
  obtain ⟨str,e,h1,h2⟩ := zahy h
  rw [e]
  exact ⟨fun h0 => zagg (h1 h0) (fun h => hK _ _ h) fun _ _ _ h => hK _ _ h,fun h0 => za90 (h2 h0) hK⟩
 case mapGet kt x i =>
  obtain ⟨es,h1,h2,h3⟩ := h
  rw [ha x (by simp [I.ops]),ha i (by simp [I.ops])]
  exact ⟨es,h1,fun e he hq => hK _ _ (h2 e he hq),fun hn => hK _ _ (h3 hn)⟩
 case mapSet kt x i v =>
  obtain ⟨es,id,h1,h2,h3,h4⟩ := h
  rw [ha x (by simp [I.ops]),ha i (by simp [I.ops]),ha v (by simp [I.ops])]
  exact ⟨es,id,h1,h2,h3,hK _ _ h4⟩
 case callW f args =>
  rw [zaat.map (l := args) fun y hy => ha y (by simp [I.ops,hy])]
  exact h.mono fun v σ' h2 => hK _ _ h2
 case callvW x args =>
  obtain ⟨f,a,b,e,h⟩ := zay8 h
  rw [zaat.map (l := args) fun y hy => ha y (by simp [I.ops,hy]),ha x (by simp [I.ops]),e]
  exact nf.mono h fun v σ' h2 => hK _ _ h2
def I.toW : I → I
 | .call f a => .callW f a
 | .callv x a => .callvW x a
 | i => i
theorem evI_toW {i : I} : evI P i.toW K fr σ = evI P i K fr σ := by cases i <;> rfl
theorem zagx {i : I} (hc : vp i ≠ .T) : za0p P i K fr σ = evI P i K fr σ := by
 cases i <;> simp [vp] at hc <;> rfl
theorem zbbv {i : I} (h : za0p P i K fr σ) : evI P i K fr σ := by
 cases i <;> first | exact h | skip
 case call f args => exact nf.mono h fun v σ' h => h.2
 case callv x args =>
  obtain ⟨f,a,b,e,h⟩ := zay8 h
  simp only [evI,e]
  exact nf.mono h fun v σ' h => h.2
theorem za8o {i : I} {K' : Value → ar → Prop} (h : za0p P i K fr σ) (hK : ∀ v σ',K v σ' → K' v σ') : za0p P i K' fr σ := by
 cases hc : vp i with
 | P => rw [zagx (by rw [hc]; simp)] at h ⊢; obtain ⟨v,h1,h2⟩ := evI_P hc h; exact h2 fr σ K' (fun _ _ => rfl) (hK _ _ h1)
 | R => rw [zagx (by rw [hc]; simp)] at h ⊢; obtain ⟨v,h1,h2⟩ := zbbw hc h; exact h2 fr σ K' (fun _ _ => rfl) (.refl _) (hK _ _ h1)
 | T => exact evDI_T hc h (fun _ _ => rfl) fun v σ' _ h => hK _ _ h
 | W => exact evDI_W hc h (fun _ _ => rfl) hK
end
end Go.Proofs.Ytdcfoaafkppojaa.Sh
namespace Go.Proofs.Ytdcfoaafkppojaa.Sh
open Go Go.RowKit
structure Ins where
 dst : Option Nat
 i : I
 guard : Option (Nat × Bool)
inductive IC where
 | skip
 | ops (l : List Ins)
 | draw (l : List (Ins × List Ins))
 | seq (a b : IC)
 | cond (c : Operand) (a b : IC)
 | block (id : Nat) (a : IC)
 | loop (a : IC)
 | exit (id : Nat)
 | ret
def compG (N : Nat) (ops : Array Oper) (g : Option (Nat × Bool)) : Option (Option (Nat × Bool)) :=
 match g with
 | none => some none
 | some (j,b) => match (ops[j]?).bind (·.dst) with
  | some t => if t < N then some (some (t,b)) else none
  | none => none
def zal2 (P : Program) (N : Nat) (ops : Array Oper) (o : Oper) : Option Ins :=
 match kh P N o,compG N ops o.guard with
 | some i,some g => some ⟨o.dst,i,g⟩
 | _,_ => none
def zbb0 (P : Program) (N : Nat) (ops : Array Oper) : List Oper → Option (List Ins)
 | [] => some []
 | o :: r => match zal2 P N ops o,zbb0 P N ops r with
  | some x,some l => some (x :: l)
  | _,_ => none
def za4j (P : Program) (x : Ins) (K : Fr → ar → Prop) (fr : Fr) (σ : ar) : Prop :=
 match x.guard with
 | none => evI P x.i (fun v σ' => K (fr.put x.dst v) σ') fr σ
 | some (t,b) => (fr t = .bool b → evI P x.i (fun v σ' => K (fr.put x.dst v) σ') fr σ) ∧ (fr t ≠ .bool b → K (fr.put x.dst undef) σ)
def evL (P : Program) : List Ins → (Fr → ar → Prop) → Fr → ar → Prop
 | [],K => K
 | x :: r,K => za4j P x (evL P r K)
def Lift (B : Nat) (w0 : World) (m : Mp) (N : Nat) (Q : Exit → Fr → ar → Prop) : Exit → Act → World → Prop := fun e a' w' =>
 ∃ m' fr' σ',m.le m' ∧ Rep B w0 σ' m' w' ∧ ml m' N fr' a' ∧ Q e fr' σ'
def SWp (P : Program) (N : Nat) (c : Code) (Q : Exit → Fr → ar → Prop) (fr : Fr) (σ : ar) : Prop :=
 ∀ B w0 m w a,Rep B w0 σ m w → ml m N fr a → c.wp P (Lift B w0 m N Q) a w
theorem Lift.le {B : Nat} {w0 : World} {m m' : Mp} {N : Nat} {Q Q' : Exit → Fr → ar → Prop} (hm : m.le m') (hq : ∀ e fr σ,Q e fr σ → Q' e fr σ) : ∀ e a w,Lift B w0 m' N Q e a w → Lift B w0 m N Q' e a w :=
 fun e a w ⟨m2,fr',σ',h1,h2,h3,h4⟩ => ⟨m2,fr',σ',hm.trans h1,h2,h3,hq _ _ _ h4⟩
section
variable {P : Program} {N : Nat}
def guardP (fr : Fr) : Option (Nat × Bool) → Prop
 | none => True
 | some (t,b) => fr t = .bool b
theorem za04 {ops : Array Oper} {o : Oper} {m : Mp} {fr : Fr} {a : Act} (hf : ml m N fr a) {g : Option (Nat × Bool)} (hg : compG N ops o.guard = some g) :
 Region.wanted o (yielded ops a.tmps) = true ↔ guardP fr g := by
 unfold compG at hg
 cases ho : o.guard with
 | none =>
  rw [ho] at hg
  injection hg with hg
  subst hg
  simp [Region.wanted,ho,guardP]
 | some jb =>
  obtain ⟨j,b⟩ := jb
  rw [ho] at hg
  simp only at hg
  cases hd : (ops[j]?).bind (·.dst) with
  | none => rw [hd] at hg; cases hg
  | some t =>
   rw [hd] at hg
   simp only at hg
   split at hg
   · rename_i ht
     injection hg with hg
     subst hg
     have hv := hf.at_ t ht
     have hs := hf.size
     have e : a.tmps[t]? = some (a.tmps.getD t undef) := by simp [Array.getD,hs,ht]
     simp only [Region.wanted,ho,yielded,hd,Option.bind_some,e,guardP]
     generalize a.tmps.getD t undef = c at hv
     generalize fr t = v at hv
     cases hv <;> simp
   · cases hg
theorem ops_sound {ops : Array Oper} {B : Nat} {w0 : World} {K : Fr → ar → Prop} {Q : Exit → Act → World → Prop} : ∀ (l : List Oper) (k : Nat) (xs : List Ins),(∀ j,l[j]? = ops[k + j]?) → zbb0 P N ops l = some xs →
 ∀ (m : Mp) (fr : Fr) (σ : ar) (w : World) (a : Act),Rep B w0 σ m w → ml m N fr a → evL P xs K fr σ →
 (∀ m' fr' σ' a' w',m.le m' → Rep B w0 σ' m' w' → ml m' N fr' a' → K fr' σ' → Q .normal a' w') → wpOps P ops Q (List.range' k l.length) a w := by
 intro l
 induction l with
 | nil =>
  intro k xs _ hc m fr σ w a hr hf hev hQ
  simp only [zbb0] at hc
  injection hc with hc
  subst hc
  exact hQ m fr σ a w (.refl m) hr hf hev
 | cons o r ih =>
  intro k xs hl hc m fr σ w a hr hf hev hQ
  simp only [zbb0] at hc
  split at hc
  · rename_i x l' hx hl'
    injection hc with hc
    subst hc
    have h0 : ops[k]? = some o := by simpa using (hl 0).symm
    have hrest : ∀ j,r[j]? = ops[k + 1 + j]? := fun j => by
     have := hl (j + 1)
     simpa [Nat.add_assoc,Nat.add_comm 1 j] using this
    simp only [zal2] at hx
    split at hx
    · rename_i i g hi hg
      injection hx with hx
      subst hx
      have hw := za04 (ops := ops) hf hg
      simp only [List.length_cons,List.range'_succ,wpOps,h0]
      have go : evI P i (fun v σ' => evL P l' K (fr.put o.dst v) σ') fr σ → o.wp P a w (wpOps P ops Q (List.range' (k + 1) r.length)) Q := fun hi' =>
       zau2 (good_of o i hi hr hf hi') fun v c m' σ' w' h1 h2 h3 h4 =>
        ih (k + 1) l' hrest hl' m' (fr.put o.dst v) σ' w' (a.put o.dst c) h3 ((hf.mono h1).put _ h2) h4
         fun m2 fr2 σ2 a2 w2 h5 h6 h7 h8 => hQ m2 fr2 σ2 a2 w2 (h1.trans h5) h6 h7 h8
      cases g with
      | none =>
       rw [if_pos (hw.2 trivial)]
       exact .inl (go hev)
      | some tb =>
       obtain ⟨t,b⟩ := tb
       obtain ⟨e1,e2⟩ := hev
       by_cases hfr : fr t = .bool b
       · rw [if_pos (hw.2 hfr)]
         exact .inl (go (e1 hfr))
       · rw [if_neg (fun h => hfr (hw.1 h))]
         exact ih (k + 1) l' hrest hl' m (fr.put o.dst undef) σ w (a.put o.dst undef) hr (hf.put _ (.undef m)) (e2 hfr) hQ
    · cases hx
  · cases hc
def rz (P : Program) (x : Ins) (K : Fr → ar → Prop) (fr : Fr) (σ : ar) : Prop :=
 match x.guard with
 | none => za0p P x.i (fun v σ' => K (fr.put x.dst v) σ') fr σ
 | some (t,b) => (fr t = .bool b → za0p P x.i (fun v σ' => K (fr.put x.dst v) σ') fr σ) ∧ (fr t ≠ .bool b → K (fr.put x.dst undef) σ)
theorem zaja {x : Ins} {K K' : Fr → ar → Prop} {fr : Fr} {σ : ar} (h : rz P x K fr σ) (hK : ∀ fr σ,K fr σ → K' fr σ) : rz P x K' fr σ := by
 unfold rz at *
 split at h
 · exact za8o h fun v σ' h => hK _ _ h
 · exact ⟨fun e => za8o (h.1 e) fun v σ' h => hK _ _ h,fun e => hK _ _ (h.2 e)⟩
def vq (l : List Operand) : List Nat := l.filterMap fun | .tmp t => some t | _ => none
def Ins.looks (x : Ins) : List Nat := (match x.guard with | some (t,_) => [t] | none => []) ++ vq x.i.ops
def fg (d : Option Nat) (l : List Nat) : Bool := match d with | some d => !(l.contains d) | none => true
def apart (y x : Ins) : Bool := fg y.dst x.looks && fg x.dst y.looks && fg y.dst x.dst.toList
def clsOK (y x : Cls) : Bool := match y,x with
 | .P,_ => true
 | .R,.W => false
 | .R,_ => true
 | _,_ => false
theorem zaw6 {fr : Fr} {d : Option Nat} {v : Value} {l : List Nat} (h : fg d l = true) {t : Nat} (ht : t ∈ l) : fr.put d v t = fr t := by
 cases d with
 | none => rfl
 | some d =>
  simp only [fg,Bool.not_eq_true',List.contains_eq_mem,decide_eq_false_iff_not] at h
  simp only [Fr.put]
  rw [if_neg]
  rintro rfl
  exact h ht
theorem zama {fr : Fr} {d : Option Nat} {v : Value} {x : Ins} (h : fg d x.looks = true) : zaat fr (fr.put d v) x.i.ops := by
 intro o ho
 cases o with
 | tmp t =>
  refine zaw6 h ?_
  simp only [Ins.looks,vq,List.mem_append,List.mem_filterMap]
  exact .inr ⟨_,ho,rfl⟩
 | _ => rfl
theorem zah2 {fr : Fr} {d : Option Nat} {v : Value} {x : Ins} (h : fg d x.looks = true) {t : Nat} {b : Bool} (hg : x.guard = some (t,b)) : fr.put d v t = fr t := by
 refine zaw6 h ?_
 simp [Ins.looks,hg]
theorem za3q {fr : Fr} {d e : Option Nat} {u v : Value} (h : fg d e.toList = true) : (fr.put d u).put e v = (fr.put e v).put d u := by
 cases d with
 | none => rfl
 | some d =>
  cases e with
  | none => rfl
  | some e =>
   have hne : d ≠ e := by
    simp [fg] at h
    exact h
   funext s
   simp only [Fr.put]
   by_cases h1 : s = d
   · subst h1; simp [hne]
   · simp [h1]
theorem zamp {fr fr' : Fr} {l : List Operand} (h : zaat fr fr' l) : zaat fr' fr l := fun x hx => (h x hx).symm
def gdP (fr : Fr) (g : Option (Nat × Bool)) : Prop := match g with | none => True | some (t,b) => fr t = .bool b
theorem za8m {y : Ins} {K : Fr → ar → Prop} {fr : Fr} {σ : ar} (hc : vp y.i = .P ∨ vp y.i = .R) (h : rz P y K fr σ) :
 ∃ v,(¬ gdP fr y.guard → v = undef) ∧ K (fr.put y.dst v) σ ∧ ∀ fr' σ' (K' : Fr → ar → Prop),zaat fr fr' y.i.ops → (∀ t b,y.guard = some (t,b) → fr' t = fr t) → (vp y.i = .R → σ.le σ') → K' (fr'.put y.dst v) σ' → rz P y K' fr' σ' := by
 have key : za0p P y.i (fun v σ' => K (fr.put y.dst v) σ') fr σ → ∃ v,K (fr.put y.dst v) σ ∧ ∀ fr' σ' (K' : Fr → ar → Prop),zaat fr fr' y.i.ops → (vp y.i = .R → σ.le σ') → K' (fr'.put y.dst v) σ' → za0p P y.i (fun v σ' => K' (fr'.put y.dst v) σ') fr' σ' := by
  intro h
  rw [zagx (by rcases hc with h | h <;> rw [h] <;> simp)] at h
  rcases hc with hc | hc
  · obtain ⟨v,h1,h2⟩ := evI_P hc h
    exact ⟨v,h1,fun fr' σ' K' ha _ hK => by rw [zagx (by rw [hc]; simp)]; exact h2 fr' σ' _ ha hK⟩
  · obtain ⟨v,h1,h2⟩ := zbbw hc h
    exact ⟨v,h1,fun fr' σ' K' ha hl hK => by rw [zagx (by rw [hc]; simp)]; exact h2 fr' σ' _ ha (hl hc) hK⟩
 unfold rz at h
 split at h
 · rename_i hg
   obtain ⟨v,h1,h2⟩ := key h
   exact ⟨v,fun hn => absurd (by rw [hg]; trivial) hn,h1,fun fr' σ' K' ha _ hl hK => by unfold rz; rw [hg]; exact h2 fr' σ' K' ha hl hK⟩
 · rename_i t b hg
   by_cases ht : fr t = .bool b
   · obtain ⟨v,h1,h2⟩ := key (h.1 ht)
     refine ⟨v,fun hn => absurd (by rw [hg]; exact ht) hn,h1,fun fr' σ' K' ha hgt hl hK => ?_⟩
     unfold rz; rw [hg]
     have := hgt t b hg
     exact ⟨fun _ => h2 fr' σ' K' ha hl hK,fun hne => absurd (this.trans ht) hne⟩
   · refine ⟨undef,fun _ => rfl,h.2 ht,fun fr' σ' K' ha hgt hl hK => ?_⟩
     unfold rz; rw [hg]
     have := hgt t b hg
     exact ⟨fun e => absurd (this.symm.trans e) ht,fun _ => hK⟩
theorem za8n {x : Ins} {K K' : Fr → ar → Prop} {fr fr' : Fr} {σ : ar} (ha : zaat fr fr' x.i.ops) (hg : ∀ t b,x.guard = some (t,b) → fr' t = fr t)
 (hK : ∀ u σ',(vp x.i ≠ .W → σ.le σ') → K (fr.put x.dst u) σ' → K' (fr'.put x.dst u) σ') (h : rz P x K fr σ) : rz P x K' fr' σ := by
 have key : za0p P x.i (fun v σ' => K (fr.put x.dst v) σ') fr σ → za0p P x.i (fun v σ' => K' (fr'.put x.dst v) σ') fr' σ := by
  intro h
  cases hc : vp x.i with
  | P =>
   rw [zagx (by rw [hc]; simp)] at h ⊢
   obtain ⟨v,h1,h2⟩ := evI_P hc h
   exact h2 fr' σ _ ha (hK v σ (fun _ => .refl _) h1)
  | R =>
   rw [zagx (by rw [hc]; simp)] at h ⊢
   obtain ⟨v,h1,h2⟩ := zbbw hc h
   exact h2 fr' σ _ ha (.refl _) (hK v σ (fun _ => .refl _) h1)
  | T => exact evDI_T hc h ha fun v σ' hl h => hK v σ' (fun _ => hl) h
  | W => exact evDI_W hc h ha fun v σ' h => hK v σ' (fun e => absurd hc e) h
 unfold rz at *
 split at h
 · exact key h
 · rename_i t b hgd
   have e := hg t b hgd
   exact ⟨fun e1 => key (h.1 (e.symm.trans e1)),fun e1 => hK undef σ (fun _ => .refl _) (h.2 fun e2 => e1 (e.trans e2))⟩
def Ins.dsts (x : Ins) : List Nat := x.looks ++ x.dst.toList
def zab3 (P : Program) (y : Ins) (fr : Fr) (σ : ar) : Prop := gdP fr y.guard → evI P y.i (fun u _ => ∀ d,y.dst = some d → u = fr d) fr σ
def zax3 (P : Program) (ys : List Ins) (fr : Fr) (σ : ar) : Prop := match ys with
 | [] => True
 | y :: r => zab3 P y fr σ ∧ zax3 P r fr σ
theorem zapk {ys : List Ins} {fr : Fr} {σ : ar} : zax3 P ys fr σ ↔ ∀ y ∈ ys,zab3 P y fr σ := by
 induction ys with
 | nil => simp [zax3]
 | cons y r ih => simp [zax3,ih]
def evDX (P : Program) (x : Ins × List Ins) (K : Fr → ar → Prop) (fr : Fr) (σ : ar) : Prop := rz P x.1 (fun fr' σ' => zax3 P x.2 fr' σ' ∧ K fr' σ') fr σ
theorem evDX_mono {x : Ins × List Ins} {K K' : Fr → ar → Prop} {fr : Fr} {σ : ar} (h : evDX P x K fr σ) (hK : ∀ fr σ,K fr σ → K' fr σ) : evDX P x K' fr σ := zaja h fun _ _ h => ⟨h.1,hK _ _ h.2⟩
theorem zazj {x : Ins × List Ins} {K : Fr → ar → Prop} {fr : Fr} {σ : ar} (h : evDX P x K fr σ) : rz P x.1 K fr σ := zaja h fun _ _ h => h.2
theorem zbf9 {x : Ins} {K : Fr → ar → Prop} {fr : Fr} {σ : ar} : evDX P (x,[]) K fr σ ↔ rz P x K fr σ := ⟨zazj,fun h => zaja h fun _ _ h => ⟨trivial,h⟩⟩
def zbbx (P : Program) : List (Ins × List Ins) → (Fr → ar → Prop) → Fr → ar → Prop
 | [],K => K
 | x :: r,K => match x.2 with | [] => rz P x.1 (zbbx P r K) | _ :: _ => evDX P x (zbbx P r K)
theorem zati {x : Ins × List Ins} {r : List (Ins × List Ins)} {K : Fr → ar → Prop} {fr : Fr} {σ : ar} : zbbx P (x :: r) K fr σ ↔ evDX P x (zbbx P r K) fr σ := by
 obtain ⟨x,ys⟩ := x
 cases ys with
 | nil => exact zbf9.symm
 | cons y ys => exact Iff.rfl
theorem za7j {fr : Fr} {d : Option Nat} {v : Value} {y : Ins} (h : fg d y.looks = true) : zaat fr (fr.put d v) y.i.ops ∧ (∀ t b,y.guard = some (t,b) → (fr.put d v) t = fr t) := ⟨zama h,fun t b hg => zah2 h hg⟩
theorem zazh {d : Option Nat} {l r : List Nat} (h : fg d (l ++ r) = true) : fg d l = true ∧ fg d r = true := by
 cases d with
 | none => exact ⟨rfl,rfl⟩
 | some d => simpa [fg] using h
theorem gdP_of {fr fr' : Fr} {g : Option (Nat × Bool)} (h : ∀ t b,g = some (t,b) → fr' t = fr t) : gdP fr' g ↔ gdP fr g := by
 cases g with
 | none => exact Iff.rfl
 | some tb => obtain ⟨t,b⟩ := tb; simp only [gdP]; rw [h t b rfl]
theorem za50 {y : Ins} {fr fr' : Fr} {σ : ar} (hc : vp y.i = .R) (h1 : zaat fr fr' y.i.ops) (h2 : ∀ t b,y.guard = some (t,b) → fr' t = fr t) (h3 : ∀ d,y.dst = some d → fr' d = fr d) (h : zab3 P y fr σ) : zab3 P y fr' σ := by
 intro hg
 obtain ⟨v,e,h⟩ := zbbw hc (h ((gdP_of h2).1 hg))
 exact h fr' σ _ h1 (.refl _) fun d hd => (e d hd).trans (h3 d hd).symm
structure Ent where
 k : Nat
 x : Ins
 ys : List (Nat × Ins)
def Ent.out (e : Ent) : Ins × List Ins := (e.x,e.ys.map (·.2))
def zay2 (anc : List Nat) (y x : Ent) : Bool :=
 y.ys.isEmpty && apart y.x x.x && (clsOK (vp y.x.i) (vp x.x.i) || (decide (vp y.x.i = .R) && x.ys.any (fun z => z.1 == y.k) && fg y.x.dst y.x.looks)) &&
 x.ys.all fun z => (z.1 == y.k) || ((anc.getD z.1 0).testBit y.k) || (fg y.x.dst z.2.dsts)
theorem swapX {y : Ins} {k : Nat} {x : Ins} {ys : List (Nat × Ins)} {K : Fr → ar → Prop} {fr : Fr} {σ : ar} (hap : apart y x = true) (hcl : clsOK (vp y.i) (vp x.i) = true ∨ ((vp y.i = .R ∧ ∃ z ∈ ys,z.1 = k) ∧ fg y.dst y.looks = true)) (hoth : ∀ z ∈ ys,z.1 = k ∨ fg y.dst z.2.dsts = true) (hR : ∀ z ∈ ys,vp z.2.i = .R ∧ (z.1 = k → z.2 = y))
 (h : rz P y (evDX P (x,ys.map (·.2)) K) fr σ) : evDX P (x,(ys.filter fun z => z.1 != k).map (·.2)) (rz P y K) fr σ := by
 simp only [apart,Bool.and_eq_true] at hap
 obtain ⟨⟨h1,h2⟩,h3⟩ := hap
 have hy : vp y.i = .P ∨ vp y.i = .R := by
  rcases hcl with hcl | hcl
  · cases hc : vp y.i <;> rw [hc] at hcl <;> simp [clsOK] at hcl ⊢
  · exact .inr hcl.1.1
 have hfirst := za8m hy h
 -- what is told when the guard does not hold
 obtain ⟨v,hvu,hx,hrest⟩ := hfirst
 refine za8n (zamp (zama h1)) (fun t b hg => (zah2 h1 hg).symm) (fun u σ' hl hk => ?_) hx
 obtain ⟨hst,hk⟩ := hk
 rw [zapk] at hst
 refine ⟨?_,?_⟩
 · rw [zapk]
   intro z hz
   obtain ⟨⟨kz,z'⟩,hz1,rfl⟩ := List.mem_map.1 hz
   simp only [List.mem_filter,bne_iff_ne,ne_eq] at hz1
   have hs := hst z' (List.mem_map.2 ⟨_,hz1.1,rfl⟩)
   have hf : fg y.dst z'.dsts = true := by
    rcases hoth _ hz1.1 with e | e
    · exact absurd e hz1.2
    · exact e
   obtain ⟨f1,f2⟩ := zazh hf
   have e : (fr.put y.dst v).put x.dst u = (fr.put x.dst u).put y.dst v := za3q h3
   rw [e] at hs
   obtain ⟨q1,q2⟩ := za7j (fr := fr.put x.dst u) (v := v) f1
   refine za50 (hR _ hz1.1).1 (zamp q1) (fun t b hg => (q2 t b hg).symm) (fun d hd => ?_) hs
   have hd' : z'.dst = some d := hd
   exact (zaw6 f2 (by simp [hd'])).symm
 · rw [za3q h3] at hk
   rcases hcl with hcl | ⟨⟨hyR,z,hzm,hzk⟩,hself⟩
   · refine hrest _ σ' K (zama h2) (fun t b hg => zah2 h2 hg) (fun hc => hl fun hw => ?_) hk
     rw [hc,hw] at hcl; cases hcl
   · have hzy := (hR z hzm).2 hzk
     have hs := hst z.2 (List.mem_map.2 ⟨z,hzm,rfl⟩)
     rw [hzy,za3q h3] at hs
     obtain ⟨q1,q2⟩ := za7j (fr := fr.put x.dst u) (v := v) hself
     unfold rz
     unfold zab3 at hs
     cases hg : y.guard with
     | none =>
      rw [hg] at hs
      simp only
      obtain ⟨w,e,hw⟩ := zbbw hyR (hs trivial)
      have := hw (fr.put x.dst u) σ' (fun v σ' => K ((fr.put x.dst u).put y.dst v) σ') (zamp q1) (.refl _) (by
       cases hd : y.dst with
       | none => rw [hd] at hk; exact hk
       | some d =>
        have := e d hd
        rw [hd] at this hk
        simp only [Fr.put,if_true] at this
        rw [this]; exact hk)
      rw [zagx (by rw [hyR]; simp)]
      exact this
     | some tb =>
      obtain ⟨t,b⟩ := tb
      rw [hg] at hs
      simp only [gdP] at hs
      rw [q2 t b hg] at hs
      simp only
      refine ⟨fun ht => ?_,fun ht => ?_⟩
      · obtain ⟨w,e,hw⟩ := zbbw hyR (hs ht)
        have := hw (fr.put x.dst u) σ' (fun v σ' => K ((fr.put x.dst u).put y.dst v) σ') (zamp q1) (.refl _) (by
         cases hd : y.dst with
         | none => rw [hd] at hk; exact hk
         | some d =>
          have := e d hd
          rw [hd] at this hk
          simp only [Fr.put,if_true] at this
          rw [this]; exact hk)
        rw [zagx (by rw [hyR]; simp)]
        exact this
      · -- the guard does not hold: nothing was told
        have hgf : (fr.put x.dst u) t = fr t := zah2 h2 hg
        rw [hgf] at ht
        have hvu := hvu (by rw [hg]; exact ht)
        rw [hvu] at hk
        exact hk
theorem za2h {x : Ins} {K : Fr → ar → Prop} {l2 : List (Ins × List Ins)} {ys : List (Nat × Ins)} {anc : List Nat} (hR : ∀ z ∈ ys,vp z.2.i = .R) : ∀ (l1 : List Ent) {fr : Fr} {σ : ar},(∀ e ∈ l1,zay2 anc e ⟨0,x,ys⟩ = true ∧ ∀ z ∈ ys,z.1 = e.k → z.2 = e.x) →
 (∀ a e b,l1 = a ++ e :: b → ∀ z ∈ ys,(anc.getD z.1 0).testBit e.k = true → z.1 ∈ b.map (·.k)) →
 (l1.map (·.k)).Nodup → zbbx P (l1.map Ent.out ++ (x,ys.map (·.2)) :: l2) K fr σ → evDX P (x,(ys.filter fun z => l1.all fun e => z.1 != e.k).map (·.2)) (zbbx P (l1.map Ent.out ++ l2) K) fr σ
 | [],fr,σ,_,_,_,h => by
  have e : (ys.filter fun z => ([] : List Ent).all fun e => z.1 != e.k) = ys := by simp
  rw [e]
  exact zati.1 h
 | e :: l1,fr,σ,hall,hH,hnd,h => by
  obtain ⟨k,y,yy⟩ := e
  have hw := (hall ⟨k,y,yy⟩ (by simp)).1
  have heq := (hall ⟨k,y,yy⟩ (by simp)).2
  have hyy : yy = [] := by
   simp only [zay2,Bool.and_eq_true,List.isEmpty_iff] at hw
   exact hw.1.1.1
  subst hyy
  have h0 := zazj (zati.1 h)
  have hnd' : k ∉ l1.map (·.k) ∧ (l1.map (·.k)).Nodup := by simpa using hnd
  have h1 : rz P y (evDX P (x,(ys.filter fun z => l1.all fun e => z.1 != e.k).map (·.2)) (zbbx P (l1.map Ent.out ++ l2) K)) fr σ :=
   zaja h0 fun fr σ h => za2h hR l1 (fun e he => hall e (List.mem_cons_of_mem _ he)) (fun a e b hb => hH (⟨k,y,[]⟩ :: a) e b (by rw [hb]; rfl)) hnd'.2 h
  simp only [zay2,Bool.and_eq_true,Bool.or_eq_true,List.all_eq_true,List.any_eq_true,beq_iff_eq,decide_eq_true_eq] at hw
  obtain ⟨⟨q1,q2⟩,q3⟩ := hw
  have h2 := swapX (k := k) q1.2 (by
   rcases q2 with q2 | ⟨⟨p1,z,p2,p3⟩,p4⟩
   · exact .inl q2
   · refine .inr ⟨⟨p1,z,List.mem_filter.2 ⟨p2,?_⟩,p3⟩,p4⟩
     rw [List.all_eq_true]
     intro e he
     simp only [bne_iff_ne,ne_eq]
     intro hk
     exact hnd'.1 (List.mem_map.2 ⟨e,he,by rw [← hk,p3]⟩))
   (fun z hz => by
    obtain ⟨hz1,hz2⟩ := List.mem_filter.1 hz
    rcases q3 z hz1 with (h | h) | h
    · exact .inl h
    · exfalso
      have := hH [] ⟨k,y,[]⟩ l1 rfl z hz1 h
      obtain ⟨e,he,hk⟩ := List.mem_map.1 this
      rw [List.all_eq_true] at hz2
      have := hz2 e he
      simp [hk] at this
    · exact .inr h)
   (fun z hz => ⟨hR z (List.mem_filter.1 hz).1,fun hk => heq z (List.mem_filter.1 hz).1 hk⟩) h1
  have e1 : ((ys.filter fun z => l1.all fun e => z.1 != e.k).filter fun z => z.1 != k) = ys.filter fun z => ((⟨k,y,[]⟩ : Ent) :: l1).all fun e => z.1 != e.k := by
   rw [List.filter_filter]
   congr 1
  rw [e1] at h2
  exact evDX_mono h2 fun fr σ h => zati.2 (zbf9.2 h)
structure DH where
 ord : List Nat
 anc : List Nat
 wr : List Nat
 pend : List (Nat × List Nat)
def zadg (o : Oper) : List Nat := (o.after.toList.filter (Region.binds .any)).map (·.on)
def maskOf (anc : List Nat) (l : List Nat) : Nat := l.foldl (fun s e => s ||| (2 ^ e ||| anc.getD e 0)) 0
def zay3 (anc : List Nat) : List Oper → Nat → Bool
 | [],_ => true
 | o :: r,i => (zadg o).all (· < i) && (anc.getD i 0 == maskOf anc (zadg o)) && zay3 anc r (i + 1)
def zaq1 (anc : List Nat) (p q : Ent) : Bool :=
 p.k != q.k && !((anc.getD p.k 0).testBit q.k) && ((anc.getD q.k 0).testBit p.k || zay2 anc p q)
def zafc (anc : List Nat) : List Ent → Bool
 | [] => true
 | p :: r => r.all (zaq1 anc p) && !((anc.getD p.k 0).testBit p.k) && p.ys.all (fun z => decide (vp z.2.i = .R) && !((r.map (·.k)).contains z.1)) && zafc anc r
def wIns (wr : List Nat) (i : Nat) (x : Ins) : Ins := if wr.contains i then { x with i := x.i.toW } else x
theorem wIns_eq (wr : List Nat) (i : Nat) (x : Ins) : (wIns wr i x).dst = x.dst ∧ (wIns wr i x).guard = x.guard ∧ ((wIns wr i x).i = x.i ∨ (wIns wr i x).i = x.i.toW) := by
 unfold wIns; split <;> simp
theorem toW_R {i : I} (h : vp i = .R) : i.toW = i := by cases i <;> first | rfl | cases h
theorem wIns_R {wr : List Nat} {i : Nat} {x : Ins} (h : vp x.i = .R) : wIns wr i x = x := by
 unfold wIns
 split
 · rw [toW_R h]
 · rfl
def pendOf (l : List (Nat × List Nat)) (i : Nat) : List Nat := match l with | [] => [] | (k,js) :: r => if k = i then js else pendOf r i
def zbgj (P : Program) (N : Nat) (ops : Array Oper) : List Nat → Option (List (Nat × Ins))
 | [] => some []
 | j :: r => match ops[j]? with
  | none => none
  | some o => match zal2 P N ops o,zbgj P N ops r with
   | some x,some l => some ((j,x) :: l)
   | _,_ => none
theorem za2n {ops : Array Oper} : ∀ {js : List Nat} {l : List (Nat × Ins)},zbgj P N ops js = some l → ∀ z ∈ l,∃ o,ops[z.1]? = some o ∧ zal2 P N ops o = some z.2
 | [],l,h => by injection h with h; subst h; exact fun z hz => by simp at hz
 | j :: r,l,h => by
  simp only [zbgj] at h
  split at h
  · cases h
  · rename_i o ho
    split at h
    · rename_i x l' hx hl'
      injection h with h; subst h
      intro z hz
      rcases List.mem_cons.1 hz with rfl | hz
      · exact ⟨o,ho,hx⟩
      · exact za2n hl' z hz
    · cases h
def compD (P : Program) (N : Nat) (ops : Array Oper) (h : DH) : List Nat → Option (List Ent)
 | [] => some []
 | i :: r => match ops[i]? with
  | none => none
  | some o => match zal2 P N ops o,zbgj P N ops (pendOf h.pend i),compD P N ops h r with
   | some x,some ys,some l => some (⟨i,wIns h.wr i x,ys⟩ :: l)
   | _,_,_ => none
def za8p (P : Program) (N : Nat) (ops : Array Oper) (h : DH) : Option (List (Ins × List Ins)) :=
 match compD P N ops h h.ord with
 | none => none
 | some l => if (h.ord.length == ops.size) && zay3 h.anc ops.toList 0 && zafc h.anc l && (List.range ops.size).all (h.ord.contains ·) && P.follows .mixedOrders then some (l.map Ent.out) else none
theorem zay4 (anc : List Nat) (y : Nat) : ∀ (l : List Nat) (s : Nat),(l.foldl (fun s e => s ||| (2 ^ e ||| anc.getD e 0)) s).testBit y = true → s.testBit y = true ∨ ∃ e ∈ l,y = e ∨ (anc.getD e 0).testBit y = true
 | [],s,h => .inl h
 | e :: l,s,h => by
  rcases zay4 anc y l _ h with h | ⟨e',he,h⟩
  · simp only [Nat.testBit_or,Bool.or_eq_true,Nat.testBit_two_pow,decide_eq_true_eq] at h
    rcases h with h | h | h
    · exact .inl h
    · exact .inr ⟨e,by simp,.inl h.symm⟩
    · exact .inr ⟨e,by simp,.inr h⟩
  · exact .inr ⟨e',by simp [he],h⟩
theorem za13 (anc : List Nat) (y : Nat) : ∀ (l : List Nat) (s : Nat),(s.testBit y = true ∨ y ∈ l) → (l.foldl (fun s e => s ||| (2 ^ e ||| anc.getD e 0)) s).testBit y = true
 | [],s,h => by simpa using h
 | e :: l,s,h => by
  refine za13 anc y l _ ?_
  rcases h with h | h
  · exact .inl (by simp [h])
  · rcases List.mem_cons.1 h with rfl | h
    · exact .inl (by simp)
    · exact .inr h
theorem zamj {anc : List Nat} : ∀ (l : List Oper) (k : Nat),zay3 anc l k = true → ∀ j o,l[j]? = some o → (∀ e ∈ zadg o,e < k + j) ∧ anc.getD (k + j) 0 = maskOf anc (zadg o)
 | [],_,_,j,o,h => by simp at h
 | x :: r,k,hm,j,o,h => by
  simp only [zay3,Bool.and_eq_true,List.all_eq_true,decide_eq_true_eq,beq_iff_eq] at hm
  cases j with
  | zero => simp at h; subst h; exact ⟨hm.1.1,hm.1.2⟩
  | succ j =>
   have := zamj r (k + 1) hm.2 j o (by simpa using h)
   rwa [show k + (j + 1) = k + 1 + j by omega]
def EntOK (P : Program) (N : Nat) (ops : Array Oper) (wr : List Nat) (p : Ent) : Prop := ∃ o x,ops[p.k]? = some o ∧ zal2 P N ops o = some x ∧ p.x = wIns wr p.k x ∧ ∀ z ∈ p.ys,∃ oz,ops[z.1]? = some oz ∧ zal2 P N ops oz = some z.2
theorem za8r {ops : Array Oper} {h : DH} : ∀ {ord : List Nat} {l : List Ent},compD P N ops h ord = some l → l.map (·.k) = ord ∧ ∀ p ∈ l,EntOK P N ops h.wr p
 | [],l,hd => by injection hd with hd; subst hd; exact ⟨rfl,fun p hp => by simp at hp⟩
 | i :: r,l,hd => by
  simp only [compD] at hd
  split at hd
  · cases hd
  · rename_i o ho
    split at hd
    · rename_i x ys l' hx hys hl'
      injection hd with hd; subst hd
      obtain ⟨e1,e2⟩ := za8r hl'
      refine ⟨by simp [e1],fun p hp => ?_⟩
      rcases List.mem_cons.1 hp with rfl | hp
      · exact ⟨o,x,ho,hx,rfl,za2n hys⟩
      · exact e2 p hp
    · cases hd
theorem zahf {anc : List Nat} : ∀ {l1 : List Ent} {x : Ent} {l2 : List Ent},zafc anc (l1 ++ x :: l2) = true → (∀ y ∈ l1,zaq1 anc y x = true) ∧ (∀ y ∈ l2,zaq1 anc x y = true) ∧ (anc.getD x.k 0).testBit x.k = false ∧ (∀ z ∈ x.ys,vp z.2.i = .R ∧ z.1 ∉ l2.map (·.k)) ∧ zafc anc (l1 ++ l2) = true
 | [],x,l2,h => by
  simp only [List.nil_append,zafc,Bool.and_eq_true,List.all_eq_true,Bool.not_eq_true',decide_eq_true_eq] at h
  exact ⟨fun y hy => by simp at hy,h.1.1.1,h.1.1.2,fun z hz => ⟨(h.1.2 z hz).1,by simpa using (h.1.2 z hz).2⟩,h.2⟩
 | z :: l1,x,l2,h => by
  simp only [List.cons_append,zafc,Bool.and_eq_true,List.all_eq_true,Bool.not_eq_true',decide_eq_true_eq] at h ⊢
  obtain ⟨a,b,c,c2,d⟩ := zahf h.2
  refine ⟨fun y hy => ?_,b,c,c2,⟨⟨fun y hy => h.1.1.1 y ?_,h.1.1.2⟩,fun y hy => ⟨(h.1.2 y hy).1,?_⟩⟩,d⟩
  · rcases List.mem_cons.1 hy with rfl | hy
    · exact h.1.1.1 x (by simp)
    · exact a y hy
  · rcases List.mem_append.1 hy with hy | hy
    · exact List.mem_append_left _ hy
    · exact List.mem_append_right _ (List.mem_cons_of_mem _ hy)
  · have := (h.1.2 y hy).2
    simp only [List.contains_eq_mem,decide_eq_false_iff_not,List.mem_map,List.mem_append,List.mem_cons,not_exists,not_and] at this ⊢
    intro e he
    exact this e (he.imp id .inr)
theorem zaq0 {anc : List Nat} : ∀ {l : List Ent},zafc anc l = true → (l.map (·.k)).Nodup
 | [],_ => by simp
 | p :: r,h => by
  simp only [zafc,Bool.and_eq_true,List.all_eq_true] at h
  simp only [List.map_cons,List.nodup_cons,List.mem_map,not_exists,not_and]
  refine ⟨fun y hy he => ?_,zaq0 h.2⟩
  have := h.1.1.1 y hy
  simp [zaq1,he] at this
theorem za12 {ops : Array Oper} {listed : Array Bool} {i : Nat} (h : i ∈ Region.ready .any ops listed) : i < ops.size ∧ listed.getD i true = false ∧ ∃ o,ops[i]? = some o ∧ ∀ e ∈ zadg o,listed.getD e false = true := by
 simp only [Region.ready,List.mem_filter,List.mem_range,Bool.and_eq_true,Bool.not_eq_true'] at h
 obtain ⟨h1,h2,h3⟩ := h
 have ho : ops[i]? = some ops[i] := Array.getElem?_eq_getElem h1
 refine ⟨h1,h2,ops[i],ho,fun e he => ?_⟩
 rw [ho] at h3
 simp only [Option.map_some,Option.getD_some,Array.all_eq_true'] at h3
 simp only [zadg,List.mem_map,List.mem_filter] at he
 obtain ⟨ed,⟨hed,hb⟩,rfl⟩ := he
 have := h3 ed (by simpa using hed)
 simpa [hb] using this
theorem draw_sound {ops : Array Oper} {B : Nat} {w0 : World} {K : Fr → ar → Prop} {Q : Exit → Act → World → Prop} {anc wr : List Nat} (hm : zay3 anc ops.toList 0 = true) :
 ∀ (n : Nat) (l : List Ent) (listed : Array Bool) (m : Mp) (fr : Fr) (σ : ar) (w : World) (a : Act),l.length = n → listed.size = ops.size →
 (∀ p ∈ l,EntOK P N ops wr p) → zafc anc l = true → (∀ i,i < ops.size → (listed.getD i true = false ↔ i ∈ l.map (·.k))) →
 (∀ i o,listed.getD i true = true → ops[i]? = some o → ∀ e ∈ zadg o,listed.getD e false = true) →
 Rep B w0 σ m w → ml m N fr a → zbbx P (l.map Ent.out) K fr σ →
 (∀ m' fr' σ' a' w',m.le m' → Rep B w0 σ' m' w' → ml m' N fr' a' → K fr' σ' → Q .normal a' w') → wpAny P .any ops Q n listed a w := by
 have gd : ∀ (b : Array Bool) (j : Nat) (x y : Bool),j < b.size → b.getD j x = b.getD j y := fun b j x y h => by simp [Array.getD,h]
 intro n
 induction n with
 | zero =>
  intro l listed m fr σ w a hl hs hc hp hu hcl hr hf hev hQ
  have hl0 : l = [] := List.eq_nil_of_length_eq_zero hl
  subst hl0
  refine ⟨?_,hQ m fr σ a w (.refl m) hr hf hev⟩
  refine List.eq_nil_iff_forall_not_mem.2 fun i hi => ?_
  obtain ⟨h1,h2,_⟩ := za12 hi
  simpa using (hu i h1).1 h2
 | succ n ih =>
  intro l listed m fr σ w a hl hs hc hp hu hcl hr hf hev hQ
  -- every unlisted thing all of whose forerunners are listed
  refine ⟨fun hnil => ?_,fun i hi => ?_⟩
  · exfalso
    cases l with
    | nil => simp at hl
    | cons p r =>
     obtain ⟨o,_,ho,hco,_⟩ := hc p (by simp)
     have hlt : p.k < ops.size := (Array.getElem?_eq_some_iff.1 ho).1
     have hun := (hu p.k hlt).2 (by simp)
     obtain ⟨_,hpr,hself,_,_⟩ := zahf (l1 := []) (x := p) (l2 := r) hp
     obtain ⟨k1,k2⟩ := zamj ops.toList 0 hm p.k o (by simpa using ho)
     rw [Nat.zero_add] at k1 k2
     have hmem : p.k ∈ Region.ready .any ops listed := by
      simp only [Region.ready,List.mem_filter,List.mem_range,Bool.and_eq_true,Bool.not_eq_true']
      refine ⟨hlt,hun,?_⟩
      rw [ho]
      simp only [Option.map_some,Option.getD_some,Array.all_eq_true']
      intro e he
      by_cases hb : Region.binds .any e = true
      · have hmp : e.on ∈ zadg o := by
         simp only [zadg,List.mem_map,List.mem_filter]
         exact ⟨e,⟨by simpa using he,hb⟩,rfl⟩
        have hbit : (anc.getD p.k 0).testBit e.on = true := by rw [k2]; exact za13 anc e.on _ 0 (.inr hmp)
        have hlt2 : e.on < ops.size := Nat.lt_trans (k1 _ hmp) hlt
        have : listed.getD e.on true = true := by
         cases hq : listed.getD e.on true with
         | true => rfl
         | false =>
          have hin := (hu _ hlt2).1 hq
          simp only [List.map_cons,List.mem_cons,List.mem_map] at hin
          rcases hin with e1 | ⟨q,hq1,hq2⟩
          · rw [e1] at hbit; rw [hbit] at hself; cases hself
          · have := hpr q hq1
            simp only [zaq1,Bool.and_eq_true,Bool.not_eq_true'] at this
            rw [hq2,hbit] at this
            exact absurd this.1.2 (by simp)
        rw [hb,gd listed e.on false true (by rw [hs]; exact hlt2),this]
        rfl
      · simp [hb]
     rw [hnil] at hmem
     cases hmem
  · obtain ⟨hlt,hun,o,ho,hpre⟩ := za12 hi
    have hin := (hu i hlt).1 hun
    obtain ⟨p,hp1,hp2⟩ := List.mem_map.1 hin
    obtain ⟨l1,l2,rfl⟩ := List.append_of_mem hp1
    obtain ⟨i',x,ys⟩ := p
    simp only at hp2
    subst hp2
    obtain ⟨q1,q2,q3,qR,q4⟩ := zahf hp
    obtain ⟨o',x0,ho',hx,hxw,hys⟩ := hc _ hp1
    rw [ho] at ho'
    injection ho' with ho'
    subst ho'
    -- nothing that is still to come comes before it
    have back : ∀ (j : Nat) (oj : Oper),ops[j]? = some oj → (∀ e ∈ zadg oj,listed.getD e false = true) → ∀ y,listed.getD y false = false → (anc.getD j 0).testBit y = true → False := by
     intro j
     induction j using Nat.strongRecOn with
     | _ j ihj =>
      intro oj hoj hpj y hyu hb
      obtain ⟨k1,k2⟩ := zamj ops.toList 0 hm j oj (by simpa using hoj)
      rw [Nat.zero_add] at k1 k2
      rw [k2] at hb
      rcases zay4 anc y (zadg oj) 0 hb with h0 | ⟨e,he,rfl | hbe⟩
      · simp at h0
      · rw [hpj _ he] at hyu; cases hyu
      · have hej := k1 e he
        have hjs : j < ops.size := (Array.getElem?_eq_some_iff.1 hoj).1
        have hes : e < ops.size := Nat.lt_trans hej hjs
        have hoe : ops[e]? = some ops[e] := Array.getElem?_eq_getElem hes
        have hle := hpj e he
        exact ihj e hej ops[e] hoe (hcl e ops[e] (by rw [gd listed e true false (by rw [hs]; exact hes)]; exact hle) hoe) y hyu hbe
    have hfront : ∀ y ∈ l1,zay2 anc y ⟨0,x,ys⟩ = true := by
     intro y hy
     have h1 := q1 y hy
     simp only [zaq1,Bool.and_eq_true,Bool.or_eq_true] at h1
     rcases h1.2 with h2 | h2
     · exfalso
       obtain ⟨oy,_,hoy,_⟩ := hc y (List.mem_append_left _ hy)
       have hys : y.k < ops.size := (Array.getElem?_eq_some_iff.1 hoy).1
       have hyu := (hu y.k hys).2 (List.mem_map.2 ⟨y,List.mem_append_left _ hy,rfl⟩)
       exact back i' o ho hpre y.k (by rw [gd listed y.k false true (by rw [hs]; exact hys)]; exact hyu) h2
     · exact h2
    have hsame : ∀ y ∈ l1,∀ z ∈ ys,z.1 = y.k → z.2 = y.x := by
     intro y hy z hz hk
     obtain ⟨oz,hoz,hcz⟩ := hys z hz
     obtain ⟨oy,xy,hoy,hcy,hxy,_⟩ := hc y (List.mem_append_left _ hy)
     rw [hk,hoy] at hoz
     injection hoz with hoz
     subst hoz
     rw [hcy] at hcz
     injection hcz with hcz
     rw [hxy,hcz,wIns_R (by exact (qR z hz).1)]
    have hnd : (l1.map (·.k)).Nodup := by
     have := zaq0 hp
     rw [List.map_append] at this
     exact (List.nodup_append.1 this).1
    have hH : ∀ a e b,l1 = a ++ e :: b → ∀ z ∈ ys,(anc.getD z.1 0).testBit e.k = true → z.1 ∈ b.map (·.k) := by
     intro a e b hab z hz hbit
     have he1 : e ∈ l1 := by rw [hab]; simp
     obtain ⟨oe,_,hoe,_⟩ := hc e (List.mem_append_left _ he1)
     have hes : e.k < ops.size := (Array.getElem?_eq_some_iff.1 hoe).1
     have heu := (hu e.k hes).2 (List.mem_map.2 ⟨e,List.mem_append_left _ he1,rfl⟩)
     have heu' : listed.getD e.k false = false := by rw [gd listed e.k false true (by rw [hs]; exact hes)]; exact heu
     obtain ⟨oz,hoz,_⟩ := hys z hz
     have hzs : z.1 < ops.size := (Array.getElem?_eq_some_iff.1 hoz).1
     cases hq : listed.getD z.1 true with
     | true => exact (back z.1 oz hoz (hcl z.1 oz hq hoz) e.k heu' hbit).elim
     | false =>
      have hin := (hu z.1 hzs).1 hq
      obtain ⟨w,hw,hwk⟩ := List.mem_map.1 hin
      rcases List.mem_append.1 hw with hw | hw
      · rw [hab] at hw
        rcases List.mem_append.1 hw with hw | hw
        · exfalso
          obtain ⟨a1,a2,rfl⟩ := List.append_of_mem hw
          have hp' : zafc anc (a1 ++ w :: (a2 ++ e :: b ++ ⟨i',x,ys⟩ :: l2)) = true := by
           rw [hab] at hp
           simpa using hp
          have := (zahf hp').2.1 e (by simp)
          simp only [zaq1,Bool.and_eq_true,Bool.not_eq_true'] at this
          rw [hwk,hbit] at this
          exact absurd this.1.2 (by simp)
        · rcases List.mem_cons.1 hw with rfl | hw
          · exfalso
            have hp' : zafc anc (a ++ w :: (b ++ ⟨i',x,ys⟩ :: l2)) = true := by
             rw [hab] at hp
             simpa using hp
            have := (zahf hp').2.2.1
            rw [← hwk] at hbit
            rw [hbit] at this
            cases this
          · exact List.mem_map.2 ⟨w,hw,hwk⟩
      · exfalso
        rcases List.mem_cons.1 hw with rfl | hw
        · rw [← hwk] at hbit
          exact back i' o ho hpre e.k heu' hbit
        · exact (qR z hz).2 (List.mem_map.2 ⟨w,hw,hwk⟩)
    have hev' : rz P x (zbbx P ((l1 ++ l2).map Ent.out) K) fr σ := by
     have h1 : zbbx P (l1.map Ent.out ++ (x,ys.map (·.2)) :: l2.map Ent.out) K fr σ := by simpa [Ent.out] using hev
     have h2 := za2h (fun z hz => (qR z hz).1) l1 (fun e he => ⟨hfront e he,hsame e he⟩) hH hnd h1
     have h3 := zazj h2
     rw [List.map_append]
     exact h3
    have hlen : (l1 ++ l2).length = n := by simp at hl ⊢; omega
    have hset : (listed.setIfInBounds i' true).size = ops.size := by simpa using hs
    have hc' : ∀ p ∈ l1 ++ l2,EntOK P N ops wr p := fun p hp => hc p (by
     rcases List.mem_append.1 hp with h | h
     · exact List.mem_append_left _ h
     · exact List.mem_append_right _ (List.mem_cons_of_mem _ h))
    have gset : ∀ j x,j < ops.size → (listed.setIfInBounds i' true).getD j x = if j = i' then true else listed.getD j x := fun j x hj => by
     by_cases e : j = i'
     · subst e; simp [Array.getD,hs,hlt]
     · simp only [Array.getD_eq_getD_getElem?]
       rw [Array.getElem?_setIfInBounds_ne (fun h => e h.symm),if_neg e]
    have hu' : ∀ j,j < ops.size → ((listed.setIfInBounds i' true).getD j true = false ↔ j ∈ (l1 ++ l2).map (·.k)) := fun j hj => by
     rw [gset j true hj]
     by_cases e : j = i'
     · subst e
       simp only [if_true,Bool.true_eq_false,false_iff,List.mem_map,not_exists,not_and]
       intro y hy he
       rcases List.mem_append.1 hy with h | h
       · have := q1 y h
         simp [zaq1,he] at this
       · have := q2 y h
         simp [zaq1,he] at this
     · rw [if_neg e,hu j hj]
       simp only [List.map_append,List.map_cons,List.mem_append,List.mem_cons]
       constructor
       · rintro (h | h | h)
         · exact .inl h
         · exact absurd h e
         · exact .inr h
       · rintro (h | h)
         · exact .inl h
         · exact .inr (.inr h)
    have hcl' : ∀ j oj,(listed.setIfInBounds i' true).getD j true = true → ops[j]? = some oj → ∀ e ∈ zadg oj,(listed.setIfInBounds i' true).getD e false = true := fun j oj hj hoj e he => by
     have hjs : j < ops.size := (Array.getElem?_eq_some_iff.1 hoj).1
     have hes : e < ops.size := by
      have := (zamj ops.toList 0 hm j oj (by simpa using hoj)).1 e he
      omega
     rw [gset e false hes]
     split
     · rfl
     · rw [gset j true hjs] at hj
       by_cases e1 : j = i'
       · subst e1
         rw [ho] at hoj
         injection hoj with hoj
         subst hoj
         exact hpre e he
       · rw [if_neg e1] at hj
         exact hcl j oj hj hoj e he
    unfold wpOp
    simp only [ho]
    obtain ⟨u1,u2,u3⟩ := wIns_eq wr i' x0
    simp only at hxw
    rw [← hxw] at u1 u2 u3
    simp only [zal2] at hx
    split at hx
    · rename_i ii g hi' hg
      injection hx with hx
      subst hx
      simp only at u1 u2 u3
      have hw := za04 (ops := ops) hf hg
      have go : za0p P x.i (fun v σ' => zbbx P ((l1 ++ l2).map Ent.out) K (fr.put x.dst v) σ') fr σ → o.wp P a w (wpAny P .any ops Q n (listed.setIfInBounds i' true)) Q := fun he => by
       have he' : evI P ii (fun v σ' => zbbx P ((l1 ++ l2).map Ent.out) K (fr.put o.dst v) σ') fr σ := by
        have := zbbv he
        rw [u1] at this
        rcases u3 with u3 | u3
        · rwa [u3] at this
        · rwa [u3,evI_toW] at this
       exact zau2 (good_of o ii hi' hr hf he') fun v c m' σ' w' h1 h2 h3 h4 =>
        ih (l1 ++ l2) _ m' (fr.put o.dst v) σ' w' (a.put o.dst c) hlen hset hc' q4 hu' hcl' h3 ((hf.mono h1).put _ h2) h4
         fun m2 fr2 σ2 a2 w2 h5 h6 h7 h8 => hQ m2 fr2 σ2 a2 w2 (h1.trans h5) h6 h7 h8
      unfold rz at hev'
      rw [u2] at hev'
      cases g with
      | none =>
       rw [if_pos (hw.2 trivial)]
       exact .inl (go hev')
      | some tb =>
       obtain ⟨t,b⟩ := tb
       obtain ⟨e1,e2⟩ := hev'
       by_cases hfr : fr t = .bool b
       · rw [if_pos (hw.2 hfr)]
         exact .inl (go (e1 hfr))
       · rw [if_neg (fun h => hfr (hw.1 h))]
         have e2 := e2 hfr
         rw [u1] at e2
         exact ih (l1 ++ l2) _ m (fr.put o.dst undef) σ w (a.put o.dst undef) hlen hset hc' q4 hu' hcl' hr (hf.put _ (.undef m)) e2 hQ
    · cases hx
theorem zbby {id : Nat} {ops : Array Oper} {h : DH} {xs : List (Ins × List Ins)} (hd : za8p P N ops h = some xs) {Q : Exit → Fr → ar → Prop} {fr : Fr} {σ : ar} (hev : zbbx P xs (Q .normal) fr σ) : SWp P N (.region id ops true) Q fr σ := by
 intro B w0 m w a hr hf
 unfold za8p at hd
 split at hd
 · cases hd
 · rename_i l hl
   split at hd
   · rename_i hc
     injection hd with hd
     subst hd
     simp only [Bool.and_eq_true,beq_iff_eq,List.all_eq_true,List.mem_range,List.contains_eq_mem,decide_eq_true_eq] at hc
     obtain ⟨⟨⟨⟨h1,h2⟩,h3⟩,h4⟩,h5⟩ := hc
     obtain ⟨e1,e2⟩ := za8r hl
     refine wp_region_any h5 ?_
     have hlen : l.length = ops.size := by rw [← h1,← e1]; simp
     refine draw_sound (P := P) (N := N) (ops := ops) (K := Q .normal) (Q := Lift B w0 m N Q) h2 ops.size l _ m fr σ _ a hlen (by simp) e2 h3 (fun i hi => ?_) (fun i o hi => ?_) hr.drew hf hev
      fun m' fr' σ' a' w' h1 h2 h3 h4 => ⟨m',fr',σ',h1,h2,h3,h4⟩
     · have : (Array.replicate ops.size false).getD i true = false := by simp [Array.getD,hi]
       simp only [this,true_iff]
       rw [e1]; exact h4 i hi
     · by_cases hlt : i < ops.size
       · simp [Array.getD,hlt] at hi
       · intro ho; exact absurd (Array.getElem?_eq_some_iff.1 ho).1 hlt
   · cases hd
end
def hint (H : List (Nat × DH)) (id : Nat) : DH := match H with | [] => ⟨[],[],[],[]⟩ | (k,d) :: r => if k = id then d else hint r id
def vz (P : Program) (N : Nat) (H : List (Nat × DH)) : Code → Option IC
 | .skip => some .skip
 | .region id ops draw => if draw then (za8p P N ops (hint H id)).map .draw else (zbb0 P N ops ops.toList).map .ops
 | .seq a b => match vz P N H a,vz P N H b with
  | some x,some y => some (.seq x y)
  | _,_ => none
 | .cond c a b => if okO N c then match vz P N H a,vz P N H b with
  | some x,some y => some (.cond c x y)
  | _,_ => none else none
 | .block id a => (vz P N H a).map (.block id)
 | .loop a => (vz P N H a).map .loop
 | .exit id => some (.exit id)
 | .ret => some .ret
 | .label _ => some .skip
 | _ => none
def compS (P : Program) (N : Nat) (H : List (Nat × DH)) : Code → Option IC
 | .scope c => vz P N H c
 | .seq a (.scope c) => match vz P N H a,vz P N H c with
  | some x,some y => some (.seq x y)
  | _,_ => none
 | c => vz P N H c
def SWpI (P : Program) (N : Nat) (ic : IC) (Q : Exit → Fr → ar → Prop) (fr : Fr) (σ : ar) : Prop := ∀ H c,vz P N H c = some ic → SWp P N c Q fr σ
def za5r (next : Fr → ar → Prop) (Q : Exit → Fr → ar → Prop) : Exit → Fr → ar → Prop
 | .normal => next
 | e => Q e
def zao6 (id : Nat) (Q : Exit → Fr → ar → Prop) : Exit → Fr → ar → Prop
 | .exit j => if j = id then Q .normal else Q (.exit j)
 | e => Q e
def evC (P : Program) (N : Nat) : IC → (Exit → Fr → ar → Prop) → Fr → ar → Prop
 | .skip,Q => Q .normal
 | .ops l,Q => evL P l (Q .normal)
 | .draw l,Q => zbbx P l (Q .normal)
 | .seq a b,Q => evC P N a (za5r (evC P N b Q) Q)
 | .cond c a b,Q => fun fr σ => zapq (evO fr c) fun t => (t = true → evC P N a Q fr σ) ∧ (t = false → evC P N b Q fr σ)
 | .block id a,Q => evC P N a (zao6 id Q)
 | .loop a,Q => SWpI P N (.loop a) Q
 | .exit id,Q => Q (.exit id)
 | .ret,Q => Q .ret
section
variable {P : Program} {N : Nat} {H : List (Nat × DH)}
theorem zap3 : ∀ (c : Code) (ic : IC),vz P N H c = some ic → ∀ (Q : Exit → Fr → ar → Prop) (fr : Fr) (σ : ar),evC P N ic Q fr σ → SWp P N c Q fr σ := by
 intro c
 induction c with
 | skip =>
  intro ic hc Q fr σ h B w0 m w a hr hf
  injection hc with hc; subst hc
  exact wp_skip ⟨m,fr,σ,.refl m,hr,hf,h⟩
 | region id ops draw =>
  intro ic hc Q fr σ h B w0 m w a hr hf
  simp only [vz] at hc
  split at hc
  · rename_i hd
    subst hd
    cases hl : za8p P N ops (hint H id) with
    | none => simp [hl] at hc
    | some xs =>
     simp [hl] at hc
     subst hc
     exact zbby hl h B w0 m w a hr hf
  · rename_i hd
    have hd' : draw = false := by simpa using hd
    subst hd'
    cases hl : zbb0 P N ops ops.toList with
    | none => simp [hl] at hc
    | some xs =>
     simp [hl] at hc
     subst hc
     refine wp_region ?_
     have := ops_sound (P := P) (N := N) (ops := ops) (K := Q .normal) (Q := Lift B w0 m N Q) ops.toList 0 xs (fun j => by simp) hl m fr σ w a hr hf h
      fun m' fr' σ' a' w' h1 h2 h3 h4 => ⟨m',fr',σ',h1,h2,h3,h4⟩
     simpa [List.range_eq_range'] using this
 | seq x y ihx ihy =>
  intro ic hc Q fr σ h B w0 m w a hr hf
  simp only [vz] at hc
  split at hc
  · rename_i p q hp hq
    injection hc with hc; subst hc
    have h1 := ihx p hp _ fr σ h B w0 m w a hr hf
    refine wp_seq (wp_mono h1 ?_)
    rintro e a' w' ⟨m',fr',σ',h2,h3,h4,h5⟩
    cases e with
    | normal => exact wp_mono (ihy q hq Q fr' σ' h5 B w0 m' w' a' h3 h4) (Lift.le h2 fun _ _ _ h => h)
    | exit id => exact ⟨m',fr',σ',h2,h3,h4,h5⟩
    | goto id => exact ⟨m',fr',σ',h2,h3,h4,h5⟩
    | ret => exact ⟨m',fr',σ',h2,h3,h4,h5⟩
    | panic id => exact ⟨m',fr',σ',h2,h3,h4,h5⟩
    | outgrown => exact ⟨m',fr',σ',h2,h3,h4,h5⟩
  · cases hc
 | cond c x y ihx ihy =>
  intro ic hc Q fr σ h B w0 m w a hr hf
  simp only [vz] at hc
  split at hc
  · rename_i hoc
    split at hc
    · rename_i p q hp hq
      injection hc with hc; subst hc
      have hv := b9 hf hoc
      simp only [evC] at h
      cases hx : evO fr c with
      | bool t =>
       rw [hx] at hv h
       have := zaxh hv
       refine wp_cond this ?_
       cases t
       · exact ihy q hq Q fr σ (h.2 rfl) B w0 m w a hr hf
       · exact ihx p hp Q fr σ (h.1 rfl) B w0 m w a hr hf
      | _ => rw [hx] at h; exact h.elim
    · cases hc
  · cases hc
 | block id x ih =>
  intro ic hc Q fr σ h B w0 m w a hr hf
  simp only [vz] at hc
  cases hx : vz P N H x with
  | none => simp [hx] at hc
  | some p =>
   simp [hx] at hc
   subst hc
   have h1 := ih p hx _ fr σ h B w0 m w a hr hf
   refine wp_block (wp_mono h1 ?_)
   rintro e a' w' ⟨m',fr',σ',h2,h3,h4,h5⟩
   cases e with
   | exit j =>
    simp only [zao6] at h5
    simp only [Exit.inBlock]
    split
    · rename_i hj; rw [if_pos hj] at h5; exact ⟨m',fr',σ',h2,h3,h4,h5⟩
    · rename_i hj; rw [if_neg hj] at h5; exact ⟨m',fr',σ',h2,h3,h4,h5⟩
   | normal => exact ⟨m',fr',σ',h2,h3,h4,h5⟩
   | goto id => exact ⟨m',fr',σ',h2,h3,h4,h5⟩
   | ret => exact ⟨m',fr',σ',h2,h3,h4,h5⟩
   | panic id => exact ⟨m',fr',σ',h2,h3,h4,h5⟩
   | outgrown => exact ⟨m',fr',σ',h2,h3,h4,h5⟩
 | loop x ih =>
  intro ic hc Q fr σ h
  have hc' := hc
  simp only [vz] at hc
  cases hx : vz P N H x with
  | none => simp [hx] at hc
  | some p =>
   simp [hx] at hc
   subst hc
   exact h H _ hc'
 | exit id =>
  intro ic hc Q fr σ h B w0 m w a hr hf
  injection hc with hc; subst hc
  exact wp_exit ⟨m,fr,σ,.refl m,hr,hf,h⟩
 | ret =>
  intro ic hc Q fr σ h B w0 m w a hr hf
  injection hc with hc; subst hc
  exact wp_ret ⟨m,fr,σ,.refl m,hr,hf,h⟩
 | rangeFunc f ps x y _ _ => intro ic hc; simp [vz] at hc
 | scope x _ => intro ic hc; simp [vz] at hc
 | label l =>
  intro ic hc Q fr σ h B w0 m w a hr hf
  injection hc with hc; subst hc
  exact wp_label ⟨m,fr,σ,.refl m,hr,hf,h⟩
 | goto l => intro ic hc; simp [vz] at hc
 | refuse s => intro ic hc; simp [vz] at hc
theorem zaqr {ι : Type} {a : IC} {Q : Exit → Fr → ar → Prop} (I : ι → Fr → ar → Prop) (μ : ι → Nat) (i0 : ι) {fr : Fr} {σ : ar} (h0 : I i0 fr σ)
 (round : ∀ i fr σ,I i fr σ → evC P N a (za5r (fun fr' σ' => ∃ i',μ i' < μ i ∧ I i' fr' σ') Q) fr σ) : SWpI P N (.loop a) Q fr σ := by
 intro H c hc B w0 m w act hr hf
 cases c with
 | loop x =>
  simp only [vz] at hc
  cases hx : vz P N H x with
  | none => simp [hx] at hc
  | some p =>
   simp [hx] at hc
   subst hc
   refine wp_loop_ghost (fun n act w => ∃ i m' fr σ,μ i = n ∧ m.le m' ∧ Rep B w0 σ m' w ∧ ml m' N fr act ∧ I i fr σ) (μ i0) ⟨i0,m,fr,σ,rfl,.refl m,hr,hf,h0⟩ ?_
   rintro n act w ⟨i,m',fr,σ,rfl,hm,hr,hf,hI⟩
   refine wp_mono (zap3 x p hx _ fr σ (round i fr σ hI) B w0 m' w act hr hf) ?_
   rintro e a' w' ⟨m2,fr2,σ2,h2,h3,h4,h5⟩
   cases e with
   | normal =>
    obtain ⟨i',hlt,hI'⟩ := h5
    exact ⟨μ i',hlt,i',m2,fr2,σ2,rfl,hm.trans h2,h3,h4,hI'⟩
   | exit id => exact ⟨m2,fr2,σ2,hm.trans h2,h3,h4,h5⟩
   | goto id => exact ⟨m2,fr2,σ2,hm.trans h2,h3,h4,h5⟩
   | ret => exact ⟨m2,fr2,σ2,hm.trans h2,h3,h4,h5⟩
   | panic id => exact ⟨m2,fr2,σ2,hm.trans h2,h3,h4,h5⟩
   | outgrown => exact ⟨m2,fr2,σ2,hm.trans h2,h3,h4,h5⟩
 | region id ops draw =>
  simp only [vz] at hc
  split at hc
  · cases hl : za8p P N ops (hint H id) <;> simp [hl] at hc
  · cases hl : zbb0 P N ops ops.toList <;> simp [hl] at hc
 | seq x y => simp only [vz] at hc; split at hc <;> cases hc
 | cond q x y => simp only [vz] at hc; split at hc <;> (try split at hc) <;> cases hc
 | block id x => simp only [vz] at hc; cases hx : vz P N H x <;> simp [hx] at hc
 | _ => simp [vz] at hc
end
end Go.Proofs.Ytdcfoaafkppojaa.Sh
