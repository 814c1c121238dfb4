import Derived.Test.YtdcfoaafkppojaaM2
set_option linter.unusedVariables false
set_option linter.unusedSimpArgs false
/- Regions whose order the model draws: what may come in any order, told in one order. -/
namespace Go.Proofs.Ytdcfoaafkppojaa.Sh
open Go Go.RowKit
inductive Cls where
 | P | R | T | W
 deriving DecidableEq
def pn : I → Cls
 | .load1 _ | .loadN _ _ | .toStr _ => .R
 | .box _ _ _ | .call _ _ | .callv _ _ | .buildSl _ _ _ _ _ | .makeSl _ _ _ _ _ | .toBytes _ _ | .mkMap => .T
 | .store _ _ _ | .append _ _ _ _ _ | .appendS _ _ _ | .callW _ _ | .callvW _ _ | .mapGet _ _ _ | .mapSet _ _ _ _ => .W
 | _ => .P
def I.ops : I → List Operand
 | .mov x | .box _ _ x | .load1 x | .loadN _ x | .nilchk x | .isNil _ _ x | .un _ x | .conv _ x | .convS x | .fieldAddr _ x | .field1 _ x | .fieldN _ _ x | .lenS x | .lenL x | .extract x _ | .toBytes _ x | .toStr x => [x]
 | .append _ _ _ s x | .appendS _ s x | .makeSl _ _ _ s x | .indexAgg _ s x | .indexAggN _ _ s x | .eqF _ _ s x => [s,x]
 | .build _ ps | .buildSl _ _ _ _ ps => ps.map fun p => p.2.2
 | .mkMap => []
 | .pick a b c => [a,b,c]
 | .mapGet _ x i => [x,i]
 | .mapSet _ x i v => [x,i,v]
 | .store _ a x => [a,x]
 | .bin _ x y | .eqB _ x y | .indexPtr _ _ x y | .indexSl _ x y | .indexStr x y | .min x y | .max x y => [x,y]
 | .sliceStr x lo hi | .sliceSl _ x lo hi => x :: (lo.toList ++ hi.toList)
 | .mkFunc _ a b => a ++ b
 | .call _ a | .callW _ a => a
 | .callv x a | .callvW x a => x :: a
def vu (fr fr' : Fr) (l : List Operand) : Prop := ∀ x ∈ l,evO fr' x = evO fr x
theorem vu.map {fr fr' : Fr} {l : List Operand} (h : vu fr fr' l) : l.map (evO fr') = l.map (evO fr) := List.map_congr_left h
theorem vu.opt {fr fr' : Fr} {x : Option Operand} (h : vu fr fr' x.toList) : x.map (evO fr') = x.map (evO fr) := by
 cases x with
 | none => rfl
 | some x => simp only [Option.map_some]; rw [h x (by simp)]
def za37 (P : Program) (i : I) (K : Value → aj → Prop) (fr : Fr) (σ : aj) : Prop :=
 match i with
 | .call f args => lg P f (args.map (evO fr)) σ fun v σ' => σ.le σ' ∧ K v σ'
 | .callv x args => zbls (evO fr x) fun f first captured => lg P f (first.toList ++ args.map (evO fr) ++ captured.toList) σ fun v σ' => σ.le σ' ∧ K v σ'
 | i => evI P i K fr σ
theorem zbt0 {v : Value} {K : Addr → Prop} (h : j5 v K) : ∃ a,v = .pointer (some a) ∧ K a := by unfold j5 at h; split at h <;> first | exact ⟨_,rfl,h⟩ | exact h.elim
theorem oq {v : Value} {K : IntKind → Int → Prop} (h : a7 v K) : ∃ k n,v = .int k n ∧ K k n := by unfold a7 at h; split at h <;> first | exact ⟨_,_,rfl,h⟩ | exact h.elim
theorem zbz6 {v : Value} {K : Bool → Prop} (h : zbbb v K) : ∃ b,v = .bool b ∧ K b := by unfold zbbb at h; split at h <;> first | exact ⟨_,rfl,h⟩ | exact h.elim
theorem zbs1 {v : Value} {K : ByteArray → Prop} (h : zan9 v K) : ∃ b,v = .string b ∧ K b := by unfold zan9 at h; split at h <;> first | exact ⟨_,rfl,h⟩ | exact h.elim
theorem zcjf {v : Value} {K : Addr → Nat → Nat → Prop} (h : kSl v K) : ∃ a n s,v = .slice (some a) n s ∧ K a n s := by unfold kSl at h; split at h <;> first | exact ⟨_,_,_,rfl,h⟩ | exact h.elim
theorem zbh4 {v : Value} {K : Nat → Prop} (h : zblr v K) : ∃ a n s,v = .slice a n s ∧ K n := by unfold zblr at h; split at h <;> first | exact ⟨_,_,_,rfl,h⟩ | exact h.elim
theorem zbs0 {v : Value} {K : Array Value → Prop} (h : za7x v K) : ∃ b,v = .agg b ∧ K b := by unfold za7x at h; split at h <;> first | exact ⟨_,rfl,h⟩ | exact h.elim
theorem zbh3 {v : Value} {K : Array Value → Prop} (h : zbyu v K) : ∃ b,v = .tuple b ∧ K b := by unfold zbyu at h; split at h <;> first | exact ⟨_,rfl,h⟩ | exact h.elim
theorem zbzk {v : Value} {K : FuncId → Array Value → Array Value → Prop} (h : zbls v K) : ∃ f a b,v = .func (.func f) a b ∧ K f a b := by unfold zbls at h; split at h <;> first | exact ⟨_,_,_,rfl,h⟩ | exact h.elim
theorem lw {α : Type} {v : Option α} {K : α → Prop} (h : oo v K) : ∃ b,v = some b ∧ K b := by unfold oo at h; split at h <;> first | exact ⟨_,rfl,h⟩ | exact h.elim
theorem zbh5 {v : Value} {K : Prop} (h : zbyv v K) : K ∧ ∀ K' : Prop,K' → zbyv v K' := by
 unfold zbyv at *
 split at h <;> first | exact ⟨h,fun _ h => h⟩ | exact h.elim
theorem zb0v {v : Value} {Kn : Prop} {Ks : Addr → Nat → Nat → Prop} (h : ie v Kn Ks) : (∃ n s,v = .slice none n s ∧ Kn) ∨ ∃ a n s,v = .slice (some a) n s ∧ Ks a n s := by
 unfold ie at h; split at h <;> first | exact .inl ⟨_,_,rfl,h⟩ | exact .inr ⟨_,_,_,rfl,h⟩ | exact h.elim
theorem zb80 {fr fr' : Fr} {ps : List (Nat × Nat × Operand)} (h : vu fr fr' (ps.map fun p => p.2.2)) : (ps.map fun p => (p.1,p.2.1,evO fr' p.2.2)) = ps.map fun p => (p.1,p.2.1,evO fr p.2.2) :=
 List.map_congr_left fun p hp => by rw [h p.2.2 (List.mem_map.2 ⟨p,hp,rfl⟩)]
theorem zcmv {σ : aj} {t : TypeId} {sz bytes : Nat} {s : Value} {m : Nat} {news : List Value} {K K' : Value → aj → Prop} (h : zbjd σ t sz bytes s m news K) (hK : ∀ v σ',K v σ' → K' v σ') : zbjd σ t sz bytes s m news K' := by
 unfold zbjd at *
 rcases zb0v h with ⟨n,s',rfl,h1,h2⟩ | ⟨a,n,s',rfl,h1,h2,h3,h4⟩
 · exact ⟨h1,h2.imp (hK _ _) (hK _ _)⟩
 · refine ⟨h1,h2,h3,h4.imp (fun h4 => ?_) fun h4 => ?_⟩
   · obtain ⟨cs,e,h5,h6⟩ := lw h4
     rw [e]
     exact ⟨h5,hK _ _ h6⟩
   · obtain ⟨cs,e,h5,h6⟩ := lw h4
     rw [e]
     exact ⟨h5,hK _ _ h6⟩
theorem zbya {v : Value} {Kn Kn' : Prop} {Ks Ks' : Addr → Nat → Nat → Prop} (h : ie v Kn Ks) (h1 : Kn → Kn') (h2 : ∀ a n s,Ks a n s → Ks' a n s) : ie v Kn' Ks' := by
 rcases zb0v h with ⟨n,s',rfl,h⟩ | ⟨a,n,s',rfl,h⟩
 · exact h1 h
 · exact h2 _ _ _ h
section
variable {P : Program} {K : Value → aj → Prop} {fr : Fr} {σ : aj}
theorem zbry {i : I} (hc : pn i = .P) (h : evI P i K fr σ) : ∃ v,K v σ ∧ ∀ fr' σ' (K' : Value → aj → Prop),vu fr fr' i.ops → K' v σ' → evI P i K' fr' σ' := by
 cases i <;> simp [pn] at hc <;> simp only [evI] at h
 case mov x => exact ⟨_,h,fun fr' σ' K' ha hK => by simp only [evI,ha x (by simp [I.ops])]; exact hK⟩
 case pick c a b =>
  obtain ⟨t,e,h⟩ := zbz6 h
  exact ⟨_,h,fun fr' σ' K' ha hK => by simp only [evI,ha c (by simp [I.ops]),ha a (by simp [I.ops]),ha b (by simp [I.ops]),e]; exact hK⟩
 case nilchk x =>
  obtain ⟨h,e⟩ := zbh5 h
  exact ⟨_,h,fun fr' σ' K' ha hK => by simp only [evI,ha x (by simp [I.ops])]; exact e _ hK⟩
 case bin op x y =>
  obtain ⟨t,e,h⟩ := lw h
  exact ⟨_,h,fun fr' σ' K' ha hK => by simp only [evI,ha x (by simp [I.ops]),ha y (by simp [I.ops]),e]; exact hK⟩
 case eqB neg x y =>
  obtain ⟨t,e,h⟩ := zbz6 h
  obtain ⟨t2,e2,h⟩ := zbz6 h
  exact ⟨_,h,fun fr' σ' K' ha hK => by simp only [evI,ha x (by simp [I.ops]),ha y (by simp [I.ops]),e,e2]; exact hK⟩
 case isNil k neg x =>
  obtain ⟨t,e,h⟩ := lw h
  exact ⟨_,h,fun fr' σ' K' ha hK => by simp only [evI,ha x (by simp [I.ops]),e]; exact hK⟩
 case un op x =>
  obtain ⟨t,e,h⟩ := lw h
  exact ⟨_,h,fun fr' σ' K' ha hK => by simp only [evI,ha x (by simp [I.ops]),e]; exact hK⟩
 case conv k x =>
  obtain ⟨k',n,e,h⟩ := oq h
  exact ⟨_,h,fun fr' σ' K' ha hK => by simp only [evI,ha x (by simp [I.ops]),e]; exact hK⟩
 case convS x =>
  obtain ⟨k',e,h⟩ := zbs1 h
  exact ⟨_,h,fun fr' σ' K' ha hK => by simp only [evI,ha x (by simp [I.ops]),e]; rw [e] at hK; exact hK⟩
 case fieldAddr off x =>
  obtain ⟨k',e,h⟩ := zbt0 h
  exact ⟨_,h,fun fr' σ' K' ha hK => by simp only [evI,ha x (by simp [I.ops]),e]; exact hK⟩
 case field1 off x =>
  obtain ⟨k',e,h1,h⟩ := zbs0 h
  exact ⟨_,h,fun fr' σ' K' ha hK => by simp only [evI,ha x (by simp [I.ops]),e]; exact ⟨h1,hK⟩⟩
 case fieldN off n x =>
  obtain ⟨k',e,h1,h⟩ := zbs0 h
  exact ⟨_,h,fun fr' σ' K' ha hK => by simp only [evI,ha x (by simp [I.ops]),e]; exact ⟨h1,hK⟩⟩
 case indexPtr len sz x y =>
  obtain ⟨a,e,h⟩ := zbt0 h
  obtain ⟨k,n,e2,h1,h⟩ := oq h
  exact ⟨_,h,fun fr' σ' K' ha hK => by simp only [evI,ha x (by simp [I.ops]),ha y (by simp [I.ops]),e,e2]; exact ⟨h1,hK⟩⟩
 case indexSl sz x y =>
  obtain ⟨a,n,s,e,h⟩ := zcjf h
  obtain ⟨k,n,e2,h1,h⟩ := oq h
  exact ⟨_,h,fun fr' σ' K' ha hK => by simp only [evI,ha x (by simp [I.ops]),ha y (by simp [I.ops]),e,e2]; exact ⟨h1,hK⟩⟩
 case indexStr x y =>
  obtain ⟨a,e,h⟩ := zbs1 h
  obtain ⟨k,n,e2,h1,h⟩ := oq h
  exact ⟨_,h,fun fr' σ' K' ha hK => by simp only [evI,ha x (by simp [I.ops]),ha y (by simp [I.ops]),e,e2]; exact ⟨h1,hK⟩⟩
 case sliceStr x lo hi =>
  obtain ⟨a,e,h⟩ := zbs1 h
  obtain ⟨lh,e2,h⟩ := lw h
  refine ⟨_,h,fun fr' σ' K' ha hK => ?_⟩
  have h1 : lo.map (evO fr') = lo.map (evO fr) := vu.opt fun y hy => ha y (by simp [I.ops] at hy ⊢; simp [hy])
  have h2 : hi.map (evO fr') = hi.map (evO fr) := vu.opt fun y hy => ha y (by simp [I.ops] at hy ⊢; simp [hy])
  simp only [evI,ha x (by simp [I.ops]),h1,h2,e,zan9,e2]; exact hK
 case sliceSl sz x lo hi =>
  obtain ⟨a,n,s,e,hs,h⟩ := zcjf h
  obtain ⟨lh,e2,h⟩ := lw h
  refine ⟨_,h,fun fr' σ' K' ha hK => ?_⟩
  have h1 : lo.map (evO fr') = lo.map (evO fr) := vu.opt fun y hy => ha y (by simp [I.ops] at hy ⊢; simp [hy])
  have h2 : hi.map (evO fr') = hi.map (evO fr) := vu.opt fun y hy => ha y (by simp [I.ops] at hy ⊢; simp [hy])
  simp only [evI,ha x (by simp [I.ops]),h1,h2,e,kSl,e2]; exact ⟨hs,hK⟩
 case lenS x =>
  obtain ⟨k',e,h⟩ := zbs1 h
  exact ⟨_,h,fun fr' σ' K' ha hK => by simp only [evI,ha x (by simp [I.ops]),e]; exact hK⟩
 case lenL x =>
  obtain ⟨a,n,s,e,h⟩ := zbh4 h
  exact ⟨_,h,fun fr' σ' K' ha hK => by simp only [evI,ha x (by simp [I.ops]),e]; exact hK⟩
 case min x y =>
  obtain ⟨k,n,e,h⟩ := oq h
  obtain ⟨k2,n2,e2,h⟩ := oq h
  exact ⟨_,h,fun fr' σ' K' ha hK => by simp only [evI,ha x (by simp [I.ops]),ha y (by simp [I.ops]),e,e2]; exact hK⟩
 case max x y =>
  obtain ⟨k,n,e,h⟩ := oq h
  obtain ⟨k2,n2,e2,h⟩ := oq h
  exact ⟨_,h,fun fr' σ' K' ha hK => by simp only [evI,ha x (by simp [I.ops]),ha y (by simp [I.ops]),e,e2]; exact hK⟩
 case mkFunc fn a b =>
  refine ⟨_,h,fun fr' σ' K' ha hK => ?_⟩
  have h1 := vu.map (l := a) fun y hy => ha y (by simp [I.ops,hy])
  have h2 := vu.map (l := b) fun y hy => ha y (by simp [I.ops,hy])
  simp only [evI,h1,h2]; exact hK
 case build zero ps =>
  obtain ⟨cs,e,h⟩ := lw h
  refine ⟨_,h,fun fr' σ' K' ha hK => ?_⟩
  have h1 : (ps.map fun p => (p.1,p.2.1,evO fr' p.2.2)) = ps.map fun p => (p.1,p.2.1,evO fr p.2.2) := zb80 ha
  simp only [evI,h1,e]; exact hK
 case indexAgg len x y =>
  obtain ⟨a,e,h⟩ := zbs0 h
  obtain ⟨k,n,e2,h1,h⟩ := oq h
  exact ⟨_,h,fun fr' σ' K' ha hK => by simp only [evI,ha x (by simp [I.ops]),ha y (by simp [I.ops]),e,e2]; exact ⟨h1,hK⟩⟩
 case indexAggN len sz x y =>
  obtain ⟨a,e,h⟩ := zbs0 h
  obtain ⟨k,n,e2,h1,h⟩ := oq h
  exact ⟨_,h,fun fr' σ' K' ha hK => by simp only [evI,ha x (by simp [I.ops]),ha y (by simp [I.ops]),e,e2]; exact ⟨h1,hK⟩⟩
 case eqF neg ks x y =>
  obtain ⟨a,e,h⟩ := zbs0 h
  obtain ⟨b,e2,h⟩ := zbs0 h
  obtain ⟨c,e3,h⟩ := lw h
  exact ⟨_,h,fun fr' σ' K' ha hK => by simp only [evI,ha x (by simp [I.ops]),ha y (by simp [I.ops]),e,e2,za7x,e3]; exact hK⟩
 case extract x n =>
  obtain ⟨k',e,h1,h⟩ := zbh3 h
  exact ⟨_,h,fun fr' σ' K' ha hK => by simp only [evI,ha x (by simp [I.ops]),e]; exact ⟨h1,hK⟩⟩
theorem zbqf {i : I} (hc : pn i = .R) (h : evI P i K fr σ) : ∃ v,K v σ ∧ ∀ fr' σ' (K' : Value → aj → Prop),vu fr fr' i.ops → σ.le σ' → K' v σ' → evI P i K' fr' σ' := by
 cases i <;> simp [pn] at hc <;> simp only [evI] at h
 case load1 x =>
  obtain ⟨a,e,h⟩ := zbt0 h
  obtain ⟨v,e2,h⟩ := lw h
  exact ⟨_,h,fun fr' σ' K' ha hl hK => by simp only [evI,ha x (by simp [I.ops]),e,j5,hl.load e2]; exact hK⟩
 case loadN n x =>
  obtain ⟨a,e,h⟩ := zbt0 h
  obtain ⟨v,e2,h⟩ := lw h
  exact ⟨_,h,fun fr' σ' K' ha hl hK => by simp only [evI,ha x (by simp [I.ops]),e,j5,hl.row e2]; exact hK⟩
 case toStr x =>
  rcases zb0v h with ⟨n,s',e,h⟩ | ⟨a,n,s',e,h1,h2⟩
  · exact ⟨_,h,fun fr' σ' K' ha hl hK => by simp only [evI,ha x (by simp [I.ops]),e]; exact hK⟩
  · by_cases hn : n = 0
    · exact ⟨_,h1 hn,fun fr' σ' K' ha hl hK => by simp only [evI,ha x (by simp [I.ops]),e]; exact ⟨fun _ => hK,fun h => absurd hn h⟩⟩
    · obtain ⟨bs,e2,h⟩ := lw (h2 hn)
      refine ⟨_,h,fun fr' σ' K' ha hl hK => ?_⟩
      simp only [evI,ha x (by simp [I.ops]),e]
      refine ⟨fun h => absurd h hn,fun _ => ?_⟩
      cases hr : σ.row a.block a.off n with
      | none => rw [hr] at e2; cases e2
      | some vs => rw [hl.row hr]; rw [hr] at e2; rw [e2]; exact hK
theorem zbo4 {i : I} (hc : pn i = .T) (h : za37 P i K fr σ) {fr' : Fr} {K' : Value → aj → Prop} (ha : vu fr fr' i.ops) (hK : ∀ v σ',σ.le σ' → K v σ' → K' v σ') : za37 P i K' fr' σ := by
 cases i <;> simp [pn] at hc <;> simp only [za37,evI] at h ⊢
 case box t n x => rw [ha x (by simp [I.ops])]; exact ⟨h.1,hK _ _ (aj.le_push _ _) h.2⟩
 case buildSl t sz len zs ps =>
  obtain ⟨cs,e,h1,h⟩ := lw h
  rw [zb80 (fr := fr) (fr' := fr') ha,e]
  obtain ⟨md,h⟩ := h
  exact ⟨h1,md,hK _ _ (aj.le_push _ _) h⟩
 case makeSl t b z x y =>
  obtain ⟨k,n,e,h⟩ := oq h
  obtain ⟨k2,n2,e2,h1,h⟩ := oq h
  rw [ha x (by simp [I.ops]),ha y (by simp [I.ops]),e,e2]
  obtain ⟨md,h⟩ := h
  exact ⟨h1,md,hK _ _ (aj.le_push _ _) h⟩
 case toBytes t x =>
  obtain ⟨s,e,h⟩ := zbs1 h
  rw [ha x (by simp [I.ops]),e]
  obtain ⟨md,h⟩ := h
  exact ⟨md,hK _ _ (aj.le_push _ _) h⟩
 case mkMap => exact hK _ _ (aj.le_push _ _) h
 case call f args =>
  rw [vu.map (l := args) fun y hy => ha y (by simp [I.ops,hy])]
  exact h.mono fun v σ' ⟨h1,h2⟩ => ⟨h1,hK _ _ h1 h2⟩
 case callv x args =>
  obtain ⟨f,a,b,e,h⟩ := zbzk h
  rw [vu.map (l := args) fun y hy => ha y (by simp [I.ops,hy]),ha x (by simp [I.ops]),e]
  exact lg.mono h fun v σ' ⟨h1,h2⟩ => ⟨h1,hK _ _ h1 h2⟩
theorem zbo3 {i : I} (hc : pn i = .W) (h : za37 P i K fr σ) {fr' : Fr} {K' : Value → aj → Prop} (ha : vu fr fr' i.ops) (hK : ∀ v σ',K v σ' → K' v σ') : za37 P i K' fr' σ := by
 cases i <;> simp [pn] at hc <;> simp only [za37,evI] at h ⊢
 case store n p x =>
  obtain ⟨a,e,h1,h⟩ := zbt0 h
  obtain ⟨v,e2,h⟩ := lw h
  rw [ha p (by simp [I.ops]),ha x (by simp [I.ops]),e]
  refine ⟨h1,?_⟩
  rw [e2]
  exact hK _ _ h
 case append t sz b s x =>
  rw [ha s (by simp [I.ops]),ha x (by simp [I.ops])]
  refine zbya h (fun h => zbya h (fun h => hK _ _ h) fun _ _ _ h => hK _ _ h) fun a n s h => ⟨fun h0 => zbya (h.1 h0) (fun h => hK _ _ h) fun _ _ _ h => hK _ _ h,fun h0 => ⟨(h.2 h0).1,?_⟩⟩
  obtain ⟨cs,e,h2⟩ := lw (h.2 h0).2
  rw [e]
  exact zcmv h2 hK
 case appendS t s x =>
  rw [ha s (by simp [I.ops]),ha x (by simp [I.ops])]
  obtain ⟨str,e,h1,h2⟩ := zbs1 h
  rw [e]
  exact ⟨fun h0 => zbya (h1 h0) (fun h => hK _ _ h) fun _ _ _ h => hK _ _ h,fun h0 => zcmv (h2 h0) hK⟩
 case mapGet kt x i =>
  obtain ⟨es,h1,h2,h3⟩ := h
  rw [ha x (by simp [I.ops]),ha i (by simp [I.ops])]
  exact ⟨es,h1,fun e he hq => hK _ _ (h2 e he hq),fun hn => hK _ _ (h3 hn)⟩
 case mapSet kt x i v =>
  obtain ⟨es,id,h1,h2,h3,h4⟩ := h
  rw [ha x (by simp [I.ops]),ha i (by simp [I.ops]),ha v (by simp [I.ops])]
  exact ⟨es,id,h1,h2,h3,hK _ _ h4⟩
 case callW f args =>
  rw [vu.map (l := args) fun y hy => ha y (by simp [I.ops,hy])]
  exact h.mono fun v σ' h2 => hK _ _ h2
 case callvW x args =>
  obtain ⟨f,a,b,e,h⟩ := zbzk h
  rw [vu.map (l := args) fun y hy => ha y (by simp [I.ops,hy]),ha x (by simp [I.ops]),e]
  exact lg.mono h fun v σ' h2 => hK _ _ h2
def I.toW : I → I
 | .call f a => .callW f a
 | .callv x a => .callvW x a
 | i => i
theorem zbrx {i : I} : evI P i.toW K fr σ = evI P i K fr σ := by cases i <;> rfl
theorem zbkk {i : I} (hc : pn i ≠ .T) : za37 P i K fr σ = evI P i K fr σ := by
 cases i <;> simp [pn] at hc <;> rfl
theorem zctx {i : I} (h : za37 P i K fr σ) : evI P i K fr σ := by
 cases i <;> first | exact h | skip
 case call f args => exact lg.mono h fun v σ' h => h.2
 case callv x args =>
  obtain ⟨f,a,b,e,h⟩ := zbzk h
  simp only [evI,e]
  exact lg.mono h fun v σ' h => h.2
theorem zcnb {i : I} {K' : Value → aj → Prop} (h : za37 P i K fr σ) (hK : ∀ v σ',K v σ' → K' v σ') : za37 P i K' fr σ := by
 cases hc : pn i with
 | P => rw [zbkk (by rw [hc]; simp)] at h ⊢; obtain ⟨v,h1,h2⟩ := zbry hc h; exact h2 fr σ K' (fun _ _ => rfl) (hK _ _ h1)
 | R => rw [zbkk (by rw [hc]; simp)] at h ⊢; obtain ⟨v,h1,h2⟩ := zbqf hc h; exact h2 fr σ K' (fun _ _ => rfl) (.refl _) (hK _ _ h1)
 | T => exact zbo4 hc h (fun _ _ => rfl) fun v σ' _ h => hK _ _ h
 | W => exact zbo3 hc h (fun _ _ => rfl) hK
end
end Go.Proofs.Ytdcfoaafkppojaa.Sh
