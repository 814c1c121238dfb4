import Derived.Test.YtgkkienmocpnbaaM2
set_option linter.unusedVariables false
set_option linter.unusedSimpArgs false
/- Regions whose order the model draws: what may come in any order, told in one order. -/
namespace Go.Proofs.Ytgkkienmocpnbaa.Sh
open Go Go.RowKit
inductive Cls where
 | P | R | T | W
 deriving DecidableEq
def am:I → Cls
 | .load1 _ | .loadN _ _ | .toStr _ => .R
 | .box _ _ _ | .call _ _ | .callv _ _ | .buildSl _ _ _ _ _ | .makeSl _ _ _ _ _ | .toBytes _ _ | .mkMap => .T
 | .store _ _ _ | .append _ _ _ _ _ | .appendS _ _ _ | .callW _ _ | .callvW _ _ | .mapGet _ _ _ | .mapSet _ _ _ _ => .W
 | _ => .P
def I.ops:I → List Operand
 | .mov x | .box _ _ x | .load1 x | .loadN _ x | .nilchk x | .isNil _ _ x | .un _ x | .conv _ x | .convS x | .fieldAddr _ x | .field1 _ x | .fieldN _ _ x | .lenS x | .lenL x | .extract x _ | .toBytes _ x | .toStr x => [x]
 | .append _ _ _ s x | .appendS _ s x | .makeSl _ _ _ s x | .indexAgg _ s x | .indexAggN _ _ s x | .eqF _ _ s x => [s,x]
 | .build _ ps | .buildSl _ _ _ _ ps => ps.map fun p => p.2.2
 | .mkMap => []
 | .pick a b c => [a,b,c]
 | .mapGet _ x i => [x,i]
 | .mapSet _ x i v => [x,i,v]
 | .store _ a x => [a,x]
 | .bin _ x y | .eqB _ x y | .indexPtr _ _ x y | .indexSl _ x y | .indexStr x y | .min x y | .max x y => [x,y]
 | .sliceStr x lo hi | .sliceSl _ x lo hi => x :: (lo.toList ++ hi.toList)
 | .mkFunc _ a b => a ++ b
 | .call _ a | .callW _ a => a
 | .callv x a | .callvW x a => x :: a
def pm (fr fr':Fr) (l:List Operand):Prop:=∀ x ∈ l,evO fr' x = evO fr x
theorem pm.map {fr fr':Fr} {l:List Operand} (h:pm fr fr' l):l.map (evO fr') = l.map (evO fr):=List.map_congr_left h
theorem pm.opt {fr fr':Fr} {x:Option Operand} (h:pm fr fr' x.toList):x.map (evO fr') = x.map (evO fr):=by
 cases x with
 | none => rfl
 | some x => simp only [Option.map_some]; rw [h x (by simp)]
def cw (P:Program) (i:I) (K:Value → ah → Prop) (fr:Fr) (σ:ah):Prop :=
 match i with
 | .call f args => im P f (args.map (evO fr)) σ fun v σ' => σ.le σ' ∧ K v σ'
 | .callv x args => zbcg (evO fr x) fun f first captured => im P f (first.toList ++ args.map (evO fr) ++ captured.toList) σ fun v σ' => σ.le σ' ∧ K v σ'
 | i => evI P i K fr σ
theorem zbi2 {v:Value} {K:Addr → Prop} (h:a8 v K):∃ a,v = .pointer (some a) ∧ K a:=by unfold a8 at h; split at h <;> first | exact ⟨_,rfl,h⟩ | exact h.elim
theorem ke {v:Value} {K:IntKind → Int → Prop} (h:ao v K):∃ k n,v = .int k n ∧ K k n:=by unfold ao at h; split at h <;> first | exact ⟨_,_,rfl,h⟩ | exact h.elim
theorem zbn3 {v:Value} {K:Bool → Prop} (h:pj v K):∃ b,v = .bool b ∧ K b:=by unfold pj at h; split at h <;> first | exact ⟨_,rfl,h⟩ | exact h.elim
theorem zbh5 {v:Value} {K:ByteArray → Prop} (h:b8 v K):∃ b,v = .string b ∧ K b:=by unfold b8 at h; split at h <;> first | exact ⟨_,rfl,h⟩ | exact h.elim
theorem zb3k {v:Value} {K:Addr → Nat → Nat → Prop} (h:kSl v K):∃ a n s,v = .slice (some a) n s ∧ K a n s:=by unfold kSl at h; split at h <;> first | exact ⟨_,_,_,rfl,h⟩ | exact h.elim
theorem za85 {v:Value} {K:Nat → Prop} (h:zbid v K):∃ a n s,v = .slice a n s ∧ K n:=by unfold zbid at h; split at h <;> first | exact ⟨_,_,_,rfl,h⟩ | exact h.elim
theorem zbh4 {v:Value} {K:Array Value → Prop} (h:dd v K):∃ b,v = .agg b ∧ K b:=by unfold dd at h; split at h <;> first | exact ⟨_,rfl,h⟩ | exact h.elim
theorem za84 {v:Value} {K:Array Value → Prop} (h:zbm2 v K):∃ b,v = .tuple b ∧ K b:=by unfold zbm2 at h; split at h <;> first | exact ⟨_,rfl,h⟩ | exact h.elim
theorem zbnq {v:Value} {K:FuncId → Array Value → Array Value → Prop} (h:zbcg v K):∃ f a b,v = .func (.func f) a b ∧ K f a b:=by unfold zbcg at h; split at h <;> first | exact ⟨_,_,_,rfl,h⟩ | exact h.elim
theorem gx {α:Type} {v:Option α} {K:α → Prop} (h:mq v K):∃ b,v = some b ∧ K b:=by unfold mq at h; split at h <;> first | exact ⟨_,rfl,h⟩ | exact h.elim
theorem za86 {v:Value} {K:Prop} (h:zbm3 v K):K ∧ ∀ K':Prop,K' → zbm3 v K':=by
 unfold zbm3 at *
 split at h <;> first | exact ⟨h,fun _ h => h⟩ | exact h.elim
theorem zbo3 {v:Value} {Kn:Prop} {Ks:Addr → Nat → Nat → Prop} (h:eu v Kn Ks):(∃ n s,v = .slice none n s ∧ Kn) ∨ ∃ a n s,v = .slice (some a) n s ∧ Ks a n s:=by
 unfold eu at h; split at h <;> first | exact .inl ⟨_,_,rfl,h⟩ | exact .inr ⟨_,_,_,rfl,h⟩ | exact h.elim
theorem zbxv {fr fr':Fr} {ps:List (Nat × Nat × Operand)} (h:pm fr fr' (ps.map fun p => p.2.2)):(ps.map fun p => (p.1,p.2.1,evO fr' p.2.2)) = ps.map fun p => (p.1,p.2.1,evO fr p.2.2) :=
 List.map_congr_left fun p hp => by rw [h p.2.2 (List.mem_map.2 ⟨p,hp,rfl⟩)]
theorem zbrg {σ:ah} {t:TypeId} {sz bytes:Nat} {s:Value} {m:Nat} {news:List Value} {K K':Value → ah → Prop} (h:zbah σ t sz bytes s m news K) (hK:∀ v σ',K v σ' → K' v σ'):zbah σ t sz bytes s m news K':=by
 unfold zbah at *
 rcases zbo3 h with ⟨n,s',rfl,h1,h2⟩ | ⟨a,n,s',rfl,h1,h2,h3,h4⟩
 · exact ⟨h1,h2.imp (hK _ _) (hK _ _)⟩
 · refine ⟨h1,h2,h3,h4.imp (fun h4 => ?_) fun h4 => ?_⟩
   · obtain ⟨cs,e,h5,h6⟩:=gx h4
     rw [e]
     exact ⟨h5,hK _ _ h6⟩
   · obtain ⟨cs,e,h5,h6⟩:=gx h4
     rw [e]
     exact ⟨h5,hK _ _ h6⟩
theorem xn {v:Value} {Kn Kn':Prop} {Ks Ks':Addr → Nat → Nat → Prop} (h:eu v Kn Ks) (h1:Kn → Kn') (h2:∀ a n s,Ks a n s → Ks' a n s):eu v Kn' Ks':=by
 rcases zbo3 h with ⟨n,s',rfl,h⟩ | ⟨a,n,s',rfl,h⟩
 · exact h1 h
 · exact h2 _ _ _ h
section
variable {P:Program} {K:Value → ah → Prop} {fr:Fr} {σ:ah}
theorem zbhb {i:I} (hc:am i = .P) (h:evI P i K fr σ):∃ v,K v σ ∧ ∀ fr' σ' (K':Value → ah → Prop),pm fr fr' i.ops → K' v σ' → evI P i K' fr' σ':=by
 cases i <;> simp [am] at hc <;> simp only [evI] at h
 case mov x => exact ⟨_,h,fun fr' σ' K' ha hK => by simp only [evI,ha x (by simp [I.ops])]; exact hK⟩
 case pick c a b =>
  obtain ⟨t,e,h⟩:=zbn3 h
  exact ⟨_,h,fun fr' σ' K' ha hK => by simp only [evI,ha c (by simp [I.ops]),ha a (by simp [I.ops]),ha b (by simp [I.ops]),e]; exact hK⟩
 case nilchk x =>
  obtain ⟨h,e⟩:=za86 h
  exact ⟨_,h,fun fr' σ' K' ha hK => by simp only [evI,ha x (by simp [I.ops])]; exact e _ hK⟩
 case bin op x y =>
  obtain ⟨t,e,h⟩:=gx h
  exact ⟨_,h,fun fr' σ' K' ha hK => by simp only [evI,ha x (by simp [I.ops]),ha y (by simp [I.ops]),e]; exact hK⟩
 case eqB neg x y =>
  obtain ⟨t,e,h⟩:=zbn3 h
  obtain ⟨t2,e2,h⟩:=zbn3 h
  exact ⟨_,h,fun fr' σ' K' ha hK => by simp only [evI,ha x (by simp [I.ops]),ha y (by simp [I.ops]),e,e2]; exact hK⟩
 case isNil k neg x =>
  obtain ⟨t,e,h⟩:=gx h
  exact ⟨_,h,fun fr' σ' K' ha hK => by simp only [evI,ha x (by simp [I.ops]),e]; exact hK⟩
 case un op x =>
  obtain ⟨t,e,h⟩:=gx h
  exact ⟨_,h,fun fr' σ' K' ha hK => by simp only [evI,ha x (by simp [I.ops]),e]; exact hK⟩
 case conv k x =>
  obtain ⟨k',n,e,h⟩:=ke h
  exact ⟨_,h,fun fr' σ' K' ha hK => by simp only [evI,ha x (by simp [I.ops]),e]; exact hK⟩
 case convS x =>
  obtain ⟨k',e,h⟩:=zbh5 h
  exact ⟨_,h,fun fr' σ' K' ha hK => by simp only [evI,ha x (by simp [I.ops]),e]; rw [e] at hK; exact hK⟩
 case fieldAddr off x =>
  obtain ⟨k',e,h⟩:=zbi2 h
  exact ⟨_,h,fun fr' σ' K' ha hK => by simp only [evI,ha x (by simp [I.ops]),e]; exact hK⟩
 case field1 off x =>
  obtain ⟨k',e,h1,h⟩:=zbh4 h
  exact ⟨_,h,fun fr' σ' K' ha hK => by simp only [evI,ha x (by simp [I.ops]),e]; exact ⟨h1,hK⟩⟩
 case fieldN off n x =>
  obtain ⟨k',e,h1,h⟩:=zbh4 h
  exact ⟨_,h,fun fr' σ' K' ha hK => by simp only [evI,ha x (by simp [I.ops]),e]; exact ⟨h1,hK⟩⟩
 case indexPtr len sz x y =>
  obtain ⟨a,e,h⟩:=zbi2 h
  obtain ⟨k,n,e2,h1,h⟩:=ke h
  exact ⟨_,h,fun fr' σ' K' ha hK => by simp only [evI,ha x (by simp [I.ops]),ha y (by simp [I.ops]),e,e2]; exact ⟨h1,hK⟩⟩
 case indexSl sz x y =>
  obtain ⟨a,n,s,e,h⟩:=zb3k h
  obtain ⟨k,n,e2,h1,h⟩:=ke h
  exact ⟨_,h,fun fr' σ' K' ha hK => by simp only [evI,ha x (by simp [I.ops]),ha y (by simp [I.ops]),e,e2]; exact ⟨h1,hK⟩⟩
 case indexStr x y =>
  obtain ⟨a,e,h⟩:=zbh5 h
  obtain ⟨k,n,e2,h1,h⟩:=ke h
  exact ⟨_,h,fun fr' σ' K' ha hK => by simp only [evI,ha x (by simp [I.ops]),ha y (by simp [I.ops]),e,e2]; exact ⟨h1,hK⟩⟩
 case sliceStr x lo hi =>
  obtain ⟨a,e,h⟩:=zbh5 h
  obtain ⟨lh,e2,h⟩:=gx h
  refine ⟨_,h,fun fr' σ' K' ha hK => ?_⟩
  have h1:lo.map (evO fr') = lo.map (evO fr):=pm.opt fun y hy => ha y (by simp [I.ops] at hy ⊢; simp [hy])
  have h2:hi.map (evO fr') = hi.map (evO fr):=pm.opt fun y hy => ha y (by simp [I.ops] at hy ⊢; simp [hy])
  simp only [evI,ha x (by simp [I.ops]),h1,h2,e,b8,e2]; exact hK
 case sliceSl sz x lo hi =>
  obtain ⟨a,n,s,e,hs,h⟩:=zb3k h
  obtain ⟨lh,e2,h⟩:=gx h
  refine ⟨_,h,fun fr' σ' K' ha hK => ?_⟩
  have h1:lo.map (evO fr') = lo.map (evO fr):=pm.opt fun y hy => ha y (by simp [I.ops] at hy ⊢; simp [hy])
  have h2:hi.map (evO fr') = hi.map (evO fr):=pm.opt fun y hy => ha y (by simp [I.ops] at hy ⊢; simp [hy])
  simp only [evI,ha x (by simp [I.ops]),h1,h2,e,kSl,e2]; exact ⟨hs,hK⟩
 case lenS x =>
  obtain ⟨k',e,h⟩:=zbh5 h
  exact ⟨_,h,fun fr' σ' K' ha hK => by simp only [evI,ha x (by simp [I.ops]),e]; exact hK⟩
 case lenL x =>
  obtain ⟨a,n,s,e,h⟩:=za85 h
  exact ⟨_,h,fun fr' σ' K' ha hK => by simp only [evI,ha x (by simp [I.ops]),e]; exact hK⟩
 case min x y =>
  obtain ⟨k,n,e,h⟩:=ke h
  obtain ⟨k2,n2,e2,h⟩:=ke h
  exact ⟨_,h,fun fr' σ' K' ha hK => by simp only [evI,ha x (by simp [I.ops]),ha y (by simp [I.ops]),e,e2]; exact hK⟩
 case max x y =>
  obtain ⟨k,n,e,h⟩:=ke h
  obtain ⟨k2,n2,e2,h⟩:=ke h
  exact ⟨_,h,fun fr' σ' K' ha hK => by simp only [evI,ha x (by simp [I.ops]),ha y (by simp [I.ops]),e,e2]; exact hK⟩
 case mkFunc fn a b =>
  refine ⟨_,h,fun fr' σ' K' ha hK => ?_⟩
  have h1:=pm.map (l:=a) fun y hy => ha y (by simp [I.ops,hy])
  have h2:=pm.map (l:=b) fun y hy => ha y (by simp [I.ops,hy])
  simp only [evI,h1,h2]; exact hK
 case build zero ps =>
  obtain ⟨cs,e,h⟩:=gx h
  refine ⟨_,h,fun fr' σ' K' ha hK => ?_⟩
  have h1:(ps.map fun p => (p.1,p.2.1,evO fr' p.2.2)) = ps.map fun p => (p.1,p.2.1,evO fr p.2.2):=zbxv ha
  simp only [evI,h1,e]; exact hK
 case indexAgg len x y =>
  obtain ⟨a,e,h⟩:=zbh4 h
  obtain ⟨k,n,e2,h1,h⟩:=ke h
  exact ⟨_,h,fun fr' σ' K' ha hK => by simp only [evI,ha x (by simp [I.ops]),ha y (by simp [I.ops]),e,e2]; exact ⟨h1,hK⟩⟩
 case indexAggN len sz x y =>
  obtain ⟨a,e,h⟩:=zbh4 h
  obtain ⟨k,n,e2,h1,h⟩:=ke h
  exact ⟨_,h,fun fr' σ' K' ha hK => by simp only [evI,ha x (by simp [I.ops]),ha y (by simp [I.ops]),e,e2]; exact ⟨h1,hK⟩⟩
 case eqF neg ks x y =>
  obtain ⟨a,e,h⟩:=zbh4 h
  obtain ⟨b,e2,h⟩:=zbh4 h
  obtain ⟨c,e3,h⟩:=gx h
  exact ⟨_,h,fun fr' σ' K' ha hK => by simp only [evI,ha x (by simp [I.ops]),ha y (by simp [I.ops]),e,e2,dd,e3]; exact hK⟩
 case extract x n =>
  obtain ⟨k',e,h1,h⟩:=za84 h
  exact ⟨_,h,fun fr' σ' K' ha hK => by simp only [evI,ha x (by simp [I.ops]),e]; exact ⟨h1,hK⟩⟩
theorem zbf5 {i:I} (hc:am i = .R) (h:evI P i K fr σ):∃ v,K v σ ∧ ∀ fr' σ' (K':Value → ah → Prop),pm fr fr' i.ops → σ.le σ' → K' v σ' → evI P i K' fr' σ':=by
 cases i <;> simp [am] at hc <;> simp only [evI] at h
 case load1 x =>
  obtain ⟨a,e,h⟩:=zbi2 h
  obtain ⟨v,e2,h⟩:=gx h
  exact ⟨_,h,fun fr' σ' K' ha hl hK => by simp only [evI,ha x (by simp [I.ops]),e,a8,hl.load e2]; exact hK⟩
 case loadN n x =>
  obtain ⟨a,e,h⟩:=zbi2 h
  obtain ⟨v,e2,h⟩:=gx h
  exact ⟨_,h,fun fr' σ' K' ha hl hK => by simp only [evI,ha x (by simp [I.ops]),e,a8,hl.row e2]; exact hK⟩
 case toStr x =>
  rcases zbo3 h with ⟨n,s',e,h⟩ | ⟨a,n,s',e,h1,h2⟩
  · exact ⟨_,h,fun fr' σ' K' ha hl hK => by simp only [evI,ha x (by simp [I.ops]),e]; exact hK⟩
  · by_cases hn:n = 0
    · exact ⟨_,h1 hn,fun fr' σ' K' ha hl hK => by simp only [evI,ha x (by simp [I.ops]),e]; exact ⟨fun _ => hK,fun h => absurd hn h⟩⟩
    · obtain ⟨bs,e2,h⟩:=gx (h2 hn)
      refine ⟨_,h,fun fr' σ' K' ha hl hK => ?_⟩
      simp only [evI,ha x (by simp [I.ops]),e]
      refine ⟨fun h => absurd h hn,fun _ => ?_⟩
      cases hr:σ.row a.block a.off n with
      | none => rw [hr] at e2; cases e2
      | some vs => rw [hl.row hr]; rw [hr] at e2; rw [e2]; exact hK
theorem zbe6 {i:I} (hc:am i = .T) (h:cw P i K fr σ) {fr':Fr} {K':Value → ah → Prop} (ha:pm fr fr' i.ops) (hK:∀ v σ',σ.le σ' → K v σ' → K' v σ'):cw P i K' fr' σ:=by
 cases i <;> simp [am] at hc <;> simp only [cw,evI] at h ⊢
 case box t n x => rw [ha x (by simp [I.ops])]; exact ⟨h.1,hK _ _ (ah.le_push _ _) h.2⟩
 case buildSl t sz len zs ps =>
  obtain ⟨cs,e,h1,h⟩:=gx h
  rw [zbxv (fr:=fr) (fr':=fr') ha,e]
  obtain ⟨md,h⟩:=h
  exact ⟨h1,md,hK _ _ (ah.le_push _ _) h⟩
 case makeSl t b z x y =>
  obtain ⟨k,n,e,h⟩:=ke h
  obtain ⟨k2,n2,e2,h1,h⟩:=ke h
  rw [ha x (by simp [I.ops]),ha y (by simp [I.ops]),e,e2]
  obtain ⟨md,h⟩:=h
  exact ⟨h1,md,hK _ _ (ah.le_push _ _) h⟩
 case toBytes t x =>
  obtain ⟨s,e,h⟩:=zbh5 h
  rw [ha x (by simp [I.ops]),e]
  obtain ⟨md,h⟩:=h
  exact ⟨md,hK _ _ (ah.le_push _ _) h⟩
 case mkMap => exact hK _ _ (ah.le_push _ _) h
 case call f args =>
  rw [pm.map (l:=args) fun y hy => ha y (by simp [I.ops,hy])]
  exact h.mono fun v σ' ⟨h1,h2⟩ => ⟨h1,hK _ _ h1 h2⟩
 case callv x args =>
  obtain ⟨f,a,b,e,h⟩:=zbnq h
  rw [pm.map (l:=args) fun y hy => ha y (by simp [I.ops,hy]),ha x (by simp [I.ops]),e]
  exact im.mono h fun v σ' ⟨h1,h2⟩ => ⟨h1,hK _ _ h1 h2⟩
theorem zbe5 {i:I} (hc:am i = .W) (h:cw P i K fr σ) {fr':Fr} {K':Value → ah → Prop} (ha:pm fr fr' i.ops) (hK:∀ v σ',K v σ' → K' v σ'):cw P i K' fr' σ:=by
 cases i <;> simp [am] at hc <;> simp only [cw,evI] at h ⊢
 case store n p x =>
  obtain ⟨a,e,h1,h⟩:=zbi2 h
  obtain ⟨v,e2,h⟩:=gx h
  rw [ha p (by simp [I.ops]),ha x (by simp [I.ops]),e]
  refine ⟨h1,?_⟩
  rw [e2]
  exact hK _ _ h
 case append t sz b s x =>
  rw [ha s (by simp [I.ops]),ha x (by simp [I.ops])]
  refine xn h (fun h => xn h (fun h => hK _ _ h) fun _ _ _ h => hK _ _ h) fun a n s h => ⟨fun h0 => xn (h.1 h0) (fun h => hK _ _ h) fun _ _ _ h => hK _ _ h,fun h0 => ⟨(h.2 h0).1,?_⟩⟩
  obtain ⟨cs,e,h2⟩:=gx (h.2 h0).2
  rw [e]
  exact zbrg h2 hK
 case appendS t s x =>
  rw [ha s (by simp [I.ops]),ha x (by simp [I.ops])]
  obtain ⟨str,e,h1,h2⟩:=zbh5 h
  rw [e]
  exact ⟨fun h0 => xn (h1 h0) (fun h => hK _ _ h) fun _ _ _ h => hK _ _ h,fun h0 => zbrg (h2 h0) hK⟩
 case mapGet kt x i =>
  obtain ⟨es,h1,h2,h3⟩:=h
  rw [ha x (by simp [I.ops]),ha i (by simp [I.ops])]
  exact ⟨es,h1,fun e he hq => hK _ _ (h2 e he hq),fun hn => hK _ _ (h3 hn)⟩
 case mapSet kt x i v =>
  obtain ⟨es,id,h1,h2,h3,h4⟩:=h
  rw [ha x (by simp [I.ops]),ha i (by simp [I.ops]),ha v (by simp [I.ops])]
  exact ⟨es,id,h1,h2,h3,hK _ _ h4⟩
 case callW f args =>
  rw [pm.map (l:=args) fun y hy => ha y (by simp [I.ops,hy])]
  exact h.mono fun v σ' h2 => hK _ _ h2
 case callvW x args =>
  obtain ⟨f,a,b,e,h⟩:=zbnq h
  rw [pm.map (l:=args) fun y hy => ha y (by simp [I.ops,hy]),ha x (by simp [I.ops]),e]
  exact im.mono h fun v σ' h2 => hK _ _ h2
def I.toW:I → I
 | .call f a => .callW f a
 | .callv x a => .callvW x a
 | i => i
theorem zbha {i:I}:evI P i.toW K fr σ = evI P i K fr σ:=by cases i <;> rfl
theorem x8 {i:I} (hc:am i ≠ .T):cw P i K fr σ = evI P i K fr σ:=by
 cases i <;> simp [am] at hc <;> rfl
theorem zceu {i:I} (h:cw P i K fr σ):evI P i K fr σ:=by
 cases i <;> first | exact h | skip
 case call f args => exact im.mono h fun v σ' h => h.2
 case callv x args =>
  obtain ⟨f,a,b,e,h⟩:=zbnq h
  simp only [evI,e]
  exact im.mono h fun v σ' h => h.2
theorem zbrl {i:I} {K':Value → ah → Prop} (h:cw P i K fr σ) (hK:∀ v σ',K v σ' → K' v σ'):cw P i K' fr σ:=by
 cases hc:am i with
 | P => rw [x8 (by rw [hc]; simp)] at h ⊢; obtain ⟨v,h1,h2⟩:=zbhb hc h; exact h2 fr σ K' (fun _ _ => rfl) (hK _ _ h1)
 | R => rw [x8 (by rw [hc]; simp)] at h ⊢; obtain ⟨v,h1,h2⟩:=zbf5 hc h; exact h2 fr σ K' (fun _ _ => rfl) (.refl _) (hK _ _ h1)
 | T => exact zbe6 hc h (fun _ _ => rfl) fun v σ' _ h => hK _ _ h
 | W => exact zbe5 hc h (fun _ _ => rfl) hK
end
end Go.Proofs.Ytgkkienmocpnbaa.Sh
