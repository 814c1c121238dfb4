import Derived.Test.YtdcfoaafkppojaaHBld
set_option linter.unusedVariables false
set_option linter.unusedSimpArgs false
set_option linter.unusedSectionVars false
open Nat (reduceEqDiff reduceAdd reduceMul reduceLT reduceLeDiff reduceSub)
open Int (reduceToNat reduceNe reduceEq reduceNeg reduceLE)
namespace Go.Proofs.Ytdcfoaafkppojaa
open Go Go.RowKit Sh Ic
noncomputable def df (v1 : (List ByteArray)) (v2 : Int) (v0 : ByteArray) (v3 : Int) : Option (LS (ByteArray × Int) (ByteArray)) :=
 if v3 < v2 then
  ixL v1 v3 >>= fun y2 =>
  o5 y2 >>= fun y4 =>
  if v0.size + y4.size ≤ 140737488355328 then
   some (.nx ((v0 ++ y4),(IntKind.i64.wrap (v3 + (1 : Int)))))
  else
   none
 else
 some (.dn v0)
noncomputable def jf (v1 : (List ByteArray)) (v2 : Int) (v0 : ByteArray) (v3 : Int) : Option (ByteArray) := sc (fun st => df v1 v2 st.1 st.2) (v0,v3)
theorem yk (v1 : (List ByteArray)) (v2 : Int) (v0 : ByteArray) (v3 : Int) : jf v1 v2 v0 v3 = df v1 v2 v0 v3 >>= LS.go (fun st => jf v1 v2 st.1 st.2) := gw (fun st => df v1 v2 st.1 st.2) (v0,v3)
def mq (v1 : (List ByteArray)) (v2 : Int) (v0 : ByteArray) (v3 : Int) (r : ByteArray) : Prop := ∀ (τ : TH) (o0 : Nat) (hl : τ.lock ≤ τ.next) (ub0 : Bool) (hub0 : ub0 = true ∨ v0.size = 0) (ha0 : τ.at o0 = some (zaqc o0 ub0 v0)) (hi0 : o0 < τ.next) (hw0 : τ.lock ≤ o0) (Q : TEx → aw) (hQ0 : ∀ (fr : TF) (tk2 : TK) (τ2 : TH),∀ (ubx0 : Bool),(ubx0 = true ∨ r.size = 0) → lkp fr 5 = .ptr o0 0 → tk2.take 0 = [] → τ2.cut τ.next = (τ.put o0 (zaqc o0 ubx0 r)) → Q (.exit 0) fr tk2 τ2) ,tW G (.loop [1,5,12,13,14] pt) Q [(1,.func jq [] []),(5,.ptr o0 0),(12,.sl (List.map TV.str v1)),(13,.int .i64 v2),(14,.int .i64 v3)] [] τ
theorem zaio (v1 : (List ByteArray)) (v2 : Int) (v0 : ByteArray) (v3 : Int) (r : ByteArray) (h : jf v1 v2 v0 v3 = some r) : mq v1 v2 v0 v3 r := by
 refine ff (f := fun st => df v1 v2 st.1 st.2) (P := fun st r => ∀ (v0 : ByteArray) (v3 : Int),(v0,v3) = st → mq v1 v2 v0 v3 r) ?_ h v0 v3 rfl
 clear h r v3 v0
 intro st o h r ih v0 v3 hst τ o0  hl ub0 hub0 ha0 hi0 hw0 Q hQ0
 subst hst
 have h : df v1 v2 v0 v3 = some o := h
 unfold df at h
 refine pa fun LQ hn hr he => ?_
 by_cases c1 : v3 < v2
 · rw [if_pos c1] at h
   obtain ⟨y2,hy2,h⟩ := ob h
   have f3 := dd hy2
   have f3a := (f3.2.2 TV.str).1
   have f3b := (f3.2.2 TV.str).2
   try simp only [CL,MC,reduceToNat] at f3 f3a f3b
   obtain ⟨y4,hy4,h⟩ := ob h
   have k5 := zaby y2 _ hy4
   try simp only [CL,MC,reduceToNat] at k5
   obtain ⟨c6,h⟩ := ifS h
   have k7 := fun (id : Nat) (d : Option Nat) (K : aw) (fr : TF) (tk : TK) (τ : TH) (ha : τ.at id = some (zaqc id ub0 v0)) (hi : id < τ.next) (hw : τ.lock ≤ id) (hl : τ.lock ≤ τ.next) => zaap v0 id ub0 d K fr tk τ ha hi hw hl (by first | exact .inl rfl | assumption) y4 c6
   injection h with h; subst h
   have ih := ih (v0 ++ y4) (IntKind.i64.wrap (v3 + (1 : Int))) rfl
   unfold mq at ih
   simp -implicitDefEqProofs only [pt,td,TT,Ic.t,ci,reduceEqDiff,reduceIte,reduceAdd,reduceLT,reduceCtorEq,reduceToNat,hl,gh,ha0,hi0,hw0,c1,f3.1,f3.2.1,f3a,f3b,k5,c6,k7,CL,LTN]
   rw [hn]
   simp -implicitDefEqProofs only [TT,Ic.t,ci,reduceEqDiff,reduceIte,reduceAdd,reduceLT,reduceCtorEq,reduceToNat,hl,gh,ha0,hi0,hw0,c1,f3.1,f3.2.1,f3a,f3b,k5,c6,k7,CL,LTN]
   exact ih  (τ.put o0 (zaqc o0 true (v0 ++ y4))) o0   (by first | assumption | (simp only [ag,ak]; assumption)) true (by first | exact .inl rfl | assumption) (by simp -implicitDefEqProofs only [TT,Ic.t,ci,reduceEqDiff,reduceIte,reduceAdd,reduceLT,reduceCtorEq,reduceToNat,hl,gh,ha0,hi0,hw0,c1,f3.1,f3.2.1,f3a,f3b,k5,c6,k7,CL,LTN]) (by first | assumption | (simp only [ag,ak]; assumption)) (by first | assumption | (simp only [ag,ak]; assumption)) Q (fun fr tk2 τ2 w0 w0' g0 ht hτ => hQ0 fr tk2 τ2 w0 w0' g0 ht (by first | exact hτ | simpa only [ag,zamq,hl,gh,ha0,hi0,hw0] using hτ))
 rw [if_neg c1] at h
 injection h with h; subst h
 obtain rfl : _ = r := ih
 simp -implicitDefEqProofs only [pt,td,TT,Ic.t,ci,reduceEqDiff,reduceIte,reduceAdd,reduceLT,reduceCtorEq,reduceToNat,hl,gh,ha0,hi0,hw0,he,hr,c1,CL,LTN]
 exact hQ0  _ _ _ ub0 (by first | exact .inl rfl | assumption) (by first | rfl | (simp -implicitDefEqProofs only [TT,Ic.t,ci,reduceEqDiff,reduceIte,reduceAdd,reduceLT,reduceCtorEq,reduceToNat,hl,gh,ha0,hi0,hw0,c1,CL,LTN])) (by first | rfl | (simp -implicitDefEqProofs only [TT,Ic.t,ci,reduceEqDiff,reduceIte,reduceAdd,reduceLT,reduceCtorEq,reduceToNat,hl,gh,ha0,hi0,hw0,c1,CL,LTN])) (by first | exact kc (Nat.le_refl _) | (simp -implicitDefEqProofs only [TT,Ic.t,ci,reduceEqDiff,reduceIte,reduceAdd,reduceLT,reduceCtorEq,reduceToNat,hl,gh,ha0,hi0,hw0,mc ha0,c1,CL,LTN]))
noncomputable def jw (p1 : (List ByteArray)) : Option ByteArray :=
 gu ((p1.length : Nat) : Int) >>= fun y1 =>
 if y1.size ≤ 140737488355328 then
  jf p1 ((p1.length : Nat) : Int) y1 (0 : Int) >>= fun y5 =>
  if y5.size ≤ 140737488355328 then
   some y5
  else
   none
 else
  none
theorem zado (p1 : (List ByteArray)) (r : ByteArray) (h : jw p1 = some r) (τ : TH) (hl : τ.lock ≤ τ.next) : Ru G j9 [.sl (List.map TV.str p1),.func jq [] []] τ (.str r) τ := by
 refine jt fun K hK => ?_
 rw [bx zatc (Nat.le_of_ble_eq_true rfl)]
 unfold jw at h
 obtain ⟨y1,hy1,h⟩ := ob h
 have k2 := ir ((p1.length : Nat) : Int) _ hy1
 try simp only [CL,MC,reduceToNat] at k2
 obtain ⟨c3,h⟩ := ifS h
 have k4 := fun (id : Nat) (d : Option Nat) (K : aw) (fr : TF) (tk : TK) (τ : TH) (ha : τ.at id = some (zaqc id false ⟨#[]⟩)) (hi : id < τ.next) (hw : τ.lock ≤ id) (hl : τ.lock ≤ τ.next) => zab0 id d K fr tk τ ha hi hw hl y1 c3
 obtain ⟨y5,hy5,h⟩ := ob h
 simp -implicitDefEqProofs only [td,TT,Ic.t,ci,reduceEqDiff,reduceIte,reduceAdd,reduceLT,reduceCtorEq,reduceToNat,hl,k2,c3,k4,gh,CL,LTN]
 have Sy5 := zaio p1 ((p1.length : Nat) : Int) y1 (0 : Int) y5 hy5
 unfold mq at Sy5
 refine Sy5 _ τ.next (by first | assumption | omega | (simp only [ag,ap,ak,bb]; omega)) true (by first | exact .inl rfl | exact .inr rfl | assumption) (by simp -implicitDefEqProofs only [TT,Ic.t,ci,reduceEqDiff,reduceIte,reduceAdd,reduceLT,reduceCtorEq,reduceToNat,hl,k2,c3,k4,gh,CL,LTN]) (by first | assumption | omega | (simp only [ag,ap,ak,bb]; omega)) (by first | assumption | omega | (simp only [ag,ap,ak,bb]; omega)) _ ?_
 intro frq6 tkq6 τq6 ubz6_0 huubz6_0 g5q6 htq6 hcq6
 have hcq6 := ga (n := τ.next + 1) hcq6 (by first | omega | (simp only [ag,ap]; omega))
 try simp only [List.take_succ_cons,List.take_zero,List.take_nil,CL] at htq6
 try simp -implicitDefEqProofs only [TT,Ic.t,ci,reduceEqDiff,reduceIte,reduceAdd,reduceLT,reduceCtorEq,reduceToNat,hl,k2,c3,k4,gh,CL,LTN] at hcq6
 obtain ⟨c7,h⟩ := ifS h
 have k8 := fun (id : Nat) (d : Option Nat) (K : aw) (fr : TF) (tk : TK) (τ : TH) (ha : τ.at id = some (zaqc id ubz6_0 y5)) (hi : id < τ.next) (hw : τ.lock ≤ id) (hl : τ.lock ≤ τ.next) => zatx y5 id ubz6_0 d K fr tk τ ha hi hw hl (by first | exact .inl rfl | assumption) c7
 injection h with h; subst h
 simp -implicitDefEqProofs only [td,TT,Ic.t,ci,reduceEqDiff,reduceIte,reduceAdd,reduceLT,reduceCtorEq,reduceToNat,hl,k2,c3,k4,gh,g5q6,htq6,hcq6,c7,k8,CL,LTN]
 exact hK
theorem zadp (p1 : (List ByteArray)) (r : ByteArray) (h : jw p1 = some r) (lk : Bool) (d : Option Nat) (K : aw) (fr : TF) (tk : TK) (τ : TH) (hl : τ.lock ≤ τ.next) : fo G lk j9 [.sl (List.map TV.str p1),.func jq [] []] d K fr tk τ = K (gq fr d (.str r)) tk τ :=
 bn (zado p1 r h τ  hl) (zado p1 r h (τ.locked τ.next)  (Nat.le_refl _) ) (by simp -implicitDefEqProofs only [TT,Ic.t,ci,reduceEqDiff,reduceIte,reduceAdd,reduceLT,reduceCtorEq,reduceToNat,hl,CL,LTN])
noncomputable def r8 (p1 : ac) : Option ByteArray :=
 o5 p1.Account >>= fun y1 =>
 jw p1.Keys >>= fun y3 =>
 if ¬ (9223372036854775807 < ((y1.size + y3.size : Nat) : Int)) then
  some (y1 ++ y3)
 else
  none
theorem zajl (p1 : ac) (r : ByteArray) (h : r8 p1 = some r) (τ : TH) (hl : τ.lock ≤ τ.next) : Ru G lm [.agg [.str p1.Account,.sl (List.map TV.str p1.Keys)]] τ (.str r) τ := by
 refine jt fun K hK => ?_
 rw [bx za0l (Nat.le_of_ble_eq_true rfl)]
 unfold r8 at h
 obtain ⟨y1,hy1,h⟩ := ob h
 have k2 := zaby p1.Account _ hy1
 try simp only [CL,MC,reduceToNat] at k2
 obtain ⟨y3,hy3,h⟩ := ob h
 have k4 := zadp p1.Keys _ hy3
 try simp only [CL,MC,reduceToNat] at k4
 obtain ⟨c5,h⟩ := ifS h
 injection h with h; subst h
 simp -implicitDefEqProofs only [za0w,TT,Ic.t,ci,reduceEqDiff,reduceIte,reduceAdd,reduceLT,reduceCtorEq,reduceToNat,hl,k2,k4,c5,CL,LTN]
 exact hK
theorem zawi (p1 : ac) (r : ByteArray) (h : r8 p1 = some r) (lk : Bool) (d : Option Nat) (K : aw) (fr : TF) (tk : TK) (τ : TH) (hl : τ.lock ≤ τ.next) : fo G lk lm [.agg [.str p1.Account,.sl (List.map TV.str p1.Keys)]] d K fr tk τ = K (gq fr d (.str r)) tk τ :=
 bn (zajl p1 r h τ  hl) (zajl p1 r h (τ.locked τ.next)  (Nat.le_refl _) ) (by simp -implicitDefEqProofs only [TT,Ic.t,ci,reduceEqDiff,reduceIte,reduceAdd,reduceLT,reduceCtorEq,reduceToNat,hl,CL,LTN])
noncomputable def ca (v1 : (List ac)) (v2 : Int) (v0 : ByteArray) (v3 : Int) : Option (LS (ByteArray × Int) (ByteArray)) :=
 if v3 < v2 then
  ixL v1 v3 >>= fun y2 =>
  r8 (⟨y2.Account,y2.Keys⟩ : ac) >>= fun y4 =>
  if v0.size + y4.size ≤ 140737488355328 then
   some (.nx ((v0 ++ y4),(IntKind.i64.wrap (v3 + (1 : Int)))))
  else
   none
 else
 some (.dn v0)
noncomputable def gr (v1 : (List ac)) (v2 : Int) (v0 : ByteArray) (v3 : Int) : Option (ByteArray) := sc (fun st => ca v1 v2 st.1 st.2) (v0,v3)
theorem tm (v1 : (List ac)) (v2 : Int) (v0 : ByteArray) (v3 : Int) : gr v1 v2 v0 v3 = ca v1 v2 v0 v3 >>= LS.go (fun st => gr v1 v2 st.1 st.2) := gw (fun st => ca v1 v2 st.1 st.2) (v0,v3)
def ke (v1 : (List ac)) (v2 : Int) (v0 : ByteArray) (v3 : Int) (r : ByteArray) : Prop := ∀ (τ : TH) (o0 : Nat) (hl : τ.lock ≤ τ.next) (ub0 : Bool) (hub0 : ub0 = true ∨ v0.size = 0) (ha0 : τ.at o0 = some (zaqc o0 ub0 v0)) (hi0 : o0 < τ.next) (hw0 : τ.lock ≤ o0) (Q : TEx → aw) (hQ0 : ∀ (fr : TF) (tk2 : TK) (τ2 : TH),∀ (ubx0 : Bool),(ubx0 = true ∨ r.size = 0) → lkp fr 5 = .ptr o0 0 → tk2.take 0 = [] → τ2.cut τ.next = (τ.put o0 (zaqc o0 ubx0 r)) → Q (.exit 0) fr tk2 τ2) ,tW G (.loop [1,5,12,13,14] mv) Q [(1,.func lm [] []),(5,.ptr o0 0),(12,.sl (List.map ac.tv v1)),(13,.int .i64 v2),(14,.int .i64 v3)] [] τ
theorem zafy (v1 : (List ac)) (v2 : Int) (v0 : ByteArray) (v3 : Int) (r : ByteArray) (h : gr v1 v2 v0 v3 = some r) : ke v1 v2 v0 v3 r := by
 refine ff (f := fun st => ca v1 v2 st.1 st.2) (P := fun st r => ∀ (v0 : ByteArray) (v3 : Int),(v0,v3) = st → ke v1 v2 v0 v3 r) ?_ h v0 v3 rfl
 clear h r v3 v0
 intro st o h r ih v0 v3 hst τ o0  hl ub0 hub0 ha0 hi0 hw0 Q hQ0
 subst hst
 have h : ca v1 v2 v0 v3 = some o := h
 unfold ca at h
 refine pa fun LQ hn hr he => ?_
 by_cases c1 : v3 < v2
 · rw [if_pos c1] at h
   obtain ⟨y2,hy2,h⟩ := ob h
   have f3 := dd hy2
   have f3a := (f3.2.2 ac.tv).1
   have f3b := (f3.2.2 ac.tv).2
   try simp only [CL,MC,reduceToNat] at f3 f3a f3b
   obtain ⟨y4,hy4,h⟩ := ob h
   have k5 := zawi (⟨y2.Account,y2.Keys⟩ : ac) _ hy4
   try simp only [CL,MC,reduceToNat] at k5
   obtain ⟨c6,h⟩ := ifS h
   have k7 := fun (id : Nat) (d : Option Nat) (K : aw) (fr : TF) (tk : TK) (τ : TH) (ha : τ.at id = some (zaqc id ub0 v0)) (hi : id < τ.next) (hw : τ.lock ≤ id) (hl : τ.lock ≤ τ.next) => zaap v0 id ub0 d K fr tk τ ha hi hw hl (by first | exact .inl rfl | assumption) y4 c6
   injection h with h; subst h
   have ih := ih (v0 ++ y4) (IntKind.i64.wrap (v3 + (1 : Int))) rfl
   unfold ke at ih
   simp -implicitDefEqProofs only [mv,o7,TT,Ic.t,ci,reduceEqDiff,reduceIte,reduceAdd,reduceLT,reduceCtorEq,reduceToNat,hl,gh,ha0,hi0,hw0,c1,f3.1,f3.2.1,f3a,f3b,k5,c6,k7,CL,LTN]
   rw [hn]
   simp -implicitDefEqProofs only [TT,Ic.t,ci,reduceEqDiff,reduceIte,reduceAdd,reduceLT,reduceCtorEq,reduceToNat,hl,gh,ha0,hi0,hw0,c1,f3.1,f3.2.1,f3a,f3b,k5,c6,k7,CL,LTN]
   exact ih  (τ.put o0 (zaqc o0 true (v0 ++ y4))) o0   (by first | assumption | (simp only [ag,ak]; assumption)) true (by first | exact .inl rfl | assumption) (by simp -implicitDefEqProofs only [TT,Ic.t,ci,reduceEqDiff,reduceIte,reduceAdd,reduceLT,reduceCtorEq,reduceToNat,hl,gh,ha0,hi0,hw0,c1,f3.1,f3.2.1,f3a,f3b,k5,c6,k7,CL,LTN]) (by first | assumption | (simp only [ag,ak]; assumption)) (by first | assumption | (simp only [ag,ak]; assumption)) Q (fun fr tk2 τ2 w0 w0' g0 ht hτ => hQ0 fr tk2 τ2 w0 w0' g0 ht (by first | exact hτ | simpa only [ag,zamq,hl,gh,ha0,hi0,hw0] using hτ))
 rw [if_neg c1] at h
 injection h with h; subst h
 obtain rfl : _ = r := ih
 simp -implicitDefEqProofs only [mv,o7,TT,Ic.t,ci,reduceEqDiff,reduceIte,reduceAdd,reduceLT,reduceCtorEq,reduceToNat,hl,gh,ha0,hi0,hw0,he,hr,c1,CL,LTN]
 exact hQ0  _ _ _ ub0 (by first | exact .inl rfl | assumption) (by first | rfl | (simp -implicitDefEqProofs only [TT,Ic.t,ci,reduceEqDiff,reduceIte,reduceAdd,reduceLT,reduceCtorEq,reduceToNat,hl,gh,ha0,hi0,hw0,c1,CL,LTN])) (by first | rfl | (simp -implicitDefEqProofs only [TT,Ic.t,ci,reduceEqDiff,reduceIte,reduceAdd,reduceLT,reduceCtorEq,reduceToNat,hl,gh,ha0,hi0,hw0,c1,CL,LTN])) (by first | exact kc (Nat.le_refl _) | (simp -implicitDefEqProofs only [TT,Ic.t,ci,reduceEqDiff,reduceIte,reduceAdd,reduceLT,reduceCtorEq,reduceToNat,hl,gh,ha0,hi0,hw0,mc ha0,c1,CL,LTN]))
noncomputable def jg (p1 : (List ac)) : Option ByteArray :=
 gu ((p1.length : Nat) : Int) >>= fun y1 =>
 if y1.size ≤ 140737488355328 then
  gr p1 ((p1.length : Nat) : Int) y1 (0 : Int) >>= fun y5 =>
  if y5.size ≤ 140737488355328 then
   some y5
  else
   none
 else
  none
theorem z0 (p1 : (List ac)) (r : ByteArray) (h : jg p1 = some r) (τ : TH) (hl : τ.lock ≤ τ.next) : Ru G jp [.sl (List.map ac.tv p1),.func lm [] []] τ (.str r) τ := by
 refine jt fun K hK => ?_
 rw [bx zall (Nat.le_of_ble_eq_true rfl)]
 unfold jg at h
 obtain ⟨y1,hy1,h⟩ := ob h
 have k2 := ir ((p1.length : Nat) : Int) _ hy1
 try simp only [CL,MC,reduceToNat] at k2
 obtain ⟨c3,h⟩ := ifS h
 have k4 := fun (id : Nat) (d : Option Nat) (K : aw) (fr : TF) (tk : TK) (τ : TH) (ha : τ.at id = some (zaqc id false ⟨#[]⟩)) (hi : id < τ.next) (hw : τ.lock ≤ id) (hl : τ.lock ≤ τ.next) => zab0 id d K fr tk τ ha hi hw hl y1 c3
 obtain ⟨y5,hy5,h⟩ := ob h
 simp -implicitDefEqProofs only [o7,TT,Ic.t,ci,reduceEqDiff,reduceIte,reduceAdd,reduceLT,reduceCtorEq,reduceToNat,hl,k2,c3,k4,gh,CL,LTN]
 have Sy5 := zafy p1 ((p1.length : Nat) : Int) y1 (0 : Int) y5 hy5
 unfold ke at Sy5
 refine Sy5 _ τ.next (by first | assumption | omega | (simp only [ag,ap,ak,bb]; omega)) true (by first | exact .inl rfl | exact .inr rfl | assumption) (by simp -implicitDefEqProofs only [TT,Ic.t,ci,reduceEqDiff,reduceIte,reduceAdd,reduceLT,reduceCtorEq,reduceToNat,hl,k2,c3,k4,gh,CL,LTN]) (by first | assumption | omega | (simp only [ag,ap,ak,bb]; omega)) (by first | assumption | omega | (simp only [ag,ap,ak,bb]; omega)) _ ?_
 intro frq6 tkq6 τq6 ubz6_0 huubz6_0 g5q6 htq6 hcq6
 have hcq6 := ga (n := τ.next + 1) hcq6 (by first | omega | (simp only [ag,ap]; omega))
 try simp only [List.take_succ_cons,List.take_zero,List.take_nil,CL] at htq6
 try simp -implicitDefEqProofs only [TT,Ic.t,ci,reduceEqDiff,reduceIte,reduceAdd,reduceLT,reduceCtorEq,reduceToNat,hl,k2,c3,k4,gh,CL,LTN] at hcq6
 obtain ⟨c7,h⟩ := ifS h
 have k8 := fun (id : Nat) (d : Option Nat) (K : aw) (fr : TF) (tk : TK) (τ : TH) (ha : τ.at id = some (zaqc id ubz6_0 y5)) (hi : id < τ.next) (hw : τ.lock ≤ id) (hl : τ.lock ≤ τ.next) => zatx y5 id ubz6_0 d K fr tk τ ha hi hw hl (by first | exact .inl rfl | assumption) c7
 injection h with h; subst h
 simp -implicitDefEqProofs only [o7,TT,Ic.t,ci,reduceEqDiff,reduceIte,reduceAdd,reduceLT,reduceCtorEq,reduceToNat,hl,k2,c3,k4,gh,g5q6,htq6,hcq6,c7,k8,CL,LTN]
 exact hK
theorem zaip (p1 : (List ac)) (r : ByteArray) (h : jg p1 = some r) (lk : Bool) (d : Option Nat) (K : aw) (fr : TF) (tk : TK) (τ : TH) (hl : τ.lock ≤ τ.next) : fo G lk jp [.sl (List.map ac.tv p1),.func lm [] []] d K fr tk τ = K (gq fr d (.str r)) tk τ :=
 bn (z0 p1 r h τ  hl) (z0 p1 r h (τ.locked τ.next)  (Nat.le_refl _) ) (by simp -implicitDefEqProofs only [TT,Ic.t,ci,reduceEqDiff,reduceIte,reduceAdd,reduceLT,reduceCtorEq,reduceToNat,hl,CL,LTN])
noncomputable def r7 (p1 : af) : Option ByteArray :=
 gu p1.From >>= fun y1 =>
 gu p1.To >>= fun y3 =>
 if ¬ (9223372036854775807 < ((y1.size + y3.size : Nat) : Int)) then
  gu p1.Ledger >>= fun y6 =>
  if ¬ (9223372036854775807 < (((y1 ++ y3).size + y6.size : Nat) : Int)) then
   o5 p1.Asset >>= fun y9 =>
   if ¬ (9223372036854775807 < ((((y1 ++ y3) ++ y6).size + y9.size : Nat) : Int)) then
    gu p1.Amount >>= fun y12 =>
    if ¬ (9223372036854775807 < (((((y1 ++ y3) ++ y6) ++ y9).size + y12.size : Nat) : Int)) then
     some ((((y1 ++ y3) ++ y6) ++ y9) ++ y12)
    else
     none
   else
    none
  else
   none
 else
  none
theorem zajk (p1 : af) (r : ByteArray) (h : r7 p1 = some r) (τ : TH) (hl : τ.lock ≤ τ.next) : Ru G li [.agg [.int .i64 p1.From,.int .i64 p1.To,.int .i64 p1.Ledger,.str p1.Asset,.int .i64 p1.Amount]] τ (.str r) τ := by
 refine jt fun K hK => ?_
 rw [bx za0k (Nat.le_of_ble_eq_true rfl)]
 unfold r7 at h
 obtain ⟨y1,hy1,h⟩ := ob h
 have k2 := ir p1.From _ hy1
 try simp only [CL,MC,reduceToNat] at k2
 obtain ⟨y3,hy3,h⟩ := ob h
 have k4 := ir p1.To _ hy3
 try simp only [CL,MC,reduceToNat] at k4
 obtain ⟨c5,h⟩ := ifS h
 obtain ⟨y6,hy6,h⟩ := ob h
 have k7 := ir p1.Ledger _ hy6
 try simp only [CL,MC,reduceToNat] at k7
 obtain ⟨c8,h⟩ := ifS h
 obtain ⟨y9,hy9,h⟩ := ob h
 have k10 := zaby p1.Asset _ hy9
 try simp only [CL,MC,reduceToNat] at k10
 obtain ⟨c11,h⟩ := ifS h
 obtain ⟨y12,hy12,h⟩ := ob h
 have k13 := ir p1.Amount _ hy12
 try simp only [CL,MC,reduceToNat] at k13
 obtain ⟨c14,h⟩ := ifS h
 injection h with h; subst h
 simp -implicitDefEqProofs only [za0v,TT,Ic.t,ci,reduceEqDiff,reduceIte,reduceAdd,reduceLT,reduceCtorEq,reduceToNat,hl,k2,k4,c5,k7,c8,k10,c11,k13,c14,CL,LTN]
 exact hK
theorem zawh (p1 : af) (r : ByteArray) (h : r7 p1 = some r) (lk : Bool) (d : Option Nat) (K : aw) (fr : TF) (tk : TK) (τ : TH) (hl : τ.lock ≤ τ.next) : fo G lk li [.agg [.int .i64 p1.From,.int .i64 p1.To,.int .i64 p1.Ledger,.str p1.Asset,.int .i64 p1.Amount]] d K fr tk τ = K (gq fr d (.str r)) tk τ :=
 bn (zajk p1 r h τ  hl) (zajk p1 r h (τ.locked τ.next)  (Nat.le_refl _) ) (by simp -implicitDefEqProofs only [TT,Ic.t,ci,reduceEqDiff,reduceIte,reduceAdd,reduceLT,reduceCtorEq,reduceToNat,hl,CL,LTN])
noncomputable def da (v1 : (List af)) (v2 : Int) (v0 : ByteArray) (v3 : Int) : Option (LS (ByteArray × Int) (ByteArray)) :=
 if v3 < v2 then
  ixL v1 v3 >>= fun y2 =>
  r7 (⟨y2.From,y2.To,y2.Ledger,y2.Asset,y2.Amount⟩ : af) >>= fun y4 =>
  if v0.size + y4.size ≤ 140737488355328 then
   some (.nx ((v0 ++ y4),(IntKind.i64.wrap (v3 + (1 : Int)))))
  else
   none
 else
 some (.dn v0)
noncomputable def ia (v1 : (List af)) (v2 : Int) (v0 : ByteArray) (v3 : Int) : Option (ByteArray) := sc (fun st => da v1 v2 st.1 st.2) (v0,v3)
theorem vr (v1 : (List af)) (v2 : Int) (v0 : ByteArray) (v3 : Int) : ia v1 v2 v0 v3 = da v1 v2 v0 v3 >>= LS.go (fun st => ia v1 v2 st.1 st.2) := gw (fun st => da v1 v2 st.1 st.2) (v0,v3)
def l9 (v1 : (List af)) (v2 : Int) (v0 : ByteArray) (v3 : Int) (r : ByteArray) : Prop := ∀ (τ : TH) (o0 : Nat) (hl : τ.lock ≤ τ.next) (ub0 : Bool) (hub0 : ub0 = true ∨ v0.size = 0) (ha0 : τ.at o0 = some (zaqc o0 ub0 v0)) (hi0 : o0 < τ.next) (hw0 : τ.lock ≤ o0) (Q : TEx → aw) (hQ0 : ∀ (fr : TF) (tk2 : TK) (τ2 : TH),∀ (ubx0 : Bool),(ubx0 = true ∨ r.size = 0) → lkp fr 5 = .ptr o0 0 → tk2.take 0 = [] → τ2.cut τ.next = (τ.put o0 (zaqc o0 ubx0 r)) → Q (.exit 0) fr tk2 τ2) ,tW G (.loop [1,5,12,13,14] ov) Q [(1,.func li [] []),(5,.ptr o0 0),(12,.sl (List.map af.tv v1)),(13,.int .i64 v2),(14,.int .i64 v3)] [] τ
theorem zag6 (v1 : (List af)) (v2 : Int) (v0 : ByteArray) (v3 : Int) (r : ByteArray) (h : ia v1 v2 v0 v3 = some r) : l9 v1 v2 v0 v3 r := by
 refine ff (f := fun st => da v1 v2 st.1 st.2) (P := fun st r => ∀ (v0 : ByteArray) (v3 : Int),(v0,v3) = st → l9 v1 v2 v0 v3 r) ?_ h v0 v3 rfl
 clear h r v3 v0
 intro st o h r ih v0 v3 hst τ o0  hl ub0 hub0 ha0 hi0 hw0 Q hQ0
 subst hst
 have h : da v1 v2 v0 v3 = some o := h
 unfold da at h
 refine pa fun LQ hn hr he => ?_
 by_cases c1 : v3 < v2
 · rw [if_pos c1] at h
   obtain ⟨y2,hy2,h⟩ := ob h
   have f3 := dd hy2
   have f3a := (f3.2.2 af.tv).1
   have f3b := (f3.2.2 af.tv).2
   try simp only [CL,MC,reduceToNat] at f3 f3a f3b
   obtain ⟨y4,hy4,h⟩ := ob h
   have k5 := zawh (⟨y2.From,y2.To,y2.Ledger,y2.Asset,y2.Amount⟩ : af) _ hy4
   try simp only [CL,MC,reduceToNat] at k5
   obtain ⟨c6,h⟩ := ifS h
   have k7 := fun (id : Nat) (d : Option Nat) (K : aw) (fr : TF) (tk : TK) (τ : TH) (ha : τ.at id = some (zaqc id ub0 v0)) (hi : id < τ.next) (hw : τ.lock ≤ id) (hl : τ.lock ≤ τ.next) => zaap v0 id ub0 d K fr tk τ ha hi hw hl (by first | exact .inl rfl | assumption) y4 c6
   injection h with h; subst h
   have ih := ih (v0 ++ y4) (IntKind.i64.wrap (v3 + (1 : Int))) rfl
   unfold l9 at ih
   simp -implicitDefEqProofs only [ov,rk,TT,Ic.t,ci,reduceEqDiff,reduceIte,reduceAdd,reduceLT,reduceCtorEq,reduceToNat,hl,gh,ha0,hi0,hw0,c1,f3.1,f3.2.1,f3a,f3b,k5,c6,k7,CL,LTN]
   rw [hn]
   simp -implicitDefEqProofs only [TT,Ic.t,ci,reduceEqDiff,reduceIte,reduceAdd,reduceLT,reduceCtorEq,reduceToNat,hl,gh,ha0,hi0,hw0,c1,f3.1,f3.2.1,f3a,f3b,k5,c6,k7,CL,LTN]
   exact ih  (τ.put o0 (zaqc o0 true (v0 ++ y4))) o0   (by first | assumption | (simp only [ag,ak]; assumption)) true (by first | exact .inl rfl | assumption) (by simp -implicitDefEqProofs only [TT,Ic.t,ci,reduceEqDiff,reduceIte,reduceAdd,reduceLT,reduceCtorEq,reduceToNat,hl,gh,ha0,hi0,hw0,c1,f3.1,f3.2.1,f3a,f3b,k5,c6,k7,CL,LTN]) (by first | assumption | (simp only [ag,ak]; assumption)) (by first | assumption | (simp only [ag,ak]; assumption)) Q (fun fr tk2 τ2 w0 w0' g0 ht hτ => hQ0 fr tk2 τ2 w0 w0' g0 ht (by first | exact hτ | simpa only [ag,zamq,hl,gh,ha0,hi0,hw0] using hτ))
 rw [if_neg c1] at h
 injection h with h; subst h
 obtain rfl : _ = r := ih
 simp -implicitDefEqProofs only [ov,rk,TT,Ic.t,ci,reduceEqDiff,reduceIte,reduceAdd,reduceLT,reduceCtorEq,reduceToNat,hl,gh,ha0,hi0,hw0,he,hr,c1,CL,LTN]
 exact hQ0  _ _ _ ub0 (by first | exact .inl rfl | assumption) (by first | rfl | (simp -implicitDefEqProofs only [TT,Ic.t,ci,reduceEqDiff,reduceIte,reduceAdd,reduceLT,reduceCtorEq,reduceToNat,hl,gh,ha0,hi0,hw0,c1,CL,LTN])) (by first | rfl | (simp -implicitDefEqProofs only [TT,Ic.t,ci,reduceEqDiff,reduceIte,reduceAdd,reduceLT,reduceCtorEq,reduceToNat,hl,gh,ha0,hi0,hw0,c1,CL,LTN])) (by first | exact kc (Nat.le_refl _) | (simp -implicitDefEqProofs only [TT,Ic.t,ci,reduceEqDiff,reduceIte,reduceAdd,reduceLT,reduceCtorEq,reduceToNat,hl,gh,ha0,hi0,hw0,mc ha0,c1,CL,LTN]))
noncomputable def kl (p1 : (List af)) : Option ByteArray :=
 gu ((p1.length : Nat) : Int) >>= fun y1 =>
 if y1.size ≤ 140737488355328 then
  ia p1 ((p1.length : Nat) : Int) y1 (0 : Int) >>= fun y5 =>
  if y5.size ≤ 140737488355328 then
   some y5
  else
   none
 else
  none
theorem zab4 (p1 : (List af)) (r : ByteArray) (h : kl p1 = some r) (τ : TH) (hl : τ.lock ≤ τ.next) : Ru G kw [.sl (List.map af.tv p1),.func li [] []] τ (.str r) τ := by
 refine jt fun K hK => ?_
 rw [bx zapo (Nat.le_of_ble_eq_true rfl)]
 unfold kl at h
 obtain ⟨y1,hy1,h⟩ := ob h
 have k2 := ir ((p1.length : Nat) : Int) _ hy1
 try simp only [CL,MC,reduceToNat] at k2
 obtain ⟨c3,h⟩ := ifS h
 have k4 := fun (id : Nat) (d : Option Nat) (K : aw) (fr : TF) (tk : TK) (τ : TH) (ha : τ.at id = some (zaqc id false ⟨#[]⟩)) (hi : id < τ.next) (hw : τ.lock ≤ id) (hl : τ.lock ≤ τ.next) => zab0 id d K fr tk τ ha hi hw hl y1 c3
 obtain ⟨y5,hy5,h⟩ := ob h
 simp -implicitDefEqProofs only [rk,TT,Ic.t,ci,reduceEqDiff,reduceIte,reduceAdd,reduceLT,reduceCtorEq,reduceToNat,hl,k2,c3,k4,gh,CL,LTN]
 have Sy5 := zag6 p1 ((p1.length : Nat) : Int) y1 (0 : Int) y5 hy5
 unfold l9 at Sy5
 refine Sy5 _ τ.next (by first | assumption | omega | (simp only [ag,ap,ak,bb]; omega)) true (by first | exact .inl rfl | exact .inr rfl | assumption) (by simp -implicitDefEqProofs only [TT,Ic.t,ci,reduceEqDiff,reduceIte,reduceAdd,reduceLT,reduceCtorEq,reduceToNat,hl,k2,c3,k4,gh,CL,LTN]) (by first | assumption | omega | (simp only [ag,ap,ak,bb]; omega)) (by first | assumption | omega | (simp only [ag,ap,ak,bb]; omega)) _ ?_
 intro frq6 tkq6 τq6 ubz6_0 huubz6_0 g5q6 htq6 hcq6
 have hcq6 := ga (n := τ.next + 1) hcq6 (by first | omega | (simp only [ag,ap]; omega))
 try simp only [List.take_succ_cons,List.take_zero,List.take_nil,CL] at htq6
 try simp -implicitDefEqProofs only [TT,Ic.t,ci,reduceEqDiff,reduceIte,reduceAdd,reduceLT,reduceCtorEq,reduceToNat,hl,k2,c3,k4,gh,CL,LTN] at hcq6
 obtain ⟨c7,h⟩ := ifS h
 have k8 := fun (id : Nat) (d : Option Nat) (K : aw) (fr : TF) (tk : TK) (τ : TH) (ha : τ.at id = some (zaqc id ubz6_0 y5)) (hi : id < τ.next) (hw : τ.lock ≤ id) (hl : τ.lock ≤ τ.next) => zatx y5 id ubz6_0 d K fr tk τ ha hi hw hl (by first | exact .inl rfl | assumption) c7
 injection h with h; subst h
 simp -implicitDefEqProofs only [rk,TT,Ic.t,ci,reduceEqDiff,reduceIte,reduceAdd,reduceLT,reduceCtorEq,reduceToNat,hl,k2,c3,k4,gh,g5q6,htq6,hcq6,c7,k8,CL,LTN]
 exact hK
theorem zakp (p1 : (List af)) (r : ByteArray) (h : kl p1 = some r) (lk : Bool) (d : Option Nat) (K : aw) (fr : TF) (tk : TK) (τ : TH) (hl : τ.lock ≤ τ.next) : fo G lk kw [.sl (List.map af.tv p1),.func li [] []] d K fr tk τ = K (gq fr d (.str r)) tk τ :=
 bn (zab4 p1 r h τ  hl) (zab4 p1 r h (τ.locked τ.next)  (Nat.le_refl _) ) (by simp -implicitDefEqProofs only [TT,Ic.t,ci,reduceEqDiff,reduceIte,reduceAdd,reduceLT,reduceCtorEq,reduceToNat,hl,CL,LTN])
noncomputable def eg (v1 : (List Int)) (v2 : Int) (v0 : ByteArray) (v3 : Int) : Option (LS (ByteArray × Int) (ByteArray)) :=
 if v3 < v2 then
  ixL v1 v3 >>= fun y2 =>
  gu y2 >>= fun y4 =>
  if v0.size + y4.size ≤ 140737488355328 then
   some (.nx ((v0 ++ y4),(IntKind.i64.wrap (v3 + (1 : Int)))))
  else
   none
 else
 some (.dn v0)
noncomputable def l7 (v1 : (List Int)) (v2 : Int) (v0 : ByteArray) (v3 : Int) : Option (ByteArray) := sc (fun st => eg v1 v2 st.1 st.2) (v0,v3)
theorem zab3 (v1 : (List Int)) (v2 : Int) (v0 : ByteArray) (v3 : Int) : l7 v1 v2 v0 v3 = eg v1 v2 v0 v3 >>= LS.go (fun st => l7 v1 v2 st.1 st.2) := gw (fun st => eg v1 v2 st.1 st.2) (v0,v3)
def pq (v1 : (List Int)) (v2 : Int) (v0 : ByteArray) (v3 : Int) (r : ByteArray) : Prop := ∀ (τ : TH) (o0 : Nat) (hl : τ.lock ≤ τ.next) (ub0 : Bool) (hub0 : ub0 = true ∨ v0.size = 0) (ha0 : τ.at o0 = some (zaqc o0 ub0 v0)) (hi0 : o0 < τ.next) (hw0 : τ.lock ≤ o0) (Q : TEx → aw) (hQ0 : ∀ (fr : TF) (tk2 : TK) (τ2 : TH),∀ (ubx0 : Bool),(ubx0 = true ∨ r.size = 0) → lkp fr 5 = .ptr o0 0 → tk2.take 0 = [] → τ2.cut τ.next = (τ.put o0 (zaqc o0 ubx0 r)) → Q (.exit 0) fr tk2 τ2) ,tW G (.loop [1,5,12,13,14] uk) Q [(1,.func fj [] []),(5,.ptr o0 0),(12,.sl (List.map (TV.int .i64) v1)),(13,.int .i64 v2),(14,.int .i64 v3)] [] τ
theorem zamp (v1 : (List Int)) (v2 : Int) (v0 : ByteArray) (v3 : Int) (r : ByteArray) (h : l7 v1 v2 v0 v3 = some r) : pq v1 v2 v0 v3 r := by
 refine ff (f := fun st => eg v1 v2 st.1 st.2) (P := fun st r => ∀ (v0 : ByteArray) (v3 : Int),(v0,v3) = st → pq v1 v2 v0 v3 r) ?_ h v0 v3 rfl
 clear h r v3 v0
 intro st o h r ih v0 v3 hst τ o0  hl ub0 hub0 ha0 hi0 hw0 Q hQ0
 subst hst
 have h : eg v1 v2 v0 v3 = some o := h
 unfold eg at h
 refine pa fun LQ hn hr he => ?_
 by_cases c1 : v3 < v2
 · rw [if_pos c1] at h
   obtain ⟨y2,hy2,h⟩ := ob h
   have f3 := dd hy2
   have f3a := (f3.2.2 (TV.int .i64)).1
   have f3b := (f3.2.2 (TV.int .i64)).2
   try simp only [CL,MC,reduceToNat] at f3 f3a f3b
   obtain ⟨y4,hy4,h⟩ := ob h
   have k5 := ir y2 _ hy4
   try simp only [CL,MC,reduceToNat] at k5
   obtain ⟨c6,h⟩ := ifS h
   have k7 := fun (id : Nat) (d : Option Nat) (K : aw) (fr : TF) (tk : TK) (τ : TH) (ha : τ.at id = some (zaqc id ub0 v0)) (hi : id < τ.next) (hw : τ.lock ≤ id) (hl : τ.lock ≤ τ.next) => zaap v0 id ub0 d K fr tk τ ha hi hw hl (by first | exact .inl rfl | assumption) y4 c6
   injection h with h; subst h
   have ih := ih (v0 ++ y4) (IntKind.i64.wrap (v3 + (1 : Int))) rfl
   unfold pq at ih
   simp -implicitDefEqProofs only [uk,zaaq,TT,Ic.t,ci,reduceEqDiff,reduceIte,reduceAdd,reduceLT,reduceCtorEq,reduceToNat,hl,gh,ha0,hi0,hw0,c1,f3.1,f3.2.1,f3a,f3b,k5,c6,k7,CL,LTN]
   rw [hn]
   simp -implicitDefEqProofs only [TT,Ic.t,ci,reduceEqDiff,reduceIte,reduceAdd,reduceLT,reduceCtorEq,reduceToNat,hl,gh,ha0,hi0,hw0,c1,f3.1,f3.2.1,f3a,f3b,k5,c6,k7,CL,LTN]
   exact ih  (τ.put o0 (zaqc o0 true (v0 ++ y4))) o0   (by first | assumption | (simp only [ag,ak]; assumption)) true (by first | exact .inl rfl | assumption) (by simp -implicitDefEqProofs only [TT,Ic.t,ci,reduceEqDiff,reduceIte,reduceAdd,reduceLT,reduceCtorEq,reduceToNat,hl,gh,ha0,hi0,hw0,c1,f3.1,f3.2.1,f3a,f3b,k5,c6,k7,CL,LTN]) (by first | assumption | (simp only [ag,ak]; assumption)) (by first | assumption | (simp only [ag,ak]; assumption)) Q (fun fr tk2 τ2 w0 w0' g0 ht hτ => hQ0 fr tk2 τ2 w0 w0' g0 ht (by first | exact hτ | simpa only [ag,zamq,hl,gh,ha0,hi0,hw0] using hτ))
 rw [if_neg c1] at h
 injection h with h; subst h
 obtain rfl : _ = r := ih
 simp -implicitDefEqProofs only [uk,zaaq,TT,Ic.t,ci,reduceEqDiff,reduceIte,reduceAdd,reduceLT,reduceCtorEq,reduceToNat,hl,gh,ha0,hi0,hw0,he,hr,c1,CL,LTN]
 exact hQ0  _ _ _ ub0 (by first | exact .inl rfl | assumption) (by first | rfl | (simp -implicitDefEqProofs only [TT,Ic.t,ci,reduceEqDiff,reduceIte,reduceAdd,reduceLT,reduceCtorEq,reduceToNat,hl,gh,ha0,hi0,hw0,c1,CL,LTN])) (by first | rfl | (simp -implicitDefEqProofs only [TT,Ic.t,ci,reduceEqDiff,reduceIte,reduceAdd,reduceLT,reduceCtorEq,reduceToNat,hl,gh,ha0,hi0,hw0,c1,CL,LTN])) (by first | exact kc (Nat.le_refl _) | (simp -implicitDefEqProofs only [TT,Ic.t,ci,reduceEqDiff,reduceIte,reduceAdd,reduceLT,reduceCtorEq,reduceToNat,hl,gh,ha0,hi0,hw0,mc ha0,c1,CL,LTN]))
noncomputable def pz (p1 : (List Int)) : Option ByteArray :=
 gu ((p1.length : Nat) : Int) >>= fun y1 =>
 if y1.size ≤ 140737488355328 then
  l7 p1 ((p1.length : Nat) : Int) y1 (0 : Int) >>= fun y5 =>
  if y5.size ≤ 140737488355328 then
   some y5
  else
   none
 else
  none
theorem zag5 (p1 : (List Int)) (r : ByteArray) (h : pz p1 = some r) (τ : TH) (hl : τ.lock ≤ τ.next) : Ru G qj [.sl (List.map (TV.int .i64) p1),.func fj [] []] τ (.str r) τ := by
 refine jt fun K hK => ?_
 rw [bx zaza (Nat.le_of_ble_eq_true rfl)]
 unfold pz at h
 obtain ⟨y1,hy1,h⟩ := ob h
 have k2 := ir ((p1.length : Nat) : Int) _ hy1
 try simp only [CL,MC,reduceToNat] at k2
 obtain ⟨c3,h⟩ := ifS h
 have k4 := fun (id : Nat) (d : Option Nat) (K : aw) (fr : TF) (tk : TK) (τ : TH) (ha : τ.at id = some (zaqc id false ⟨#[]⟩)) (hi : id < τ.next) (hw : τ.lock ≤ id) (hl : τ.lock ≤ τ.next) => zab0 id d K fr tk τ ha hi hw hl y1 c3
 obtain ⟨y5,hy5,h⟩ := ob h
 simp -implicitDefEqProofs only [zaaq,TT,Ic.t,ci,reduceEqDiff,reduceIte,reduceAdd,reduceLT,reduceCtorEq,reduceToNat,hl,k2,c3,k4,gh,CL,LTN]
 have Sy5 := zamp p1 ((p1.length : Nat) : Int) y1 (0 : Int) y5 hy5
 unfold pq at Sy5
 refine Sy5 _ τ.next (by first | assumption | omega | (simp only [ag,ap,ak,bb]; omega)) true (by first | exact .inl rfl | exact .inr rfl | assumption) (by simp -implicitDefEqProofs only [TT,Ic.t,ci,reduceEqDiff,reduceIte,reduceAdd,reduceLT,reduceCtorEq,reduceToNat,hl,k2,c3,k4,gh,CL,LTN]) (by first | assumption | omega | (simp only [ag,ap,ak,bb]; omega)) (by first | assumption | omega | (simp only [ag,ap,ak,bb]; omega)) _ ?_
 intro frq6 tkq6 τq6 ubz6_0 huubz6_0 g5q6 htq6 hcq6
 have hcq6 := ga (n := τ.next + 1) hcq6 (by first | omega | (simp only [ag,ap]; omega))
 try simp only [List.take_succ_cons,List.take_zero,List.take_nil,CL] at htq6
 try simp -implicitDefEqProofs only [TT,Ic.t,ci,reduceEqDiff,reduceIte,reduceAdd,reduceLT,reduceCtorEq,reduceToNat,hl,k2,c3,k4,gh,CL,LTN] at hcq6
 obtain ⟨c7,h⟩ := ifS h
 have k8 := fun (id : Nat) (d : Option Nat) (K : aw) (fr : TF) (tk : TK) (τ : TH) (ha : τ.at id = some (zaqc id ubz6_0 y5)) (hi : id < τ.next) (hw : τ.lock ≤ id) (hl : τ.lock ≤ τ.next) => zatx y5 id ubz6_0 d K fr tk τ ha hi hw hl (by first | exact .inl rfl | assumption) c7
 injection h with h; subst h
 simp -implicitDefEqProofs only [zaaq,TT,Ic.t,ci,reduceEqDiff,reduceIte,reduceAdd,reduceLT,reduceCtorEq,reduceToNat,hl,k2,c3,k4,gh,g5q6,htq6,hcq6,c7,k8,CL,LTN]
 exact hK
theorem zaud (p1 : (List Int)) (r : ByteArray) (h : pz p1 = some r) (lk : Bool) (d : Option Nat) (K : aw) (fr : TF) (tk : TK) (τ : TH) (hl : τ.lock ≤ τ.next) : fo G lk qj [.sl (List.map (TV.int .i64) p1),.func fj [] []] d K fr tk τ = K (gq fr d (.str r)) tk τ :=
 bn (zag5 p1 r h τ  hl) (zag5 p1 r h (τ.locked τ.next)  (Nat.le_refl _) ) (by simp -implicitDefEqProofs only [TT,Ic.t,ci,reduceEqDiff,reduceIte,reduceAdd,reduceLT,reduceCtorEq,reduceToNat,hl,CL,LTN])
noncomputable def tp (p1 : aq) : Option ByteArray :=
 lx p1 >>= fun y1 =>
 if y1 = true then
  o5 p1.ID >>= fun y4 =>
  jg p1.Parties >>= fun y6 =>
  if ¬ (9223372036854775807 < ((y4.size + y6.size : Nat) : Int)) then
   kl p1.Arcs >>= fun y9 =>
   if ¬ (9223372036854775807 < (((y4 ++ y6).size + y9.size : Nat) : Int)) then
    pz p1.Leaders >>= fun y12 =>
    if ¬ (9223372036854775807 < ((((y4 ++ y6) ++ y9).size + y12.size : Nat) : Int)) then
     jw p1.Locks >>= fun y15 =>
     if ¬ (9223372036854775807 < (((((y4 ++ y6) ++ y9) ++ y12).size + y15.size : Nat) : Int)) then
      gu p1.Start >>= fun y18 =>
      if ¬ (9223372036854775807 < ((((((y4 ++ y6) ++ y9) ++ y12) ++ y15).size + y18.size : Nat) : Int)) then
       gu p1.Delta >>= fun y21 =>
       if ¬ (9223372036854775807 < (((((((y4 ++ y6) ++ y9) ++ y12) ++ y15) ++ y18).size + y21.size : Nat) : Int)) then
        some ((((((y4 ++ y6) ++ y9) ++ y12) ++ y15) ++ y18) ++ y21)
       else
        none
      else
       none
     else
      none
    else
     none
   else
    none
  else
   none
 else
 some (⟨#[]⟩ : ByteArray)
theorem zam5 (p1 : aq) (r : ByteArray) (h : tp p1 = some r) (τ : TH) (hl : τ.lock ≤ τ.next) : Ru G ra [.agg [.str p1.ID,.sl (List.map ac.tv p1.Parties),.sl (List.map af.tv p1.Arcs),.sl (List.map (TV.int .i64) p1.Leaders),.sl (List.map TV.str p1.Locks),.int .i64 p1.Start,.int .i64 p1.Delta]] τ (.str r) τ := by
 refine jt fun K hK => ?_
 rw [bx za75 (Nat.le_of_ble_eq_true rfl)]
 unfold tp at h
 obtain ⟨y1,hy1,h⟩ := ob h
 have k2 := zabw p1 _ hy1
 try simp only [CL,MC,reduceToNat] at k2
 by_cases c3 : y1 = true
 · rw [if_pos c3] at h
   obtain ⟨y4,hy4,h⟩ := ob h
   have k5 := zaby p1.ID _ hy4
   try simp only [CL,MC,reduceToNat] at k5
   obtain ⟨y6,hy6,h⟩ := ob h
   have k7 := zaip p1.Parties _ hy6
   try simp only [CL,MC,reduceToNat] at k7
   obtain ⟨c8,h⟩ := ifS h
   obtain ⟨y9,hy9,h⟩ := ob h
   have k10 := zakp p1.Arcs _ hy9
   try simp only [CL,MC,reduceToNat] at k10
   obtain ⟨c11,h⟩ := ifS h
   obtain ⟨y12,hy12,h⟩ := ob h
   have k13 := zaud p1.Leaders _ hy12
   try simp only [CL,MC,reduceToNat] at k13
   obtain ⟨c14,h⟩ := ifS h
   obtain ⟨y15,hy15,h⟩ := ob h
   have k16 := zadp p1.Locks _ hy15
   try simp only [CL,MC,reduceToNat] at k16
   obtain ⟨c17,h⟩ := ifS h
   obtain ⟨y18,hy18,h⟩ := ob h
   have k19 := ir p1.Start _ hy18
   try simp only [CL,MC,reduceToNat] at k19
   obtain ⟨c20,h⟩ := ifS h
   obtain ⟨y21,hy21,h⟩ := ob h
   have k22 := ir p1.Delta _ hy21
   try simp only [CL,MC,reduceToNat] at k22
   obtain ⟨c23,h⟩ := ifS h
   injection h with h; subst h
   simp -implicitDefEqProofs only [zav8,TT,Ic.t,ci,reduceEqDiff,reduceIte,reduceAdd,reduceLT,reduceCtorEq,reduceToNat,hl,k2,c3,k5,k7,c8,k10,c11,k13,c14,k16,c17,k19,c20,k22,c23,CL,LTN]
   first | exact hK | (simp only [hl,k2,c3,k5,k7,c8,k10,c11,k13,c14,k16,c17,k19,c20,k22,c23,CL] at hK; exact hK)
 rw [if_neg c3] at h
 have c3 := Bool.eq_false_iff.2 c3
 injection h with h; subst h
 simp -implicitDefEqProofs only [zav8,TT,Ic.t,ci,reduceEqDiff,reduceIte,reduceAdd,reduceLT,reduceCtorEq,reduceToNat,hl,k2,c3,CL,LTN]
 first | exact hK | (simp only [hl,k2,c3,CL] at hK; exact hK)
theorem zam6 (p1 : aq) (r : ByteArray) (h : tp p1 = some r) (lk : Bool) (d : Option Nat) (K : aw) (fr : TF) (tk : TK) (τ : TH) (hl : τ.lock ≤ τ.next) : fo G lk ra [.agg [.str p1.ID,.sl (List.map ac.tv p1.Parties),.sl (List.map af.tv p1.Arcs),.sl (List.map (TV.int .i64) p1.Leaders),.sl (List.map TV.str p1.Locks),.int .i64 p1.Start,.int .i64 p1.Delta]] d K fr tk τ = K (gq fr d (.str r)) tk τ :=
 bn (zam5 p1 r h τ  hl) (zam5 p1 r h (τ.locked τ.next)  (Nat.le_refl _) ) (by simp -implicitDefEqProofs only [TT,Ic.t,ci,reduceEqDiff,reduceIte,reduceAdd,reduceLT,reduceCtorEq,reduceToNat,hl,CL,LTN])
noncomputable def zafq (p1 : ByteArray) : Option aa :=
 some (⟨p1,false⟩ : aa)
theorem za4k (p1 : ByteArray) (r : aa) (h : zafq p1 = some r) (τ : TH) (hl : τ.lock ≤ τ.next) : Ru G zabq [.str p1] τ (.ptr τ.next 0) (τ.push ⟨ah,[.str r.s_,.bool r.bad_]⟩) := by
 refine jt fun K hK => ?_
 rw [bx zbbi (Nat.le_of_ble_eq_true rfl)]
 unfold zafq at h
 injection h with h; subst h
 simp -implicitDefEqProofs only [zbcf,TT,Ic.t,ci,reduceEqDiff,reduceIte,reduceAdd,reduceMul,reduceLT,reduceLeDiff,reduceSub,reduceCtorEq,reduceEq,reduceNe,reduceToNat,Int.reduceLT,reduceLE,reduceNeg,hl,CL,LTN]
 exact hK
theorem za4l (p1 : ByteArray) (r : aa) (h : zafq p1 = some r) (d : Option Nat) (K : aw) (fr : TF) (tk : TK) (τ : TH) (hl : τ.lock ≤ τ.next) : fo G false zabq [.str p1] d K fr tk τ = K (gq fr d (.ptr τ.next 0)) tk (τ.push ⟨ah,[.str r.s_,.bool r.bad_]⟩) :=
 nv (za4k p1 r h τ  hl) (by simp -implicitDefEqProofs only [TT,Ic.t,ci,reduceEqDiff,reduceIte,reduceAdd,reduceLT,reduceCtorEq,reduceToNat,hl,CL,LTN])
noncomputable def gb (p1 : aa) : Option aa :=
 some (⟨(⟨#[]⟩ : ByteArray),true⟩ : aa)
theorem zal1 (p1 : aa) (r : aa) (h : gb p1 = some r) (τ : TH) (o0 : Nat) (hl : τ.lock ≤ τ.next) (ha0 : τ.at o0 = some ⟨ah,[.str p1.s_,.bool p1.bad_]⟩) (hi0 : o0 < τ.next) (hw0 : τ.lock ≤ o0) : Ru G je [.ptr o0 0] τ (.tup []) (τ.put o0 ⟨ah,[.str r.s_,.bool r.bad_]⟩) := by
 refine jt fun K hK => ?_
 rw [bx zapr (Nat.le_of_ble_eq_true rfl)]
 unfold gb at h
 injection h with h; subst h
 simp -implicitDefEqProofs only [zaqe,TT,Ic.t,ci,reduceEqDiff,reduceIte,reduceAdd,reduceMul,reduceLT,reduceLeDiff,reduceSub,reduceCtorEq,reduceEq,reduceNe,reduceToNat,Int.reduceLT,reduceLE,reduceNeg,hl,ha0,hi0,hw0,CL,LTN]
 exact hK
theorem l5 (p1 : aa) (r : aa) (h : gb p1 = some r) (d : Option Nat) (K : aw) (fr : TF) (tk : TK) (τ : TH) (o0 : Nat) (hl : τ.lock ≤ τ.next) (ha0 : τ.at o0 = some ⟨ah,[.str p1.s_,.bool p1.bad_]⟩) (hi0 : o0 < τ.next) (hw0 : τ.lock ≤ o0) : fo G false je [.ptr o0 0] d K fr tk τ = K (gq fr d (.tup [])) tk (τ.put o0 ⟨ah,[.str r.s_,.bool r.bad_]⟩) :=
 nv (zal1 p1 r h τ o0 hl ha0 hi0 hw0) (by simp -implicitDefEqProofs only [TT,Ic.t,ci,reduceEqDiff,reduceIte,reduceAdd,reduceLT,reduceCtorEq,reduceToNat,hl,ha0,hi0,hw0,CL,LTN])
noncomputable def iy (p1 : aa) (p2 : Int) : Option (ByteArray × aa) :=
 if p1.bad_ = true then
  gb p1 >>= fun y2 =>
  some ((⟨#[]⟩ : ByteArray),y2)
 else
 if p2 < (0 : Int) then
  gb p1 >>= fun y5 =>
  some ((⟨#[]⟩ : ByteArray),y5)
 else
 if ((p1.s_.size : Nat) : Int) < p2 then
  gb p1 >>= fun y8 =>
  some ((⟨#[]⟩ : ByteArray),y8)
 else
 if 0 ≤ p2 ∧ p2 ≤ (p1.s_.size : Int) then
  some ((p1.s_.extract 0 p2.toNat),(⟨(p1.s_.extract p2.toNat p1.s_.size),p1.bad_⟩ : aa))
 else
  none
theorem zal0 (p1 : aa) (p2 : Int) (r : ByteArray × aa) (h : iy p1 p2 = some r) (τ : TH) (o0 : Nat) (hl : τ.lock ≤ τ.next) (ha0 : τ.at o0 = some ⟨ah,[.str p1.s_,.bool p1.bad_]⟩) (hi0 : o0 < τ.next) (hw0 : τ.lock ≤ o0) : Ru G jd [.ptr o0 0,.int .i64 p2] τ (.str r.1) (τ.put o0 ⟨ah,[.str r.2.s_,.bool r.2.bad_]⟩) := by
 refine jt fun K hK => ?_
 rw [bx zapq (Nat.le_of_ble_eq_true rfl)]
 unfold iy at h
 by_cases c1 : p1.bad_ = true
 · rw [if_pos c1] at h
   obtain ⟨y2,hy2,h⟩ := ob h
   have k3 := l5 p1 _ hy2
   try simp only [CL,MC,reduceToNat] at k3
   injection h with h; subst h
   simp -implicitDefEqProofs only [rn,TT,Ic.t,ci,reduceEqDiff,reduceIte,reduceAdd,reduceMul,reduceLT,reduceLeDiff,reduceSub,reduceCtorEq,reduceEq,reduceNe,reduceToNat,Int.reduceLT,reduceLE,reduceNeg,hl,ha0,hi0,hw0,c1,k3,CL,LTN]
   first | exact hK | (simp only [hl,ha0,hi0,hw0,c1,k3,CL] at hK; exact hK)
 rw [if_neg c1] at h
 have c1 := Bool.eq_false_iff.2 c1
 by_cases c4 : p2 < (0 : Int)
 · rw [if_pos c4] at h
   obtain ⟨y5,hy5,h⟩ := ob h
   have k6 := l5 p1 _ hy5
   try simp only [CL,MC,reduceToNat] at k6
   injection h with h; subst h
   simp -implicitDefEqProofs only [rn,TT,Ic.t,ci,reduceEqDiff,reduceIte,reduceAdd,reduceMul,reduceLT,reduceLeDiff,reduceSub,reduceCtorEq,reduceEq,reduceNe,reduceToNat,Int.reduceLT,reduceLE,reduceNeg,hl,ha0,hi0,hw0,c1,c4,k6,CL,LTN]
   first | exact hK | (simp only [hl,ha0,hi0,hw0,c1,c4,k6,CL] at hK; exact hK)
 rw [if_neg c4] at h
 by_cases c7 : ((p1.s_.size : Nat) : Int) < p2
 · rw [if_pos c7] at h
   obtain ⟨y8,hy8,h⟩ := ob h
   have k9 := l5 p1 _ hy8
   try simp only [CL,MC,reduceToNat] at k9
   injection h with h; subst h
   simp -implicitDefEqProofs only [rn,TT,Ic.t,ci,reduceEqDiff,reduceIte,reduceAdd,reduceMul,reduceLT,reduceLeDiff,reduceSub,reduceCtorEq,reduceEq,reduceNe,reduceToNat,Int.reduceLT,reduceLE,reduceNeg,hl,ha0,hi0,hw0,c1,c4,c7,k9,CL,LTN]
   first | exact hK | (simp only [hl,ha0,hi0,hw0,c1,c4,c7,k9,CL] at hK; exact hK)
 rw [if_neg c7] at h
 obtain ⟨c10,h⟩ := ifS h
 injection h with h; subst h
 simp -implicitDefEqProofs only [rn,TT,Ic.t,ci,reduceEqDiff,reduceIte,reduceAdd,reduceMul,reduceLT,reduceLeDiff,reduceSub,reduceCtorEq,reduceEq,reduceNe,reduceToNat,Int.reduceLT,reduceLE,reduceNeg,hl,ha0,hi0,hw0,c1,c4,c7,c10,CL,LTN]
 first | exact hK | (simp only [hl,ha0,hi0,hw0,c1,c4,c7,c10,CL] at hK; exact hK)
theorem zac6 (p1 : aa) (p2 : Int) (r : ByteArray × aa) (h : iy p1 p2 = some r) (d : Option Nat) (K : aw) (fr : TF) (tk : TK) (τ : TH) (o0 : Nat) (hl : τ.lock ≤ τ.next) (ha0 : τ.at o0 = some ⟨ah,[.str p1.s_,.bool p1.bad_]⟩) (hi0 : o0 < τ.next) (hw0 : τ.lock ≤ o0) : fo G false jd [.ptr o0 0,.int .i64 p2] d K fr tk τ = K (gq fr d (.str r.1)) tk (τ.put o0 ⟨ah,[.str r.2.s_,.bool r.2.bad_]⟩) :=
 nv (zal0 p1 p2 r h τ o0 hl ha0 hi0 hw0) (by simp -implicitDefEqProofs only [TT,Ic.t,ci,reduceEqDiff,reduceIte,reduceAdd,reduceLT,reduceCtorEq,reduceToNat,hl,ha0,hi0,hw0,CL,LTN])
noncomputable def dg (v1 : (List Int)) (v2 : Int) (v0 : Int) (v3 : Int) : Option (LS (Int × Int) (Int)) :=
 if v3 < v2 then
  ixL v1 v3 >>= fun y2 =>
  some (IntKind.i64.wrap ((BitVec.ofInt IntKind.i64.bits (IntKind.i64.wrap (v0 * 2 ^ (Nat.min 8 IntKind.i64.bits))) ||| BitVec.ofInt IntKind.i64.bits (IntKind.i64.wrap y2)).toNat : Int)) >>= fun x4 =>
  some (.nx (x4,(IntKind.i64.wrap (v3 + (1 : Int)))))
 else
 some (.dn v0)
noncomputable def jj (v1 : (List Int)) (v2 : Int) (v0 : Int) (v3 : Int) : Option (Int) := sc (fun st => dg v1 v2 st.1 st.2) (v0,v3)
theorem zk (v1 : (List Int)) (v2 : Int) (v0 : Int) (v3 : Int) : jj v1 v2 v0 v3 = dg v1 v2 v0 v3 >>= LS.go (fun st => jj v1 v2 st.1 st.2) := gw (fun st => dg v1 v2 st.1 st.2) (v0,v3)
def mw (v1 : (List Int)) (v2 : Int) (v0 : Int) (v3 : Int) (r : Int) : Prop := ∀ (τ : TH) (hl : τ.lock ≤ τ.next) (Q : TEx → aw) (hQ0 : ∀ (fr : TF) (tk2 : TK) (τ2 : TH),lkp fr 3 = .int .i64 r → tk2.take 0 = [] → τ2.cut τ.next = τ → Q (.exit 0) fr tk2 τ2) ,tW G (.loop [3,8,9,10] pu) Q [(3,.int .i64 v0),(8,.sl (List.map (TV.int .u8) v1)),(9,.int .i64 v2),(10,.int .i64 v3)] [] τ
theorem zaja (v1 : (List Int)) (v2 : Int) (v0 : Int) (v3 : Int) (r : Int) (h : jj v1 v2 v0 v3 = some r) : mw v1 v2 v0 v3 r := by
 refine ff (f := fun st => dg v1 v2 st.1 st.2) (P := fun st r => ∀ (v0 : Int) (v3 : Int),(v0,v3) = st → mw v1 v2 v0 v3 r) ?_ h v0 v3 rfl
 clear h r v3 v0
 intro st o h r ih v0 v3 hst τ  hl Q hQ0
 subst hst
 have h : dg v1 v2 v0 v3 = some o := h
 unfold dg at h
 refine pa fun LQ hn hr he => ?_
 by_cases c1 : v3 < v2
 · rw [if_pos c1] at h
   obtain ⟨y2,hy2,h⟩ := ob h
   have f3 := dd hy2
   have f3a := (f3.2.2 (TV.int .u8)).1
   have f3b := (f3.2.2 (TV.int .u8)).2
   try simp only [CL,MC,reduceToNat] at f3 f3a f3b
   obtain ⟨x4,hx4,h⟩ := ob h
   have f5 := Option.some.inj hx4
   injection h with h; subst h
   have ih := ih x4 (IntKind.i64.wrap (v3 + (1 : Int))) rfl
   unfold mw at ih
   simp -implicitDefEqProofs only [pu,te,TT,Ic.t,ci,reduceEqDiff,reduceIte,reduceAdd,reduceMul,reduceLT,reduceLeDiff,reduceSub,reduceCtorEq,reduceEq,reduceNe,reduceToNat,Int.reduceLT,reduceLE,reduceNeg,hl,c1,f3.1,f3.2.1,f3a,f3b,f5,CL,LTN]
   rw [hn]
   simp -implicitDefEqProofs only [TT,Ic.t,ci,reduceEqDiff,reduceIte,reduceAdd,reduceMul,reduceLT,reduceLeDiff,reduceSub,reduceCtorEq,reduceEq,reduceNe,reduceToNat,Int.reduceLT,reduceLE,reduceNeg,hl,c1,f3.1,f3.2.1,f3a,f3b,f5,CL,LTN]
   exact ih  τ    (by first | assumption | (simp only [ag,ak]; assumption)) Q hQ0
 rw [if_neg c1] at h
 injection h with h; subst h
 obtain rfl : _ = r := ih
 simp -implicitDefEqProofs only [pu,te,TT,Ic.t,ci,reduceEqDiff,reduceIte,reduceAdd,reduceMul,reduceLT,reduceLeDiff,reduceSub,reduceCtorEq,reduceEq,reduceNe,reduceToNat,Int.reduceLT,reduceLE,reduceNeg,hl,he,hr,c1,CL,LTN]
 exact hQ0  _ _ _  (by first | rfl | (simp -implicitDefEqProofs only [TT,Ic.t,ci,reduceEqDiff,reduceIte,reduceAdd,reduceMul,reduceLT,reduceLeDiff,reduceSub,reduceCtorEq,reduceEq,reduceNe,reduceToNat,Int.reduceLT,reduceLE,reduceNeg,hl,c1,CL,LTN])) (by first | rfl | (simp -implicitDefEqProofs only [TT,Ic.t,ci,reduceEqDiff,reduceIte,reduceAdd,reduceMul,reduceLT,reduceLeDiff,reduceSub,reduceCtorEq,reduceEq,reduceNe,reduceToNat,Int.reduceLT,reduceLE,reduceNeg,hl,c1,CL,LTN])) (by first | exact kc (Nat.le_refl _) | (simp -implicitDefEqProofs only [TT,Ic.t,ci,reduceEqDiff,reduceIte,reduceAdd,reduceMul,reduceLT,reduceLeDiff,reduceSub,reduceCtorEq,reduceEq,reduceNe,reduceToNat,Int.reduceLT,reduceLE,reduceNeg,hl,c1,CL,LTN]))
noncomputable def de (p1 : aa) : Option (Int × aa) :=
 iy p1 (8 : Int) >>= fun y1 =>
 jj (qg y1.1) (((qg y1.1).length : Nat) : Int) (0 : Int) (0 : Int) >>= fun y3 =>
 some (y3,y1.2)
theorem zamu (p1 : aa) (r : Int × aa) (h : de p1 = some r) (τ : TH) (o0 : Nat) (hl : τ.lock ≤ τ.next) (ha0 : τ.at o0 = some ⟨ah,[.str p1.s_,.bool p1.bad_]⟩) (hi0 : o0 < τ.next) (hw0 : τ.lock ≤ o0) : Ru G bp [.ptr o0 0] τ (.int .i64 r.1) (τ.put o0 ⟨ah,[.str r.2.s_,.bool r.2.bad_]⟩) := by
 refine jt fun K hK => ?_
 rw [bx zatd (Nat.le_of_ble_eq_true rfl)]
 unfold de at h
 obtain ⟨y1,hy1,h⟩ := ob h
 have k2 := zac6 p1 (8 : Int) _ hy1
 try simp only [CL,MC,reduceToNat] at k2
 obtain ⟨y3,hy3,h⟩ := ob h
 simp -implicitDefEqProofs only [te,TT,Ic.t,ci,reduceEqDiff,reduceIte,reduceAdd,reduceLT,reduceCtorEq,reduceToNat,hl,ha0,hi0,hw0,k2,CL,LTN]
 have Sy3 := zaja (qg y1.1) (((qg y1.1).length : Nat) : Int) (0 : Int) (0 : Int) y3 hy3
 unfold mw at Sy3
 refine Sy3 _ (by first | assumption | omega | (simp only [ag,ap,ak,bb]; omega)) _ ?_
 intro frq4 tkq4 τq4 g3q4 htq4 hcq4
 have hcq4 := ga (n := τ.next) hcq4 (by first | omega | (simp only [ag,ap]; omega))
 try simp only [List.take_succ_cons,List.take_zero,List.take_nil,CL] at htq4
 try simp -implicitDefEqProofs only [TT,Ic.t,ci,reduceEqDiff,reduceIte,reduceAdd,reduceLT,reduceCtorEq,reduceToNat,hl,ha0,hi0,hw0,k2,CL,LTN] at hcq4
 injection h with h; subst h
 simp -implicitDefEqProofs only [te,TT,Ic.t,ci,reduceEqDiff,reduceIte,reduceAdd,reduceLT,reduceCtorEq,reduceToNat,hl,ha0,hi0,hw0,k2,g3q4,htq4,hcq4,CL,LTN]
 exact hK
theorem gg (p1 : aa) (r : Int × aa) (h : de p1 = some r) (d : Option Nat) (K : aw) (fr : TF) (tk : TK) (τ : TH) (o0 : Nat) (hl : τ.lock ≤ τ.next) (ha0 : τ.at o0 = some ⟨ah,[.str p1.s_,.bool p1.bad_]⟩) (hi0 : o0 < τ.next) (hw0 : τ.lock ≤ o0) : fo G false bp [.ptr o0 0] d K fr tk τ = K (gq fr d (.int .i64 r.1)) tk (τ.put o0 ⟨ah,[.str r.2.s_,.bool r.2.bad_]⟩) :=
 nv (zamu p1 r h τ o0 hl ha0 hi0 hw0) (by simp -implicitDefEqProofs only [TT,Ic.t,ci,reduceEqDiff,reduceIte,reduceAdd,reduceLT,reduceCtorEq,reduceToNat,hl,ha0,hi0,hw0,CL,LTN])
noncomputable def nc (p1 : aa) (p2 : Int) : Option (Int × aa) :=
 de p1 >>= fun y1 =>
 if y1.1 < (0 : Int) then
  gb y1.2 >>= fun y4 =>
  some ((0 : Int),y4)
 else
 if p2 < y1.1 then
  gb y1.2 >>= fun y7 =>
  some ((0 : Int),y7)
 else
 some (y1.1,y1.2)
theorem zap1 (p1 : aa) (p2 : Int) (r : Int × aa) (h : nc p1 p2 = some r) (τ : TH) (o0 : Nat) (hl : τ.lock ≤ τ.next) (ha0 : τ.at o0 = some ⟨ah,[.str p1.s_,.bool p1.bad_]⟩) (hi0 : o0 < τ.next) (hw0 : τ.lock ≤ o0) : Ru G nf [.ptr o0 0,.func bp [.ptr o0 0] [],.int .i64 p2] τ (.int .i64 r.1) (τ.put o0 ⟨ah,[.str r.2.s_,.bool r.2.bad_]⟩) := by
 refine jt fun K hK => ?_
 rw [bx zaur (Nat.le_of_ble_eq_true rfl)]
 unfold nc at h
 obtain ⟨y1,hy1,h⟩ := ob h
 have k2 := gg p1 _ hy1
 try simp only [CL,MC,reduceToNat] at k2
 by_cases c3 : y1.1 < (0 : Int)
 · rw [if_pos c3] at h
   obtain ⟨y4,hy4,h⟩ := ob h
   have k5 := l5 y1.2 _ hy4
   try simp only [CL,MC,reduceToNat] at k5
   injection h with h; subst h
   simp -implicitDefEqProofs only [zabm,TT,Ic.t,ci,reduceEqDiff,reduceIte,reduceAdd,reduceLT,reduceCtorEq,reduceToNat,hl,ha0,hi0,hw0,k2,c3,k5,CL,LTN]
   exact hK
 rw [if_neg c3] at h
 by_cases c6 : p2 < y1.1
 · rw [if_pos c6] at h
   obtain ⟨y7,hy7,h⟩ := ob h
   have k8 := l5 y1.2 _ hy7
   try simp only [CL,MC,reduceToNat] at k8
   injection h with h; subst h
   simp -implicitDefEqProofs only [zabm,TT,Ic.t,ci,reduceEqDiff,reduceIte,reduceAdd,reduceLT,reduceCtorEq,reduceToNat,hl,ha0,hi0,hw0,k2,c3,c6,k8,CL,LTN]
   exact hK
 rw [if_neg c6] at h
 injection h with h; subst h
 simp -implicitDefEqProofs only [zabm,TT,Ic.t,ci,reduceEqDiff,reduceIte,reduceAdd,reduceLT,reduceCtorEq,reduceToNat,hl,ha0,hi0,hw0,k2,c3,c6,CL,LTN]
 exact hK
theorem zap2 (p1 : aa) (p2 : Int) (r : Int × aa) (h : nc p1 p2 = some r) (d : Option Nat) (K : aw) (fr : TF) (tk : TK) (τ : TH) (o0 : Nat) (hl : τ.lock ≤ τ.next) (ha0 : τ.at o0 = some ⟨ah,[.str p1.s_,.bool p1.bad_]⟩) (hi0 : o0 < τ.next) (hw0 : τ.lock ≤ o0) : fo G false nf [.ptr o0 0,.func bp [.ptr o0 0] [],.int .i64 p2] d K fr tk τ = K (gq fr d (.int .i64 r.1)) tk (τ.put o0 ⟨ah,[.str r.2.s_,.bool r.2.bad_]⟩) :=
 nv (zap1 p1 p2 r h τ o0 hl ha0 hi0 hw0) (by simp -implicitDefEqProofs only [TT,Ic.t,ci,reduceEqDiff,reduceIte,reduceAdd,reduceLT,reduceCtorEq,reduceToNat,hl,ha0,hi0,hw0,CL,LTN])
noncomputable def d5 (p1 : aa) (p2 : Int) : Option (Int × aa) :=
 nc p1 p2 >>= fun y1 =>
 some (y1.1,y1.2)
theorem zaj4 (p1 : aa) (p2 : Int) (r : Int × aa) (h : d5 p1 p2 = some r) (τ : TH) (o0 : Nat) (hl : τ.lock ≤ τ.next) (ha0 : τ.at o0 = some ⟨ah,[.str p1.s_,.bool p1.bad_]⟩) (hi0 : o0 < τ.next) (hw0 : τ.lock ≤ o0) : Ru G d6 [.ptr o0 0,.int .i64 p2] τ (.int .i64 r.1) (τ.put o0 ⟨ah,[.str r.2.s_,.bool r.2.bad_]⟩) := by
 refine jt fun K hK => ?_
 rw [bx zams (Nat.le_of_ble_eq_true rfl)]
 unfold d5 at h
 obtain ⟨y1,hy1,h⟩ := ob h
 have k2 := zap2 p1 p2 _ hy1
 try simp only [CL,MC,reduceToNat] at k2
 injection h with h; subst h
 simp -implicitDefEqProofs only [zamy,TT,Ic.t,ci,reduceEqDiff,reduceIte,reduceAdd,reduceLT,reduceCtorEq,reduceToNat,hl,ha0,hi0,hw0,k2,CL,LTN]
 exact hK
theorem kh (p1 : aa) (p2 : Int) (r : Int × aa) (h : d5 p1 p2 = some r) (d : Option Nat) (K : aw) (fr : TF) (tk : TK) (τ : TH) (o0 : Nat) (hl : τ.lock ≤ τ.next) (ha0 : τ.at o0 = some ⟨ah,[.str p1.s_,.bool p1.bad_]⟩) (hi0 : o0 < τ.next) (hw0 : τ.lock ≤ o0) : fo G false d6 [.ptr o0 0,.int .i64 p2] d K fr tk τ = K (gq fr d (.int .i64 r.1)) tk (τ.put o0 ⟨ah,[.str r.2.s_,.bool r.2.bad_]⟩) :=
 nv (zaj4 p1 p2 r h τ o0 hl ha0 hi0 hw0) (by simp -implicitDefEqProofs only [TT,Ic.t,ci,reduceEqDiff,reduceIte,reduceAdd,reduceLT,reduceCtorEq,reduceToNat,hl,ha0,hi0,hw0,CL,LTN])
noncomputable def ko (p1 : aa) (p2 : Int) : Option (ByteArray × aa) :=
 d5 p1 p2 >>= fun y1 =>
 iy y1.2 y1.1 >>= fun y3 =>
 some (y3.1,y3.2)
theorem zal2 (p1 : aa) (p2 : Int) (r : ByteArray × aa) (h : ko p1 p2 = some r) (τ : TH) (o0 : Nat) (hl : τ.lock ≤ τ.next) (ha0 : τ.at o0 = some ⟨ah,[.str p1.s_,.bool p1.bad_]⟩) (hi0 : o0 < τ.next) (hw0 : τ.lock ≤ o0) : Ru G kx [.ptr o0 0,.int .i64 p2] τ (.str r.1) (τ.put o0 ⟨ah,[.str r.2.s_,.bool r.2.bad_]⟩) := by
 refine jt fun K hK => ?_
 rw [bx zaps (Nat.le_of_ble_eq_true rfl)]
 unfold ko at h
 obtain ⟨y1,hy1,h⟩ := ob h
 have k2 := kh p1 p2 _ hy1
 try simp only [CL,MC,reduceToNat] at k2
 obtain ⟨y3,hy3,h⟩ := ob h
 have k4 := zac6 y1.2 y1.1 _ hy3
 try simp only [CL,MC,reduceToNat] at k4
 injection h with h; subst h
 simp -implicitDefEqProofs only [zaqf,TT,Ic.t,ci,reduceEqDiff,reduceIte,reduceAdd,reduceLT,reduceCtorEq,reduceToNat,hl,ha0,hi0,hw0,k2,k4,CL,LTN]
 exact hK
theorem zal3 (p1 : aa) (p2 : Int) (r : ByteArray × aa) (h : ko p1 p2 = some r) (d : Option Nat) (K : aw) (fr : TF) (tk : TK) (τ : TH) (o0 : Nat) (hl : τ.lock ≤ τ.next) (ha0 : τ.at o0 = some ⟨ah,[.str p1.s_,.bool p1.bad_]⟩) (hi0 : o0 < τ.next) (hw0 : τ.lock ≤ o0) : fo G false kx [.ptr o0 0,.int .i64 p2] d K fr tk τ = K (gq fr d (.str r.1)) tk (τ.put o0 ⟨ah,[.str r.2.s_,.bool r.2.bad_]⟩) :=
 nv (zal2 p1 p2 r h τ o0 hl ha0 hi0 hw0) (by simp -implicitDefEqProofs only [TT,Ic.t,ci,reduceEqDiff,reduceIte,reduceAdd,reduceLT,reduceCtorEq,reduceToNat,hl,ha0,hi0,hw0,CL,LTN])
noncomputable def mr (p1 : aa) : Option (ByteArray × aa) :=
 ko p1 (1048576 : Int) >>= fun y1 =>
 some (y1.1,y1.2)
theorem zax6 (p1 : aa) (r : ByteArray × aa) (h : mr p1 = some r) (τ : TH) (o0 : Nat) (o1 : Nat) (hl : τ.lock ≤ τ.next) (ha0 : τ.at o0 = some ⟨cy,[.ptr o1 0]⟩) (hi0 : o0 < τ.next) (ha1 : τ.at o1 = some ⟨ah,[.str p1.s_,.bool p1.bad_]⟩) (hi1 : o1 < τ.next) (hw1 : τ.lock ≤ o1) (hn0_1 : o0 ≠ o1) : Ru G dq [.ptr o0 0] τ (.str r.1) (τ.put o1 ⟨ah,[.str r.2.s_,.bool r.2.bad_]⟩) := by
 refine jt fun K hK => ?_
 rw [bx za4a (Nat.le_of_ble_eq_true rfl)]
 unfold mr at h
 obtain ⟨y1,hy1,h⟩ := ob h
 have k2 := zal3 p1 (1048576 : Int) _ hy1
 try simp only [CL,MC,reduceToNat] at k2
 injection h with h; subst h
 simp -implicitDefEqProofs only [za4y,TT,Ic.t,ci,reduceEqDiff,reduceIte,reduceAdd,reduceLT,reduceCtorEq,reduceToNat,hl,ha0,hi0,ha1,hi1,hw1,nq hn0_1,k2,CL,LTN]
 exact hK
theorem z7 (p1 : aa) (r : ByteArray × aa) (h : mr p1 = some r) (d : Option Nat) (K : aw) (fr : TF) (tk : TK) (τ : TH) (o0 : Nat) (o1 : Nat) (hl : τ.lock ≤ τ.next) (ha0 : τ.at o0 = some ⟨cy,[.ptr o1 0]⟩) (hi0 : o0 < τ.next) (ha1 : τ.at o1 = some ⟨ah,[.str p1.s_,.bool p1.bad_]⟩) (hi1 : o1 < τ.next) (hw1 : τ.lock ≤ o1) (hn0_1 : o0 ≠ o1) : fo G false dq [.ptr o0 0] d K fr tk τ = K (gq fr d (.str r.1)) tk (τ.put o1 ⟨ah,[.str r.2.s_,.bool r.2.bad_]⟩) :=
 nv (zax6 p1 r h τ o0 o1 hl ha0 hi0 ha1 hi1 hw1 hn0_1) (by simp -implicitDefEqProofs only [TT,Ic.t,ci,reduceEqDiff,reduceIte,reduceAdd,reduceLT,reduceCtorEq,reduceToNat,hl,ha0,hi0,ha1,hi1,hw1,nq hn0_1,CL,LTN])
noncomputable def db (v2 : Int) (v0 : aa) (v1 : (List ByteArray)) (v3 : Int) : Option (LS (aa × (List ByteArray) × Int) ((List ByteArray) × aa)) :=
 if v3 < v2 then
  mr v0 >>= fun y2 =>
  if (v1.length + 1) * 16 ≤ 140737488355328 then
   some (.nx (y2.2,(v1 ++ [y2.1]),(IntKind.i64.wrap (v3 + (1 : Int)))))
  else
   none
 else
 some (.dn (v1,v0))
noncomputable def gj (v2 : Int) (v0 : aa) (v1 : (List ByteArray)) (v3 : Int) : Option ((List ByteArray) × aa) := sc (fun st => db v2 st.1 st.2.1 st.2.2) (v0,v1,v3)
theorem vt (v2 : Int) (v0 : aa) (v1 : (List ByteArray)) (v3 : Int) : gj v2 v0 v1 v3 = db v2 v0 v1 v3 >>= LS.go (fun st => gj v2 st.1 st.2.1 st.2.2) := gw (fun st => db v2 st.1 st.2.1 st.2.2) (v0,v1,v3)
def ma (v2 : Int) (v0 : aa) (v1 : (List ByteArray)) (v3 : Int) (r : (List ByteArray) × aa) : Prop := ∀ (τ : TH) (o0 : Nat) (o1 : Nat) (n0 : Nat) (ty0 : TypeId) (hnn0 : n0 = v1.length) (hty0 : n0 = 0 ∨ ty0 = fq) (hl : τ.lock ≤ τ.next) (ha0 : τ.at o0 = some ⟨cy,[.ptr o1 0]⟩) (hi0 : o0 < τ.next) (ha1 : τ.at o1 = some ⟨ah,[.str v0.s_,.bool v0.bad_]⟩) (hi1 : o1 < τ.next) (hw1 : τ.lock ≤ o1) (hn0_1 : o0 ≠ o1) (Q : TEx → aw) (hQ0 : ∀ (fr : TF) (tk2 : TK) (τ2 : TH),∀ (u0 : TypeId),(r.1.length = 0 ∨ u0 = fq) → lkp fr 7 = .sla 0 (List.map TV.str r.1) → tk2.take 1 = [some (r.1.length,u0)] → τ2.cut τ.next = (τ.put o1 ⟨ah,[.str r.2.s_,.bool r.2.bad_]⟩) → Q (.exit 0) fr tk2 τ2) ,tW G (.loop [2,7,10,11] ox) Q [(2,.func dq [] [.ptr o0 0]),(7,.sla 0 (List.map TV.str v1)),(10,.int .i64 v2),(11,.int .i64 v3)] [some (n0,ty0)] τ
theorem zag7 (v2 : Int) (v0 : aa) (v1 : (List ByteArray)) (v3 : Int) (r : (List ByteArray) × aa) (h : gj v2 v0 v1 v3 = some r) : ma v2 v0 v1 v3 r := by
 refine ff (f := fun st => db v2 st.1 st.2.1 st.2.2) (P := fun st r => ∀ (v0 : aa) (v1 : (List ByteArray)) (v3 : Int),(v0,v1,v3) = st → ma v2 v0 v1 v3 r) ?_ h v0 v1 v3 rfl
 clear h r v3 v1 v0
 intro st o h r ih v0 v1 v3 hst τ o0 o1  n0 ty0 hnn0 hty0 hl ha0 hi0 ha1 hi1 hw1 hn0_1 Q hQ0
 subst hst
 have h : db v2 v0 v1 v3 = some o := h
 unfold db at h
 subst hnn0
 refine pa fun LQ hn hr he => ?_
 by_cases c1 : v3 < v2
 · rw [if_pos c1] at h
   obtain ⟨y2,hy2,h⟩ := ob h
   have k3 := fun (d : Option Nat) (K : aw) (fr : TF) (tk : TK) (τ' : TH) (o'0 : Nat) => z7 v0 _ hy2 d K fr tk τ' o'0 o1
   try simp only [CL,MC,reduceToNat] at k3
   obtain ⟨c4,h⟩ := ifS h
   have f5 : 1 ≤ maxLen := by unfold maxLen; omega
   have f6 : v1.length + 1 ≤ maxLen := by unfold maxLen; omega
   have f7 : ((List.map TV.str v1).all fun e => e.cells.length == 1) = true := allc (fun _ => rfl) _
   have f8 : List.map TV.str v1 ++ List.map TV.str [y2.1] = List.map TV.str (v1 ++ [y2.1]) := appn _ _
   try simp only [CL,List.map_cons,List.map_nil] at f8
   injection h with h; subst h
   have ih := ih y2.2 (v1 ++ [y2.1]) (IntKind.i64.wrap (v3 + (1 : Int))) rfl
   unfold ma at ih
   simp -implicitDefEqProofs only [ox,rm,TT,Ic.t,ci,reduceEqDiff,reduceIte,reduceAdd,reduceMul,reduceLT,reduceLeDiff,reduceSub,reduceCtorEq,reduceEq,reduceNe,reduceToNat,Int.reduceLT,reduceLE,reduceNeg,hl,ha0,hi0,ha1,hi1,hw1,nq hn0_1,hty0,c1,k3,c4,f5,f6,f7,f8,CL,LTN]
   rw [hn]
   simp -implicitDefEqProofs only [TT,Ic.t,ci,reduceEqDiff,reduceIte,reduceAdd,reduceMul,reduceLT,reduceLeDiff,reduceSub,reduceCtorEq,reduceEq,reduceNe,reduceToNat,Int.reduceLT,reduceLE,reduceNeg,hl,ha0,hi0,ha1,hi1,hw1,nq hn0_1,hty0,c1,k3,c4,f5,f6,f7,f8,CL,LTN]
   exact ih  (τ.put o1 ⟨ah,[.str y2.2.s_,.bool y2.2.bad_]⟩) o0 o1  (v1.length + 1) fq (by first | rfl | simp [ay]) (by first | exact hty0 | exact Or.inr rfl | simp) (by first | assumption | (simp only [ag,ak]; assumption)) (by simp -implicitDefEqProofs only [TT,Ic.t,ci,reduceEqDiff,reduceIte,reduceAdd,reduceMul,reduceLT,reduceLeDiff,reduceSub,reduceCtorEq,reduceEq,reduceNe,reduceToNat,Int.reduceLT,reduceLE,reduceNeg,hl,ha0,hi0,ha1,hi1,hw1,nq hn0_1,hty0,c1,k3,c4,f5,f6,f7,f8,CL,LTN]) (by first | assumption | (simp only [ag,ak]; assumption)) (by simp -implicitDefEqProofs only [TT,Ic.t,ci,reduceEqDiff,reduceIte,reduceAdd,reduceMul,reduceLT,reduceLeDiff,reduceSub,reduceCtorEq,reduceEq,reduceNe,reduceToNat,Int.reduceLT,reduceLE,reduceNeg,hl,ha0,hi0,ha1,hi1,hw1,nq hn0_1,hty0,c1,k3,c4,f5,f6,f7,f8,CL,LTN]) (by first | assumption | (simp only [ag,ak]; assumption)) (by first | assumption | (simp only [ag,ak]; assumption)) hn0_1 Q (fun fr tk2 τ2 u0 u0' g0 ht hτ => hQ0 fr tk2 τ2 u0 u0' g0 ht (by first | exact hτ | simpa only [ag,zamq,hl,ha0,hi0,ha1,hi1,hw1,nq hn0_1,hty0] using hτ))
 rw [if_neg c1] at h
 injection h with h; subst h
 obtain rfl : _ = r := ih
 simp -implicitDefEqProofs only [ox,rm,TT,Ic.t,ci,reduceEqDiff,reduceIte,reduceAdd,reduceMul,reduceLT,reduceLeDiff,reduceSub,reduceCtorEq,reduceEq,reduceNe,reduceToNat,Int.reduceLT,reduceLE,reduceNeg,hl,ha0,hi0,ha1,hi1,hw1,nq hn0_1,hty0,he,hr,c1,CL,LTN]
 exact hQ0  _ _ _ ty0 (by first | exact hty0 | exact Or.inr rfl | simp) (by first | rfl | (simp -implicitDefEqProofs only [TT,Ic.t,ci,reduceEqDiff,reduceIte,reduceAdd,reduceMul,reduceLT,reduceLeDiff,reduceSub,reduceCtorEq,reduceEq,reduceNe,reduceToNat,Int.reduceLT,reduceLE,reduceNeg,hl,ha0,hi0,ha1,hi1,hw1,nq hn0_1,hty0,c1,CL,LTN])) (by first | rfl | (simp -implicitDefEqProofs only [TT,Ic.t,ci,reduceEqDiff,reduceIte,reduceAdd,reduceMul,reduceLT,reduceLeDiff,reduceSub,reduceCtorEq,reduceEq,reduceNe,reduceToNat,Int.reduceLT,reduceLE,reduceNeg,hl,ha0,hi0,ha1,hi1,hw1,nq hn0_1,hty0,c1,CL,LTN])) (by first | exact kc (Nat.le_refl _) | (simp -implicitDefEqProofs only [TT,Ic.t,ci,reduceEqDiff,reduceIte,reduceAdd,reduceMul,reduceLT,reduceLeDiff,reduceSub,reduceCtorEq,reduceEq,reduceNe,reduceToNat,Int.reduceLT,reduceLE,reduceNeg,hl,ha0,hi0,ha1,hi1,hw1,nq hn0_1,hty0,mc ha1,c1,CL,LTN]))
noncomputable def iv (p1 : aa) (p2 : Int) : Option ((List ByteArray) × aa) :=
 d5 p1 p2 >>= fun y1 =>
 gj y1.1 y1.2 [] (0 : Int) >>= fun y3 =>
 some (y3.1,y3.2)
theorem zakq (p1 : aa) (p2 : Int) (r : (List ByteArray) × aa) (h : iv p1 p2 = some r) (τ : TH) (o0 : Nat) (o1 : Nat) (hl : τ.lock ≤ τ.next) (ha0 : τ.at o0 = some ⟨ah,[.str p1.s_,.bool p1.bad_]⟩) (hi0 : o0 < τ.next) (hw0 : τ.lock ≤ o0) (ha1 : τ.at o1 = some ⟨cy,[.ptr o0 0]⟩) (hi1 : o1 < τ.next) (hn0_1 : o0 ≠ o1) : Ru G jc [.ptr o0 0,.int .i64 p2,.func dq [] [.ptr o1 0]] τ (.sl (List.map TV.str r.1)) (τ.put o0 ⟨ah,[.str r.2.s_,.bool r.2.bad_]⟩) := by
 refine jt fun K hK => ?_
 rw [bx zapp (Nat.le_of_ble_eq_true rfl)]
 unfold iv at h
 obtain ⟨y1,hy1,h⟩ := ob h
 have k2 := kh p1 p2 _ hy1
 try simp only [CL,MC,reduceToNat] at k2
 obtain ⟨y3,hy3,h⟩ := ob h
 simp -implicitDefEqProofs only [rm,TT,Ic.t,ci,reduceEqDiff,reduceIte,reduceAdd,reduceLT,reduceCtorEq,reduceToNat,hl,ha0,hi0,hw0,ha1,hi1,nq hn0_1,k2,CL,LTN]
 have Sy3 := zag7 y1.1 y1.2 [] (0 : Int) y3 hy3
 unfold ma at Sy3
 refine Sy3 _ o1 o0 0 0 (by first | rfl | simp [ay]) (by first | exact Or.inl rfl | exact Or.inr rfl | assumption | simp) (by first | assumption | omega | (simp only [ag,ap,ak,bb]; omega)) (by simp -implicitDefEqProofs only [TT,Ic.t,ci,reduceEqDiff,reduceIte,reduceAdd,reduceLT,reduceCtorEq,reduceToNat,hl,ha0,hi0,hw0,ha1,hi1,nq hn0_1,k2,CL,LTN]) (by first | assumption | omega | (simp only [ag,ap,ak,bb]; omega)) (by simp -implicitDefEqProofs only [TT,Ic.t,ci,reduceEqDiff,reduceIte,reduceAdd,reduceLT,reduceCtorEq,reduceToNat,hl,ha0,hi0,hw0,ha1,hi1,nq hn0_1,k2,CL,LTN]) (by first | assumption | omega | (simp only [ag,ap,ak,bb]; omega)) (by first | assumption | omega | (simp only [ag,ap,ak,bb]; omega)) (by first | assumption | omega | (simp only [ag,ap]; omega)) _ ?_
 intro frq4 tkq4 τq4 u0q4 uh0q4 g7q4 htq4 hcq4
 have hcq4 := ga (n := τ.next) hcq4 (by first | omega | (simp only [ag,ap]; omega))
 try simp only [List.take_succ_cons,List.take_zero,List.take_nil,CL] at htq4
 try simp -implicitDefEqProofs only [TT,Ic.t,ci,reduceEqDiff,reduceIte,reduceAdd,reduceLT,reduceCtorEq,reduceToNat,hl,ha0,hi0,hw0,ha1,hi1,nq hn0_1,k2,CL,LTN] at hcq4
 injection h with h; subst h
 simp -implicitDefEqProofs only [rm,TT,Ic.t,ci,reduceEqDiff,reduceIte,reduceAdd,reduceLT,reduceCtorEq,reduceToNat,hl,ha0,hi0,hw0,ha1,hi1,nq hn0_1,k2,uh0q4,g7q4,htq4,hcq4,CL,LTN]
 exact hK
theorem zab5 (p1 : aa) (p2 : Int) (r : (List ByteArray) × aa) (h : iv p1 p2 = some r) (d : Option Nat) (K : aw) (fr : TF) (tk : TK) (τ : TH) (o0 : Nat) (o1 : Nat) (hl : τ.lock ≤ τ.next) (ha0 : τ.at o0 = some ⟨ah,[.str p1.s_,.bool p1.bad_]⟩) (hi0 : o0 < τ.next) (hw0 : τ.lock ≤ o0) (ha1 : τ.at o1 = some ⟨cy,[.ptr o0 0]⟩) (hi1 : o1 < τ.next) (hn0_1 : o0 ≠ o1) : fo G false jc [.ptr o0 0,.int .i64 p2,.func dq [] [.ptr o1 0]] d K fr tk τ = K (gq fr d (.sl (List.map TV.str r.1))) tk (τ.put o0 ⟨ah,[.str r.2.s_,.bool r.2.bad_]⟩) :=
 nv (zakq p1 p2 r h τ o0 o1 hl ha0 hi0 hw0 ha1 hi1 hn0_1) (by simp -implicitDefEqProofs only [TT,Ic.t,ci,reduceEqDiff,reduceIte,reduceAdd,reduceLT,reduceCtorEq,reduceToNat,hl,ha0,hi0,hw0,ha1,hi1,nq hn0_1,CL,LTN])
end Go.Proofs.Ytdcfoaafkppojaa
