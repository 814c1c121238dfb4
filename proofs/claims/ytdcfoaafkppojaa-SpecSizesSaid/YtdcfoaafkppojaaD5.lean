import Derived.Test.YtdcfoaafkppojaaHBld
set_option linter.unusedVariables false
set_option linter.unusedSimpArgs false
set_option linter.unusedSectionVars false
open Nat (reduceEqDiff reduceAdd reduceMul reduceLT reduceLeDiff reduceSub)
open Int (reduceToNat reduceNe reduceEq reduceNeg reduceLE)
namespace Go.Proofs.Ytdcfoaafkppojaa
open Go Go.RowKit Sh Ic
noncomputable section
def dg (v1 : (List ByteArray)) (v2 : Int) (v0 : ByteArray) (v3 : Int) : Option (LS (ByteArray × Int) (ByteArray)) :=
 if v3 < v2 then
  ixL v1 v3 >>= fun y2 =>
  pe y2 >>= fun y4 =>
  if v0.size + y4.size ≤ 140737488355328 then
   some (.nx ((v0 ++ y4),(IntKind.i64.wrap (v3 + (1 : Int)))))
  else
   none
 else
 some (.dn v0)
def jh (v1 : (List ByteArray)) (v2 : Int) (v0 : ByteArray) (v3 : Int) : Option (ByteArray) := sq (fun st => dg v1 v2 st.1 st.2) (v0,v3)
theorem za (v1 : (List ByteArray)) (v2 : Int) (v0 : ByteArray) (v3 : Int) : jh v1 v2 v0 v3 = dg v1 v2 v0 v3 >>= LS.go (fun st => jh v1 v2 st.1 st.2) := gy (fun st => dg v1 v2 st.1 st.2) (v0,v3)
def mz (v1 : (List ByteArray)) (v2 : Int) (v0 : ByteArray) (v3 : Int) (r : ByteArray) : Prop := ∀ (τ : TH) (o0 : Nat) (hl : τ.lock ≤ τ.next) (ub0 : Bool) (hub0 : ub0 = true ∨ v0.size = 0) (ha0 : τ.at o0 = some (oc o0 ub0 v0)) (hi0 : o0 < τ.next) (hw0 : τ.lock ≤ o0) (Q : TEx → av) (hQ0 : ∀ (fr : TF) (tk2 : TK) (τ2 : TH),∀ (ubx0 : Bool),(ubx0 = true ∨ r.size = 0) → lkp fr 5 = .ptr o0 0 → tk2.take 0 = [] → τ2.cut τ.next = (τ.put o0 (oc o0 ubx0 r)) → Q (.exit 0) fr tk2 τ2) ,tW G (.loop [1,5,12,13,14] qe) Q [(1,.func jt [] []),(5,.ptr o0 0),(12,.sl (List.map TV.str v1)),(13,.int .i64 v2),(14,.int .i64 v3)] [] τ
theorem zc8n (v1 : (List ByteArray)) (v2 : Int) (v0 : ByteArray) (v3 : Int) (r : ByteArray) (h : jh v1 v2 v0 v3 = some r) : mz v1 v2 v0 v3 r := by
 refine fg (f := fun st => dg v1 v2 st.1 st.2) (P := fun st r => ∀ (v0 : ByteArray) (v3 : Int),(v0,v3) = st → mz v1 v2 v0 v3 r) ?_ h v0 v3 rfl
 clear h r v3 v0
 intro st o h r ih v0 v3 hst τ o0  hl ub0 hub0 ha0 hi0 hw0 Q hQ0
 subst hst
 have h : dg v1 v2 v0 v3 = some o := h
 unfold dg at h
 refine pj fun LQ hn hr he => ?_
 by_cases c1 : v3 < v2
 · rw [if_pos c1] at h
   obtain ⟨y2,hy2,h⟩ := ob h
   have f3 := de hy2
   have f3a := (f3.2.2 TV.str).1
   have f3b := (f3.2.2 TV.str).2
   try simp only [CL,MC,reduceToNat] at f3 f3a f3b
   obtain ⟨y4,hy4,h⟩ := ob h
   have k5 := zb9n y2 _ hy4
   try simp only [CL,MC,reduceToNat] at k5
   obtain ⟨c6,h⟩ := ifS h
   have k7 := fun (id : Nat) (d : Option Nat) (K : av) (fr : TF) (tk : TK) (τ : TH) (ha : τ.at id = some (oc id ub0 v0)) (hi : id < τ.next) (hw : τ.lock ≤ id) (hl : τ.lock ≤ τ.next) => zb44 v0 id ub0 d K fr tk τ ha hi hw hl (by first | exact .inl rfl | assumption) y4 c6
   injection h with h; subst h
   have ih := ih (v0 ++ y4) (IntKind.i64.wrap (v3 + (1 : Int))) rfl
   unfold mz at ih
   simp -implicitDefEqProofs only [qe,tw,TT,Ic.t,ci,reduceEqDiff,reduceIte,reduceAdd,reduceLT,reduceCtorEq,reduceToNat,hl,gm,ha0,hi0,hw0,c1,f3.1,f3.2.1,f3a,f3b,k5,c6,k7,CL,LTN]
   rw [hn]
   simp -implicitDefEqProofs only [TT,Ic.t,ci,reduceEqDiff,reduceIte,reduceAdd,reduceLT,reduceCtorEq,reduceToNat,hl,gm,ha0,hi0,hw0,c1,f3.1,f3.2.1,f3a,f3b,k5,c6,k7,CL,LTN]
   exact ih  (τ.put o0 (oc o0 true (v0 ++ y4))) o0   (by first | assumption | (simp only [ag,ak]; assumption)) true (by first | exact .inl rfl | assumption) (by simp -implicitDefEqProofs only [TT,Ic.t,ci,reduceEqDiff,reduceIte,reduceAdd,reduceLT,reduceCtorEq,reduceToNat,hl,gm,ha0,hi0,hw0,c1,f3.1,f3.2.1,f3a,f3b,k5,c6,k7,CL,LTN]) (by first | assumption | (simp only [ag,ak]; assumption)) (by first | assumption | (simp only [ag,ak]; assumption)) Q (fun fr tk2 τ2 w0 w0' g0 ht hτ => hQ0 fr tk2 τ2 w0 w0' g0 ht (by first | exact hτ | simpa only [ag,zbjv,hl,gm,ha0,hi0,hw0] using hτ))
 rw [if_neg c1] at h
 injection h with h; subst h
 obtain rfl : _ = r := ih
 simp -implicitDefEqProofs only [qe,tw,TT,Ic.t,ci,reduceEqDiff,reduceIte,reduceAdd,reduceLT,reduceCtorEq,reduceToNat,hl,gm,ha0,hi0,hw0,he,hr,c1,CL,LTN]
 exact hQ0  _ _ _ ub0 (by first | exact .inl rfl | assumption) (by first | rfl | (simp -implicitDefEqProofs only [TT,Ic.t,ci,reduceEqDiff,reduceIte,reduceAdd,reduceLT,reduceCtorEq,reduceToNat,hl,gm,ha0,hi0,hw0,c1,CL,LTN])) (by first | rfl | (simp -implicitDefEqProofs only [TT,Ic.t,ci,reduceEqDiff,reduceIte,reduceAdd,reduceLT,reduceCtorEq,reduceToNat,hl,gm,ha0,hi0,hw0,c1,CL,LTN])) (by first | exact kf (Nat.le_refl _) | (simp -implicitDefEqProofs only [TT,Ic.t,ci,reduceEqDiff,reduceIte,reduceAdd,reduceLT,reduceCtorEq,reduceToNat,hl,gm,ha0,hi0,hw0,mi ha0,c1,CL,LTN]))
def jy (p1 : (List ByteArray)) : Option ByteArray :=
 gw ((p1.length : Nat) : Int) >>= fun y1 =>
 if y1.size ≤ 140737488355328 then
  jh p1 ((p1.length : Nat) : Int) y1 (0 : Int) >>= fun y5 =>
  if y5.size ≤ 140737488355328 then
   some y5
  else
   none
 else
  none
theorem zcvv (p1 : (List ByteArray)) (r : ByteArray) (h : jy p1 = some r) (τ : TH) (hl : τ.lock ≤ τ.next) : Ru G kc [.sl (List.map TV.str p1),.func jt [] []] τ (.str r) τ := by
 refine jv fun K hK => ?_
 rw [bx zc63 (Nat.le_of_ble_eq_true rfl)]
 unfold jy at h
 obtain ⟨y1,hy1,h⟩ := ob h
 have k2 := iv ((p1.length : Nat) : Int) _ hy1
 try simp only [CL,MC,reduceToNat] at k2
 obtain ⟨c3,h⟩ := ifS h
 have k4 := fun (id : Nat) (d : Option Nat) (K : av) (fr : TF) (tk : TK) (τ : TH) (ha : τ.at id = some (oc id false ⟨#[]⟩)) (hi : id < τ.next) (hw : τ.lock ≤ id) (hl : τ.lock ≤ τ.next) => zb9m id d K fr tk τ ha hi hw hl y1 c3
 obtain ⟨y5,hy5,h⟩ := ob h
 simp -implicitDefEqProofs only [tw,TT,Ic.t,ci,reduceEqDiff,reduceIte,reduceAdd,reduceLT,reduceCtorEq,reduceToNat,hl,k2,c3,k4,gm,CL,LTN]
 have Sy5 := zc8n p1 ((p1.length : Nat) : Int) y1 (0 : Int) y5 hy5
 unfold mz at Sy5
 refine Sy5 _ τ.next (by first | assumption | omega | (simp only [ag,ap,ak,bb]; omega)) true (by first | exact .inl rfl | exact .inr rfl | assumption) (by simp -implicitDefEqProofs only [TT,Ic.t,ci,reduceEqDiff,reduceIte,reduceAdd,reduceLT,reduceCtorEq,reduceToNat,hl,k2,c3,k4,gm,CL,LTN]) (by first | assumption | omega | (simp only [ag,ap,ak,bb]; omega)) (by first | assumption | omega | (simp only [ag,ap,ak,bb]; omega)) _ ?_
 intro frq6 tkq6 τq6 ubz6_0 huubz6_0 g5q6 htq6 hcq6
 have hcq6 := gc (n := τ.next + 1) hcq6 (by first | omega | (simp only [ag,ap]; omega))
 try simp only [List.take_succ_cons,List.take_zero,List.take_nil,CL] at htq6
 try simp -implicitDefEqProofs only [TT,Ic.t,ci,reduceEqDiff,reduceIte,reduceAdd,reduceLT,reduceCtorEq,reduceToNat,hl,k2,c3,k4,gm,CL,LTN] at hcq6
 obtain ⟨c7,h⟩ := ifS h
 have k8 := fun (id : Nat) (d : Option Nat) (K : av) (fr : TF) (tk : TK) (τ : TH) (ha : τ.at id = some (oc id ubz6_0 y5)) (hi : id < τ.next) (hw : τ.lock ≤ id) (hl : τ.lock ≤ τ.next) => zb8h y5 id ubz6_0 d K fr tk τ ha hi hw hl (by first | exact .inl rfl | assumption) c7
 injection h with h; subst h
 simp -implicitDefEqProofs only [tw,TT,Ic.t,ci,reduceEqDiff,reduceIte,reduceAdd,reduceLT,reduceCtorEq,reduceToNat,hl,k2,c3,k4,gm,g5q6,htq6,hcq6,c7,k8,CL,LTN]
 exact hK
theorem zcvu (p1 : (List ByteArray)) (r : ByteArray) (h : jy p1 = some r) (lk : Bool) (d : Option Nat) (K : av) (fr : TF) (tk : TK) (τ : TH) (hl : τ.lock ≤ τ.next) : fp G lk kc [.sl (List.map TV.str p1),.func jt [] []] d K fr tk τ = K (gg fr d (.str r)) tk τ :=
 bn (zcvv p1 r h τ  hl) (zcvv p1 r h (τ.locked τ.next)  (Nat.le_refl _) ) (by simp -implicitDefEqProofs only [TT,Ic.t,ci,reduceEqDiff,reduceIte,reduceAdd,reduceLT,reduceCtorEq,reduceToNat,hl,CL,LTN])
def sm (p1 : ac) : Option ByteArray :=
 pe p1.Account >>= fun y1 =>
 jy p1.Keys >>= fun y3 =>
 if ¬ (9223372036854775807 < ((y1.size + y3.size : Nat) : Int)) then
  some (y1 ++ y3)
 else
  none
theorem zctz (p1 : ac) (r : ByteArray) (h : sm p1 = some r) (τ : TH) (hl : τ.lock ≤ τ.next) : Ru G ly [.agg [.str p1.Account,.sl (List.map TV.str p1.Keys)]] τ (.str r) τ := by
 refine jv fun K hK => ?_
 rw [bx zdbk (Nat.le_of_ble_eq_true rfl)]
 unfold sm at h
 obtain ⟨y1,hy1,h⟩ := ob h
 have k2 := zb9n p1.Account _ hy1
 try simp only [CL,MC,reduceToNat] at k2
 obtain ⟨y3,hy3,h⟩ := ob h
 have k4 := zcvu p1.Keys _ hy3
 try simp only [CL,MC,reduceToNat] at k4
 obtain ⟨c5,h⟩ := ifS h
 injection h with h; subst h
 simp -implicitDefEqProofs only [zdbb,TT,Ic.t,ci,reduceEqDiff,reduceIte,reduceAdd,reduceLT,reduceCtorEq,reduceToNat,hl,k2,k4,c5,CL,LTN]
 exact hK
theorem zc6f (p1 : ac) (r : ByteArray) (h : sm p1 = some r) (lk : Bool) (d : Option Nat) (K : av) (fr : TF) (tk : TK) (τ : TH) (hl : τ.lock ≤ τ.next) : fp G lk ly [.agg [.str p1.Account,.sl (List.map TV.str p1.Keys)]] d K fr tk τ = K (gg fr d (.str r)) tk τ :=
 bn (zctz p1 r h τ  hl) (zctz p1 r h (τ.locked τ.next)  (Nat.le_refl _) ) (by simp -implicitDefEqProofs only [TT,Ic.t,ci,reduceEqDiff,reduceIte,reduceAdd,reduceLT,reduceCtorEq,reduceToNat,hl,CL,LTN])
def ca (v1 : (List ac)) (v2 : Int) (v0 : ByteArray) (v3 : Int) : Option (LS (ByteArray × Int) (ByteArray)) :=
 if v3 < v2 then
  ixL v1 v3 >>= fun y2 =>
  sm (⟨y2.Account,y2.Keys⟩ : ac) >>= fun y4 =>
  if v0.size + y4.size ≤ 140737488355328 then
   some (.nx ((v0 ++ y4),(IntKind.i64.wrap (v3 + (1 : Int)))))
  else
   none
 else
 some (.dn v0)
def gu (v1 : (List ac)) (v2 : Int) (v0 : ByteArray) (v3 : Int) : Option (ByteArray) := sq (fun st => ca v1 v2 st.1 st.2) (v0,v3)
theorem t8 (v1 : (List ac)) (v2 : Int) (v0 : ByteArray) (v3 : Int) : gu v1 v2 v0 v3 = ca v1 v2 v0 v3 >>= LS.go (fun st => gu v1 v2 st.1 st.2) := gy (fun st => ca v1 v2 st.1 st.2) (v0,v3)
def ki (v1 : (List ac)) (v2 : Int) (v0 : ByteArray) (v3 : Int) (r : ByteArray) : Prop := ∀ (τ : TH) (o0 : Nat) (hl : τ.lock ≤ τ.next) (ub0 : Bool) (hub0 : ub0 = true ∨ v0.size = 0) (ha0 : τ.at o0 = some (oc o0 ub0 v0)) (hi0 : o0 < τ.next) (hw0 : τ.lock ≤ o0) (Q : TEx → av) (hQ0 : ∀ (fr : TF) (tk2 : TK) (τ2 : TH),∀ (ubx0 : Bool),(ubx0 = true ∨ r.size = 0) → lkp fr 5 = .ptr o0 0 → tk2.take 0 = [] → τ2.cut τ.next = (τ.put o0 (oc o0 ubx0 r)) → Q (.exit 0) fr tk2 τ2) ,tW G (.loop [1,5,12,13,14] m7) Q [(1,.func ly [] []),(5,.ptr o0 0),(12,.sl (List.map ac.tv v1)),(13,.int .i64 v2),(14,.int .i64 v3)] [] τ
theorem zc8x (v1 : (List ac)) (v2 : Int) (v0 : ByteArray) (v3 : Int) (r : ByteArray) (h : gu v1 v2 v0 v3 = some r) : ki v1 v2 v0 v3 r := by
 refine fg (f := fun st => ca v1 v2 st.1 st.2) (P := fun st r => ∀ (v0 : ByteArray) (v3 : Int),(v0,v3) = st → ki v1 v2 v0 v3 r) ?_ h v0 v3 rfl
 clear h r v3 v0
 intro st o h r ih v0 v3 hst τ o0  hl ub0 hub0 ha0 hi0 hw0 Q hQ0
 subst hst
 have h : ca v1 v2 v0 v3 = some o := h
 unfold ca at h
 refine pj fun LQ hn hr he => ?_
 by_cases c1 : v3 < v2
 · rw [if_pos c1] at h
   obtain ⟨y2,hy2,h⟩ := ob h
   have f3 := de hy2
   have f3a := (f3.2.2 ac.tv).1
   have f3b := (f3.2.2 ac.tv).2
   try simp only [CL,MC,reduceToNat] at f3 f3a f3b
   obtain ⟨y4,hy4,h⟩ := ob h
   have k5 := zc6f (⟨y2.Account,y2.Keys⟩ : ac) _ hy4
   try simp only [CL,MC,reduceToNat] at k5
   obtain ⟨c6,h⟩ := ifS h
   have k7 := fun (id : Nat) (d : Option Nat) (K : av) (fr : TF) (tk : TK) (τ : TH) (ha : τ.at id = some (oc id ub0 v0)) (hi : id < τ.next) (hw : τ.lock ≤ id) (hl : τ.lock ≤ τ.next) => zb44 v0 id ub0 d K fr tk τ ha hi hw hl (by first | exact .inl rfl | assumption) y4 c6
   injection h with h; subst h
   have ih := ih (v0 ++ y4) (IntKind.i64.wrap (v3 + (1 : Int))) rfl
   unfold ki at ih
   simp -implicitDefEqProofs only [m7,pg,TT,Ic.t,ci,reduceEqDiff,reduceIte,reduceAdd,reduceLT,reduceCtorEq,reduceToNat,hl,gm,ha0,hi0,hw0,c1,f3.1,f3.2.1,f3a,f3b,k5,c6,k7,CL,LTN]
   rw [hn]
   simp -implicitDefEqProofs only [TT,Ic.t,ci,reduceEqDiff,reduceIte,reduceAdd,reduceLT,reduceCtorEq,reduceToNat,hl,gm,ha0,hi0,hw0,c1,f3.1,f3.2.1,f3a,f3b,k5,c6,k7,CL,LTN]
   exact ih  (τ.put o0 (oc o0 true (v0 ++ y4))) o0   (by first | assumption | (simp only [ag,ak]; assumption)) true (by first | exact .inl rfl | assumption) (by simp -implicitDefEqProofs only [TT,Ic.t,ci,reduceEqDiff,reduceIte,reduceAdd,reduceLT,reduceCtorEq,reduceToNat,hl,gm,ha0,hi0,hw0,c1,f3.1,f3.2.1,f3a,f3b,k5,c6,k7,CL,LTN]) (by first | assumption | (simp only [ag,ak]; assumption)) (by first | assumption | (simp only [ag,ak]; assumption)) Q (fun fr tk2 τ2 w0 w0' g0 ht hτ => hQ0 fr tk2 τ2 w0 w0' g0 ht (by first | exact hτ | simpa only [ag,zbjv,hl,gm,ha0,hi0,hw0] using hτ))
 rw [if_neg c1] at h
 injection h with h; subst h
 obtain rfl : _ = r := ih
 simp -implicitDefEqProofs only [m7,pg,TT,Ic.t,ci,reduceEqDiff,reduceIte,reduceAdd,reduceLT,reduceCtorEq,reduceToNat,hl,gm,ha0,hi0,hw0,he,hr,c1,CL,LTN]
 exact hQ0  _ _ _ ub0 (by first | exact .inl rfl | assumption) (by first | rfl | (simp -implicitDefEqProofs only [TT,Ic.t,ci,reduceEqDiff,reduceIte,reduceAdd,reduceLT,reduceCtorEq,reduceToNat,hl,gm,ha0,hi0,hw0,c1,CL,LTN])) (by first | rfl | (simp -implicitDefEqProofs only [TT,Ic.t,ci,reduceEqDiff,reduceIte,reduceAdd,reduceLT,reduceCtorEq,reduceToNat,hl,gm,ha0,hi0,hw0,c1,CL,LTN])) (by first | exact kf (Nat.le_refl _) | (simp -implicitDefEqProofs only [TT,Ic.t,ci,reduceEqDiff,reduceIte,reduceAdd,reduceLT,reduceCtorEq,reduceToNat,hl,gm,ha0,hi0,hw0,mi ha0,c1,CL,LTN]))
def ji (p1 : (List ac)) : Option ByteArray :=
 gw ((p1.length : Nat) : Int) >>= fun y1 =>
 if y1.size ≤ 140737488355328 then
  gu p1 ((p1.length : Nat) : Int) y1 (0 : Int) >>= fun y5 =>
  if y5.size ≤ 140737488355328 then
   some y5
  else
   none
 else
  none
theorem zcxj (p1 : (List ac)) (r : ByteArray) (h : ji p1 = some r) (τ : TH) (hl : τ.lock ≤ τ.next) : Ru G jr [.sl (List.map ac.tv p1),.func ly [] []] τ (.str r) τ := by
 refine jv fun K hK => ?_
 rw [bx zc78 (Nat.le_of_ble_eq_true rfl)]
 unfold ji at h
 obtain ⟨y1,hy1,h⟩ := ob h
 have k2 := iv ((p1.length : Nat) : Int) _ hy1
 try simp only [CL,MC,reduceToNat] at k2
 obtain ⟨c3,h⟩ := ifS h
 have k4 := fun (id : Nat) (d : Option Nat) (K : av) (fr : TF) (tk : TK) (τ : TH) (ha : τ.at id = some (oc id false ⟨#[]⟩)) (hi : id < τ.next) (hw : τ.lock ≤ id) (hl : τ.lock ≤ τ.next) => zb9m id d K fr tk τ ha hi hw hl y1 c3
 obtain ⟨y5,hy5,h⟩ := ob h
 simp -implicitDefEqProofs only [pg,TT,Ic.t,ci,reduceEqDiff,reduceIte,reduceAdd,reduceLT,reduceCtorEq,reduceToNat,hl,k2,c3,k4,gm,CL,LTN]
 have Sy5 := zc8x p1 ((p1.length : Nat) : Int) y1 (0 : Int) y5 hy5
 unfold ki at Sy5
 refine Sy5 _ τ.next (by first | assumption | omega | (simp only [ag,ap,ak,bb]; omega)) true (by first | exact .inl rfl | exact .inr rfl | assumption) (by simp -implicitDefEqProofs only [TT,Ic.t,ci,reduceEqDiff,reduceIte,reduceAdd,reduceLT,reduceCtorEq,reduceToNat,hl,k2,c3,k4,gm,CL,LTN]) (by first | assumption | omega | (simp only [ag,ap,ak,bb]; omega)) (by first | assumption | omega | (simp only [ag,ap,ak,bb]; omega)) _ ?_
 intro frq6 tkq6 τq6 ubz6_0 huubz6_0 g5q6 htq6 hcq6
 have hcq6 := gc (n := τ.next + 1) hcq6 (by first | omega | (simp only [ag,ap]; omega))
 try simp only [List.take_succ_cons,List.take_zero,List.take_nil,CL] at htq6
 try simp -implicitDefEqProofs only [TT,Ic.t,ci,reduceEqDiff,reduceIte,reduceAdd,reduceLT,reduceCtorEq,reduceToNat,hl,k2,c3,k4,gm,CL,LTN] at hcq6
 obtain ⟨c7,h⟩ := ifS h
 have k8 := fun (id : Nat) (d : Option Nat) (K : av) (fr : TF) (tk : TK) (τ : TH) (ha : τ.at id = some (oc id ubz6_0 y5)) (hi : id < τ.next) (hw : τ.lock ≤ id) (hl : τ.lock ≤ τ.next) => zb8h y5 id ubz6_0 d K fr tk τ ha hi hw hl (by first | exact .inl rfl | assumption) c7
 injection h with h; subst h
 simp -implicitDefEqProofs only [pg,TT,Ic.t,ci,reduceEqDiff,reduceIte,reduceAdd,reduceLT,reduceCtorEq,reduceToNat,hl,k2,c3,k4,gm,g5q6,htq6,hcq6,c7,k8,CL,LTN]
 exact hK
theorem zc8m (p1 : (List ac)) (r : ByteArray) (h : ji p1 = some r) (lk : Bool) (d : Option Nat) (K : av) (fr : TF) (tk : TK) (τ : TH) (hl : τ.lock ≤ τ.next) : fp G lk jr [.sl (List.map ac.tv p1),.func ly [] []] d K fr tk τ = K (gg fr d (.str r)) tk τ :=
 bn (zcxj p1 r h τ  hl) (zcxj p1 r h (τ.locked τ.next)  (Nat.le_refl _) ) (by simp -implicitDefEqProofs only [TT,Ic.t,ci,reduceEqDiff,reduceIte,reduceAdd,reduceLT,reduceCtorEq,reduceToNat,hl,CL,LTN])
def sj (p1 : af) : Option ByteArray :=
 gw p1.From >>= fun y1 =>
 gw p1.To >>= fun y3 =>
 if ¬ (9223372036854775807 < ((y1.size + y3.size : Nat) : Int)) then
  gw p1.Ledger >>= fun y6 =>
  if ¬ (9223372036854775807 < (((y1 ++ y3).size + y6.size : Nat) : Int)) then
   pe p1.Asset >>= fun y9 =>
   if ¬ (9223372036854775807 < ((((y1 ++ y3) ++ y6).size + y9.size : Nat) : Int)) then
    gw p1.Amount >>= fun y12 =>
    if ¬ (9223372036854775807 < (((((y1 ++ y3) ++ y6) ++ y9).size + y12.size : Nat) : Int)) then
     some ((((y1 ++ y3) ++ y6) ++ y9) ++ y12)
    else
     none
   else
    none
  else
   none
 else
  none
theorem zct0 (p1 : af) (r : ByteArray) (h : sj p1 = some r) (τ : TH) (hl : τ.lock ≤ τ.next) : Ru G lx [.agg [.int .i64 p1.From,.int .i64 p1.To,.int .i64 p1.Ledger,.str p1.Asset,.int .i64 p1.Amount]] τ (.str r) τ := by
 refine jv fun K hK => ?_
 rw [bx zdbl (Nat.le_of_ble_eq_true rfl)]
 unfold sj at h
 obtain ⟨y1,hy1,h⟩ := ob h
 have k2 := iv p1.From _ hy1
 try simp only [CL,MC,reduceToNat] at k2
 obtain ⟨y3,hy3,h⟩ := ob h
 have k4 := iv p1.To _ hy3
 try simp only [CL,MC,reduceToNat] at k4
 obtain ⟨c5,h⟩ := ifS h
 obtain ⟨y6,hy6,h⟩ := ob h
 have k7 := iv p1.Ledger _ hy6
 try simp only [CL,MC,reduceToNat] at k7
 obtain ⟨c8,h⟩ := ifS h
 obtain ⟨y9,hy9,h⟩ := ob h
 have k10 := zb9n p1.Asset _ hy9
 try simp only [CL,MC,reduceToNat] at k10
 obtain ⟨c11,h⟩ := ifS h
 obtain ⟨y12,hy12,h⟩ := ob h
 have k13 := iv p1.Amount _ hy12
 try simp only [CL,MC,reduceToNat] at k13
 obtain ⟨c14,h⟩ := ifS h
 injection h with h; subst h
 simp -implicitDefEqProofs only [zdbc,TT,Ic.t,ci,reduceEqDiff,reduceIte,reduceAdd,reduceLT,reduceCtorEq,reduceToNat,hl,k2,k4,c5,k7,c8,k10,c11,k13,c14,CL,LTN]
 exact hK
theorem zc6g (p1 : af) (r : ByteArray) (h : sj p1 = some r) (lk : Bool) (d : Option Nat) (K : av) (fr : TF) (tk : TK) (τ : TH) (hl : τ.lock ≤ τ.next) : fp G lk lx [.agg [.int .i64 p1.From,.int .i64 p1.To,.int .i64 p1.Ledger,.str p1.Asset,.int .i64 p1.Amount]] d K fr tk τ = K (gg fr d (.str r)) tk τ :=
 bn (zct0 p1 r h τ  hl) (zct0 p1 r h (τ.locked τ.next)  (Nat.le_refl _) ) (by simp -implicitDefEqProofs only [TT,Ic.t,ci,reduceEqDiff,reduceIte,reduceAdd,reduceLT,reduceCtorEq,reduceToNat,hl,CL,LTN])
def db (v1 : (List af)) (v2 : Int) (v0 : ByteArray) (v3 : Int) : Option (LS (ByteArray × Int) (ByteArray)) :=
 if v3 < v2 then
  ixL v1 v3 >>= fun y2 =>
  sj (⟨y2.From,y2.To,y2.Ledger,y2.Asset,y2.Amount⟩ : af) >>= fun y4 =>
  if v0.size + y4.size ≤ 140737488355328 then
   some (.nx ((v0 ++ y4),(IntKind.i64.wrap (v3 + (1 : Int)))))
  else
   none
 else
 some (.dn v0)
def ie (v1 : (List af)) (v2 : Int) (v0 : ByteArray) (v3 : Int) : Option (ByteArray) := sq (fun st => db v1 v2 st.1 st.2) (v0,v3)
theorem wq (v1 : (List af)) (v2 : Int) (v0 : ByteArray) (v3 : Int) : ie v1 v2 v0 v3 = db v1 v2 v0 v3 >>= LS.go (fun st => ie v1 v2 st.1 st.2) := gy (fun st => db v1 v2 st.1 st.2) (v0,v3)
def mf (v1 : (List af)) (v2 : Int) (v0 : ByteArray) (v3 : Int) (r : ByteArray) : Prop := ∀ (τ : TH) (o0 : Nat) (hl : τ.lock ≤ τ.next) (ub0 : Bool) (hub0 : ub0 = true ∨ v0.size = 0) (ha0 : τ.at o0 = some (oc o0 ub0 v0)) (hi0 : o0 < τ.next) (hw0 : τ.lock ≤ o0) (Q : TEx → av) (hQ0 : ∀ (fr : TF) (tk2 : TK) (τ2 : TH),∀ (ubx0 : Bool),(ubx0 = true ∨ r.size = 0) → lkp fr 5 = .ptr o0 0 → tk2.take 0 = [] → τ2.cut τ.next = (τ.put o0 (oc o0 ubx0 r)) → Q (.exit 0) fr tk2 τ2) ,tW G (.loop [1,5,12,13,14] pc) Q [(1,.func lx [] []),(5,.ptr o0 0),(12,.sl (List.map af.tv v1)),(13,.int .i64 v2),(14,.int .i64 v3)] [] τ
theorem zc8t (v1 : (List af)) (v2 : Int) (v0 : ByteArray) (v3 : Int) (r : ByteArray) (h : ie v1 v2 v0 v3 = some r) : mf v1 v2 v0 v3 r := by
 refine fg (f := fun st => db v1 v2 st.1 st.2) (P := fun st r => ∀ (v0 : ByteArray) (v3 : Int),(v0,v3) = st → mf v1 v2 v0 v3 r) ?_ h v0 v3 rfl
 clear h r v3 v0
 intro st o h r ih v0 v3 hst τ o0  hl ub0 hub0 ha0 hi0 hw0 Q hQ0
 subst hst
 have h : db v1 v2 v0 v3 = some o := h
 unfold db at h
 refine pj fun LQ hn hr he => ?_
 by_cases c1 : v3 < v2
 · rw [if_pos c1] at h
   obtain ⟨y2,hy2,h⟩ := ob h
   have f3 := de hy2
   have f3a := (f3.2.2 af.tv).1
   have f3b := (f3.2.2 af.tv).2
   try simp only [CL,MC,reduceToNat] at f3 f3a f3b
   obtain ⟨y4,hy4,h⟩ := ob h
   have k5 := zc6g (⟨y2.From,y2.To,y2.Ledger,y2.Asset,y2.Amount⟩ : af) _ hy4
   try simp only [CL,MC,reduceToNat] at k5
   obtain ⟨c6,h⟩ := ifS h
   have k7 := fun (id : Nat) (d : Option Nat) (K : av) (fr : TF) (tk : TK) (τ : TH) (ha : τ.at id = some (oc id ub0 v0)) (hi : id < τ.next) (hw : τ.lock ≤ id) (hl : τ.lock ≤ τ.next) => zb44 v0 id ub0 d K fr tk τ ha hi hw hl (by first | exact .inl rfl | assumption) y4 c6
   injection h with h; subst h
   have ih := ih (v0 ++ y4) (IntKind.i64.wrap (v3 + (1 : Int))) rfl
   unfold mf at ih
   simp -implicitDefEqProofs only [pc,r7,TT,Ic.t,ci,reduceEqDiff,reduceIte,reduceAdd,reduceLT,reduceCtorEq,reduceToNat,hl,gm,ha0,hi0,hw0,c1,f3.1,f3.2.1,f3a,f3b,k5,c6,k7,CL,LTN]
   rw [hn]
   simp -implicitDefEqProofs only [TT,Ic.t,ci,reduceEqDiff,reduceIte,reduceAdd,reduceLT,reduceCtorEq,reduceToNat,hl,gm,ha0,hi0,hw0,c1,f3.1,f3.2.1,f3a,f3b,k5,c6,k7,CL,LTN]
   exact ih  (τ.put o0 (oc o0 true (v0 ++ y4))) o0   (by first | assumption | (simp only [ag,ak]; assumption)) true (by first | exact .inl rfl | assumption) (by simp -implicitDefEqProofs only [TT,Ic.t,ci,reduceEqDiff,reduceIte,reduceAdd,reduceLT,reduceCtorEq,reduceToNat,hl,gm,ha0,hi0,hw0,c1,f3.1,f3.2.1,f3a,f3b,k5,c6,k7,CL,LTN]) (by first | assumption | (simp only [ag,ak]; assumption)) (by first | assumption | (simp only [ag,ak]; assumption)) Q (fun fr tk2 τ2 w0 w0' g0 ht hτ => hQ0 fr tk2 τ2 w0 w0' g0 ht (by first | exact hτ | simpa only [ag,zbjv,hl,gm,ha0,hi0,hw0] using hτ))
 rw [if_neg c1] at h
 injection h with h; subst h
 obtain rfl : _ = r := ih
 simp -implicitDefEqProofs only [pc,r7,TT,Ic.t,ci,reduceEqDiff,reduceIte,reduceAdd,reduceLT,reduceCtorEq,reduceToNat,hl,gm,ha0,hi0,hw0,he,hr,c1,CL,LTN]
 exact hQ0  _ _ _ ub0 (by first | exact .inl rfl | assumption) (by first | rfl | (simp -implicitDefEqProofs only [TT,Ic.t,ci,reduceEqDiff,reduceIte,reduceAdd,reduceLT,reduceCtorEq,reduceToNat,hl,gm,ha0,hi0,hw0,c1,CL,LTN])) (by first | rfl | (simp -implicitDefEqProofs only [TT,Ic.t,ci,reduceEqDiff,reduceIte,reduceAdd,reduceLT,reduceCtorEq,reduceToNat,hl,gm,ha0,hi0,hw0,c1,CL,LTN])) (by first | exact kf (Nat.le_refl _) | (simp -implicitDefEqProofs only [TT,Ic.t,ci,reduceEqDiff,reduceIte,reduceAdd,reduceLT,reduceCtorEq,reduceToNat,hl,gm,ha0,hi0,hw0,mi ha0,c1,CL,LTN]))
def ku (p1 : (List af)) : Option ByteArray :=
 gw ((p1.length : Nat) : Int) >>= fun y1 =>
 if y1.size ≤ 140737488355328 then
  ie p1 ((p1.length : Nat) : Int) y1 (0 : Int) >>= fun y5 =>
  if y5.size ≤ 140737488355328 then
   some y5
  else
   none
 else
  none
theorem zcwf (p1 : (List af)) (r : ByteArray) (h : ku p1 = some r) (τ : TH) (hl : τ.lock ≤ τ.next) : Ru G lg [.sl (List.map af.tv p1),.func lx [] []] τ (.str r) τ := by
 refine jv fun K hK => ?_
 rw [bx zc7p (Nat.le_of_ble_eq_true rfl)]
 unfold ku at h
 obtain ⟨y1,hy1,h⟩ := ob h
 have k2 := iv ((p1.length : Nat) : Int) _ hy1
 try simp only [CL,MC,reduceToNat] at k2
 obtain ⟨c3,h⟩ := ifS h
 have k4 := fun (id : Nat) (d : Option Nat) (K : av) (fr : TF) (tk : TK) (τ : TH) (ha : τ.at id = some (oc id false ⟨#[]⟩)) (hi : id < τ.next) (hw : τ.lock ≤ id) (hl : τ.lock ≤ τ.next) => zb9m id d K fr tk τ ha hi hw hl y1 c3
 obtain ⟨y5,hy5,h⟩ := ob h
 simp -implicitDefEqProofs only [r7,TT,Ic.t,ci,reduceEqDiff,reduceIte,reduceAdd,reduceLT,reduceCtorEq,reduceToNat,hl,k2,c3,k4,gm,CL,LTN]
 have Sy5 := zc8t p1 ((p1.length : Nat) : Int) y1 (0 : Int) y5 hy5
 unfold mf at Sy5
 refine Sy5 _ τ.next (by first | assumption | omega | (simp only [ag,ap,ak,bb]; omega)) true (by first | exact .inl rfl | exact .inr rfl | assumption) (by simp -implicitDefEqProofs only [TT,Ic.t,ci,reduceEqDiff,reduceIte,reduceAdd,reduceLT,reduceCtorEq,reduceToNat,hl,k2,c3,k4,gm,CL,LTN]) (by first | assumption | omega | (simp only [ag,ap,ak,bb]; omega)) (by first | assumption | omega | (simp only [ag,ap,ak,bb]; omega)) _ ?_
 intro frq6 tkq6 τq6 ubz6_0 huubz6_0 g5q6 htq6 hcq6
 have hcq6 := gc (n := τ.next + 1) hcq6 (by first | omega | (simp only [ag,ap]; omega))
 try simp only [List.take_succ_cons,List.take_zero,List.take_nil,CL] at htq6
 try simp -implicitDefEqProofs only [TT,Ic.t,ci,reduceEqDiff,reduceIte,reduceAdd,reduceLT,reduceCtorEq,reduceToNat,hl,k2,c3,k4,gm,CL,LTN] at hcq6
 obtain ⟨c7,h⟩ := ifS h
 have k8 := fun (id : Nat) (d : Option Nat) (K : av) (fr : TF) (tk : TK) (τ : TH) (ha : τ.at id = some (oc id ubz6_0 y5)) (hi : id < τ.next) (hw : τ.lock ≤ id) (hl : τ.lock ≤ τ.next) => zb8h y5 id ubz6_0 d K fr tk τ ha hi hw hl (by first | exact .inl rfl | assumption) c7
 injection h with h; subst h
 simp -implicitDefEqProofs only [r7,TT,Ic.t,ci,reduceEqDiff,reduceIte,reduceAdd,reduceLT,reduceCtorEq,reduceToNat,hl,k2,c3,k4,gm,g5q6,htq6,hcq6,c7,k8,CL,LTN]
 exact hK
theorem zc8h (p1 : (List af)) (r : ByteArray) (h : ku p1 = some r) (lk : Bool) (d : Option Nat) (K : av) (fr : TF) (tk : TK) (τ : TH) (hl : τ.lock ≤ τ.next) : fp G lk lg [.sl (List.map af.tv p1),.func lx [] []] d K fr tk τ = K (gg fr d (.str r)) tk τ :=
 bn (zcwf p1 r h τ  hl) (zcwf p1 r h (τ.locked τ.next)  (Nat.le_refl _) ) (by simp -implicitDefEqProofs only [TT,Ic.t,ci,reduceEqDiff,reduceIte,reduceAdd,reduceLT,reduceCtorEq,reduceToNat,hl,CL,LTN])
def eg (v1 : (List Int)) (v2 : Int) (v0 : ByteArray) (v3 : Int) : Option (LS (ByteArray × Int) (ByteArray)) :=
 if v3 < v2 then
  ixL v1 v3 >>= fun y2 =>
  gw y2 >>= fun y4 =>
  if v0.size + y4.size ≤ 140737488355328 then
   some (.nx ((v0 ++ y4),(IntKind.i64.wrap (v3 + (1 : Int)))))
  else
   none
 else
 some (.dn v0)
def me (v1 : (List Int)) (v2 : Int) (v0 : ByteArray) (v3 : Int) : Option (ByteArray) := sq (fun st => eg v1 v2 st.1 st.2) (v0,v3)
theorem zcwg (v1 : (List Int)) (v2 : Int) (v0 : ByteArray) (v3 : Int) : me v1 v2 v0 v3 = eg v1 v2 v0 v3 >>= LS.go (fun st => me v1 v2 st.1 st.2) := gy (fun st => eg v1 v2 st.1 st.2) (v0,v3)
def qd (v1 : (List Int)) (v2 : Int) (v0 : ByteArray) (v3 : Int) (r : ByteArray) : Prop := ∀ (τ : TH) (o0 : Nat) (hl : τ.lock ≤ τ.next) (ub0 : Bool) (hub0 : ub0 = true ∨ v0.size = 0) (ha0 : τ.at o0 = some (oc o0 ub0 v0)) (hi0 : o0 < τ.next) (hw0 : τ.lock ≤ o0) (Q : TEx → av) (hQ0 : ∀ (fr : TF) (tk2 : TK) (τ2 : TH),∀ (ubx0 : Bool),(ubx0 = true ∨ r.size = 0) → lkp fr 5 = .ptr o0 0 → tk2.take 0 = [] → τ2.cut τ.next = (τ.put o0 (oc o0 ubx0 r)) → Q (.exit 0) fr tk2 τ2) ,tW G (.loop [1,5,12,13,14] uz) Q [(1,.func fk [] []),(5,.ptr o0 0),(12,.sl (List.map (TV.int .i64) v1)),(13,.int .i64 v2),(14,.int .i64 v3)] [] τ
theorem zc74 (v1 : (List Int)) (v2 : Int) (v0 : ByteArray) (v3 : Int) (r : ByteArray) (h : me v1 v2 v0 v3 = some r) : qd v1 v2 v0 v3 r := by
 refine fg (f := fun st => eg v1 v2 st.1 st.2) (P := fun st r => ∀ (v0 : ByteArray) (v3 : Int),(v0,v3) = st → qd v1 v2 v0 v3 r) ?_ h v0 v3 rfl
 clear h r v3 v0
 intro st o h r ih v0 v3 hst τ o0  hl ub0 hub0 ha0 hi0 hw0 Q hQ0
 subst hst
 have h : eg v1 v2 v0 v3 = some o := h
 unfold eg at h
 refine pj fun LQ hn hr he => ?_
 by_cases c1 : v3 < v2
 · rw [if_pos c1] at h
   obtain ⟨y2,hy2,h⟩ := ob h
   have f3 := de hy2
   have f3a := (f3.2.2 (TV.int .i64)).1
   have f3b := (f3.2.2 (TV.int .i64)).2
   try simp only [CL,MC,reduceToNat] at f3 f3a f3b
   obtain ⟨y4,hy4,h⟩ := ob h
   have k5 := iv y2 _ hy4
   try simp only [CL,MC,reduceToNat] at k5
   obtain ⟨c6,h⟩ := ifS h
   have k7 := fun (id : Nat) (d : Option Nat) (K : av) (fr : TF) (tk : TK) (τ : TH) (ha : τ.at id = some (oc id ub0 v0)) (hi : id < τ.next) (hw : τ.lock ≤ id) (hl : τ.lock ≤ τ.next) => zb44 v0 id ub0 d K fr tk τ ha hi hw hl (by first | exact .inl rfl | assumption) y4 c6
   injection h with h; subst h
   have ih := ih (v0 ++ y4) (IntKind.i64.wrap (v3 + (1 : Int))) rfl
   unfold qd at ih
   simp -implicitDefEqProofs only [uz,zb9v,TT,Ic.t,ci,reduceEqDiff,reduceIte,reduceAdd,reduceLT,reduceCtorEq,reduceToNat,hl,gm,ha0,hi0,hw0,c1,f3.1,f3.2.1,f3a,f3b,k5,c6,k7,CL,LTN]
   rw [hn]
   simp -implicitDefEqProofs only [TT,Ic.t,ci,reduceEqDiff,reduceIte,reduceAdd,reduceLT,reduceCtorEq,reduceToNat,hl,gm,ha0,hi0,hw0,c1,f3.1,f3.2.1,f3a,f3b,k5,c6,k7,CL,LTN]
   exact ih  (τ.put o0 (oc o0 true (v0 ++ y4))) o0   (by first | assumption | (simp only [ag,ak]; assumption)) true (by first | exact .inl rfl | assumption) (by simp -implicitDefEqProofs only [TT,Ic.t,ci,reduceEqDiff,reduceIte,reduceAdd,reduceLT,reduceCtorEq,reduceToNat,hl,gm,ha0,hi0,hw0,c1,f3.1,f3.2.1,f3a,f3b,k5,c6,k7,CL,LTN]) (by first | assumption | (simp only [ag,ak]; assumption)) (by first | assumption | (simp only [ag,ak]; assumption)) Q (fun fr tk2 τ2 w0 w0' g0 ht hτ => hQ0 fr tk2 τ2 w0 w0' g0 ht (by first | exact hτ | simpa only [ag,zbjv,hl,gm,ha0,hi0,hw0] using hτ))
 rw [if_neg c1] at h
 injection h with h; subst h
 obtain rfl : _ = r := ih
 simp -implicitDefEqProofs only [uz,zb9v,TT,Ic.t,ci,reduceEqDiff,reduceIte,reduceAdd,reduceLT,reduceCtorEq,reduceToNat,hl,gm,ha0,hi0,hw0,he,hr,c1,CL,LTN]
 exact hQ0  _ _ _ ub0 (by first | exact .inl rfl | assumption) (by first | rfl | (simp -implicitDefEqProofs only [TT,Ic.t,ci,reduceEqDiff,reduceIte,reduceAdd,reduceLT,reduceCtorEq,reduceToNat,hl,gm,ha0,hi0,hw0,c1,CL,LTN])) (by first | rfl | (simp -implicitDefEqProofs only [TT,Ic.t,ci,reduceEqDiff,reduceIte,reduceAdd,reduceLT,reduceCtorEq,reduceToNat,hl,gm,ha0,hi0,hw0,c1,CL,LTN])) (by first | exact kf (Nat.le_refl _) | (simp -implicitDefEqProofs only [TT,Ic.t,ci,reduceEqDiff,reduceIte,reduceAdd,reduceLT,reduceCtorEq,reduceToNat,hl,gm,ha0,hi0,hw0,mi ha0,c1,CL,LTN]))
def qj (p1 : (List Int)) : Option ByteArray :=
 gw ((p1.length : Nat) : Int) >>= fun y1 =>
 if y1.size ≤ 140737488355328 then
  me p1 ((p1.length : Nat) : Int) y1 (0 : Int) >>= fun y5 =>
  if y5.size ≤ 140737488355328 then
   some y5
  else
   none
 else
  none
theorem zcue (p1 : (List Int)) (r : ByteArray) (h : qj p1 = some r) (τ : TH) (hl : τ.lock ≤ τ.next) : Ru G qw [.sl (List.map (TV.int .i64) p1),.func fk [] []] τ (.str r) τ := by
 refine jv fun K hK => ?_
 rw [bx zc5p (Nat.le_of_ble_eq_true rfl)]
 unfold qj at h
 obtain ⟨y1,hy1,h⟩ := ob h
 have k2 := iv ((p1.length : Nat) : Int) _ hy1
 try simp only [CL,MC,reduceToNat] at k2
 obtain ⟨c3,h⟩ := ifS h
 have k4 := fun (id : Nat) (d : Option Nat) (K : av) (fr : TF) (tk : TK) (τ : TH) (ha : τ.at id = some (oc id false ⟨#[]⟩)) (hi : id < τ.next) (hw : τ.lock ≤ id) (hl : τ.lock ≤ τ.next) => zb9m id d K fr tk τ ha hi hw hl y1 c3
 obtain ⟨y5,hy5,h⟩ := ob h
 simp -implicitDefEqProofs only [zb9v,TT,Ic.t,ci,reduceEqDiff,reduceIte,reduceAdd,reduceLT,reduceCtorEq,reduceToNat,hl,k2,c3,k4,gm,CL,LTN]
 have Sy5 := zc74 p1 ((p1.length : Nat) : Int) y1 (0 : Int) y5 hy5
 unfold qd at Sy5
 refine Sy5 _ τ.next (by first | assumption | omega | (simp only [ag,ap,ak,bb]; omega)) true (by first | exact .inl rfl | exact .inr rfl | assumption) (by simp -implicitDefEqProofs only [TT,Ic.t,ci,reduceEqDiff,reduceIte,reduceAdd,reduceLT,reduceCtorEq,reduceToNat,hl,k2,c3,k4,gm,CL,LTN]) (by first | assumption | omega | (simp only [ag,ap,ak,bb]; omega)) (by first | assumption | omega | (simp only [ag,ap,ak,bb]; omega)) _ ?_
 intro frq6 tkq6 τq6 ubz6_0 huubz6_0 g5q6 htq6 hcq6
 have hcq6 := gc (n := τ.next + 1) hcq6 (by first | omega | (simp only [ag,ap]; omega))
 try simp only [List.take_succ_cons,List.take_zero,List.take_nil,CL] at htq6
 try simp -implicitDefEqProofs only [TT,Ic.t,ci,reduceEqDiff,reduceIte,reduceAdd,reduceLT,reduceCtorEq,reduceToNat,hl,k2,c3,k4,gm,CL,LTN] at hcq6
 obtain ⟨c7,h⟩ := ifS h
 have k8 := fun (id : Nat) (d : Option Nat) (K : av) (fr : TF) (tk : TK) (τ : TH) (ha : τ.at id = some (oc id ubz6_0 y5)) (hi : id < τ.next) (hw : τ.lock ≤ id) (hl : τ.lock ≤ τ.next) => zb8h y5 id ubz6_0 d K fr tk τ ha hi hw hl (by first | exact .inl rfl | assumption) c7
 injection h with h; subst h
 simp -implicitDefEqProofs only [zb9v,TT,Ic.t,ci,reduceEqDiff,reduceIte,reduceAdd,reduceLT,reduceCtorEq,reduceToNat,hl,k2,c3,k4,gm,g5q6,htq6,hcq6,c7,k8,CL,LTN]
 exact hK
theorem zc6z (p1 : (List Int)) (r : ByteArray) (h : qj p1 = some r) (lk : Bool) (d : Option Nat) (K : av) (fr : TF) (tk : TK) (τ : TH) (hl : τ.lock ≤ τ.next) : fp G lk qw [.sl (List.map (TV.int .i64) p1),.func fk [] []] d K fr tk τ = K (gg fr d (.str r)) tk τ :=
 bn (zcue p1 r h τ  hl) (zcue p1 r h (τ.locked τ.next)  (Nat.le_refl _) ) (by simp -implicitDefEqProofs only [TT,Ic.t,ci,reduceEqDiff,reduceIte,reduceAdd,reduceLT,reduceCtorEq,reduceToNat,hl,CL,LTN])
def ua (p1 : aq) : Option ByteArray :=
 l5 p1 >>= fun y1 =>
 if y1 = true then
  pe p1.ID >>= fun y4 =>
  ji p1.Parties >>= fun y6 =>
  if ¬ (9223372036854775807 < ((y4.size + y6.size : Nat) : Int)) then
   ku p1.Arcs >>= fun y9 =>
   if ¬ (9223372036854775807 < (((y4 ++ y6).size + y9.size : Nat) : Int)) then
    qj p1.Leaders >>= fun y12 =>
    if ¬ (9223372036854775807 < ((((y4 ++ y6) ++ y9).size + y12.size : Nat) : Int)) then
     jy p1.Locks >>= fun y15 =>
     if ¬ (9223372036854775807 < (((((y4 ++ y6) ++ y9) ++ y12).size + y15.size : Nat) : Int)) then
      gw p1.Start >>= fun y18 =>
      if ¬ (9223372036854775807 < ((((((y4 ++ y6) ++ y9) ++ y12) ++ y15).size + y18.size : Nat) : Int)) then
       gw p1.Delta >>= fun y21 =>
       if ¬ (9223372036854775807 < (((((((y4 ++ y6) ++ y9) ++ y12) ++ y15) ++ y18).size + y21.size : Nat) : Int)) then
        some ((((((y4 ++ y6) ++ y9) ++ y12) ++ y15) ++ y18) ++ y21)
       else
        none
      else
       none
     else
      none
    else
     none
   else
    none
  else
   none
 else
 some (⟨#[]⟩ : ByteArray)
theorem zcsj (p1 : aq) (r : ByteArray) (h : ua p1 = some r) (τ : TH) (hl : τ.lock ≤ τ.next) : Ru G rq [.agg [.str p1.ID,.sl (List.map ac.tv p1.Parties),.sl (List.map af.tv p1.Arcs),.sl (List.map (TV.int .i64) p1.Leaders),.sl (List.map TV.str p1.Locks),.int .i64 p1.Start,.int .i64 p1.Delta]] τ (.str r) τ := by
 refine jv fun K hK => ?_
 rw [bx zc90 (Nat.le_of_ble_eq_true rfl)]
 unfold ua at h
 obtain ⟨y1,hy1,h⟩ := ob h
 have k2 := zb9p p1 _ hy1
 try simp only [CL,MC,reduceToNat] at k2
 by_cases c3 : y1 = true
 · rw [if_pos c3] at h
   obtain ⟨y4,hy4,h⟩ := ob h
   have k5 := zb9n p1.ID _ hy4
   try simp only [CL,MC,reduceToNat] at k5
   obtain ⟨y6,hy6,h⟩ := ob h
   have k7 := zc8m p1.Parties _ hy6
   try simp only [CL,MC,reduceToNat] at k7
   obtain ⟨c8,h⟩ := ifS h
   obtain ⟨y9,hy9,h⟩ := ob h
   have k10 := zc8h p1.Arcs _ hy9
   try simp only [CL,MC,reduceToNat] at k10
   obtain ⟨c11,h⟩ := ifS h
   obtain ⟨y12,hy12,h⟩ := ob h
   have k13 := zc6z p1.Leaders _ hy12
   try simp only [CL,MC,reduceToNat] at k13
   obtain ⟨c14,h⟩ := ifS h
   obtain ⟨y15,hy15,h⟩ := ob h
   have k16 := zcvu p1.Locks _ hy15
   try simp only [CL,MC,reduceToNat] at k16
   obtain ⟨c17,h⟩ := ifS h
   obtain ⟨y18,hy18,h⟩ := ob h
   have k19 := iv p1.Start _ hy18
   try simp only [CL,MC,reduceToNat] at k19
   obtain ⟨c20,h⟩ := ifS h
   obtain ⟨y21,hy21,h⟩ := ob h
   have k22 := iv p1.Delta _ hy21
   try simp only [CL,MC,reduceToNat] at k22
   obtain ⟨c23,h⟩ := ifS h
   injection h with h; subst h
   simp -implicitDefEqProofs only [zcmu,TT,Ic.t,ci,reduceEqDiff,reduceIte,reduceAdd,reduceLT,reduceCtorEq,reduceToNat,hl,k2,c3,k5,k7,c8,k10,c11,k13,c14,k16,c17,k19,c20,k22,c23,CL,LTN]
   first | exact hK | (simp only [hl,k2,c3,k5,k7,c8,k10,c11,k13,c14,k16,c17,k19,c20,k22,c23,CL] at hK; exact hK)
 rw [if_neg c3] at h
 have c3 := Bool.eq_false_iff.2 c3
 injection h with h; subst h
 simp -implicitDefEqProofs only [zcmu,TT,Ic.t,ci,reduceEqDiff,reduceIte,reduceAdd,reduceLT,reduceCtorEq,reduceToNat,hl,k2,c3,CL,LTN]
 first | exact hK | (simp only [hl,k2,c3,CL] at hK; exact hK)
theorem zcsi (p1 : aq) (r : ByteArray) (h : ua p1 = some r) (lk : Bool) (d : Option Nat) (K : av) (fr : TF) (tk : TK) (τ : TH) (hl : τ.lock ≤ τ.next) : fp G lk rq [.agg [.str p1.ID,.sl (List.map ac.tv p1.Parties),.sl (List.map af.tv p1.Arcs),.sl (List.map (TV.int .i64) p1.Leaders),.sl (List.map TV.str p1.Locks),.int .i64 p1.Start,.int .i64 p1.Delta]] d K fr tk τ = K (gg fr d (.str r)) tk τ :=
 bn (zcsj p1 r h τ  hl) (zcsj p1 r h (τ.locked τ.next)  (Nat.le_refl _) ) (by simp -implicitDefEqProofs only [TT,Ic.t,ci,reduceEqDiff,reduceIte,reduceAdd,reduceLT,reduceCtorEq,reduceToNat,hl,CL,LTN])
def zb4x (p1 : ByteArray) : Option aa :=
 some (⟨p1,false⟩ : aa)
theorem zdan (p1 : ByteArray) (r : aa) (h : zb4x p1 = some r) (τ : TH) (hl : τ.lock ≤ τ.next) : Ru G zb3l [.str p1] τ (.ptr τ.next 0) (τ.push ⟨ah,[.str r.s_,.bool r.bad_]⟩) := by
 refine jv fun K hK => ?_
 rw [bx zc4q (Nat.le_of_ble_eq_true rfl)]
 unfold zb4x at h
 injection h with h; subst h
 simp -implicitDefEqProofs only [zc37,TT,Ic.t,ci,reduceEqDiff,reduceIte,reduceAdd,reduceMul,reduceLT,reduceLeDiff,reduceSub,reduceCtorEq,reduceEq,reduceNe,reduceToNat,Int.reduceLT,reduceLE,reduceNeg,hl,CL,LTN]
 exact hK
theorem zdam (p1 : ByteArray) (r : aa) (h : zb4x p1 = some r) (d : Option Nat) (K : av) (fr : TF) (tk : TK) (τ : TH) (hl : τ.lock ≤ τ.next) : fp G false zb3l [.str p1] d K fr tk τ = K (gg fr d (.ptr τ.next 0)) tk (τ.push ⟨ah,[.str r.s_,.bool r.bad_]⟩) :=
 n7 (zdan p1 r h τ  hl) (by simp -implicitDefEqProofs only [TT,Ic.t,ci,reduceEqDiff,reduceIte,reduceAdd,reduceLT,reduceCtorEq,reduceToNat,hl,CL,LTN])
def gf (p1 : aa) : Option aa :=
 some (⟨(⟨#[]⟩ : ByteArray),true⟩ : aa)
theorem zc72 (p1 : aa) (r : aa) (h : gf p1 = some r) (τ : TH) (o0 : Nat) (hl : τ.lock ≤ τ.next) (ha0 : τ.at o0 = some ⟨ah,[.str p1.s_,.bool p1.bad_]⟩) (hi0 : o0 < τ.next) (hw0 : τ.lock ≤ o0) : Ru G jg [.ptr o0 0] τ (.tup []) (τ.put o0 ⟨ah,[.str r.s_,.bool r.bad_]⟩) := by
 refine jv fun K hK => ?_
 rw [bx zc7k (Nat.le_of_ble_eq_true rfl)]
 unfold gf at h
 injection h with h; subst h
 simp -implicitDefEqProofs only [zc69,TT,Ic.t,ci,reduceEqDiff,reduceIte,reduceAdd,reduceMul,reduceLT,reduceLeDiff,reduceSub,reduceCtorEq,reduceEq,reduceNe,reduceToNat,Int.reduceLT,reduceLE,reduceNeg,hl,ha0,hi0,hw0,CL,LTN]
 exact hK
theorem mb (p1 : aa) (r : aa) (h : gf p1 = some r) (d : Option Nat) (K : av) (fr : TF) (tk : TK) (τ : TH) (o0 : Nat) (hl : τ.lock ≤ τ.next) (ha0 : τ.at o0 = some ⟨ah,[.str p1.s_,.bool p1.bad_]⟩) (hi0 : o0 < τ.next) (hw0 : τ.lock ≤ o0) : fp G false jg [.ptr o0 0] d K fr tk τ = K (gg fr d (.tup [])) tk (τ.put o0 ⟨ah,[.str r.s_,.bool r.bad_]⟩) :=
 n7 (zc72 p1 r h τ o0 hl ha0 hi0 hw0) (by simp -implicitDefEqProofs only [TT,Ic.t,ci,reduceEqDiff,reduceIte,reduceAdd,reduceLT,reduceCtorEq,reduceToNat,hl,ha0,hi0,hw0,CL,LTN])
def i8 (p1 : aa) (p2 : Int) : Option (ByteArray × aa) :=
 if p1.bad_ = true then
  gf p1 >>= fun y2 =>
  some ((⟨#[]⟩ : ByteArray),y2)
 else
 if p2 < (0 : Int) then
  gf p1 >>= fun y5 =>
  some ((⟨#[]⟩ : ByteArray),y5)
 else
 if ((p1.s_.size : Nat) : Int) < p2 then
  gf p1 >>= fun y8 =>
  some ((⟨#[]⟩ : ByteArray),y8)
 else
 if 0 ≤ p2 ∧ p2 ≤ (p1.s_.size : Int) then
  some ((p1.s_.extract 0 p2.toNat),(⟨(p1.s_.extract p2.toNat p1.s_.size),p1.bad_⟩ : aa))
 else
  none
theorem zc73 (p1 : aa) (p2 : Int) (r : ByteArray × aa) (h : i8 p1 p2 = some r) (τ : TH) (o0 : Nat) (hl : τ.lock ≤ τ.next) (ha0 : τ.at o0 = some ⟨ah,[.str p1.s_,.bool p1.bad_]⟩) (hi0 : o0 < τ.next) (hw0 : τ.lock ≤ o0) : Ru G jf [.ptr o0 0,.int .i64 p2] τ (.str r.1) (τ.put o0 ⟨ah,[.str r.2.s_,.bool r.2.bad_]⟩) := by
 refine jv fun K hK => ?_
 rw [bx zc7l (Nat.le_of_ble_eq_true rfl)]
 unfold i8 at h
 by_cases c1 : p1.bad_ = true
 · rw [if_pos c1] at h
   obtain ⟨y2,hy2,h⟩ := ob h
   have k3 := mb p1 _ hy2
   try simp only [CL,MC,reduceToNat] at k3
   injection h with h; subst h
   simp -implicitDefEqProofs only [r9,TT,Ic.t,ci,reduceEqDiff,reduceIte,reduceAdd,reduceMul,reduceLT,reduceLeDiff,reduceSub,reduceCtorEq,reduceEq,reduceNe,reduceToNat,Int.reduceLT,reduceLE,reduceNeg,hl,ha0,hi0,hw0,c1,k3,CL,LTN]
   first | exact hK | (simp only [hl,ha0,hi0,hw0,c1,k3,CL] at hK; exact hK)
 rw [if_neg c1] at h
 have c1 := Bool.eq_false_iff.2 c1
 by_cases c4 : p2 < (0 : Int)
 · rw [if_pos c4] at h
   obtain ⟨y5,hy5,h⟩ := ob h
   have k6 := mb p1 _ hy5
   try simp only [CL,MC,reduceToNat] at k6
   injection h with h; subst h
   simp -implicitDefEqProofs only [r9,TT,Ic.t,ci,reduceEqDiff,reduceIte,reduceAdd,reduceMul,reduceLT,reduceLeDiff,reduceSub,reduceCtorEq,reduceEq,reduceNe,reduceToNat,Int.reduceLT,reduceLE,reduceNeg,hl,ha0,hi0,hw0,c1,c4,k6,CL,LTN]
   first | exact hK | (simp only [hl,ha0,hi0,hw0,c1,c4,k6,CL] at hK; exact hK)
 rw [if_neg c4] at h
 by_cases c7 : ((p1.s_.size : Nat) : Int) < p2
 · rw [if_pos c7] at h
   obtain ⟨y8,hy8,h⟩ := ob h
   have k9 := mb p1 _ hy8
   try simp only [CL,MC,reduceToNat] at k9
   injection h with h; subst h
   simp -implicitDefEqProofs only [r9,TT,Ic.t,ci,reduceEqDiff,reduceIte,reduceAdd,reduceMul,reduceLT,reduceLeDiff,reduceSub,reduceCtorEq,reduceEq,reduceNe,reduceToNat,Int.reduceLT,reduceLE,reduceNeg,hl,ha0,hi0,hw0,c1,c4,c7,k9,CL,LTN]
   first | exact hK | (simp only [hl,ha0,hi0,hw0,c1,c4,c7,k9,CL] at hK; exact hK)
 rw [if_neg c7] at h
 obtain ⟨c10,h⟩ := ifS h
 injection h with h; subst h
 simp -implicitDefEqProofs only [r9,TT,Ic.t,ci,reduceEqDiff,reduceIte,reduceAdd,reduceMul,reduceLT,reduceLeDiff,reduceSub,reduceCtorEq,reduceEq,reduceNe,reduceToNat,Int.reduceLT,reduceLE,reduceNeg,hl,ha0,hi0,hw0,c1,c4,c7,c10,CL,LTN]
 first | exact hK | (simp only [hl,ha0,hi0,hw0,c1,c4,c7,c10,CL] at hK; exact hK)
theorem zcvl (p1 : aa) (p2 : Int) (r : ByteArray × aa) (h : i8 p1 p2 = some r) (d : Option Nat) (K : av) (fr : TF) (tk : TK) (τ : TH) (o0 : Nat) (hl : τ.lock ≤ τ.next) (ha0 : τ.at o0 = some ⟨ah,[.str p1.s_,.bool p1.bad_]⟩) (hi0 : o0 < τ.next) (hw0 : τ.lock ≤ o0) : fp G false jf [.ptr o0 0,.int .i64 p2] d K fr tk τ = K (gg fr d (.str r.1)) tk (τ.put o0 ⟨ah,[.str r.2.s_,.bool r.2.bad_]⟩) :=
 n7 (zc73 p1 p2 r h τ o0 hl ha0 hi0 hw0) (by simp -implicitDefEqProofs only [TT,Ic.t,ci,reduceEqDiff,reduceIte,reduceAdd,reduceLT,reduceCtorEq,reduceToNat,hl,ha0,hi0,hw0,CL,LTN])
def dh (v1 : (List Int)) (v2 : Int) (v0 : Int) (v3 : Int) : Option (LS (Int × Int) (Int)) :=
 if v3 < v2 then
  ixL v1 v3 >>= fun y2 =>
  some (IntKind.i64.wrap ((BitVec.ofInt IntKind.i64.bits (IntKind.i64.wrap (v0 * 2 ^ (Nat.min 8 IntKind.i64.bits))) ||| BitVec.ofInt IntKind.i64.bits (IntKind.i64.wrap y2)).toNat : Int)) >>= fun x4 =>
  some (.nx (x4,(IntKind.i64.wrap (v3 + (1 : Int)))))
 else
 some (.dn v0)
def jl (v1 : (List Int)) (v2 : Int) (v0 : Int) (v3 : Int) : Option (Int) := sq (fun st => dh v1 v2 st.1 st.2) (v0,v3)
theorem z0 (v1 : (List Int)) (v2 : Int) (v0 : Int) (v3 : Int) : jl v1 v2 v0 v3 = dh v1 v2 v0 v3 >>= LS.go (fun st => jl v1 v2 st.1 st.2) := gy (fun st => dh v1 v2 st.1 st.2) (v0,v3)
def nc (v1 : (List Int)) (v2 : Int) (v0 : Int) (v3 : Int) (r : Int) : Prop := ∀ (τ : TH) (hl : τ.lock ≤ τ.next) (Q : TEx → av) (hQ0 : ∀ (fr : TF) (tk2 : TK) (τ2 : TH),lkp fr 3 = .int .i64 r → tk2.take 0 = [] → τ2.cut τ.next = τ → Q (.exit 0) fr tk2 τ2) ,tW G (.loop [3,8,9,10] qf) Q [(3,.int .i64 v0),(8,.sl (List.map (TV.int .u8) v1)),(9,.int .i64 v2),(10,.int .i64 v3)] [] τ
theorem zc8j (v1 : (List Int)) (v2 : Int) (v0 : Int) (v3 : Int) (r : Int) (h : jl v1 v2 v0 v3 = some r) : nc v1 v2 v0 v3 r := by
 refine fg (f := fun st => dh v1 v2 st.1 st.2) (P := fun st r => ∀ (v0 : Int) (v3 : Int),(v0,v3) = st → nc v1 v2 v0 v3 r) ?_ h v0 v3 rfl
 clear h r v3 v0
 intro st o h r ih v0 v3 hst τ  hl Q hQ0
 subst hst
 have h : dh v1 v2 v0 v3 = some o := h
 unfold dh at h
 refine pj fun LQ hn hr he => ?_
 by_cases c1 : v3 < v2
 · rw [if_pos c1] at h
   obtain ⟨y2,hy2,h⟩ := ob h
   have f3 := de hy2
   have f3a := (f3.2.2 (TV.int .u8)).1
   have f3b := (f3.2.2 (TV.int .u8)).2
   try simp only [CL,MC,reduceToNat] at f3 f3a f3b
   obtain ⟨x4,hx4,h⟩ := ob h
   have f5 := Option.some.inj hx4
   injection h with h; subst h
   have ih := ih x4 (IntKind.i64.wrap (v3 + (1 : Int))) rfl
   unfold nc at ih
   simp -implicitDefEqProofs only [qf,tx,TT,Ic.t,ci,reduceEqDiff,reduceIte,reduceAdd,reduceMul,reduceLT,reduceLeDiff,reduceSub,reduceCtorEq,reduceEq,reduceNe,reduceToNat,Int.reduceLT,reduceLE,reduceNeg,hl,c1,f3.1,f3.2.1,f3a,f3b,f5,CL,LTN]
   rw [hn]
   simp -implicitDefEqProofs only [TT,Ic.t,ci,reduceEqDiff,reduceIte,reduceAdd,reduceMul,reduceLT,reduceLeDiff,reduceSub,reduceCtorEq,reduceEq,reduceNe,reduceToNat,Int.reduceLT,reduceLE,reduceNeg,hl,c1,f3.1,f3.2.1,f3a,f3b,f5,CL,LTN]
   exact ih  τ    (by first | assumption | (simp only [ag,ak]; assumption)) Q hQ0
 rw [if_neg c1] at h
 injection h with h; subst h
 obtain rfl : _ = r := ih
 simp -implicitDefEqProofs only [qf,tx,TT,Ic.t,ci,reduceEqDiff,reduceIte,reduceAdd,reduceMul,reduceLT,reduceLeDiff,reduceSub,reduceCtorEq,reduceEq,reduceNe,reduceToNat,Int.reduceLT,reduceLE,reduceNeg,hl,he,hr,c1,CL,LTN]
 exact hQ0  _ _ _  (by first | rfl | (simp -implicitDefEqProofs only [TT,Ic.t,ci,reduceEqDiff,reduceIte,reduceAdd,reduceMul,reduceLT,reduceLeDiff,reduceSub,reduceCtorEq,reduceEq,reduceNe,reduceToNat,Int.reduceLT,reduceLE,reduceNeg,hl,c1,CL,LTN])) (by first | rfl | (simp -implicitDefEqProofs only [TT,Ic.t,ci,reduceEqDiff,reduceIte,reduceAdd,reduceMul,reduceLT,reduceLeDiff,reduceSub,reduceCtorEq,reduceEq,reduceNe,reduceToNat,Int.reduceLT,reduceLE,reduceNeg,hl,c1,CL,LTN])) (by first | exact kf (Nat.le_refl _) | (simp -implicitDefEqProofs only [TT,Ic.t,ci,reduceEqDiff,reduceIte,reduceAdd,reduceMul,reduceLT,reduceLeDiff,reduceSub,reduceCtorEq,reduceEq,reduceNe,reduceToNat,Int.reduceLT,reduceLE,reduceNeg,hl,c1,CL,LTN]))
def df (p1 : aa) : Option (Int × aa) :=
 i8 p1 (8 : Int) >>= fun y1 =>
 jl (qt y1.1) (((qt y1.1).length : Nat) : Int) (0 : Int) (0 : Int) >>= fun y3 =>
 some (y3,y1.2)
theorem zc7v (p1 : aa) (r : Int × aa) (h : df p1 = some r) (τ : TH) (o0 : Nat) (hl : τ.lock ≤ τ.next) (ha0 : τ.at o0 = some ⟨ah,[.str p1.s_,.bool p1.bad_]⟩) (hi0 : o0 < τ.next) (hw0 : τ.lock ≤ o0) : Ru G bp [.ptr o0 0] τ (.int .i64 r.1) (τ.put o0 ⟨ah,[.str r.2.s_,.bool r.2.bad_]⟩) := by
 refine jv fun K hK => ?_
 rw [bx zc62 (Nat.le_of_ble_eq_true rfl)]
 unfold df at h
 obtain ⟨y1,hy1,h⟩ := ob h
 have k2 := zcvl p1 (8 : Int) _ hy1
 try simp only [CL,MC,reduceToNat] at k2
 obtain ⟨y3,hy3,h⟩ := ob h
 simp -implicitDefEqProofs only [tx,TT,Ic.t,ci,reduceEqDiff,reduceIte,reduceAdd,reduceLT,reduceCtorEq,reduceToNat,hl,ha0,hi0,hw0,k2,CL,LTN]
 have Sy3 := zc8j (qt y1.1) (((qt y1.1).length : Nat) : Int) (0 : Int) (0 : Int) y3 hy3
 unfold nc at Sy3
 refine Sy3 _ (by first | assumption | omega | (simp only [ag,ap,ak,bb]; omega)) _ ?_
 intro frq4 tkq4 τq4 g3q4 htq4 hcq4
 have hcq4 := gc (n := τ.next) hcq4 (by first | omega | (simp only [ag,ap]; omega))
 try simp only [List.take_succ_cons,List.take_zero,List.take_nil,CL] at htq4
 try simp -implicitDefEqProofs only [TT,Ic.t,ci,reduceEqDiff,reduceIte,reduceAdd,reduceLT,reduceCtorEq,reduceToNat,hl,ha0,hi0,hw0,k2,CL,LTN] at hcq4
 injection h with h; subst h
 simp -implicitDefEqProofs only [tx,TT,Ic.t,ci,reduceEqDiff,reduceIte,reduceAdd,reduceLT,reduceCtorEq,reduceToNat,hl,ha0,hi0,hw0,k2,g3q4,htq4,hcq4,CL,LTN]
 exact hK
theorem gj (p1 : aa) (r : Int × aa) (h : df p1 = some r) (d : Option Nat) (K : av) (fr : TF) (tk : TK) (τ : TH) (o0 : Nat) (hl : τ.lock ≤ τ.next) (ha0 : τ.at o0 = some ⟨ah,[.str p1.s_,.bool p1.bad_]⟩) (hi0 : o0 < τ.next) (hw0 : τ.lock ≤ o0) : fp G false bp [.ptr o0 0] d K fr tk τ = K (gg fr d (.int .i64 r.1)) tk (τ.put o0 ⟨ah,[.str r.2.s_,.bool r.2.bad_]⟩) :=
 n7 (zc7v p1 r h τ o0 hl ha0 hi0 hw0) (by simp -implicitDefEqProofs only [TT,Ic.t,ci,reduceEqDiff,reduceIte,reduceAdd,reduceLT,reduceCtorEq,reduceToNat,hl,ha0,hi0,hw0,CL,LTN])
def nr (p1 : aa) (p2 : Int) : Option (Int × aa) :=
 df p1 >>= fun y1 =>
 if y1.1 < (0 : Int) then
  gf y1.2 >>= fun y4 =>
  some ((0 : Int),y4)
 else
 if p2 < y1.1 then
  gf y1.2 >>= fun y7 =>
  some ((0 : Int),y7)
 else
 some (y1.1,y1.2)
theorem zc7h (p1 : aa) (p2 : Int) (r : Int × aa) (h : nr p1 p2 = some r) (τ : TH) (o0 : Nat) (hl : τ.lock ≤ τ.next) (ha0 : τ.at o0 = some ⟨ah,[.str p1.s_,.bool p1.bad_]⟩) (hi0 : o0 < τ.next) (hw0 : τ.lock ≤ o0) : Ru G nu [.ptr o0 0,.func bp [.ptr o0 0] [],.int .i64 p2] τ (.int .i64 r.1) (τ.put o0 ⟨ah,[.str r.2.s_,.bool r.2.bad_]⟩) := by
 refine jv fun K hK => ?_
 rw [bx zc6n (Nat.le_of_ble_eq_true rfl)]
 unfold nr at h
 obtain ⟨y1,hy1,h⟩ := ob h
 have k2 := gj p1 _ hy1
 try simp only [CL,MC,reduceToNat] at k2
 by_cases c3 : y1.1 < (0 : Int)
 · rw [if_pos c3] at h
   obtain ⟨y4,hy4,h⟩ := ob h
   have k5 := mb y1.2 _ hy4
   try simp only [CL,MC,reduceToNat] at k5
   injection h with h; subst h
   simp -implicitDefEqProofs only [zcd8,TT,Ic.t,ci,reduceEqDiff,reduceIte,reduceAdd,reduceLT,reduceCtorEq,reduceToNat,hl,ha0,hi0,hw0,k2,c3,k5,CL,LTN]
   exact hK
 rw [if_neg c3] at h
 by_cases c6 : p2 < y1.1
 · rw [if_pos c6] at h
   obtain ⟨y7,hy7,h⟩ := ob h
   have k8 := mb y1.2 _ hy7
   try simp only [CL,MC,reduceToNat] at k8
   injection h with h; subst h
   simp -implicitDefEqProofs only [zcd8,TT,Ic.t,ci,reduceEqDiff,reduceIte,reduceAdd,reduceLT,reduceCtorEq,reduceToNat,hl,ha0,hi0,hw0,k2,c3,c6,k8,CL,LTN]
   exact hK
 rw [if_neg c6] at h
 injection h with h; subst h
 simp -implicitDefEqProofs only [zcd8,TT,Ic.t,ci,reduceEqDiff,reduceIte,reduceAdd,reduceLT,reduceCtorEq,reduceToNat,hl,ha0,hi0,hw0,k2,c3,c6,CL,LTN]
 exact hK
theorem zc7g (p1 : aa) (p2 : Int) (r : Int × aa) (h : nr p1 p2 = some r) (d : Option Nat) (K : av) (fr : TF) (tk : TK) (τ : TH) (o0 : Nat) (hl : τ.lock ≤ τ.next) (ha0 : τ.at o0 = some ⟨ah,[.str p1.s_,.bool p1.bad_]⟩) (hi0 : o0 < τ.next) (hw0 : τ.lock ≤ o0) : fp G false nu [.ptr o0 0,.func bp [.ptr o0 0] [],.int .i64 p2] d K fr tk τ = K (gg fr d (.int .i64 r.1)) tk (τ.put o0 ⟨ah,[.str r.2.s_,.bool r.2.bad_]⟩) :=
 n7 (zc7h p1 p2 r h τ o0 hl ha0 hi0 hw0) (by simp -implicitDefEqProofs only [TT,Ic.t,ci,reduceEqDiff,reduceIte,reduceAdd,reduceLT,reduceCtorEq,reduceToNat,hl,ha0,hi0,hw0,CL,LTN])
def d5 (p1 : aa) (p2 : Int) : Option (Int × aa) :=
 nr p1 p2 >>= fun y1 =>
 some (y1.1,y1.2)
theorem zc8b (p1 : aa) (p2 : Int) (r : Int × aa) (h : d5 p1 p2 = some r) (τ : TH) (o0 : Nat) (hl : τ.lock ≤ τ.next) (ha0 : τ.at o0 = some ⟨ah,[.str p1.s_,.bool p1.bad_]⟩) (hi0 : o0 < τ.next) (hw0 : τ.lock ≤ o0) : Ru G d6 [.ptr o0 0,.int .i64 p2] τ (.int .i64 r.1) (τ.put o0 ⟨ah,[.str r.2.s_,.bool r.2.bad_]⟩) := by
 refine jv fun K hK => ?_
 rw [bx zc7w (Nat.le_of_ble_eq_true rfl)]
 unfold d5 at h
 obtain ⟨y1,hy1,h⟩ := ob h
 have k2 := zc7g p1 p2 _ hy1
 try simp only [CL,MC,reduceToNat] at k2
 injection h with h; subst h
 simp -implicitDefEqProofs only [zc7r,TT,Ic.t,ci,reduceEqDiff,reduceIte,reduceAdd,reduceLT,reduceCtorEq,reduceToNat,hl,ha0,hi0,hw0,k2,CL,LTN]
 exact hK
theorem kn (p1 : aa) (p2 : Int) (r : Int × aa) (h : d5 p1 p2 = some r) (d : Option Nat) (K : av) (fr : TF) (tk : TK) (τ : TH) (o0 : Nat) (hl : τ.lock ≤ τ.next) (ha0 : τ.at o0 = some ⟨ah,[.str p1.s_,.bool p1.bad_]⟩) (hi0 : o0 < τ.next) (hw0 : τ.lock ≤ o0) : fp G false d6 [.ptr o0 0,.int .i64 p2] d K fr tk τ = K (gg fr d (.int .i64 r.1)) tk (τ.put o0 ⟨ah,[.str r.2.s_,.bool r.2.bad_]⟩) :=
 n7 (zc8b p1 p2 r h τ o0 hl ha0 hi0 hw0) (by simp -implicitDefEqProofs only [TT,Ic.t,ci,reduceEqDiff,reduceIte,reduceAdd,reduceLT,reduceCtorEq,reduceToNat,hl,ha0,hi0,hw0,CL,LTN])
def kx (p1 : aa) (p2 : Int) : Option (ByteArray × aa) :=
 d5 p1 p2 >>= fun y1 =>
 i8 y1.2 y1.1 >>= fun y3 =>
 some (y3.1,y3.2)
theorem zc71 (p1 : aa) (p2 : Int) (r : ByteArray × aa) (h : kx p1 p2 = some r) (τ : TH) (o0 : Nat) (hl : τ.lock ≤ τ.next) (ha0 : τ.at o0 = some ⟨ah,[.str p1.s_,.bool p1.bad_]⟩) (hi0 : o0 < τ.next) (hw0 : τ.lock ≤ o0) : Ru G li [.ptr o0 0,.int .i64 p2] τ (.str r.1) (τ.put o0 ⟨ah,[.str r.2.s_,.bool r.2.bad_]⟩) := by
 refine jv fun K hK => ?_
 rw [bx zc7j (Nat.le_of_ble_eq_true rfl)]
 unfold kx at h
 obtain ⟨y1,hy1,h⟩ := ob h
 have k2 := kn p1 p2 _ hy1
 try simp only [CL,MC,reduceToNat] at k2
 obtain ⟨y3,hy3,h⟩ := ob h
 have k4 := zcvl y1.2 y1.1 _ hy3
 try simp only [CL,MC,reduceToNat] at k4
 injection h with h; subst h
 simp -implicitDefEqProofs only [zc68,TT,Ic.t,ci,reduceEqDiff,reduceIte,reduceAdd,reduceLT,reduceCtorEq,reduceToNat,hl,ha0,hi0,hw0,k2,k4,CL,LTN]
 exact hK
theorem zc70 (p1 : aa) (p2 : Int) (r : ByteArray × aa) (h : kx p1 p2 = some r) (d : Option Nat) (K : av) (fr : TF) (tk : TK) (τ : TH) (o0 : Nat) (hl : τ.lock ≤ τ.next) (ha0 : τ.at o0 = some ⟨ah,[.str p1.s_,.bool p1.bad_]⟩) (hi0 : o0 < τ.next) (hw0 : τ.lock ≤ o0) : fp G false li [.ptr o0 0,.int .i64 p2] d K fr tk τ = K (gg fr d (.str r.1)) tk (τ.put o0 ⟨ah,[.str r.2.s_,.bool r.2.bad_]⟩) :=
 n7 (zc71 p1 p2 r h τ o0 hl ha0 hi0 hw0) (by simp -implicitDefEqProofs only [TT,Ic.t,ci,reduceEqDiff,reduceIte,reduceAdd,reduceLT,reduceCtorEq,reduceToNat,hl,ha0,hi0,hw0,CL,LTN])
def m5 (p1 : aa) : Option (ByteArray × aa) :=
 kx p1 (1048576 : Int) >>= fun y1 =>
 some (y1.1,y1.2)
theorem zc5z (p1 : aa) (r : ByteArray × aa) (h : m5 p1 = some r) (τ : TH) (o0 : Nat) (o1 : Nat) (hl : τ.lock ≤ τ.next) (ha0 : τ.at o0 = some ⟨cz,[.ptr o1 0]⟩) (hi0 : o0 < τ.next) (ha1 : τ.at o1 = some ⟨ah,[.str p1.s_,.bool p1.bad_]⟩) (hi1 : o1 < τ.next) (hw1 : τ.lock ≤ o1) (hn0_1 : o0 ≠ o1) : Ru G dt [.ptr o0 0] τ (.str r.1) (τ.put o1 ⟨ah,[.str r.2.s_,.bool r.2.bad_]⟩) := by
 refine jv fun K hK => ?_
 rw [bx zdaq (Nat.le_of_ble_eq_true rfl)]
 unfold m5 at h
 obtain ⟨y1,hy1,h⟩ := ob h
 have k2 := zc70 p1 (1048576 : Int) _ hy1
 try simp only [CL,MC,reduceToNat] at k2
 injection h with h; subst h
 simp -implicitDefEqProofs only [zdac,TT,Ic.t,ci,reduceEqDiff,reduceIte,reduceAdd,reduceLT,reduceCtorEq,reduceToNat,hl,ha0,hi0,ha1,hi1,hw1,nq hn0_1,k2,CL,LTN]
 exact hK
theorem zb9s (p1 : aa) (r : ByteArray × aa) (h : m5 p1 = some r) (d : Option Nat) (K : av) (fr : TF) (tk : TK) (τ : TH) (o0 : Nat) (o1 : Nat) (hl : τ.lock ≤ τ.next) (ha0 : τ.at o0 = some ⟨cz,[.ptr o1 0]⟩) (hi0 : o0 < τ.next) (ha1 : τ.at o1 = some ⟨ah,[.str p1.s_,.bool p1.bad_]⟩) (hi1 : o1 < τ.next) (hw1 : τ.lock ≤ o1) (hn0_1 : o0 ≠ o1) : fp G false dt [.ptr o0 0] d K fr tk τ = K (gg fr d (.str r.1)) tk (τ.put o1 ⟨ah,[.str r.2.s_,.bool r.2.bad_]⟩) :=
 n7 (zc5z p1 r h τ o0 o1 hl ha0 hi0 ha1 hi1 hw1 hn0_1) (by simp -implicitDefEqProofs only [TT,Ic.t,ci,reduceEqDiff,reduceIte,reduceAdd,reduceLT,reduceCtorEq,reduceToNat,hl,ha0,hi0,ha1,hi1,hw1,nq hn0_1,CL,LTN])
def dc (v2 : Int) (v0 : aa) (v1 : (List ByteArray)) (v3 : Int) : Option (LS (aa × (List ByteArray) × Int) ((List ByteArray) × aa)) :=
 if v3 < v2 then
  m5 v0 >>= fun y2 =>
  if (v1.length + 1) * 16 ≤ 140737488355328 then
   some (.nx (y2.2,(v1 ++ [y2.1]),(IntKind.i64.wrap (v3 + (1 : Int)))))
  else
   none
 else
 some (.dn (v1,v0))
def gp (v2 : Int) (v0 : aa) (v1 : (List ByteArray)) (v3 : Int) : Option ((List ByteArray) × aa) := sq (fun st => dc v2 st.1 st.2.1 st.2.2) (v0,v1,v3)
theorem wu (v2 : Int) (v0 : aa) (v1 : (List ByteArray)) (v3 : Int) : gp v2 v0 v1 v3 = dc v2 v0 v1 v3 >>= LS.go (fun st => gp v2 st.1 st.2.1 st.2.2) := gy (fun st => dc v2 st.1 st.2.1 st.2.2) (v0,v1,v3)
def mg (v2 : Int) (v0 : aa) (v1 : (List ByteArray)) (v3 : Int) (r : (List ByteArray) × aa) : Prop := ∀ (τ : TH) (o0 : Nat) (o1 : Nat) (n0 : Nat) (ty0 : TypeId) (hnn0 : n0 = v1.length) (hty0 : n0 = 0 ∨ ty0 = ft) (hl : τ.lock ≤ τ.next) (ha0 : τ.at o0 = some ⟨cz,[.ptr o1 0]⟩) (hi0 : o0 < τ.next) (ha1 : τ.at o1 = some ⟨ah,[.str v0.s_,.bool v0.bad_]⟩) (hi1 : o1 < τ.next) (hw1 : τ.lock ≤ o1) (hn0_1 : o0 ≠ o1) (Q : TEx → av) (hQ0 : ∀ (fr : TF) (tk2 : TK) (τ2 : TH),∀ (u0 : TypeId),(r.1.length = 0 ∨ u0 = ft) → lkp fr 7 = .sla 0 (List.map TV.str r.1) → tk2.take 1 = [some (r.1.length,u0)] → τ2.cut τ.next = (τ.put o1 ⟨ah,[.str r.2.s_,.bool r.2.bad_]⟩) → Q (.exit 0) fr tk2 τ2) ,tW G (.loop [2,7,10,11] pd) Q [(2,.func dt [] [.ptr o0 0]),(7,.sla 0 (List.map TV.str v1)),(10,.int .i64 v2),(11,.int .i64 v3)] [some (n0,ty0)] τ
theorem zc8s (v2 : Int) (v0 : aa) (v1 : (List ByteArray)) (v3 : Int) (r : (List ByteArray) × aa) (h : gp v2 v0 v1 v3 = some r) : mg v2 v0 v1 v3 r := by
 refine fg (f := fun st => dc v2 st.1 st.2.1 st.2.2) (P := fun st r => ∀ (v0 : aa) (v1 : (List ByteArray)) (v3 : Int),(v0,v1,v3) = st → mg v2 v0 v1 v3 r) ?_ h v0 v1 v3 rfl
 clear h r v3 v1 v0
 intro st o h r ih v0 v1 v3 hst τ o0 o1  n0 ty0 hnn0 hty0 hl ha0 hi0 ha1 hi1 hw1 hn0_1 Q hQ0
 subst hst
 have h : dc v2 v0 v1 v3 = some o := h
 unfold dc at h
 subst hnn0
 refine pj fun LQ hn hr he => ?_
 by_cases c1 : v3 < v2
 · rw [if_pos c1] at h
   obtain ⟨y2,hy2,h⟩ := ob h
   have k3 := fun (d : Option Nat) (K : av) (fr : TF) (tk : TK) (τ' : TH) (o'0 : Nat) => zb9s v0 _ hy2 d K fr tk τ' o'0 o1
   try simp only [CL,MC,reduceToNat] at k3
   obtain ⟨c4,h⟩ := ifS h
   have f5 : 1 ≤ maxLen := by unfold maxLen; omega
   have f6 : v1.length + 1 ≤ maxLen := by unfold maxLen; omega
   have f7 : ((List.map TV.str v1).all fun e => e.cells.length == 1) = true := zbl7 (fun _ => rfl) _
   have f8 : List.map TV.str v1 ++ List.map TV.str [y2.1] = List.map TV.str (v1 ++ [y2.1]) := zbt4 _ _
   try simp only [CL,List.map_cons,List.map_nil] at f8
   injection h with h; subst h
   have ih := ih y2.2 (v1 ++ [y2.1]) (IntKind.i64.wrap (v3 + (1 : Int))) rfl
   unfold mg at ih
   simp -implicitDefEqProofs only [pd,r8,TT,Ic.t,ci,reduceEqDiff,reduceIte,reduceAdd,reduceMul,reduceLT,reduceLeDiff,reduceSub,reduceCtorEq,reduceEq,reduceNe,reduceToNat,Int.reduceLT,reduceLE,reduceNeg,hl,ha0,hi0,ha1,hi1,hw1,nq hn0_1,hty0,c1,k3,c4,f5,f6,f7,f8,CL,LTN]
   rw [hn]
   simp -implicitDefEqProofs only [TT,Ic.t,ci,reduceEqDiff,reduceIte,reduceAdd,reduceMul,reduceLT,reduceLeDiff,reduceSub,reduceCtorEq,reduceEq,reduceNe,reduceToNat,Int.reduceLT,reduceLE,reduceNeg,hl,ha0,hi0,ha1,hi1,hw1,nq hn0_1,hty0,c1,k3,c4,f5,f6,f7,f8,CL,LTN]
   exact ih  (τ.put o1 ⟨ah,[.str y2.2.s_,.bool y2.2.bad_]⟩) o0 o1  (v1.length + 1) ft (by first | rfl | simp [ay]) (by first | exact hty0 | exact Or.inr rfl | assumption | simp) (by first | assumption | (simp only [ag,ak]; assumption)) (by simp -implicitDefEqProofs only [TT,Ic.t,ci,reduceEqDiff,reduceIte,reduceAdd,reduceMul,reduceLT,reduceLeDiff,reduceSub,reduceCtorEq,reduceEq,reduceNe,reduceToNat,Int.reduceLT,reduceLE,reduceNeg,hl,ha0,hi0,ha1,hi1,hw1,nq hn0_1,hty0,c1,k3,c4,f5,f6,f7,f8,CL,LTN]) (by first | assumption | (simp only [ag,ak]; assumption)) (by simp -implicitDefEqProofs only [TT,Ic.t,ci,reduceEqDiff,reduceIte,reduceAdd,reduceMul,reduceLT,reduceLeDiff,reduceSub,reduceCtorEq,reduceEq,reduceNe,reduceToNat,Int.reduceLT,reduceLE,reduceNeg,hl,ha0,hi0,ha1,hi1,hw1,nq hn0_1,hty0,c1,k3,c4,f5,f6,f7,f8,CL,LTN]) (by first | assumption | (simp only [ag,ak]; assumption)) (by first | assumption | (simp only [ag,ak]; assumption)) hn0_1 Q (fun fr tk2 τ2 u0 u0' g0 ht hτ => hQ0 fr tk2 τ2 u0 u0' g0 ht (by first | exact hτ | simpa only [ag,zbjv,hl,ha0,hi0,ha1,hi1,hw1,nq hn0_1,hty0] using hτ))
 rw [if_neg c1] at h
 injection h with h; subst h
 obtain rfl : _ = r := ih
 simp -implicitDefEqProofs only [pd,r8,TT,Ic.t,ci,reduceEqDiff,reduceIte,reduceAdd,reduceMul,reduceLT,reduceLeDiff,reduceSub,reduceCtorEq,reduceEq,reduceNe,reduceToNat,Int.reduceLT,reduceLE,reduceNeg,hl,ha0,hi0,ha1,hi1,hw1,nq hn0_1,hty0,he,hr,c1,CL,LTN]
 exact hQ0  _ _ _ ty0 (by first | exact hty0 | exact Or.inr rfl | assumption | simp) (by first | rfl | (simp -implicitDefEqProofs only [TT,Ic.t,ci,reduceEqDiff,reduceIte,reduceAdd,reduceMul,reduceLT,reduceLeDiff,reduceSub,reduceCtorEq,reduceEq,reduceNe,reduceToNat,Int.reduceLT,reduceLE,reduceNeg,hl,ha0,hi0,ha1,hi1,hw1,nq hn0_1,hty0,c1,CL,LTN])) (by first | rfl | (simp -implicitDefEqProofs only [TT,Ic.t,ci,reduceEqDiff,reduceIte,reduceAdd,reduceMul,reduceLT,reduceLeDiff,reduceSub,reduceCtorEq,reduceEq,reduceNe,reduceToNat,Int.reduceLT,reduceLE,reduceNeg,hl,ha0,hi0,ha1,hi1,hw1,nq hn0_1,hty0,c1,CL,LTN])) (by first | exact kf (Nat.le_refl _) | (simp -implicitDefEqProofs only [TT,Ic.t,ci,reduceEqDiff,reduceIte,reduceAdd,reduceMul,reduceLT,reduceLeDiff,reduceSub,reduceCtorEq,reduceEq,reduceNe,reduceToNat,Int.reduceLT,reduceLE,reduceNeg,hl,ha0,hi0,ha1,hi1,hw1,nq hn0_1,hty0,mi ha1,c1,CL,LTN]))
def ix (p1 : aa) (p2 : Int) : Option ((List ByteArray) × aa) :=
 d5 p1 p2 >>= fun y1 =>
 gp y1.1 y1.2 [] (0 : Int) >>= fun y3 =>
 some (y3.1,y3.2)
theorem zc77 (p1 : aa) (p2 : Int) (r : (List ByteArray) × aa) (h : ix p1 p2 = some r) (τ : TH) (o0 : Nat) (o1 : Nat) (hl : τ.lock ≤ τ.next) (ha0 : τ.at o0 = some ⟨ah,[.str p1.s_,.bool p1.bad_]⟩) (hi0 : o0 < τ.next) (hw0 : τ.lock ≤ o0) (ha1 : τ.at o1 = some ⟨cz,[.ptr o0 0]⟩) (hi1 : o1 < τ.next) (hn0_1 : o0 ≠ o1) : Ru G je [.ptr o0 0,.int .i64 p2,.func dt [] [.ptr o1 0]] τ (.sl (List.map TV.str r.1)) (τ.put o0 ⟨ah,[.str r.2.s_,.bool r.2.bad_]⟩) := by
 refine jv fun K hK => ?_
 rw [bx zc7o (Nat.le_of_ble_eq_true rfl)]
 unfold ix at h
 obtain ⟨y1,hy1,h⟩ := ob h
 have k2 := kn p1 p2 _ hy1
 try simp only [CL,MC,reduceToNat] at k2
 obtain ⟨y3,hy3,h⟩ := ob h
 simp -implicitDefEqProofs only [r8,TT,Ic.t,ci,reduceEqDiff,reduceIte,reduceAdd,reduceLT,reduceCtorEq,reduceToNat,hl,ha0,hi0,hw0,ha1,hi1,nq hn0_1,k2,CL,LTN]
 have Sy3 := zc8s y1.1 y1.2 [] (0 : Int) y3 hy3
 unfold mg at Sy3
 refine Sy3 _ o1 o0 0 0 (by first | rfl | simp [ay]) (by first | exact Or.inl rfl | exact Or.inr rfl | assumption | simp) (by first | assumption | omega | (simp only [ag,ap,ak,bb]; omega)) (by simp -implicitDefEqProofs only [TT,Ic.t,ci,reduceEqDiff,reduceIte,reduceAdd,reduceLT,reduceCtorEq,reduceToNat,hl,ha0,hi0,hw0,ha1,hi1,nq hn0_1,k2,CL,LTN]) (by first | assumption | omega | (simp only [ag,ap,ak,bb]; omega)) (by simp -implicitDefEqProofs only [TT,Ic.t,ci,reduceEqDiff,reduceIte,reduceAdd,reduceLT,reduceCtorEq,reduceToNat,hl,ha0,hi0,hw0,ha1,hi1,nq hn0_1,k2,CL,LTN]) (by first | assumption | omega | (simp only [ag,ap,ak,bb]; omega)) (by first | assumption | omega | (simp only [ag,ap,ak,bb]; omega)) (by first | assumption | omega | (simp only [ag,ap]; omega)) _ ?_
 intro frq4 tkq4 τq4 u0q4 uh0q4 g7q4 htq4 hcq4
 have hcq4 := gc (n := τ.next) hcq4 (by first | omega | (simp only [ag,ap]; omega))
 try simp only [List.take_succ_cons,List.take_zero,List.take_nil,CL] at htq4
 try simp -implicitDefEqProofs only [TT,Ic.t,ci,reduceEqDiff,reduceIte,reduceAdd,reduceLT,reduceCtorEq,reduceToNat,hl,ha0,hi0,hw0,ha1,hi1,nq hn0_1,k2,CL,LTN] at hcq4
 injection h with h; subst h
 simp -implicitDefEqProofs only [r8,TT,Ic.t,ci,reduceEqDiff,reduceIte,reduceAdd,reduceLT,reduceCtorEq,reduceToNat,hl,ha0,hi0,hw0,ha1,hi1,nq hn0_1,k2,uh0q4,g7q4,htq4,hcq4,CL,LTN]
 exact hK
theorem zcwe (p1 : aa) (p2 : Int) (r : (List ByteArray) × aa) (h : ix p1 p2 = some r) (d : Option Nat) (K : av) (fr : TF) (tk : TK) (τ : TH) (o0 : Nat) (o1 : Nat) (hl : τ.lock ≤ τ.next) (ha0 : τ.at o0 = some ⟨ah,[.str p1.s_,.bool p1.bad_]⟩) (hi0 : o0 < τ.next) (hw0 : τ.lock ≤ o0) (ha1 : τ.at o1 = some ⟨cz,[.ptr o0 0]⟩) (hi1 : o1 < τ.next) (hn0_1 : o0 ≠ o1) : fp G false je [.ptr o0 0,.int .i64 p2,.func dt [] [.ptr o1 0]] d K fr tk τ = K (gg fr d (.sl (List.map TV.str r.1))) tk (τ.put o0 ⟨ah,[.str r.2.s_,.bool r.2.bad_]⟩) :=
 n7 (zc77 p1 p2 r h τ o0 o1 hl ha0 hi0 hw0 ha1 hi1 hn0_1) (by simp -implicitDefEqProofs only [TT,Ic.t,ci,reduceEqDiff,reduceIte,reduceAdd,reduceLT,reduceCtorEq,reduceToNat,hl,ha0,hi0,hw0,ha1,hi1,nq hn0_1,CL,LTN])
end
end Go.Proofs.Ytdcfoaafkppojaa
