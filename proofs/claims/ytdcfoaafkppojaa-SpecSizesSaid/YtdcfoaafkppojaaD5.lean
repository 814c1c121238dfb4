import Derived.Test.YtdcfoaafkppojaaHBld
set_option linter.unusedVariables false
set_option linter.unusedSimpArgs false
set_option linter.unusedSectionVars false
open Nat (reduceEqDiff reduceAdd reduceMul reduceLT reduceLeDiff reduceSub)
open Int (reduceToNat reduceNe reduceEq reduceNeg reduceLE)
namespace Go.Proofs.Ytdcfoaafkppojaa
open Go Go.RowKit Sh Ic
noncomputable def df (v1 : (List ByteArray)) (v2 : Int) (v0 : ByteArray) (v3 : Int) : Option (LS (ByteArray × Int) (ByteArray)) :=
 if v3 < v2 then
  ixL v1 v3 >>= fun y2 =>
  o6 y2 >>= fun y4 =>
  if v0.size + y4.size ≤ 140737488355328 then
   some (.nx ((v0 ++ y4),(IntKind.i64.wrap (v3 + (1 : Int)))))
  else
   none
 else
 some (.dn v0)
noncomputable def jf (v1 : (List ByteArray)) (v2 : Int) (v0 : ByteArray) (v3 : Int) : Option (ByteArray) := sd (fun st => df v1 v2 st.1 st.2) (v0,v3)
theorem ym (v1 : (List ByteArray)) (v2 : Int) (v0 : ByteArray) (v3 : Int) : jf v1 v2 v0 v3 = df v1 v2 v0 v3 >>= LS.go (fun st => jf v1 v2 st.1 st.2) := gw (fun st => df v1 v2 st.1 st.2) (v0,v3)
def mr (v1 : (List ByteArray)) (v2 : Int) (v0 : ByteArray) (v3 : Int) (r : ByteArray) : Prop := ∀ (τ : TH) (o0 : Nat) (hl : τ.lock ≤ τ.next) (ub0 : Bool) (hub0 : ub0 = true ∨ v0.size = 0) (ha0 : τ.at o0 = some (zaqf o0 ub0 v0)) (hi0 : o0 < τ.next) (hw0 : τ.lock ≤ o0) (Q : TEx → aw) (hQ0 : ∀ (fr : TF) (tk2 : TK) (τ2 : TH),∀ (ubx0 : Bool),(ubx0 = true ∨ r.size = 0) → lkp fr 5 = .ptr o0 0 → tk2.take 0 = [] → τ2.cut τ.next = (τ.put o0 (zaqf o0 ubx0 r)) → Q (.exit 0) fr tk2 τ2) ,tW G (.loop [1,5,12,13,14] pv) Q [(1,.func jq [] []),(5,.ptr o0 0),(12,.sl (List.map TV.str v1)),(13,.int .i64 v2),(14,.int .i64 v3)] [] τ
theorem zaip (v1 : (List ByteArray)) (v2 : Int) (v0 : ByteArray) (v3 : Int) (r : ByteArray) (h : jf v1 v2 v0 v3 = some r) : mr v1 v2 v0 v3 r := by
 refine ff (f := fun st => df v1 v2 st.1 st.2) (P := fun st r => ∀ (v0 : ByteArray) (v3 : Int),(v0,v3) = st → mr v1 v2 v0 v3 r) ?_ h v0 v3 rfl
 clear h r v3 v0
 intro st o h r ih v0 v3 hst τ o0  hl ub0 hub0 ha0 hi0 hw0 Q hQ0
 subst hst
 have h : df v1 v2 v0 v3 = some o := h
 unfold df at h
 refine pb fun LQ hn hr he => ?_
 by_cases c1 : v3 < v2
 · rw [if_pos c1] at h
   obtain ⟨y2,hy2,h⟩ := ob h
   have f3 := dd hy2
   have f3a := (f3.2.2 TV.str).1
   have f3b := (f3.2.2 TV.str).2
   try simp only [CL,MC,reduceToNat] at f3 f3a f3b
   obtain ⟨y4,hy4,h⟩ := ob h
   have k5 := zabz y2 _ hy4
   try simp only [CL,MC,reduceToNat] at k5
   obtain ⟨c6,h⟩ := ifS h
   have k7 := fun (id : Nat) (d : Option Nat) (K : aw) (fr : TF) (tk : TK) (τ : TH) (ha : τ.at id = some (zaqf id ub0 v0)) (hi : id < τ.next) (hw : τ.lock ≤ id) (hl : τ.lock ≤ τ.next) => zaaq v0 id ub0 d K fr tk τ ha hi hw hl (by first | exact .inl rfl | assumption) y4 c6
   injection h with h; subst h
   have ih := ih (v0 ++ y4) (IntKind.i64.wrap (v3 + (1 : Int))) rfl
   unfold mr at ih
   simp -implicitDefEqProofs only [pv,te,TT,Ic.t,ci,reduceEqDiff,reduceIte,reduceAdd,reduceLT,reduceCtorEq,reduceToNat,hl,gi,ha0,hi0,hw0,c1,f3.1,f3.2.1,f3a,f3b,k5,c6,k7,CL,LTN]
   rw [hn]
   simp -implicitDefEqProofs only [TT,Ic.t,ci,reduceEqDiff,reduceIte,reduceAdd,reduceLT,reduceCtorEq,reduceToNat,hl,gi,ha0,hi0,hw0,c1,f3.1,f3.2.1,f3a,f3b,k5,c6,k7,CL,LTN]
   exact ih  (τ.put o0 (zaqf o0 true (v0 ++ y4))) o0   (by first | assumption | (simp only [ag,ak]; assumption)) true (by first | exact .inl rfl | assumption) (by simp -implicitDefEqProofs only [TT,Ic.t,ci,reduceEqDiff,reduceIte,reduceAdd,reduceLT,reduceCtorEq,reduceToNat,hl,gi,ha0,hi0,hw0,c1,f3.1,f3.2.1,f3a,f3b,k5,c6,k7,CL,LTN]) (by first | assumption | (simp only [ag,ak]; assumption)) (by first | assumption | (simp only [ag,ak]; assumption)) Q (fun fr tk2 τ2 w0 w0' g0 ht hτ => hQ0 fr tk2 τ2 w0 w0' g0 ht (by first | exact hτ | simpa only [ag,zamt,hl,gi,ha0,hi0,hw0] using hτ))
 rw [if_neg c1] at h
 injection h with h; subst h
 obtain rfl : _ = r := ih
 simp -implicitDefEqProofs only [pv,te,TT,Ic.t,ci,reduceEqDiff,reduceIte,reduceAdd,reduceLT,reduceCtorEq,reduceToNat,hl,gi,ha0,hi0,hw0,he,hr,c1,CL,LTN]
 exact hQ0  _ _ _ ub0 (by first | exact .inl rfl | assumption) (by first | rfl | (simp -implicitDefEqProofs only [TT,Ic.t,ci,reduceEqDiff,reduceIte,reduceAdd,reduceLT,reduceCtorEq,reduceToNat,hl,gi,ha0,hi0,hw0,c1,CL,LTN])) (by first | rfl | (simp -implicitDefEqProofs only [TT,Ic.t,ci,reduceEqDiff,reduceIte,reduceAdd,reduceLT,reduceCtorEq,reduceToNat,hl,gi,ha0,hi0,hw0,c1,CL,LTN])) (by first | exact kd (Nat.le_refl _) | (simp -implicitDefEqProofs only [TT,Ic.t,ci,reduceEqDiff,reduceIte,reduceAdd,reduceLT,reduceCtorEq,reduceToNat,hl,gi,ha0,hi0,hw0,me ha0,c1,CL,LTN]))
noncomputable def jw (p1 : (List ByteArray)) : Option ByteArray :=
 gu ((p1.length : Nat) : Int) >>= fun y1 =>
 if y1.size ≤ 140737488355328 then
  jf p1 ((p1.length : Nat) : Int) y1 (0 : Int) >>= fun y5 =>
  if y5.size ≤ 140737488355328 then
   some y5
  else
   none
 else
  none
theorem zadq (p1 : (List ByteArray)) (r : ByteArray) (h : jw p1 = some r) (τ : TH) (hl : τ.lock ≤ τ.next) : Ru G ka [.sl (List.map TV.str p1),.func jq [] []] τ (.str r) τ := by
 refine jt fun K hK => ?_
 rw [bx zate (Nat.le_of_ble_eq_true rfl)]
 unfold jw at h
 obtain ⟨y1,hy1,h⟩ := ob h
 have k2 := ir ((p1.length : Nat) : Int) _ hy1
 try simp only [CL,MC,reduceToNat] at k2
 obtain ⟨c3,h⟩ := ifS h
 have k4 := fun (id : Nat) (d : Option Nat) (K : aw) (fr : TF) (tk : TK) (τ : TH) (ha : τ.at id = some (zaqf id false ⟨#[]⟩)) (hi : id < τ.next) (hw : τ.lock ≤ id) (hl : τ.lock ≤ τ.next) => zab1 id d K fr tk τ ha hi hw hl y1 c3
 obtain ⟨y5,hy5,h⟩ := ob h
 simp -implicitDefEqProofs only [te,TT,Ic.t,ci,reduceEqDiff,reduceIte,reduceAdd,reduceLT,reduceCtorEq,reduceToNat,hl,k2,c3,k4,gi,CL,LTN]
 have Sy5 := zaip p1 ((p1.length : Nat) : Int) y1 (0 : Int) y5 hy5
 unfold mr at Sy5
 refine Sy5 _ τ.next (by first | assumption | omega | (simp only [ag,ap,ak,bb]; omega)) true (by first | exact .inl rfl | exact .inr rfl | assumption) (by simp -implicitDefEqProofs only [TT,Ic.t,ci,reduceEqDiff,reduceIte,reduceAdd,reduceLT,reduceCtorEq,reduceToNat,hl,k2,c3,k4,gi,CL,LTN]) (by first | assumption | omega | (simp only [ag,ap,ak,bb]; omega)) (by first | assumption | omega | (simp only [ag,ap,ak,bb]; omega)) _ ?_
 intro frq6 tkq6 τq6 ubz6_0 huubz6_0 g5q6 htq6 hcq6
 have hcq6 := ga (n := τ.next + 1) hcq6 (by first | omega | (simp only [ag,ap]; omega))
 try simp only [List.take_succ_cons,List.take_zero,List.take_nil,CL] at htq6
 try simp -implicitDefEqProofs only [TT,Ic.t,ci,reduceEqDiff,reduceIte,reduceAdd,reduceLT,reduceCtorEq,reduceToNat,hl,k2,c3,k4,gi,CL,LTN] at hcq6
 obtain ⟨c7,h⟩ := ifS h
 have k8 := fun (id : Nat) (d : Option Nat) (K : aw) (fr : TF) (tk : TK) (τ : TH) (ha : τ.at id = some (zaqf id ubz6_0 y5)) (hi : id < τ.next) (hw : τ.lock ≤ id) (hl : τ.lock ≤ τ.next) => zat0 y5 id ubz6_0 d K fr tk τ ha hi hw hl (by first | exact .inl rfl | assumption) c7
 injection h with h; subst h
 simp -implicitDefEqProofs only [te,TT,Ic.t,ci,reduceEqDiff,reduceIte,reduceAdd,reduceLT,reduceCtorEq,reduceToNat,hl,k2,c3,k4,gi,g5q6,htq6,hcq6,c7,k8,CL,LTN]
 exact hK
theorem zadr (p1 : (List ByteArray)) (r : ByteArray) (h : jw p1 = some r) (lk : Bool) (d : Option Nat) (K : aw) (fr : TF) (tk : TK) (τ : TH) (hl : τ.lock ≤ τ.next) : fo G lk ka [.sl (List.map TV.str p1),.func jq [] []] d K fr tk τ = K (gc fr d (.str r)) tk τ :=
 bn (zadq p1 r h τ  hl) (zadq p1 r h (τ.locked τ.next)  (Nat.le_refl _) ) (by simp -implicitDefEqProofs only [TT,Ic.t,ci,reduceEqDiff,reduceIte,reduceAdd,reduceLT,reduceCtorEq,reduceToNat,hl,CL,LTN])
noncomputable def sa (p1 : ac) : Option ByteArray :=
 o6 p1.Account >>= fun y1 =>
 jw p1.Keys >>= fun y3 =>
 if ¬ (9223372036854775807 < ((y1.size + y3.size : Nat) : Int)) then
  some (y1 ++ y3)
 else
  none
theorem zajn (p1 : ac) (r : ByteArray) (h : sa p1 = some r) (τ : TH) (hl : τ.lock ≤ τ.next) : Ru G lp [.agg [.str p1.Account,.sl (List.map TV.str p1.Keys)]] τ (.str r) τ := by
 refine jt fun K hK => ?_
 rw [bx za0o (Nat.le_of_ble_eq_true rfl)]
 unfold sa at h
 obtain ⟨y1,hy1,h⟩ := ob h
 have k2 := zabz p1.Account _ hy1
 try simp only [CL,MC,reduceToNat] at k2
 obtain ⟨y3,hy3,h⟩ := ob h
 have k4 := zadr p1.Keys _ hy3
 try simp only [CL,MC,reduceToNat] at k4
 obtain ⟨c5,h⟩ := ifS h
 injection h with h; subst h
 simp -implicitDefEqProofs only [za00,TT,Ic.t,ci,reduceEqDiff,reduceIte,reduceAdd,reduceLT,reduceCtorEq,reduceToNat,hl,k2,k4,c5,CL,LTN]
 exact hK
theorem zawm (p1 : ac) (r : ByteArray) (h : sa p1 = some r) (lk : Bool) (d : Option Nat) (K : aw) (fr : TF) (tk : TK) (τ : TH) (hl : τ.lock ≤ τ.next) : fo G lk lp [.agg [.str p1.Account,.sl (List.map TV.str p1.Keys)]] d K fr tk τ = K (gc fr d (.str r)) tk τ :=
 bn (zajn p1 r h τ  hl) (zajn p1 r h (τ.locked τ.next)  (Nat.le_refl _) ) (by simp -implicitDefEqProofs only [TT,Ic.t,ci,reduceEqDiff,reduceIte,reduceAdd,reduceLT,reduceCtorEq,reduceToNat,hl,CL,LTN])
noncomputable def ca (v1 : (List ac)) (v2 : Int) (v0 : ByteArray) (v3 : Int) : Option (LS (ByteArray × Int) (ByteArray)) :=
 if v3 < v2 then
  ixL v1 v3 >>= fun y2 =>
  sa (⟨y2.Account,y2.Keys⟩ : ac) >>= fun y4 =>
  if v0.size + y4.size ≤ 140737488355328 then
   some (.nx ((v0 ++ y4),(IntKind.i64.wrap (v3 + (1 : Int)))))
  else
   none
 else
 some (.dn v0)
noncomputable def gr (v1 : (List ac)) (v2 : Int) (v0 : ByteArray) (v3 : Int) : Option (ByteArray) := sd (fun st => ca v1 v2 st.1 st.2) (v0,v3)
theorem tn (v1 : (List ac)) (v2 : Int) (v0 : ByteArray) (v3 : Int) : gr v1 v2 v0 v3 = ca v1 v2 v0 v3 >>= LS.go (fun st => gr v1 v2 st.1 st.2) := gw (fun st => ca v1 v2 st.1 st.2) (v0,v3)
def kf (v1 : (List ac)) (v2 : Int) (v0 : ByteArray) (v3 : Int) (r : ByteArray) : Prop := ∀ (τ : TH) (o0 : Nat) (hl : τ.lock ≤ τ.next) (ub0 : Bool) (hub0 : ub0 = true ∨ v0.size = 0) (ha0 : τ.at o0 = some (zaqf o0 ub0 v0)) (hi0 : o0 < τ.next) (hw0 : τ.lock ≤ o0) (Q : TEx → aw) (hQ0 : ∀ (fr : TF) (tk2 : TK) (τ2 : TH),∀ (ubx0 : Bool),(ubx0 = true ∨ r.size = 0) → lkp fr 5 = .ptr o0 0 → tk2.take 0 = [] → τ2.cut τ.next = (τ.put o0 (zaqf o0 ubx0 r)) → Q (.exit 0) fr tk2 τ2) ,tW G (.loop [1,5,12,13,14] mw) Q [(1,.func lp [] []),(5,.ptr o0 0),(12,.sl (List.map ac.tv v1)),(13,.int .i64 v2),(14,.int .i64 v3)] [] τ
theorem zaf0 (v1 : (List ac)) (v2 : Int) (v0 : ByteArray) (v3 : Int) (r : ByteArray) (h : gr v1 v2 v0 v3 = some r) : kf v1 v2 v0 v3 r := by
 refine ff (f := fun st => ca v1 v2 st.1 st.2) (P := fun st r => ∀ (v0 : ByteArray) (v3 : Int),(v0,v3) = st → kf v1 v2 v0 v3 r) ?_ h v0 v3 rfl
 clear h r v3 v0
 intro st o h r ih v0 v3 hst τ o0  hl ub0 hub0 ha0 hi0 hw0 Q hQ0
 subst hst
 have h : ca v1 v2 v0 v3 = some o := h
 unfold ca at h
 refine pb fun LQ hn hr he => ?_
 by_cases c1 : v3 < v2
 · rw [if_pos c1] at h
   obtain ⟨y2,hy2,h⟩ := ob h
   have f3 := dd hy2
   have f3a := (f3.2.2 ac.tv).1
   have f3b := (f3.2.2 ac.tv).2
   try simp only [CL,MC,reduceToNat] at f3 f3a f3b
   obtain ⟨y4,hy4,h⟩ := ob h
   have k5 := zawm (⟨y2.Account,y2.Keys⟩ : ac) _ hy4
   try simp only [CL,MC,reduceToNat] at k5
   obtain ⟨c6,h⟩ := ifS h
   have k7 := fun (id : Nat) (d : Option Nat) (K : aw) (fr : TF) (tk : TK) (τ : TH) (ha : τ.at id = some (zaqf id ub0 v0)) (hi : id < τ.next) (hw : τ.lock ≤ id) (hl : τ.lock ≤ τ.next) => zaaq v0 id ub0 d K fr tk τ ha hi hw hl (by first | exact .inl rfl | assumption) y4 c6
   injection h with h; subst h
   have ih := ih (v0 ++ y4) (IntKind.i64.wrap (v3 + (1 : Int))) rfl
   unfold kf at ih
   simp -implicitDefEqProofs only [mw,o8,TT,Ic.t,ci,reduceEqDiff,reduceIte,reduceAdd,reduceLT,reduceCtorEq,reduceToNat,hl,gi,ha0,hi0,hw0,c1,f3.1,f3.2.1,f3a,f3b,k5,c6,k7,CL,LTN]
   rw [hn]
   simp -implicitDefEqProofs only [TT,Ic.t,ci,reduceEqDiff,reduceIte,reduceAdd,reduceLT,reduceCtorEq,reduceToNat,hl,gi,ha0,hi0,hw0,c1,f3.1,f3.2.1,f3a,f3b,k5,c6,k7,CL,LTN]
   exact ih  (τ.put o0 (zaqf o0 true (v0 ++ y4))) o0   (by first | assumption | (simp only [ag,ak]; assumption)) true (by first | exact .inl rfl | assumption) (by simp -implicitDefEqProofs only [TT,Ic.t,ci,reduceEqDiff,reduceIte,reduceAdd,reduceLT,reduceCtorEq,reduceToNat,hl,gi,ha0,hi0,hw0,c1,f3.1,f3.2.1,f3a,f3b,k5,c6,k7,CL,LTN]) (by first | assumption | (simp only [ag,ak]; assumption)) (by first | assumption | (simp only [ag,ak]; assumption)) Q (fun fr tk2 τ2 w0 w0' g0 ht hτ => hQ0 fr tk2 τ2 w0 w0' g0 ht (by first | exact hτ | simpa only [ag,zamt,hl,gi,ha0,hi0,hw0] using hτ))
 rw [if_neg c1] at h
 injection h with h; subst h
 obtain rfl : _ = r := ih
 simp -implicitDefEqProofs only [mw,o8,TT,Ic.t,ci,reduceEqDiff,reduceIte,reduceAdd,reduceLT,reduceCtorEq,reduceToNat,hl,gi,ha0,hi0,hw0,he,hr,c1,CL,LTN]
 exact hQ0  _ _ _ ub0 (by first | exact .inl rfl | assumption) (by first | rfl | (simp -implicitDefEqProofs only [TT,Ic.t,ci,reduceEqDiff,reduceIte,reduceAdd,reduceLT,reduceCtorEq,reduceToNat,hl,gi,ha0,hi0,hw0,c1,CL,LTN])) (by first | rfl | (simp -implicitDefEqProofs only [TT,Ic.t,ci,reduceEqDiff,reduceIte,reduceAdd,reduceLT,reduceCtorEq,reduceToNat,hl,gi,ha0,hi0,hw0,c1,CL,LTN])) (by first | exact kd (Nat.le_refl _) | (simp -implicitDefEqProofs only [TT,Ic.t,ci,reduceEqDiff,reduceIte,reduceAdd,reduceLT,reduceCtorEq,reduceToNat,hl,gi,ha0,hi0,hw0,me ha0,c1,CL,LTN]))
noncomputable def jg (p1 : (List ac)) : Option ByteArray :=
 gu ((p1.length : Nat) : Int) >>= fun y1 =>
 if y1.size ≤ 140737488355328 then
  gr p1 ((p1.length : Nat) : Int) y1 (0 : Int) >>= fun y5 =>
  if y5.size ≤ 140737488355328 then
   some y5
  else
   none
 else
  none
theorem z7 (p1 : (List ac)) (r : ByteArray) (h : jg p1 = some r) (τ : TH) (hl : τ.lock ≤ τ.next) : Ru G jp [.sl (List.map ac.tv p1),.func lp [] []] τ (.str r) τ := by
 refine jt fun K hK => ?_
 rw [bx zalo (Nat.le_of_ble_eq_true rfl)]
 unfold jg at h
 obtain ⟨y1,hy1,h⟩ := ob h
 have k2 := ir ((p1.length : Nat) : Int) _ hy1
 try simp only [CL,MC,reduceToNat] at k2
 obtain ⟨c3,h⟩ := ifS h
 have k4 := fun (id : Nat) (d : Option Nat) (K : aw) (fr : TF) (tk : TK) (τ : TH) (ha : τ.at id = some (zaqf id false ⟨#[]⟩)) (hi : id < τ.next) (hw : τ.lock ≤ id) (hl : τ.lock ≤ τ.next) => zab1 id d K fr tk τ ha hi hw hl y1 c3
 obtain ⟨y5,hy5,h⟩ := ob h
 simp -implicitDefEqProofs only [o8,TT,Ic.t,ci,reduceEqDiff,reduceIte,reduceAdd,reduceLT,reduceCtorEq,reduceToNat,hl,k2,c3,k4,gi,CL,LTN]
 have Sy5 := zaf0 p1 ((p1.length : Nat) : Int) y1 (0 : Int) y5 hy5
 unfold kf at Sy5
 refine Sy5 _ τ.next (by first | assumption | omega | (simp only [ag,ap,ak,bb]; omega)) true (by first | exact .inl rfl | exact .inr rfl | assumption) (by simp -implicitDefEqProofs only [TT,Ic.t,ci,reduceEqDiff,reduceIte,reduceAdd,reduceLT,reduceCtorEq,reduceToNat,hl,k2,c3,k4,gi,CL,LTN]) (by first | assumption | omega | (simp only [ag,ap,ak,bb]; omega)) (by first | assumption | omega | (simp only [ag,ap,ak,bb]; omega)) _ ?_
 intro frq6 tkq6 τq6 ubz6_0 huubz6_0 g5q6 htq6 hcq6
 have hcq6 := ga (n := τ.next + 1) hcq6 (by first | omega | (simp only [ag,ap]; omega))
 try simp only [List.take_succ_cons,List.take_zero,List.take_nil,CL] at htq6
 try simp -implicitDefEqProofs only [TT,Ic.t,ci,reduceEqDiff,reduceIte,reduceAdd,reduceLT,reduceCtorEq,reduceToNat,hl,k2,c3,k4,gi,CL,LTN] at hcq6
 obtain ⟨c7,h⟩ := ifS h
 have k8 := fun (id : Nat) (d : Option Nat) (K : aw) (fr : TF) (tk : TK) (τ : TH) (ha : τ.at id = some (zaqf id ubz6_0 y5)) (hi : id < τ.next) (hw : τ.lock ≤ id) (hl : τ.lock ≤ τ.next) => zat0 y5 id ubz6_0 d K fr tk τ ha hi hw hl (by first | exact .inl rfl | assumption) c7
 injection h with h; subst h
 simp -implicitDefEqProofs only [o8,TT,Ic.t,ci,reduceEqDiff,reduceIte,reduceAdd,reduceLT,reduceCtorEq,reduceToNat,hl,k2,c3,k4,gi,g5q6,htq6,hcq6,c7,k8,CL,LTN]
 exact hK
theorem zaiq (p1 : (List ac)) (r : ByteArray) (h : jg p1 = some r) (lk : Bool) (d : Option Nat) (K : aw) (fr : TF) (tk : TK) (τ : TH) (hl : τ.lock ≤ τ.next) : fo G lk jp [.sl (List.map ac.tv p1),.func lp [] []] d K fr tk τ = K (gc fr d (.str r)) tk τ :=
 bn (z7 p1 r h τ  hl) (z7 p1 r h (τ.locked τ.next)  (Nat.le_refl _) ) (by simp -implicitDefEqProofs only [TT,Ic.t,ci,reduceEqDiff,reduceIte,reduceAdd,reduceLT,reduceCtorEq,reduceToNat,hl,CL,LTN])
noncomputable def r9 (p1 : af) : Option ByteArray :=
 gu p1.From >>= fun y1 =>
 gu p1.To >>= fun y3 =>
 if ¬ (9223372036854775807 < ((y1.size + y3.size : Nat) : Int)) then
  gu p1.Ledger >>= fun y6 =>
  if ¬ (9223372036854775807 < (((y1 ++ y3).size + y6.size : Nat) : Int)) then
   o6 p1.Asset >>= fun y9 =>
   if ¬ (9223372036854775807 < ((((y1 ++ y3) ++ y6).size + y9.size : Nat) : Int)) then
    gu p1.Amount >>= fun y12 =>
    if ¬ (9223372036854775807 < (((((y1 ++ y3) ++ y6) ++ y9).size + y12.size : Nat) : Int)) then
     some ((((y1 ++ y3) ++ y6) ++ y9) ++ y12)
    else
     none
   else
    none
  else
   none
 else
  none
theorem zajm (p1 : af) (r : ByteArray) (h : r9 p1 = some r) (τ : TH) (hl : τ.lock ≤ τ.next) : Ru G lm [.agg [.int .i64 p1.From,.int .i64 p1.To,.int .i64 p1.Ledger,.str p1.Asset,.int .i64 p1.Amount]] τ (.str r) τ := by
 refine jt fun K hK => ?_
 rw [bx za0n (Nat.le_of_ble_eq_true rfl)]
 unfold r9 at h
 obtain ⟨y1,hy1,h⟩ := ob h
 have k2 := ir p1.From _ hy1
 try simp only [CL,MC,reduceToNat] at k2
 obtain ⟨y3,hy3,h⟩ := ob h
 have k4 := ir p1.To _ hy3
 try simp only [CL,MC,reduceToNat] at k4
 obtain ⟨c5,h⟩ := ifS h
 obtain ⟨y6,hy6,h⟩ := ob h
 have k7 := ir p1.Ledger _ hy6
 try simp only [CL,MC,reduceToNat] at k7
 obtain ⟨c8,h⟩ := ifS h
 obtain ⟨y9,hy9,h⟩ := ob h
 have k10 := zabz p1.Asset _ hy9
 try simp only [CL,MC,reduceToNat] at k10
 obtain ⟨c11,h⟩ := ifS h
 obtain ⟨y12,hy12,h⟩ := ob h
 have k13 := ir p1.Amount _ hy12
 try simp only [CL,MC,reduceToNat] at k13
 obtain ⟨c14,h⟩ := ifS h
 injection h with h; subst h
 simp -implicitDefEqProofs only [za0z,TT,Ic.t,ci,reduceEqDiff,reduceIte,reduceAdd,reduceLT,reduceCtorEq,reduceToNat,hl,k2,k4,c5,k7,c8,k10,c11,k13,c14,CL,LTN]
 exact hK
theorem zawl (p1 : af) (r : ByteArray) (h : r9 p1 = some r) (lk : Bool) (d : Option Nat) (K : aw) (fr : TF) (tk : TK) (τ : TH) (hl : τ.lock ≤ τ.next) : fo G lk lm [.agg [.int .i64 p1.From,.int .i64 p1.To,.int .i64 p1.Ledger,.str p1.Asset,.int .i64 p1.Amount]] d K fr tk τ = K (gc fr d (.str r)) tk τ :=
 bn (zajm p1 r h τ  hl) (zajm p1 r h (τ.locked τ.next)  (Nat.le_refl _) ) (by simp -implicitDefEqProofs only [TT,Ic.t,ci,reduceEqDiff,reduceIte,reduceAdd,reduceLT,reduceCtorEq,reduceToNat,hl,CL,LTN])
noncomputable def da (v1 : (List af)) (v2 : Int) (v0 : ByteArray) (v3 : Int) : Option (LS (ByteArray × Int) (ByteArray)) :=
 if v3 < v2 then
  ixL v1 v3 >>= fun y2 =>
  r9 (⟨y2.From,y2.To,y2.Ledger,y2.Asset,y2.Amount⟩ : af) >>= fun y4 =>
  if v0.size + y4.size ≤ 140737488355328 then
   some (.nx ((v0 ++ y4),(IntKind.i64.wrap (v3 + (1 : Int)))))
  else
   none
 else
 some (.dn v0)
noncomputable def ia (v1 : (List af)) (v2 : Int) (v0 : ByteArray) (v3 : Int) : Option (ByteArray) := sd (fun st => da v1 v2 st.1 st.2) (v0,v3)
theorem vu (v1 : (List af)) (v2 : Int) (v0 : ByteArray) (v3 : Int) : ia v1 v2 v0 v3 = da v1 v2 v0 v3 >>= LS.go (fun st => ia v1 v2 st.1 st.2) := gw (fun st => da v1 v2 st.1 st.2) (v0,v3)
def ma (v1 : (List af)) (v2 : Int) (v0 : ByteArray) (v3 : Int) (r : ByteArray) : Prop := ∀ (τ : TH) (o0 : Nat) (hl : τ.lock ≤ τ.next) (ub0 : Bool) (hub0 : ub0 = true ∨ v0.size = 0) (ha0 : τ.at o0 = some (zaqf o0 ub0 v0)) (hi0 : o0 < τ.next) (hw0 : τ.lock ≤ o0) (Q : TEx → aw) (hQ0 : ∀ (fr : TF) (tk2 : TK) (τ2 : TH),∀ (ubx0 : Bool),(ubx0 = true ∨ r.size = 0) → lkp fr 5 = .ptr o0 0 → tk2.take 0 = [] → τ2.cut τ.next = (τ.put o0 (zaqf o0 ubx0 r)) → Q (.exit 0) fr tk2 τ2) ,tW G (.loop [1,5,12,13,14] ox) Q [(1,.func lm [] []),(5,.ptr o0 0),(12,.sl (List.map af.tv v1)),(13,.int .i64 v2),(14,.int .i64 v3)] [] τ
theorem zag8 (v1 : (List af)) (v2 : Int) (v0 : ByteArray) (v3 : Int) (r : ByteArray) (h : ia v1 v2 v0 v3 = some r) : ma v1 v2 v0 v3 r := by
 refine ff (f := fun st => da v1 v2 st.1 st.2) (P := fun st r => ∀ (v0 : ByteArray) (v3 : Int),(v0,v3) = st → ma v1 v2 v0 v3 r) ?_ h v0 v3 rfl
 clear h r v3 v0
 intro st o h r ih v0 v3 hst τ o0  hl ub0 hub0 ha0 hi0 hw0 Q hQ0
 subst hst
 have h : da v1 v2 v0 v3 = some o := h
 unfold da at h
 refine pb fun LQ hn hr he => ?_
 by_cases c1 : v3 < v2
 · rw [if_pos c1] at h
   obtain ⟨y2,hy2,h⟩ := ob h
   have f3 := dd hy2
   have f3a := (f3.2.2 af.tv).1
   have f3b := (f3.2.2 af.tv).2
   try simp only [CL,MC,reduceToNat] at f3 f3a f3b
   obtain ⟨y4,hy4,h⟩ := ob h
   have k5 := zawl (⟨y2.From,y2.To,y2.Ledger,y2.Asset,y2.Amount⟩ : af) _ hy4
   try simp only [CL,MC,reduceToNat] at k5
   obtain ⟨c6,h⟩ := ifS h
   have k7 := fun (id : Nat) (d : Option Nat) (K : aw) (fr : TF) (tk : TK) (τ : TH) (ha : τ.at id = some (zaqf id ub0 v0)) (hi : id < τ.next) (hw : τ.lock ≤ id) (hl : τ.lock ≤ τ.next) => zaaq v0 id ub0 d K fr tk τ ha hi hw hl (by first | exact .inl rfl | assumption) y4 c6
   injection h with h; subst h
   have ih := ih (v0 ++ y4) (IntKind.i64.wrap (v3 + (1 : Int))) rfl
   unfold ma at ih
   simp -implicitDefEqProofs only [ox,rm,TT,Ic.t,ci,reduceEqDiff,reduceIte,reduceAdd,reduceLT,reduceCtorEq,reduceToNat,hl,gi,ha0,hi0,hw0,c1,f3.1,f3.2.1,f3a,f3b,k5,c6,k7,CL,LTN]
   rw [hn]
   simp -implicitDefEqProofs only [TT,Ic.t,ci,reduceEqDiff,reduceIte,reduceAdd,reduceLT,reduceCtorEq,reduceToNat,hl,gi,ha0,hi0,hw0,c1,f3.1,f3.2.1,f3a,f3b,k5,c6,k7,CL,LTN]
   exact ih  (τ.put o0 (zaqf o0 true (v0 ++ y4))) o0   (by first | assumption | (simp only [ag,ak]; assumption)) true (by first | exact .inl rfl | assumption) (by simp -implicitDefEqProofs only [TT,Ic.t,ci,reduceEqDiff,reduceIte,reduceAdd,reduceLT,reduceCtorEq,reduceToNat,hl,gi,ha0,hi0,hw0,c1,f3.1,f3.2.1,f3a,f3b,k5,c6,k7,CL,LTN]) (by first | assumption | (simp only [ag,ak]; assumption)) (by first | assumption | (simp only [ag,ak]; assumption)) Q (fun fr tk2 τ2 w0 w0' g0 ht hτ => hQ0 fr tk2 τ2 w0 w0' g0 ht (by first | exact hτ | simpa only [ag,zamt,hl,gi,ha0,hi0,hw0] using hτ))
 rw [if_neg c1] at h
 injection h with h; subst h
 obtain rfl : _ = r := ih
 simp -implicitDefEqProofs only [ox,rm,TT,Ic.t,ci,reduceEqDiff,reduceIte,reduceAdd,reduceLT,reduceCtorEq,reduceToNat,hl,gi,ha0,hi0,hw0,he,hr,c1,CL,LTN]
 exact hQ0  _ _ _ ub0 (by first | exact .inl rfl | assumption) (by first | rfl | (simp -implicitDefEqProofs only [TT,Ic.t,ci,reduceEqDiff,reduceIte,reduceAdd,reduceLT,reduceCtorEq,reduceToNat,hl,gi,ha0,hi0,hw0,c1,CL,LTN])) (by first | rfl | (simp -implicitDefEqProofs only [TT,Ic.t,ci,reduceEqDiff,reduceIte,reduceAdd,reduceLT,reduceCtorEq,reduceToNat,hl,gi,ha0,hi0,hw0,c1,CL,LTN])) (by first | exact kd (Nat.le_refl _) | (simp -implicitDefEqProofs only [TT,Ic.t,ci,reduceEqDiff,reduceIte,reduceAdd,reduceLT,reduceCtorEq,reduceToNat,hl,gi,ha0,hi0,hw0,me ha0,c1,CL,LTN]))
noncomputable def km (p1 : (List af)) : Option ByteArray :=
 gu ((p1.length : Nat) : Int) >>= fun y1 =>
 if y1.size ≤ 140737488355328 then
  ia p1 ((p1.length : Nat) : Int) y1 (0 : Int) >>= fun y5 =>
  if y5.size ≤ 140737488355328 then
   some y5
  else
   none
 else
  none
theorem zab5 (p1 : (List af)) (r : ByteArray) (h : km p1 = some r) (τ : TH) (hl : τ.lock ≤ τ.next) : Ru G kw [.sl (List.map af.tv p1),.func lm [] []] τ (.str r) τ := by
 refine jt fun K hK => ?_
 rw [bx zapr (Nat.le_of_ble_eq_true rfl)]
 unfold km at h
 obtain ⟨y1,hy1,h⟩ := ob h
 have k2 := ir ((p1.length : Nat) : Int) _ hy1
 try simp only [CL,MC,reduceToNat] at k2
 obtain ⟨c3,h⟩ := ifS h
 have k4 := fun (id : Nat) (d : Option Nat) (K : aw) (fr : TF) (tk : TK) (τ : TH) (ha : τ.at id = some (zaqf id false ⟨#[]⟩)) (hi : id < τ.next) (hw : τ.lock ≤ id) (hl : τ.lock ≤ τ.next) => zab1 id d K fr tk τ ha hi hw hl y1 c3
 obtain ⟨y5,hy5,h⟩ := ob h
 simp -implicitDefEqProofs only [rm,TT,Ic.t,ci,reduceEqDiff,reduceIte,reduceAdd,reduceLT,reduceCtorEq,reduceToNat,hl,k2,c3,k4,gi,CL,LTN]
 have Sy5 := zag8 p1 ((p1.length : Nat) : Int) y1 (0 : Int) y5 hy5
 unfold ma at Sy5
 refine Sy5 _ τ.next (by first | assumption | omega | (simp only [ag,ap,ak,bb]; omega)) true (by first | exact .inl rfl | exact .inr rfl | assumption) (by simp -implicitDefEqProofs only [TT,Ic.t,ci,reduceEqDiff,reduceIte,reduceAdd,reduceLT,reduceCtorEq,reduceToNat,hl,k2,c3,k4,gi,CL,LTN]) (by first | assumption | omega | (simp only [ag,ap,ak,bb]; omega)) (by first | assumption | omega | (simp only [ag,ap,ak,bb]; omega)) _ ?_
 intro frq6 tkq6 τq6 ubz6_0 huubz6_0 g5q6 htq6 hcq6
 have hcq6 := ga (n := τ.next + 1) hcq6 (by first | omega | (simp only [ag,ap]; omega))
 try simp only [List.take_succ_cons,List.take_zero,List.take_nil,CL] at htq6
 try simp -implicitDefEqProofs only [TT,Ic.t,ci,reduceEqDiff,reduceIte,reduceAdd,reduceLT,reduceCtorEq,reduceToNat,hl,k2,c3,k4,gi,CL,LTN] at hcq6
 obtain ⟨c7,h⟩ := ifS h
 have k8 := fun (id : Nat) (d : Option Nat) (K : aw) (fr : TF) (tk : TK) (τ : TH) (ha : τ.at id = some (zaqf id ubz6_0 y5)) (hi : id < τ.next) (hw : τ.lock ≤ id) (hl : τ.lock ≤ τ.next) => zat0 y5 id ubz6_0 d K fr tk τ ha hi hw hl (by first | exact .inl rfl | assumption) c7
 injection h with h; subst h
 simp -implicitDefEqProofs only [rm,TT,Ic.t,ci,reduceEqDiff,reduceIte,reduceAdd,reduceLT,reduceCtorEq,reduceToNat,hl,k2,c3,k4,gi,g5q6,htq6,hcq6,c7,k8,CL,LTN]
 exact hK
theorem zaks (p1 : (List af)) (r : ByteArray) (h : km p1 = some r) (lk : Bool) (d : Option Nat) (K : aw) (fr : TF) (tk : TK) (τ : TH) (hl : τ.lock ≤ τ.next) : fo G lk kw [.sl (List.map af.tv p1),.func lm [] []] d K fr tk τ = K (gc fr d (.str r)) tk τ :=
 bn (zab5 p1 r h τ  hl) (zab5 p1 r h (τ.locked τ.next)  (Nat.le_refl _) ) (by simp -implicitDefEqProofs only [TT,Ic.t,ci,reduceEqDiff,reduceIte,reduceAdd,reduceLT,reduceCtorEq,reduceToNat,hl,CL,LTN])
noncomputable def eg (v1 : (List Int)) (v2 : Int) (v0 : ByteArray) (v3 : Int) : Option (LS (ByteArray × Int) (ByteArray)) :=
 if v3 < v2 then
  ixL v1 v3 >>= fun y2 =>
  gu y2 >>= fun y4 =>
  if v0.size + y4.size ≤ 140737488355328 then
   some (.nx ((v0 ++ y4),(IntKind.i64.wrap (v3 + (1 : Int)))))
  else
   none
 else
 some (.dn v0)
noncomputable def l9 (v1 : (List Int)) (v2 : Int) (v0 : ByteArray) (v3 : Int) : Option (ByteArray) := sd (fun st => eg v1 v2 st.1 st.2) (v0,v3)
theorem zab4 (v1 : (List Int)) (v2 : Int) (v0 : ByteArray) (v3 : Int) : l9 v1 v2 v0 v3 = eg v1 v2 v0 v3 >>= LS.go (fun st => l9 v1 v2 st.1 st.2) := gw (fun st => eg v1 v2 st.1 st.2) (v0,v3)
def pu (v1 : (List Int)) (v2 : Int) (v0 : ByteArray) (v3 : Int) (r : ByteArray) : Prop := ∀ (τ : TH) (o0 : Nat) (hl : τ.lock ≤ τ.next) (ub0 : Bool) (hub0 : ub0 = true ∨ v0.size = 0) (ha0 : τ.at o0 = some (zaqf o0 ub0 v0)) (hi0 : o0 < τ.next) (hw0 : τ.lock ≤ o0) (Q : TEx → aw) (hQ0 : ∀ (fr : TF) (tk2 : TK) (τ2 : TH),∀ (ubx0 : Bool),(ubx0 = true ∨ r.size = 0) → lkp fr 5 = .ptr o0 0 → tk2.take 0 = [] → τ2.cut τ.next = (τ.put o0 (zaqf o0 ubx0 r)) → Q (.exit 0) fr tk2 τ2) ,tW G (.loop [1,5,12,13,14] um) Q [(1,.func fj [] []),(5,.ptr o0 0),(12,.sl (List.map (TV.int .i64) v1)),(13,.int .i64 v2),(14,.int .i64 v3)] [] τ
theorem zams (v1 : (List Int)) (v2 : Int) (v0 : ByteArray) (v3 : Int) (r : ByteArray) (h : l9 v1 v2 v0 v3 = some r) : pu v1 v2 v0 v3 r := by
 refine ff (f := fun st => eg v1 v2 st.1 st.2) (P := fun st r => ∀ (v0 : ByteArray) (v3 : Int),(v0,v3) = st → pu v1 v2 v0 v3 r) ?_ h v0 v3 rfl
 clear h r v3 v0
 intro st o h r ih v0 v3 hst τ o0  hl ub0 hub0 ha0 hi0 hw0 Q hQ0
 subst hst
 have h : eg v1 v2 v0 v3 = some o := h
 unfold eg at h
 refine pb fun LQ hn hr he => ?_
 by_cases c1 : v3 < v2
 · rw [if_pos c1] at h
   obtain ⟨y2,hy2,h⟩ := ob h
   have f3 := dd hy2
   have f3a := (f3.2.2 (TV.int .i64)).1
   have f3b := (f3.2.2 (TV.int .i64)).2
   try simp only [CL,MC,reduceToNat] at f3 f3a f3b
   obtain ⟨y4,hy4,h⟩ := ob h
   have k5 := ir y2 _ hy4
   try simp only [CL,MC,reduceToNat] at k5
   obtain ⟨c6,h⟩ := ifS h
   have k7 := fun (id : Nat) (d : Option Nat) (K : aw) (fr : TF) (tk : TK) (τ : TH) (ha : τ.at id = some (zaqf id ub0 v0)) (hi : id < τ.next) (hw : τ.lock ≤ id) (hl : τ.lock ≤ τ.next) => zaaq v0 id ub0 d K fr tk τ ha hi hw hl (by first | exact .inl rfl | assumption) y4 c6
   injection h with h; subst h
   have ih := ih (v0 ++ y4) (IntKind.i64.wrap (v3 + (1 : Int))) rfl
   unfold pu at ih
   simp -implicitDefEqProofs only [um,zaar,TT,Ic.t,ci,reduceEqDiff,reduceIte,reduceAdd,reduceLT,reduceCtorEq,reduceToNat,hl,gi,ha0,hi0,hw0,c1,f3.1,f3.2.1,f3a,f3b,k5,c6,k7,CL,LTN]
   rw [hn]
   simp -implicitDefEqProofs only [TT,Ic.t,ci,reduceEqDiff,reduceIte,reduceAdd,reduceLT,reduceCtorEq,reduceToNat,hl,gi,ha0,hi0,hw0,c1,f3.1,f3.2.1,f3a,f3b,k5,c6,k7,CL,LTN]
   exact ih  (τ.put o0 (zaqf o0 true (v0 ++ y4))) o0   (by first | assumption | (simp only [ag,ak]; assumption)) true (by first | exact .inl rfl | assumption) (by simp -implicitDefEqProofs only [TT,Ic.t,ci,reduceEqDiff,reduceIte,reduceAdd,reduceLT,reduceCtorEq,reduceToNat,hl,gi,ha0,hi0,hw0,c1,f3.1,f3.2.1,f3a,f3b,k5,c6,k7,CL,LTN]) (by first | assumption | (simp only [ag,ak]; assumption)) (by first | assumption | (simp only [ag,ak]; assumption)) Q (fun fr tk2 τ2 w0 w0' g0 ht hτ => hQ0 fr tk2 τ2 w0 w0' g0 ht (by first | exact hτ | simpa only [ag,zamt,hl,gi,ha0,hi0,hw0] using hτ))
 rw [if_neg c1] at h
 injection h with h; subst h
 obtain rfl : _ = r := ih
 simp -implicitDefEqProofs only [um,zaar,TT,Ic.t,ci,reduceEqDiff,reduceIte,reduceAdd,reduceLT,reduceCtorEq,reduceToNat,hl,gi,ha0,hi0,hw0,he,hr,c1,CL,LTN]
 exact hQ0  _ _ _ ub0 (by first | exact .inl rfl | assumption) (by first | rfl | (simp -implicitDefEqProofs only [TT,Ic.t,ci,reduceEqDiff,reduceIte,reduceAdd,reduceLT,reduceCtorEq,reduceToNat,hl,gi,ha0,hi0,hw0,c1,CL,LTN])) (by first | rfl | (simp -implicitDefEqProofs only [TT,Ic.t,ci,reduceEqDiff,reduceIte,reduceAdd,reduceLT,reduceCtorEq,reduceToNat,hl,gi,ha0,hi0,hw0,c1,CL,LTN])) (by first | exact kd (Nat.le_refl _) | (simp -implicitDefEqProofs only [TT,Ic.t,ci,reduceEqDiff,reduceIte,reduceAdd,reduceLT,reduceCtorEq,reduceToNat,hl,gi,ha0,hi0,hw0,me ha0,c1,CL,LTN]))
noncomputable def p9 (p1 : (List Int)) : Option ByteArray :=
 gu ((p1.length : Nat) : Int) >>= fun y1 =>
 if y1.size ≤ 140737488355328 then
  l9 p1 ((p1.length : Nat) : Int) y1 (0 : Int) >>= fun y5 =>
  if y5.size ≤ 140737488355328 then
   some y5
  else
   none
 else
  none
theorem zag7 (p1 : (List Int)) (r : ByteArray) (h : p9 p1 = some r) (τ : TH) (hl : τ.lock ≤ τ.next) : Ru G qk [.sl (List.map (TV.int .i64) p1),.func fj [] []] τ (.str r) τ := by
 refine jt fun K hK => ?_
 rw [bx zazf (Nat.le_of_ble_eq_true rfl)]
 unfold p9 at h
 obtain ⟨y1,hy1,h⟩ := ob h
 have k2 := ir ((p1.length : Nat) : Int) _ hy1
 try simp only [CL,MC,reduceToNat] at k2
 obtain ⟨c3,h⟩ := ifS h
 have k4 := fun (id : Nat) (d : Option Nat) (K : aw) (fr : TF) (tk : TK) (τ : TH) (ha : τ.at id = some (zaqf id false ⟨#[]⟩)) (hi : id < τ.next) (hw : τ.lock ≤ id) (hl : τ.lock ≤ τ.next) => zab1 id d K fr tk τ ha hi hw hl y1 c3
 obtain ⟨y5,hy5,h⟩ := ob h
 simp -implicitDefEqProofs only [zaar,TT,Ic.t,ci,reduceEqDiff,reduceIte,reduceAdd,reduceLT,reduceCtorEq,reduceToNat,hl,k2,c3,k4,gi,CL,LTN]
 have Sy5 := zams p1 ((p1.length : Nat) : Int) y1 (0 : Int) y5 hy5
 unfold pu at Sy5
 refine Sy5 _ τ.next (by first | assumption | omega | (simp only [ag,ap,ak,bb]; omega)) true (by first | exact .inl rfl | exact .inr rfl | assumption) (by simp -implicitDefEqProofs only [TT,Ic.t,ci,reduceEqDiff,reduceIte,reduceAdd,reduceLT,reduceCtorEq,reduceToNat,hl,k2,c3,k4,gi,CL,LTN]) (by first | assumption | omega | (simp only [ag,ap,ak,bb]; omega)) (by first | assumption | omega | (simp only [ag,ap,ak,bb]; omega)) _ ?_
 intro frq6 tkq6 τq6 ubz6_0 huubz6_0 g5q6 htq6 hcq6
 have hcq6 := ga (n := τ.next + 1) hcq6 (by first | omega | (simp only [ag,ap]; omega))
 try simp only [List.take_succ_cons,List.take_zero,List.take_nil,CL] at htq6
 try simp -implicitDefEqProofs only [TT,Ic.t,ci,reduceEqDiff,reduceIte,reduceAdd,reduceLT,reduceCtorEq,reduceToNat,hl,k2,c3,k4,gi,CL,LTN] at hcq6
 obtain ⟨c7,h⟩ := ifS h
 have k8 := fun (id : Nat) (d : Option Nat) (K : aw) (fr : TF) (tk : TK) (τ : TH) (ha : τ.at id = some (zaqf id ubz6_0 y5)) (hi : id < τ.next) (hw : τ.lock ≤ id) (hl : τ.lock ≤ τ.next) => zat0 y5 id ubz6_0 d K fr tk τ ha hi hw hl (by first | exact .inl rfl | assumption) c7
 injection h with h; subst h
 simp -implicitDefEqProofs only [zaar,TT,Ic.t,ci,reduceEqDiff,reduceIte,reduceAdd,reduceLT,reduceCtorEq,reduceToNat,hl,k2,c3,k4,gi,g5q6,htq6,hcq6,c7,k8,CL,LTN]
 exact hK
theorem zaug (p1 : (List Int)) (r : ByteArray) (h : p9 p1 = some r) (lk : Bool) (d : Option Nat) (K : aw) (fr : TF) (tk : TK) (τ : TH) (hl : τ.lock ≤ τ.next) : fo G lk qk [.sl (List.map (TV.int .i64) p1),.func fj [] []] d K fr tk τ = K (gc fr d (.str r)) tk τ :=
 bn (zag7 p1 r h τ  hl) (zag7 p1 r h (τ.locked τ.next)  (Nat.le_refl _) ) (by simp -implicitDefEqProofs only [TT,Ic.t,ci,reduceEqDiff,reduceIte,reduceAdd,reduceLT,reduceCtorEq,reduceToNat,hl,CL,LTN])
noncomputable def tq (p1 : aq) : Option ByteArray :=
 ly p1 >>= fun y1 =>
 if y1 = true then
  o6 p1.ID >>= fun y4 =>
  jg p1.Parties >>= fun y6 =>
  if ¬ (9223372036854775807 < ((y4.size + y6.size : Nat) : Int)) then
   km p1.Arcs >>= fun y9 =>
   if ¬ (9223372036854775807 < (((y4 ++ y6).size + y9.size : Nat) : Int)) then
    p9 p1.Leaders >>= fun y12 =>
    if ¬ (9223372036854775807 < ((((y4 ++ y6) ++ y9).size + y12.size : Nat) : Int)) then
     jw p1.Locks >>= fun y15 =>
     if ¬ (9223372036854775807 < (((((y4 ++ y6) ++ y9) ++ y12).size + y15.size : Nat) : Int)) then
      gu p1.Start >>= fun y18 =>
      if ¬ (9223372036854775807 < ((((((y4 ++ y6) ++ y9) ++ y12) ++ y15).size + y18.size : Nat) : Int)) then
       gu p1.Delta >>= fun y21 =>
       if ¬ (9223372036854775807 < (((((((y4 ++ y6) ++ y9) ++ y12) ++ y15) ++ y18).size + y21.size : Nat) : Int)) then
        some ((((((y4 ++ y6) ++ y9) ++ y12) ++ y15) ++ y18) ++ y21)
       else
        none
      else
       none
     else
      none
    else
     none
   else
    none
  else
   none
 else
 some (⟨#[]⟩ : ByteArray)
theorem zam8 (p1 : aq) (r : ByteArray) (h : tq p1 = some r) (τ : TH) (hl : τ.lock ≤ τ.next) : Ru G rc [.agg [.str p1.ID,.sl (List.map ac.tv p1.Parties),.sl (List.map af.tv p1.Arcs),.sl (List.map (TV.int .i64) p1.Leaders),.sl (List.map TV.str p1.Locks),.int .i64 p1.Start,.int .i64 p1.Delta]] τ (.str r) τ := by
 refine jt fun K hK => ?_
 rw [bx za79 (Nat.le_of_ble_eq_true rfl)]
 unfold tq at h
 obtain ⟨y1,hy1,h⟩ := ob h
 have k2 := zabx p1 _ hy1
 try simp only [CL,MC,reduceToNat] at k2
 by_cases c3 : y1 = true
 · rw [if_pos c3] at h
   obtain ⟨y4,hy4,h⟩ := ob h
   have k5 := zabz p1.ID _ hy4
   try simp only [CL,MC,reduceToNat] at k5
   obtain ⟨y6,hy6,h⟩ := ob h
   have k7 := zaiq p1.Parties _ hy6
   try simp only [CL,MC,reduceToNat] at k7
   obtain ⟨c8,h⟩ := ifS h
   obtain ⟨y9,hy9,h⟩ := ob h
   have k10 := zaks p1.Arcs _ hy9
   try simp only [CL,MC,reduceToNat] at k10
   obtain ⟨c11,h⟩ := ifS h
   obtain ⟨y12,hy12,h⟩ := ob h
   have k13 := zaug p1.Leaders _ hy12
   try simp only [CL,MC,reduceToNat] at k13
   obtain ⟨c14,h⟩ := ifS h
   obtain ⟨y15,hy15,h⟩ := ob h
   have k16 := zadr p1.Locks _ hy15
   try simp only [CL,MC,reduceToNat] at k16
   obtain ⟨c17,h⟩ := ifS h
   obtain ⟨y18,hy18,h⟩ := ob h
   have k19 := ir p1.Start _ hy18
   try simp only [CL,MC,reduceToNat] at k19
   obtain ⟨c20,h⟩ := ifS h
   obtain ⟨y21,hy21,h⟩ := ob h
   have k22 := ir p1.Delta _ hy21
   try simp only [CL,MC,reduceToNat] at k22
   obtain ⟨c23,h⟩ := ifS h
   injection h with h; subst h
   simp -implicitDefEqProofs only [zawc,TT,Ic.t,ci,reduceEqDiff,reduceIte,reduceAdd,reduceLT,reduceCtorEq,reduceToNat,hl,k2,c3,k5,k7,c8,k10,c11,k13,c14,k16,c17,k19,c20,k22,c23,CL,LTN]
   first | exact hK | (simp only [hl,k2,c3,k5,k7,c8,k10,c11,k13,c14,k16,c17,k19,c20,k22,c23,CL] at hK; exact hK)
 rw [if_neg c3] at h
 have c3 := Bool.eq_false_iff.2 c3
 injection h with h; subst h
 simp -implicitDefEqProofs only [zawc,TT,Ic.t,ci,reduceEqDiff,reduceIte,reduceAdd,reduceLT,reduceCtorEq,reduceToNat,hl,k2,c3,CL,LTN]
 first | exact hK | (simp only [hl,k2,c3,CL] at hK; exact hK)
theorem zam9 (p1 : aq) (r : ByteArray) (h : tq p1 = some r) (lk : Bool) (d : Option Nat) (K : aw) (fr : TF) (tk : TK) (τ : TH) (hl : τ.lock ≤ τ.next) : fo G lk rc [.agg [.str p1.ID,.sl (List.map ac.tv p1.Parties),.sl (List.map af.tv p1.Arcs),.sl (List.map (TV.int .i64) p1.Leaders),.sl (List.map TV.str p1.Locks),.int .i64 p1.Start,.int .i64 p1.Delta]] d K fr tk τ = K (gc fr d (.str r)) tk τ :=
 bn (zam8 p1 r h τ  hl) (zam8 p1 r h (τ.locked τ.next)  (Nat.le_refl _) ) (by simp -implicitDefEqProofs only [TT,Ic.t,ci,reduceEqDiff,reduceIte,reduceAdd,reduceLT,reduceCtorEq,reduceToNat,hl,CL,LTN])
noncomputable def zafs (p1 : ByteArray) : Option aa :=
 some (⟨p1,false⟩ : aa)
theorem za4o (p1 : ByteArray) (r : aa) (h : zafs p1 = some r) (τ : TH) (hl : τ.lock ≤ τ.next) : Ru G zabr [.str p1] τ (.ptr τ.next 0) (τ.push ⟨ah,[.str r.s_,.bool r.bad_]⟩) := by
 refine jt fun K hK => ?_
 rw [bx zbbm (Nat.le_of_ble_eq_true rfl)]
 unfold zafs at h
 injection h with h; subst h
 simp -implicitDefEqProofs only [zbck,TT,Ic.t,ci,reduceEqDiff,reduceIte,reduceAdd,reduceMul,reduceLT,reduceLeDiff,reduceSub,reduceCtorEq,reduceEq,reduceNe,reduceToNat,Int.reduceLT,reduceLE,reduceNeg,hl,CL,LTN]
 exact hK
theorem za4p (p1 : ByteArray) (r : aa) (h : zafs p1 = some r) (d : Option Nat) (K : aw) (fr : TF) (tk : TK) (τ : TH) (hl : τ.lock ≤ τ.next) : fo G false zabr [.str p1] d K fr tk τ = K (gc fr d (.ptr τ.next 0)) tk (τ.push ⟨ah,[.str r.s_,.bool r.bad_]⟩) :=
 nw (za4o p1 r h τ  hl) (by simp -implicitDefEqProofs only [TT,Ic.t,ci,reduceEqDiff,reduceIte,reduceAdd,reduceLT,reduceCtorEq,reduceToNat,hl,CL,LTN])
noncomputable def gb (p1 : aa) : Option aa :=
 some (⟨(⟨#[]⟩ : ByteArray),true⟩ : aa)
theorem zal4 (p1 : aa) (r : aa) (h : gb p1 = some r) (τ : TH) (o0 : Nat) (hl : τ.lock ≤ τ.next) (ha0 : τ.at o0 = some ⟨ah,[.str p1.s_,.bool p1.bad_]⟩) (hi0 : o0 < τ.next) (hw0 : τ.lock ≤ o0) : Ru G je [.ptr o0 0] τ (.tup []) (τ.put o0 ⟨ah,[.str r.s_,.bool r.bad_]⟩) := by
 refine jt fun K hK => ?_
 rw [bx zapu (Nat.le_of_ble_eq_true rfl)]
 unfold gb at h
 injection h with h; subst h
 simp -implicitDefEqProofs only [zaqh,TT,Ic.t,ci,reduceEqDiff,reduceIte,reduceAdd,reduceMul,reduceLT,reduceLeDiff,reduceSub,reduceCtorEq,reduceEq,reduceNe,reduceToNat,Int.reduceLT,reduceLE,reduceNeg,hl,ha0,hi0,hw0,CL,LTN]
 exact hK
theorem l6 (p1 : aa) (r : aa) (h : gb p1 = some r) (d : Option Nat) (K : aw) (fr : TF) (tk : TK) (τ : TH) (o0 : Nat) (hl : τ.lock ≤ τ.next) (ha0 : τ.at o0 = some ⟨ah,[.str p1.s_,.bool p1.bad_]⟩) (hi0 : o0 < τ.next) (hw0 : τ.lock ≤ o0) : fo G false je [.ptr o0 0] d K fr tk τ = K (gc fr d (.tup [])) tk (τ.put o0 ⟨ah,[.str r.s_,.bool r.bad_]⟩) :=
 nw (zal4 p1 r h τ o0 hl ha0 hi0 hw0) (by simp -implicitDefEqProofs only [TT,Ic.t,ci,reduceEqDiff,reduceIte,reduceAdd,reduceLT,reduceCtorEq,reduceToNat,hl,ha0,hi0,hw0,CL,LTN])
noncomputable def iy (p1 : aa) (p2 : Int) : Option (ByteArray × aa) :=
 if p1.bad_ = true then
  gb p1 >>= fun y2 =>
  some ((⟨#[]⟩ : ByteArray),y2)
 else
 if p2 < (0 : Int) then
  gb p1 >>= fun y5 =>
  some ((⟨#[]⟩ : ByteArray),y5)
 else
 if ((p1.s_.size : Nat) : Int) < p2 then
  gb p1 >>= fun y8 =>
  some ((⟨#[]⟩ : ByteArray),y8)
 else
 if 0 ≤ p2 ∧ p2 ≤ (p1.s_.size : Int) then
  some ((p1.s_.extract 0 p2.toNat),(⟨(p1.s_.extract p2.toNat p1.s_.size),p1.bad_⟩ : aa))
 else
  none
theorem zal3 (p1 : aa) (p2 : Int) (r : ByteArray × aa) (h : iy p1 p2 = some r) (τ : TH) (o0 : Nat) (hl : τ.lock ≤ τ.next) (ha0 : τ.at o0 = some ⟨ah,[.str p1.s_,.bool p1.bad_]⟩) (hi0 : o0 < τ.next) (hw0 : τ.lock ≤ o0) : Ru G jd [.ptr o0 0,.int .i64 p2] τ (.str r.1) (τ.put o0 ⟨ah,[.str r.2.s_,.bool r.2.bad_]⟩) := by
 refine jt fun K hK => ?_
 rw [bx zapt (Nat.le_of_ble_eq_true rfl)]
 unfold iy at h
 by_cases c1 : p1.bad_ = true
 · rw [if_pos c1] at h
   obtain ⟨y2,hy2,h⟩ := ob h
   have k3 := l6 p1 _ hy2
   try simp only [CL,MC,reduceToNat] at k3
   injection h with h; subst h
   simp -implicitDefEqProofs only [rp,TT,Ic.t,ci,reduceEqDiff,reduceIte,reduceAdd,reduceMul,reduceLT,reduceLeDiff,reduceSub,reduceCtorEq,reduceEq,reduceNe,reduceToNat,Int.reduceLT,reduceLE,reduceNeg,hl,ha0,hi0,hw0,c1,k3,CL,LTN]
   first | exact hK | (simp only [hl,ha0,hi0,hw0,c1,k3,CL] at hK; exact hK)
 rw [if_neg c1] at h
 have c1 := Bool.eq_false_iff.2 c1
 by_cases c4 : p2 < (0 : Int)
 · rw [if_pos c4] at h
   obtain ⟨y5,hy5,h⟩ := ob h
   have k6 := l6 p1 _ hy5
   try simp only [CL,MC,reduceToNat] at k6
   injection h with h; subst h
   simp -implicitDefEqProofs only [rp,TT,Ic.t,ci,reduceEqDiff,reduceIte,reduceAdd,reduceMul,reduceLT,reduceLeDiff,reduceSub,reduceCtorEq,reduceEq,reduceNe,reduceToNat,Int.reduceLT,reduceLE,reduceNeg,hl,ha0,hi0,hw0,c1,c4,k6,CL,LTN]
   first | exact hK | (simp only [hl,ha0,hi0,hw0,c1,c4,k6,CL] at hK; exact hK)
 rw [if_neg c4] at h
 by_cases c7 : ((p1.s_.size : Nat) : Int) < p2
 · rw [if_pos c7] at h
   obtain ⟨y8,hy8,h⟩ := ob h
   have k9 := l6 p1 _ hy8
   try simp only [CL,MC,reduceToNat] at k9
   injection h with h; subst h
   simp -implicitDefEqProofs only [rp,TT,Ic.t,ci,reduceEqDiff,reduceIte,reduceAdd,reduceMul,reduceLT,reduceLeDiff,reduceSub,reduceCtorEq,reduceEq,reduceNe,reduceToNat,Int.reduceLT,reduceLE,reduceNeg,hl,ha0,hi0,hw0,c1,c4,c7,k9,CL,LTN]
   first | exact hK | (simp only [hl,ha0,hi0,hw0,c1,c4,c7,k9,CL] at hK; exact hK)
 rw [if_neg c7] at h
 obtain ⟨c10,h⟩ := ifS h
 injection h with h; subst h
 simp -implicitDefEqProofs only [rp,TT,Ic.t,ci,reduceEqDiff,reduceIte,reduceAdd,reduceMul,reduceLT,reduceLeDiff,reduceSub,reduceCtorEq,reduceEq,reduceNe,reduceToNat,Int.reduceLT,reduceLE,reduceNeg,hl,ha0,hi0,hw0,c1,c4,c7,c10,CL,LTN]
 first | exact hK | (simp only [hl,ha0,hi0,hw0,c1,c4,c7,c10,CL] at hK; exact hK)
theorem zac7 (p1 : aa) (p2 : Int) (r : ByteArray × aa) (h : iy p1 p2 = some r) (d : Option Nat) (K : aw) (fr : TF) (tk : TK) (τ : TH) (o0 : Nat) (hl : τ.lock ≤ τ.next) (ha0 : τ.at o0 = some ⟨ah,[.str p1.s_,.bool p1.bad_]⟩) (hi0 : o0 < τ.next) (hw0 : τ.lock ≤ o0) : fo G false jd [.ptr o0 0,.int .i64 p2] d K fr tk τ = K (gc fr d (.str r.1)) tk (τ.put o0 ⟨ah,[.str r.2.s_,.bool r.2.bad_]⟩) :=
 nw (zal3 p1 p2 r h τ o0 hl ha0 hi0 hw0) (by simp -implicitDefEqProofs only [TT,Ic.t,ci,reduceEqDiff,reduceIte,reduceAdd,reduceLT,reduceCtorEq,reduceToNat,hl,ha0,hi0,hw0,CL,LTN])
noncomputable def dg (v1 : (List Int)) (v2 : Int) (v0 : Int) (v3 : Int) : Option (LS (Int × Int) (Int)) :=
 if v3 < v2 then
  ixL v1 v3 >>= fun y2 =>
  some (IntKind.i64.wrap ((BitVec.ofInt IntKind.i64.bits (IntKind.i64.wrap (v0 * 2 ^ (Nat.min 8 IntKind.i64.bits))) ||| BitVec.ofInt IntKind.i64.bits (IntKind.i64.wrap y2)).toNat : Int)) >>= fun x4 =>
  some (.nx (x4,(IntKind.i64.wrap (v3 + (1 : Int)))))
 else
 some (.dn v0)
noncomputable def jj (v1 : (List Int)) (v2 : Int) (v0 : Int) (v3 : Int) : Option (Int) := sd (fun st => dg v1 v2 st.1 st.2) (v0,v3)
theorem zm (v1 : (List Int)) (v2 : Int) (v0 : Int) (v3 : Int) : jj v1 v2 v0 v3 = dg v1 v2 v0 v3 >>= LS.go (fun st => jj v1 v2 st.1 st.2) := gw (fun st => dg v1 v2 st.1 st.2) (v0,v3)
def mz (v1 : (List Int)) (v2 : Int) (v0 : Int) (v3 : Int) (r : Int) : Prop := ∀ (τ : TH) (hl : τ.lock ≤ τ.next) (Q : TEx → aw) (hQ0 : ∀ (fr : TF) (tk2 : TK) (τ2 : TH),lkp fr 3 = .int .i64 r → tk2.take 0 = [] → τ2.cut τ.next = τ → Q (.exit 0) fr tk2 τ2) ,tW G (.loop [3,8,9,10] pw) Q [(3,.int .i64 v0),(8,.sl (List.map (TV.int .u8) v1)),(9,.int .i64 v2),(10,.int .i64 v3)] [] τ
theorem zajc (v1 : (List Int)) (v2 : Int) (v0 : Int) (v3 : Int) (r : Int) (h : jj v1 v2 v0 v3 = some r) : mz v1 v2 v0 v3 r := by
 refine ff (f := fun st => dg v1 v2 st.1 st.2) (P := fun st r => ∀ (v0 : Int) (v3 : Int),(v0,v3) = st → mz v1 v2 v0 v3 r) ?_ h v0 v3 rfl
 clear h r v3 v0
 intro st o h r ih v0 v3 hst τ  hl Q hQ0
 subst hst
 have h : dg v1 v2 v0 v3 = some o := h
 unfold dg at h
 refine pb fun LQ hn hr he => ?_
 by_cases c1 : v3 < v2
 · rw [if_pos c1] at h
   obtain ⟨y2,hy2,h⟩ := ob h
   have f3 := dd hy2
   have f3a := (f3.2.2 (TV.int .u8)).1
   have f3b := (f3.2.2 (TV.int .u8)).2
   try simp only [CL,MC,reduceToNat] at f3 f3a f3b
   obtain ⟨x4,hx4,h⟩ := ob h
   have f5 := Option.some.inj hx4
   injection h with h; subst h
   have ih := ih x4 (IntKind.i64.wrap (v3 + (1 : Int))) rfl
   unfold mz at ih
   simp -implicitDefEqProofs only [pw,tf,TT,Ic.t,ci,reduceEqDiff,reduceIte,reduceAdd,reduceMul,reduceLT,reduceLeDiff,reduceSub,reduceCtorEq,reduceEq,reduceNe,reduceToNat,Int.reduceLT,reduceLE,reduceNeg,hl,c1,f3.1,f3.2.1,f3a,f3b,f5,CL,LTN]
   rw [hn]
   simp -implicitDefEqProofs only [TT,Ic.t,ci,reduceEqDiff,reduceIte,reduceAdd,reduceMul,reduceLT,reduceLeDiff,reduceSub,reduceCtorEq,reduceEq,reduceNe,reduceToNat,Int.reduceLT,reduceLE,reduceNeg,hl,c1,f3.1,f3.2.1,f3a,f3b,f5,CL,LTN]
   exact ih  τ    (by first | assumption | (simp only [ag,ak]; assumption)) Q hQ0
 rw [if_neg c1] at h
 injection h with h; subst h
 obtain rfl : _ = r := ih
 simp -implicitDefEqProofs only [pw,tf,TT,Ic.t,ci,reduceEqDiff,reduceIte,reduceAdd,reduceMul,reduceLT,reduceLeDiff,reduceSub,reduceCtorEq,reduceEq,reduceNe,reduceToNat,Int.reduceLT,reduceLE,reduceNeg,hl,he,hr,c1,CL,LTN]
 exact hQ0  _ _ _  (by first | rfl | (simp -implicitDefEqProofs only [TT,Ic.t,ci,reduceEqDiff,reduceIte,reduceAdd,reduceMul,reduceLT,reduceLeDiff,reduceSub,reduceCtorEq,reduceEq,reduceNe,reduceToNat,Int.reduceLT,reduceLE,reduceNeg,hl,c1,CL,LTN])) (by first | rfl | (simp -implicitDefEqProofs only [TT,Ic.t,ci,reduceEqDiff,reduceIte,reduceAdd,reduceMul,reduceLT,reduceLeDiff,reduceSub,reduceCtorEq,reduceEq,reduceNe,reduceToNat,Int.reduceLT,reduceLE,reduceNeg,hl,c1,CL,LTN])) (by first | exact kd (Nat.le_refl _) | (simp -implicitDefEqProofs only [TT,Ic.t,ci,reduceEqDiff,reduceIte,reduceAdd,reduceMul,reduceLT,reduceLeDiff,reduceSub,reduceCtorEq,reduceEq,reduceNe,reduceToNat,Int.reduceLT,reduceLE,reduceNeg,hl,c1,CL,LTN]))
noncomputable def de (p1 : aa) : Option (Int × aa) :=
 iy p1 (8 : Int) >>= fun y1 =>
 jj (qh y1.1) (((qh y1.1).length : Nat) : Int) (0 : Int) (0 : Int) >>= fun y3 =>
 some (y3,y1.2)
theorem zamx (p1 : aa) (r : Int × aa) (h : de p1 = some r) (τ : TH) (o0 : Nat) (hl : τ.lock ≤ τ.next) (ha0 : τ.at o0 = some ⟨ah,[.str p1.s_,.bool p1.bad_]⟩) (hi0 : o0 < τ.next) (hw0 : τ.lock ≤ o0) : Ru G bp [.ptr o0 0] τ (.int .i64 r.1) (τ.put o0 ⟨ah,[.str r.2.s_,.bool r.2.bad_]⟩) := by
 refine jt fun K hK => ?_
 rw [bx zatf (Nat.le_of_ble_eq_true rfl)]
 unfold de at h
 obtain ⟨y1,hy1,h⟩ := ob h
 have k2 := zac7 p1 (8 : Int) _ hy1
 try simp only [CL,MC,reduceToNat] at k2
 obtain ⟨y3,hy3,h⟩ := ob h
 simp -implicitDefEqProofs only [tf,TT,Ic.t,ci,reduceEqDiff,reduceIte,reduceAdd,reduceLT,reduceCtorEq,reduceToNat,hl,ha0,hi0,hw0,k2,CL,LTN]
 have Sy3 := zajc (qh y1.1) (((qh y1.1).length : Nat) : Int) (0 : Int) (0 : Int) y3 hy3
 unfold mz at Sy3
 refine Sy3 _ (by first | assumption | omega | (simp only [ag,ap,ak,bb]; omega)) _ ?_
 intro frq4 tkq4 τq4 g3q4 htq4 hcq4
 have hcq4 := ga (n := τ.next) hcq4 (by first | omega | (simp only [ag,ap]; omega))
 try simp only [List.take_succ_cons,List.take_zero,List.take_nil,CL] at htq4
 try simp -implicitDefEqProofs only [TT,Ic.t,ci,reduceEqDiff,reduceIte,reduceAdd,reduceLT,reduceCtorEq,reduceToNat,hl,ha0,hi0,hw0,k2,CL,LTN] at hcq4
 injection h with h; subst h
 simp -implicitDefEqProofs only [tf,TT,Ic.t,ci,reduceEqDiff,reduceIte,reduceAdd,reduceLT,reduceCtorEq,reduceToNat,hl,ha0,hi0,hw0,k2,g3q4,htq4,hcq4,CL,LTN]
 exact hK
theorem gh (p1 : aa) (r : Int × aa) (h : de p1 = some r) (d : Option Nat) (K : aw) (fr : TF) (tk : TK) (τ : TH) (o0 : Nat) (hl : τ.lock ≤ τ.next) (ha0 : τ.at o0 = some ⟨ah,[.str p1.s_,.bool p1.bad_]⟩) (hi0 : o0 < τ.next) (hw0 : τ.lock ≤ o0) : fo G false bp [.ptr o0 0] d K fr tk τ = K (gc fr d (.int .i64 r.1)) tk (τ.put o0 ⟨ah,[.str r.2.s_,.bool r.2.bad_]⟩) :=
 nw (zamx p1 r h τ o0 hl ha0 hi0 hw0) (by simp -implicitDefEqProofs only [TT,Ic.t,ci,reduceEqDiff,reduceIte,reduceAdd,reduceLT,reduceCtorEq,reduceToNat,hl,ha0,hi0,hw0,CL,LTN])
noncomputable def ng (p1 : aa) (p2 : Int) : Option (Int × aa) :=
 de p1 >>= fun y1 =>
 if y1.1 < (0 : Int) then
  gb y1.2 >>= fun y4 =>
  some ((0 : Int),y4)
 else
 if p2 < y1.1 then
  gb y1.2 >>= fun y7 =>
  some ((0 : Int),y7)
 else
 some (y1.1,y1.2)
theorem zap4 (p1 : aa) (p2 : Int) (r : Int × aa) (h : ng p1 p2 = some r) (τ : TH) (o0 : Nat) (hl : τ.lock ≤ τ.next) (ha0 : τ.at o0 = some ⟨ah,[.str p1.s_,.bool p1.bad_]⟩) (hi0 : o0 < τ.next) (hw0 : τ.lock ≤ o0) : Ru G nh [.ptr o0 0,.func bp [.ptr o0 0] [],.int .i64 p2] τ (.int .i64 r.1) (τ.put o0 ⟨ah,[.str r.2.s_,.bool r.2.bad_]⟩) := by
 refine jt fun K hK => ?_
 rw [bx zauu (Nat.le_of_ble_eq_true rfl)]
 unfold ng at h
 obtain ⟨y1,hy1,h⟩ := ob h
 have k2 := gh p1 _ hy1
 try simp only [CL,MC,reduceToNat] at k2
 by_cases c3 : y1.1 < (0 : Int)
 · rw [if_pos c3] at h
   obtain ⟨y4,hy4,h⟩ := ob h
   have k5 := l6 y1.2 _ hy4
   try simp only [CL,MC,reduceToNat] at k5
   injection h with h; subst h
   simp -implicitDefEqProofs only [zabn,TT,Ic.t,ci,reduceEqDiff,reduceIte,reduceAdd,reduceLT,reduceCtorEq,reduceToNat,hl,ha0,hi0,hw0,k2,c3,k5,CL,LTN]
   exact hK
 rw [if_neg c3] at h
 by_cases c6 : p2 < y1.1
 · rw [if_pos c6] at h
   obtain ⟨y7,hy7,h⟩ := ob h
   have k8 := l6 y1.2 _ hy7
   try simp only [CL,MC,reduceToNat] at k8
   injection h with h; subst h
   simp -implicitDefEqProofs only [zabn,TT,Ic.t,ci,reduceEqDiff,reduceIte,reduceAdd,reduceLT,reduceCtorEq,reduceToNat,hl,ha0,hi0,hw0,k2,c3,c6,k8,CL,LTN]
   exact hK
 rw [if_neg c6] at h
 injection h with h; subst h
 simp -implicitDefEqProofs only [zabn,TT,Ic.t,ci,reduceEqDiff,reduceIte,reduceAdd,reduceLT,reduceCtorEq,reduceToNat,hl,ha0,hi0,hw0,k2,c3,c6,CL,LTN]
 exact hK
theorem zap5 (p1 : aa) (p2 : Int) (r : Int × aa) (h : ng p1 p2 = some r) (d : Option Nat) (K : aw) (fr : TF) (tk : TK) (τ : TH) (o0 : Nat) (hl : τ.lock ≤ τ.next) (ha0 : τ.at o0 = some ⟨ah,[.str p1.s_,.bool p1.bad_]⟩) (hi0 : o0 < τ.next) (hw0 : τ.lock ≤ o0) : fo G false nh [.ptr o0 0,.func bp [.ptr o0 0] [],.int .i64 p2] d K fr tk τ = K (gc fr d (.int .i64 r.1)) tk (τ.put o0 ⟨ah,[.str r.2.s_,.bool r.2.bad_]⟩) :=
 nw (zap4 p1 p2 r h τ o0 hl ha0 hi0 hw0) (by simp -implicitDefEqProofs only [TT,Ic.t,ci,reduceEqDiff,reduceIte,reduceAdd,reduceLT,reduceCtorEq,reduceToNat,hl,ha0,hi0,hw0,CL,LTN])
noncomputable def d5 (p1 : aa) (p2 : Int) : Option (Int × aa) :=
 ng p1 p2 >>= fun y1 =>
 some (y1.1,y1.2)
theorem zaj6 (p1 : aa) (p2 : Int) (r : Int × aa) (h : d5 p1 p2 = some r) (τ : TH) (o0 : Nat) (hl : τ.lock ≤ τ.next) (ha0 : τ.at o0 = some ⟨ah,[.str p1.s_,.bool p1.bad_]⟩) (hi0 : o0 < τ.next) (hw0 : τ.lock ≤ o0) : Ru G d6 [.ptr o0 0,.int .i64 p2] τ (.int .i64 r.1) (τ.put o0 ⟨ah,[.str r.2.s_,.bool r.2.bad_]⟩) := by
 refine jt fun K hK => ?_
 rw [bx zamv (Nat.le_of_ble_eq_true rfl)]
 unfold d5 at h
 obtain ⟨y1,hy1,h⟩ := ob h
 have k2 := zap5 p1 p2 _ hy1
 try simp only [CL,MC,reduceToNat] at k2
 injection h with h; subst h
 simp -implicitDefEqProofs only [zam1,TT,Ic.t,ci,reduceEqDiff,reduceIte,reduceAdd,reduceLT,reduceCtorEq,reduceToNat,hl,ha0,hi0,hw0,k2,CL,LTN]
 exact hK
theorem ki (p1 : aa) (p2 : Int) (r : Int × aa) (h : d5 p1 p2 = some r) (d : Option Nat) (K : aw) (fr : TF) (tk : TK) (τ : TH) (o0 : Nat) (hl : τ.lock ≤ τ.next) (ha0 : τ.at o0 = some ⟨ah,[.str p1.s_,.bool p1.bad_]⟩) (hi0 : o0 < τ.next) (hw0 : τ.lock ≤ o0) : fo G false d6 [.ptr o0 0,.int .i64 p2] d K fr tk τ = K (gc fr d (.int .i64 r.1)) tk (τ.put o0 ⟨ah,[.str r.2.s_,.bool r.2.bad_]⟩) :=
 nw (zaj6 p1 p2 r h τ o0 hl ha0 hi0 hw0) (by simp -implicitDefEqProofs only [TT,Ic.t,ci,reduceEqDiff,reduceIte,reduceAdd,reduceLT,reduceCtorEq,reduceToNat,hl,ha0,hi0,hw0,CL,LTN])
noncomputable def ko (p1 : aa) (p2 : Int) : Option (ByteArray × aa) :=
 d5 p1 p2 >>= fun y1 =>
 iy y1.2 y1.1 >>= fun y3 =>
 some (y3.1,y3.2)
theorem zal5 (p1 : aa) (p2 : Int) (r : ByteArray × aa) (h : ko p1 p2 = some r) (τ : TH) (o0 : Nat) (hl : τ.lock ≤ τ.next) (ha0 : τ.at o0 = some ⟨ah,[.str p1.s_,.bool p1.bad_]⟩) (hi0 : o0 < τ.next) (hw0 : τ.lock ≤ o0) : Ru G kx [.ptr o0 0,.int .i64 p2] τ (.str r.1) (τ.put o0 ⟨ah,[.str r.2.s_,.bool r.2.bad_]⟩) := by
 refine jt fun K hK => ?_
 rw [bx zapv (Nat.le_of_ble_eq_true rfl)]
 unfold ko at h
 obtain ⟨y1,hy1,h⟩ := ob h
 have k2 := ki p1 p2 _ hy1
 try simp only [CL,MC,reduceToNat] at k2
 obtain ⟨y3,hy3,h⟩ := ob h
 have k4 := zac7 y1.2 y1.1 _ hy3
 try simp only [CL,MC,reduceToNat] at k4
 injection h with h; subst h
 simp -implicitDefEqProofs only [zaqi,TT,Ic.t,ci,reduceEqDiff,reduceIte,reduceAdd,reduceLT,reduceCtorEq,reduceToNat,hl,ha0,hi0,hw0,k2,k4,CL,LTN]
 exact hK
theorem zal6 (p1 : aa) (p2 : Int) (r : ByteArray × aa) (h : ko p1 p2 = some r) (d : Option Nat) (K : aw) (fr : TF) (tk : TK) (τ : TH) (o0 : Nat) (hl : τ.lock ≤ τ.next) (ha0 : τ.at o0 = some ⟨ah,[.str p1.s_,.bool p1.bad_]⟩) (hi0 : o0 < τ.next) (hw0 : τ.lock ≤ o0) : fo G false kx [.ptr o0 0,.int .i64 p2] d K fr tk τ = K (gc fr d (.str r.1)) tk (τ.put o0 ⟨ah,[.str r.2.s_,.bool r.2.bad_]⟩) :=
 nw (zal5 p1 p2 r h τ o0 hl ha0 hi0 hw0) (by simp -implicitDefEqProofs only [TT,Ic.t,ci,reduceEqDiff,reduceIte,reduceAdd,reduceLT,reduceCtorEq,reduceToNat,hl,ha0,hi0,hw0,CL,LTN])
noncomputable def ms (p1 : aa) : Option (ByteArray × aa) :=
 ko p1 (1048576 : Int) >>= fun y1 =>
 some (y1.1,y1.2)
theorem zaya (p1 : aa) (r : ByteArray × aa) (h : ms p1 = some r) (τ : TH) (o0 : Nat) (o1 : Nat) (hl : τ.lock ≤ τ.next) (ha0 : τ.at o0 = some ⟨cy,[.ptr o1 0]⟩) (hi0 : o0 < τ.next) (ha1 : τ.at o1 = some ⟨ah,[.str p1.s_,.bool p1.bad_]⟩) (hi1 : o1 < τ.next) (hw1 : τ.lock ≤ o1) (hn0_1 : o0 ≠ o1) : Ru G dt [.ptr o0 0] τ (.str r.1) (τ.put o1 ⟨ah,[.str r.2.s_,.bool r.2.bad_]⟩) := by
 refine jt fun K hK => ?_
 rw [bx za4e (Nat.le_of_ble_eq_true rfl)]
 unfold ms at h
 obtain ⟨y1,hy1,h⟩ := ob h
 have k2 := zal6 p1 (1048576 : Int) _ hy1
 try simp only [CL,MC,reduceToNat] at k2
 injection h with h; subst h
 simp -implicitDefEqProofs only [za42,TT,Ic.t,ci,reduceEqDiff,reduceIte,reduceAdd,reduceLT,reduceCtorEq,reduceToNat,hl,ha0,hi0,ha1,hi1,hw1,nq hn0_1,k2,CL,LTN]
 exact hK
theorem z8 (p1 : aa) (r : ByteArray × aa) (h : ms p1 = some r) (d : Option Nat) (K : aw) (fr : TF) (tk : TK) (τ : TH) (o0 : Nat) (o1 : Nat) (hl : τ.lock ≤ τ.next) (ha0 : τ.at o0 = some ⟨cy,[.ptr o1 0]⟩) (hi0 : o0 < τ.next) (ha1 : τ.at o1 = some ⟨ah,[.str p1.s_,.bool p1.bad_]⟩) (hi1 : o1 < τ.next) (hw1 : τ.lock ≤ o1) (hn0_1 : o0 ≠ o1) : fo G false dt [.ptr o0 0] d K fr tk τ = K (gc fr d (.str r.1)) tk (τ.put o1 ⟨ah,[.str r.2.s_,.bool r.2.bad_]⟩) :=
 nw (zaya p1 r h τ o0 o1 hl ha0 hi0 ha1 hi1 hw1 hn0_1) (by simp -implicitDefEqProofs only [TT,Ic.t,ci,reduceEqDiff,reduceIte,reduceAdd,reduceLT,reduceCtorEq,reduceToNat,hl,ha0,hi0,ha1,hi1,hw1,nq hn0_1,CL,LTN])
noncomputable def db (v2 : Int) (v0 : aa) (v1 : (List ByteArray)) (v3 : Int) : Option (LS (aa × (List ByteArray) × Int) ((List ByteArray) × aa)) :=
 if v3 < v2 then
  ms v0 >>= fun y2 =>
  if (v1.length + 1) * 16 ≤ 140737488355328 then
   some (.nx (y2.2,(v1 ++ [y2.1]),(IntKind.i64.wrap (v3 + (1 : Int)))))
  else
   none
 else
 some (.dn (v1,v0))
noncomputable def gm (v2 : Int) (v0 : aa) (v1 : (List ByteArray)) (v3 : Int) : Option ((List ByteArray) × aa) := sd (fun st => db v2 st.1 st.2.1 st.2.2) (v0,v1,v3)
theorem vv (v2 : Int) (v0 : aa) (v1 : (List ByteArray)) (v3 : Int) : gm v2 v0 v1 v3 = db v2 v0 v1 v3 >>= LS.go (fun st => gm v2 st.1 st.2.1 st.2.2) := gw (fun st => db v2 st.1 st.2.1 st.2.2) (v0,v1,v3)
def mb (v2 : Int) (v0 : aa) (v1 : (List ByteArray)) (v3 : Int) (r : (List ByteArray) × aa) : Prop := ∀ (τ : TH) (o0 : Nat) (o1 : Nat) (n0 : Nat) (ty0 : TypeId) (hnn0 : n0 = v1.length) (hty0 : n0 = 0 ∨ ty0 = fq) (hl : τ.lock ≤ τ.next) (ha0 : τ.at o0 = some ⟨cy,[.ptr o1 0]⟩) (hi0 : o0 < τ.next) (ha1 : τ.at o1 = some ⟨ah,[.str v0.s_,.bool v0.bad_]⟩) (hi1 : o1 < τ.next) (hw1 : τ.lock ≤ o1) (hn0_1 : o0 ≠ o1) (Q : TEx → aw) (hQ0 : ∀ (fr : TF) (tk2 : TK) (τ2 : TH),∀ (u0 : TypeId),(r.1.length = 0 ∨ u0 = fq) → lkp fr 7 = .sla 0 (List.map TV.str r.1) → tk2.take 1 = [some (r.1.length,u0)] → τ2.cut τ.next = (τ.put o1 ⟨ah,[.str r.2.s_,.bool r.2.bad_]⟩) → Q (.exit 0) fr tk2 τ2) ,tW G (.loop [2,7,10,11] o5) Q [(2,.func dt [] [.ptr o0 0]),(7,.sla 0 (List.map TV.str v1)),(10,.int .i64 v2),(11,.int .i64 v3)] [some (n0,ty0)] τ
theorem zag9 (v2 : Int) (v0 : aa) (v1 : (List ByteArray)) (v3 : Int) (r : (List ByteArray) × aa) (h : gm v2 v0 v1 v3 = some r) : mb v2 v0 v1 v3 r := by
 refine ff (f := fun st => db v2 st.1 st.2.1 st.2.2) (P := fun st r => ∀ (v0 : aa) (v1 : (List ByteArray)) (v3 : Int),(v0,v1,v3) = st → mb v2 v0 v1 v3 r) ?_ h v0 v1 v3 rfl
 clear h r v3 v1 v0
 intro st o h r ih v0 v1 v3 hst τ o0 o1  n0 ty0 hnn0 hty0 hl ha0 hi0 ha1 hi1 hw1 hn0_1 Q hQ0
 subst hst
 have h : db v2 v0 v1 v3 = some o := h
 unfold db at h
 subst hnn0
 refine pb fun LQ hn hr he => ?_
 by_cases c1 : v3 < v2
 · rw [if_pos c1] at h
   obtain ⟨y2,hy2,h⟩ := ob h
   have k3 := fun (d : Option Nat) (K : aw) (fr : TF) (tk : TK) (τ' : TH) (o'0 : Nat) => z8 v0 _ hy2 d K fr tk τ' o'0 o1
   try simp only [CL,MC,reduceToNat] at k3
   obtain ⟨c4,h⟩ := ifS h
   have f5 : 1 ≤ maxLen := by unfold maxLen; omega
   have f6 : v1.length + 1 ≤ maxLen := by unfold maxLen; omega
   have f7 : ((List.map TV.str v1).all fun e => e.cells.length == 1) = true := allc (fun _ => rfl) _
   have f8 : List.map TV.str v1 ++ List.map TV.str [y2.1] = List.map TV.str (v1 ++ [y2.1]) := appn _ _
   try simp only [CL,List.map_cons,List.map_nil] at f8
   injection h with h; subst h
   have ih := ih y2.2 (v1 ++ [y2.1]) (IntKind.i64.wrap (v3 + (1 : Int))) rfl
   unfold mb at ih
   simp -implicitDefEqProofs only [o5,rn,TT,Ic.t,ci,reduceEqDiff,reduceIte,reduceAdd,reduceMul,reduceLT,reduceLeDiff,reduceSub,reduceCtorEq,reduceEq,reduceNe,reduceToNat,Int.reduceLT,reduceLE,reduceNeg,hl,ha0,hi0,ha1,hi1,hw1,nq hn0_1,hty0,c1,k3,c4,f5,f6,f7,f8,CL,LTN]
   rw [hn]
   simp -implicitDefEqProofs only [TT,Ic.t,ci,reduceEqDiff,reduceIte,reduceAdd,reduceMul,reduceLT,reduceLeDiff,reduceSub,reduceCtorEq,reduceEq,reduceNe,reduceToNat,Int.reduceLT,reduceLE,reduceNeg,hl,ha0,hi0,ha1,hi1,hw1,nq hn0_1,hty0,c1,k3,c4,f5,f6,f7,f8,CL,LTN]
   exact ih  (τ.put o1 ⟨ah,[.str y2.2.s_,.bool y2.2.bad_]⟩) o0 o1  (v1.length + 1) fq (by first | rfl | simp [ay]) (by first | exact hty0 | exact Or.inr rfl | simp) (by first | assumption | (simp only [ag,ak]; assumption)) (by simp -implicitDefEqProofs only [TT,Ic.t,ci,reduceEqDiff,reduceIte,reduceAdd,reduceMul,reduceLT,reduceLeDiff,reduceSub,reduceCtorEq,reduceEq,reduceNe,reduceToNat,Int.reduceLT,reduceLE,reduceNeg,hl,ha0,hi0,ha1,hi1,hw1,nq hn0_1,hty0,c1,k3,c4,f5,f6,f7,f8,CL,LTN]) (by first | assumption | (simp only [ag,ak]; assumption)) (by simp -implicitDefEqProofs only [TT,Ic.t,ci,reduceEqDiff,reduceIte,reduceAdd,reduceMul,reduceLT,reduceLeDiff,reduceSub,reduceCtorEq,reduceEq,reduceNe,reduceToNat,Int.reduceLT,reduceLE,reduceNeg,hl,ha0,hi0,ha1,hi1,hw1,nq hn0_1,hty0,c1,k3,c4,f5,f6,f7,f8,CL,LTN]) (by first | assumption | (simp only [ag,ak]; assumption)) (by first | assumption | (simp only [ag,ak]; assumption)) hn0_1 Q (fun fr tk2 τ2 u0 u0' g0 ht hτ => hQ0 fr tk2 τ2 u0 u0' g0 ht (by first | exact hτ | simpa only [ag,zamt,hl,ha0,hi0,ha1,hi1,hw1,nq hn0_1,hty0] using hτ))
 rw [if_neg c1] at h
 injection h with h; subst h
 obtain rfl : _ = r := ih
 simp -implicitDefEqProofs only [o5,rn,TT,Ic.t,ci,reduceEqDiff,reduceIte,reduceAdd,reduceMul,reduceLT,reduceLeDiff,reduceSub,reduceCtorEq,reduceEq,reduceNe,reduceToNat,Int.reduceLT,reduceLE,reduceNeg,hl,ha0,hi0,ha1,hi1,hw1,nq hn0_1,hty0,he,hr,c1,CL,LTN]
 exact hQ0  _ _ _ ty0 (by first | exact hty0 | exact Or.inr rfl | simp) (by first | rfl | (simp -implicitDefEqProofs only [TT,Ic.t,ci,reduceEqDiff,reduceIte,reduceAdd,reduceMul,reduceLT,reduceLeDiff,reduceSub,reduceCtorEq,reduceEq,reduceNe,reduceToNat,Int.reduceLT,reduceLE,reduceNeg,hl,ha0,hi0,ha1,hi1,hw1,nq hn0_1,hty0,c1,CL,LTN])) (by first | rfl | (simp -implicitDefEqProofs only [TT,Ic.t,ci,reduceEqDiff,reduceIte,reduceAdd,reduceMul,reduceLT,reduceLeDiff,reduceSub,reduceCtorEq,reduceEq,reduceNe,reduceToNat,Int.reduceLT,reduceLE,reduceNeg,hl,ha0,hi0,ha1,hi1,hw1,nq hn0_1,hty0,c1,CL,LTN])) (by first | exact kd (Nat.le_refl _) | (simp -implicitDefEqProofs only [TT,Ic.t,ci,reduceEqDiff,reduceIte,reduceAdd,reduceMul,reduceLT,reduceLeDiff,reduceSub,reduceCtorEq,reduceEq,reduceNe,reduceToNat,Int.reduceLT,reduceLE,reduceNeg,hl,ha0,hi0,ha1,hi1,hw1,nq hn0_1,hty0,me ha1,c1,CL,LTN]))
noncomputable def iv (p1 : aa) (p2 : Int) : Option ((List ByteArray) × aa) :=
 d5 p1 p2 >>= fun y1 =>
 gm y1.1 y1.2 [] (0 : Int) >>= fun y3 =>
 some (y3.1,y3.2)
theorem zakt (p1 : aa) (p2 : Int) (r : (List ByteArray) × aa) (h : iv p1 p2 = some r) (τ : TH) (o0 : Nat) (o1 : Nat) (hl : τ.lock ≤ τ.next) (ha0 : τ.at o0 = some ⟨ah,[.str p1.s_,.bool p1.bad_]⟩) (hi0 : o0 < τ.next) (hw0 : τ.lock ≤ o0) (ha1 : τ.at o1 = some ⟨cy,[.ptr o0 0]⟩) (hi1 : o1 < τ.next) (hn0_1 : o0 ≠ o1) : Ru G jc [.ptr o0 0,.int .i64 p2,.func dt [] [.ptr o1 0]] τ (.sl (List.map TV.str r.1)) (τ.put o0 ⟨ah,[.str r.2.s_,.bool r.2.bad_]⟩) := by
 refine jt fun K hK => ?_
 rw [bx zaps (Nat.le_of_ble_eq_true rfl)]
 unfold iv at h
 obtain ⟨y1,hy1,h⟩ := ob h
 have k2 := ki p1 p2 _ hy1
 try simp only [CL,MC,reduceToNat] at k2
 obtain ⟨y3,hy3,h⟩ := ob h
 simp -implicitDefEqProofs only [rn,TT,Ic.t,ci,reduceEqDiff,reduceIte,reduceAdd,reduceLT,reduceCtorEq,reduceToNat,hl,ha0,hi0,hw0,ha1,hi1,nq hn0_1,k2,CL,LTN]
 have Sy3 := zag9 y1.1 y1.2 [] (0 : Int) y3 hy3
 unfold mb at Sy3
 refine Sy3 _ o1 o0 0 0 (by first | rfl | simp [ay]) (by first | exact Or.inl rfl | exact Or.inr rfl | assumption | simp) (by first | assumption | omega | (simp only [ag,ap,ak,bb]; omega)) (by simp -implicitDefEqProofs only [TT,Ic.t,ci,reduceEqDiff,reduceIte,reduceAdd,reduceLT,reduceCtorEq,reduceToNat,hl,ha0,hi0,hw0,ha1,hi1,nq hn0_1,k2,CL,LTN]) (by first | assumption | omega | (simp only [ag,ap,ak,bb]; omega)) (by simp -implicitDefEqProofs only [TT,Ic.t,ci,reduceEqDiff,reduceIte,reduceAdd,reduceLT,reduceCtorEq,reduceToNat,hl,ha0,hi0,hw0,ha1,hi1,nq hn0_1,k2,CL,LTN]) (by first | assumption | omega | (simp only [ag,ap,ak,bb]; omega)) (by first | assumption | omega | (simp only [ag,ap,ak,bb]; omega)) (by first | assumption | omega | (simp only [ag,ap]; omega)) _ ?_
 intro frq4 tkq4 τq4 u0q4 uh0q4 g7q4 htq4 hcq4
 have hcq4 := ga (n := τ.next) hcq4 (by first | omega | (simp only [ag,ap]; omega))
 try simp only [List.take_succ_cons,List.take_zero,List.take_nil,CL] at htq4
 try simp -implicitDefEqProofs only [TT,Ic.t,ci,reduceEqDiff,reduceIte,reduceAdd,reduceLT,reduceCtorEq,reduceToNat,hl,ha0,hi0,hw0,ha1,hi1,nq hn0_1,k2,CL,LTN] at hcq4
 injection h with h; subst h
 simp -implicitDefEqProofs only [rn,TT,Ic.t,ci,reduceEqDiff,reduceIte,reduceAdd,reduceLT,reduceCtorEq,reduceToNat,hl,ha0,hi0,hw0,ha1,hi1,nq hn0_1,k2,uh0q4,g7q4,htq4,hcq4,CL,LTN]
 exact hK
theorem zab6 (p1 : aa) (p2 : Int) (r : (List ByteArray) × aa) (h : iv p1 p2 = some r) (d : Option Nat) (K : aw) (fr : TF) (tk : TK) (τ : TH) (o0 : Nat) (o1 : Nat) (hl : τ.lock ≤ τ.next) (ha0 : τ.at o0 = some ⟨ah,[.str p1.s_,.bool p1.bad_]⟩) (hi0 : o0 < τ.next) (hw0 : τ.lock ≤ o0) (ha1 : τ.at o1 = some ⟨cy,[.ptr o0 0]⟩) (hi1 : o1 < τ.next) (hn0_1 : o0 ≠ o1) : fo G false jc [.ptr o0 0,.int .i64 p2,.func dt [] [.ptr o1 0]] d K fr tk τ = K (gc fr d (.sl (List.map TV.str r.1))) tk (τ.put o0 ⟨ah,[.str r.2.s_,.bool r.2.bad_]⟩) :=
 nw (zakt p1 p2 r h τ o0 o1 hl ha0 hi0 hw0 ha1 hi1 hn0_1) (by simp -implicitDefEqProofs only [TT,Ic.t,ci,reduceEqDiff,reduceIte,reduceAdd,reduceLT,reduceCtorEq,reduceToNat,hl,ha0,hi0,hw0,ha1,hi1,nq hn0_1,CL,LTN])
end Go.Proofs.Ytdcfoaafkppojaa
