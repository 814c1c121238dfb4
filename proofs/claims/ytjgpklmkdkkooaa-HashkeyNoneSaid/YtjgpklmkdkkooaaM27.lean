import Derived.Test.YtjgpklmkdkkooaaD7
set_option linter.unusedVariables false
set_option linter.unusedSimpArgs false
set_option linter.unusedSectionVars false
open Nat (reduceEqDiff reduceAdd reduceMul reduceLT reduceLeDiff reduceSub)
open Int (reduceToNat reduceNe reduceEq reduceNeg reduceLE)
namespace Go.Proofs.Ytjgpklmkdkkooaa
open Go Go.RowKit Sh Ic
noncomputable def jp (v0:ByteArray) (v1:ByteArray) (v2:ByteArray) (v3:Int):Option (LS (ByteArray × Int) (ByteArray)) :=
 if v3 < (16:Int) then
  vi v3 v0 v1 >>= fun y2 =>
  if v2.size + y2.size ≤ 140737488355328 then
   some (.nx ((v2 ++ y2),(IntKind.i64.wrap (v3 + (1:Int)))))
  else
   none
 else
 some (.dn v2)
noncomputable def zb96 (v0:ByteArray) (v1:ByteArray) (v2:ByteArray) (v3:Int):Option (ByteArray):=oq (fun st => jp v0 v1 st.1 st.2) (v2,v3)
theorem zc2d (v0:ByteArray) (v1:ByteArray) (v2:ByteArray) (v3:Int):zb96 v0 v1 v2 v3 = jp v0 v1 v2 v3 >>= LS.go (fun st => zb96 v0 v1 st.1 st.2):=ew (fun st => jp v0 v1 st.1 st.2) (v2,v3)
def zcft (v0:ByteArray) (v1:ByteArray) (v2:ByteArray) (v3:Int) (r:ByteArray):Prop:=∀ (τ:TH) (o0:Nat) (o1:Nat) (o2:Nat) (o3:Nat) (hl:τ.lock ≤ τ.next) (ha0:τ.at o0 = some ⟨a9,[.str v0]⟩) (hi0:o0 < τ.next) (ha1:τ.at o1 = some ⟨jc,[.func fy [] [.ptr o2 0]]⟩) (hi1:o1 < τ.next) (ha2:τ.at o2 = some ⟨a9,[.str v1]⟩) (hi2:o2 < τ.next) (ub3:Bool) (hub3:ub3 = true ∨ v2.size = 0) (ha3:τ.at o3 = some (a8 o3 ub3 v2)) (hi3:o3 < τ.next) (hw3:τ.lock ≤ o3) (hn0_3:o0 ≠ o3) (hn1_3:o1 ≠ o3) (hn2_3:o2 ≠ o3) (Q:TEx → ap) (hQ0:∀ (fr:TF) (tk2:TK) (τ2:TH),∀ (ubx3:Bool),(ubx3 = true ∨ r.size = 0) → lkp fr 3 = .ptr o3 0 → tk2.take 0 = [] → τ2.cut τ.next = (τ.put o3 (a8 o3 ubx3 r)) → Q (.exit 0) fr tk2 τ2) ,tW G (.loop [0,3,5] zb4b) Q [(0,.func m6 [] [.ptr o0 0,.ptr o1 0]),(3,.ptr o3 0),(5,.int .i64 v3)] [] τ
theorem zdjx (v0:ByteArray) (v1:ByteArray) (v2:ByteArray) (v3:Int) (r:ByteArray) (h:zb96 v0 v1 v2 v3 = some r):zcft v0 v1 v2 v3 r:=by
 refine di (f:=fun st => jp v0 v1 st.1 st.2) (P:=fun st r => ∀ (v2:ByteArray) (v3:Int),(v2,v3) = st → zcft v0 v1 v2 v3 r) ?_ h v2 v3 rfl
 clear h r v3 v2
 intro st o h r ih v2 v3 hst τ o0 o1 o2 o3  hl ha0 hi0 ha1 hi1 ha2 hi2 ub3 hub3 ha3 hi3 hw3 hn0_3 hn1_3 hn2_3 Q hQ0
 subst hst
 have h:jp v0 v1 v2 v3 = some o:=h
 unfold jp at h
 refine mo fun LQ hn hr he => ?_
 by_cases c1:v3 < (16:Int)
 · rw [if_pos c1] at h
   obtain ⟨y2,hy2,h⟩:=ob h
   have k3:=fun (lk:Bool) (d:Option Nat) (K:ap) (fr:TF) (tk:TK) (τ':TH) (o'0:Nat) (o'1:Nat) => zdkm v3 v0 v1 _ hy2 lk d K fr tk τ' o'0 o'1 o2
   try simp only [CL,MC,reduceToNat] at k3
   obtain ⟨c4,h⟩:=ifS h
   have k5:=fun (id:Nat) (d:Option Nat) (K:ap) (fr:TF) (tk:TK) (τ:TH) (ha:τ.at id = some (a8 id ub3 v2)) (hi:id < τ.next) (hw:τ.lock ≤ id) (hl:τ.lock ≤ τ.next) => yn v2 id ub3 d K fr tk τ ha hi hw hl (by assumption) y2 c4
   injection h with h; subst h
   have ih:=ih (v2 ++ y2) (IntKind.i64.wrap (v3 + (1:Int))) rfl
   unfold zcft at ih
   simp only [zb4b,zbz8,TT,Ic.t,ci,reduceEqDiff,reduceCtorEq,hl,ha0,hi0,ha1,hi1,ha2,hi2,ha3,hi3,hw3,c1,k3,k5]
   rw [hn]
   simp only [TT,reduceEqDiff,reduceCtorEq,hi0,hi1,hi3]
   exact ih  (τ.put o3 (a8 o3 true (v2 ++ y2))) o0 o1 o2 o3   (by simp only [aa,ag]; assumption) (by simp only [TT,ha0,nq hn0_3]) (by simp only [aa]; assumption) (by simp only [TT,ha1,nq hn1_3]) (by simp only [aa]; assumption) (by simp only [TT,ha2,nq hn2_3]) (by simp only [aa]; assumption) true (by exact .inl rfl) (by simp only [TT,hi3]) (by simp only [aa]; assumption) (by assumption) hn0_3 hn1_3 hn2_3 Q (fun fr tk2 τ2 w3 w3' g0 ht hτ => hQ0 fr tk2 τ2 w3 w3' g0 ht (by simpa only [aa,rf,hl,ha0,hi0,ha1,hi1,ha2,hi2,bu,ha3,hi3,hw3,nq hn0_3,nq hn1_3,nq hn2_3] using hτ))
 rw [if_neg c1] at h
 injection h with h; subst h
 obtain rfl:_ = r:=ih
 simp only [zb4b,zbz8,TT,Ic.t,ci,reduceEqDiff,reduceCtorEq,he,c1]
 exact hQ0  _ _ _ ub3 (by assumption) (by rfl) (by rfl) (by simp only [TT,jj ha3])
noncomputable def zb7w (p1:ByteArray) (p2:ByteArray):Option ByteArray :=
 zb96 p1 p2 (⟨#[]⟩:ByteArray) (0:Int) >>= fun y1 =>
 if y1.size ≤ 140737488355328 then
  some y1
 else
  none
theorem zdai (p1:ByteArray) (p2:ByteArray) (r:ByteArray) (h:zb7w p1 p2 = some r) (τ:TH) (o0:Nat) (o1:Nat) (o2:Nat) (hl:τ.lock ≤ τ.next) (ha0:τ.at o0 = some ⟨a9,[.str p1]⟩) (hi0:o0 < τ.next) (ha1:τ.at o1 = some ⟨jc,[.func fy [] [.ptr o2 0]]⟩) (hi1:o1 < τ.next) (ha2:τ.at o2 = some ⟨a9,[.str p2]⟩) (hi2:o2 < τ.next):Ru G zbx1 [.func m6 [] [.ptr o0 0,.ptr o1 0]] τ (.str r) τ:=by
 refine gp fun K hK => ?_
 rw [bc zcsf (Nat.le_of_ble_eq_true rfl)]
 unfold zb7w at h
 obtain ⟨y1,hy1,h⟩:=ob h
 simp only [zbz8,TT,Ic.t,ci,reduceEqDiff,reduceCtorEq]
 have Sy1:=zdjx p1 p2 (⟨#[]⟩:ByteArray) (0:Int) y1 hy1
 unfold zcft at Sy1
 refine Sy1 _ o0 o1 o2 τ.next (by simp only [ak,aq]; omega) (by simp only [TT,ha0,hi0]) (by simp only [ak]; omega) (by simp only [TT,ha1,hi1]) (by simp only [ak]; omega) (by simp only [TT,ha2,hi2]) (by simp only [ak]; omega) false (by exact .inr rfl) (by simp only [TT,bu]) (by simp only [ak]; omega) (by assumption) (by omega) (by omega) (by omega) _ ?_
 intro frq2 tkq2 τq2 ubz2_3 huubz2_3 g3q2 htq2 hcq2
 have hcq2:=dp (n:=τ.next + 1) hcq2 (by simp only [ak]; omega)
 try simp only [List.take_zero] at htq2
 try simp only [TT] at hcq2
 obtain ⟨c3,h⟩:=ifS h
 have k4:=fun (id:Nat) (d:Option Nat) (K:ap) (fr:TF) (tk:TK) (τ:TH) (ha:τ.at id = some (a8 id ubz2_3 y1)) (hi:id < τ.next) (hw:τ.lock ≤ id) (hl:τ.lock ≤ τ.next) => zcgn y1 id ubz2_3 d K fr tk τ ha hi hw hl (by assumption) c3
 injection h with h; subst h
 simp only [TT,Ic.t,reduceLT,hl,g3q2,hcq2,k4]
 exact hK
theorem zdes (p1:ByteArray) (p2:ByteArray) (r:ByteArray) (h:zb7w p1 p2 = some r) (lk:Bool) (d:Option Nat) (K:ap) (fr:TF) (tk:TK) (τ:TH) (o0:Nat) (o1:Nat) (o2:Nat) (hl:τ.lock ≤ τ.next) (ha0:τ.at o0 = some ⟨a9,[.str p1]⟩) (hi0:o0 < τ.next) (ha1:τ.at o1 = some ⟨jc,[.func fy [] [.ptr o2 0]]⟩) (hi1:o1 < τ.next) (ha2:τ.at o2 = some ⟨a9,[.str p2]⟩) (hi2:o2 < τ.next):du G lk zbx1 [.func m6 [] [.ptr o0 0,.ptr o1 0]] d K fr tk τ = K (fp fr d (.str r)) tk τ :=
 au (zdai p1 p2 r h τ o0 o1 o2 hl ha0 hi0 ha1 hi1 ha2 hi2) (zdai p1 p2 r h (τ.locked τ.next) o0 o1 o2 (Nat.le_refl _) (by rw [ww]; exact ha0) hi0 (by rw [ww]; exact ha1) hi1 (by rw [ww]; exact ha2) hi2) (by simp only [TT,hi0,hi1])
noncomputable def zb8o (p1:ByteArray) (p2:ByteArray) (p3:ByteArray):Option Bool :=
 if ((p3.size:Nat):Int) = (512:Int) then
  zb32 p2 >>= fun y2 =>
  zb7w p3 y2 >>= fun y4 =>
  um y4 >>= fun y6 =>
  some (decide (p1 = y6))
 else
 some false
theorem zczo (p1:ByteArray) (p2:ByteArray) (p3:ByteArray) (r:Bool) (h:zb8o p1 p2 p3 = some r) (τ:TH) (hl:τ.lock ≤ τ.next):Ru G zb8h [.str p1,.str p2,.str p3] τ (.bool r) τ:=by
 refine gp fun K hK => ?_
 rw [bc zdec (Nat.le_of_ble_eq_true rfl)]
 unfold zb8o at h
 by_cases c1:((p3.size:Nat):Int) = (512:Int)
 · rw [if_pos c1] at h
   obtain ⟨y2,hy2,h⟩:=ob h
   have k3:=zdaj p2 _ hy2
   try simp only [CL,MC,reduceToNat] at k3
   obtain ⟨y4,hy4,h⟩:=ob h
   have k5:=fun (lk:Bool) (d:Option Nat) (K:ap) (fr:TF) (tk:TK) (τ':TH) (o'0:Nat) (o'1:Nat) => zdes p3 y2 _ hy4 lk d K fr tk τ' o'0 o'1 (τ.next + 1)
   try simp only [CL,MC,reduceToNat] at k5
   obtain ⟨y6,hy6,h⟩:=ob h
   have k7:=zcfk y4 _ hy6
   try simp only [CL,MC,reduceToNat] at k7
   injection h with h; subst h
   simp only [zc8y,TT,Ic.t,ci,reduceEqDiff,reduceAdd,reduceLT,reduceCtorEq,hl,eq_true c1,k3,k5,k7]
   exact hK
 rw [if_neg c1] at h
 injection h with h; subst h
 simp only [zc8y,TT,Ic.t,ci,reduceEqDiff,reduceAdd,reduceCtorEq,c1]
 exact hK
theorem zdiq (p1:ByteArray) (p2:ByteArray) (p3:ByteArray) (r:Bool) (h:zb8o p1 p2 p3 = some r) (lk:Bool) (d:Option Nat) (K:ap) (fr:TF) (tk:TK) (τ:TH) (hl:τ.lock ≤ τ.next):du G lk zb8h [.str p1,.str p2,.str p3] d K fr tk τ = K (fp fr d (.bool r)) tk τ :=
 au (zczo p1 p2 p3 r h τ  hl) (zczo p1 p2 p3 r h (τ.locked τ.next)  (Nat.le_refl _) ) (by simp only [TT])
noncomputable def n6 (p1:Int) (p2:af) (p3:ah) (p4:ByteArray):Option (Bool × ByteArray) :=
 ixL p3.Path p1 >>= fun y1 =>
 ixL p2.Parties y1 >>= fun y3 =>
 ixL y3.Keys p3.Lock >>= fun y5 =>
 ixL p3.Sigs p1 >>= fun y7 =>
 zb8o y5 p4 y7 >>= fun y9 =>
 some (y9,y7)
theorem zdgh (p1:Int) (p2:af) (p3:ah) (p4:ByteArray) (r:Bool × ByteArray) (h:n6 p1 p2 p3 p4 = some r) (τ:TH) (o0:Nat) (o1:Nat) (o2:Nat) (hl:τ.lock ≤ τ.next) (ha0:τ.at o0 = some ⟨bh,p2.cells⟩) (hi0:o0 < τ.next) (ha1:τ.at o1 = some ⟨d8,p3.cells⟩) (hi1:o1 < τ.next) (ha2:τ.at o2 = some ⟨a9,[.str p4]⟩) (hi2:o2 < τ.next) (hw2:τ.lock ≤ o2) (hn0_2:o0 ≠ o2) (hn1_2:o1 ≠ o2):Ru G mc [.int .i64 p1,.ptr o0 0,.ptr o1 0,.ptr o2 0] τ (.bool r.1) (τ.put o2 ⟨a9,[.str r.2]⟩):=by
 refine gp fun K hK => ?_
 rw [bc zdlb (Nat.le_of_ble_eq_true rfl)]
 unfold n6 at h
 obtain ⟨y1,hy1,h⟩:=ob h
 have f2:=av hy1
 have f2a:=(f2.2.2 (TV.int .i64)).1
 have f2b:=(f2.2.2 (TV.int .i64)).2
 try simp only [CL,MC,reduceToNat] at f2 f2a f2b
 obtain ⟨y3,hy3,h⟩:=ob h
 have f4:=av hy3
 have f4a:=(f4.2.2 aj.tv).1
 have f4b:=(f4.2.2 aj.tv).2
 try simp only [CL] at f4 f4a f4b
 obtain ⟨y5,hy5,h⟩:=ob h
 have f6:=av hy5
 have f6a:=(f6.2.2 TV.str).1
 have f6b:=(f6.2.2 TV.str).2
 try simp only [CL,MC,reduceToNat] at f6 f6a f6b
 obtain ⟨y7,hy7,h⟩:=ob h
 have f8:=av hy7
 have f8a:=(f8.2.2 TV.str).1
 have f8b:=(f8.2.2 TV.str).2
 try simp only [CL,MC,reduceToNat] at f8 f8a f8b
 obtain ⟨y9,hy9,h⟩:=ob h
 have k10:=zdiq y5 p4 y7 _ hy9
 try simp only [CL,MC,reduceToNat] at k10
 injection h with h; subst h
 simp only [zdlh,TT,Ic.t,reduceEqDiff,reduceAdd,reduceCtorEq,hl,ha0,ha1,ha2,hw2,f2.1,f2.2.1,f2a,f4.1,f4.2.1,f4a,f6.1,f6.2.1,f6a,f8.2.1,f8a,k10,CL]
 exact hK
theorem zdgg (p1:Int) (p2:af) (p3:ah) (p4:ByteArray) (r:Bool × ByteArray) (h:n6 p1 p2 p3 p4 = some r) (d:Option Nat) (K:ap) (fr:TF) (tk:TK) (τ:TH) (o0:Nat) (o1:Nat) (o2:Nat) (hl:τ.lock ≤ τ.next) (ha0:τ.at o0 = some ⟨bh,p2.cells⟩) (hi0:o0 < τ.next) (ha1:τ.at o1 = some ⟨d8,p3.cells⟩) (hi1:o1 < τ.next) (ha2:τ.at o2 = some ⟨a9,[.str p4]⟩) (hi2:o2 < τ.next) (hw2:τ.lock ≤ o2) (hn0_2:o0 ≠ o2) (hn1_2:o1 ≠ o2):du G false mc [.int .i64 p1,.ptr o0 0,.ptr o1 0,.ptr o2 0] d K fr tk τ = K (fp fr d (.bool r.1)) tk (τ.put o2 ⟨a9,[.str r.2]⟩) :=
 zbz3 (zdgh p1 p2 p3 p4 r h τ o0 o1 o2 hl ha0 hi0 ha1 hi1 ha2 hi2 hw2 hn0_2 hn1_2) (by simp only [TT,hi0,hi1,hi2])
noncomputable def dc (v0:af) (v1:ah) (v2:ByteArray) (v3:Int):Option (LS (ByteArray × Int) (LX (ByteArray) (Bool × ByteArray))) :=
 if (0:Int) ≤ v3 then
  n6 v3 v0 v1 v2 >>= fun y2 =>
  if y2.1 = true then
   some (.nx (y2.2,(IntKind.i64.wrap (v3 - (1:Int)))))
  else
  some (.dn (.rt (false,y2.2)))
 else
 some (.dn (.ex v2))
noncomputable def eo (v0:af) (v1:ah) (v2:ByteArray) (v3:Int):Option (LX (ByteArray) (Bool × ByteArray)):=oq (fun st => dc v0 v1 st.1 st.2) (v2,v3)
theorem ql (v0:af) (v1:ah) (v2:ByteArray) (v3:Int):eo v0 v1 v2 v3 = dc v0 v1 v2 v3 >>= LS.go (fun st => eo v0 v1 st.1 st.2):=ew (fun st => dc v0 v1 st.1 st.2) (v2,v3)
def rx (v0:af) (v1:ah) (v2:ByteArray) (v3:Int) (r:LX (ByteArray) (Bool × ByteArray)):Prop:=∀ (τ:TH) (o0:Nat) (o1:Nat) (o2:Nat) (hl:τ.lock ≤ τ.next) (ha0:τ.at o0 = some ⟨bh,v0.cells⟩) (hi0:o0 < τ.next) (ha1:τ.at o1 = some ⟨d8,v1.cells⟩) (hi1:o1 < τ.next) (ha2:τ.at o2 = some ⟨a9,[.str v2]⟩) (hi2:o2 < τ.next) (hw2:τ.lock ≤ o2) (hn0_2:o0 ≠ o2) (hn1_2:o1 ≠ o2) (Q:TEx → ap) (hQ0:∀ v:ByteArray,r = (.ex v) → ∀ (fr:TF) (tk2:TK) (τ2:TH),tk2.take 0 = [] → τ2.cut τ.next = (τ.put o2 ⟨a9,[.str v]⟩) → Q (.exit 0) fr tk2 τ2) (hQ1:∀ v:(Bool × ByteArray),r = (.rt v) → ∀ (tk2:TK) (τ2:TH),τ2.cut τ.next = (τ.put o2 ⟨a9,[.str v.2]⟩) → Q .ret [(4,.bool v.1)] tk2 τ2) ,tW G (.loop [6,7] rv) Q [(6,.func mc [] [.ptr o0 0,.ptr o1 0,.ptr o2 0]),(7,.int .i64 v3)] [] τ
theorem zdgp (v0:af) (v1:ah) (v2:ByteArray) (v3:Int) (r:LX (ByteArray) (Bool × ByteArray)) (h:eo v0 v1 v2 v3 = some r):rx v0 v1 v2 v3 r:=by
 refine di (f:=fun st => dc v0 v1 st.1 st.2) (P:=fun st r => ∀ (v2:ByteArray) (v3:Int),(v2,v3) = st → rx v0 v1 v2 v3 r) ?_ h v2 v3 rfl
 clear h r v3 v2
 intro st o h r ih v2 v3 hst τ o0 o1 o2  hl ha0 hi0 ha1 hi1 ha2 hi2 hw2 hn0_2 hn1_2 Q hQ0 hQ1
 subst hst
 have h:dc v0 v1 v2 v3 = some o:=h
 unfold dc at h
 refine mo fun LQ hn hr he => ?_
 by_cases c1:(0:Int) ≤ v3
 · rw [if_pos c1] at h
   obtain ⟨y2,hy2,h⟩:=ob h
   have k3:=zdgg v3 v0 v1 v2 _ hy2
   try simp only [CL] at k3
   by_cases c4:y2.1 = true
   · rw [if_pos c4] at h
     injection h with h; subst h
     have ih:=ih y2.2 (IntKind.i64.wrap (v3 - (1:Int))) rfl
     unfold rx at ih
     simp only [rv,re,TT,Ic.t,ci,reduceEqDiff,reduceCtorEq,hl,ha0,hi0,ha1,hi1,ha2,hi2,hw2,nq hn0_2,nq hn1_2,c1,k3,c4,CL]
     rw [hn]
     simp only [TT,reduceEqDiff,hi0,hi1,hi2]
     exact ih  (τ.put o2 ⟨a9,[.str y2.2]⟩) o0 o1 o2   (by simp only [aa,ag]; assumption) (by simp only [TT,ha0,nq hn0_2,CL]) (by simp only [aa]; assumption) (by simp only [TT,ha1,nq hn1_2,CL]) (by simp only [aa]; assumption) (by simp only [TT,hi2]) (by simp only [aa]; assumption) (by assumption) hn0_2 hn1_2 Q (fun v e fr tk2 τ2  ht hτ => hQ0 v e fr tk2 τ2  ht (by simpa only [aa,rf,hl,ha0,hi0,ha1,hi1,ha2,hi2,hw2,nq hn0_2,nq hn1_2] using hτ)) (fun v e tk2 τ2  hτ => hQ1 v e tk2 τ2  (by simpa only [aa,rf,hl,ha0,hi0,ha1,hi1,ha2,hi2,hw2,nq hn0_2,nq hn1_2] using hτ))
   rw [if_neg c4] at h
   have c4:=Bool.eq_false_iff.2 c4
   injection h with h; subst h
   obtain rfl:_ = r:=ih
   simp only [rv,re,TT,Ic.t,ci,reduceEqDiff,hl,ha0,hi0,ha1,hi1,ha2,hi2,hw2,nq hn0_2,nq hn1_2,he,hr,c1,k3,c4,CL]
   exact hQ1 (false,y2.2) rfl  _ _  (by simp only [TT])
 rw [if_neg c1] at h
 injection h with h; subst h
 obtain rfl:_ = r:=ih
 simp only [rv,re,TT,Ic.t,ci,reduceEqDiff,reduceCtorEq,he,c1]
 exact hQ0 v2 rfl  _ _ _   (by rfl) (by simp only [TT,jj ha2])
noncomputable def i9 (p1:af) (p2:ah):Option Bool :=
 eo p1 p2 p2.Secret (IntKind.i64.wrap (((p2.Path.length:Nat):Int) - (1:Int))) >>= fun y1 =>
 match y1 with
 | .ex w2 =>
  some true
 | .rt w4 =>
  some w4.1
theorem zc34 (p1:af) (p2:ah) (r:Bool) (h:i9 p1 p2 = some r) (τ:TH) (hl:τ.lock ≤ τ.next):Ru G ri [.agg p1.cells,.agg p2.cells] τ (.bool r) τ:=by
 refine gp fun K hK => ?_
 rw [bc zdj9 (Nat.le_of_ble_eq_true rfl)]
 unfold i9 at h
 obtain ⟨y1,hy1,h⟩:=ob h
 simp only [re,TT,Ic.t,ci,reduceEqDiff,reduceAdd,reduceLT,reduceCtorEq,hl,CL]
 have Sy1:=zdgp p1 p2 p2.Secret (IntKind.i64.wrap (((p2.Path.length:Nat):Int) - (1:Int))) y1 hy1
 unfold rx at Sy1
 refine Sy1 _ τ.next (τ.next + 1) (τ.next + 2) (by simp only [ak,aq]; omega) (by simp only [TT,reduceAdd,reduceLT,CL]) (by simp only [ak]; omega) (by simp only [TT,reduceAdd,reduceLT,CL]) (by simp only [ak]; omega) (by simp only [TT,reduceAdd]) (by simp only [ak]; omega) (by simp only [aq]; omega) (by omega) (by omega) _ ?_ ?_
 · intro w2 e frq3 tkq3 τq3 htq3 hcq3
   subst e
   simp only at h
   have hcq3:=dp (n:=τ.next + 3) hcq3 (by simp only [ak]; omega)
   try simp only [List.take_zero] at htq3
   try simp only [TT,reduceAdd] at hcq3
   injection h with h; subst h
   simp only [TT,reduceAdd,hcq3]
   exact hK
 intro w4 e tkq5 τq5 hcq5
 subst e
 simp only at h
 have hcq5:=dp (n:=τ.next) hcq5 (by simp only [ak]; omega)
 try simp only [TT,reduceAdd] at hcq5
 injection h with h; subst h
 simp only [TT,hcq5]
 exact hK
theorem zdlf (p1:af) (p2:ah) (r:Bool) (h:i9 p1 p2 = some r) (lk:Bool) (d:Option Nat) (K:ap) (fr:TF) (tk:TK) (τ:TH) (hl:τ.lock ≤ τ.next):du G lk ri [.agg p1.cells,.agg p2.cells] d K fr tk τ = K (fp fr d (.bool r)) tk τ :=
 au (zc34 p1 p2 r h τ  hl) (zc34 p1 p2 r h (τ.locked τ.next)  (Nat.le_refl _) ) (by simp only [TT,CL])
noncomputable def cq (p1:af) (p2:Int) (p3:ah):Option Bool :=
 yl p1 >>= fun y1 =>
 if y1 = true then
  if p2 < (0:Int) then
   some false
  else
  if ((p1.Arcs.length:Nat):Int) ≤ p2 then
   some false
  else
  ph p1 p3.Lock >>= fun y6 =>
  if y6 = true then
   if (64:Int) < ((p3.Secret.size:Nat):Int) then
    some false
   else
   ixL p1.Locks p3.Lock >>= fun y10 =>
   zb0c p3.Secret >>= fun y12 =>
   if y12 = y10 then
    ui p1 p3.Path >>= fun y15 =>
    if y15 = true then
     ixL p3.Path (0:Int) >>= fun y18 =>
     ixL p1.Arcs p2 >>= fun y20 =>
     if y18 = y20.To then
      ixL p3.Path (IntKind.i64.wrap (((p3.Path.length:Nat):Int) - (1:Int))) >>= fun y23 =>
      ixL p1.Leaders p3.Lock >>= fun y25 =>
      if y23 = y25 then
       if ((p3.Sigs.length:Nat):Int) = ((p3.Path.length:Nat):Int) then
        i9 p1 p3 >>= fun y29 =>
        some y29
       else
       some false
      else
      some false
     else
     some false
    else
    some false
   else
   some false
  else
  some false
 else
 some false
theorem zc2u (p1:af) (p2:Int) (p3:ah) (r:Bool) (h:cq p1 p2 p3 = some r) (τ:TH) (hl:τ.lock ≤ τ.next):Ru G j8 [.agg p1.cells,.int .i64 p2,.agg p3.cells] τ (.bool r) τ:=by
 refine gp fun K hK => ?_
 rw [bc zdjf (Nat.le_of_ble_eq_true rfl)]
 unfold cq at h
 obtain ⟨y1,hy1,h⟩:=ob h
 have k2:=zdjt p1 _ hy1
 try simp only [CL] at k2
 by_cases c3:y1 = true
 · rw [if_pos c3] at h
   by_cases c4:p2 < (0:Int)
   · rw [if_pos c4] at h
     injection h with h; subst h
     simp only [ix,TT,Ic.t,ci,reduceEqDiff,reduceAdd,reduceLT,reduceCtorEq,hl,k2,c3,c4,CL]
     first | exact hK | (simp only [hl,k2,c3,c4,CL] at hK; exact hK)
   rw [if_neg c4] at h
   by_cases c5:((p1.Arcs.length:Nat):Int) ≤ p2
   · rw [if_pos c5] at h
     injection h with h; subst h
     simp only [ix,TT,Ic.t,ci,reduceEqDiff,reduceAdd,reduceLT,reduceCtorEq,hl,k2,c3,c4,c5,CL]
     first | exact hK | (simp only [hl,k2,c3,c4,c5,CL] at hK; exact hK)
   rw [if_neg c5] at h
   obtain ⟨y6,hy6,h⟩:=ob h
   have k7:=zc50 p1 p3.Lock _ hy6
   try simp only [CL] at k7
   by_cases c8:y6 = true
   · rw [if_pos c8] at h
     by_cases c9:(64:Int) < ((p3.Secret.size:Nat):Int)
     · rw [if_pos c9] at h
       injection h with h; subst h
       simp only [ix,TT,Ic.t,ci,reduceEqDiff,reduceAdd,reduceLT,reduceCtorEq,hl,k2,c3,c4,c5,k7,c8,c9,CL]
       first | exact hK | (simp only [hl,k2,c3,c4,c5,k7,c8,c9,CL] at hK; exact hK)
     rw [if_neg c9] at h
     obtain ⟨y10,hy10,h⟩:=ob h
     have f11:=av hy10
     have f11a:=(f11.2.2 TV.str).1
     have f11b:=(f11.2.2 TV.str).2
     try simp only [CL,MC,reduceToNat] at f11 f11a f11b
     obtain ⟨y12,hy12,h⟩:=ob h
     have k13:=zcia p3.Secret _ hy12
     try simp only [CL,MC,reduceToNat] at k13
     by_cases c14:y12 = y10
     · rw [if_pos c14] at h
       obtain ⟨y15,hy15,h⟩:=ob h
       have k16:=zdi6 p1 p3.Path _ hy15
       try simp only [CL] at k16
       by_cases c17:y15 = true
       · rw [if_pos c17] at h
         obtain ⟨y18,hy18,h⟩:=ob h
         have f19:=av hy18
         have f19a:=(f19.2.2 (TV.int .i64)).1
         have f19b:=(f19.2.2 (TV.int .i64)).2
         try simp only [reduceToNat] at f19 f19a f19b
         obtain ⟨y20,hy20,h⟩:=ob h
         have f21:=av hy20
         have f21a:=(f21.2.2 ac.tv).1
         have f21b:=(f21.2.2 ac.tv).2
         try simp only [CL] at f21 f21a f21b
         by_cases c22:y18 = y20.To
         · rw [if_pos c22] at h
           obtain ⟨y23,hy23,h⟩:=ob h
           have f24:=av hy23
           have f24a:=(f24.2.2 (TV.int .i64)).1
           have f24b:=(f24.2.2 (TV.int .i64)).2
           try simp only [CL,MC,reduceToNat] at f24 f24a f24b
           obtain ⟨y25,hy25,h⟩:=ob h
           have f26:=av hy25
           have f26a:=(f26.2.2 (TV.int .i64)).1
           have f26b:=(f26.2.2 (TV.int .i64)).2
           try simp only [CL,MC,reduceToNat] at f26 f26a f26b
           by_cases c27:y23 = y25
           · rw [if_pos c27] at h
             by_cases c28:((p3.Sigs.length:Nat):Int) = ((p3.Path.length:Nat):Int)
             · rw [if_pos c28] at h
               obtain ⟨y29,hy29,h⟩:=ob h
               have k30:=zdlf p1 p3 _ hy29
               try simp only [CL] at k30
               injection h with h; subst h
               simp only [ix,TT,Ic.t,ci,reduceEqDiff,reduceAdd,reduceLT,reduceCtorEq,hl,k2,c3,c4,c5,k7,c8,c9,f11.1,f11.2.1,f11a,k13,eq_true c14,k16,c17,f19.1,f19.2.1,f19a,f21.1,f21.2.1,f21a,eq_true c22,f24.1,f24.2.1,f24a,f26.2.1,f26a,eq_true c27,eq_true c28,k30,CL]
               first | exact hK | (simp only [hl,k2,c3,c4,c5,k7,c8,c9,f11.1,f11.2.1,f11a,f11b,k13,eq_true c14,k16,c17,f19.1,f19.2.1,f19a,f19b,f21.1,f21.2.1,f21a,f21b,eq_true c22,f24.1,f24.2.1,f24a,f24b,f26.1,f26.2.1,f26a,f26b,eq_true c27,eq_true c28,k30,CL] at hK; exact hK)
             rw [if_neg c28] at h
             injection h with h; subst h
             simp only [ix,TT,Ic.t,ci,reduceEqDiff,reduceAdd,reduceLT,reduceCtorEq,hl,k2,c3,c4,c5,k7,c8,c9,f11.1,f11.2.1,f11a,k13,eq_true c14,k16,c17,f19.1,f19.2.1,f19a,f21.1,f21.2.1,f21a,eq_true c22,f24.1,f24.2.1,f24a,f26.2.1,f26a,eq_true c27,c28,CL]
             first | exact hK | (simp only [hl,k2,c3,c4,c5,k7,c8,c9,f11.1,f11.2.1,f11a,f11b,k13,eq_true c14,k16,c17,f19.1,f19.2.1,f19a,f19b,f21.1,f21.2.1,f21a,f21b,eq_true c22,f24.1,f24.2.1,f24a,f24b,f26.1,f26.2.1,f26a,f26b,eq_true c27,c28,CL] at hK; exact hK)
           rw [if_neg c27] at h
           injection h with h; subst h
           simp only [ix,TT,Ic.t,ci,reduceEqDiff,reduceAdd,reduceLT,reduceCtorEq,hl,k2,c3,c4,c5,k7,c8,c9,f11.1,f11.2.1,f11a,k13,eq_true c14,k16,c17,f19.1,f19.2.1,f19a,f21.1,f21.2.1,f21a,eq_true c22,f24.1,f24.2.1,f24a,f26.2.1,f26a,c27,CL]
           first | exact hK | (simp only [hl,k2,c3,c4,c5,k7,c8,c9,f11.1,f11.2.1,f11a,f11b,k13,eq_true c14,k16,c17,f19.1,f19.2.1,f19a,f19b,f21.1,f21.2.1,f21a,f21b,eq_true c22,f24.1,f24.2.1,f24a,f24b,f26.1,f26.2.1,f26a,f26b,c27,CL] at hK; exact hK)
         rw [if_neg c22] at h
         injection h with h; subst h
         simp only [ix,TT,Ic.t,ci,reduceEqDiff,reduceAdd,reduceLT,reduceCtorEq,hl,k2,c3,c4,c5,k7,c8,c9,f11.1,f11.2.1,f11a,k13,eq_true c14,k16,c17,f19.1,f19.2.1,f19a,f21.1,f21.2.1,f21a,c22,CL]
         first | exact hK | (simp only [hl,k2,c3,c4,c5,k7,c8,c9,f11.1,f11.2.1,f11a,f11b,k13,eq_true c14,k16,c17,f19.1,f19.2.1,f19a,f19b,f21.1,f21.2.1,f21a,f21b,c22,CL] at hK; exact hK)
       rw [if_neg c17] at h
       have c17:=Bool.eq_false_iff.2 c17
       injection h with h; subst h
       simp only [ix,TT,Ic.t,ci,reduceEqDiff,reduceAdd,reduceLT,reduceCtorEq,hl,k2,c3,c4,c5,k7,c8,c9,f11.1,f11.2.1,f11a,k13,eq_true c14,k16,c17,CL]
       first | exact hK | (simp only [hl,k2,c3,c4,c5,k7,c8,c9,f11.1,f11.2.1,f11a,f11b,k13,eq_true c14,k16,c17,CL] at hK; exact hK)
     rw [if_neg c14] at h
     injection h with h; subst h
     simp only [ix,TT,Ic.t,ci,reduceEqDiff,reduceAdd,reduceLT,reduceCtorEq,hl,k2,c3,c4,c5,k7,c8,c9,f11.1,f11.2.1,f11a,k13,c14,CL]
     first | exact hK | (simp only [hl,k2,c3,c4,c5,k7,c8,c9,f11.1,f11.2.1,f11a,f11b,k13,c14,CL] at hK; exact hK)
   rw [if_neg c8] at h
   have c8:=Bool.eq_false_iff.2 c8
   injection h with h; subst h
   simp only [ix,TT,Ic.t,ci,reduceEqDiff,reduceAdd,reduceLT,reduceCtorEq,hl,k2,c3,c4,c5,k7,c8,CL]
   first | exact hK | (simp only [hl,k2,c3,c4,c5,k7,c8,CL] at hK; exact hK)
 rw [if_neg c3] at h
 have c3:=Bool.eq_false_iff.2 c3
 injection h with h; subst h
 simp only [ix,TT,Ic.t,ci,reduceEqDiff,reduceAdd,reduceLT,reduceCtorEq,hl,k2,c3,CL]
 first | exact hK | (simp only [hl,k2,c3,CL] at hK; exact hK)
theorem t9 (p1:af) (p2:Int) (p3:ah) (r:Bool) (h:cq p1 p2 p3 = some r) (lk:Bool) (d:Option Nat) (K:ap) (fr:TF) (tk:TK) (τ:TH) (hl:τ.lock ≤ τ.next):du G lk j8 [.agg p1.cells,.int .i64 p2,.agg p3.cells] d K fr tk τ = K (fp fr d (.bool r)) tk τ :=
 au (zc2u p1 p2 p3 r h τ  hl) (zc2u p1 p2 p3 r h (τ.locked τ.next)  (Nat.le_refl _) ) (by simp only [TT,CL])
noncomputable def ms :Option Bool :=
 zb8d (2:Int) (5:Int) (6:Int) >>= fun y1 =>
 pj (0:Int) >>= fun y3 =>
 rh (0:Int) >>= fun y5 =>
 ja y1 (0:Int) y3 y5 >>= fun y7 =>
 cq y1 (1:Int) y7 >>= fun y9 =>
 if y9 = true then
  cq y1 (1:Int) (⟨y7.Lock,(⟨#[111,116,104,101,114]⟩:ByteArray),y7.Path,y7.Sigs⟩:ah) >>= fun y12 =>
  if y12 = true then
   some false
  else
  cq y1 (0:Int) (⟨y7.Lock,(⟨#[111,116,104,101,114]⟩:ByteArray),y7.Path,y7.Sigs⟩:ah) >>= fun y15 =>
  if y15 = true then
   some false
  else
  ja y1 (5:Int) (⟨#[]⟩:ByteArray) (⟨#[]⟩:ByteArray) >>= fun y18 =>
  some (decide (((y18.Path.length:Nat):Int) = (0:Int)))
 else
 some false
set_option maxRecDepth 100000 in
set_option maxHeartbeats 4000000 in
theorem zday  (r:Bool) (h:ms  = some r) (τ:TH) (hl:τ.lock ≤ τ.next):Ru G zb35 [] τ (.bool r) τ:=by
 refine gp fun K hK => ?_
 rw [bc zddi (Nat.le_of_ble_eq_true rfl)]
 unfold ms at h
 obtain ⟨y1,hy1,h⟩:=ob h
 have k2:=zcz7 (2:Int) (5:Int) (6:Int) _ hy1
 try simp only [CL] at k2
 obtain ⟨y3,hy3,h⟩:=ob h
 have k4:=zclb (0:Int) _ hy3
 try simp only [CL,MC,reduceToNat] at k4
 obtain ⟨y5,hy5,h⟩:=ob h
 have k6:=zcli (0:Int) _ hy5
 try simp only [CL,MC,reduceToNat] at k6
 obtain ⟨y7,hy7,h⟩:=ob h
 have k8:=zclv y1 (0:Int) y3 y5 _ hy7
 try simp only [CL] at k8
 obtain ⟨y9,hy9,h⟩:=ob h
 have k10:=t9 y1 (1:Int) y7 _ hy9
 try simp only [CL] at k10
 by_cases c11:y9 = true
 · rw [if_pos c11] at h
   obtain ⟨y12,hy12,h⟩:=ob h
   have k13:=t9 y1 (1:Int) (⟨y7.Lock,(⟨#[111,116,104,101,114]⟩:ByteArray),y7.Path,y7.Sigs⟩:ah) _ hy12
   try simp only [CL] at k13
   by_cases c14:y12 = true
   · rw [if_pos c14] at h
     injection h with h; subst h
     simp only [zceu,TT,Ic.t,ci,reduceEqDiff,reduceAdd,reduceLT,reduceLeDiff,reduceCtorEq,hl,k2,k4,k6,k8,k10,c11,k13,c14]
     first | exact hK | (simp only [hl,k2,k4,k6,k8,k10,c11,k13,c14,CL] at hK; exact hK)
   rw [if_neg c14] at h
   have c14:=Bool.eq_false_iff.2 c14
   obtain ⟨y15,hy15,h⟩:=ob h
   have k16:=t9 y1 (0:Int) (⟨y7.Lock,(⟨#[111,116,104,101,114]⟩:ByteArray),y7.Path,y7.Sigs⟩:ah) _ hy15
   try simp only [CL] at k16
   by_cases c17:y15 = true
   · rw [if_pos c17] at h
     injection h with h; subst h
     simp only [zceu,TT,Ic.t,ci,reduceEqDiff,reduceAdd,reduceLT,reduceLeDiff,reduceCtorEq,hl,k2,k4,k6,k8,k10,c11,k13,c14,k16,c17]
     first | exact hK | (simp only [hl,k2,k4,k6,k8,k10,c11,k13,c14,k16,c17,CL] at hK; exact hK)
   rw [if_neg c17] at h
   have c17:=Bool.eq_false_iff.2 c17
   obtain ⟨y18,hy18,h⟩:=ob h
   have k19:=zclv y1 (5:Int) (⟨#[]⟩:ByteArray) (⟨#[]⟩:ByteArray) _ hy18
   try simp only [CL] at k19
   injection h with h; subst h
   simp only [zceu,TT,Ic.t,ci,reduceEqDiff,reduceAdd,reduceLT,reduceLeDiff,reduceCtorEq,hl,k2,k4,k6,k8,k10,c11,k13,c14,k16,c17,k19]
   first | exact hK | (simp only [hl,k2,k4,k6,k8,k10,c11,k13,c14,k16,c17,k19,CL] at hK; exact hK)
 rw [if_neg c11] at h
 have c11:=Bool.eq_false_iff.2 c11
 injection h with h; subst h
 simp only [zceu,TT,Ic.t,ci,reduceEqDiff,reduceAdd,reduceLT,reduceLeDiff,reduceCtorEq,hl,k2,k4,k6,k8,k10,c11]
 first | exact hK | (simp only [hl,k2,k4,k6,k8,k10,c11,CL] at hK; exact hK)
theorem r8  (r:Bool) (h:ms  = some r) (lk:Bool) (d:Option Nat) (K:ap) (fr:TF) (tk:TK) (τ:TH) (hl:τ.lock ≤ τ.next):du G lk zb35 [] d K fr tk τ = K (fp fr d (.bool r)) tk τ :=
 au (zday  r h τ  hl) (zday  r h (τ.locked τ.next)  (Nat.le_refl _) ) (by simp only [TT])
noncomputable def ue (p1:Int) (p2:Int):Option Bool :=
 zb8d (2:Int) (5:Int) (6:Int) >>= fun y1 =>
 pj (0:Int) >>= fun y3 =>
 rh (0:Int) >>= fun y5 =>
 ja y1 (0:Int) y3 y5 >>= fun y7 =>
 ep y7 >>= fun y9 =>
 if ((y9.size:Nat):Int) = (559:Int) then
  xw p2 (100:Int) >>= fun y12 =>
  xw p1 (7:Int) >>= fun y14 =>
  if y14 = (0:Int) then
   ep (⟨(IntKind.i64.wrap ((2:Int) + (IntKind.i64.wrap ((1:Int) + y12)))),y7.Secret,y7.Path,y7.Sigs⟩:ah) >>= fun y17 =>
   if y17 = (⟨#[]⟩:ByteArray) then
    ms >>= fun y20 =>
    some y20
   else
   some false
  else
  if y14 = (1:Int) then
   ep (⟨(IntKind.i64.wrap (0 - (IntKind.i64.wrap ((1:Int) + y12)))),y7.Secret,y7.Path,y7.Sigs⟩:ah) >>= fun y23 =>
   if y23 = (⟨#[]⟩:ByteArray) then
    ms >>= fun y26 =>
    some y26
   else
   some false
  else
  if y14 = (2:Int) then
   if 0 ≤ (IntKind.i64.wrap ((64:Int) + (IntKind.i64.wrap ((1:Int) + y12)))) then
    if (IntKind.i64.wrap ((64:Int) + (IntKind.i64.wrap ((1:Int) + y12)))) ≤ (IntKind.i64.wrap ((64:Int) + (IntKind.i64.wrap ((1:Int) + y12)))) then
     if (IntKind.i64.wrap ((64:Int) + (IntKind.i64.wrap ((1:Int) + y12)))) * ((1:Nat):Int) ≤ 140737488355328 then
      ep (⟨y7.Lock,(yu (List.replicate (IntKind.i64.wrap ((64:Int) + (IntKind.i64.wrap ((1:Int) + y12)))).toNat (0:Int))),y7.Path,y7.Sigs⟩:ah) >>= fun y34 =>
      if y34 = (⟨#[]⟩:ByteArray) then
       ms >>= fun y37 =>
       some y37
      else
      some false
     else
      none
    else
     none
   else
    none
  else
  if y14 = (3:Int) then
   ep (⟨y7.Lock,y7.Secret,[],y7.Sigs⟩:ah) >>= fun y40 =>
   if y40 = (⟨#[]⟩:ByteArray) then
    ms >>= fun y43 =>
    some y43
   else
   some false
  else
  if y14 = (4:Int) then
   ep (⟨y7.Lock,y7.Secret,[(IntKind.i64.wrap ((5:Int) + (IntKind.i64.wrap ((1:Int) + y12))))],y7.Sigs⟩:ah) >>= fun y46 =>
   if y46 = (⟨#[]⟩:ByteArray) then
    ms >>= fun y49 =>
    some y49
   else
   some false
  else
  if y14 = (5:Int) then
   if y7.Sigs.length * 16 ≤ 140737488355328 then
    if (y7.Sigs.length + y7.Sigs.length) * 16 ≤ 140737488355328 then
     ep (⟨y7.Lock,y7.Secret,y7.Path,(y7.Sigs ++ y7.Sigs)⟩:ah) >>= fun y63 =>
     if y63 = (⟨#[]⟩:ByteArray) then
      ms >>= fun y66 =>
      some y66
     else
     some false
    else
     none
   else
    none
  else
  if 0 ≤ (IntKind.i64.wrap ((512:Int) + (IntKind.i64.wrap ((1:Int) + y12)))) then
   if (IntKind.i64.wrap ((512:Int) + (IntKind.i64.wrap ((1:Int) + y12)))) ≤ (IntKind.i64.wrap ((512:Int) + (IntKind.i64.wrap ((1:Int) + y12)))) then
    if (IntKind.i64.wrap ((512:Int) + (IntKind.i64.wrap ((1:Int) + y12)))) * ((1:Nat):Int) ≤ 140737488355328 then
     ep (⟨y7.Lock,y7.Secret,y7.Path,[(yu (List.replicate (IntKind.i64.wrap ((512:Int) + (IntKind.i64.wrap ((1:Int) + y12)))).toNat (0:Int)))]⟩:ah) >>= fun y73 =>
     if y73 = (⟨#[]⟩:ByteArray) then
      ms >>= fun y76 =>
      some y76
     else
     some false
    else
     none
   else
    none
  else
   none
 else
 some false
set_option maxRecDepth 100000 in
set_option maxHeartbeats 4000000 in
theorem zdil (p1:Int) (p2:Int) (r:Bool) (h:ue p1 p2 = some r) (τ:TH) (hl:τ.lock ≤ τ.next):Ru G pw [.int .i64 p1,.int .i64 p2] τ (.bool r) τ:=by
 refine gp fun K hK => ?_
 rw [bc zdks (Nat.le_of_ble_eq_true rfl)]
 unfold ue at h
 obtain ⟨y1,hy1,h⟩:=ob h
 have k2:=zcz7 (2:Int) (5:Int) (6:Int) _ hy1
 try simp only [CL] at k2
 obtain ⟨y3,hy3,h⟩:=ob h
 have k4:=zclb (0:Int) _ hy3
 try simp only [CL,MC,reduceToNat] at k4
 obtain ⟨y5,hy5,h⟩:=ob h
 have k6:=zcli (0:Int) _ hy5
 try simp only [CL,MC,reduceToNat] at k6
 obtain ⟨y7,hy7,h⟩:=ob h
 have k8:=zclv y1 (0:Int) y3 y5 _ hy7
 try simp only [CL] at k8
 obtain ⟨y9,hy9,h⟩:=ob h
 have k10:=lf y7 _ hy9
 try simp only [CL] at k10
 by_cases c11:((y9.size:Nat):Int) = (559:Int)
 · rw [if_pos c11] at h
   obtain ⟨y12,hy12,h⟩:=ob h
   have k13:=zc2g p2 (100:Int) _ hy12
   try simp only [CL,MC,reduceToNat] at k13
   obtain ⟨y14,hy14,h⟩:=ob h
   have k15:=zc2g p1 (7:Int) _ hy14
   try simp only [CL,MC,reduceToNat] at k15
   by_cases c16:y14 = (0:Int)
   · rw [if_pos c16] at h
     obtain ⟨y17,hy17,h⟩:=ob h
     have k18:=lf (⟨(IntKind.i64.wrap ((2:Int) + (IntKind.i64.wrap ((1:Int) + y12)))),y7.Secret,y7.Path,y7.Sigs⟩:ah) _ hy17
     try simp only [CL] at k18
     by_cases c19:y17 = (⟨#[]⟩:ByteArray)
     · rw [if_pos c19] at h
       obtain ⟨y20,hy20,h⟩:=ob h
       have k21:=r8  _ hy20
       try simp only [CL,MC,reduceToNat] at k21
       injection h with h; subst h
       simp only [↓ma,jg,List.isEmpty_cons,ei,tD,pnK,kj,gq,List.filter_cons,List.filter_nil,List.filterMap_cons,List.filterMap_nil,bg,dg,mf,dm,Ins.dsts,Ins.looks,I.ops,pt,ta,List.all_cons,List.all_nil,List.any_cons,List.any_nil,List.contains_cons,List.contains_nil,List.nil_append,List.cons_append,Option.toList_some,Option.isSome_some,Option.isSome_none,Bool.and_true,Bool.true_and,Bool.and_false,Bool.or_false,Bool.not_false,and_true,true_and,and_false,Nat.reduceBEq,dh,TT,Ic.t,ci,reduceEqDiff,reduceAdd,reduceLT,reduceLeDiff,reduceCtorEq,hl,k2,k4,k6,k8,k10,eq_true c11,k13,k15,eq_true c16,k18,eq_true c19,k21]
       exact hK
     rw [if_neg c19] at h
     injection h with h; subst h
     simp only [↓ma,jg,List.isEmpty_cons,ei,tD,pnK,kj,gq,List.filter_cons,List.filter_nil,List.filterMap_cons,List.filterMap_nil,bg,dg,mf,dm,Ins.dsts,Ins.looks,I.ops,pt,ta,List.all_cons,List.all_nil,List.any_cons,List.any_nil,List.contains_cons,List.contains_nil,List.nil_append,List.cons_append,Option.toList_some,Option.isSome_some,Option.isSome_none,Bool.and_true,Bool.true_and,Bool.and_false,Bool.or_false,Bool.not_false,and_true,true_and,and_false,Nat.reduceBEq,dh,TT,Ic.t,ci,reduceEqDiff,reduceAdd,reduceLT,reduceLeDiff,reduceCtorEq,hl,k2,k4,k6,k8,k10,eq_true c11,k13,k15,eq_true c16,k18,c19]
     exact hK
   rw [if_neg c16] at h
   by_cases c22:y14 = (1:Int)
   · rw [if_pos c22] at h
     obtain ⟨y23,hy23,h⟩:=ob h
     have k24:=lf (⟨(IntKind.i64.wrap (0 - (IntKind.i64.wrap ((1:Int) + y12)))),y7.Secret,y7.Path,y7.Sigs⟩:ah) _ hy23
     try simp only [CL] at k24
     by_cases c25:y23 = (⟨#[]⟩:ByteArray)
     · rw [if_pos c25] at h
       obtain ⟨y26,hy26,h⟩:=ob h
       have k27:=r8  _ hy26
       try simp only [CL,MC,reduceToNat] at k27
       injection h with h; subst h
       simp only [↓ma,jg,List.isEmpty_cons,ei,tD,pnK,kj,gq,List.filter_cons,List.filter_nil,List.filterMap_cons,List.filterMap_nil,bg,dg,mf,dm,Ins.dsts,Ins.looks,I.ops,pt,ta,List.all_cons,List.all_nil,List.any_cons,List.any_nil,List.contains_cons,List.contains_nil,List.nil_append,List.cons_append,Option.toList_some,Option.isSome_some,Option.isSome_none,Bool.and_true,Bool.true_and,Bool.and_false,Bool.or_false,Bool.not_false,and_true,true_and,and_false,Nat.reduceBEq,dh,TT,Ic.t,ci,reduceEqDiff,reduceAdd,reduceLT,reduceLeDiff,reduceCtorEq,hl,k2,k4,k6,k8,k10,eq_true c11,k13,k15,c16,eq_true c22,k24,eq_true c25,k27]
       exact hK
     rw [if_neg c25] at h
     injection h with h; subst h
     simp only [↓ma,jg,List.isEmpty_cons,ei,tD,pnK,kj,gq,List.filter_cons,List.filter_nil,List.filterMap_cons,List.filterMap_nil,bg,dg,mf,dm,Ins.dsts,Ins.looks,I.ops,pt,ta,List.all_cons,List.all_nil,List.any_cons,List.any_nil,List.contains_cons,List.contains_nil,List.nil_append,List.cons_append,Option.toList_some,Option.isSome_some,Option.isSome_none,Bool.and_true,Bool.true_and,Bool.and_false,Bool.or_false,Bool.not_false,and_true,true_and,and_false,Nat.reduceBEq,dh,TT,Ic.t,ci,reduceEqDiff,reduceAdd,reduceLT,reduceLeDiff,reduceCtorEq,hl,k2,k4,k6,k8,k10,eq_true c11,k13,k15,c16,eq_true c22,k24,c25]
     exact hK
   rw [if_neg c22] at h
   by_cases c28:y14 = (2:Int)
   · rw [if_pos c28] at h
     obtain ⟨c29,h⟩:=ifS h
     obtain ⟨c30,h⟩:=ifS h
     obtain ⟨c31,h⟩:=ifS h
     have f32:(IntKind.i64.wrap ((64:Int) + (IntKind.i64.wrap ((1:Int) + y12)))) ≤ 9223372036854775807:=by omega
     have f33:Option.map (fun bs => TV.str ⟨bs.toArray⟩) (wx (List.replicate (IntKind.i64.wrap ((64:Int) + (IntKind.i64.wrap ((1:Int) + y12)))).toNat (zac6 [TV.int .u8 0]))) = some (TV.str (yu (List.replicate (IntKind.i64.wrap ((64:Int) + (IntKind.i64.wrap ((1:Int) + y12)))).toNat (0:Int)))):=by rw [show zac6 [TV.int .u8 0] = TV.int .u8 0 from rfl,show List.replicate (IntKind.i64.wrap ((64:Int) + (IntKind.i64.wrap ((1:Int) + y12)))).toNat (TV.int .u8 0) = List.map (TV.int .u8) (List.replicate (IntKind.i64.wrap ((64:Int) + (IntKind.i64.wrap ((1:Int) + y12)))).toNat (0:Int)) from List.map_replicate.symm,zb9q]; rfl
     obtain ⟨y34,hy34,h⟩:=ob h
     have k35:=lf (⟨y7.Lock,(yu (List.replicate (IntKind.i64.wrap ((64:Int) + (IntKind.i64.wrap ((1:Int) + y12)))).toNat (0:Int))),y7.Path,y7.Sigs⟩:ah) _ hy34
     try simp only [CL] at k35
     by_cases c36:y34 = (⟨#[]⟩:ByteArray)
     · rw [if_pos c36] at h
       obtain ⟨y37,hy37,h⟩:=ob h
       have k38:=r8  _ hy37
       try simp only [CL,MC,reduceToNat] at k38
       injection h with h; subst h
       simp only [↓ma,jg,List.isEmpty_cons,ei,tD,pnK,kj,gq,List.filter_cons,List.filter_nil,List.filterMap_cons,List.filterMap_nil,bg,dg,mf,dm,Ins.dsts,Ins.looks,I.ops,pt,ta,List.all_cons,List.all_nil,List.any_cons,List.any_nil,List.contains_cons,List.contains_nil,List.nil_append,List.cons_append,Option.toList_some,Option.isSome_some,Option.isSome_none,Bool.and_true,Bool.true_and,Bool.and_false,Bool.or_false,Bool.not_false,and_true,true_and,and_false,Nat.reduceBEq,dh,TT,Ic.t,ci,reduceEqDiff,reduceAdd,reduceLT,reduceLeDiff,reduceCtorEq,hl,k2,k4,k6,k8,k10,eq_true c11,k13,k15,c16,c22,eq_true c28,c29,c30,c31,f32,f33,k35,eq_true c36,k38]
       exact hK
     rw [if_neg c36] at h
     injection h with h; subst h
     simp only [↓ma,jg,List.isEmpty_cons,ei,tD,pnK,kj,gq,List.filter_cons,List.filter_nil,List.filterMap_cons,List.filterMap_nil,bg,dg,mf,dm,Ins.dsts,Ins.looks,I.ops,pt,ta,List.all_cons,List.all_nil,List.any_cons,List.any_nil,List.contains_cons,List.contains_nil,List.nil_append,List.cons_append,Option.toList_some,Option.isSome_some,Option.isSome_none,Bool.and_true,Bool.true_and,Bool.and_false,Bool.or_false,Bool.not_false,and_true,true_and,and_false,Nat.reduceBEq,dh,TT,Ic.t,ci,reduceEqDiff,reduceAdd,reduceLT,reduceLeDiff,reduceCtorEq,hl,k2,k4,k6,k8,k10,eq_true c11,k13,k15,c16,c22,eq_true c28,c29,c30,c31,f32,f33,k35,c36]
     exact hK
   rw [if_neg c28] at h
   by_cases c39:y14 = (3:Int)
   · rw [if_pos c39] at h
     obtain ⟨y40,hy40,h⟩:=ob h
     have k41:=lf (⟨y7.Lock,y7.Secret,[],y7.Sigs⟩:ah) _ hy40
     try simp only [CL,MC] at k41
     by_cases c42:y40 = (⟨#[]⟩:ByteArray)
     · rw [if_pos c42] at h
       obtain ⟨y43,hy43,h⟩:=ob h
       have k44:=r8  _ hy43
       try simp only [CL,MC,reduceToNat] at k44
       injection h with h; subst h
       simp only [↓ma,jg,List.isEmpty_cons,ei,tD,pnK,kj,gq,List.filter_cons,List.filter_nil,List.filterMap_cons,List.filterMap_nil,bg,dg,mf,dm,Ins.dsts,Ins.looks,I.ops,pt,ta,List.all_cons,List.all_nil,List.any_cons,List.any_nil,List.contains_cons,List.contains_nil,List.nil_append,List.cons_append,Option.toList_some,Option.isSome_some,Option.isSome_none,Bool.and_true,Bool.true_and,Bool.and_false,Bool.or_false,Bool.not_false,and_true,true_and,and_false,Nat.reduceBEq,dh,TT,Ic.t,ci,reduceEqDiff,reduceAdd,reduceLT,reduceLeDiff,reduceCtorEq,hl,k2,k4,k6,k8,k10,eq_true c11,k13,k15,c16,c22,c28,eq_true c39,k41,eq_true c42,k44]
       exact hK
     rw [if_neg c42] at h
     injection h with h; subst h
     simp only [↓ma,jg,List.isEmpty_cons,ei,tD,pnK,kj,gq,List.filter_cons,List.filter_nil,List.filterMap_cons,List.filterMap_nil,bg,dg,mf,dm,Ins.dsts,Ins.looks,I.ops,pt,ta,List.all_cons,List.all_nil,List.any_cons,List.any_nil,List.contains_cons,List.contains_nil,List.nil_append,List.cons_append,Option.toList_some,Option.isSome_some,Option.isSome_none,Bool.and_true,Bool.true_and,Bool.and_false,Bool.or_false,Bool.not_false,and_true,true_and,and_false,Nat.reduceBEq,dh,TT,Ic.t,ci,reduceEqDiff,reduceAdd,reduceLT,reduceLeDiff,reduceCtorEq,hl,k2,k4,k6,k8,k10,eq_true c11,k13,k15,c16,c22,c28,eq_true c39,k41,c42]
     exact hK
   rw [if_neg c39] at h
   by_cases c45:y14 = (4:Int)
   · rw [if_pos c45] at h
     obtain ⟨y46,hy46,h⟩:=ob h
     have k47:=lf (⟨y7.Lock,y7.Secret,[(IntKind.i64.wrap ((5:Int) + (IntKind.i64.wrap ((1:Int) + y12))))],y7.Sigs⟩:ah) _ hy46
     try simp only [CL,MC] at k47
     by_cases c48:y46 = (⟨#[]⟩:ByteArray)
     · rw [if_pos c48] at h
       obtain ⟨y49,hy49,h⟩:=ob h
       have k50:=r8  _ hy49
       try simp only [CL,MC,reduceToNat] at k50
       injection h with h; subst h
       simp only [↓ma,jg,List.isEmpty_cons,ei,tD,pnK,kj,gq,List.filter_cons,List.filter_nil,List.filterMap_cons,List.filterMap_nil,bg,dg,mf,dm,Ins.dsts,Ins.looks,I.ops,pt,ta,List.all_cons,List.all_nil,List.any_cons,List.any_nil,List.contains_cons,List.contains_nil,List.nil_append,List.cons_append,Option.toList_some,Option.isSome_some,Option.isSome_none,Bool.and_true,Bool.true_and,Bool.and_false,Bool.or_false,Bool.not_false,and_true,true_and,and_false,Nat.reduceBEq,dh,TT,Ic.t,ci,reduceEqDiff,reduceAdd,reduceLT,reduceLeDiff,reduceCtorEq,hl,k2,k4,k6,k8,k10,eq_true c11,k13,k15,c16,c22,c28,c39,eq_true c45,k47,eq_true c48,k50]
       exact hK
     rw [if_neg c48] at h
     injection h with h; subst h
     simp only [↓ma,jg,List.isEmpty_cons,ei,tD,pnK,kj,gq,List.filter_cons,List.filter_nil,List.filterMap_cons,List.filterMap_nil,bg,dg,mf,dm,Ins.dsts,Ins.looks,I.ops,pt,ta,List.all_cons,List.all_nil,List.any_cons,List.any_nil,List.contains_cons,List.contains_nil,List.nil_append,List.cons_append,Option.toList_some,Option.isSome_some,Option.isSome_none,Bool.and_true,Bool.true_and,Bool.and_false,Bool.or_false,Bool.not_false,and_true,true_and,and_false,Nat.reduceBEq,dh,TT,Ic.t,ci,reduceEqDiff,reduceAdd,reduceLT,reduceLeDiff,reduceCtorEq,hl,k2,k4,k6,k8,k10,eq_true c11,k13,k15,c16,c22,c28,c39,eq_true c45,k47,c48]
     exact hK
   rw [if_neg c45] at h
   by_cases c51:y14 = (5:Int)
   · rw [if_pos c51] at h
     obtain ⟨c52,h⟩:=ifS h
     have f53:((List.map TV.str y7.Sigs).all fun e => e.cells.length == 1 && e.pure) = true:=zdba (fun _ => rfl) _
     have f54:y7.Sigs.length ≤ maxLen:=by unfold maxLen; omega
     have f55:y7.Sigs.length * 16 ≤ 140737488355328:=by omega
     obtain ⟨c56,h⟩:=ifS h
     have f57:((List.map TV.str y7.Sigs).all fun e => e.cells.length == 1 && e.pure) = true:=zdba (fun _ => rfl) _
     have f58:y7.Sigs.length ≤ maxLen:=by unfold maxLen; omega
     have f59:y7.Sigs.length * 16 ≤ 140737488355328:=by omega
     have f60:y7.Sigs.length + y7.Sigs.length ≤ maxLen:=by unfold maxLen; omega
     have f61:((List.map TV.str y7.Sigs).all fun e => e.cells.length == 1) = true:=zbwj (fun _ => rfl) _
     have f62:List.map TV.str y7.Sigs ++ List.map TV.str y7.Sigs = List.map TV.str (y7.Sigs ++ y7.Sigs):=zb2w _ _
     obtain ⟨y63,hy63,h⟩:=ob h
     have k64:=lf (⟨y7.Lock,y7.Secret,y7.Path,(y7.Sigs ++ y7.Sigs)⟩:ah) _ hy63
     try simp only [CL] at k64
     by_cases c65:y63 = (⟨#[]⟩:ByteArray)
     · rw [if_pos c65] at h
       obtain ⟨y66,hy66,h⟩:=ob h
       have k67:=r8  _ hy66
       try simp only [CL,MC,reduceToNat] at k67
       injection h with h; subst h
       simp only [↓ma,jg,List.isEmpty_cons,ei,tD,pnK,kj,gq,List.filter_cons,List.filter_nil,List.filterMap_cons,List.filterMap_nil,bg,dg,mf,dm,Ins.dsts,Ins.looks,I.ops,pt,ta,List.all_cons,List.all_nil,List.any_cons,List.any_nil,List.contains_cons,List.contains_nil,List.nil_append,List.cons_append,Option.toList_some,Option.isSome_some,Option.isSome_none,Bool.and_true,Bool.true_and,Bool.and_false,Bool.or_false,Bool.not_false,and_true,true_and,and_false,Nat.reduceBEq,dh,TT,Ic.t,ci,reduceEqDiff,reduceAdd,reduceLT,reduceLeDiff,reduceCtorEq,hl,k2,k4,k6,k8,k10,eq_true c11,k13,k15,c16,c22,c28,c39,c45,eq_true c51,c52,f53,f54,c56,f60,f61,f62,k64,eq_true c65,k67]
       exact hK
     rw [if_neg c65] at h
     injection h with h; subst h
     simp only [↓ma,jg,List.isEmpty_cons,ei,tD,pnK,kj,gq,List.filter_cons,List.filter_nil,List.filterMap_cons,List.filterMap_nil,bg,dg,mf,dm,Ins.dsts,Ins.looks,I.ops,pt,ta,List.all_cons,List.all_nil,List.any_cons,List.any_nil,List.contains_cons,List.contains_nil,List.nil_append,List.cons_append,Option.toList_some,Option.isSome_some,Option.isSome_none,Bool.and_true,Bool.true_and,Bool.and_false,Bool.or_false,Bool.not_false,and_true,true_and,and_false,Nat.reduceBEq,dh,TT,Ic.t,ci,reduceEqDiff,reduceAdd,reduceLT,reduceLeDiff,reduceCtorEq,hl,k2,k4,k6,k8,k10,eq_true c11,k13,k15,c16,c22,c28,c39,c45,eq_true c51,c52,f53,f54,c56,f60,f61,f62,k64,c65]
     exact hK
   rw [if_neg c51] at h
   obtain ⟨c68,h⟩:=ifS h
   obtain ⟨c69,h⟩:=ifS h
   obtain ⟨c70,h⟩:=ifS h
   have f71:(IntKind.i64.wrap ((512:Int) + (IntKind.i64.wrap ((1:Int) + y12)))) ≤ 9223372036854775807:=by omega
   have f72:Option.map (fun bs => TV.str ⟨bs.toArray⟩) (wx (List.replicate (IntKind.i64.wrap ((512:Int) + (IntKind.i64.wrap ((1:Int) + y12)))).toNat (zac6 [TV.int .u8 0]))) = some (TV.str (yu (List.replicate (IntKind.i64.wrap ((512:Int) + (IntKind.i64.wrap ((1:Int) + y12)))).toNat (0:Int)))):=by rw [show zac6 [TV.int .u8 0] = TV.int .u8 0 from rfl,show List.replicate (IntKind.i64.wrap ((512:Int) + (IntKind.i64.wrap ((1:Int) + y12)))).toNat (TV.int .u8 0) = List.map (TV.int .u8) (List.replicate (IntKind.i64.wrap ((512:Int) + (IntKind.i64.wrap ((1:Int) + y12)))).toNat (0:Int)) from List.map_replicate.symm,zb9q]; rfl
   obtain ⟨y73,hy73,h⟩:=ob h
   have k74:=lf (⟨y7.Lock,y7.Secret,y7.Path,[(yu (List.replicate (IntKind.i64.wrap ((512:Int) + (IntKind.i64.wrap ((1:Int) + y12)))).toNat (0:Int)))]⟩:ah) _ hy73
   try simp only [CL,MC] at k74
   by_cases c75:y73 = (⟨#[]⟩:ByteArray)
   · rw [if_pos c75] at h
     obtain ⟨y76,hy76,h⟩:=ob h
     have k77:=r8  _ hy76
     try simp only [CL,MC,reduceToNat] at k77
     injection h with h; subst h
     simp only [↓ma,jg,List.isEmpty_cons,ei,tD,pnK,kj,gq,List.filter_cons,List.filter_nil,List.filterMap_cons,List.filterMap_nil,bg,dg,mf,dm,Ins.dsts,Ins.looks,I.ops,pt,ta,List.all_cons,List.all_nil,List.any_cons,List.any_nil,List.contains_cons,List.contains_nil,List.nil_append,List.cons_append,Option.toList_some,Option.isSome_some,Option.isSome_none,Bool.and_true,Bool.true_and,Bool.and_false,Bool.or_false,Bool.not_false,and_true,true_and,and_false,Nat.reduceBEq,dh,TT,Ic.t,ci,reduceEqDiff,reduceAdd,reduceLT,reduceLeDiff,reduceCtorEq,hl,k2,k4,k6,k8,k10,eq_true c11,k13,k15,c16,c22,c28,c39,c45,c51,c68,c69,c70,f71,f72,k74,eq_true c75,k77]
     exact hK
   rw [if_neg c75] at h
   injection h with h; subst h
   simp only [↓ma,jg,List.isEmpty_cons,ei,tD,pnK,kj,gq,List.filter_cons,List.filter_nil,List.filterMap_cons,List.filterMap_nil,bg,dg,mf,dm,Ins.dsts,Ins.looks,I.ops,pt,ta,List.all_cons,List.all_nil,List.any_cons,List.any_nil,List.contains_cons,List.contains_nil,List.nil_append,List.cons_append,Option.toList_some,Option.isSome_some,Option.isSome_none,Bool.and_true,Bool.true_and,Bool.and_false,Bool.or_false,Bool.not_false,and_true,true_and,and_false,Nat.reduceBEq,dh,TT,Ic.t,ci,reduceEqDiff,reduceAdd,reduceLT,reduceLeDiff,reduceCtorEq,hl,k2,k4,k6,k8,k10,eq_true c11,k13,k15,c16,c22,c28,c39,c45,c51,c68,c69,c70,f71,f72,k74,c75]
   exact hK
 rw [if_neg c11] at h
 injection h with h; subst h
 simp only [↓ma,List.all_cons,List.all_nil,and_true,true_and,dh,TT,Ic.t,ci,reduceEqDiff,reduceAdd,reduceCtorEq,hl,k2,k4,k6,k8,k10,c11]
 exact hK
open Go Go.RowKit Sh Ic
end Go.Proofs.Ytjgpklmkdkkooaa

