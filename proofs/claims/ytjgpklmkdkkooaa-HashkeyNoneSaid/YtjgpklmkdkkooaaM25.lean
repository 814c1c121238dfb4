import Derived.Test.YtjgpklmkdkkooaaD5
import Derived.IntWalk
set_option linter.unusedVariables false
set_option linter.unusedSimpArgs false
set_option linter.unusedSectionVars false
open Nat (reduceEqDiff reduceAdd reduceMul reduceLT reduceLeDiff reduceSub)
open Int (reduceToNat reduceNe reduceEq reduceNeg reduceLE)
namespace Go.Proofs.Ytjgpklmkdkkooaa
open Go Go.RowKit Sh Ic
noncomputable def up (p1:Int):Option ByteArray :=
 ss p1 8 ((8:Nat):Int) (List.replicate 8 (0:Int)) (0:Int) >>= fun y3 =>
 if y3.length = 8 then
  some (yu y3)
 else
  none
theorem zdaz (p1:Int) (r:ByteArray) (h:up p1 = some r) (τ:TH) (hl:τ.lock ≤ τ.next):Ru G uv [.int .i64 p1] τ (.str r) τ:=by
 refine gp fun K hK => ?_
 rw [bc zdcz (Nat.le_of_ble_eq_true rfl)]
 unfold up at h
 have f1:(8:Int) * ((1:Nat):Int) ≤ 140737488355328:=by decide
 have f2:(List.replicate 8 [.int .u8 (0:Int)]).flatten = List.map (TV.int .u8) (List.replicate 8 (0:Int)):=zco7 (enc:=(TV.int .u8)) _ _
 obtain ⟨y3,hy3,h⟩:=ob h
 simp -implicitDefEqProofs only [zcev,TT,Ic.t,ci,reduceEqDiff,reduceCtorEq,reduceToNat,reduceLE,f1,f2]
 have Sy3:=zdj7 p1 8 ((8:Nat):Int) (List.replicate 8 (0:Int)) (0:Int) y3 hy3
 unfold zcf0 at Sy3
 refine Sy3 _ τ.next (by simp only [ak,aq]; omega) (by simp -implicitDefEqProofs only [TT]; done) (by simp only [ak]; omega) (by assumption) _ ?_
 intro frq4 tkq4 τq4 g3q4 htq4 hcq4
 have hcq4:=dp (n:=τ.next + 1) hcq4 (by simp only [ak]; omega)
 try simp only [List.take_zero] at htq4
 try simp -implicitDefEqProofs only [TT] at hcq4
 obtain ⟨c5,h⟩:=ifS h
 have f6:8 ≤ y3.length:=Nat.le_of_eq (Eq.symm c5)
 have f7:List.take 8 (List.map (TV.int .u8) y3) = List.map (TV.int .u8) y3:=zb9f c5
 injection h with h; subst h
 simp -implicitDefEqProofs only [TT,Ic.t,reduceLT,g3q4,hcq4,f6,f7,LTN]
 exact hK
theorem zcfd (p1:Int) (r:ByteArray) (h:up p1 = some r) (lk:Bool) (d:Option Nat) (K:ap) (fr:TF) (tk:TK) (τ:TH) (hl:τ.lock ≤ τ.next):du G lk uv [.int .i64 p1] d K fr tk τ = K (fp fr d (.str r)) tk τ :=
 au (zdaz p1 r h τ  hl) (zdaz p1 r h (τ.locked τ.next)  (Nat.le_refl _) ) (by simp -implicitDefEqProofs only [TT])
noncomputable def xk (p1:ByteArray):Option ByteArray :=
 up ((p1.size:Nat):Int) >>= fun y1 =>
 if ¬ (9223372036854775807 < ((y1.size + p1.size:Nat):Int)) then
  some (y1 ++ p1)
 else
  none
theorem zcyg (p1:ByteArray) (r:ByteArray) (h:xk p1 = some r) (τ:TH) (hl:τ.lock ≤ τ.next):Ru G x6 [.str p1] τ (.str r) τ:=by
 refine gp fun K hK => ?_
 rw [bc zdd9 (Nat.le_of_ble_eq_true rfl)]
 unfold xk at h
 obtain ⟨y1,hy1,h⟩:=ob h
 have k2:=zcfd ((p1.size:Nat):Int) _ hy1
 try simp only [CL,MC,reduceToNat] at k2
 obtain ⟨c3,h⟩:=ifS h
 injection h with h; subst h
 simp -implicitDefEqProofs only [zdd2,TT,Ic.t,reduceEqDiff,reduceCtorEq,hl,k2,c3]
 exact hK
theorem zcyf (p1:ByteArray) (r:ByteArray) (h:xk p1 = some r) (lk:Bool) (d:Option Nat) (K:ap) (fr:TF) (tk:TK) (τ:TH) (hl:τ.lock ≤ τ.next):du G lk x6 [.str p1] d K fr tk τ = K (fp fr d (.str r)) tk τ :=
 au (zcyg p1 r h τ  hl) (zcyg p1 r h (τ.locked τ.next)  (Nat.le_refl _) ) (by simp -implicitDefEqProofs only [TT])
noncomputable def fo (v0:ah) (v2:(List Int)) (v3:Int) (v1:ByteArray) (v4:Int):Option (LS (ByteArray × Int) (ByteArray)) :=
 if v4 < v3 then
  ixL v2 v4 >>= fun y2 =>
  up y2 >>= fun y4 =>
  if v1.size + y4.size ≤ 140737488355328 then
   some (.nx ((v1 ++ y4),(IntKind.i64.wrap (v4 + (1:Int)))))
  else
   none
 else
 some (.dn v1)
noncomputable def l7 (v0:ah) (v2:(List Int)) (v3:Int) (v1:ByteArray) (v4:Int):Option (ByteArray):=oq (fun st => fo v0 v2 v3 st.1 st.2) (v1,v4)
theorem zc58 (v0:ah) (v2:(List Int)) (v3:Int) (v1:ByteArray) (v4:Int):l7 v0 v2 v3 v1 v4 = fo v0 v2 v3 v1 v4 >>= LS.go (fun st => l7 v0 v2 v3 st.1 st.2):=ew (fun st => fo v0 v2 v3 st.1 st.2) (v1,v4)
def tf (v0:ah) (v2:(List Int)) (v3:Int) (v1:ByteArray) (v4:Int) (r:ByteArray):Prop:=∀ (τ:TH) (o0:Nat) (o1:Nat) (hl:τ.lock ≤ τ.next) (ha0:τ.at o0 = some ⟨d8,v0.cells⟩) (hi0:o0 < τ.next) (ub1:Bool) (hub1:ub1 = true ∨ v1.size = 0) (ha1:τ.at o1 = some (a8 o1 ub1 v1)) (hi1:o1 < τ.next) (hw1:τ.lock ≤ o1) (hn0_1:o0 ≠ o1) (Q:TEx → ap) (hQ0:∀ (fr:TF) (tk2:TK) (τ2:TH),∀ (ubx1:Bool),(ubx1 = true ∨ r.size = 0) → lkp fr 1 = .ptr o0 0 → lkp fr 3 = .ptr o1 0 → tk2.take 0 = [] → τ2.cut τ.next = (τ.put o1 (a8 o1 ubx1 r)) → Q (.exit 0) fr tk2 τ2) ,tW G (.loop [1,3,25,26,27] yj) Q [(1,.ptr o0 0),(3,.ptr o1 0),(25,.sl (List.map (TV.int .i64) v2)),(26,.int .i64 v3),(27,.int .i64 v4)] [] τ
theorem zdge (v0:ah) (v2:(List Int)) (v3:Int) (v1:ByteArray) (v4:Int) (r:ByteArray) (h:l7 v0 v2 v3 v1 v4 = some r):tf v0 v2 v3 v1 v4 r:=by
 refine di (f:=fun st => fo v0 v2 v3 st.1 st.2) (P:=fun st r => ∀ (v1:ByteArray) (v4:Int),(v1,v4) = st → tf v0 v2 v3 v1 v4 r) ?_ h v1 v4 rfl
 clear h r v4 v1
 intro st o h r ih v1 v4 hst τ o0 o1  hl ha0 hi0 ub1 hub1 ha1 hi1 hw1 hn0_1 Q hQ0
 subst hst
 have h:fo v0 v2 v3 v1 v4 = some o:=h
 unfold fo at h
 refine mo fun LQ hn hr he => ?_
 by_cases c1:v4 < v3
 · rw [if_pos c1] at h
   obtain ⟨y2,hy2,h⟩:=ob h
   have f3:=av hy2
   have f3a:=(f3.2.2 (TV.int .i64)).1
   have f3b:=(f3.2.2 (TV.int .i64)).2
   try simp only [CL,MC,reduceToNat] at f3 f3a f3b
   obtain ⟨y4,hy4,h⟩:=ob h
   have k5:=zcfd y2 _ hy4
   try simp only [CL,MC,reduceToNat] at k5
   obtain ⟨c6,h⟩:=ifS h
   have k7:=fun (id:Nat) (d:Option Nat) (K:ap) (fr:TF) (tk:TK) (τ:TH) (ha:τ.at id = some (a8 id ub1 v1)) (hi:id < τ.next) (hw:τ.lock ≤ id) (hl:τ.lock ≤ τ.next) => yn v1 id ub1 d K fr tk τ ha hi hw hl (by assumption) y4 c6
   injection h with h; subst h
   have ih:=ih (v1 ++ y4) (IntKind.i64.wrap (v4 + (1:Int))) rfl
   unfold tf at ih
   simp -implicitDefEqProofs only [yj,nw,TT,Ic.t,ci,reduceEqDiff,hl,hi0,ha1,hi1,hw1,c1,f3.1,f3.2.1,f3a,k5,k7]
   rw [hn]
   simp -implicitDefEqProofs only [TT,reduceEqDiff,hi0,hi1]
   exact ih  (τ.put o1 (a8 o1 true (v1 ++ y4))) o0 o1   (by simp only [aa,ag]; assumption) (by simp -implicitDefEqProofs only [TT,ha0,nq hn0_1,CL]) (by simp only [aa]; assumption) true (by exact .inl rfl) (by simp -implicitDefEqProofs only [TT,hi1]) (by simp only [aa]; assumption) (by assumption) hn0_1 Q (fun fr tk2 τ2 w1 w1' g0 g1 ht hτ => hQ0 fr tk2 τ2 w1 w1' g0 g1 ht (by simpa only [aa,rf,hl,ha0,hi0,bu,ha1,hi1,hw1,nq hn0_1] using hτ))
 rw [if_neg c1] at h
 injection h with h; subst h
 obtain rfl:_ = r:=ih
 simp -implicitDefEqProofs only [yj,nw,TT,Ic.t,ci,reduceEqDiff,reduceCtorEq,he,c1]
 exact hQ0  _ _ _ ub1 (by assumption) (by rfl) (by rfl) (by rfl) (by simp -implicitDefEqProofs only [TT,jj ha1])
noncomputable def fk (v1:(List ByteArray)) (v2:Int) (v0:ByteArray) (v3:Int):Option (LS (ByteArray × Int) (ByteArray)) :=
 if v3 < v2 then
  ixL v1 v3 >>= fun y2 =>
  xk y2 >>= fun y4 =>
  if v0.size + y4.size ≤ 140737488355328 then
   some (.nx ((v0 ++ y4),(IntKind.i64.wrap (v3 + (1:Int)))))
  else
   none
 else
 some (.dn v0)
noncomputable def l6 (v1:(List ByteArray)) (v2:Int) (v0:ByteArray) (v3:Int):Option (ByteArray):=oq (fun st => fk v1 v2 st.1 st.2) (v0,v3)
theorem zc59 (v1:(List ByteArray)) (v2:Int) (v0:ByteArray) (v3:Int):l6 v1 v2 v0 v3 = fk v1 v2 v0 v3 >>= LS.go (fun st => l6 v1 v2 st.1 st.2):=ew (fun st => fk v1 v2 st.1 st.2) (v0,v3)
def te (v1:(List ByteArray)) (v2:Int) (v0:ByteArray) (v3:Int) (r:ByteArray):Prop:=∀ (τ:TH) (o0:Nat) (hl:τ.lock ≤ τ.next) (ub0:Bool) (hub0:ub0 = true ∨ v0.size = 0) (ha0:τ.at o0 = some (a8 o0 ub0 v0)) (hi0:o0 < τ.next) (hw0:τ.lock ≤ o0) (Q:TEx → ap) (hQ0:∀ (fr:TF) (tk2:TK) (τ2:TH),∀ (ubx0:Bool),(ubx0 = true ∨ r.size = 0) → lkp fr 3 = .ptr o0 0 → tk2.take 0 = [] → τ2.cut τ.next = (τ.put o0 (a8 o0 ubx0 r)) → Q (.exit 2) fr tk2 τ2) ,tW G (.loop [3,36,37,38] yi) Q [(3,.ptr o0 0),(36,.sl (List.map TV.str v1)),(37,.int .i64 v2),(38,.int .i64 v3)] [] τ
theorem zdgf (v1:(List ByteArray)) (v2:Int) (v0:ByteArray) (v3:Int) (r:ByteArray) (h:l6 v1 v2 v0 v3 = some r):te v1 v2 v0 v3 r:=by
 refine di (f:=fun st => fk v1 v2 st.1 st.2) (P:=fun st r => ∀ (v0:ByteArray) (v3:Int),(v0,v3) = st → te v1 v2 v0 v3 r) ?_ h v0 v3 rfl
 clear h r v3 v0
 intro st o h r ih v0 v3 hst τ o0  hl ub0 hub0 ha0 hi0 hw0 Q hQ0
 subst hst
 have h:fk v1 v2 v0 v3 = some o:=h
 unfold fk at h
 refine mo fun LQ hn hr he => ?_
 by_cases c1:v3 < v2
 · rw [if_pos c1] at h
   obtain ⟨y2,hy2,h⟩:=ob h
   have f3:=av hy2
   have f3a:=(f3.2.2 TV.str).1
   have f3b:=(f3.2.2 TV.str).2
   try simp only [CL,MC,reduceToNat] at f3 f3a f3b
   obtain ⟨y4,hy4,h⟩:=ob h
   have k5:=zcyf y2 _ hy4
   try simp only [CL,MC,reduceToNat] at k5
   obtain ⟨c6,h⟩:=ifS h
   have k7:=fun (id:Nat) (d:Option Nat) (K:ap) (fr:TF) (tk:TK) (τ:TH) (ha:τ.at id = some (a8 id ub0 v0)) (hi:id < τ.next) (hw:τ.lock ≤ id) (hl:τ.lock ≤ τ.next) => yn v0 id ub0 d K fr tk τ ha hi hw hl (by assumption) y4 c6
   injection h with h; subst h
   have ih:=ih (v0 ++ y4) (IntKind.i64.wrap (v3 + (1:Int))) rfl
   unfold te at ih
   simp -implicitDefEqProofs only [yi,nw,TT,Ic.t,ci,reduceEqDiff,hl,ha0,hi0,hw0,c1,f3.1,f3.2.1,f3a,k5,k7]
   rw [hn]
   simp -implicitDefEqProofs only [TT,reduceEqDiff,hi0]
   exact ih  (τ.put o0 (a8 o0 true (v0 ++ y4))) o0   (by simp only [aa,ag]; assumption) true (by exact .inl rfl) (by simp -implicitDefEqProofs only [TT,hi0]) (by simp only [aa]; assumption) (by assumption) Q (fun fr tk2 τ2 w0 w0' g0 ht hτ => hQ0 fr tk2 τ2 w0 w0' g0 ht (by simpa only [aa,rf,hl,bu,ha0,hi0,hw0] using hτ))
 rw [if_neg c1] at h
 injection h with h; subst h
 obtain rfl:_ = r:=ih
 simp -implicitDefEqProofs only [yi,nw,TT,Ic.t,ci,reduceEqDiff,reduceCtorEq,he,c1]
 exact hQ0  _ _ _ ub0 (by assumption) (by rfl) (by rfl) (by simp -implicitDefEqProofs only [TT,jj ha0])
noncomputable def ep (p1:ah):Option ByteArray :=
 ia p1 >>= fun y1 =>
 if y1 = true then
  up p1.Lock >>= fun y4 =>
  xk p1.Secret >>= fun y6 =>
  if ¬ (9223372036854775807 < ((y4.size + y6.size:Nat):Int)) then
   up ((p1.Path.length:Nat):Int) >>= fun y9 =>
   if ¬ (9223372036854775807 < (((y4 ++ y6).size + y9.size:Nat):Int)) then
    if ((y4 ++ y6) ++ y9).size ≤ 140737488355328 then
     l7 p1 p1.Path ((p1.Path.length:Nat):Int) ((y4 ++ y6) ++ y9) (0:Int) >>= fun y14 =>
     l6 p1.Sigs ((p1.Sigs.length:Nat):Int) y14 (0:Int) >>= fun y16 =>
     if y16.size ≤ 140737488355328 then
      some y16
     else
      none
    else
     none
   else
    none
  else
   none
 else
 some (⟨#[]⟩:ByteArray)
theorem zc2t (p1:ah) (r:ByteArray) (h:ep p1 = some r) (τ:TH) (hl:τ.lock ≤ τ.next):Ru G qj [.agg p1.cells] τ (.str r) τ:=by
 refine gp fun K hK => ?_
 rw [bc zdje (Nat.le_of_ble_eq_true rfl)]
 unfold ep at h
 obtain ⟨y1,hy1,h⟩:=ob h
 have k2:=zdju p1 _ hy1
 try simp only [CL] at k2
 by_cases c3:y1 = true
 · rw [if_pos c3] at h
   obtain ⟨y4,hy4,h⟩:=ob h
   have k5:=zcfd p1.Lock _ hy4
   try simp only [CL,MC,reduceToNat] at k5
   obtain ⟨y6,hy6,h⟩:=ob h
   have k7:=zcyf p1.Secret _ hy6
   try simp only [CL,MC,reduceToNat] at k7
   obtain ⟨c8,h⟩:=ifS h
   obtain ⟨y9,hy9,h⟩:=ob h
   have k10:=zcfd ((p1.Path.length:Nat):Int) _ hy9
   try simp only [CL,MC,reduceToNat] at k10
   obtain ⟨c11,h⟩:=ifS h
   obtain ⟨c12,h⟩:=ifS h
   have k13:=fun (id:Nat) (d:Option Nat) (K:ap) (fr:TF) (tk:TK) (τ:TH) (ha:τ.at id = some (a8 id false ⟨#[]⟩)) (hi:id < τ.next) (hw:τ.lock ≤ id) (hl:τ.lock ≤ τ.next) => zcxo id d K fr tk τ ha hi hw hl ((y4 ++ y6) ++ y9) c12
   obtain ⟨y14,hy14,h⟩:=ob h
   simp -implicitDefEqProofs only [nw,TT,Ic.t,ci,reduceEqDiff,reduceAdd,reduceLT,reduceCtorEq,hl,k2,c3,k5,k7,c8,k10,c11,k13,bu,CL]
   have Sy14:=zdge p1 p1.Path ((p1.Path.length:Nat):Int) ((y4 ++ y6) ++ y9) (0:Int) y14 hy14
   unfold tf at Sy14
   refine Sy14 _ τ.next (τ.next + 1) (by simp only [ak,aq]; omega) (by simp -implicitDefEqProofs only [TT,reduceLT,CL]) (by simp only [ak]; omega) true (by exact .inl rfl) (by simp -implicitDefEqProofs only [TT]) (by simp only [ak]; omega) (by simp only [aq]; omega) (by omega) _ ?_
   intro frq15 tkq15 τq15 ubz15_1 huubz15_1 g1q15 g3q15 htq15 hcq15
   have hcq15:=dp (n:=τ.next + 2) hcq15 (by simp only [ak]; omega)
   try simp only [List.take_zero] at htq15
   try simp -implicitDefEqProofs only [TT,reduceAdd] at hcq15
   obtain ⟨y16,hy16,h⟩:=ob h
   simp -implicitDefEqProofs only [TT,Ic.t,reduceEqDiff,reduceAdd,reduceLT,g1q15,g3q15,hcq15]
   have Sy16:=zdgf p1.Sigs ((p1.Sigs.length:Nat):Int) y14 (0:Int) y16 hy16
   unfold te at Sy16
   refine Sy16 _ (τ.next + 1) (by simp only [ak,aq]; omega) ubz15_1 (by assumption) (by simp -implicitDefEqProofs only [TT]) (by simp only [ak]; omega) (by simp only [aq]; omega) _ ?_
   intro frq17 tkq17 τq17 ubz17_0 huubz17_0 g3q17 htq17 hcq17
   have hcq17:=dp (n:=τ.next + 2) hcq17 (by simp only [ak]; omega)
   try simp only [List.take_zero] at htq17
   try simp -implicitDefEqProofs only [TT,reduceAdd] at hcq17
   obtain ⟨c18,h⟩:=ifS h
   have k19:=fun (id:Nat) (d:Option Nat) (K:ap) (fr:TF) (tk:TK) (τ:TH) (ha:τ.at id = some (a8 id ubz17_0 y16)) (hi:id < τ.next) (hw:τ.lock ≤ id) (hl:τ.lock ≤ τ.next) => zcgn y16 id ubz17_0 d K fr tk τ ha hi hw hl (by assumption) c18
   injection h with h; subst h
   simp -implicitDefEqProofs only [TT,Ic.t,reduceAdd,reduceLT,hl,g3q17,hcq17,k19]
   first | exact hK | (simp only [hl,k2,c3,k5,k7,c8,k10,c11,c12,k13,bu,bu,g1q15,g3q15,htq15,hcq15,bu,g3q17,htq17,hcq17,c18,k19,bu,CL] at hK; exact hK)
 rw [if_neg c3] at h
 have c3:=Bool.eq_false_iff.2 c3
 injection h with h; subst h
 simp -implicitDefEqProofs only [nw,TT,Ic.t,ci,reduceEqDiff,reduceAdd,reduceLT,reduceCtorEq,hl,k2,c3,CL]
 first | exact hK | (simp only [hl,k2,c3,CL] at hK; exact hK)
theorem lf (p1:ah) (r:ByteArray) (h:ep p1 = some r) (lk:Bool) (d:Option Nat) (K:ap) (fr:TF) (tk:TK) (τ:TH) (hl:τ.lock ≤ τ.next):du G lk qj [.agg p1.cells] d K fr tk τ = K (fp fr d (.str r)) tk τ :=
 au (zc2t p1 r h τ  hl) (zc2t p1 r h (τ.locked τ.next)  (Nat.le_refl _) ) (by simp -implicitDefEqProofs only [TT,CL])
noncomputable def xw (p1:Int) (p2:Int):Option Int :=
 if ¬ p2 = 0 then
  if (Int.tmod p1 p2) < (0:Int) then
   some (IntKind.i64.wrap ((Int.tmod p1 p2) + p2))
  else
  some (Int.tmod p1 p2)
 else
  none
theorem zdax (p1:Int) (p2:Int) (r:Int) (h:xw p1 p2 = some r) (τ:TH) (hl:τ.lock ≤ τ.next):Ru G x7 [.int .i64 p1,.int .i64 p2] τ (.int .i64 r) τ:=by
 refine gp fun K hK => ?_
 rw [bc zddg (Nat.le_of_ble_eq_true rfl)]
 unfold xw at h
 obtain ⟨c1,h⟩:=ifS h
 by_cases c2:(Int.tmod p1 p2) < (0:Int)
 · rw [if_pos c2] at h
   injection h with h; subst h
   simp -implicitDefEqProofs only [zc7e,TT,Ic.t,ci,reduceEqDiff,reduceAdd,reduceCtorEq,c1,c2]
   exact hK
 rw [if_neg c2] at h
 injection h with h; subst h
 simp -implicitDefEqProofs only [zc7e,TT,Ic.t,ci,reduceEqDiff,reduceAdd,reduceCtorEq,c1,c2]
 exact hK
theorem zc2g (p1:Int) (p2:Int) (r:Int) (h:xw p1 p2 = some r) (lk:Bool) (d:Option Nat) (K:ap) (fr:TF) (tk:TK) (τ:TH) (hl:τ.lock ≤ τ.next):du G lk x7 [.int .i64 p1,.int .i64 p2] d K fr tk τ = K (fp fr d (.int .i64 r)) tk τ :=
 au (zdax p1 p2 r h τ  hl) (zdax p1 p2 r h (τ.locked τ.next)  (Nat.le_refl _) ) (by simp -implicitDefEqProofs only [TT])
noncomputable def vk (p1:Int):Option Bool :=
 some true
theorem zc1m (p1:Int) (r:Bool) (h:vk p1 = some r) (τ:TH) (hl:τ.lock ≤ τ.next):Ru G lx [.int .i64 p1] τ (.bool r) τ:=by
 refine gp fun K hK => ?_
 rw [bc zdf7 (Nat.le_of_ble_eq_true rfl)]
 unfold vk at h
 injection h with h; subst h
 simp -implicitDefEqProofs only [zdft,TT]
 exact hK
theorem zdki (p1:Int) (r:Bool) (h:vk p1 = some r) (lk:Bool) (d:Option Nat) (K:ap) (fr:TF) (tk:TK) (τ:TH) (hl:τ.lock ≤ τ.next):du G lk lx [.int .i64 p1] d K fr tk τ = K (fp fr d (.bool r)) tk τ :=
 au (zc1m p1 r h τ  hl) (zc1m p1 r h (τ.locked τ.next)  (Nat.le_refl _) ) (by simp -implicitDefEqProofs only [TT])
end Go.Proofs.Ytjgpklmkdkkooaa
open Nat (reduceEqDiff reduceAdd reduceLT)
open Int (reduceToNat reduceEq)
namespace Go.Proofs.Ytjgpklmkdkkooaa
open Go Go.RowKit Sh Ic
theorem reW {n:Int} (h1:-9223372036854775808 ≤ n) (h2:n ≤ 9223372036854775807):IntKind.i64.wrap n = n:=IntWalk.i64_in n ⟨h1,h2⟩
def reX (back:Bool) (a:ac):Int:=if back = true then a.To else a.From
def reY (back:Bool) (a:ac):Int:=if back = true then a.From else a.To
def reA (back:Bool) (v:Int) (p:Int → Option Bool):List ac → List Bool → List Int → Option (List Bool × List Int)
 | [],ra,todo => some (ra,todo)
 | a :: r,ra,todo =>
  if reX back a = v then
   ixL ra (reY back a) >>= fun b =>
   if b = true then reA back v p r ra todo else
   p (reY back a) >>= fun t =>
   if t = true then (if todo.length < 1000000 then reA back v p r (ra.set (reY back a).toNat true) (todo ++ [reY back a]) else none)
   else reA back v p r ra todo
  else reA back v p r ra todo
def reS (back:Bool) (p:Int → Option Bool) (A:List ac) (st:List Bool × List Int):Option (LS (List Bool × List Int) (List Bool)) :=
 if 0 < st.2.length then
  if st.2.length < 2000000 then
   ixL st.2 ((st.2.length - 1:Nat):Int) >>= fun v =>
   reA back v p A st.1 (st.2.take (st.2.length - 1)) >>= fun st' => some (.nx st')
  else none
 else some (.dn st.1)
noncomputable def reF (s:af) (o:Int) (back:Bool) (p:Int → Option Bool):Option (List Bool) :=
 if s.Parties.length < 1000000 ∧ s.Arcs.length < 1000000 then oq (reS back p s.Arcs) (List.replicate s.Parties.length false,[o]) else none
def zcgr (s:af):Ob:=⟨bh,s.cells⟩
def zb2q (l:List Bool):Ob:=⟨zcdp,l.map TV.bool⟩
def zb8z (l:List Int):Ob:=⟨jy,l.map (TV.int .i64)⟩
theorem ru {τ:TH} {b:Ob}:(τ.push b).next = τ.next + 1:=by show (τ.o ++ [b]).length = _; simp [TH.next]
theorem sn {τ:TH} {b:Ob} {id:Nat}:(τ.put id b).next = τ.next:=by show (τ.o.set id b).length = _; simp [TH.next]
theorem zces {τ:TH} {b:Ob}:(τ.push b).at τ.next = some b:=by
 show (τ.o ++ [b])[τ.o.length]? = some b
 simp
theorem sp {τ:TH} {b:Ob} {id:Nat} (h:id < τ.next):(τ.push b).at id = τ.at id:=by
 show (τ.o ++ [b])[id]? = τ.o[id]?
 exact List.getElem?_append_left h
theorem zbs4 {τ:TH} {b:Ob} {id:Nat} (h:id < τ.next):(τ.put id b).at id = some b:=by
 show (τ.o.set id b)[id]? = some b
 exact List.getElem?_set_self h
theorem zb7x {τ:TH} {b:Ob} {id k:Nat} (h:¬ id = k):(τ.put id b).at k = τ.at k:=by
 show (τ.o.set id b)[k]? = τ.o[k]?
 exact List.getElem?_set_ne h
theorem zb9o {τ:TH} {n id:Nat} (h:id < n):(τ.cut n).at id = τ.at id:=by
 show (τ.o.take n)[id]? = τ.o[id]?
 exact List.getElem?_take_of_lt h
structure RI (τ0:TH) (s:af) (np:Nat) (ra:List Bool) (todo junk:List Int) (id:Nat) (τ:TH):Prop where
 lock:τ.lock = τ0.lock
 cut:τ.cut τ0.next = τ0
 o4:τ.at τ0.next = some (zcgr s)
 o9:τ.at (τ0.next + 1) = some (zb2q ra)
 lo:τ0.next + 2 ≤ id
 hi:id < τ.next
 o10:τ.at id = some (zb8z (todo ++ junk))
 ne:todo ++ junk ≠ []
 ln:ra.length = np
section
variable {τ0 τ:TH} {s:af} {np:Nat} {ra:List Bool} {todo junk:List Int} {id:Nat}
theorem RI.next (h:RI τ0 s np ra todo junk id τ):τ0.next + 2 < τ.next:=by have:=h.lo; have:=h.hi; omega
theorem zb4f {τ:TH} {b:Ob} {n:Nat} (h:n ≤ τ.next):(τ.push b).cut n = τ.cut n:=by
 show TH.mk ((τ.o ++ [b]).take n) τ.lock = TH.mk (τ.o.take n) τ.lock
 rw [List.take_append_of_le_length h]
theorem zcub {τ:TH} {b:Ob} {n k:Nat} (h:n ≤ k):(τ.put k b).cut n = τ.cut n:=by
 show TH.mk ((τ.o.set k b).take n) τ.lock = TH.mk (τ.o.take n) τ.lock
 rw [List.take_set_of_le h]
theorem RI.push (h:RI τ0 s np ra todo junk id τ) (b:Ob):RI τ0 s np ra todo junk id (τ.push b):=by
 have hn:=h.next
 exact ⟨h.lock,by rw [zb4f (by omega)]; exact h.cut,by rw [sp (by omega)]; exact h.o4,by rw [sp (by omega)]; exact h.o9,h.lo,by rw [ru]; exact Nat.lt_succ_of_lt h.hi,by rw [sp h.hi]; exact h.o10,h.ne,h.ln⟩
theorem RI.cutN (h:RI τ0 s np ra todo junk id τ) {n:Nat} (hn:id < n):RI τ0 s np ra todo junk id (τ.cut n):=by
 have h1:=h.lo
 refine ⟨h.lock,?_,by rw [zb9o (by omega)]; exact h.o4,by rw [zb9o (by omega)]; exact h.o9,h1,?_,by rw [zb9o hn]; exact h.o10,h.ne,h.ln⟩
 · rw [zb3q (by omega)]; exact h.cut
 · have:=h.hi
   show id < (τ.o.take n).length
   rw [List.length_take]
   have e:τ.next = τ.o.length:=rfl
   omega
theorem RI.see (h:RI τ0 s np ra todo junk id τ) (k:Nat):RI τ0 s np (ra.set k true) todo junk id (τ.put (τ0.next + 1) (zb2q (ra.set k true))):=by
 have hn:=h.next
 have h1:=h.lo
 exact ⟨h.lock,by rw [zcub (by omega)]; exact h.cut,by rw [zb7x (by omega)]; exact h.o4,by rw [zbs4 (by omega)],h1,by rw [sn]; exact h.hi,by rw [zb7x (by omega)]; exact h.o10,h.ne,by rw [List.length_set]; exact h.ln⟩
theorem RI.add (h:RI τ0 s np ra todo junk id τ) (y:Int):RI τ0 s np ra (todo ++ [y]) [] τ.next ((τ.put id ⟨jy,[]⟩).push (zb8z (todo ++ [y]))):=by
 have hn:=h.next
 have h1:=h.lo
 refine ⟨h.lock,?_,?_,?_,by omega,?_,?_,by simp,h.ln⟩
 · rw [zb4f (by rw [sn]; omega),zcub (by omega)]; exact h.cut
 · rw [sp (by rw [sn]; omega),zb7x (by omega)]; exact h.o4
 · rw [sp (by rw [sn]; omega),zb7x (by omega)]; exact h.o9
 · rw [ru,sn]; omega
 · have:=zces (τ:=τ.put id ⟨jy,[]⟩) (b:=zb8z (todo ++ [y]))
   rw [sn] at this
   rw [List.append_nil]; exact this
theorem RI.drop (h:RI τ0 s np ra todo junk id τ) (k:Nat):RI τ0 s np ra (todo.take k) (todo.drop k ++ junk) id τ :=
 ⟨h.lock,h.cut,h.o4,h.o9,h.lo,h.hi,by rw [← List.append_assoc,List.take_append_drop]; exact h.o10,by rw [← List.append_assoc,List.take_append_drop]; exact h.ne,h.ln⟩
end
def zcn0 (τ0:TH) (f:FuncId) (b:List TV) (p:Int → Option Bool):Prop :=
 (∀ n,τ0.next ≤ n → ju n b = true ∧ ltL n 0 b = true) ∧ ∀ (v:Int) (r:Bool),p v = some r → ∀ (lk:Bool) (d:Option Nat) (K:ap) (fr:TF) (tk:TK) (τ:TH),τ.lock = τ0.lock → τ0.next ≤ τ.next → τ.cut τ0.next = τ0 → du G lk f (.int .i64 v :: b) d K fr tk τ = K (fp fr d (.bool r)) tk τ
set_option maxHeartbeats 1000000 in
theorem zb5m (τ0:TH) (hl0:τ0.lock ≤ τ0.next) (s:af) (np:Nat) (hnp:np < 1000000) (back:Bool) (f:FuncId) (b:List TV) (p:Int → Option Bool) (hf:zcn0 τ0 f b p) (v:Int) (A:List ac) (hA:A.length < 1000000) (Q:TEx → ap) (seen':List Bool) (todo':List Int) (m:Nat) :
 ∀ (i:Nat) (ra:List Bool) (todo junk:List Int) (id:Nat) (τ:TH),m + i = A.length → RI τ0 s np ra todo junk id τ → reA back v p (A.drop i) ra todo = some (seen',todo') →
 (∀ junk id τ,RI τ0 s np seen' todo' junk id τ → Q (.exit 2) [(2,.bool back),(3,.func f [] b),(4,.ptr τ0.next 0),(9,.slm (τ0.next + 1) 0 np 1),(10,.slm id 0 todo'.length 1),(12,.int .i64 v),(37,.sl (A.map ac.tv)),(38,.int .i64 A.length),(39,.int .i64 A.length),(40,.bool false)] [] τ) →
 tW G (.loop [2,3,4,9,10,12,37,38,39] iq) Q [(2,.bool back),(3,.func f [] b),(4,.ptr τ0.next 0),(9,.slm (τ0.next + 1) 0 np 1),(10,.slm id 0 todo.length 1),(12,.int .i64 v),(37,.sl (A.map ac.tv)),(38,.int .i64 A.length),(39,.int .i64 (i:Int))] [] τ:=by
 induction m with
 | zero =>
  intro i ra todo junk id τ hi hI hr hQ
  obtain rfl:i = A.length:=by omega
  have c:¬ ((A.length:Nat):Int) < ((A.length:Nat):Int):=by omega
  rw [List.drop_of_length_le (Nat.le_refl _)] at hr
  injection hr with hr
  injection hr with h1 h2
  subst h1 h2
  refine mo fun LQ hnx hr he => ?_
  simp -implicitDefEqProofs only [iq,ie,TT,Ic.t,ci,reduceEqDiff,reduceAdd,reduceCtorEq,c,he]
  exact hQ _ _ _ hI
 | succ m ih =>
  intro i ra todo junk id τ hi hI hr hQ
  have hin:i < A.length:=by omega
  have c:(i:Int) < ((A.length:Nat):Int):=by omega
  have w1:IntKind.i64.wrap ((i:Int) + 1) = ((i + 1:Nat):Int):=by rw [reW (by omega) (by omega)]; omega
  obtain ⟨a,ha⟩:∃ a,a = A[i]:=⟨_,rfl⟩
  have hx:ixL A (i:Int) = some a:=by rw [zbmk hin,ha]
  have f0:=av hx
  have fa:=(f0.2.2 ac.tv).1
  have fb:=(f0.2.2 ac.tv).2
  try simp only [CL,MC] at f0 fa fb
  rw [List.drop_eq_getElem_cons hin,← ha,reA] at hr
  have hn:=hI.next
  have l1:τ.lock ≤ τ.next:=by rw [hI.lock]; omega
  refine mo fun LQ hnx hrr he => ?_
  have h4:τ0.next < τ.next:=by omega
  have h9:τ0.next + 1 < τ.next:=by omega
  have h9l:τ.lock ≤ τ0.next + 1:=by rw [hI.lock]; omega
  have lb:=(hf.1 τ.next (by omega)).2
  have ub:=(hf.1 (τ.next + 1) (by omega)).1
  have hi:=hI.hi
  have o9:τ.at (τ0.next + 1) = some ⟨zcdp,List.map TV.bool ra⟩:=hI.o9
  have o10:τ.at id = some ⟨jy,List.map (TV.int .i64) (todo ++ junk)⟩:=hI.o10
  have ne1:¬ τ0.next + 1 = τ.next:=by omega
  have hid:τ.lock ≤ id:=by rw [hI.lock]; have:=hI.lo; omega
  cases back with
  | false =>
   rw [show reX false a = a.From from rfl,show reY false a = a.To from rfl] at hr
   by_cases c1:a.From = v
   · rw [if_pos c1] at hr
     obtain ⟨q,hq,hr⟩:=ob hr
     have g0:=av hq
     have ga:=(g0.2.2 TV.bool).1
     have gb:=(g0.2.2 TV.bool).2
     have gl:a.To < (np:Int):=by have:=g0.2.1; rw [hI.ln] at this; exact this
     cases q with
     | true =>
      rw [if_pos rfl] at hr
      simp -implicitDefEqProofs only [iq,ie,TT,Ic.t,ci,reduceEqDiff,reduceAdd,reduceCtorEq,c,w1,f0.1,fa,l1,eq_true c1,g0.1,gl,gb,o9,h9]
      rw [hnx]
      simp -implicitDefEqProofs only [TT,reduceEqDiff,lb,h4,h9,hi]
      exact ih (i + 1) ra todo junk id τ (by omega) hI hr hQ
     | false =>
      rw [if_neg (by decide)] at hr
      obtain ⟨t,ht,hr⟩:=ob hr
      have k1:=fun (d:Option Nat) (K:ap) (fr:TF) (tk:TK) => hf.2 a.To t ht false d K fr tk (τ.push ⟨r7,a.cells⟩) hI.lock (by rw [ru]; omega) (by rw [zb4f (by omega)]; exact hI.cut)
      cases t with
      | false =>
       rw [if_neg (by decide)] at hr
       simp -implicitDefEqProofs only [iq,ie,TT,Ic.t,ci,reduceEqDiff,reduceAdd,reduceCtorEq,c,w1,f0.1,fa,l1,eq_true c1,g0.1,gl,gb,o9,h9,k1,CL]
       rw [hnx]
       simp -implicitDefEqProofs only [TT,reduceEqDiff,lb,h4,h9,hi]
       exact ih (i + 1) ra todo junk id τ (by omega) hI hr hQ
      | true =>
       rw [if_pos rfl] at hr
       obtain ⟨hlen,hr⟩:=ifS hr
       have m1:todo.length + 1 ≤ maxLen:=by unfold maxLen; omega
       have m2:(todo.length + 1) * 8 ≤ 140737488355328:=by omega
       have m3:todo.length ≤ todo.length + junk.length:=by omega
       have e10:∀ X Y,((τ.put (τ0.next + 1) X).push Y).at id = some ⟨jy,List.map (TV.int .i64) (todo ++ junk)⟩:=by
        intro X Y
        rw [sp (by rw [sn]; exact hi),zb7x (by have:=hI.lo; omega)]
        exact o10
       have nem:(List.map (TV.int .i64) (todo ++ junk) = []) = False:=eq_false fun h => hI.ne (List.map_eq_nil_iff.1 h)
       have tk1:List.take todo.length (List.map (TV.int .i64) (todo ++ junk)) ++ [.int .i64 a.To] = List.map (TV.int .i64) (todo ++ [a.To]):=by
        rw [← List.map_take,List.take_append_of_le_length (Nat.le_refl _),List.take_length,List.map_append]; rfl
       have lt1:¬ τ.next + 1 < τ.next:=by omega
       simp -implicitDefEqProofs only [iq,ie,TT,Ic.t,ci,reduceEqDiff,reduceAdd,reduceCtorEq,c,w1,f0.1,fa,l1,eq_true c1,g0.1,gl,gb,o9,h9,h9l,k1,CL]
       refine ⟨by omega,?_⟩
       have hI2:=((hI.see a.To.toNat).push ⟨r7,a.cells⟩).add a.To
       rw [ru,sn] at hI2
       unfold zb2q zb8z at hI2
       rw [← zbyk (enc:=TV.bool)] at hI2
       simp -implicitDefEqProofs only [TT,Ic.t,reduceEqDiff,e10,m1,m2,m3,hid,nem,List.flatMap_cons,List.flatMap_nil,tk1,lt1,w1,lb,h4,h9,Bool.and_false,Bool.false_eq_true]
       rw [hnx]
       simp -implicitDefEqProofs only [TT,reduceEqDiff,lb,h4,h9,lt1,Bool.and_false,Bool.false_eq_true]
       have q:=ih (i + 1) _ _ _ _ _ (by omega) hI2 hr hQ
       rw [List.length_append] at q
       exact q
   · rw [if_neg c1] at hr
     simp -implicitDefEqProofs only [iq,ie,TT,Ic.t,ci,reduceEqDiff,reduceAdd,reduceCtorEq,c,w1,f0.1,fa,l1,c1]
     rw [hnx]
     simp -implicitDefEqProofs only [TT,reduceEqDiff,lb,h4,h9,hi]
     exact ih (i + 1) ra todo junk id τ (by omega) hI hr hQ
  | true =>
   rw [show reX true a = a.To from rfl,show reY true a = a.From from rfl] at hr
   by_cases c1:a.To = v
   · rw [if_pos c1] at hr
     obtain ⟨q,hq,hr⟩:=ob hr
     have g0:=av hq
     have ga:=(g0.2.2 TV.bool).1
     have gb:=(g0.2.2 TV.bool).2
     have gl:a.From < (np:Int):=by have:=g0.2.1; rw [hI.ln] at this; exact this
     cases q with
     | true =>
      rw [if_pos rfl] at hr
      simp -implicitDefEqProofs only [iq,ie,TT,Ic.t,ci,reduceEqDiff,reduceAdd,reduceCtorEq,c,w1,f0.1,fa,l1,eq_true c1,g0.1,gl,gb,o9,h9]
      rw [hnx]
      simp -implicitDefEqProofs only [TT,reduceEqDiff,lb,h4,h9,hi]
      exact ih (i + 1) ra todo junk id τ (by omega) hI hr hQ
     | false =>
      rw [if_neg (by decide)] at hr
      obtain ⟨t,ht,hr⟩:=ob hr
      have k1:=fun (d:Option Nat) (K:ap) (fr:TF) (tk:TK) => hf.2 a.From t ht false d K fr tk (τ.push ⟨r7,a.cells⟩) hI.lock (by rw [ru]; omega) (by rw [zb4f (by omega)]; exact hI.cut)
      cases t with
      | false =>
       rw [if_neg (by decide)] at hr
       simp -implicitDefEqProofs only [iq,ie,TT,Ic.t,ci,reduceEqDiff,reduceAdd,reduceCtorEq,c,w1,f0.1,fa,l1,eq_true c1,g0.1,gl,gb,o9,h9,k1,CL]
       rw [hnx]
       simp -implicitDefEqProofs only [TT,reduceEqDiff,lb,h4,h9,hi]
       exact ih (i + 1) ra todo junk id τ (by omega) hI hr hQ
      | true =>
       rw [if_pos rfl] at hr
       obtain ⟨hlen,hr⟩:=ifS hr
       have m1:todo.length + 1 ≤ maxLen:=by unfold maxLen; omega
       have m2:(todo.length + 1) * 8 ≤ 140737488355328:=by omega
       have m3:todo.length ≤ todo.length + junk.length:=by omega
       have e10:∀ X Y,((τ.put (τ0.next + 1) X).push Y).at id = some ⟨jy,List.map (TV.int .i64) (todo ++ junk)⟩:=by
        intro X Y
        rw [sp (by rw [sn]; exact hi),zb7x (by have:=hI.lo; omega)]
        exact o10
       have nem:(List.map (TV.int .i64) (todo ++ junk) = []) = False:=eq_false fun h => hI.ne (List.map_eq_nil_iff.1 h)
       have tk1:List.take todo.length (List.map (TV.int .i64) (todo ++ junk)) ++ [.int .i64 a.From] = List.map (TV.int .i64) (todo ++ [a.From]):=by
        rw [← List.map_take,List.take_append_of_le_length (Nat.le_refl _),List.take_length,List.map_append]; rfl
       have lt1:¬ τ.next + 1 < τ.next:=by omega
       simp -implicitDefEqProofs only [iq,ie,TT,Ic.t,ci,reduceEqDiff,reduceAdd,reduceCtorEq,c,w1,f0.1,fa,l1,eq_true c1,g0.1,gl,gb,o9,h9,h9l,k1,CL]
       refine ⟨by omega,?_⟩
       have hI2:=((hI.see a.From.toNat).push ⟨r7,a.cells⟩).add a.From
       rw [ru,sn] at hI2
       unfold zb2q zb8z at hI2
       rw [← zbyk (enc:=TV.bool)] at hI2
       simp -implicitDefEqProofs only [TT,Ic.t,reduceEqDiff,e10,m1,m2,m3,hid,nem,List.flatMap_cons,List.flatMap_nil,tk1,lt1,w1,lb,h4,h9,Bool.and_false,Bool.false_eq_true]
       rw [hnx]
       simp -implicitDefEqProofs only [TT,reduceEqDiff,lb,h4,h9,lt1,Bool.and_false,Bool.false_eq_true]
       have q:=ih (i + 1) _ _ _ _ _ (by omega) hI2 hr hQ
       rw [List.length_append] at q
       exact q
   · rw [if_neg c1] at hr
     simp -implicitDefEqProofs only [iq,ie,TT,Ic.t,ci,reduceEqDiff,reduceAdd,reduceCtorEq,c,w1,f0.1,fa,l1,c1]
     rw [hnx]
     simp -implicitDefEqProofs only [TT,reduceEqDiff,lb,h4,h9,hi]
     exact ih (i + 1) ra todo junk id τ (by omega) hI hr hQ
theorem zb5n (τ0:TH) (hl0:τ0.lock ≤ τ0.next) (s:af) (np:Nat) (hnp:np < 1000000) (back:Bool) (f:FuncId) (b:List TV) (p:Int → Option Bool) (hf:zcn0 τ0 f b p) (hA:s.Arcs.length < 1000000) (Q:TEx → ap) (r:List Bool) (st:List Bool × List Int) (h:oq (reS back p s.Arcs) st = some r) :
 ∀ (junk:List Int) (id:Nat) (τ:TH),RI τ0 s np st.1 st.2 junk id τ →
 (∀ junk id τ,RI τ0 s np r [] junk id τ → Q (.exit 0) [(2,.bool back),(3,.func f [] b),(4,.ptr τ0.next 0),(9,.slm (τ0.next + 1) 0 np 1),(10,.slm id 0 0 1),(11,.int .i64 0),(26,.bool true)] [] τ) →
 tW G (.loop [2,3,4,9,10] t6) Q [(2,.bool back),(3,.func f [] b),(4,.ptr τ0.next 0),(9,.slm (τ0.next + 1) 0 np 1),(10,.slm id 0 st.2.length 1)] [] τ:=by
 refine di (f:=reS back p s.Arcs) (P:=fun st r => ∀ (junk:List Int) (id:Nat) (τ:TH),RI τ0 s np st.1 st.2 junk id τ → (∀ junk id τ,RI τ0 s np r [] junk id τ → Q (.exit 0) [(2,.bool back),(3,.func f [] b),(4,.ptr τ0.next 0),(9,.slm (τ0.next + 1) 0 np 1),(10,.slm id 0 0 1),(11,.int .i64 0),(26,.bool true)] [] τ) → tW G (.loop [2,3,4,9,10] t6) Q [(2,.bool back),(3,.func f [] b),(4,.ptr τ0.next 0),(9,.slm (τ0.next + 1) 0 np 1),(10,.slm id 0 st.2.length 1)] [] τ) ?_ h
 clear h st r
 rintro ⟨ra,todo⟩ o hs r hor junk id τ hI hQ
 have hs:reS back p s.Arcs (ra,todo) = some o:=hs
 unfold reS at hs
 simp only at hs hI ⊢
 refine mo fun LQ hnx hrr he => ?_
 by_cases c:0 < todo.length
 · rw [if_pos c] at hs
   obtain ⟨c2,hs⟩:=ifS hs
   obtain ⟨v,hv,hs⟩:=ob hs
   obtain ⟨⟨seen',todo'⟩,ha,hs⟩:=ob hs
   injection hs with hs
   subst hs
   obtain ⟨k,hk⟩:∃ k,todo.length - 1 = k:=⟨_,rfl⟩
   rw [hk] at hv ha
   have f0:=av hv
   have hk2:k < todo.length:=by omega
   have c0:¬ ((todo.length:Nat):Int) = 0:=by omega
   have w1:IntKind.i64.wrap ((todo.length:Int) - 1) = (k:Int):=by rw [reW (by omega) (by omega)]; omega
   have b0:(0:Int) ≤ (k:Int):=by omega
   have b1:(k:Int) < ((todo.length:Nat):Int):=by omega
   have b2:(k:Int) ≤ ((todo.length:Nat):Int):=by omega
   have o4:τ.at τ0.next = some ⟨bh,s.cells⟩:=hI.o4
   have o10:τ.at id = some ⟨jy,List.map (TV.int .i64) (todo ++ junk)⟩:=hI.o10
   have fb:=(f0.2.2 (TV.int .i64)).2
   rw [Int.toNat_natCast] at fb
   have fc:(List.map (TV.int .i64) (todo ++ junk))[k]? = some (.int .i64 v):=by rw [List.map_append,List.getElem?_append_left (by rw [List.length_map]; exact hk2)]; exact fb
   have hn:=hI.next
   have hi:=hI.hi
   have h4:τ0.next < τ.next:=by omega
   have h9:τ0.next + 1 < τ.next:=by omega
   have lb:=(hf.1 τ.next (by omega)).2
   have l2:=zb5m τ0 hl0 s np hnp back f b p hf v s.Arcs hA
   have lt:(todo.take k).length = k:=by rw [List.length_take]; omega
   simp -implicitDefEqProofs only [t6,ie,TT,Ic.t,ci,reduceEqDiff,reduceCtorEq,c0,w1,b0,b1,b2,o4,o10,fc,CL,MC]
   have q:=fun Q hQ => l2 Q seen' todo' s.Arcs.length 0 ra (todo.take k) (todo.drop k ++ junk) id τ rfl (hI.drop k) (by rw [List.drop_zero]; exact ha) hQ
   rw [lt] at q
   refine q _ fun junk' id' τ' hI' => ?_
   simp -implicitDefEqProofs only [TT,reduceEqDiff,h4,h9,lb]
   by_cases hc:id' < τ.next
   · simp only [if_pos hc]
     rw [zb3q (Nat.le_refl _),hnx]
     simp -implicitDefEqProofs only [TT,reduceEqDiff,h4,h9,lb,hc]
     simp only [zb3q (Nat.le_refl _)]
     exact hor _ _ _ (hI'.cutN hc) hQ
   · simp only [if_neg hc]
     rw [hnx]
     simp -implicitDefEqProofs only [TT,reduceEqDiff,reduceCtorEq,h4,h9,lb,hc]
     exact hor _ _ _ hI' hQ
 · rw [if_neg c] at hs
   injection hs with hs
   subst hs
   obtain rfl:_ = r:=hor
   obtain rfl:todo = []:=List.eq_nil_of_length_eq_zero (by omega)
   have z:((([]:List Int).length:Nat):Int) = 0:=rfl
   have z2:([]:List Int).length = 0:=rfl
   simp -implicitDefEqProofs only [t6,ie,TT,Ic.t,ci,reduceEqDiff,reduceCtorEq,he,z2]
   exact hQ _ _ _ hI
theorem zbzh {τ0 τ:TH} {m:Nat} {l:List Bool} (hg:τ.cut τ0.next = τ0) (ha:τ.at (τ0.next + 1) = some (zb2q l)) (hl:l.length = m) (K:TV → TH → Prop):fzK (mz τ τ0.next 2 (.slm (τ0.next + 1) 0 m 1)) τ0 K τ = K (.sl (l.map TV.bool)) τ0:=by
 rw [zbu9 (c:=fun x => [TV.bool x]) (e:=TV.bool) (by decide) (fun _ => rfl) (fun _ => rfl) τ τ0.next (τ0.next + 1) m zcdp l (by omega) (by rw [ha]; unfold zb2q; rw [List.map_eq_flatMap]) hl (fun x v hv => by
  simp only [List.mem_singleton] at hv
  subst hv; exact ⟨rfl,rfl⟩)]
 show K _ (τ.cut τ0.next) = _
 rw [hg]
theorem zcqf (τ0:TH) (hl0:τ0.lock ≤ τ0.next) (s:af) (o:Int) (back:Bool) (f:FuncId) (b:List TV) (p:Int → Option Bool) (hf:zcn0 τ0 f b p) (r:List Bool) (h:reF s o back p = some r) :
 Ru G me [.agg s.cells,.int .i64 o,.bool back,.func f [] b] τ0 (.sl (List.map TV.bool r)) τ0:=by
 unfold reF at h
 obtain ⟨⟨hp,hA⟩,h⟩:=ifS h
 refine gp fun K hK => ?_
 rw [bc zde7 (Nat.le_of_ble_eq_true rfl)]
 have m1:((s.Parties.length:Nat):Int) * ((1:Nat):Int) ≤ 140737488355328:=by omega
 have m2:((s.Parties.length:Nat):Int) ≤ 9223372036854775807:=by omega
 have m0:(0:Int) ≤ ((s.Parties.length:Nat):Int):=by omega
 have f2:(List.replicate s.Parties.length [.bool false]).flatten = List.map TV.bool (List.replicate s.Parties.length false):=zco7 (enc:=TV.bool) _ _
 have hI:RI τ0 s s.Parties.length (List.replicate s.Parties.length false) [o] [] (τ0.next + 2) (((τ0.push (zcgr s)).push (zb2q (List.replicate s.Parties.length false))).push (zb8z [o])):=by
  have n1:(τ0.push (zcgr s)).next = τ0.next + 1:=ru
  have n2:((τ0.push (zcgr s)).push (zb2q (List.replicate s.Parties.length false))).next = τ0.next + 2:=by rw [ru,n1]
  refine ⟨rfl,?_,?_,?_,Nat.le_refl _,by rw [ru,n2]; omega,?_,by simp,List.length_replicate⟩
  · rw [zb4f (by omega),zb4f (by omega),zb4f (Nat.le_refl _)]
    show TH.mk (τ0.o.take τ0.o.length) τ0.lock = τ0
    rw [List.take_length]
  · rw [sp (by omega),sp (by omega),zces]
  · rw [sp (by omega),← n1,zces]
  · rw [← n2,zces]; rfl
 simp -implicitDefEqProofs only [ie,TT,Ic.t,reduceEqDiff,reduceAdd,reduceCtorEq,m0,m1,m2,f2,CL,MC]
 refine ⟨Int.le_refl _,?_⟩
 have q:=fun Q hQ => zb5n τ0 hl0 s s.Parties.length hp back f b p hf hA Q r _ h [] (τ0.next + 2) _ hI hQ
 refine q _ fun junk id τ hI' => ?_
 have lt9:τ0.next + 1 < τ0.next + 3:=by omega
 simp -implicitDefEqProofs only [TT,Ic.t,reduceEqDiff,reduceAdd,lt9]
 have c3:(τ.cut (τ0.next + 3)).cut τ0.next = τ0:=by rw [zb3q (by omega)]; exact hI'.cut
 rw [zbzh c3 (by rw [zb9o lt9]; exact hI'.o9) hI'.ln]
 exact hK
end Go.Proofs.Ytjgpklmkdkkooaa
