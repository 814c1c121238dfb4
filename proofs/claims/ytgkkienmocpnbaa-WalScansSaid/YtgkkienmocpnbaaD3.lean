import Derived.Test.YtgkkienmocpnbaaM19
set_option linter.unusedVariables false
set_option linter.unusedSimpArgs false
set_option linter.unusedSectionVars false
open Nat (reduceEqDiff reduceAdd reduceMul reduceLT reduceLeDiff reduceSub)
open Int (reduceToNat reduceNe reduceEq reduceNeg reduceLE)
namespace Go.Proofs.Ytgkkienmocpnbaa
open Go Go.RowKit Sh Ic
noncomputable section
def bz :Option Bool :=
 mn (⟨#[97]⟩:ByteArray) >>= fun y1 =>
 mn (⟨#[]⟩:ByteArray) >>= fun y3 =>
 if ¬ (9223372036854775807 < ((y1.size + y3.size:Nat):Int)) then
  if ¬ (9223372036854775807 < (((y1 ++ y3).size + (⟨#[120]⟩:ByteArray).size:Nat):Int)) then
   gr ((y1 ++ y3) ++ (⟨#[120]⟩:ByteArray)) >>= fun y7 =>
   gr (⟨#[]⟩:ByteArray) >>= fun y9 =>
   if ((y7.1.length:Nat):Int) = (2:Int) then
    ixL y7.1 (0:Int) >>= fun y12 =>
    if y12 = (⟨#[97]⟩:ByteArray) then
     ixL y7.1 (1:Int) >>= fun y15 =>
     if y15 = (⟨#[]⟩:ByteArray) then
      if y7.2 = (IntKind.i64.wrap (((((y1 ++ y3) ++ (⟨#[120]⟩:ByteArray)).size:Nat):Int) - (1:Int))) then
       if ((y9.1.length:Nat):Int) = (0:Int) then
        some (decide (y9.2 = (0:Int)))
       else
       some false
      else
      some false
     else
     some false
    else
    some false
   else
   some false
  else
   none
 else
  none
theorem zb4z  (r:Bool) (h:bz  = some r) (τ:TH) (hl:τ.lock ≤ τ.next):Ru G fq [] τ (.bool r) τ:=by
 refine jn fun K hK => ?_
 rw [cb zckr (Nat.le_of_ble_eq_true rfl)]
 unfold bz at h
 obtain ⟨y1,hy1,h⟩:=ob h
 have k2:=ul (⟨#[97]⟩:ByteArray) _ hy1
 try simp only [CL,MC,reduceToNat] at k2
 obtain ⟨y3,hy3,h⟩:=ob h
 have k4:=ul (⟨#[]⟩:ByteArray) _ hy3
 try simp only [CL,MC,reduceToNat] at k4
 obtain ⟨c5,h⟩:=ifS h
 obtain ⟨c6,h⟩:=ifS h
 obtain ⟨y7,hy7,h⟩:=ob h
 have k8:=ju ((y1 ++ y3) ++ (⟨#[120]⟩:ByteArray)) _ hy7
 try simp only [CL,MC,reduceToNat] at k8
 obtain ⟨y9,hy9,h⟩:=ob h
 have k10:=ju (⟨#[]⟩:ByteArray) _ hy9
 try simp only [CL,MC,reduceToNat] at k10
 by_cases c11:((y7.1.length:Nat):Int) = (2:Int)
 · rw [if_pos c11] at h
   obtain ⟨y12,hy12,h⟩:=ob h
   have f13:=au hy12
   have f13a:=(f13.2.2 TV.str).1
   have f13b:=(f13.2.2 TV.str).2
   try simp only [CL,MC,reduceToNat] at f13 f13a f13b
   by_cases c14:y12 = (⟨#[97]⟩:ByteArray)
   · rw [if_pos c14] at h
     obtain ⟨y15,hy15,h⟩:=ob h
     have f16:=au hy15
     have f16a:=(f16.2.2 TV.str).1
     have f16b:=(f16.2.2 TV.str).2
     try simp only [CL,MC,reduceToNat] at f16 f16a f16b
     by_cases c17:y15 = (⟨#[]⟩:ByteArray)
     · rw [if_pos c17] at h
       by_cases c18:y7.2 = (IntKind.i64.wrap (((((y1 ++ y3) ++ (⟨#[120]⟩:ByteArray)).size:Nat):Int) - (1:Int)))
       · rw [if_pos c18] at h
         by_cases c19:((y9.1.length:Nat):Int) = (0:Int)
         · rw [if_pos c19] at h
           injection h with h; subst h
           simp -implicitDefEqProofs only [pz,TT,Ic.t,ci,reduceEqDiff,reduceIte,reduceAdd,reduceLT,reduceCtorEq,reduceToNat,hl,k2,k4,c5,c6,k8,k10,eq_true c11,f13.1,f13.2.1,f13a,f13b,eq_true c14,f16.1,f16.2.1,f16a,f16b,eq_true c17,eq_true c18,eq_true c19,CL,LTN]
           exact hK
         rw [if_neg c19] at h
         injection h with h; subst h
         simp -implicitDefEqProofs only [pz,TT,Ic.t,ci,reduceEqDiff,reduceIte,reduceAdd,reduceLT,reduceCtorEq,reduceToNat,hl,k2,k4,c5,c6,k8,k10,eq_true c11,f13.1,f13.2.1,f13a,f13b,eq_true c14,f16.1,f16.2.1,f16a,f16b,eq_true c17,eq_true c18,c19,CL,LTN]
         exact hK
       rw [if_neg c18] at h
       injection h with h; subst h
       simp -implicitDefEqProofs only [pz,TT,Ic.t,ci,reduceEqDiff,reduceIte,reduceAdd,reduceLT,reduceCtorEq,reduceToNat,hl,k2,k4,c5,c6,k8,k10,eq_true c11,f13.1,f13.2.1,f13a,f13b,eq_true c14,f16.1,f16.2.1,f16a,f16b,eq_true c17,c18,CL,LTN]
       exact hK
     rw [if_neg c17] at h
     injection h with h; subst h
     simp -implicitDefEqProofs only [pz,TT,Ic.t,ci,reduceEqDiff,reduceIte,reduceAdd,reduceLT,reduceCtorEq,reduceToNat,hl,k2,k4,c5,c6,k8,k10,eq_true c11,f13.1,f13.2.1,f13a,f13b,eq_true c14,f16.1,f16.2.1,f16a,f16b,c17,CL,LTN]
     exact hK
   rw [if_neg c14] at h
   injection h with h; subst h
   simp -implicitDefEqProofs only [pz,TT,Ic.t,ci,reduceEqDiff,reduceIte,reduceAdd,reduceLT,reduceCtorEq,reduceToNat,hl,k2,k4,c5,c6,k8,k10,eq_true c11,f13.1,f13.2.1,f13a,f13b,c14,CL,LTN]
   exact hK
 rw [if_neg c11] at h
 injection h with h; subst h
 simp -implicitDefEqProofs only [pz,TT,Ic.t,ci,reduceEqDiff,reduceIte,reduceAdd,reduceLT,reduceCtorEq,reduceToNat,hl,k2,k4,c5,c6,k8,k10,c11,CL,LTN]
 exact hK
theorem cq  (r:Bool) (h:bz  = some r) (lk:Bool) (d:Option Nat) (K:ak) (fr:TF) (tk:TK) (τ:TH) (hl:τ.lock ≤ τ.next):d9 G lk fq [] d K fr tk τ = K (dh fr d (.bool r)) tk τ :=
 b9 (zb4z  r h τ  hl) (zb4z  r h (τ.locked τ.next)  (Nat.le_refl _) ) (by simp -implicitDefEqProofs only [TT,Ic.t,ci,reduceEqDiff,reduceIte,reduceAdd,reduceLT,reduceCtorEq,reduceToNat,hl,CL,LTN])
def ee (v0:Int) (v1:(List Int)) (v2:Int):Option (LS ((List Int) × Int) ((List Int))) :=
 if v2 < (8:Int) then
  if ¬ (IntKind.u64.wrap (IntKind.i64.wrap ((56:Int) - (IntKind.i64.wrap ((8:Int) * v2))))) < 0 then
   if v1.length ≤ 140737488355327 then
    some (.nx ((v1 ++ [(IntKind.u8.wrap (Int.fdiv v0 (2 ^ (Nat.min (IntKind.u64.wrap (IntKind.i64.wrap ((56:Int) - (IntKind.i64.wrap ((8:Int) * v2))))).toNat IntKind.u64.bits))))]),(IntKind.i64.wrap (v2 + (1:Int)))))
   else
    none
  else
   none
 else
 some (.dn v1)
def lq (v0:Int) (v1:(List Int)) (v2:Int):Option ((List Int)):=lf (fun st => ee v0 st.1 st.2) (v1,v2)
theorem zb7n (v0:Int) (v1:(List Int)) (v2:Int):lq v0 v1 v2 = ee v0 v1 v2 >>= LS.go (fun st => lq v0 st.1 st.2):=dj (fun st => ee v0 st.1 st.2) (v1,v2)
def qo (v0:Int) (v1:(List Int)) (v2:Int) (r:(List Int)):Prop:=∀ (τ:TH) (n0:Nat) (ty0:TypeId) (hnn0:n0 = v1.length) (hty0:n0 = 0 ∨ ty0 = a9) (hl:τ.lock ≤ τ.next) (Q:TEx → ak) (hQ0:∀ (fr:TF) (tk2:TK) (τ2:TH),∀ (u0:TypeId),(r.length = 0 ∨ u0 = a9) → lkp fr 4 = .sla 0 (List.map (TV.int .u8) r) → tk2.take 1 = [some (r.length,u0)] → τ2.cut τ.next = τ → Q (.exit 0) fr tk2 τ2) ,tW G (.loop [3,4,5] zbq5) Q [(3,.int .u64 v0),(4,.sla 0 (List.map (TV.int .u8) v1)),(5,.int .i64 v2)] [some (n0,ty0)] τ
theorem zcgj (v0:Int) (v1:(List Int)) (v2:Int) (r:(List Int)) (h:lq v0 v1 v2 = some r):qo v0 v1 v2 r:=by
 refine ct (f:=fun st => ee v0 st.1 st.2) (P:=fun st r => ∀ (v1:(List Int)) (v2:Int),(v1,v2) = st → qo v0 v1 v2 r) ?_ h v1 v2 rfl
 clear h r v2 v1
 intro st o h r ih v1 v2 hst τ  n0 ty0 hnn0 hty0 hl Q hQ0
 subst hst
 have h:ee v0 v1 v2 = some o:=h
 unfold ee at h
 subst hnn0
 refine qp fun LQ hn hr he => ?_
 by_cases c1:v2 < (8:Int)
 · rw [if_pos c1] at h
   obtain ⟨c2,h⟩:=ifS h
   obtain ⟨c3,h⟩:=ifS h
   have f4:1 ≤ maxLen:=by unfold maxLen; omega
   have f5:v1.length + 1 ≤ maxLen:=by unfold maxLen; omega
   have f6:((List.map (TV.int .u8) v1).all fun e => e.cells.length == 1) = true:=zbl5 (fun _ => rfl) _
   have f7:List.map (TV.int .u8) v1 ++ List.map (TV.int .u8) [(IntKind.u8.wrap (Int.fdiv v0 (2 ^ (Nat.min (IntKind.u64.wrap (IntKind.i64.wrap ((56:Int) - (IntKind.i64.wrap ((8:Int) * v2))))).toNat IntKind.u64.bits))))] = List.map (TV.int .u8) (v1 ++ [(IntKind.u8.wrap (Int.fdiv v0 (2 ^ (Nat.min (IntKind.u64.wrap (IntKind.i64.wrap ((56:Int) - (IntKind.i64.wrap ((8:Int) * v2))))).toNat IntKind.u64.bits))))]):=zbl3 _ _
   try simp only [CL,List.map_cons,List.map_nil] at f7
   injection h with h; subst h
   have ih:=ih (v1 ++ [(IntKind.u8.wrap (Int.fdiv v0 (2 ^ (Nat.min (IntKind.u64.wrap (IntKind.i64.wrap ((56:Int) - (IntKind.i64.wrap ((8:Int) * v2))))).toNat IntKind.u64.bits))))]) (IntKind.i64.wrap (v2 + (1:Int))) rfl
   unfold qo at ih
   simp -implicitDefEqProofs only [zbq5,zbqf,TT,Ic.t,ci,reduceEqDiff,reduceIte,reduceAdd,reduceMul,reduceLT,reduceLeDiff,reduceSub,reduceCtorEq,reduceEq,reduceNe,reduceToNat,Int.reduceLT,reduceLE,reduceNeg,hl,hty0,c1,c2,c3,f4,f5,f6,f7,CL,LTN]
   rw [hn]
   simp -implicitDefEqProofs only [TT,Ic.t,ci,reduceEqDiff,reduceIte,reduceAdd,reduceMul,reduceLT,reduceLeDiff,reduceSub,reduceCtorEq,reduceEq,reduceNe,reduceToNat,Int.reduceLT,reduceLE,reduceNeg,hl,hty0,c1,c2,c3,f4,f5,f6,f7,CL,LTN]
   exact ih  τ   (v1.length + 1) a9 (by first | rfl | simp [aj]) (by first | exact hty0 | exact Or.inr rfl | assumption | simp) (by first | assumption | (simp only [aa,af]; assumption)) Q hQ0
 rw [if_neg c1] at h
 injection h with h; subst h
 obtain rfl:_ = r:=ih
 simp -implicitDefEqProofs only [zbq5,zbqf,TT,Ic.t,ci,reduceEqDiff,reduceIte,reduceAdd,reduceMul,reduceLT,reduceLeDiff,reduceSub,reduceCtorEq,reduceEq,reduceNe,reduceToNat,Int.reduceLT,reduceLE,reduceNeg,hl,hty0,he,hr,c1,CL,LTN]
 exact hQ0  _ _ _ ty0 (by first | exact hty0 | exact Or.inr rfl | assumption | simp) (by first | rfl | (simp -implicitDefEqProofs only [TT,Ic.t,ci,reduceEqDiff,reduceIte,reduceAdd,reduceMul,reduceLT,reduceLeDiff,reduceSub,reduceCtorEq,reduceEq,reduceNe,reduceToNat,Int.reduceLT,reduceLE,reduceNeg,hl,hty0,c1,CL,LTN])) (by first | rfl | (simp -implicitDefEqProofs only [TT,Ic.t,ci,reduceEqDiff,reduceIte,reduceAdd,reduceMul,reduceLT,reduceLeDiff,reduceSub,reduceCtorEq,reduceEq,reduceNe,reduceToNat,Int.reduceLT,reduceLE,reduceNeg,hl,hty0,c1,CL,LTN])) (by first | exact f0 (Nat.le_refl _) | (simp -implicitDefEqProofs only [TT,Ic.t,ci,reduceEqDiff,reduceIte,reduceAdd,reduceMul,reduceLT,reduceLeDiff,reduceSub,reduceCtorEq,reduceEq,reduceNe,reduceToNat,Int.reduceLT,reduceLE,reduceNeg,hl,hty0,c1,CL,LTN]))
def ms (p1:Int):Option ByteArray :=
 lq (IntKind.u64.wrap p1) [] (0:Int) >>= fun y1 =>
 some (ox y1)
theorem zb1o (p1:Int) (r:ByteArray) (h:ms p1 = some r) (τ:TH) (hl:τ.lock ≤ τ.next):Ru G ng [.int .i64 p1] τ (.str r) τ:=by
 refine jn fun K hK => ?_
 rw [cb zbdb (Nat.le_of_ble_eq_true rfl)]
 unfold ms at h
 obtain ⟨y1,hy1,h⟩:=ob h
 simp -implicitDefEqProofs only [zbqf,TT,Ic.t,ci,reduceEqDiff,reduceIte,reduceAdd,reduceLT,reduceCtorEq,reduceToNat,hl,CL,LTN]
 have Sy1:=zcgj (IntKind.u64.wrap p1) [] (0:Int) y1 hy1
 unfold qo at Sy1
 refine Sy1 _ 0 0 (by first | rfl | simp [aj]) (by first | exact Or.inl rfl | exact Or.inr rfl | assumption | simp) (by first | assumption | omega | (simp only [aa,ag,af,ar]; omega)) _ ?_
 intro frq2 tkq2 τq2 u0q2 uh0q2 g4q2 htq2 hcq2
 have hcq2:=cn (n:=τ.next) hcq2 (by first | omega | (simp only [aa,ag]; omega))
 try simp only [List.take_succ_cons,List.take_zero,List.take_nil,CL] at htq2
 try simp -implicitDefEqProofs only [TT,Ic.t,ci,reduceEqDiff,reduceIte,reduceAdd,reduceLT,reduceCtorEq,reduceToNat,hl,CL,LTN] at hcq2
 injection h with h; subst h
 simp -implicitDefEqProofs only [zbqf,TT,Ic.t,ci,reduceEqDiff,reduceIte,reduceAdd,reduceLT,reduceCtorEq,reduceToNat,hl,uh0q2,g4q2,htq2,hcq2,CL,LTN]
 exact hK
theorem vk (p1:Int) (r:ByteArray) (h:ms p1 = some r) (lk:Bool) (d:Option Nat) (K:ak) (fr:TF) (tk:TK) (τ:TH) (hl:τ.lock ≤ τ.next):d9 G lk ng [.int .i64 p1] d K fr tk τ = K (dh fr d (.str r)) tk τ :=
 b9 (zb1o p1 r h τ  hl) (zb1o p1 r h (τ.locked τ.next)  (Nat.le_refl _) ) (by simp -implicitDefEqProofs only [TT,Ic.t,ci,reduceEqDiff,reduceIte,reduceAdd,reduceLT,reduceCtorEq,reduceToNat,hl,CL,LTN])
def ui (p1:ByteArray):Option ByteArray :=
 ms ((p1.size:Nat):Int) >>= fun y1 =>
 if ¬ (9223372036854775807 < ((y1.size + p1.size:Nat):Int)) then
  some (y1 ++ p1)
 else
  none
theorem zb3j (p1:ByteArray) (r:ByteArray) (h:ui p1 = some r) (τ:TH) (hl:τ.lock ≤ τ.next):Ru G uk [.str p1] τ (.str r) τ:=by
 refine jn fun K hK => ?_
 rw [cb za5e (Nat.le_of_ble_eq_true rfl)]
 unfold ui at h
 obtain ⟨y1,hy1,h⟩:=ob h
 have k2:=vk ((p1.size:Nat):Int) _ hy1
 try simp only [CL,MC,reduceToNat] at k2
 obtain ⟨c3,h⟩:=ifS h
 injection h with h; subst h
 simp -implicitDefEqProofs only [za8h,TT,Ic.t,ci,reduceEqDiff,reduceIte,reduceAdd,reduceLT,reduceCtorEq,reduceToNat,hl,k2,c3,CL,LTN]
 exact hK
theorem zce2 (p1:ByteArray) (r:ByteArray) (h:ui p1 = some r) (lk:Bool) (d:Option Nat) (K:ak) (fr:TF) (tk:TK) (τ:TH) (hl:τ.lock ≤ τ.next):d9 G lk uk [.str p1] d K fr tk τ = K (dh fr d (.str r)) tk τ :=
 b9 (zb3j p1 r h τ  hl) (zb3j p1 r h (τ.locked τ.next)  (Nat.le_refl _) ) (by simp -implicitDefEqProofs only [TT,Ic.t,ci,reduceEqDiff,reduceIte,reduceAdd,reduceLT,reduceCtorEq,reduceToNat,hl,CL,LTN])
def vl :Option (List Int) :=
 some [(1116352408:Int),(1899447441:Int),(3049323471:Int),(3921009573:Int),(961987163:Int),(1508970993:Int),(2453635748:Int),(2870763221:Int),(3624381080:Int),(310598401:Int),(607225278:Int),(1426881987:Int),(1925078388:Int),(2162078206:Int),(2614888103:Int),(3248222580:Int),(3835390401:Int),(4022224774:Int),(264347078:Int),(604807628:Int),(770255983:Int),(1249150122:Int),(1555081692:Int),(1996064986:Int),(2554220882:Int),(2821834349:Int),(2952996808:Int),(3210313671:Int),(3336571891:Int),(3584528711:Int),(113926993:Int),(338241895:Int),(666307205:Int),(773529912:Int),(1294757372:Int),(1396182291:Int),(1695183700:Int),(1986661051:Int),(2177026350:Int),(2456956037:Int),(2730485921:Int),(2820302411:Int),(3259730800:Int),(3345764771:Int),(3516065817:Int),(3600352804:Int),(4094571909:Int),(275423344:Int),(430227734:Int),(506948616:Int),(659060556:Int),(883997877:Int),(958139571:Int),(1322822218:Int),(1537002063:Int),(1747873779:Int),(1955562222:Int),(2024104815:Int),(2227730452:Int),(2361852424:Int),(2428436474:Int),(2756734187:Int),(3204031479:Int),(3329325298:Int)]
theorem zb41  (r:(List Int)) (h:vl  = some r) (τ:TH) (hl:τ.lock ≤ τ.next):Ru G qg [] τ (.agg (List.map (TV.int .u32) r)) τ:=by
 refine jn fun K hK => ?_
 rw [cb zckt (Nat.le_of_ble_eq_true rfl)]
 unfold vl at h
 injection h with h; subst h
 simp -implicitDefEqProofs only [zckf,TT,Ic.t,ci,reduceEqDiff,reduceIte,reduceAdd,reduceMul,reduceLT,reduceLeDiff,reduceSub,reduceCtorEq,reduceEq,reduceNe,reduceToNat,Int.reduceLT,reduceLE,reduceNeg,hl,CL,LTN]
 exact hK
theorem zcgc  (r:(List Int)) (h:vl  = some r) (lk:Bool) (d:Option Nat) (K:ak) (fr:TF) (tk:TK) (τ:TH) (hl:τ.lock ≤ τ.next):d9 G lk qg [] d K fr tk τ = K (dh fr d (.agg (List.map (TV.int .u32) r))) tk τ :=
 b9 (zb41  r h τ  hl) (zb41  r h (τ.locked τ.next)  (Nat.le_refl _) ) (by simp -implicitDefEqProofs only [TT,Ic.t,ci,reduceEqDiff,reduceIte,reduceAdd,reduceLT,reduceCtorEq,reduceToNat,hl,CL,LTN])
def fk (p1:Int) (p2:Int):Option Int :=
 if ¬ p2 < 0 then
  if ¬ (IntKind.u64.wrap ((32:Int) - p2)) < 0 then
   some (IntKind.u32.wrap ((BitVec.ofInt IntKind.u32.bits (Int.fdiv p1 (2 ^ (Nat.min p2.toNat IntKind.u32.bits))) ||| BitVec.ofInt IntKind.u32.bits (IntKind.u32.wrap (p1 * 2 ^ (Nat.min (IntKind.u64.wrap ((32:Int) - p2)).toNat IntKind.u32.bits)))).toNat:Int)) >>= fun x3 =>
   some x3
  else
   none
 else
  none
theorem zb3i (p1:Int) (p2:Int) (r:Int) (h:fk p1 p2 = some r) (τ:TH) (hl:τ.lock ≤ τ.next):Ru G fp [.int .u32 p1,.int .u64 p2] τ (.int .u32 r) τ:=by
 refine jn fun K hK => ?_
 rw [cb za5f (Nat.le_of_ble_eq_true rfl)]
 unfold fk at h
 obtain ⟨c1,h⟩:=ifS h
 obtain ⟨c2,h⟩:=ifS h
 obtain ⟨x3,hx3,h⟩:=ob h
 have f4:=Option.some.inj hx3
 injection h with h; subst h
 simp -implicitDefEqProofs only [za8i,TT,Ic.t,ci,reduceEqDiff,reduceIte,reduceAdd,reduceLT,reduceCtorEq,reduceToNat,hl,c1,c2,f4,CL,LTN]
 exact hK
theorem gq (p1:Int) (p2:Int) (r:Int) (h:fk p1 p2 = some r) (lk:Bool) (d:Option Nat) (K:ak) (fr:TF) (tk:TK) (τ:TH) (hl:τ.lock ≤ τ.next):d9 G lk fp [.int .u32 p1,.int .u64 p2] d K fr tk τ = K (dh fr d (.int .u32 r)) tk τ :=
 b9 (zb3i p1 p2 r h τ  hl) (zb3i p1 p2 r h (τ.locked τ.next)  (Nat.le_refl _) ) (by simp -implicitDefEqProofs only [TT,Ic.t,ci,reduceEqDiff,reduceIte,reduceAdd,reduceLT,reduceCtorEq,reduceToNat,hl,CL,LTN])
def dt (v0:ByteArray) (v1:(List Int)) (v2:(List Int)) (v4:(List Int)) (v3:(List Int)) (v5:Int):Option (LS ((List Int) × Int) ((List Int))) :=
 if v5 < (16:Int) then
  ixB v0 (IntKind.i64.wrap ((4:Int) * v5)) >>= fun b2 =>
  ixB v0 (IntKind.i64.wrap ((IntKind.i64.wrap ((4:Int) * v5)) + (1:Int))) >>= fun b4 =>
  ixB v0 (IntKind.i64.wrap ((IntKind.i64.wrap ((4:Int) * v5)) + (2:Int))) >>= fun b6 =>
  ixB v0 (IntKind.i64.wrap ((IntKind.i64.wrap ((4:Int) * v5)) + (3:Int))) >>= fun b8 =>
  if 0 ≤ v5 ∧ v5 < ((64:Nat):Int) then
   if v5.toNat + 1 ≤ v3.length then
    some (.nx ((v3.set v5.toNat (IntKind.u32.wrap ((BitVec.ofInt IntKind.u32.bits (IntKind.u32.wrap ((BitVec.ofInt IntKind.u32.bits (IntKind.u32.wrap ((BitVec.ofInt IntKind.u32.bits (IntKind.u32.wrap ((IntKind.u32.wrap b2) * 2 ^ (Nat.min 24 IntKind.u32.bits))) ||| BitVec.ofInt IntKind.u32.bits (IntKind.u32.wrap ((IntKind.u32.wrap b4) * 2 ^ (Nat.min 16 IntKind.u32.bits)))).toNat:Int)) ||| BitVec.ofInt IntKind.u32.bits (IntKind.u32.wrap ((IntKind.u32.wrap b6) * 2 ^ (Nat.min 8 IntKind.u32.bits)))).toNat:Int)) ||| BitVec.ofInt IntKind.u32.bits (IntKind.u32.wrap b8)).toNat:Int))),(IntKind.i64.wrap (v5 + (1:Int)))))
   else
    none
  else
   none
 else
 some (.dn v3)
def mz (v0:ByteArray) (v1:(List Int)) (v2:(List Int)) (v4:(List Int)) (v3:(List Int)) (v5:Int):Option ((List Int)):=lf (fun st => dt v0 v1 v2 v4 st.1 st.2) (v3,v5)
theorem zb8m (v0:ByteArray) (v1:(List Int)) (v2:(List Int)) (v4:(List Int)) (v3:(List Int)) (v5:Int):mz v0 v1 v2 v4 v3 v5 = dt v0 v1 v2 v4 v3 v5 >>= LS.go (fun st => mz v0 v1 v2 v4 st.1 st.2):=dj (fun st => dt v0 v1 v2 v4 st.1 st.2) (v3,v5)
def nn (v0:ByteArray) (v1:(List Int)) (v2:(List Int)) (v4:(List Int)) (v3:(List Int)) (v5:Int) (r:(List Int)):Prop:=∀ (τ:TH) (o0:Nat) (o1:Nat) (o2:Nat) (o3:Nat) (hl:τ.lock ≤ τ.next) (ha0:τ.at o0 = some ⟨ce,List.map (TV.int .u32) v1⟩) (hi0:o0 < τ.next) (ha1:τ.at o1 = some ⟨ce,List.map (TV.int .u32) v2⟩) (hi1:o1 < τ.next) (ha2:τ.at o2 = some ⟨bd,List.map (TV.int .u32) v3⟩) (hi2:o2 < τ.next) (hw2:τ.lock ≤ o2) (ha3:τ.at o3 = some ⟨bd,List.map (TV.int .u32) v4⟩) (hi3:o3 < τ.next) (hn0_2:o0 ≠ o2) (hn1_2:o1 ≠ o2) (hn2_3:o2 ≠ o3) (Q:TEx → ak) (hQ0:∀ (fr:TF) (tk2:TK) (τ2:TH),lkp fr 2 = .ptr o0 0 → lkp fr 4 = .ptr o1 0 → lkp fr 5 = .ptr o2 0 → lkp fr 6 = .ptr o3 0 → tk2.take 0 = [] → τ2.cut τ.next = (τ.put o2 ⟨bd,List.map (TV.int .u32) r⟩) → Q (.exit 0) fr tk2 τ2) ,tW G (.loop [1,2,4,5,6,7] t7) Q [(1,.str v0),(2,.ptr o0 0),(4,.ptr o1 0),(5,.ptr o2 0),(6,.ptr o3 0),(7,.int .i64 v5)] [] τ
theorem zchm (v0:ByteArray) (v1:(List Int)) (v2:(List Int)) (v4:(List Int)) (v3:(List Int)) (v5:Int) (r:(List Int)) (h:mz v0 v1 v2 v4 v3 v5 = some r):nn v0 v1 v2 v4 v3 v5 r:=by
 refine ct (f:=fun st => dt v0 v1 v2 v4 st.1 st.2) (P:=fun st r => ∀ (v3:(List Int)) (v5:Int),(v3,v5) = st → nn v0 v1 v2 v4 v3 v5 r) ?_ h v3 v5 rfl
 clear h r v5 v3
 intro st o h r ih v3 v5 hst τ o0 o1 o2 o3  hl ha0 hi0 ha1 hi1 ha2 hi2 hw2 ha3 hi3 hn0_2 hn1_2 hn2_3 Q hQ0
 subst hst
 have h:dt v0 v1 v2 v4 v3 v5 = some o:=h
 unfold dt at h
 refine qp fun LQ hn hr he => ?_
 by_cases c1:v5 < (16:Int)
 · rw [if_pos c1] at h
   obtain ⟨b2,hb2,h⟩:=ob h
   have f3:=pd hb2
   try simp only [CL,MC,reduceToNat] at f3
   obtain ⟨b4,hb4,h⟩:=ob h
   have f5:=pd hb4
   try simp only [CL,MC,reduceToNat] at f5
   obtain ⟨b6,hb6,h⟩:=ob h
   have f7:=pd hb6
   try simp only [CL,MC,reduceToNat] at f7
   obtain ⟨b8,hb8,h⟩:=ob h
   have f9:=pd hb8
   try simp only [CL,MC,reduceToNat] at f9
   obtain ⟨c10,h⟩:=ifS h
   obtain ⟨c11,h⟩:=ifS h
   have f12:(List.map (TV.int .u32) v3).set v5.toNat (.int .u32 (IntKind.u32.wrap ((BitVec.ofInt IntKind.u32.bits (IntKind.u32.wrap ((BitVec.ofInt IntKind.u32.bits (IntKind.u32.wrap ((BitVec.ofInt IntKind.u32.bits (IntKind.u32.wrap ((IntKind.u32.wrap b2) * 2 ^ (Nat.min 24 IntKind.u32.bits))) ||| BitVec.ofInt IntKind.u32.bits (IntKind.u32.wrap ((IntKind.u32.wrap b4) * 2 ^ (Nat.min 16 IntKind.u32.bits)))).toNat:Int)) ||| BitVec.ofInt IntKind.u32.bits (IntKind.u32.wrap ((IntKind.u32.wrap b6) * 2 ^ (Nat.min 8 IntKind.u32.bits)))).toNat:Int)) ||| BitVec.ofInt IntKind.u32.bits (IntKind.u32.wrap b8)).toNat:Int))) = List.map (TV.int .u32) (v3.set v5.toNat (IntKind.u32.wrap ((BitVec.ofInt IntKind.u32.bits (IntKind.u32.wrap ((BitVec.ofInt IntKind.u32.bits (IntKind.u32.wrap ((BitVec.ofInt IntKind.u32.bits (IntKind.u32.wrap ((IntKind.u32.wrap b2) * 2 ^ (Nat.min 24 IntKind.u32.bits))) ||| BitVec.ofInt IntKind.u32.bits (IntKind.u32.wrap ((IntKind.u32.wrap b4) * 2 ^ (Nat.min 16 IntKind.u32.bits)))).toNat:Int)) ||| BitVec.ofInt IntKind.u32.bits (IntKind.u32.wrap ((IntKind.u32.wrap b6) * 2 ^ (Nat.min 8 IntKind.u32.bits)))).toNat:Int)) ||| BitVec.ofInt IntKind.u32.bits (IntKind.u32.wrap b8)).toNat:Int))):=zbkv (enc:=(TV.int .u32)) _ _ _
   injection h with h; subst h
   have ih:=ih (v3.set v5.toNat (IntKind.u32.wrap ((BitVec.ofInt IntKind.u32.bits (IntKind.u32.wrap ((BitVec.ofInt IntKind.u32.bits (IntKind.u32.wrap ((BitVec.ofInt IntKind.u32.bits (IntKind.u32.wrap ((IntKind.u32.wrap b2) * 2 ^ (Nat.min 24 IntKind.u32.bits))) ||| BitVec.ofInt IntKind.u32.bits (IntKind.u32.wrap ((IntKind.u32.wrap b4) * 2 ^ (Nat.min 16 IntKind.u32.bits)))).toNat:Int)) ||| BitVec.ofInt IntKind.u32.bits (IntKind.u32.wrap ((IntKind.u32.wrap b6) * 2 ^ (Nat.min 8 IntKind.u32.bits)))).toNat:Int)) ||| BitVec.ofInt IntKind.u32.bits (IntKind.u32.wrap b8)).toNat:Int))) (IntKind.i64.wrap (v5 + (1:Int))) rfl
   unfold nn at ih
   simp -implicitDefEqProofs only [t7,fj,TT,Ic.t,ci,reduceEqDiff,reduceIte,reduceAdd,reduceMul,reduceLT,reduceLeDiff,reduceSub,reduceCtorEq,reduceEq,reduceNe,reduceToNat,Int.reduceLT,reduceLE,reduceNeg,hl,ha0,hi0,ha1,hi1,ha2,hi2,hw2,ha3,hi3,nq hn0_2,nq hn1_2,nq hn2_3,c1,f3.1,f3.2.1,f3.2.2,f5.1,f5.2.1,f5.2.2,f7.1,f7.2.1,f7.2.2,f9.1,f9.2.1,f9.2.2,c10,c11,f12,CL,LTN]
   rw [hn]
   simp -implicitDefEqProofs only [TT,Ic.t,ci,reduceEqDiff,reduceIte,reduceAdd,reduceMul,reduceLT,reduceLeDiff,reduceSub,reduceCtorEq,reduceEq,reduceNe,reduceToNat,Int.reduceLT,reduceLE,reduceNeg,hl,ha0,hi0,ha1,hi1,ha2,hi2,hw2,ha3,hi3,nq hn0_2,nq hn1_2,nq hn2_3,c1,f3.1,f3.2.1,f3.2.2,f5.1,f5.2.1,f5.2.2,f7.1,f7.2.1,f7.2.2,f9.1,f9.2.1,f9.2.2,c10,c11,f12,CL,LTN]
   exact ih  (τ.put o2 ⟨bd,List.map (TV.int .u32) (v3.set v5.toNat (IntKind.u32.wrap ((BitVec.ofInt IntKind.u32.bits (IntKind.u32.wrap ((BitVec.ofInt IntKind.u32.bits (IntKind.u32.wrap ((BitVec.ofInt IntKind.u32.bits (IntKind.u32.wrap ((IntKind.u32.wrap b2) * 2 ^ (Nat.min 24 IntKind.u32.bits))) ||| BitVec.ofInt IntKind.u32.bits (IntKind.u32.wrap ((IntKind.u32.wrap b4) * 2 ^ (Nat.min 16 IntKind.u32.bits)))).toNat:Int)) ||| BitVec.ofInt IntKind.u32.bits (IntKind.u32.wrap ((IntKind.u32.wrap b6) * 2 ^ (Nat.min 8 IntKind.u32.bits)))).toNat:Int)) ||| BitVec.ofInt IntKind.u32.bits (IntKind.u32.wrap b8)).toNat:Int)))⟩) o0 o1 o2 o3   (by first | assumption | (simp only [aa,af]; assumption)) (by simp -implicitDefEqProofs only [TT,Ic.t,ci,reduceEqDiff,reduceIte,reduceAdd,reduceMul,reduceLT,reduceLeDiff,reduceSub,reduceCtorEq,reduceEq,reduceNe,reduceToNat,Int.reduceLT,reduceLE,reduceNeg,hl,ha0,hi0,ha1,hi1,ha2,hi2,hw2,ha3,hi3,nq hn0_2,nq hn1_2,nq hn2_3,c1,f3.1,f3.2.1,f3.2.2,f5.1,f5.2.1,f5.2.2,f7.1,f7.2.1,f7.2.2,f9.1,f9.2.1,f9.2.2,c10,c11,f12,CL,LTN]) (by first | assumption | (simp only [aa,af]; assumption)) (by simp -implicitDefEqProofs only [TT,Ic.t,ci,reduceEqDiff,reduceIte,reduceAdd,reduceMul,reduceLT,reduceLeDiff,reduceSub,reduceCtorEq,reduceEq,reduceNe,reduceToNat,Int.reduceLT,reduceLE,reduceNeg,hl,ha0,hi0,ha1,hi1,ha2,hi2,hw2,ha3,hi3,nq hn0_2,nq hn1_2,nq hn2_3,c1,f3.1,f3.2.1,f3.2.2,f5.1,f5.2.1,f5.2.2,f7.1,f7.2.1,f7.2.2,f9.1,f9.2.1,f9.2.2,c10,c11,f12,CL,LTN]) (by first | assumption | (simp only [aa,af]; assumption)) (by simp -implicitDefEqProofs only [TT,Ic.t,ci,reduceEqDiff,reduceIte,reduceAdd,reduceMul,reduceLT,reduceLeDiff,reduceSub,reduceCtorEq,reduceEq,reduceNe,reduceToNat,Int.reduceLT,reduceLE,reduceNeg,hl,ha0,hi0,ha1,hi1,ha2,hi2,hw2,ha3,hi3,nq hn0_2,nq hn1_2,nq hn2_3,c1,f3.1,f3.2.1,f3.2.2,f5.1,f5.2.1,f5.2.2,f7.1,f7.2.1,f7.2.2,f9.1,f9.2.1,f9.2.2,c10,c11,f12,CL,LTN]) (by first | assumption | (simp only [aa,af]; assumption)) (by first | assumption | (simp only [aa,af]; assumption)) (by simp -implicitDefEqProofs only [TT,Ic.t,ci,reduceEqDiff,reduceIte,reduceAdd,reduceMul,reduceLT,reduceLeDiff,reduceSub,reduceCtorEq,reduceEq,reduceNe,reduceToNat,Int.reduceLT,reduceLE,reduceNeg,hl,ha0,hi0,ha1,hi1,ha2,hi2,hw2,ha3,hi3,nq hn0_2,nq hn1_2,nq hn2_3,c1,f3.1,f3.2.1,f3.2.2,f5.1,f5.2.1,f5.2.2,f7.1,f7.2.1,f7.2.2,f9.1,f9.2.1,f9.2.2,c10,c11,f12,CL,LTN]) (by first | assumption | (simp only [aa,af]; assumption)) hn0_2 hn1_2 hn2_3 Q (fun fr tk2 τ2 g0 g1 g2 g3 ht hτ => hQ0 fr tk2 τ2 g0 g1 g2 g3 ht (by first | exact hτ | simpa only [aa,tc,hl,ha0,hi0,ha1,hi1,ha2,hi2,hw2,ha3,hi3,nq hn0_2,nq hn1_2,nq hn2_3] using hτ))
 rw [if_neg c1] at h
 injection h with h; subst h
 obtain rfl:_ = r:=ih
 simp -implicitDefEqProofs only [t7,fj,TT,Ic.t,ci,reduceEqDiff,reduceIte,reduceAdd,reduceMul,reduceLT,reduceLeDiff,reduceSub,reduceCtorEq,reduceEq,reduceNe,reduceToNat,Int.reduceLT,reduceLE,reduceNeg,hl,ha0,hi0,ha1,hi1,ha2,hi2,hw2,ha3,hi3,nq hn0_2,nq hn1_2,nq hn2_3,he,hr,c1,CL,LTN]
 exact hQ0  _ _ _  (by first | rfl | (simp -implicitDefEqProofs only [TT,Ic.t,ci,reduceEqDiff,reduceIte,reduceAdd,reduceMul,reduceLT,reduceLeDiff,reduceSub,reduceCtorEq,reduceEq,reduceNe,reduceToNat,Int.reduceLT,reduceLE,reduceNeg,hl,ha0,hi0,ha1,hi1,ha2,hi2,hw2,ha3,hi3,nq hn0_2,nq hn1_2,nq hn2_3,c1,CL,LTN])) (by first | rfl | (simp -implicitDefEqProofs only [TT,Ic.t,ci,reduceEqDiff,reduceIte,reduceAdd,reduceMul,reduceLT,reduceLeDiff,reduceSub,reduceCtorEq,reduceEq,reduceNe,reduceToNat,Int.reduceLT,reduceLE,reduceNeg,hl,ha0,hi0,ha1,hi1,ha2,hi2,hw2,ha3,hi3,nq hn0_2,nq hn1_2,nq hn2_3,c1,CL,LTN])) (by first | rfl | (simp -implicitDefEqProofs only [TT,Ic.t,ci,reduceEqDiff,reduceIte,reduceAdd,reduceMul,reduceLT,reduceLeDiff,reduceSub,reduceCtorEq,reduceEq,reduceNe,reduceToNat,Int.reduceLT,reduceLE,reduceNeg,hl,ha0,hi0,ha1,hi1,ha2,hi2,hw2,ha3,hi3,nq hn0_2,nq hn1_2,nq hn2_3,c1,CL,LTN])) (by first | rfl | (simp -implicitDefEqProofs only [TT,Ic.t,ci,reduceEqDiff,reduceIte,reduceAdd,reduceMul,reduceLT,reduceLeDiff,reduceSub,reduceCtorEq,reduceEq,reduceNe,reduceToNat,Int.reduceLT,reduceLE,reduceNeg,hl,ha0,hi0,ha1,hi1,ha2,hi2,hw2,ha3,hi3,nq hn0_2,nq hn1_2,nq hn2_3,c1,CL,LTN])) (by first | rfl | (simp -implicitDefEqProofs only [TT,Ic.t,ci,reduceEqDiff,reduceIte,reduceAdd,reduceMul,reduceLT,reduceLeDiff,reduceSub,reduceCtorEq,reduceEq,reduceNe,reduceToNat,Int.reduceLT,reduceLE,reduceNeg,hl,ha0,hi0,ha1,hi1,ha2,hi2,hw2,ha3,hi3,nq hn0_2,nq hn1_2,nq hn2_3,c1,CL,LTN])) (by first | exact f0 (Nat.le_refl _) | (simp -implicitDefEqProofs only [TT,Ic.t,ci,reduceEqDiff,reduceIte,reduceAdd,reduceMul,reduceLT,reduceLeDiff,reduceSub,reduceCtorEq,reduceEq,reduceNe,reduceToNat,Int.reduceLT,reduceLE,reduceNeg,hl,ha0,hi0,ha1,hi1,ha2,hi2,hw2,ha3,hi3,nq hn0_2,nq hn1_2,nq hn2_3,kr ha2,c1,CL,LTN]))
def dq (v0:(List Int)) (v1:(List Int)) (v3:(List Int)) (v2:(List Int)) (v4:Int):Option (LS ((List Int) × Int) ((List Int))) :=
 if v4 < (64:Int) then
  if 0 ≤ (IntKind.i64.wrap (v4 - (15:Int))) ∧ (IntKind.i64.wrap (v4 - (15:Int))) < ((64:Nat):Int) then
   ixL v2 (IntKind.i64.wrap (v4 - (15:Int))) >>= fun y3 =>
   fk y3 (7:Int) >>= fun y5 =>
   fk y3 (18:Int) >>= fun y7 =>
   some (IntKind.u32.wrap ((BitVec.ofInt IntKind.u32.bits (IntKind.u32.wrap ((BitVec.ofInt IntKind.u32.bits y5 ^^^ BitVec.ofInt IntKind.u32.bits y7).toNat:Int)) ^^^ BitVec.ofInt IntKind.u32.bits (Int.fdiv y3 (2 ^ (Nat.min 3 IntKind.u32.bits)))).toNat:Int)) >>= fun x9 =>
   if 0 ≤ (IntKind.i64.wrap (v4 - (2:Int))) ∧ (IntKind.i64.wrap (v4 - (2:Int))) < ((64:Nat):Int) then
    ixL v2 (IntKind.i64.wrap (v4 - (2:Int))) >>= fun y12 =>
    fk y12 (17:Int) >>= fun y14 =>
    fk y12 (19:Int) >>= fun y16 =>
    some (IntKind.u32.wrap ((BitVec.ofInt IntKind.u32.bits (IntKind.u32.wrap ((BitVec.ofInt IntKind.u32.bits y14 ^^^ BitVec.ofInt IntKind.u32.bits y16).toNat:Int)) ^^^ BitVec.ofInt IntKind.u32.bits (Int.fdiv y12 (2 ^ (Nat.min 10 IntKind.u32.bits)))).toNat:Int)) >>= fun x18 =>
    if 0 ≤ (IntKind.i64.wrap (v4 - (16:Int))) ∧ (IntKind.i64.wrap (v4 - (16:Int))) < ((64:Nat):Int) then
     ixL v2 (IntKind.i64.wrap (v4 - (16:Int))) >>= fun y21 =>
     if 0 ≤ (IntKind.i64.wrap (v4 - (7:Int))) ∧ (IntKind.i64.wrap (v4 - (7:Int))) < ((64:Nat):Int) then
      ixL v2 (IntKind.i64.wrap (v4 - (7:Int))) >>= fun y24 =>
      if 0 ≤ v4 ∧ v4 < ((64:Nat):Int) then
       if v4.toNat + 1 ≤ v2.length then
        some (.nx ((v2.set v4.toNat (IntKind.u32.wrap ((IntKind.u32.wrap ((IntKind.u32.wrap (y21 + x9)) + y24)) + x18))),(IntKind.i64.wrap (v4 + (1:Int)))))
       else
        none
      else
       none
     else
      none
    else
     none
   else
    none
  else
   none
 else
 some (.dn v2)
def my (v0:(List Int)) (v1:(List Int)) (v3:(List Int)) (v2:(List Int)) (v4:Int):Option ((List Int)):=lf (fun st => dq v0 v1 v3 st.1 st.2) (v2,v4)
theorem zb8n (v0:(List Int)) (v1:(List Int)) (v3:(List Int)) (v2:(List Int)) (v4:Int):my v0 v1 v3 v2 v4 = dq v0 v1 v3 v2 v4 >>= LS.go (fun st => my v0 v1 v3 st.1 st.2):=dj (fun st => dq v0 v1 v3 st.1 st.2) (v2,v4)
def nm (v0:(List Int)) (v1:(List Int)) (v3:(List Int)) (v2:(List Int)) (v4:Int) (r:(List Int)):Prop:=∀ (τ:TH) (o0:Nat) (o1:Nat) (o2:Nat) (o3:Nat) (hl:τ.lock ≤ τ.next) (ha0:τ.at o0 = some ⟨ce,List.map (TV.int .u32) v0⟩) (hi0:o0 < τ.next) (ha1:τ.at o1 = some ⟨ce,List.map (TV.int .u32) v1⟩) (hi1:o1 < τ.next) (ha2:τ.at o2 = some ⟨bd,List.map (TV.int .u32) v2⟩) (hi2:o2 < τ.next) (hw2:τ.lock ≤ o2) (ha3:τ.at o3 = some ⟨bd,List.map (TV.int .u32) v3⟩) (hi3:o3 < τ.next) (hn0_2:o0 ≠ o2) (hn1_2:o1 ≠ o2) (hn2_3:o2 ≠ o3) (Q:TEx → ak) (hQ0:∀ (fr:TF) (tk2:TK) (τ2:TH),lkp fr 2 = .ptr o0 0 → lkp fr 4 = .ptr o1 0 → lkp fr 5 = .ptr o2 0 → lkp fr 6 = .ptr o3 0 → tk2.take 0 = [] → τ2.cut τ.next = (τ.put o2 ⟨bd,List.map (TV.int .u32) r⟩) → Q (.exit 2) fr tk2 τ2) ,tW G (.loop [2,4,5,6,8] t6) Q [(2,.ptr o0 0),(4,.ptr o1 0),(5,.ptr o2 0),(6,.ptr o3 0),(8,.int .i64 v4)] [] τ
theorem zchn (v0:(List Int)) (v1:(List Int)) (v3:(List Int)) (v2:(List Int)) (v4:Int) (r:(List Int)) (h:my v0 v1 v3 v2 v4 = some r):nm v0 v1 v3 v2 v4 r:=by
 refine ct (f:=fun st => dq v0 v1 v3 st.1 st.2) (P:=fun st r => ∀ (v2:(List Int)) (v4:Int),(v2,v4) = st → nm v0 v1 v3 v2 v4 r) ?_ h v2 v4 rfl
 clear h r v4 v2
 intro st o h r ih v2 v4 hst τ o0 o1 o2 o3  hl ha0 hi0 ha1 hi1 ha2 hi2 hw2 ha3 hi3 hn0_2 hn1_2 hn2_3 Q hQ0
 subst hst
 have h:dq v0 v1 v3 v2 v4 = some o:=h
 unfold dq at h
 refine qp fun LQ hn hr he => ?_
 by_cases c1:v4 < (64:Int)
 · rw [if_pos c1] at h
   obtain ⟨c2,h⟩:=ifS h
   obtain ⟨y3,hy3,h⟩:=ob h
   have f4:=au hy3
   have f4a:=(f4.2.2 (TV.int .u32)).1
   have f4b:=(f4.2.2 (TV.int .u32)).2
   try simp only [CL,MC,reduceToNat] at f4 f4a f4b
   obtain ⟨y5,hy5,h⟩:=ob h
   have k6:=gq y3 (7:Int) _ hy5
   try simp only [CL,MC,reduceToNat] at k6
   obtain ⟨y7,hy7,h⟩:=ob h
   have k8:=gq y3 (18:Int) _ hy7
   try simp only [CL,MC,reduceToNat] at k8
   obtain ⟨x9,hx9,h⟩:=ob h
   have f10:=Option.some.inj hx9
   obtain ⟨c11,h⟩:=ifS h
   obtain ⟨y12,hy12,h⟩:=ob h
   have f13:=au hy12
   have f13a:=(f13.2.2 (TV.int .u32)).1
   have f13b:=(f13.2.2 (TV.int .u32)).2
   try simp only [CL,MC,reduceToNat] at f13 f13a f13b
   obtain ⟨y14,hy14,h⟩:=ob h
   have k15:=gq y12 (17:Int) _ hy14
   try simp only [CL,MC,reduceToNat] at k15
   obtain ⟨y16,hy16,h⟩:=ob h
   have k17:=gq y12 (19:Int) _ hy16
   try simp only [CL,MC,reduceToNat] at k17
   obtain ⟨x18,hx18,h⟩:=ob h
   have f19:=Option.some.inj hx18
   obtain ⟨c20,h⟩:=ifS h
   obtain ⟨y21,hy21,h⟩:=ob h
   have f22:=au hy21
   have f22a:=(f22.2.2 (TV.int .u32)).1
   have f22b:=(f22.2.2 (TV.int .u32)).2
   try simp only [CL,MC,reduceToNat] at f22 f22a f22b
   obtain ⟨c23,h⟩:=ifS h
   obtain ⟨y24,hy24,h⟩:=ob h
   have f25:=au hy24
   have f25a:=(f25.2.2 (TV.int .u32)).1
   have f25b:=(f25.2.2 (TV.int .u32)).2
   try simp only [CL,MC,reduceToNat] at f25 f25a f25b
   obtain ⟨c26,h⟩:=ifS h
   obtain ⟨c27,h⟩:=ifS h
   have f28:(List.map (TV.int .u32) v2).set v4.toNat (.int .u32 (IntKind.u32.wrap ((IntKind.u32.wrap ((IntKind.u32.wrap (y21 + x9)) + y24)) + x18))) = List.map (TV.int .u32) (v2.set v4.toNat (IntKind.u32.wrap ((IntKind.u32.wrap ((IntKind.u32.wrap (y21 + x9)) + y24)) + x18))):=zbkv (enc:=(TV.int .u32)) _ _ _
   injection h with h; subst h
   have ih:=ih (v2.set v4.toNat (IntKind.u32.wrap ((IntKind.u32.wrap ((IntKind.u32.wrap (y21 + x9)) + y24)) + x18))) (IntKind.i64.wrap (v4 + (1:Int))) rfl
   unfold nm at ih
   simp -implicitDefEqProofs only [t6,fj,TT,Ic.t,ci,reduceEqDiff,reduceIte,reduceAdd,reduceMul,reduceLT,reduceLeDiff,reduceSub,reduceCtorEq,reduceEq,reduceNe,reduceToNat,Int.reduceLT,reduceLE,reduceNeg,hl,ha0,hi0,ha1,hi1,ha2,hi2,hw2,ha3,hi3,nq hn0_2,nq hn1_2,nq hn2_3,c1,c2,f4.1,f4.2.1,f4a,f4b,k6,k8,f10,c11,f13.1,f13.2.1,f13a,f13b,k15,k17,f19,c20,f22.1,f22.2.1,f22a,f22b,c23,f25.1,f25.2.1,f25a,f25b,c26,c27,f28,CL,LTN]
   rw [hn]
   simp -implicitDefEqProofs only [TT,Ic.t,ci,reduceEqDiff,reduceIte,reduceAdd,reduceMul,reduceLT,reduceLeDiff,reduceSub,reduceCtorEq,reduceEq,reduceNe,reduceToNat,Int.reduceLT,reduceLE,reduceNeg,hl,ha0,hi0,ha1,hi1,ha2,hi2,hw2,ha3,hi3,nq hn0_2,nq hn1_2,nq hn2_3,c1,c2,f4.1,f4.2.1,f4a,f4b,k6,k8,f10,c11,f13.1,f13.2.1,f13a,f13b,k15,k17,f19,c20,f22.1,f22.2.1,f22a,f22b,c23,f25.1,f25.2.1,f25a,f25b,c26,c27,f28,CL,LTN]
   exact ih  (τ.put o2 ⟨bd,List.map (TV.int .u32) (v2.set v4.toNat (IntKind.u32.wrap ((IntKind.u32.wrap ((IntKind.u32.wrap (y21 + x9)) + y24)) + x18)))⟩) o0 o1 o2 o3   (by first | assumption | (simp only [aa,af]; assumption)) (by simp -implicitDefEqProofs only [TT,Ic.t,ci,reduceEqDiff,reduceIte,reduceAdd,reduceMul,reduceLT,reduceLeDiff,reduceSub,reduceCtorEq,reduceEq,reduceNe,reduceToNat,Int.reduceLT,reduceLE,reduceNeg,hl,ha0,hi0,ha1,hi1,ha2,hi2,hw2,ha3,hi3,nq hn0_2,nq hn1_2,nq hn2_3,c1,c2,f4.1,f4.2.1,f4a,f4b,k6,k8,f10,c11,f13.1,f13.2.1,f13a,f13b,k15,k17,f19,c20,f22.1,f22.2.1,f22a,f22b,c23,f25.1,f25.2.1,f25a,f25b,c26,c27,f28,CL,LTN]) (by first | assumption | (simp only [aa,af]; assumption)) (by simp -implicitDefEqProofs only [TT,Ic.t,ci,reduceEqDiff,reduceIte,reduceAdd,reduceMul,reduceLT,reduceLeDiff,reduceSub,reduceCtorEq,reduceEq,reduceNe,reduceToNat,Int.reduceLT,reduceLE,reduceNeg,hl,ha0,hi0,ha1,hi1,ha2,hi2,hw2,ha3,hi3,nq hn0_2,nq hn1_2,nq hn2_3,c1,c2,f4.1,f4.2.1,f4a,f4b,k6,k8,f10,c11,f13.1,f13.2.1,f13a,f13b,k15,k17,f19,c20,f22.1,f22.2.1,f22a,f22b,c23,f25.1,f25.2.1,f25a,f25b,c26,c27,f28,CL,LTN]) (by first | assumption | (simp only [aa,af]; assumption)) (by simp -implicitDefEqProofs only [TT,Ic.t,ci,reduceEqDiff,reduceIte,reduceAdd,reduceMul,reduceLT,reduceLeDiff,reduceSub,reduceCtorEq,reduceEq,reduceNe,reduceToNat,Int.reduceLT,reduceLE,reduceNeg,hl,ha0,hi0,ha1,hi1,ha2,hi2,hw2,ha3,hi3,nq hn0_2,nq hn1_2,nq hn2_3,c1,c2,f4.1,f4.2.1,f4a,f4b,k6,k8,f10,c11,f13.1,f13.2.1,f13a,f13b,k15,k17,f19,c20,f22.1,f22.2.1,f22a,f22b,c23,f25.1,f25.2.1,f25a,f25b,c26,c27,f28,CL,LTN]) (by first | assumption | (simp only [aa,af]; assumption)) (by first | assumption | (simp only [aa,af]; assumption)) (by simp -implicitDefEqProofs only [TT,Ic.t,ci,reduceEqDiff,reduceIte,reduceAdd,reduceMul,reduceLT,reduceLeDiff,reduceSub,reduceCtorEq,reduceEq,reduceNe,reduceToNat,Int.reduceLT,reduceLE,reduceNeg,hl,ha0,hi0,ha1,hi1,ha2,hi2,hw2,ha3,hi3,nq hn0_2,nq hn1_2,nq hn2_3,c1,c2,f4.1,f4.2.1,f4a,f4b,k6,k8,f10,c11,f13.1,f13.2.1,f13a,f13b,k15,k17,f19,c20,f22.1,f22.2.1,f22a,f22b,c23,f25.1,f25.2.1,f25a,f25b,c26,c27,f28,CL,LTN]) (by first | assumption | (simp only [aa,af]; assumption)) hn0_2 hn1_2 hn2_3 Q (fun fr tk2 τ2 g0 g1 g2 g3 ht hτ => hQ0 fr tk2 τ2 g0 g1 g2 g3 ht (by first | exact hτ | simpa only [aa,tc,hl,ha0,hi0,ha1,hi1,ha2,hi2,hw2,ha3,hi3,nq hn0_2,nq hn1_2,nq hn2_3] using hτ))
 rw [if_neg c1] at h
 injection h with h; subst h
 obtain rfl:_ = r:=ih
 simp -implicitDefEqProofs only [t6,fj,TT,Ic.t,ci,reduceEqDiff,reduceIte,reduceAdd,reduceMul,reduceLT,reduceLeDiff,reduceSub,reduceCtorEq,reduceEq,reduceNe,reduceToNat,Int.reduceLT,reduceLE,reduceNeg,hl,ha0,hi0,ha1,hi1,ha2,hi2,hw2,ha3,hi3,nq hn0_2,nq hn1_2,nq hn2_3,he,hr,c1,CL,LTN]
 exact hQ0  _ _ _  (by first | rfl | (simp -implicitDefEqProofs only [TT,Ic.t,ci,reduceEqDiff,reduceIte,reduceAdd,reduceMul,reduceLT,reduceLeDiff,reduceSub,reduceCtorEq,reduceEq,reduceNe,reduceToNat,Int.reduceLT,reduceLE,reduceNeg,hl,ha0,hi0,ha1,hi1,ha2,hi2,hw2,ha3,hi3,nq hn0_2,nq hn1_2,nq hn2_3,c1,CL,LTN])) (by first | rfl | (simp -implicitDefEqProofs only [TT,Ic.t,ci,reduceEqDiff,reduceIte,reduceAdd,reduceMul,reduceLT,reduceLeDiff,reduceSub,reduceCtorEq,reduceEq,reduceNe,reduceToNat,Int.reduceLT,reduceLE,reduceNeg,hl,ha0,hi0,ha1,hi1,ha2,hi2,hw2,ha3,hi3,nq hn0_2,nq hn1_2,nq hn2_3,c1,CL,LTN])) (by first | rfl | (simp -implicitDefEqProofs only [TT,Ic.t,ci,reduceEqDiff,reduceIte,reduceAdd,reduceMul,reduceLT,reduceLeDiff,reduceSub,reduceCtorEq,reduceEq,reduceNe,reduceToNat,Int.reduceLT,reduceLE,reduceNeg,hl,ha0,hi0,ha1,hi1,ha2,hi2,hw2,ha3,hi3,nq hn0_2,nq hn1_2,nq hn2_3,c1,CL,LTN])) (by first | rfl | (simp -implicitDefEqProofs only [TT,Ic.t,ci,reduceEqDiff,reduceIte,reduceAdd,reduceMul,reduceLT,reduceLeDiff,reduceSub,reduceCtorEq,reduceEq,reduceNe,reduceToNat,Int.reduceLT,reduceLE,reduceNeg,hl,ha0,hi0,ha1,hi1,ha2,hi2,hw2,ha3,hi3,nq hn0_2,nq hn1_2,nq hn2_3,c1,CL,LTN])) (by first | rfl | (simp -implicitDefEqProofs only [TT,Ic.t,ci,reduceEqDiff,reduceIte,reduceAdd,reduceMul,reduceLT,reduceLeDiff,reduceSub,reduceCtorEq,reduceEq,reduceNe,reduceToNat,Int.reduceLT,reduceLE,reduceNeg,hl,ha0,hi0,ha1,hi1,ha2,hi2,hw2,ha3,hi3,nq hn0_2,nq hn1_2,nq hn2_3,c1,CL,LTN])) (by first | exact f0 (Nat.le_refl _) | (simp -implicitDefEqProofs only [TT,Ic.t,ci,reduceEqDiff,reduceIte,reduceAdd,reduceMul,reduceLT,reduceLeDiff,reduceSub,reduceCtorEq,reduceEq,reduceNe,reduceToNat,Int.reduceLT,reduceLE,reduceNeg,hl,ha0,hi0,ha1,hi1,ha2,hi2,hw2,ha3,hi3,nq hn0_2,nq hn1_2,nq hn2_3,kr ha2,c1,CL,LTN]))
def dp (v0:(List Int)) (v1:(List Int)) (v2:(List Int)) (v3:(List Int)) (v4:(List Int)) (v5:Int):Option (LS ((List Int) × Int) ((List Int))) :=
 if v5 < (64:Int) then
  ixL v4 (4:Int) >>= fun y3 =>
  fk y3 (6:Int) >>= fun y7 =>
  fk y3 (11:Int) >>= fun y9 =>
  fk y3 (25:Int) >>= fun y11 =>
  some (IntKind.u32.wrap ((BitVec.ofInt IntKind.u32.bits (IntKind.u32.wrap ((BitVec.ofInt IntKind.u32.bits y7 ^^^ BitVec.ofInt IntKind.u32.bits y9).toNat:Int)) ^^^ BitVec.ofInt IntKind.u32.bits y11).toNat:Int)) >>= fun x13 =>
  ixL v4 (7:Int) >>= fun y16 =>
  ixL v4 (5:Int) >>= fun y20 =>
  ixL v4 (6:Int) >>= fun y24 =>
  if 0 ≤ v5 ∧ v5 < ((64:Nat):Int) then
   ixL v3 v5 >>= fun y27 =>
   ixL v2 v5 >>= fun y29 =>
   some (IntKind.u32.wrap ((IntKind.u32.wrap ((IntKind.u32.wrap ((IntKind.u32.wrap (y16 + x13)) + (IntKind.u32.wrap ((BitVec.ofInt IntKind.u32.bits (IntKind.u32.wrap ((BitVec.ofInt IntKind.u32.bits y3 &&& BitVec.ofInt IntKind.u32.bits y20).toNat:Int)) ^^^ BitVec.ofInt IntKind.u32.bits (IntKind.u32.wrap ((BitVec.ofInt IntKind.u32.bits (zbrt .u32 y3) &&& BitVec.ofInt IntKind.u32.bits y24).toNat:Int))).toNat:Int)))) + y27)) + y29)) >>= fun x31 =>
   ixL v4 (0:Int) >>= fun y34 =>
   fk y34 (2:Int) >>= fun y38 =>
   fk y34 (13:Int) >>= fun y40 =>
   fk y34 (22:Int) >>= fun y42 =>
   some (IntKind.u32.wrap ((BitVec.ofInt IntKind.u32.bits (IntKind.u32.wrap ((BitVec.ofInt IntKind.u32.bits y38 ^^^ BitVec.ofInt IntKind.u32.bits y40).toNat:Int)) ^^^ BitVec.ofInt IntKind.u32.bits y42).toNat:Int)) >>= fun x44 =>
   ixL v4 (1:Int) >>= fun y48 =>
   ixL v4 (2:Int) >>= fun y52 =>
   some (IntKind.u32.wrap (x44 + (IntKind.u32.wrap ((BitVec.ofInt IntKind.u32.bits (IntKind.u32.wrap ((BitVec.ofInt IntKind.u32.bits (IntKind.u32.wrap ((BitVec.ofInt IntKind.u32.bits y34 &&& BitVec.ofInt IntKind.u32.bits y48).toNat:Int)) ^^^ BitVec.ofInt IntKind.u32.bits (IntKind.u32.wrap ((BitVec.ofInt IntKind.u32.bits y34 &&& BitVec.ofInt IntKind.u32.bits y52).toNat:Int))).toNat:Int)) ^^^ BitVec.ofInt IntKind.u32.bits (IntKind.u32.wrap ((BitVec.ofInt IntKind.u32.bits y48 &&& BitVec.ofInt IntKind.u32.bits y52).toNat:Int))).toNat:Int)))) >>= fun x56 =>
   ixL v4 (3:Int) >>= fun y62 =>
   if v4.length = 8 then
    some (.nx ([(IntKind.u32.wrap (x31 + x56)),y34,y48,y52,(IntKind.u32.wrap (y62 + x31)),y3,y20,y24],(IntKind.i64.wrap (v5 + (1:Int)))))
   else
    none
  else
   none
 else
 some (.dn v4)
def mw (v0:(List Int)) (v1:(List Int)) (v2:(List Int)) (v3:(List Int)) (v4:(List Int)) (v5:Int):Option ((List Int)):=lf (fun st => dp v0 v1 v2 v3 st.1 st.2) (v4,v5)
theorem zb8o (v0:(List Int)) (v1:(List Int)) (v2:(List Int)) (v3:(List Int)) (v4:(List Int)) (v5:Int):mw v0 v1 v2 v3 v4 v5 = dp v0 v1 v2 v3 v4 v5 >>= LS.go (fun st => mw v0 v1 v2 v3 st.1 st.2):=dj (fun st => dp v0 v1 v2 v3 st.1 st.2) (v4,v5)
def nl (v0:(List Int)) (v1:(List Int)) (v2:(List Int)) (v3:(List Int)) (v4:(List Int)) (v5:Int) (r:(List Int)):Prop:=∀ (τ:TH) (o0:Nat) (o1:Nat) (o2:Nat) (o3:Nat) (o4:Nat) (hl:τ.lock ≤ τ.next) (ha0:τ.at o0 = some ⟨ce,List.map (TV.int .u32) v0⟩) (hi0:o0 < τ.next) (ha1:τ.at o1 = some ⟨ce,List.map (TV.int .u32) v1⟩) (hi1:o1 < τ.next) (ha2:τ.at o2 = some ⟨bd,List.map (TV.int .u32) v2⟩) (hi2:o2 < τ.next) (ha3:τ.at o3 = some ⟨bd,List.map (TV.int .u32) v3⟩) (hi3:o3 < τ.next) (ha4:τ.at o4 = some ⟨ce,List.map (TV.int .u32) v4⟩) (hi4:o4 < τ.next) (hw4:τ.lock ≤ o4) (hn0_4:o0 ≠ o4) (hn1_4:o1 ≠ o4) (hn2_4:o2 ≠ o4) (hn3_4:o3 ≠ o4) (Q:TEx → ak) (hQ0:∀ (fr:TF) (tk2:TK) (τ2:TH),lkp fr 2 = .ptr o0 0 → lkp fr 4 = .ptr o1 0 → lkp fr 11 = .ptr o4 0 → tk2.take 0 = [] → τ2.cut τ.next = (τ.put o4 ⟨ce,List.map (TV.int .u32) r⟩) → Q (.exit 4) fr tk2 τ2) ,tW G (.loop [2,4,5,6,11,12] t5) Q [(2,.ptr o0 0),(4,.ptr o1 0),(5,.ptr o2 0),(6,.ptr o3 0),(11,.ptr o4 0),(12,.int .i64 v5)] [] τ
theorem zcho (v0:(List Int)) (v1:(List Int)) (v2:(List Int)) (v3:(List Int)) (v4:(List Int)) (v5:Int) (r:(List Int)) (h:mw v0 v1 v2 v3 v4 v5 = some r):nl v0 v1 v2 v3 v4 v5 r:=by
 refine ct (f:=fun st => dp v0 v1 v2 v3 st.1 st.2) (P:=fun st r => ∀ (v4:(List Int)) (v5:Int),(v4,v5) = st → nl v0 v1 v2 v3 v4 v5 r) ?_ h v4 v5 rfl
 clear h r v5 v4
 intro st o h r ih v4 v5 hst τ o0 o1 o2 o3 o4  hl ha0 hi0 ha1 hi1 ha2 hi2 ha3 hi3 ha4 hi4 hw4 hn0_4 hn1_4 hn2_4 hn3_4 Q hQ0
 subst hst
 have h:dp v0 v1 v2 v3 v4 v5 = some o:=h
 unfold dp at h
 refine qp fun LQ hn hr he => ?_
 by_cases c1:v5 < (64:Int)
 · rw [if_pos c1] at h
   have f2:(4:Int) < ((8:Nat):Int):=by decide
   obtain ⟨y3,hy3,h⟩:=ob h
   have f4:=au hy3
   have f4a:=(f4.2.2 (TV.int .u32)).1
   have f4b:=(f4.2.2 (TV.int .u32)).2
   try simp only [CL,MC,reduceToNat] at f4 f4a f4b
   have f5:(4:Int) < ((8:Nat):Int):=by decide
   have f6:(4:Int) < ((8:Nat):Int):=by decide
   obtain ⟨y7,hy7,h⟩:=ob h
   have k8:=gq y3 (6:Int) _ hy7
   try simp only [CL,MC,reduceToNat] at k8
   obtain ⟨y9,hy9,h⟩:=ob h
   have k10:=gq y3 (11:Int) _ hy9
   try simp only [CL,MC,reduceToNat] at k10
   obtain ⟨y11,hy11,h⟩:=ob h
   have k12:=gq y3 (25:Int) _ hy11
   try simp only [CL,MC,reduceToNat] at k12
   obtain ⟨x13,hx13,h⟩:=ob h
   have f14:=Option.some.inj hx13
   have f15:(7:Int) < ((8:Nat):Int):=by decide
   obtain ⟨y16,hy16,h⟩:=ob h
   have f17:=au hy16
   have f17a:=(f17.2.2 (TV.int .u32)).1
   have f17b:=(f17.2.2 (TV.int .u32)).2
   try simp only [CL,MC,reduceToNat] at f17 f17a f17b
   have f18:(4:Int) < ((8:Nat):Int):=by decide
   have f19:(5:Int) < ((8:Nat):Int):=by decide
   obtain ⟨y20,hy20,h⟩:=ob h
   have f21:=au hy20
   have f21a:=(f21.2.2 (TV.int .u32)).1
   have f21b:=(f21.2.2 (TV.int .u32)).2
   try simp only [CL,MC,reduceToNat] at f21 f21a f21b
   have f22:(4:Int) < ((8:Nat):Int):=by decide
   have f23:(6:Int) < ((8:Nat):Int):=by decide
   obtain ⟨y24,hy24,h⟩:=ob h
   have f25:=au hy24
   have f25a:=(f25.2.2 (TV.int .u32)).1
   have f25b:=(f25.2.2 (TV.int .u32)).2
   try simp only [CL,MC,reduceToNat] at f25 f25a f25b
   obtain ⟨c26,h⟩:=ifS h
   obtain ⟨y27,hy27,h⟩:=ob h
   have f28:=au hy27
   have f28a:=(f28.2.2 (TV.int .u32)).1
   have f28b:=(f28.2.2 (TV.int .u32)).2
   try simp only [CL,MC,reduceToNat] at f28 f28a f28b
   obtain ⟨y29,hy29,h⟩:=ob h
   have f30:=au hy29
   have f30a:=(f30.2.2 (TV.int .u32)).1
   have f30b:=(f30.2.2 (TV.int .u32)).2
   try simp only [CL,MC,reduceToNat] at f30 f30a f30b
   obtain ⟨x31,hx31,h⟩:=ob h
   have f32:=Option.some.inj hx31
   have f33:(0:Int) < ((8:Nat):Int):=by decide
   obtain ⟨y34,hy34,h⟩:=ob h
   have f35:=au hy34
   have f35a:=(f35.2.2 (TV.int .u32)).1
   have f35b:=(f35.2.2 (TV.int .u32)).2
   try simp only [CL,MC,reduceToNat] at f35 f35a f35b
   have f36:(0:Int) < ((8:Nat):Int):=by decide
   have f37:(0:Int) < ((8:Nat):Int):=by decide
   obtain ⟨y38,hy38,h⟩:=ob h
   have k39:=gq y34 (2:Int) _ hy38
   try simp only [CL,MC,reduceToNat] at k39
   obtain ⟨y40,hy40,h⟩:=ob h
   have k41:=gq y34 (13:Int) _ hy40
   try simp only [CL,MC,reduceToNat] at k41
   obtain ⟨y42,hy42,h⟩:=ob h
   have k43:=gq y34 (22:Int) _ hy42
   try simp only [CL,MC,reduceToNat] at k43
   obtain ⟨x44,hx44,h⟩:=ob h
   have f45:=Option.some.inj hx44
   have f46:(0:Int) < ((8:Nat):Int):=by decide
   have f47:(1:Int) < ((8:Nat):Int):=by decide
   obtain ⟨y48,hy48,h⟩:=ob h
   have f49:=au hy48
   have f49a:=(f49.2.2 (TV.int .u32)).1
   have f49b:=(f49.2.2 (TV.int .u32)).2
   try simp only [CL,MC,reduceToNat] at f49 f49a f49b
   have f50:(0:Int) < ((8:Nat):Int):=by decide
   have f51:(2:Int) < ((8:Nat):Int):=by decide
   obtain ⟨y52,hy52,h⟩:=ob h
   have f53:=au hy52
   have f53a:=(f53.2.2 (TV.int .u32)).1
   have f53b:=(f53.2.2 (TV.int .u32)).2
   try simp only [CL,MC,reduceToNat] at f53 f53a f53b
   have f54:(1:Int) < ((8:Nat):Int):=by decide
   have f55:(2:Int) < ((8:Nat):Int):=by decide
   obtain ⟨x56,hx56,h⟩:=ob h
   have f57:=Option.some.inj hx56
   have f58:(0:Int) < ((8:Nat):Int):=by decide
   have f59:(1:Int) < ((8:Nat):Int):=by decide
   have f60:(2:Int) < ((8:Nat):Int):=by decide
   have f61:(3:Int) < ((8:Nat):Int):=by decide
   obtain ⟨y62,hy62,h⟩:=ob h
   have f63:=au hy62
   have f63a:=(f63.2.2 (TV.int .u32)).1
   have f63b:=(f63.2.2 (TV.int .u32)).2
   try simp only [CL,MC,reduceToNat] at f63 f63a f63b
   have f64:(4:Int) < ((8:Nat):Int):=by decide
   have f65:(5:Int) < ((8:Nat):Int):=by decide
   have f66:(6:Int) < ((8:Nat):Int):=by decide
   obtain ⟨c67,h⟩:=ifS h
   have f68:=av (enc:=(TV.int .u32)) (cs:=List.map (TV.int .u32) v4) (l:=[(IntKind.u32.wrap (x31 + x56)),y34,y48,y52,(IntKind.u32.wrap (y62 + x31)),y3,y20,y24]) (by simp [c67])
   simp only [List.map_cons,List.map_nil,zbsl,zbsa,Nat.zero_add,reduceAdd] at f68
   have f68b:=Nat.le_of_eq (Eq.symm c67)
   have f69:8 ≤ v4.length:=Nat.le_of_eq (Eq.symm c67)
   injection h with h; subst h
   have ih:=ih [(IntKind.u32.wrap (x31 + x56)),y34,y48,y52,(IntKind.u32.wrap (y62 + x31)),y3,y20,y24] (IntKind.i64.wrap (v5 + (1:Int))) rfl
   unfold nl at ih
   simp -implicitDefEqProofs only [t5,fj,TT,Ic.t,ci,reduceEqDiff,reduceIte,reduceAdd,reduceMul,reduceLT,reduceLeDiff,reduceSub,reduceCtorEq,reduceEq,reduceNe,reduceToNat,Int.reduceLT,reduceLE,reduceNeg,hl,ha0,hi0,ha1,hi1,ha2,hi2,ha3,hi3,ha4,hi4,hw4,nq hn0_4,nq hn1_4,nq hn2_4,nq hn3_4,c1,f2,f4.1,f4.2.1,f4a,f4b,f5,f6,k8,k10,k12,f14,f15,f17.1,f17.2.1,f17a,f17b,f18,f19,f21.1,f21.2.1,f21a,f21b,f22,f23,f25.1,f25.2.1,f25a,f25b,c26,f28.1,f28.2.1,f28a,f28b,f30.1,f30.2.1,f30a,f30b,f32,f33,f35.1,f35.2.1,f35a,f35b,f36,f37,k39,k41,k43,f45,f46,f47,f49.1,f49.2.1,f49a,f49b,f50,f51,f53.1,f53.2.1,f53a,f53b,f54,f55,f57,f58,f59,f60,f61,f63.1,f63.2.1,f63a,f63b,f64,f65,f66,c67,f68,f68b,f69,CL,LTN]
   rw [hn]
   simp -implicitDefEqProofs only [TT,Ic.t,ci,reduceEqDiff,reduceIte,reduceAdd,reduceMul,reduceLT,reduceLeDiff,reduceSub,reduceCtorEq,reduceEq,reduceNe,reduceToNat,Int.reduceLT,reduceLE,reduceNeg,hl,ha0,hi0,ha1,hi1,ha2,hi2,ha3,hi3,ha4,hi4,hw4,nq hn0_4,nq hn1_4,nq hn2_4,nq hn3_4,c1,f2,f4.1,f4.2.1,f4a,f4b,f5,f6,k8,k10,k12,f14,f15,f17.1,f17.2.1,f17a,f17b,f18,f19,f21.1,f21.2.1,f21a,f21b,f22,f23,f25.1,f25.2.1,f25a,f25b,c26,f28.1,f28.2.1,f28a,f28b,f30.1,f30.2.1,f30a,f30b,f32,f33,f35.1,f35.2.1,f35a,f35b,f36,f37,k39,k41,k43,f45,f46,f47,f49.1,f49.2.1,f49a,f49b,f50,f51,f53.1,f53.2.1,f53a,f53b,f54,f55,f57,f58,f59,f60,f61,f63.1,f63.2.1,f63a,f63b,f64,f65,f66,c67,f68,f68b,f69,CL,LTN]
   exact ih  (τ.put o4 ⟨ce,List.map (TV.int .u32) [(IntKind.u32.wrap (x31 + x56)),y34,y48,y52,(IntKind.u32.wrap (y62 + x31)),y3,y20,y24]⟩) o0 o1 o2 o3 o4   (by first | assumption | (simp only [aa,af]; assumption)) (by simp -implicitDefEqProofs only [TT,Ic.t,ci,reduceEqDiff,reduceIte,reduceAdd,reduceMul,reduceLT,reduceLeDiff,reduceSub,reduceCtorEq,reduceEq,reduceNe,reduceToNat,Int.reduceLT,reduceLE,reduceNeg,hl,ha0,hi0,ha1,hi1,ha2,hi2,ha3,hi3,ha4,hi4,hw4,nq hn0_4,nq hn1_4,nq hn2_4,nq hn3_4,c1,f2,f4.1,f4.2.1,f4a,f4b,f5,f6,k8,k10,k12,f14,f15,f17.1,f17.2.1,f17a,f17b,f18,f19,f21.1,f21.2.1,f21a,f21b,f22,f23,f25.1,f25.2.1,f25a,f25b,c26,f28.1,f28.2.1,f28a,f28b,f30.1,f30.2.1,f30a,f30b,f32,f33,f35.1,f35.2.1,f35a,f35b,f36,f37,k39,k41,k43,f45,f46,f47,f49.1,f49.2.1,f49a,f49b,f50,f51,f53.1,f53.2.1,f53a,f53b,f54,f55,f57,f58,f59,f60,f61,f63.1,f63.2.1,f63a,f63b,f64,f65,f66,c67,f68,f68b,f69,CL,LTN]) (by first | assumption | (simp only [aa,af]; assumption)) (by simp -implicitDefEqProofs only [TT,Ic.t,ci,reduceEqDiff,reduceIte,reduceAdd,reduceMul,reduceLT,reduceLeDiff,reduceSub,reduceCtorEq,reduceEq,reduceNe,reduceToNat,Int.reduceLT,reduceLE,reduceNeg,hl,ha0,hi0,ha1,hi1,ha2,hi2,ha3,hi3,ha4,hi4,hw4,nq hn0_4,nq hn1_4,nq hn2_4,nq hn3_4,c1,f2,f4.1,f4.2.1,f4a,f4b,f5,f6,k8,k10,k12,f14,f15,f17.1,f17.2.1,f17a,f17b,f18,f19,f21.1,f21.2.1,f21a,f21b,f22,f23,f25.1,f25.2.1,f25a,f25b,c26,f28.1,f28.2.1,f28a,f28b,f30.1,f30.2.1,f30a,f30b,f32,f33,f35.1,f35.2.1,f35a,f35b,f36,f37,k39,k41,k43,f45,f46,f47,f49.1,f49.2.1,f49a,f49b,f50,f51,f53.1,f53.2.1,f53a,f53b,f54,f55,f57,f58,f59,f60,f61,f63.1,f63.2.1,f63a,f63b,f64,f65,f66,c67,f68,f68b,f69,CL,LTN]) (by first | assumption | (simp only [aa,af]; assumption)) (by simp -implicitDefEqProofs only [TT,Ic.t,ci,reduceEqDiff,reduceIte,reduceAdd,reduceMul,reduceLT,reduceLeDiff,reduceSub,reduceCtorEq,reduceEq,reduceNe,reduceToNat,Int.reduceLT,reduceLE,reduceNeg,hl,ha0,hi0,ha1,hi1,ha2,hi2,ha3,hi3,ha4,hi4,hw4,nq hn0_4,nq hn1_4,nq hn2_4,nq hn3_4,c1,f2,f4.1,f4.2.1,f4a,f4b,f5,f6,k8,k10,k12,f14,f15,f17.1,f17.2.1,f17a,f17b,f18,f19,f21.1,f21.2.1,f21a,f21b,f22,f23,f25.1,f25.2.1,f25a,f25b,c26,f28.1,f28.2.1,f28a,f28b,f30.1,f30.2.1,f30a,f30b,f32,f33,f35.1,f35.2.1,f35a,f35b,f36,f37,k39,k41,k43,f45,f46,f47,f49.1,f49.2.1,f49a,f49b,f50,f51,f53.1,f53.2.1,f53a,f53b,f54,f55,f57,f58,f59,f60,f61,f63.1,f63.2.1,f63a,f63b,f64,f65,f66,c67,f68,f68b,f69,CL,LTN]) (by first | assumption | (simp only [aa,af]; assumption)) (by simp -implicitDefEqProofs only [TT,Ic.t,ci,reduceEqDiff,reduceIte,reduceAdd,reduceMul,reduceLT,reduceLeDiff,reduceSub,reduceCtorEq,reduceEq,reduceNe,reduceToNat,Int.reduceLT,reduceLE,reduceNeg,hl,ha0,hi0,ha1,hi1,ha2,hi2,ha3,hi3,ha4,hi4,hw4,nq hn0_4,nq hn1_4,nq hn2_4,nq hn3_4,c1,f2,f4.1,f4.2.1,f4a,f4b,f5,f6,k8,k10,k12,f14,f15,f17.1,f17.2.1,f17a,f17b,f18,f19,f21.1,f21.2.1,f21a,f21b,f22,f23,f25.1,f25.2.1,f25a,f25b,c26,f28.1,f28.2.1,f28a,f28b,f30.1,f30.2.1,f30a,f30b,f32,f33,f35.1,f35.2.1,f35a,f35b,f36,f37,k39,k41,k43,f45,f46,f47,f49.1,f49.2.1,f49a,f49b,f50,f51,f53.1,f53.2.1,f53a,f53b,f54,f55,f57,f58,f59,f60,f61,f63.1,f63.2.1,f63a,f63b,f64,f65,f66,c67,f68,f68b,f69,CL,LTN]) (by first | assumption | (simp only [aa,af]; assumption)) (by simp -implicitDefEqProofs only [TT,Ic.t,ci,reduceEqDiff,reduceIte,reduceAdd,reduceMul,reduceLT,reduceLeDiff,reduceSub,reduceCtorEq,reduceEq,reduceNe,reduceToNat,Int.reduceLT,reduceLE,reduceNeg,hl,ha0,hi0,ha1,hi1,ha2,hi2,ha3,hi3,ha4,hi4,hw4,nq hn0_4,nq hn1_4,nq hn2_4,nq hn3_4,c1,f2,f4.1,f4.2.1,f4a,f4b,f5,f6,k8,k10,k12,f14,f15,f17.1,f17.2.1,f17a,f17b,f18,f19,f21.1,f21.2.1,f21a,f21b,f22,f23,f25.1,f25.2.1,f25a,f25b,c26,f28.1,f28.2.1,f28a,f28b,f30.1,f30.2.1,f30a,f30b,f32,f33,f35.1,f35.2.1,f35a,f35b,f36,f37,k39,k41,k43,f45,f46,f47,f49.1,f49.2.1,f49a,f49b,f50,f51,f53.1,f53.2.1,f53a,f53b,f54,f55,f57,f58,f59,f60,f61,f63.1,f63.2.1,f63a,f63b,f64,f65,f66,c67,f68,f68b,f69,CL,LTN]) (by first | assumption | (simp only [aa,af]; assumption)) (by first | assumption | (simp only [aa,af]; assumption)) hn0_4 hn1_4 hn2_4 hn3_4 Q (fun fr tk2 τ2 g0 g1 g2 ht hτ => hQ0 fr tk2 τ2 g0 g1 g2 ht (by first | exact hτ | simpa only [aa,tc,hl,ha0,hi0,ha1,hi1,ha2,hi2,ha3,hi3,ha4,hi4,hw4,nq hn0_4,nq hn1_4,nq hn2_4,nq hn3_4] using hτ))
 rw [if_neg c1] at h
 injection h with h; subst h
 obtain rfl:_ = r:=ih
 simp -implicitDefEqProofs only [t5,fj,TT,Ic.t,ci,reduceEqDiff,reduceIte,reduceAdd,reduceMul,reduceLT,reduceLeDiff,reduceSub,reduceCtorEq,reduceEq,reduceNe,reduceToNat,Int.reduceLT,reduceLE,reduceNeg,hl,ha0,hi0,ha1,hi1,ha2,hi2,ha3,hi3,ha4,hi4,hw4,nq hn0_4,nq hn1_4,nq hn2_4,nq hn3_4,he,hr,c1,CL,LTN]
 exact hQ0  _ _ _  (by first | rfl | (simp -implicitDefEqProofs only [TT,Ic.t,ci,reduceEqDiff,reduceIte,reduceAdd,reduceMul,reduceLT,reduceLeDiff,reduceSub,reduceCtorEq,reduceEq,reduceNe,reduceToNat,Int.reduceLT,reduceLE,reduceNeg,hl,ha0,hi0,ha1,hi1,ha2,hi2,ha3,hi3,ha4,hi4,hw4,nq hn0_4,nq hn1_4,nq hn2_4,nq hn3_4,c1,CL,LTN])) (by first | rfl | (simp -implicitDefEqProofs only [TT,Ic.t,ci,reduceEqDiff,reduceIte,reduceAdd,reduceMul,reduceLT,reduceLeDiff,reduceSub,reduceCtorEq,reduceEq,reduceNe,reduceToNat,Int.reduceLT,reduceLE,reduceNeg,hl,ha0,hi0,ha1,hi1,ha2,hi2,ha3,hi3,ha4,hi4,hw4,nq hn0_4,nq hn1_4,nq hn2_4,nq hn3_4,c1,CL,LTN])) (by first | rfl | (simp -implicitDefEqProofs only [TT,Ic.t,ci,reduceEqDiff,reduceIte,reduceAdd,reduceMul,reduceLT,reduceLeDiff,reduceSub,reduceCtorEq,reduceEq,reduceNe,reduceToNat,Int.reduceLT,reduceLE,reduceNeg,hl,ha0,hi0,ha1,hi1,ha2,hi2,ha3,hi3,ha4,hi4,hw4,nq hn0_4,nq hn1_4,nq hn2_4,nq hn3_4,c1,CL,LTN])) (by first | rfl | (simp -implicitDefEqProofs only [TT,Ic.t,ci,reduceEqDiff,reduceIte,reduceAdd,reduceMul,reduceLT,reduceLeDiff,reduceSub,reduceCtorEq,reduceEq,reduceNe,reduceToNat,Int.reduceLT,reduceLE,reduceNeg,hl,ha0,hi0,ha1,hi1,ha2,hi2,ha3,hi3,ha4,hi4,hw4,nq hn0_4,nq hn1_4,nq hn2_4,nq hn3_4,c1,CL,LTN])) (by first | exact f0 (Nat.le_refl _) | (simp -implicitDefEqProofs only [TT,Ic.t,ci,reduceEqDiff,reduceIte,reduceAdd,reduceMul,reduceLT,reduceLeDiff,reduceSub,reduceCtorEq,reduceEq,reduceNe,reduceToNat,Int.reduceLT,reduceLE,reduceNeg,hl,ha0,hi0,ha1,hi1,ha2,hi2,ha3,hi3,ha4,hi4,hw4,nq hn0_4,nq hn1_4,nq hn2_4,nq hn3_4,kr ha4,c1,CL,LTN]))
def dm (v1:(List Int)) (v2:(List Int)) (v0:(List Int)) (v3:Int):Option (LS ((List Int) × Int) ((List Int))) :=
 if v3 < (8:Int) then
  if 0 ≤ v3 ∧ v3 < ((8:Nat):Int) then
   ixL v0 v3 >>= fun y3 =>
   ixL v2 v3 >>= fun y5 =>
   if v3.toNat + 1 ≤ v0.length then
    some (.nx ((v0.set v3.toNat (IntKind.u32.wrap (y3 + y5))),(IntKind.i64.wrap (v3 + (1:Int)))))
   else
    none
  else
   none
 else
 some (.dn v0)
def mv (v1:(List Int)) (v2:(List Int)) (v0:(List Int)) (v3:Int):Option ((List Int)):=lf (fun st => dm v1 v2 st.1 st.2) (v0,v3)
theorem zb8h (v1:(List Int)) (v2:(List Int)) (v0:(List Int)) (v3:Int):mv v1 v2 v0 v3 = dm v1 v2 v0 v3 >>= LS.go (fun st => mv v1 v2 st.1 st.2):=dj (fun st => dm v1 v2 st.1 st.2) (v0,v3)
def nk (v1:(List Int)) (v2:(List Int)) (v0:(List Int)) (v3:Int) (r:(List Int)):Prop:=∀ (τ:TH) (o0:Nat) (o1:Nat) (o2:Nat) (hl:τ.lock ≤ τ.next) (ha0:τ.at o0 = some ⟨ce,List.map (TV.int .u32) v0⟩) (hi0:o0 < τ.next) (hw0:τ.lock ≤ o0) (ha1:τ.at o1 = some ⟨ce,List.map (TV.int .u32) v1⟩) (hi1:o1 < τ.next) (ha2:τ.at o2 = some ⟨ce,List.map (TV.int .u32) v2⟩) (hi2:o2 < τ.next) (hn0_1:o0 ≠ o1) (hn0_2:o0 ≠ o2) (Q:TEx → ak) (hQ0:∀ (fr:TF) (tk2:TK) (τ2:TH),lkp fr 2 = .ptr o0 0 → lkp fr 4 = .ptr o1 0 → tk2.take 0 = [] → τ2.cut τ.next = (τ.put o0 ⟨ce,List.map (TV.int .u32) r⟩) → Q (.exit 6) fr tk2 τ2) ,tW G (.loop [2,4,11,17] t4) Q [(2,.ptr o0 0),(4,.ptr o1 0),(11,.ptr o2 0),(17,.int .i64 v3)] [] τ
theorem zchp (v1:(List Int)) (v2:(List Int)) (v0:(List Int)) (v3:Int) (r:(List Int)) (h:mv v1 v2 v0 v3 = some r):nk v1 v2 v0 v3 r:=by
 refine ct (f:=fun st => dm v1 v2 st.1 st.2) (P:=fun st r => ∀ (v0:(List Int)) (v3:Int),(v0,v3) = st → nk v1 v2 v0 v3 r) ?_ h v0 v3 rfl
 clear h r v3 v0
 intro st o h r ih v0 v3 hst τ o0 o1 o2  hl ha0 hi0 hw0 ha1 hi1 ha2 hi2 hn0_1 hn0_2 Q hQ0
 subst hst
 have h:dm v1 v2 v0 v3 = some o:=h
 unfold dm at h
 refine qp fun LQ hn hr he => ?_
 by_cases c1:v3 < (8:Int)
 · rw [if_pos c1] at h
   obtain ⟨c2,h⟩:=ifS h
   obtain ⟨y3,hy3,h⟩:=ob h
   have f4:=au hy3
   have f4a:=(f4.2.2 (TV.int .u32)).1
   have f4b:=(f4.2.2 (TV.int .u32)).2
   try simp only [CL,MC,reduceToNat] at f4 f4a f4b
   obtain ⟨y5,hy5,h⟩:=ob h
   have f6:=au hy5
   have f6a:=(f6.2.2 (TV.int .u32)).1
   have f6b:=(f6.2.2 (TV.int .u32)).2
   try simp only [CL,MC,reduceToNat] at f6 f6a f6b
   obtain ⟨c7,h⟩:=ifS h
   have f8:(List.map (TV.int .u32) v0).set v3.toNat (.int .u32 (IntKind.u32.wrap (y3 + y5))) = List.map (TV.int .u32) (v0.set v3.toNat (IntKind.u32.wrap (y3 + y5))):=zbkv (enc:=(TV.int .u32)) _ _ _
   injection h with h; subst h
   have ih:=ih (v0.set v3.toNat (IntKind.u32.wrap (y3 + y5))) (IntKind.i64.wrap (v3 + (1:Int))) rfl
   unfold nk at ih
   simp -implicitDefEqProofs only [t4,fj,TT,Ic.t,ci,reduceEqDiff,reduceIte,reduceAdd,reduceLT,reduceCtorEq,reduceToNat,hl,ha0,hi0,hw0,ha1,hi1,ha2,hi2,nq hn0_1,nq hn0_2,c1,c2,f4.1,f4.2.1,f4a,f4b,f6.1,f6.2.1,f6a,f6b,c7,f8,CL,LTN]
   rw [hn]
   simp -implicitDefEqProofs only [TT,Ic.t,ci,reduceEqDiff,reduceIte,reduceAdd,reduceLT,reduceCtorEq,reduceToNat,hl,ha0,hi0,hw0,ha1,hi1,ha2,hi2,nq hn0_1,nq hn0_2,c1,c2,f4.1,f4.2.1,f4a,f4b,f6.1,f6.2.1,f6a,f6b,c7,f8,CL,LTN]
   exact ih  (τ.put o0 ⟨ce,List.map (TV.int .u32) (v0.set v3.toNat (IntKind.u32.wrap (y3 + y5)))⟩) o0 o1 o2   (by first | assumption | (simp only [aa,af]; assumption)) (by simp -implicitDefEqProofs only [TT,Ic.t,ci,reduceEqDiff,reduceIte,reduceAdd,reduceLT,reduceCtorEq,reduceToNat,hl,ha0,hi0,hw0,ha1,hi1,ha2,hi2,nq hn0_1,nq hn0_2,c1,c2,f4.1,f4.2.1,f4a,f4b,f6.1,f6.2.1,f6a,f6b,c7,f8,CL,LTN]) (by first | assumption | (simp only [aa,af]; assumption)) (by first | assumption | (simp only [aa,af]; assumption)) (by simp -implicitDefEqProofs only [TT,Ic.t,ci,reduceEqDiff,reduceIte,reduceAdd,reduceLT,reduceCtorEq,reduceToNat,hl,ha0,hi0,hw0,ha1,hi1,ha2,hi2,nq hn0_1,nq hn0_2,c1,c2,f4.1,f4.2.1,f4a,f4b,f6.1,f6.2.1,f6a,f6b,c7,f8,CL,LTN]) (by first | assumption | (simp only [aa,af]; assumption)) (by simp -implicitDefEqProofs only [TT,Ic.t,ci,reduceEqDiff,reduceIte,reduceAdd,reduceLT,reduceCtorEq,reduceToNat,hl,ha0,hi0,hw0,ha1,hi1,ha2,hi2,nq hn0_1,nq hn0_2,c1,c2,f4.1,f4.2.1,f4a,f4b,f6.1,f6.2.1,f6a,f6b,c7,f8,CL,LTN]) (by first | assumption | (simp only [aa,af]; assumption)) hn0_1 hn0_2 Q (fun fr tk2 τ2 g0 g1 ht hτ => hQ0 fr tk2 τ2 g0 g1 ht (by first | exact hτ | simpa only [aa,tc,hl,ha0,hi0,hw0,ha1,hi1,ha2,hi2,nq hn0_1,nq hn0_2] using hτ))
 rw [if_neg c1] at h
 injection h with h; subst h
 obtain rfl:_ = r:=ih
 simp -implicitDefEqProofs only [t4,fj,TT,Ic.t,ci,reduceEqDiff,reduceIte,reduceAdd,reduceLT,reduceCtorEq,reduceToNat,hl,ha0,hi0,hw0,ha1,hi1,ha2,hi2,nq hn0_1,nq hn0_2,he,hr,c1,CL,LTN]
 exact hQ0  _ _ _  (by first | rfl | (simp -implicitDefEqProofs only [TT,Ic.t,ci,reduceEqDiff,reduceIte,reduceAdd,reduceLT,reduceCtorEq,reduceToNat,hl,ha0,hi0,hw0,ha1,hi1,ha2,hi2,nq hn0_1,nq hn0_2,c1,CL,LTN])) (by first | rfl | (simp -implicitDefEqProofs only [TT,Ic.t,ci,reduceEqDiff,reduceIte,reduceAdd,reduceLT,reduceCtorEq,reduceToNat,hl,ha0,hi0,hw0,ha1,hi1,ha2,hi2,nq hn0_1,nq hn0_2,c1,CL,LTN])) (by first | rfl | (simp -implicitDefEqProofs only [TT,Ic.t,ci,reduceEqDiff,reduceIte,reduceAdd,reduceLT,reduceCtorEq,reduceToNat,hl,ha0,hi0,hw0,ha1,hi1,ha2,hi2,nq hn0_1,nq hn0_2,c1,CL,LTN])) (by first | exact f0 (Nat.le_refl _) | (simp -implicitDefEqProofs only [TT,Ic.t,ci,reduceEqDiff,reduceIte,reduceAdd,reduceLT,reduceCtorEq,reduceToNat,hl,ha0,hi0,hw0,ha1,hi1,ha2,hi2,nq hn0_1,nq hn0_2,kr ha0,c1,CL,LTN]))
def p9 (p1:(List Int)) (p2:ByteArray):Option (List Int) :=
 vl >>= fun y1 =>
 if y1.length = 64 then
  mz p2 p1 [(0:Int),(0:Int),(0:Int),(0:Int),(0:Int),(0:Int),(0:Int),(0:Int)] y1 (List.replicate 64 (0:Int)) (0:Int) >>= fun y6 =>
  my p1 [(0:Int),(0:Int),(0:Int),(0:Int),(0:Int),(0:Int),(0:Int),(0:Int)] y1 y6 (16:Int) >>= fun y8 =>
  if p1.length = 8 then
   if p1.length = 8 then
    mw p1 [(0:Int),(0:Int),(0:Int),(0:Int),(0:Int),(0:Int),(0:Int),(0:Int)] y8 y1 p1 (0:Int) >>= fun y16 =>
    mv [(0:Int),(0:Int),(0:Int),(0:Int),(0:Int),(0:Int),(0:Int),(0:Int)] y16 p1 (0:Int) >>= fun y18 =>
    if y18.length = 8 then
     if y18.length = 8 then
      some y18
     else
      none
    else
     none
   else
    none
  else
   none
 else
  none
theorem zb40 (p1:(List Int)) (p2:ByteArray) (r:(List Int)) (h:p9 p1 p2 = some r) (τ:TH) (hl:τ.lock ≤ τ.next):Ru G qh [.agg (List.map (TV.int .u32) p1),.str p2] τ (.agg (List.map (TV.int .u32) r)) τ:=by
 refine jn fun K hK => ?_
 rw [cb zcks (Nat.le_of_ble_eq_true rfl)]
 unfold p9 at h
 obtain ⟨y1,hy1,h⟩:=ob h
 have k2:=zcgc  _ hy1
 try simp only [CL,MC,reduceToNat] at k2
 obtain ⟨c3,h⟩:=ifS h
 have f4:(List.map (TV.int .u32) y1 = []) = False:=zbl8 c3 (by decide)
 have f5:y1.length ≤ 64:=Nat.le_of_eq c3
 obtain ⟨y6,hy6,h⟩:=ob h
 simp -implicitDefEqProofs only [fj,TT,Ic.t,ci,reduceEqDiff,reduceIte,reduceAdd,reduceLT,reduceCtorEq,reduceToNat,hl,k2,c3,f4,f5,av,CL,LTN]
 have Sy6:=zchm p2 p1 [(0:Int),(0:Int),(0:Int),(0:Int),(0:Int),(0:Int),(0:Int),(0:Int)] y1 (List.replicate 64 (0:Int)) (0:Int) y6 hy6
 unfold nn at Sy6
 refine Sy6 _ τ.next (τ.next + 1) (τ.next + 2) (τ.next + 3) (by first | assumption | omega | (simp only [aa,ag,af,ar]; omega)) (by first | (simp -implicitDefEqProofs only [TT,Ic.t,ci,reduceEqDiff,reduceIte,reduceAdd,reduceLT,reduceCtorEq,reduceToNat,hl,k2,c3,f4,f5,av,CL,LTN]; done) | (simp -implicitDefEqProofs only [TT,Ic.t,ci,reduceEqDiff,reduceIte,reduceAdd,reduceLT,reduceCtorEq,reduceToNat,hl,k2,c3,f4,f5,av,CL,LTN]; rfl)) (by first | assumption | omega | (simp only [aa,ag,af,ar]; omega)) (by first | (simp -implicitDefEqProofs only [TT,Ic.t,ci,reduceEqDiff,reduceIte,reduceAdd,reduceLT,reduceCtorEq,reduceToNat,hl,k2,c3,f4,f5,av,CL,LTN]; done) | (simp -implicitDefEqProofs only [TT,Ic.t,ci,reduceEqDiff,reduceIte,reduceAdd,reduceLT,reduceCtorEq,reduceToNat,hl,k2,c3,f4,f5,av,CL,LTN]; rfl)) (by first | assumption | omega | (simp only [aa,ag,af,ar]; omega)) (by first | (simp -implicitDefEqProofs only [TT,Ic.t,ci,reduceEqDiff,reduceIte,reduceAdd,reduceLT,reduceCtorEq,reduceToNat,hl,k2,c3,f4,f5,av,CL,LTN]; done) | (simp -implicitDefEqProofs only [TT,Ic.t,ci,reduceEqDiff,reduceIte,reduceAdd,reduceLT,reduceCtorEq,reduceToNat,hl,k2,c3,f4,f5,av,CL,LTN]; rfl)) (by first | assumption | omega | (simp only [aa,ag,af,ar]; omega)) (by first | assumption | omega | (simp only [aa,ag,af,ar]; omega)) (by first | (simp -implicitDefEqProofs only [TT,Ic.t,ci,reduceEqDiff,reduceIte,reduceAdd,reduceLT,reduceCtorEq,reduceToNat,hl,k2,c3,f4,f5,av,CL,LTN]; done) | (simp -implicitDefEqProofs only [TT,Ic.t,ci,reduceEqDiff,reduceIte,reduceAdd,reduceLT,reduceCtorEq,reduceToNat,hl,k2,c3,f4,f5,av,CL,LTN]; rfl)) (by first | assumption | omega | (simp only [aa,ag,af,ar]; omega)) (by first | assumption | omega | (simp only [aa,ag]; omega)) (by first | assumption | omega | (simp only [aa,ag]; omega)) (by first | assumption | omega | (simp only [aa,ag]; omega)) _ ?_
 intro frq7 tkq7 τq7 g2q7 g4q7 g5q7 g6q7 htq7 hcq7
 have hcq7:=cn (n:=τ.next + 4) hcq7 (by first | omega | (simp only [aa,ag]; omega))
 try simp only [List.take_succ_cons,List.take_zero,List.take_nil,CL] at htq7
 try simp -implicitDefEqProofs only [TT,Ic.t,ci,reduceEqDiff,reduceIte,reduceAdd,reduceLT,reduceCtorEq,reduceToNat,hl,k2,c3,f4,f5,av,CL,LTN] at hcq7
 obtain ⟨y8,hy8,h⟩:=ob h
 simp -implicitDefEqProofs only [fj,TT,Ic.t,ci,reduceEqDiff,reduceIte,reduceAdd,reduceLT,reduceCtorEq,reduceToNat,hl,k2,c3,f4,f5,av,g2q7,g4q7,g5q7,g6q7,htq7,hcq7,CL,LTN]
 have Sy8:=zchn p1 [(0:Int),(0:Int),(0:Int),(0:Int),(0:Int),(0:Int),(0:Int),(0:Int)] y1 y6 (16:Int) y8 hy8
 unfold nm at Sy8
 refine Sy8 _ τ.next (τ.next + 1) (τ.next + 2) (τ.next + 3) (by first | assumption | omega | (simp only [aa,ag,af,ar]; omega)) (by first | (simp -implicitDefEqProofs only [TT,Ic.t,ci,reduceEqDiff,reduceIte,reduceAdd,reduceLT,reduceCtorEq,reduceToNat,hl,k2,c3,f4,f5,av,g2q7,g4q7,g5q7,g6q7,htq7,hcq7,CL,LTN]; done) | (simp -implicitDefEqProofs only [TT,Ic.t,ci,reduceEqDiff,reduceIte,reduceAdd,reduceLT,reduceCtorEq,reduceToNat,hl,k2,c3,f4,f5,av,g2q7,g4q7,g5q7,g6q7,htq7,hcq7,CL,LTN]; rfl)) (by first | assumption | omega | (simp only [aa,ag,af,ar]; omega)) (by first | (simp -implicitDefEqProofs only [TT,Ic.t,ci,reduceEqDiff,reduceIte,reduceAdd,reduceLT,reduceCtorEq,reduceToNat,hl,k2,c3,f4,f5,av,g2q7,g4q7,g5q7,g6q7,htq7,hcq7,CL,LTN]; done) | (simp -implicitDefEqProofs only [TT,Ic.t,ci,reduceEqDiff,reduceIte,reduceAdd,reduceLT,reduceCtorEq,reduceToNat,hl,k2,c3,f4,f5,av,g2q7,g4q7,g5q7,g6q7,htq7,hcq7,CL,LTN]; rfl)) (by first | assumption | omega | (simp only [aa,ag,af,ar]; omega)) (by first | (simp -implicitDefEqProofs only [TT,Ic.t,ci,reduceEqDiff,reduceIte,reduceAdd,reduceLT,reduceCtorEq,reduceToNat,hl,k2,c3,f4,f5,av,g2q7,g4q7,g5q7,g6q7,htq7,hcq7,CL,LTN]; done) | (simp -implicitDefEqProofs only [TT,Ic.t,ci,reduceEqDiff,reduceIte,reduceAdd,reduceLT,reduceCtorEq,reduceToNat,hl,k2,c3,f4,f5,av,g2q7,g4q7,g5q7,g6q7,htq7,hcq7,CL,LTN]; rfl)) (by first | assumption | omega | (simp only [aa,ag,af,ar]; omega)) (by first | assumption | omega | (simp only [aa,ag,af,ar]; omega)) (by first | (simp -implicitDefEqProofs only [TT,Ic.t,ci,reduceEqDiff,reduceIte,reduceAdd,reduceLT,reduceCtorEq,reduceToNat,hl,k2,c3,f4,f5,av,g2q7,g4q7,g5q7,g6q7,htq7,hcq7,CL,LTN]; done) | (simp -implicitDefEqProofs only [TT,Ic.t,ci,reduceEqDiff,reduceIte,reduceAdd,reduceLT,reduceCtorEq,reduceToNat,hl,k2,c3,f4,f5,av,g2q7,g4q7,g5q7,g6q7,htq7,hcq7,CL,LTN]; rfl)) (by first | assumption | omega | (simp only [aa,ag,af,ar]; omega)) (by first | assumption | omega | (simp only [aa,ag]; omega)) (by first | assumption | omega | (simp only [aa,ag]; omega)) (by first | assumption | omega | (simp only [aa,ag]; omega)) _ ?_
 intro frq9 tkq9 τq9 g2q9 g4q9 g5q9 g6q9 htq9 hcq9
 have hcq9:=cn (n:=τ.next + 4) hcq9 (by first | omega | (simp only [aa,ag]; omega))
 try simp only [List.take_succ_cons,List.take_zero,List.take_nil,CL] at htq9
 try simp -implicitDefEqProofs only [TT,Ic.t,ci,reduceEqDiff,reduceIte,reduceAdd,reduceLT,reduceCtorEq,reduceToNat,hl,k2,c3,f4,f5,av,g2q7,g4q7,g5q7,g6q7,htq7,hcq7,CL,LTN] at hcq9
 obtain ⟨c10,h⟩:=ifS h
 have f11:8 ≤ p1.length:=Nat.le_of_eq (Eq.symm c10)
 have f12:List.take 8 (List.map (TV.int .u32) p1) = List.map (TV.int .u32) p1:=zbng c10
 obtain ⟨c13,h⟩:=ifS h
 have f14:(List.map (TV.int .u32) p1 = []) = False:=zbl8 c13 (by decide)
 have f15:p1.length ≤ 8:=Nat.le_of_eq c13
 obtain ⟨y16,hy16,h⟩:=ob h
 simp -implicitDefEqProofs only [fj,TT,Ic.t,ci,reduceEqDiff,reduceIte,reduceAdd,reduceLT,reduceCtorEq,reduceToNat,hl,k2,c3,f4,f5,av,g2q7,g4q7,g5q7,g6q7,htq7,hcq7,g2q9,g4q9,g5q9,g6q9,htq9,hcq9,c10,f11,f12,c13,f14,f15,CL,LTN]
 have Sy16:=zcho p1 [(0:Int),(0:Int),(0:Int),(0:Int),(0:Int),(0:Int),(0:Int),(0:Int)] y8 y1 p1 (0:Int) y16 hy16
 unfold nl at Sy16
 refine Sy16 _ τ.next (τ.next + 1) (τ.next + 2) (τ.next + 3) (τ.next + 4) (by first | assumption | omega | (simp only [aa,ag,af,ar]; omega)) (by first | (simp -implicitDefEqProofs only [TT,Ic.t,ci,reduceEqDiff,reduceIte,reduceAdd,reduceLT,reduceCtorEq,reduceToNat,hl,k2,c3,f4,f5,av,g2q7,g4q7,g5q7,g6q7,htq7,hcq7,g2q9,g4q9,g5q9,g6q9,htq9,hcq9,c10,f11,f12,c13,f14,f15,CL,LTN]; done) | (simp -implicitDefEqProofs only [TT,Ic.t,ci,reduceEqDiff,reduceIte,reduceAdd,reduceLT,reduceCtorEq,reduceToNat,hl,k2,c3,f4,f5,av,g2q7,g4q7,g5q7,g6q7,htq7,hcq7,g2q9,g4q9,g5q9,g6q9,htq9,hcq9,c10,f11,f12,c13,f14,f15,CL,LTN]; rfl)) (by first | assumption | omega | (simp only [aa,ag,af,ar]; omega)) (by first | (simp -implicitDefEqProofs only [TT,Ic.t,ci,reduceEqDiff,reduceIte,reduceAdd,reduceLT,reduceCtorEq,reduceToNat,hl,k2,c3,f4,f5,av,g2q7,g4q7,g5q7,g6q7,htq7,hcq7,g2q9,g4q9,g5q9,g6q9,htq9,hcq9,c10,f11,f12,c13,f14,f15,CL,LTN]; done) | (simp -implicitDefEqProofs only [TT,Ic.t,ci,reduceEqDiff,reduceIte,reduceAdd,reduceLT,reduceCtorEq,reduceToNat,hl,k2,c3,f4,f5,av,g2q7,g4q7,g5q7,g6q7,htq7,hcq7,g2q9,g4q9,g5q9,g6q9,htq9,hcq9,c10,f11,f12,c13,f14,f15,CL,LTN]; rfl)) (by first | assumption | omega | (simp only [aa,ag,af,ar]; omega)) (by first | (simp -implicitDefEqProofs only [TT,Ic.t,ci,reduceEqDiff,reduceIte,reduceAdd,reduceLT,reduceCtorEq,reduceToNat,hl,k2,c3,f4,f5,av,g2q7,g4q7,g5q7,g6q7,htq7,hcq7,g2q9,g4q9,g5q9,g6q9,htq9,hcq9,c10,f11,f12,c13,f14,f15,CL,LTN]; done) | (simp -implicitDefEqProofs only [TT,Ic.t,ci,reduceEqDiff,reduceIte,reduceAdd,reduceLT,reduceCtorEq,reduceToNat,hl,k2,c3,f4,f5,av,g2q7,g4q7,g5q7,g6q7,htq7,hcq7,g2q9,g4q9,g5q9,g6q9,htq9,hcq9,c10,f11,f12,c13,f14,f15,CL,LTN]; rfl)) (by first | assumption | omega | (simp only [aa,ag,af,ar]; omega)) (by first | (simp -implicitDefEqProofs only [TT,Ic.t,ci,reduceEqDiff,reduceIte,reduceAdd,reduceLT,reduceCtorEq,reduceToNat,hl,k2,c3,f4,f5,av,g2q7,g4q7,g5q7,g6q7,htq7,hcq7,g2q9,g4q9,g5q9,g6q9,htq9,hcq9,c10,f11,f12,c13,f14,f15,CL,LTN]; done) | (simp -implicitDefEqProofs only [TT,Ic.t,ci,reduceEqDiff,reduceIte,reduceAdd,reduceLT,reduceCtorEq,reduceToNat,hl,k2,c3,f4,f5,av,g2q7,g4q7,g5q7,g6q7,htq7,hcq7,g2q9,g4q9,g5q9,g6q9,htq9,hcq9,c10,f11,f12,c13,f14,f15,CL,LTN]; rfl)) (by first | assumption | omega | (simp only [aa,ag,af,ar]; omega)) (by first | (simp -implicitDefEqProofs only [TT,Ic.t,ci,reduceEqDiff,reduceIte,reduceAdd,reduceLT,reduceCtorEq,reduceToNat,hl,k2,c3,f4,f5,av,g2q7,g4q7,g5q7,g6q7,htq7,hcq7,g2q9,g4q9,g5q9,g6q9,htq9,hcq9,c10,f11,f12,c13,f14,f15,CL,LTN]; done) | (simp -implicitDefEqProofs only [TT,Ic.t,ci,reduceEqDiff,reduceIte,reduceAdd,reduceLT,reduceCtorEq,reduceToNat,hl,k2,c3,f4,f5,av,g2q7,g4q7,g5q7,g6q7,htq7,hcq7,g2q9,g4q9,g5q9,g6q9,htq9,hcq9,c10,f11,f12,c13,f14,f15,CL,LTN]; rfl)) (by first | assumption | omega | (simp only [aa,ag,af,ar]; omega)) (by first | assumption | omega | (simp only [aa,ag,af,ar]; omega)) (by first | assumption | omega | (simp only [aa,ag]; omega)) (by first | assumption | omega | (simp only [aa,ag]; omega)) (by first | assumption | omega | (simp only [aa,ag]; omega)) (by first | assumption | omega | (simp only [aa,ag]; omega)) _ ?_
 intro frq17 tkq17 τq17 g2q17 g4q17 g11q17 htq17 hcq17
 have hcq17:=cn (n:=τ.next + 5) hcq17 (by first | omega | (simp only [aa,ag]; omega))
 try simp only [List.take_succ_cons,List.take_zero,List.take_nil,CL] at htq17
 try simp -implicitDefEqProofs only [TT,Ic.t,ci,reduceEqDiff,reduceIte,reduceAdd,reduceLT,reduceCtorEq,reduceToNat,hl,k2,c3,f4,f5,av,g2q7,g4q7,g5q7,g6q7,htq7,hcq7,g2q9,g4q9,g5q9,g6q9,htq9,hcq9,c10,f11,f12,c13,f14,f15,CL,LTN] at hcq17
 obtain ⟨y18,hy18,h⟩:=ob h
 simp -implicitDefEqProofs only [fj,TT,Ic.t,ci,reduceEqDiff,reduceIte,reduceAdd,reduceLT,reduceCtorEq,reduceToNat,hl,k2,c3,f4,f5,av,g2q7,g4q7,g5q7,g6q7,htq7,hcq7,g2q9,g4q9,g5q9,g6q9,htq9,hcq9,c10,f11,f12,c13,f14,f15,g2q17,g4q17,g11q17,htq17,hcq17,CL,LTN]
 have Sy18:=zchp [(0:Int),(0:Int),(0:Int),(0:Int),(0:Int),(0:Int),(0:Int),(0:Int)] y16 p1 (0:Int) y18 hy18
 unfold nk at Sy18
 refine Sy18 _ τ.next (τ.next + 1) (τ.next + 4) (by first | assumption | omega | (simp only [aa,ag,af,ar]; omega)) (by first | (simp -implicitDefEqProofs only [TT,Ic.t,ci,reduceEqDiff,reduceIte,reduceAdd,reduceLT,reduceCtorEq,reduceToNat,hl,k2,c3,f4,f5,av,g2q7,g4q7,g5q7,g6q7,htq7,hcq7,g2q9,g4q9,g5q9,g6q9,htq9,hcq9,c10,f11,f12,c13,f14,f15,g2q17,g4q17,g11q17,htq17,hcq17,CL,LTN]; done) | (simp -implicitDefEqProofs only [TT,Ic.t,ci,reduceEqDiff,reduceIte,reduceAdd,reduceLT,reduceCtorEq,reduceToNat,hl,k2,c3,f4,f5,av,g2q7,g4q7,g5q7,g6q7,htq7,hcq7,g2q9,g4q9,g5q9,g6q9,htq9,hcq9,c10,f11,f12,c13,f14,f15,g2q17,g4q17,g11q17,htq17,hcq17,CL,LTN]; rfl)) (by first | assumption | omega | (simp only [aa,ag,af,ar]; omega)) (by first | assumption | omega | (simp only [aa,ag,af,ar]; omega)) (by first | (simp -implicitDefEqProofs only [TT,Ic.t,ci,reduceEqDiff,reduceIte,reduceAdd,reduceLT,reduceCtorEq,reduceToNat,hl,k2,c3,f4,f5,av,g2q7,g4q7,g5q7,g6q7,htq7,hcq7,g2q9,g4q9,g5q9,g6q9,htq9,hcq9,c10,f11,f12,c13,f14,f15,g2q17,g4q17,g11q17,htq17,hcq17,CL,LTN]; done) | (simp -implicitDefEqProofs only [TT,Ic.t,ci,reduceEqDiff,reduceIte,reduceAdd,reduceLT,reduceCtorEq,reduceToNat,hl,k2,c3,f4,f5,av,g2q7,g4q7,g5q7,g6q7,htq7,hcq7,g2q9,g4q9,g5q9,g6q9,htq9,hcq9,c10,f11,f12,c13,f14,f15,g2q17,g4q17,g11q17,htq17,hcq17,CL,LTN]; rfl)) (by first | assumption | omega | (simp only [aa,ag,af,ar]; omega)) (by first | (simp -implicitDefEqProofs only [TT,Ic.t,ci,reduceEqDiff,reduceIte,reduceAdd,reduceLT,reduceCtorEq,reduceToNat,hl,k2,c3,f4,f5,av,g2q7,g4q7,g5q7,g6q7,htq7,hcq7,g2q9,g4q9,g5q9,g6q9,htq9,hcq9,c10,f11,f12,c13,f14,f15,g2q17,g4q17,g11q17,htq17,hcq17,CL,LTN]; done) | (simp -implicitDefEqProofs only [TT,Ic.t,ci,reduceEqDiff,reduceIte,reduceAdd,reduceLT,reduceCtorEq,reduceToNat,hl,k2,c3,f4,f5,av,g2q7,g4q7,g5q7,g6q7,htq7,hcq7,g2q9,g4q9,g5q9,g6q9,htq9,hcq9,c10,f11,f12,c13,f14,f15,g2q17,g4q17,g11q17,htq17,hcq17,CL,LTN]; rfl)) (by first | assumption | omega | (simp only [aa,ag,af,ar]; omega)) (by first | assumption | omega | (simp only [aa,ag]; omega)) (by first | assumption | omega | (simp only [aa,ag]; omega)) _ ?_
 intro frq19 tkq19 τq19 g2q19 g4q19 htq19 hcq19
 have hcq19:=cn (n:=τ.next + 5) hcq19 (by first | omega | (simp only [aa,ag]; omega))
 try simp only [List.take_succ_cons,List.take_zero,List.take_nil,CL] at htq19
 try simp -implicitDefEqProofs only [TT,Ic.t,ci,reduceEqDiff,reduceIte,reduceAdd,reduceLT,reduceCtorEq,reduceToNat,hl,k2,c3,f4,f5,av,g2q7,g4q7,g5q7,g6q7,htq7,hcq7,g2q9,g4q9,g5q9,g6q9,htq9,hcq9,c10,f11,f12,c13,f14,f15,g2q17,g4q17,g11q17,htq17,hcq17,CL,LTN] at hcq19
 obtain ⟨c20,h⟩:=ifS h
 have f21:8 ≤ y18.length:=Nat.le_of_eq (Eq.symm c20)
 have f22:List.take 8 (List.map (TV.int .u32) y18) = List.map (TV.int .u32) y18:=zbng c20
 obtain ⟨c23,h⟩:=ifS h
 have f24:(List.map (TV.int .u32) y18 = []) = False:=zbl8 c23 (by decide)
 have f25:y18.length ≤ 8:=Nat.le_of_eq c23
 injection h with h; subst h
 simp -implicitDefEqProofs only [fj,TT,Ic.t,ci,reduceEqDiff,reduceIte,reduceAdd,reduceLT,reduceCtorEq,reduceToNat,hl,k2,c3,f4,f5,av,g2q7,g4q7,g5q7,g6q7,htq7,hcq7,g2q9,g4q9,g5q9,g6q9,htq9,hcq9,c10,f11,f12,c13,f14,f15,g2q17,g4q17,g11q17,htq17,hcq17,g2q19,g4q19,htq19,hcq19,c20,f21,f22,c23,f24,f25,CL,LTN]
 exact hK
theorem zcgb (p1:(List Int)) (p2:ByteArray) (r:(List Int)) (h:p9 p1 p2 = some r) (lk:Bool) (d:Option Nat) (K:ak) (fr:TF) (tk:TK) (τ:TH) (hl:τ.lock ≤ τ.next):d9 G lk qh [.agg (List.map (TV.int .u32) p1),.str p2] d K fr tk τ = K (dh fr d (.agg (List.map (TV.int .u32) r))) tk τ :=
 b9 (zb40 p1 p2 r h τ  hl) (zb40 p1 p2 r h (τ.locked τ.next)  (Nat.le_refl _) ) (by simp -implicitDefEqProofs only [TT,Ic.t,ci,reduceEqDiff,reduceIte,reduceAdd,reduceLT,reduceCtorEq,reduceToNat,hl,CL,LTN])
end
end Go.Proofs.Ytgkkienmocpnbaa
