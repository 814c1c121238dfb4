import Derived.Test.YtgkkienmocpnbaaD3
set_option linter.unusedVariables false
set_option linter.unusedSimpArgs false
set_option linter.unusedSectionVars false
open Nat (reduceEqDiff reduceAdd reduceMul reduceLT reduceLeDiff reduceSub)
open Int (reduceToNat reduceNe reduceEq reduceNeg reduceLE)
namespace Go.Proofs.Ytgkkienmocpnbaa
open Go Go.RowKit Sh Ic
noncomputable section
def ek (v0:ByteArray) (v1:(List Int)):Option (LS ((List Int)) ((List Int))) :=
 if (Int.tmod ((v1.length:Nat):Int) (64:Int)) = (56:Int) then
  some (.dn v1)
 else
 if v1.length ≤ 140737488355327 then
  some (.nx (v1 ++ [(0:Int)]))
 else
  none
def lw (v0:ByteArray) (v1:(List Int)):Option ((List Int)):=lf (fun st => ek v0 st) v1
theorem zb7j (v0:ByteArray) (v1:(List Int)):lw v0 v1 = ek v0 v1 >>= LS.go (fun st => lw v0 st):=dj (fun st => ek v0 st) v1
def m9 (v0:ByteArray) (v1:(List Int)) (r:(List Int)):Prop:=∀ (τ:TH) (n0:Nat) (ty0:TypeId) (hnn0:n0 = v1.length) (hty0:n0 = 0 ∨ ty0 = a9) (hl:τ.lock ≤ τ.next) (Q:TEx → ak) (hQ0:∀ (fr:TF) (tk2:TK) (τ2:TH),∀ (u0:TypeId),(r.length = 0 ∨ u0 = a9) → lkp fr 0 = .str v0 → lkp fr 3 = .sla 0 (List.map (TV.int .u8) r) → tk2.take 1 = [some (r.length,u0)] → τ2.cut τ.next = τ → Q (.exit 0) fr tk2 τ2) ,tW G (.loop [0,3] zbq1) Q [(0,.str v0),(3,.sla 0 (List.map (TV.int .u8) v1))] [some (n0,ty0)] τ
theorem zb7a (v0:ByteArray) (v1:(List Int)) (r:(List Int)) (h:lw v0 v1 = some r):m9 v0 v1 r:=by
 refine ct (f:=fun st => ek v0 st) (P:=fun st r => ∀ (v1:(List Int)),v1 = st → m9 v0 v1 r) ?_ h v1 rfl
 clear h r v1
 intro st o h r ih v1 hst τ  n0 ty0 hnn0 hty0 hl Q hQ0
 subst hst
 have h:ek v0 v1 = some o:=h
 unfold ek at h
 subst hnn0
 refine qp fun LQ hn hr he => ?_
 by_cases c1:(Int.tmod ((v1.length:Nat):Int) (64:Int)) = (56:Int)
 · rw [if_pos c1] at h
   injection h with h; subst h
   obtain rfl:_ = r:=ih
   simp -implicitDefEqProofs only [zbq1,fi,TT,Ic.t,ci,reduceEqDiff,reduceIte,reduceAdd,reduceMul,reduceLT,reduceLeDiff,reduceSub,reduceCtorEq,reduceEq,reduceNe,reduceToNat,Int.reduceLT,reduceLE,reduceNeg,hl,hty0,he,hr,eq_true c1,CL,LTN]
   exact hQ0  _ _ _ ty0 (by first | exact hty0 | exact Or.inr rfl | assumption | simp) (by first | rfl | (simp -implicitDefEqProofs only [TT,Ic.t,ci,reduceEqDiff,reduceIte,reduceAdd,reduceMul,reduceLT,reduceLeDiff,reduceSub,reduceCtorEq,reduceEq,reduceNe,reduceToNat,Int.reduceLT,reduceLE,reduceNeg,hl,hty0,eq_true c1,CL,LTN])) (by first | rfl | (simp -implicitDefEqProofs only [TT,Ic.t,ci,reduceEqDiff,reduceIte,reduceAdd,reduceMul,reduceLT,reduceLeDiff,reduceSub,reduceCtorEq,reduceEq,reduceNe,reduceToNat,Int.reduceLT,reduceLE,reduceNeg,hl,hty0,eq_true c1,CL,LTN])) (by first | rfl | (simp -implicitDefEqProofs only [TT,Ic.t,ci,reduceEqDiff,reduceIte,reduceAdd,reduceMul,reduceLT,reduceLeDiff,reduceSub,reduceCtorEq,reduceEq,reduceNe,reduceToNat,Int.reduceLT,reduceLE,reduceNeg,hl,hty0,eq_true c1,CL,LTN])) (by first | exact f0 (Nat.le_refl _) | (simp -implicitDefEqProofs only [TT,Ic.t,ci,reduceEqDiff,reduceIte,reduceAdd,reduceMul,reduceLT,reduceLeDiff,reduceSub,reduceCtorEq,reduceEq,reduceNe,reduceToNat,Int.reduceLT,reduceLE,reduceNeg,hl,hty0,eq_true c1,CL,LTN]))
 rw [if_neg c1] at h
 obtain ⟨c2,h⟩:=ifS h
 have f3:1 ≤ maxLen:=by unfold maxLen; omega
 have f4:v1.length + 1 ≤ maxLen:=by unfold maxLen; omega
 have f5:((List.map (TV.int .u8) v1).all fun e => e.cells.length == 1) = true:=zbl5 (fun _ => rfl) _
 have f6:List.map (TV.int .u8) v1 ++ List.map (TV.int .u8) [(0:Int)] = List.map (TV.int .u8) (v1 ++ [(0:Int)]):=zbl3 _ _
 try simp only [CL,List.map_cons,List.map_nil] at f6
 injection h with h; subst h
 have ih:=ih (v1 ++ [(0:Int)]) rfl
 unfold m9 at ih
 simp -implicitDefEqProofs only [zbq1,fi,TT,Ic.t,ci,reduceEqDiff,reduceIte,reduceAdd,reduceMul,reduceLT,reduceLeDiff,reduceSub,reduceCtorEq,reduceEq,reduceNe,reduceToNat,Int.reduceLT,reduceLE,reduceNeg,hl,hty0,c1,c2,f3,f4,f5,f6,CL,LTN]
 rw [hn]
 simp -implicitDefEqProofs only [TT,Ic.t,ci,reduceEqDiff,reduceIte,reduceAdd,reduceMul,reduceLT,reduceLeDiff,reduceSub,reduceCtorEq,reduceEq,reduceNe,reduceToNat,Int.reduceLT,reduceLE,reduceNeg,hl,hty0,c1,c2,f3,f4,f5,f6,CL,LTN]
 exact ih  τ   (v1.length + 1) a9 (by first | rfl | simp [aj]) (by first | exact hty0 | exact Or.inr rfl | assumption | simp) (by first | assumption | (simp only [aa,af]; assumption)) Q hQ0
def ej (v1:Int) (v0:(List Int)) (v2:Int):Option (LS ((List Int) × Int) ((List Int))) :=
 if v2 < (8:Int) then
  if ¬ (IntKind.u64.wrap (IntKind.i64.wrap ((56:Int) - (IntKind.i64.wrap ((8:Int) * v2))))) < 0 then
   if v0.length ≤ 140737488355327 then
    some (.nx ((v0 ++ [(IntKind.u8.wrap (Int.fdiv v1 (2 ^ (Nat.min (IntKind.u64.wrap (IntKind.i64.wrap ((56:Int) - (IntKind.i64.wrap ((8:Int) * v2))))).toNat IntKind.u64.bits))))]),(IntKind.i64.wrap (v2 + (1:Int)))))
   else
    none
  else
   none
 else
 some (.dn v0)
def lu (v1:Int) (v0:(List Int)) (v2:Int):Option ((List Int)):=lf (fun st => ej v1 st.1 st.2) (v0,v2)
theorem zb7k (v1:Int) (v0:(List Int)) (v2:Int):lu v1 v0 v2 = ej v1 v0 v2 >>= LS.go (fun st => lu v1 st.1 st.2):=dj (fun st => ej v1 st.1 st.2) (v0,v2)
def m7 (v1:Int) (v0:(List Int)) (v2:Int) (r:(List Int)):Prop:=∀ (τ:TH) (n0:Nat) (ty0:TypeId) (hnn0:n0 = v0.length) (hty0:n0 = 0 ∨ ty0 = a9) (hl:τ.lock ≤ τ.next) (Q:TEx → ak) (hQ0:∀ (fr:TF) (tk2:TK) (τ2:TH),∀ (u0:TypeId),(r.length = 0 ∨ u0 = a9) → lkp fr 3 = .sla 0 (List.map (TV.int .u8) r) → tk2.take 1 = [some (r.length,u0)] → τ2.cut τ.next = τ → Q (.exit 2) fr tk2 τ2) ,tW G (.loop [3,4,5] zbq2) Q [(3,.sla 0 (List.map (TV.int .u8) v0)),(4,.int .u64 v1),(5,.int .i64 v2)] [some (n0,ty0)] τ
theorem zb7b (v1:Int) (v0:(List Int)) (v2:Int) (r:(List Int)) (h:lu v1 v0 v2 = some r):m7 v1 v0 v2 r:=by
 refine ct (f:=fun st => ej v1 st.1 st.2) (P:=fun st r => ∀ (v0:(List Int)) (v2:Int),(v0,v2) = st → m7 v1 v0 v2 r) ?_ h v0 v2 rfl
 clear h r v2 v0
 intro st o h r ih v0 v2 hst τ  n0 ty0 hnn0 hty0 hl Q hQ0
 subst hst
 have h:ej v1 v0 v2 = some o:=h
 unfold ej at h
 subst hnn0
 refine qp fun LQ hn hr he => ?_
 by_cases c1:v2 < (8:Int)
 · rw [if_pos c1] at h
   obtain ⟨c2,h⟩:=ifS h
   obtain ⟨c3,h⟩:=ifS h
   have f4:1 ≤ maxLen:=by unfold maxLen; omega
   have f5:v0.length + 1 ≤ maxLen:=by unfold maxLen; omega
   have f6:((List.map (TV.int .u8) v0).all fun e => e.cells.length == 1) = true:=zbl5 (fun _ => rfl) _
   have f7:List.map (TV.int .u8) v0 ++ List.map (TV.int .u8) [(IntKind.u8.wrap (Int.fdiv v1 (2 ^ (Nat.min (IntKind.u64.wrap (IntKind.i64.wrap ((56:Int) - (IntKind.i64.wrap ((8:Int) * v2))))).toNat IntKind.u64.bits))))] = List.map (TV.int .u8) (v0 ++ [(IntKind.u8.wrap (Int.fdiv v1 (2 ^ (Nat.min (IntKind.u64.wrap (IntKind.i64.wrap ((56:Int) - (IntKind.i64.wrap ((8:Int) * v2))))).toNat IntKind.u64.bits))))]):=zbl3 _ _
   try simp only [CL,List.map_cons,List.map_nil] at f7
   injection h with h; subst h
   have ih:=ih (v0 ++ [(IntKind.u8.wrap (Int.fdiv v1 (2 ^ (Nat.min (IntKind.u64.wrap (IntKind.i64.wrap ((56:Int) - (IntKind.i64.wrap ((8:Int) * v2))))).toNat IntKind.u64.bits))))]) (IntKind.i64.wrap (v2 + (1:Int))) rfl
   unfold m7 at ih
   simp -implicitDefEqProofs only [zbq2,fi,TT,Ic.t,ci,reduceEqDiff,reduceIte,reduceAdd,reduceMul,reduceLT,reduceLeDiff,reduceSub,reduceCtorEq,reduceEq,reduceNe,reduceToNat,Int.reduceLT,reduceLE,reduceNeg,hl,hty0,c1,c2,c3,f4,f5,f6,f7,CL,LTN]
   rw [hn]
   simp -implicitDefEqProofs only [TT,Ic.t,ci,reduceEqDiff,reduceIte,reduceAdd,reduceMul,reduceLT,reduceLeDiff,reduceSub,reduceCtorEq,reduceEq,reduceNe,reduceToNat,Int.reduceLT,reduceLE,reduceNeg,hl,hty0,c1,c2,c3,f4,f5,f6,f7,CL,LTN]
   exact ih  τ   (v0.length + 1) a9 (by first | rfl | simp [aj]) (by first | exact hty0 | exact Or.inr rfl | assumption | simp) (by first | assumption | (simp only [aa,af]; assumption)) Q hQ0
 rw [if_neg c1] at h
 injection h with h; subst h
 obtain rfl:_ = r:=ih
 simp -implicitDefEqProofs only [zbq2,fi,TT,Ic.t,ci,reduceEqDiff,reduceIte,reduceAdd,reduceMul,reduceLT,reduceLeDiff,reduceSub,reduceCtorEq,reduceEq,reduceNe,reduceToNat,Int.reduceLT,reduceLE,reduceNeg,hl,hty0,he,hr,c1,CL,LTN]
 exact hQ0  _ _ _ ty0 (by first | exact hty0 | exact Or.inr rfl | assumption | simp) (by first | rfl | (simp -implicitDefEqProofs only [TT,Ic.t,ci,reduceEqDiff,reduceIte,reduceAdd,reduceMul,reduceLT,reduceLeDiff,reduceSub,reduceCtorEq,reduceEq,reduceNe,reduceToNat,Int.reduceLT,reduceLE,reduceNeg,hl,hty0,c1,CL,LTN])) (by first | rfl | (simp -implicitDefEqProofs only [TT,Ic.t,ci,reduceEqDiff,reduceIte,reduceAdd,reduceMul,reduceLT,reduceLeDiff,reduceSub,reduceCtorEq,reduceEq,reduceNe,reduceToNat,Int.reduceLT,reduceLE,reduceNeg,hl,hty0,c1,CL,LTN])) (by first | exact f0 (Nat.le_refl _) | (simp -implicitDefEqProofs only [TT,Ic.t,ci,reduceEqDiff,reduceIte,reduceAdd,reduceMul,reduceLT,reduceLeDiff,reduceSub,reduceCtorEq,reduceEq,reduceNe,reduceToNat,Int.reduceLT,reduceLE,reduceNeg,hl,hty0,c1,CL,LTN]))
def ei (v0:ByteArray) (v1:(List Int)) (v2:Int):Option (LS ((List Int) × Int) ((List Int))) :=
 if v2 < ((v0.size:Nat):Int) then
  if v1.length = 8 then
   if (0 ≤ (IntKind.i64.wrap (v2 + (64:Int))) ∧ (IntKind.i64.wrap (v2 + (64:Int))) ≤ (v0.size:Int)) ∧ 0 ≤ v2 ∧ v2 ≤ (IntKind.i64.wrap (v2 + (64:Int))) then
    p9 v1 (v0.extract v2.toNat ((IntKind.i64.wrap (v2 + (64:Int))).toNat)) >>= fun y6 =>
    if y6.length = 8 then
     some (.nx (y6,(IntKind.i64.wrap (v2 + (64:Int)))))
    else
     none
   else
    none
  else
   none
 else
 some (.dn v1)
def ls (v0:ByteArray) (v1:(List Int)) (v2:Int):Option ((List Int)):=lf (fun st => ei v0 st.1 st.2) (v1,v2)
theorem zb7l (v0:ByteArray) (v1:(List Int)) (v2:Int):ls v0 v1 v2 = ei v0 v1 v2 >>= LS.go (fun st => ls v0 st.1 st.2):=dj (fun st => ei v0 st.1 st.2) (v1,v2)
def m6 (v0:ByteArray) (v1:(List Int)) (v2:Int) (r:(List Int)):Prop:=∀ (τ:TH) (o0:Nat) (e0:Option (Nat × TypeId)) (hl:τ.lock ≤ τ.next) (ha0:τ.at o0 = some ⟨ce,List.map (TV.int .u32) v1⟩) (hi0:o0 < τ.next) (hw0:τ.lock ≤ o0) (Q:TEx → ak) (hQ0:∀ (fr:TF) (tk2:TK) (τ2:TH),∀ (u0:Option (Nat × TypeId)),True → lkp fr 7 = .ptr o0 0 → tk2.take 1 = [u0] → τ2.cut τ.next = (τ.put o0 ⟨ce,List.map (TV.int .u32) r⟩) → Q (.exit 4) fr tk2 τ2) ,tW G (.loop [6,7,8] zbq3) Q [(6,.str v0),(7,.ptr o0 0),(8,.int .i64 v2)] [e0] τ
theorem zb7c (v0:ByteArray) (v1:(List Int)) (v2:Int) (r:(List Int)) (h:ls v0 v1 v2 = some r):m6 v0 v1 v2 r:=by
 refine ct (f:=fun st => ei v0 st.1 st.2) (P:=fun st r => ∀ (v1:(List Int)) (v2:Int),(v1,v2) = st → m6 v0 v1 v2 r) ?_ h v1 v2 rfl
 clear h r v2 v1
 intro st o h r ih v1 v2 hst τ o0 e0 hl ha0 hi0 hw0 Q hQ0
 subst hst
 have h:ei v0 v1 v2 = some o:=h
 unfold ei at h
 refine qp fun LQ hn hr he => ?_
 by_cases c1:v2 < ((v0.size:Nat):Int)
 · rw [if_pos c1] at h
   obtain ⟨c2,h⟩:=ifS h
   have f3:8 ≤ v1.length:=Nat.le_of_eq (Eq.symm c2)
   have f4:List.take 8 (List.map (TV.int .u32) v1) = List.map (TV.int .u32) v1:=zbng c2
   obtain ⟨c5,h⟩:=ifS h
   obtain ⟨y6,hy6,h⟩:=ob h
   have k7:=zcgb v1 (v0.extract v2.toNat ((IntKind.i64.wrap (v2 + (64:Int))).toNat)) _ hy6
   try simp only [CL,MC,reduceToNat] at k7
   obtain ⟨c8,h⟩:=ifS h
   have f9:(List.map (TV.int .u32) y6 = []) = False:=zbl8 c8 (by decide)
   have f10:y6.length ≤ 8:=Nat.le_of_eq c8
   injection h with h; subst h
   have ih:=ih y6 (IntKind.i64.wrap (v2 + (64:Int))) rfl
   unfold m6 at ih
   simp -implicitDefEqProofs only [zbq3,fi,TT,Ic.t,ci,reduceEqDiff,reduceIte,reduceAdd,reduceLT,reduceCtorEq,reduceToNat,hl,ha0,hi0,hw0,c1,c2,f3,f4,c5,k7,c8,f9,f10,av,CL,LTN]
   rw [hn]
   simp -implicitDefEqProofs only [TT,Ic.t,ci,reduceEqDiff,reduceIte,reduceAdd,reduceLT,reduceCtorEq,reduceToNat,hl,ha0,hi0,hw0,c1,c2,f3,f4,c5,k7,c8,f9,f10,av,CL,LTN]
   exact ih  (τ.put o0 ⟨ce,List.map (TV.int .u32) y6⟩) o0 _  (by first | assumption | (simp only [aa,af]; assumption)) (by simp -implicitDefEqProofs only [TT,Ic.t,ci,reduceEqDiff,reduceIte,reduceAdd,reduceLT,reduceCtorEq,reduceToNat,hl,ha0,hi0,hw0,c1,c2,f3,f4,c5,k7,c8,f9,f10,av,CL,LTN]) (by first | assumption | (simp only [aa,af]; assumption)) (by first | assumption | (simp only [aa,af]; assumption)) Q (fun fr tk2 τ2 u0 u0' g0 ht hτ => hQ0 fr tk2 τ2 u0 u0' g0 ht (by first | exact hτ | simpa only [aa,tc,hl,ha0,hi0,hw0] using hτ))
 rw [if_neg c1] at h
 injection h with h; subst h
 obtain rfl:_ = r:=ih
 simp -implicitDefEqProofs only [zbq3,fi,TT,Ic.t,ci,reduceEqDiff,reduceIte,reduceAdd,reduceLT,reduceCtorEq,reduceToNat,hl,ha0,hi0,hw0,he,hr,c1,CL,LTN]
 exact hQ0  _ _ _ _ trivial (by first | rfl | (simp -implicitDefEqProofs only [TT,Ic.t,ci,reduceEqDiff,reduceIte,reduceAdd,reduceLT,reduceCtorEq,reduceToNat,hl,ha0,hi0,hw0,c1,CL,LTN])) (by first | rfl | (simp -implicitDefEqProofs only [TT,Ic.t,ci,reduceEqDiff,reduceIte,reduceAdd,reduceLT,reduceCtorEq,reduceToNat,hl,ha0,hi0,hw0,c1,CL,LTN])) (by first | exact f0 (Nat.le_refl _) | (simp -implicitDefEqProofs only [TT,Ic.t,ci,reduceEqDiff,reduceIte,reduceAdd,reduceLT,reduceCtorEq,reduceToNat,hl,ha0,hi0,hw0,kr ha0,c1,CL,LTN]))
def eh (v0:(List Int)) (v1:(List Int)) (v2:Int):Option (LS ((List Int) × Int) ((List Int))) :=
 if v2 < (8:Int) then
  if 0 ≤ v2 ∧ v2 < ((8:Nat):Int) then
   ixL v0 v2 >>= fun y3 =>
   if v1.length ≤ 140737488355324 then
    some (.nx ((v1 ++ [(IntKind.u8.wrap (Int.fdiv y3 (2 ^ (Nat.min 24 IntKind.u32.bits)))),(IntKind.u8.wrap (Int.fdiv y3 (2 ^ (Nat.min 16 IntKind.u32.bits)))),(IntKind.u8.wrap (Int.fdiv y3 (2 ^ (Nat.min 8 IntKind.u32.bits)))),(IntKind.u8.wrap y3)]),(IntKind.i64.wrap (v2 + (1:Int)))))
   else
    none
  else
   none
 else
 some (.dn v1)
def lr (v0:(List Int)) (v1:(List Int)) (v2:Int):Option ((List Int)):=lf (fun st => eh v0 st.1 st.2) (v1,v2)
theorem zb7m (v0:(List Int)) (v1:(List Int)) (v2:Int):lr v0 v1 v2 = eh v0 v1 v2 >>= LS.go (fun st => lr v0 st.1 st.2):=dj (fun st => eh v0 st.1 st.2) (v1,v2)
def m5 (v0:(List Int)) (v1:(List Int)) (v2:Int) (r:(List Int)):Prop:=∀ (τ:TH) (o0:Nat) (e0:Option (Nat × TypeId)) (n1:Nat) (ty1:TypeId) (hnn1:n1 = v1.length) (hty1:n1 = 0 ∨ ty1 = a9) (hl:τ.lock ≤ τ.next) (ha0:τ.at o0 = some ⟨ce,List.map (TV.int .u32) v0⟩) (hi0:o0 < τ.next) (Q:TEx → ak) (hQ0:∀ (fr:TF) (tk2:TK) (τ2:TH),∀ (u0:Option (Nat × TypeId)),True → ∀ (u1:TypeId),(r.length = 0 ∨ u1 = a9) → lkp fr 9 = .sla 1 (List.map (TV.int .u8) r) → tk2.take 2 = [u0,some (r.length,u1)] → τ2.cut τ.next = τ → Q (.exit 6) fr tk2 τ2) ,tW G (.loop [7,9,10] zbq4) Q [(7,.ptr o0 0),(9,.sla 1 (List.map (TV.int .u8) v1)),(10,.int .i64 v2)] [e0,some (n1,ty1)] τ
theorem zb7d (v0:(List Int)) (v1:(List Int)) (v2:Int) (r:(List Int)) (h:lr v0 v1 v2 = some r):m5 v0 v1 v2 r:=by
 refine ct (f:=fun st => eh v0 st.1 st.2) (P:=fun st r => ∀ (v1:(List Int)) (v2:Int),(v1,v2) = st → m5 v0 v1 v2 r) ?_ h v1 v2 rfl
 clear h r v2 v1
 intro st o h r ih v1 v2 hst τ o0 e0 n1 ty1 hnn1 hty1 hl ha0 hi0 Q hQ0
 subst hst
 have h:eh v0 v1 v2 = some o:=h
 unfold eh at h
 subst hnn1
 refine qp fun LQ hn hr he => ?_
 by_cases c1:v2 < (8:Int)
 · rw [if_pos c1] at h
   obtain ⟨c2,h⟩:=ifS h
   obtain ⟨y3,hy3,h⟩:=ob h
   have f4:=au hy3
   have f4a:=(f4.2.2 (TV.int .u32)).1
   have f4b:=(f4.2.2 (TV.int .u32)).2
   try simp only [CL,MC,reduceToNat] at f4 f4a f4b
   obtain ⟨c5,h⟩:=ifS h
   have f6:4 ≤ maxLen:=by unfold maxLen; omega
   have f7:v1.length + 4 ≤ maxLen:=by unfold maxLen; omega
   have f8:((List.map (TV.int .u8) v1).all fun e => e.cells.length == 1) = true:=zbl5 (fun _ => rfl) _
   have f9:List.map (TV.int .u8) v1 ++ List.map (TV.int .u8) [(IntKind.u8.wrap (Int.fdiv y3 (2 ^ (Nat.min 24 IntKind.u32.bits)))),(IntKind.u8.wrap (Int.fdiv y3 (2 ^ (Nat.min 16 IntKind.u32.bits)))),(IntKind.u8.wrap (Int.fdiv y3 (2 ^ (Nat.min 8 IntKind.u32.bits)))),(IntKind.u8.wrap y3)] = List.map (TV.int .u8) (v1 ++ [(IntKind.u8.wrap (Int.fdiv y3 (2 ^ (Nat.min 24 IntKind.u32.bits)))),(IntKind.u8.wrap (Int.fdiv y3 (2 ^ (Nat.min 16 IntKind.u32.bits)))),(IntKind.u8.wrap (Int.fdiv y3 (2 ^ (Nat.min 8 IntKind.u32.bits)))),(IntKind.u8.wrap y3)]):=zbl3 _ _
   try simp only [CL,List.map_cons,List.map_nil] at f9
   injection h with h; subst h
   have ih:=ih (v1 ++ [(IntKind.u8.wrap (Int.fdiv y3 (2 ^ (Nat.min 24 IntKind.u32.bits)))),(IntKind.u8.wrap (Int.fdiv y3 (2 ^ (Nat.min 16 IntKind.u32.bits)))),(IntKind.u8.wrap (Int.fdiv y3 (2 ^ (Nat.min 8 IntKind.u32.bits)))),(IntKind.u8.wrap y3)]) (IntKind.i64.wrap (v2 + (1:Int))) rfl
   unfold m5 at ih
   simp -implicitDefEqProofs only [zbq4,fi,TT,Ic.t,ci,reduceEqDiff,reduceIte,reduceAdd,reduceMul,reduceLT,reduceLeDiff,reduceSub,reduceCtorEq,reduceEq,reduceNe,reduceToNat,Int.reduceLT,reduceLE,reduceNeg,hl,ha0,hi0,hty1,c1,c2,f4.1,f4.2.1,f4a,f4b,c5,f6,f7,f8,f9,CL,LTN]
   rw [hn]
   simp -implicitDefEqProofs only [TT,Ic.t,ci,reduceEqDiff,reduceIte,reduceAdd,reduceMul,reduceLT,reduceLeDiff,reduceSub,reduceCtorEq,reduceEq,reduceNe,reduceToNat,Int.reduceLT,reduceLE,reduceNeg,hl,ha0,hi0,hty1,c1,c2,f4.1,f4.2.1,f4a,f4b,c5,f6,f7,f8,f9,CL,LTN]
   exact ih  τ o0 _ (v1.length + 4) a9 (by first | rfl | simp [aj]) (by first | exact hty1 | exact Or.inr rfl | assumption | simp) (by first | assumption | (simp only [aa,af]; assumption)) (by simp -implicitDefEqProofs only [TT,Ic.t,ci,reduceEqDiff,reduceIte,reduceAdd,reduceMul,reduceLT,reduceLeDiff,reduceSub,reduceCtorEq,reduceEq,reduceNe,reduceToNat,Int.reduceLT,reduceLE,reduceNeg,hl,ha0,hi0,hty1,c1,c2,f4.1,f4.2.1,f4a,f4b,c5,f6,f7,f8,f9,CL,LTN]) (by first | assumption | (simp only [aa,af]; assumption)) Q hQ0
 rw [if_neg c1] at h
 injection h with h; subst h
 obtain rfl:_ = r:=ih
 simp -implicitDefEqProofs only [zbq4,fi,TT,Ic.t,ci,reduceEqDiff,reduceIte,reduceAdd,reduceMul,reduceLT,reduceLeDiff,reduceSub,reduceCtorEq,reduceEq,reduceNe,reduceToNat,Int.reduceLT,reduceLE,reduceNeg,hl,ha0,hi0,hty1,he,hr,c1,CL,LTN]
 exact hQ0  _ _ _ _ trivial ty1 (by first | exact hty1 | exact Or.inr rfl | assumption | simp) (by first | rfl | (simp -implicitDefEqProofs only [TT,Ic.t,ci,reduceEqDiff,reduceIte,reduceAdd,reduceMul,reduceLT,reduceLeDiff,reduceSub,reduceCtorEq,reduceEq,reduceNe,reduceToNat,Int.reduceLT,reduceLE,reduceNeg,hl,ha0,hi0,hty1,c1,CL,LTN])) (by first | rfl | (simp -implicitDefEqProofs only [TT,Ic.t,ci,reduceEqDiff,reduceIte,reduceAdd,reduceMul,reduceLT,reduceLeDiff,reduceSub,reduceCtorEq,reduceEq,reduceNe,reduceToNat,Int.reduceLT,reduceLE,reduceNeg,hl,ha0,hi0,hty1,c1,CL,LTN])) (by first | exact f0 (Nat.le_refl _) | (simp -implicitDefEqProofs only [TT,Ic.t,ci,reduceEqDiff,reduceIte,reduceAdd,reduceMul,reduceLT,reduceLeDiff,reduceSub,reduceCtorEq,reduceEq,reduceNe,reduceToNat,Int.reduceLT,reduceLE,reduceNeg,hl,ha0,hi0,hty1,c1,CL,LTN]))
def vm (p1:ByteArray):Option ByteArray :=
 if p1.size = 0 then
  lw p1 [(128:Int)] >>= fun y3 =>
  lu (IntKind.u64.wrap ((IntKind.u64.wrap ((p1.size:Nat):Int)) * (8:Int))) y3 (0:Int) >>= fun y5 =>
  ls (ox y5) [(1779033703:Int),(3144134277:Int),(1013904242:Int),(2773480762:Int),(1359893119:Int),(2600822924:Int),(528734635:Int),(1541459225:Int)] (0:Int) >>= fun y7 =>
  lr y7 [] (0:Int) >>= fun y9 =>
  some (ox y9)
 else
 if p1.size ≤ 140737488355327 then
  lw p1 ((bo p1) ++ [(128:Int)]) >>= fun y16 =>
  lu (IntKind.u64.wrap ((IntKind.u64.wrap ((p1.size:Nat):Int)) * (8:Int))) y16 (0:Int) >>= fun y18 =>
  ls (ox y18) [(1779033703:Int),(3144134277:Int),(1013904242:Int),(2773480762:Int),(1359893119:Int),(2600822924:Int),(528734635:Int),(1541459225:Int)] (0:Int) >>= fun y20 =>
  lr y20 [] (0:Int) >>= fun y22 =>
  some (ox y22)
 else
  none
theorem zb1n (p1:ByteArray) (r:ByteArray) (h:vm p1 = some r) (τ:TH) (hl:τ.lock ≤ τ.next):Ru G vo [.str p1] τ (.str r) τ:=by
 refine jn fun K hK => ?_
 rw [cb zbdc (Nat.le_of_ble_eq_true rfl)]
 unfold vm at h
 by_cases c1:p1.size = 0
 · rw [if_pos c1] at h
   have f2:1 ≤ maxLen:=by unfold maxLen; omega
   obtain ⟨y3,hy3,h⟩:=ob h
   simp -implicitDefEqProofs only [fi,TT,Ic.t,ci,reduceEqDiff,reduceIte,reduceAdd,reduceMul,reduceLT,reduceLeDiff,reduceSub,reduceCtorEq,reduceEq,reduceNe,reduceToNat,Int.reduceLT,reduceLE,reduceNeg,hl,eq_true c1,aj,f2,CL,LTN]
   have Sy3:=zb7a p1 [(128:Int)] y3 hy3
   unfold m9 at Sy3
   refine Sy3 _ 1 a9 (by first | rfl | simp [aj]) (by first | exact Or.inl rfl | exact Or.inr rfl | assumption | simp) (by first | assumption | omega | (simp only [aa,ag,af,ar]; omega)) _ ?_
   intro frq4 tkq4 τq4 u0q4 uh0q4 g0q4 g3q4 htq4 hcq4
   have hcq4:=cn (n:=τ.next) hcq4 (by first | omega | (simp only [aa,ag]; omega))
   try simp only [List.take_succ_cons,List.take_zero,List.take_nil,CL] at htq4
   try simp -implicitDefEqProofs only [TT,Ic.t,ci,reduceEqDiff,reduceIte,reduceAdd,reduceMul,reduceLT,reduceLeDiff,reduceSub,reduceCtorEq,reduceEq,reduceNe,reduceToNat,Int.reduceLT,reduceLE,reduceNeg,hl,eq_true c1,aj,f2,CL,LTN] at hcq4
   obtain ⟨y5,hy5,h⟩:=ob h
   simp -implicitDefEqProofs only [fi,TT,Ic.t,ci,reduceEqDiff,reduceIte,reduceAdd,reduceMul,reduceLT,reduceLeDiff,reduceSub,reduceCtorEq,reduceEq,reduceNe,reduceToNat,Int.reduceLT,reduceLE,reduceNeg,hl,eq_true c1,aj,f2,uh0q4,g0q4,g3q4,htq4,hcq4,CL,LTN]
   have Sy5:=zb7b (IntKind.u64.wrap ((IntKind.u64.wrap ((p1.size:Nat):Int)) * (8:Int))) y3 (0:Int) y5 hy5
   unfold m7 at Sy5
   refine Sy5 _ y3.length u0q4 (by first | rfl | simp [aj]) (by first | exact Or.inl rfl | exact Or.inr rfl | assumption | simp) (by first | assumption | omega | (simp only [aa,ag,af,ar]; omega)) _ ?_
   intro frq6 tkq6 τq6 u0q6 uh0q6 g3q6 htq6 hcq6
   have hcq6:=cn (n:=τ.next) hcq6 (by first | omega | (simp only [aa,ag]; omega))
   try simp only [List.take_succ_cons,List.take_zero,List.take_nil,CL] at htq6
   try simp -implicitDefEqProofs only [TT,Ic.t,ci,reduceEqDiff,reduceIte,reduceAdd,reduceMul,reduceLT,reduceLeDiff,reduceSub,reduceCtorEq,reduceEq,reduceNe,reduceToNat,Int.reduceLT,reduceLE,reduceNeg,hl,eq_true c1,aj,f2,uh0q4,g0q4,g3q4,htq4,hcq4,CL,LTN] at hcq6
   obtain ⟨y7,hy7,h⟩:=ob h
   simp -implicitDefEqProofs only [fi,TT,Ic.t,ci,reduceEqDiff,reduceIte,reduceAdd,reduceMul,reduceLT,reduceLeDiff,reduceSub,reduceCtorEq,reduceEq,reduceNe,reduceToNat,Int.reduceLT,reduceLE,reduceNeg,hl,eq_true c1,aj,f2,uh0q4,g0q4,g3q4,htq4,hcq4,uh0q6,g3q6,htq6,hcq6,CL,LTN]
   have Sy7:=zb7c (ox y5) [(1779033703:Int),(3144134277:Int),(1013904242:Int),(2773480762:Int),(1359893119:Int),(2600822924:Int),(528734635:Int),(1541459225:Int)] (0:Int) y7 hy7
   unfold m6 at Sy7
   refine Sy7 _ τ.next _ (by first | assumption | omega | (simp only [aa,ag,af,ar]; omega)) (by first | (simp -implicitDefEqProofs only [TT,Ic.t,ci,reduceEqDiff,reduceIte,reduceAdd,reduceMul,reduceLT,reduceLeDiff,reduceSub,reduceCtorEq,reduceEq,reduceNe,reduceToNat,Int.reduceLT,reduceLE,reduceNeg,hl,eq_true c1,aj,f2,uh0q4,g0q4,g3q4,htq4,hcq4,uh0q6,g3q6,htq6,hcq6,CL,LTN]; done) | (simp -implicitDefEqProofs only [TT,Ic.t,ci,reduceEqDiff,reduceIte,reduceAdd,reduceMul,reduceLT,reduceLeDiff,reduceSub,reduceCtorEq,reduceEq,reduceNe,reduceToNat,Int.reduceLT,reduceLE,reduceNeg,hl,eq_true c1,aj,f2,uh0q4,g0q4,g3q4,htq4,hcq4,uh0q6,g3q6,htq6,hcq6,CL,LTN]; rfl)) (by first | assumption | omega | (simp only [aa,ag,af,ar]; omega)) (by first | assumption | omega | (simp only [aa,ag,af,ar]; omega)) _ ?_
   intro frq8 tkq8 τq8 u0q8 uh0q8 g7q8 htq8 hcq8
   have hcq8:=cn (n:=τ.next + 1) hcq8 (by first | omega | (simp only [aa,ag]; omega))
   try simp only [List.take_succ_cons,List.take_zero,List.take_nil,CL] at htq8
   try simp -implicitDefEqProofs only [TT,Ic.t,ci,reduceEqDiff,reduceIte,reduceAdd,reduceMul,reduceLT,reduceLeDiff,reduceSub,reduceCtorEq,reduceEq,reduceNe,reduceToNat,Int.reduceLT,reduceLE,reduceNeg,hl,eq_true c1,aj,f2,uh0q4,g0q4,g3q4,htq4,hcq4,uh0q6,g3q6,htq6,hcq6,CL,LTN] at hcq8
   obtain ⟨y9,hy9,h⟩:=ob h
   simp -implicitDefEqProofs only [fi,TT,Ic.t,ci,reduceEqDiff,reduceIte,reduceAdd,reduceMul,reduceLT,reduceLeDiff,reduceSub,reduceCtorEq,reduceEq,reduceNe,reduceToNat,Int.reduceLT,reduceLE,reduceNeg,hl,eq_true c1,aj,f2,uh0q4,g0q4,g3q4,htq4,hcq4,uh0q6,g3q6,htq6,hcq6,g7q8,htq8,hcq8,CL,LTN]
   have Sy9:=zb7d y7 [] (0:Int) y9 hy9
   unfold m5 at Sy9
   refine Sy9 _ τ.next _ 0 0 (by first | rfl | simp [aj]) (by first | exact Or.inl rfl | exact Or.inr rfl | assumption | simp) (by first | assumption | omega | (simp only [aa,ag,af,ar]; omega)) (by first | (simp -implicitDefEqProofs only [TT,Ic.t,ci,reduceEqDiff,reduceIte,reduceAdd,reduceMul,reduceLT,reduceLeDiff,reduceSub,reduceCtorEq,reduceEq,reduceNe,reduceToNat,Int.reduceLT,reduceLE,reduceNeg,hl,eq_true c1,aj,f2,uh0q4,g0q4,g3q4,htq4,hcq4,uh0q6,g3q6,htq6,hcq6,g7q8,htq8,hcq8,CL,LTN]; done) | (simp -implicitDefEqProofs only [TT,Ic.t,ci,reduceEqDiff,reduceIte,reduceAdd,reduceMul,reduceLT,reduceLeDiff,reduceSub,reduceCtorEq,reduceEq,reduceNe,reduceToNat,Int.reduceLT,reduceLE,reduceNeg,hl,eq_true c1,aj,f2,uh0q4,g0q4,g3q4,htq4,hcq4,uh0q6,g3q6,htq6,hcq6,g7q8,htq8,hcq8,CL,LTN]; rfl)) (by first | assumption | omega | (simp only [aa,ag,af,ar]; omega)) _ ?_
   intro frq10 tkq10 τq10 u0q10 uh0q10 u1q10 uh1q10 g9q10 htq10 hcq10
   have hcq10:=cn (n:=τ.next + 1) hcq10 (by first | omega | (simp only [aa,ag]; omega))
   try simp only [List.take_succ_cons,List.take_zero,List.take_nil,CL] at htq10
   try simp -implicitDefEqProofs only [TT,Ic.t,ci,reduceEqDiff,reduceIte,reduceAdd,reduceMul,reduceLT,reduceLeDiff,reduceSub,reduceCtorEq,reduceEq,reduceNe,reduceToNat,Int.reduceLT,reduceLE,reduceNeg,hl,eq_true c1,aj,f2,uh0q4,g0q4,g3q4,htq4,hcq4,uh0q6,g3q6,htq6,hcq6,g7q8,htq8,hcq8,CL,LTN] at hcq10
   injection h with h; subst h
   simp -implicitDefEqProofs only [fi,TT,Ic.t,ci,reduceEqDiff,reduceIte,reduceAdd,reduceMul,reduceLT,reduceLeDiff,reduceSub,reduceCtorEq,reduceEq,reduceNe,reduceToNat,Int.reduceLT,reduceLE,reduceNeg,hl,eq_true c1,aj,f2,uh0q4,g0q4,g3q4,htq4,hcq4,uh0q6,g3q6,htq6,hcq6,g7q8,htq8,hcq8,uh1q10,g9q10,htq10,hcq10,CL,LTN]
   exact hK
 rw [if_neg c1] at h
 obtain ⟨c11,h⟩:=ifS h
 have f12:1 ≤ maxLen:=by unfold maxLen; omega
 have f13:p1.size + 1 ≤ maxLen:=by unfold maxLen; omega
 have f14:((List.map (TV.int .u8) (bo p1)).all fun e => e.cells.length == 1) = true:=zbl5 (fun _ => rfl) _
 have f15:List.map (TV.int .u8) (bo p1) ++ List.map (TV.int .u8) [(128:Int)] = List.map (TV.int .u8) ((bo p1) ++ [(128:Int)]):=zbl3 _ _
 try simp only [CL,List.map_cons,List.map_nil] at f15
 obtain ⟨y16,hy16,h⟩:=ob h
 simp -implicitDefEqProofs only [fi,TT,Ic.t,ci,reduceEqDiff,reduceIte,reduceAdd,reduceMul,reduceLT,reduceLeDiff,reduceSub,reduceCtorEq,reduceEq,reduceNe,reduceToNat,Int.reduceLT,reduceLE,reduceNeg,hl,c1,aj,c11,f12,f13,f14,f15,CL,LTN]
 have Sy16:=zb7a p1 ((bo p1) ++ [(128:Int)]) y16 hy16
 unfold m9 at Sy16
 refine Sy16 _ (p1.size + 1) a9 (by first | rfl | simp [aj]) (by first | exact Or.inl rfl | exact Or.inr rfl | assumption | simp) (by first | assumption | omega | (simp only [aa,ag,af,ar]; omega)) _ ?_
 intro frq17 tkq17 τq17 u0q17 uh0q17 g0q17 g3q17 htq17 hcq17
 have hcq17:=cn (n:=τ.next) hcq17 (by first | omega | (simp only [aa,ag]; omega))
 try simp only [List.take_succ_cons,List.take_zero,List.take_nil,CL] at htq17
 try simp -implicitDefEqProofs only [TT,Ic.t,ci,reduceEqDiff,reduceIte,reduceAdd,reduceMul,reduceLT,reduceLeDiff,reduceSub,reduceCtorEq,reduceEq,reduceNe,reduceToNat,Int.reduceLT,reduceLE,reduceNeg,hl,c1,aj,c11,f12,f13,f14,f15,CL,LTN] at hcq17
 obtain ⟨y18,hy18,h⟩:=ob h
 simp -implicitDefEqProofs only [fi,TT,Ic.t,ci,reduceEqDiff,reduceIte,reduceAdd,reduceMul,reduceLT,reduceLeDiff,reduceSub,reduceCtorEq,reduceEq,reduceNe,reduceToNat,Int.reduceLT,reduceLE,reduceNeg,hl,c1,aj,c11,f12,f13,f14,f15,uh0q17,g0q17,g3q17,htq17,hcq17,CL,LTN]
 have Sy18:=zb7b (IntKind.u64.wrap ((IntKind.u64.wrap ((p1.size:Nat):Int)) * (8:Int))) y16 (0:Int) y18 hy18
 unfold m7 at Sy18
 refine Sy18 _ y16.length u0q17 (by first | rfl | simp [aj]) (by first | exact Or.inl rfl | exact Or.inr rfl | assumption | simp) (by first | assumption | omega | (simp only [aa,ag,af,ar]; omega)) _ ?_
 intro frq19 tkq19 τq19 u0q19 uh0q19 g3q19 htq19 hcq19
 have hcq19:=cn (n:=τ.next) hcq19 (by first | omega | (simp only [aa,ag]; omega))
 try simp only [List.take_succ_cons,List.take_zero,List.take_nil,CL] at htq19
 try simp -implicitDefEqProofs only [TT,Ic.t,ci,reduceEqDiff,reduceIte,reduceAdd,reduceMul,reduceLT,reduceLeDiff,reduceSub,reduceCtorEq,reduceEq,reduceNe,reduceToNat,Int.reduceLT,reduceLE,reduceNeg,hl,c1,aj,c11,f12,f13,f14,f15,uh0q17,g0q17,g3q17,htq17,hcq17,CL,LTN] at hcq19
 obtain ⟨y20,hy20,h⟩:=ob h
 simp -implicitDefEqProofs only [fi,TT,Ic.t,ci,reduceEqDiff,reduceIte,reduceAdd,reduceMul,reduceLT,reduceLeDiff,reduceSub,reduceCtorEq,reduceEq,reduceNe,reduceToNat,Int.reduceLT,reduceLE,reduceNeg,hl,c1,aj,c11,f12,f13,f14,f15,uh0q17,g0q17,g3q17,htq17,hcq17,uh0q19,g3q19,htq19,hcq19,CL,LTN]
 have Sy20:=zb7c (ox y18) [(1779033703:Int),(3144134277:Int),(1013904242:Int),(2773480762:Int),(1359893119:Int),(2600822924:Int),(528734635:Int),(1541459225:Int)] (0:Int) y20 hy20
 unfold m6 at Sy20
 refine Sy20 _ τ.next _ (by first | assumption | omega | (simp only [aa,ag,af,ar]; omega)) (by first | (simp -implicitDefEqProofs only [TT,Ic.t,ci,reduceEqDiff,reduceIte,reduceAdd,reduceMul,reduceLT,reduceLeDiff,reduceSub,reduceCtorEq,reduceEq,reduceNe,reduceToNat,Int.reduceLT,reduceLE,reduceNeg,hl,c1,aj,c11,f12,f13,f14,f15,uh0q17,g0q17,g3q17,htq17,hcq17,uh0q19,g3q19,htq19,hcq19,CL,LTN]; done) | (simp -implicitDefEqProofs only [TT,Ic.t,ci,reduceEqDiff,reduceIte,reduceAdd,reduceMul,reduceLT,reduceLeDiff,reduceSub,reduceCtorEq,reduceEq,reduceNe,reduceToNat,Int.reduceLT,reduceLE,reduceNeg,hl,c1,aj,c11,f12,f13,f14,f15,uh0q17,g0q17,g3q17,htq17,hcq17,uh0q19,g3q19,htq19,hcq19,CL,LTN]; rfl)) (by first | assumption | omega | (simp only [aa,ag,af,ar]; omega)) (by first | assumption | omega | (simp only [aa,ag,af,ar]; omega)) _ ?_
 intro frq21 tkq21 τq21 u0q21 uh0q21 g7q21 htq21 hcq21
 have hcq21:=cn (n:=τ.next + 1) hcq21 (by first | omega | (simp only [aa,ag]; omega))
 try simp only [List.take_succ_cons,List.take_zero,List.take_nil,CL] at htq21
 try simp -implicitDefEqProofs only [TT,Ic.t,ci,reduceEqDiff,reduceIte,reduceAdd,reduceMul,reduceLT,reduceLeDiff,reduceSub,reduceCtorEq,reduceEq,reduceNe,reduceToNat,Int.reduceLT,reduceLE,reduceNeg,hl,c1,aj,c11,f12,f13,f14,f15,uh0q17,g0q17,g3q17,htq17,hcq17,uh0q19,g3q19,htq19,hcq19,CL,LTN] at hcq21
 obtain ⟨y22,hy22,h⟩:=ob h
 simp -implicitDefEqProofs only [fi,TT,Ic.t,ci,reduceEqDiff,reduceIte,reduceAdd,reduceMul,reduceLT,reduceLeDiff,reduceSub,reduceCtorEq,reduceEq,reduceNe,reduceToNat,Int.reduceLT,reduceLE,reduceNeg,hl,c1,aj,c11,f12,f13,f14,f15,uh0q17,g0q17,g3q17,htq17,hcq17,uh0q19,g3q19,htq19,hcq19,g7q21,htq21,hcq21,CL,LTN]
 have Sy22:=zb7d y20 [] (0:Int) y22 hy22
 unfold m5 at Sy22
 refine Sy22 _ τ.next _ 0 0 (by first | rfl | simp [aj]) (by first | exact Or.inl rfl | exact Or.inr rfl | assumption | simp) (by first | assumption | omega | (simp only [aa,ag,af,ar]; omega)) (by first | (simp -implicitDefEqProofs only [TT,Ic.t,ci,reduceEqDiff,reduceIte,reduceAdd,reduceMul,reduceLT,reduceLeDiff,reduceSub,reduceCtorEq,reduceEq,reduceNe,reduceToNat,Int.reduceLT,reduceLE,reduceNeg,hl,c1,aj,c11,f12,f13,f14,f15,uh0q17,g0q17,g3q17,htq17,hcq17,uh0q19,g3q19,htq19,hcq19,g7q21,htq21,hcq21,CL,LTN]; done) | (simp -implicitDefEqProofs only [TT,Ic.t,ci,reduceEqDiff,reduceIte,reduceAdd,reduceMul,reduceLT,reduceLeDiff,reduceSub,reduceCtorEq,reduceEq,reduceNe,reduceToNat,Int.reduceLT,reduceLE,reduceNeg,hl,c1,aj,c11,f12,f13,f14,f15,uh0q17,g0q17,g3q17,htq17,hcq17,uh0q19,g3q19,htq19,hcq19,g7q21,htq21,hcq21,CL,LTN]; rfl)) (by first | assumption | omega | (simp only [aa,ag,af,ar]; omega)) _ ?_
 intro frq23 tkq23 τq23 u0q23 uh0q23 u1q23 uh1q23 g9q23 htq23 hcq23
 have hcq23:=cn (n:=τ.next + 1) hcq23 (by first | omega | (simp only [aa,ag]; omega))
 try simp only [List.take_succ_cons,List.take_zero,List.take_nil,CL] at htq23
 try simp -implicitDefEqProofs only [TT,Ic.t,ci,reduceEqDiff,reduceIte,reduceAdd,reduceMul,reduceLT,reduceLeDiff,reduceSub,reduceCtorEq,reduceEq,reduceNe,reduceToNat,Int.reduceLT,reduceLE,reduceNeg,hl,c1,aj,c11,f12,f13,f14,f15,uh0q17,g0q17,g3q17,htq17,hcq17,uh0q19,g3q19,htq19,hcq19,g7q21,htq21,hcq21,CL,LTN] at hcq23
 injection h with h; subst h
 simp -implicitDefEqProofs only [fi,TT,Ic.t,ci,reduceEqDiff,reduceIte,reduceAdd,reduceMul,reduceLT,reduceLeDiff,reduceSub,reduceCtorEq,reduceEq,reduceNe,reduceToNat,Int.reduceLT,reduceLE,reduceNeg,hl,c1,aj,c11,f12,f13,f14,f15,uh0q17,g0q17,g3q17,htq17,hcq17,uh0q19,g3q19,htq19,hcq19,g7q21,htq21,hcq21,uh1q23,g9q23,htq23,hcq23,CL,LTN]
 exact hK
theorem zb1m (p1:ByteArray) (r:ByteArray) (h:vm p1 = some r) (lk:Bool) (d:Option Nat) (K:ak) (fr:TF) (tk:TK) (τ:TH) (hl:τ.lock ≤ τ.next):d9 G lk vo [.str p1] d K fr tk τ = K (dh fr d (.str r)) tk τ :=
 b9 (zb1n p1 r h τ  hl) (zb1n p1 r h (τ.locked τ.next)  (Nat.le_refl _) ) (by simp -implicitDefEqProofs only [TT,Ic.t,ci,reduceEqDiff,reduceIte,reduceAdd,reduceLT,reduceCtorEq,reduceToNat,hl,CL,LTN])
def zbmi (p1:ByteArray):Option ByteArray :=
 ui p1 >>= fun y1 =>
 vm p1 >>= fun y3 =>
 if 0 ≤ (8:Int) ∧ (8:Int) ≤ (y3.size:Int) then
  if ¬ (9223372036854775807 < ((y1.size + (y3.extract 0 8).size:Nat):Int)) then
   some (y1 ++ (y3.extract 0 8))
  else
   none
 else
  none
theorem zb1p (p1:ByteArray) (r:ByteArray) (h:zbmi p1 = some r) (τ:TH) (hl:τ.lock ≤ τ.next):Ru G vn [.str p1] τ (.str r) τ:=by
 refine jn fun K hK => ?_
 rw [cb zbda (Nat.le_of_ble_eq_true rfl)]
 unfold zbmi at h
 obtain ⟨y1,hy1,h⟩:=ob h
 have k2:=zce2 p1 _ hy1
 try simp only [CL,MC,reduceToNat] at k2
 obtain ⟨y3,hy3,h⟩:=ob h
 have k4:=zb1m p1 _ hy3
 try simp only [CL,MC,reduceToNat] at k4
 obtain ⟨c5,h⟩:=ifS h
 obtain ⟨c6,h⟩:=ifS h
 injection h with h; subst h
 simp -implicitDefEqProofs only [zbeo,TT,Ic.t,ci,reduceEqDiff,reduceIte,reduceAdd,reduceLT,reduceCtorEq,reduceToNat,hl,k2,k4,c5,c6,CL,LTN]
 exact hK
theorem zcke (p1:ByteArray) (r:ByteArray) (h:zbmi p1 = some r) (lk:Bool) (d:Option Nat) (K:ak) (fr:TF) (tk:TK) (τ:TH) (hl:τ.lock ≤ τ.next):d9 G lk vn [.str p1] d K fr tk τ = K (dh fr d (.str r)) tk τ :=
 b9 (zb1p p1 r h τ  hl) (zb1p p1 r h (τ.locked τ.next)  (Nat.le_refl _) ) (by simp -implicitDefEqProofs only [TT,Ic.t,ci,reduceEqDiff,reduceIte,reduceAdd,reduceLT,reduceCtorEq,reduceToNat,hl,CL,LTN])
def gp (p1:bq):Option bq :=
 some (⟨(⟨#[]⟩:ByteArray),true⟩:bq)
theorem zcgk (p1:bq) (r:bq) (h:gp p1 = some r) (τ:TH) (o0:Nat) (hl:τ.lock ≤ τ.next) (ha0:τ.at o0 = some ⟨kp,[.str p1.S,.bool p1.Bad]⟩) (hi0:o0 < τ.next) (hw0:τ.lock ≤ o0):Ru G jx [.ptr o0 0] τ (.tup []) (τ.put o0 ⟨kp,[.str r.S,.bool r.Bad]⟩):=by
 refine jn fun K hK => ?_
 rw [cb zcfa (Nat.le_of_ble_eq_true rfl)]
 unfold gp at h
 injection h with h; subst h
 simp -implicitDefEqProofs only [zce4,TT,Ic.t,ci,reduceEqDiff,reduceIte,reduceAdd,reduceMul,reduceLT,reduceLeDiff,reduceSub,reduceCtorEq,reduceEq,reduceNe,reduceToNat,Int.reduceLT,reduceLE,reduceNeg,hl,ha0,hi0,hw0,CL,LTN]
 exact hK
theorem ir (p1:bq) (r:bq) (h:gp p1 = some r) (d:Option Nat) (K:ak) (fr:TF) (tk:TK) (τ:TH) (o0:Nat) (hl:τ.lock ≤ τ.next) (ha0:τ.at o0 = some ⟨kp,[.str p1.S,.bool p1.Bad]⟩) (hi0:o0 < τ.next) (hw0:τ.lock ≤ o0):d9 G false jx [.ptr o0 0] d K fr tk τ = K (dh fr d (.tup [])) tk (τ.put o0 ⟨kp,[.str r.S,.bool r.Bad]⟩) :=
 iy (zcgk p1 r h τ o0 hl ha0 hi0 hw0) (by simp -implicitDefEqProofs only [TT,Ic.t,ci,reduceEqDiff,reduceIte,reduceAdd,reduceLT,reduceCtorEq,reduceToNat,hl,ha0,hi0,hw0,CL,LTN])
def db (v0:bq) (v1:Int) (v2:Int):Option (LS (Int × Int) (Int)) :=
 if v2 < (8:Int) then
  ixB v0.S v2 >>= fun b2 =>
  some (IntKind.u64.wrap ((BitVec.ofInt IntKind.u64.bits (IntKind.u64.wrap (v1 * 2 ^ (Nat.min 8 IntKind.u64.bits))) ||| BitVec.ofInt IntKind.u64.bits (IntKind.u64.wrap b2)).toNat:Int)) >>= fun x4 =>
  some (.nx (x4,(IntKind.i64.wrap (v2 + (1:Int)))))
 else
 some (.dn v1)
def kj (v0:bq) (v1:Int) (v2:Int):Option (Int):=lf (fun st => db v0 st.1 st.2) (v1,v2)
theorem zb8i (v0:bq) (v1:Int) (v2:Int):kj v0 v1 v2 = db v0 v1 v2 >>= LS.go (fun st => kj v0 st.1 st.2):=dj (fun st => db v0 st.1 st.2) (v1,v2)
def nj (v0:bq) (v1:Int) (v2:Int) (r:Int):Prop:=∀ (τ:TH) (o0:Nat) (hl:τ.lock ≤ τ.next) (ha0:τ.at o0 = some ⟨kp,[.str v0.S,.bool v0.Bad]⟩) (hi0:o0 < τ.next) (Q:TEx → ak) (hQ0:∀ (fr:TF) (tk2:TK) (τ2:TH),lkp fr 0 = .ptr o0 0 → lkp fr 3 = .int .u64 r → tk2.take 0 = [] → τ2.cut τ.next = τ → Q (.exit 0) fr tk2 τ2) ,tW G (.loop [0,3,4] tz) Q [(0,.ptr o0 0),(3,.int .u64 v1),(4,.int .i64 v2)] [] τ
theorem zchq (v0:bq) (v1:Int) (v2:Int) (r:Int) (h:kj v0 v1 v2 = some r):nj v0 v1 v2 r:=by
 refine ct (f:=fun st => db v0 st.1 st.2) (P:=fun st r => ∀ (v1:Int) (v2:Int),(v1,v2) = st → nj v0 v1 v2 r) ?_ h v1 v2 rfl
 clear h r v2 v1
 intro st o h r ih v1 v2 hst τ o0  hl ha0 hi0 Q hQ0
 subst hst
 have h:db v0 v1 v2 = some o:=h
 unfold db at h
 refine qp fun LQ hn hr he => ?_
 by_cases c1:v2 < (8:Int)
 · rw [if_pos c1] at h
   obtain ⟨b2,hb2,h⟩:=ob h
   have f3:=pd hb2
   try simp only [CL,MC,reduceToNat] at f3
   obtain ⟨x4,hx4,h⟩:=ob h
   have f5:=Option.some.inj hx4
   injection h with h; subst h
   have ih:=ih x4 (IntKind.i64.wrap (v2 + (1:Int))) rfl
   unfold nj at ih
   simp -implicitDefEqProofs only [tz,py,TT,Ic.t,ci,reduceEqDiff,reduceIte,reduceAdd,reduceMul,reduceLT,reduceLeDiff,reduceSub,reduceCtorEq,reduceEq,reduceNe,reduceToNat,Int.reduceLT,reduceLE,reduceNeg,hl,ha0,hi0,c1,f3.1,f3.2.1,f3.2.2,f5,CL,LTN]
   rw [hn]
   simp -implicitDefEqProofs only [TT,Ic.t,ci,reduceEqDiff,reduceIte,reduceAdd,reduceMul,reduceLT,reduceLeDiff,reduceSub,reduceCtorEq,reduceEq,reduceNe,reduceToNat,Int.reduceLT,reduceLE,reduceNeg,hl,ha0,hi0,c1,f3.1,f3.2.1,f3.2.2,f5,CL,LTN]
   exact ih  τ o0   (by first | assumption | (simp only [aa,af]; assumption)) (by simp -implicitDefEqProofs only [TT,Ic.t,ci,reduceEqDiff,reduceIte,reduceAdd,reduceMul,reduceLT,reduceLeDiff,reduceSub,reduceCtorEq,reduceEq,reduceNe,reduceToNat,Int.reduceLT,reduceLE,reduceNeg,hl,ha0,hi0,c1,f3.1,f3.2.1,f3.2.2,f5,CL,LTN]) (by first | assumption | (simp only [aa,af]; assumption)) Q hQ0
 rw [if_neg c1] at h
 injection h with h; subst h
 obtain rfl:_ = r:=ih
 simp -implicitDefEqProofs only [tz,py,TT,Ic.t,ci,reduceEqDiff,reduceIte,reduceAdd,reduceMul,reduceLT,reduceLeDiff,reduceSub,reduceCtorEq,reduceEq,reduceNe,reduceToNat,Int.reduceLT,reduceLE,reduceNeg,hl,ha0,hi0,he,hr,c1,CL,LTN]
 exact hQ0  _ _ _  (by first | rfl | (simp -implicitDefEqProofs only [TT,Ic.t,ci,reduceEqDiff,reduceIte,reduceAdd,reduceMul,reduceLT,reduceLeDiff,reduceSub,reduceCtorEq,reduceEq,reduceNe,reduceToNat,Int.reduceLT,reduceLE,reduceNeg,hl,ha0,hi0,c1,CL,LTN])) (by first | rfl | (simp -implicitDefEqProofs only [TT,Ic.t,ci,reduceEqDiff,reduceIte,reduceAdd,reduceMul,reduceLT,reduceLeDiff,reduceSub,reduceCtorEq,reduceEq,reduceNe,reduceToNat,Int.reduceLT,reduceLE,reduceNeg,hl,ha0,hi0,c1,CL,LTN])) (by first | rfl | (simp -implicitDefEqProofs only [TT,Ic.t,ci,reduceEqDiff,reduceIte,reduceAdd,reduceMul,reduceLT,reduceLeDiff,reduceSub,reduceCtorEq,reduceEq,reduceNe,reduceToNat,Int.reduceLT,reduceLE,reduceNeg,hl,ha0,hi0,c1,CL,LTN])) (by first | exact f0 (Nat.le_refl _) | (simp -implicitDefEqProofs only [TT,Ic.t,ci,reduceEqDiff,reduceIte,reduceAdd,reduceMul,reduceLT,reduceLeDiff,reduceSub,reduceCtorEq,reduceEq,reduceNe,reduceToNat,Int.reduceLT,reduceLE,reduceNeg,hl,ha0,hi0,c1,CL,LTN]))
def vj (p1:bq):Option (Int × bq) :=
 if p1.Bad = true then
  gp p1 >>= fun y2 =>
  some ((0:Int),y2)
 else
 if ((p1.S.size:Nat):Int) < (8:Int) then
  gp p1 >>= fun y5 =>
  some ((0:Int),y5)
 else
 kj p1 (0:Int) (0:Int) >>= fun y7 =>
 if 0 ≤ (8:Int) ∧ (8:Int) ≤ (p1.S.size:Int) then
  some ((IntKind.i64.wrap y7),(⟨(p1.S.extract 8 p1.S.size),p1.Bad⟩:bq))
 else
  none
theorem zcge (p1:bq) (r:Int × bq) (h:vj p1 = some r) (τ:TH) (o0:Nat) (hl:τ.lock ≤ τ.next) (ha0:τ.at o0 = some ⟨kp,[.str p1.S,.bool p1.Bad]⟩) (hi0:o0 < τ.next) (hw0:τ.lock ≤ o0):Ru G qf [.ptr o0 0] τ (.int .i64 r.1) (τ.put o0 ⟨kp,[.str r.2.S,.bool r.2.Bad]⟩):=by
 refine jn fun K hK => ?_
 rw [cb zcku (Nat.le_of_ble_eq_true rfl)]
 unfold vj at h
 by_cases c1:p1.Bad = true
 · rw [if_pos c1] at h
   obtain ⟨y2,hy2,h⟩:=ob h
   have k3:=ir p1 _ hy2
   try simp only [CL,MC,reduceToNat] at k3
   injection h with h; subst h
   simp -implicitDefEqProofs only [py,TT,Ic.t,ci,reduceEqDiff,reduceIte,reduceAdd,reduceMul,reduceLT,reduceLeDiff,reduceSub,reduceCtorEq,reduceEq,reduceNe,reduceToNat,Int.reduceLT,reduceLE,reduceNeg,hl,ha0,hi0,hw0,c1,k3,CL,LTN]
   first | exact hK | (simp only [hl,ha0,hi0,hw0,c1,k3,CL] at hK; exact hK)
 rw [if_neg c1] at h
 have c1:=Bool.eq_false_iff.2 c1
 by_cases c4:((p1.S.size:Nat):Int) < (8:Int)
 · rw [if_pos c4] at h
   obtain ⟨y5,hy5,h⟩:=ob h
   have k6:=ir p1 _ hy5
   try simp only [CL,MC,reduceToNat] at k6
   injection h with h; subst h
   simp -implicitDefEqProofs only [py,TT,Ic.t,ci,reduceEqDiff,reduceIte,reduceAdd,reduceMul,reduceLT,reduceLeDiff,reduceSub,reduceCtorEq,reduceEq,reduceNe,reduceToNat,Int.reduceLT,reduceLE,reduceNeg,hl,ha0,hi0,hw0,c1,c4,k6,CL,LTN]
   first | exact hK | (simp only [hl,ha0,hi0,hw0,c1,c4,k6,CL] at hK; exact hK)
 rw [if_neg c4] at h
 obtain ⟨y7,hy7,h⟩:=ob h
 simp -implicitDefEqProofs only [py,TT,Ic.t,ci,reduceEqDiff,reduceIte,reduceAdd,reduceMul,reduceLT,reduceLeDiff,reduceSub,reduceCtorEq,reduceEq,reduceNe,reduceToNat,Int.reduceLT,reduceLE,reduceNeg,hl,ha0,hi0,hw0,c1,c4,CL,LTN]
 have Sy7:=zchq p1 (0:Int) (0:Int) y7 hy7
 unfold nj at Sy7
 refine Sy7 _ o0 (by first | assumption | omega | (simp only [aa,ag,af,ar]; omega)) (by simp -implicitDefEqProofs only [TT,Ic.t,ci,reduceEqDiff,reduceIte,reduceAdd,reduceMul,reduceLT,reduceLeDiff,reduceSub,reduceCtorEq,reduceEq,reduceNe,reduceToNat,Int.reduceLT,reduceLE,reduceNeg,hl,ha0,hi0,hw0,c1,c4,CL,LTN]) (by first | assumption | omega | (simp only [aa,ag,af,ar]; omega)) _ ?_
 intro frq8 tkq8 τq8 g0q8 g3q8 htq8 hcq8
 have hcq8:=cn (n:=τ.next) hcq8 (by first | omega | (simp only [aa,ag]; omega))
 try simp only [List.take_succ_cons,List.take_zero,List.take_nil,CL] at htq8
 try simp -implicitDefEqProofs only [TT,Ic.t,ci,reduceEqDiff,reduceIte,reduceAdd,reduceMul,reduceLT,reduceLeDiff,reduceSub,reduceCtorEq,reduceEq,reduceNe,reduceToNat,Int.reduceLT,reduceLE,reduceNeg,hl,ha0,hi0,hw0,c1,c4,CL,LTN] at hcq8
 obtain ⟨c9,h⟩:=ifS h
 injection h with h; subst h
 simp -implicitDefEqProofs only [py,TT,Ic.t,ci,reduceEqDiff,reduceIte,reduceAdd,reduceMul,reduceLT,reduceLeDiff,reduceSub,reduceCtorEq,reduceEq,reduceNe,reduceToNat,Int.reduceLT,reduceLE,reduceNeg,hl,ha0,hi0,hw0,c1,c4,g0q8,g3q8,htq8,hcq8,c9,CL,LTN]
 first | exact hK | (simp only [hl,ha0,hi0,hw0,c1,c4,g0q8,g3q8,htq8,hcq8,c9,CL] at hK; exact hK)
theorem zcgd (p1:bq) (r:Int × bq) (h:vj p1 = some r) (d:Option Nat) (K:ak) (fr:TF) (tk:TK) (τ:TH) (o0:Nat) (hl:τ.lock ≤ τ.next) (ha0:τ.at o0 = some ⟨kp,[.str p1.S,.bool p1.Bad]⟩) (hi0:o0 < τ.next) (hw0:τ.lock ≤ o0):d9 G false qf [.ptr o0 0] d K fr tk τ = K (dh fr d (.int .i64 r.1)) tk (τ.put o0 ⟨kp,[.str r.2.S,.bool r.2.Bad]⟩) :=
 iy (zcge p1 r h τ o0 hl ha0 hi0 hw0) (by simp -implicitDefEqProofs only [TT,Ic.t,ci,reduceEqDiff,reduceIte,reduceAdd,reduceLT,reduceCtorEq,reduceToNat,hl,ha0,hi0,hw0,CL,LTN])
def pj (p1:bq) (p2:Int):Option (Int × bq) :=
 vj p1 >>= fun y1 =>
 if y1.2.Bad = true then
  gp y1.2 >>= fun y4 =>
  some ((0:Int),y4)
 else
 if y1.1 < (0:Int) then
  gp y1.2 >>= fun y7 =>
  some ((0:Int),y7)
 else
 if p2 < y1.1 then
  gp y1.2 >>= fun y10 =>
  some ((0:Int),y10)
 else
 some (y1.1,y1.2)
theorem zcgx (p1:bq) (p2:Int) (r:Int × bq) (h:pj p1 p2 = some r) (τ:TH) (o0:Nat) (hl:τ.lock ≤ τ.next) (ha0:τ.at o0 = some ⟨kp,[.str p1.S,.bool p1.Bad]⟩) (hi0:o0 < τ.next) (hw0:τ.lock ≤ o0):Ru G l5 [.ptr o0 0,.int .i64 p2] τ (.int .i64 r.1) (τ.put o0 ⟨kp,[.str r.2.S,.bool r.2.Bad]⟩):=by
 refine jn fun K hK => ?_
 rw [cb zcf1 (Nat.le_of_ble_eq_true rfl)]
 unfold pj at h
 obtain ⟨y1,hy1,h⟩:=ob h
 have k2:=zcgd p1 _ hy1
 try simp only [CL,MC,reduceToNat] at k2
 by_cases c3:y1.2.Bad = true
 · rw [if_pos c3] at h
   obtain ⟨y4,hy4,h⟩:=ob h
   have k5:=ir y1.2 _ hy4
   try simp only [CL,MC,reduceToNat] at k5
   injection h with h; subst h
   simp -implicitDefEqProofs only [t9,TT,Ic.t,ci,reduceEqDiff,reduceIte,reduceAdd,reduceLT,reduceCtorEq,reduceToNat,hl,ha0,hi0,hw0,k2,c3,k5,CL,LTN]
   first | exact hK | (simp only [hl,ha0,hi0,hw0,k2,c3,k5,CL] at hK; exact hK)
 rw [if_neg c3] at h
 have c3:=Bool.eq_false_iff.2 c3
 by_cases c6:y1.1 < (0:Int)
 · rw [if_pos c6] at h
   obtain ⟨y7,hy7,h⟩:=ob h
   have k8:=ir y1.2 _ hy7
   try simp only [CL,MC,reduceToNat] at k8
   injection h with h; subst h
   simp -implicitDefEqProofs only [t9,TT,Ic.t,ci,reduceEqDiff,reduceIte,reduceAdd,reduceLT,reduceCtorEq,reduceToNat,hl,ha0,hi0,hw0,k2,c3,c6,k8,CL,LTN]
   first | exact hK | (simp only [hl,ha0,hi0,hw0,k2,c3,c6,k8,CL] at hK; exact hK)
 rw [if_neg c6] at h
 by_cases c9:p2 < y1.1
 · rw [if_pos c9] at h
   obtain ⟨y10,hy10,h⟩:=ob h
   have k11:=ir y1.2 _ hy10
   try simp only [CL,MC,reduceToNat] at k11
   injection h with h; subst h
   simp -implicitDefEqProofs only [t9,TT,Ic.t,ci,reduceEqDiff,reduceIte,reduceAdd,reduceLT,reduceCtorEq,reduceToNat,hl,ha0,hi0,hw0,k2,c3,c6,c9,k11,CL,LTN]
   first | exact hK | (simp only [hl,ha0,hi0,hw0,k2,c3,c6,c9,k11,CL] at hK; exact hK)
 rw [if_neg c9] at h
 injection h with h; subst h
 simp -implicitDefEqProofs only [t9,TT,Ic.t,ci,reduceEqDiff,reduceIte,reduceAdd,reduceLT,reduceCtorEq,reduceToNat,hl,ha0,hi0,hw0,k2,c3,c6,c9,CL,LTN]
 first | exact hK | (simp only [hl,ha0,hi0,hw0,k2,c3,c6,c9,CL] at hK; exact hK)
theorem zcgw (p1:bq) (p2:Int) (r:Int × bq) (h:pj p1 p2 = some r) (d:Option Nat) (K:ak) (fr:TF) (tk:TK) (τ:TH) (o0:Nat) (hl:τ.lock ≤ τ.next) (ha0:τ.at o0 = some ⟨kp,[.str p1.S,.bool p1.Bad]⟩) (hi0:o0 < τ.next) (hw0:τ.lock ≤ o0):d9 G false l5 [.ptr o0 0,.int .i64 p2] d K fr tk τ = K (dh fr d (.int .i64 r.1)) tk (τ.put o0 ⟨kp,[.str r.2.S,.bool r.2.Bad]⟩) :=
 iy (zcgx p1 p2 r h τ o0 hl ha0 hi0 hw0) (by simp -implicitDefEqProofs only [TT,Ic.t,ci,reduceEqDiff,reduceIte,reduceAdd,reduceLT,reduceCtorEq,reduceToNat,hl,ha0,hi0,hw0,CL,LTN])
def oq (p1:bq) (p2:Int):Option (ByteArray × bq) :=
 pj p1 p2 >>= fun y1 =>
 if y1.2.Bad = true then
  gp y1.2 >>= fun y4 =>
  some ((⟨#[]⟩:ByteArray),y4)
 else
 if ((y1.2.S.size:Nat):Int) < y1.1 then
  gp y1.2 >>= fun y7 =>
  some ((⟨#[]⟩:ByteArray),y7)
 else
 if 0 ≤ y1.1 ∧ y1.1 ≤ (y1.2.S.size:Int) then
  some ((y1.2.S.extract 0 y1.1.toNat),(⟨(y1.2.S.extract y1.1.toNat y1.2.S.size),y1.2.Bad⟩:bq))
 else
  none
theorem zcg0 (p1:bq) (p2:Int) (r:ByteArray × bq) (h:oq p1 p2 = some r) (τ:TH) (o0:Nat) (hl:τ.lock ≤ τ.next) (ha0:τ.at o0 = some ⟨kp,[.str p1.S,.bool p1.Bad]⟩) (hi0:o0 < τ.next) (hw0:τ.lock ≤ o0):Ru G ov [.ptr o0 0,.int .i64 p2] τ (.str r.1) (τ.put o0 ⟨kp,[.str r.2.S,.bool r.2.Bad]⟩):=by
 refine jn fun K hK => ?_
 rw [cb zcfb (Nat.le_of_ble_eq_true rfl)]
 unfold oq at h
 obtain ⟨y1,hy1,h⟩:=ob h
 have k2:=zcgw p1 p2 _ hy1
 try simp only [CL,MC,reduceToNat] at k2
 by_cases c3:y1.2.Bad = true
 · rw [if_pos c3] at h
   obtain ⟨y4,hy4,h⟩:=ob h
   have k5:=ir y1.2 _ hy4
   try simp only [CL,MC,reduceToNat] at k5
   injection h with h; subst h
   simp -implicitDefEqProofs only [zbty,TT,Ic.t,ci,reduceEqDiff,reduceIte,reduceAdd,reduceMul,reduceLT,reduceLeDiff,reduceSub,reduceCtorEq,reduceEq,reduceNe,reduceToNat,Int.reduceLT,reduceLE,reduceNeg,hl,ha0,hi0,hw0,k2,c3,k5,CL,LTN]
   first | exact hK | (simp only [hl,ha0,hi0,hw0,k2,c3,k5,CL] at hK; exact hK)
 rw [if_neg c3] at h
 have c3:=Bool.eq_false_iff.2 c3
 by_cases c6:((y1.2.S.size:Nat):Int) < y1.1
 · rw [if_pos c6] at h
   obtain ⟨y7,hy7,h⟩:=ob h
   have k8:=ir y1.2 _ hy7
   try simp only [CL,MC,reduceToNat] at k8
   injection h with h; subst h
   simp -implicitDefEqProofs only [zbty,TT,Ic.t,ci,reduceEqDiff,reduceIte,reduceAdd,reduceMul,reduceLT,reduceLeDiff,reduceSub,reduceCtorEq,reduceEq,reduceNe,reduceToNat,Int.reduceLT,reduceLE,reduceNeg,hl,ha0,hi0,hw0,k2,c3,c6,k8,CL,LTN]
   first | exact hK | (simp only [hl,ha0,hi0,hw0,k2,c3,c6,k8,CL] at hK; exact hK)
 rw [if_neg c6] at h
 obtain ⟨c9,h⟩:=ifS h
 injection h with h; subst h
 simp -implicitDefEqProofs only [zbty,TT,Ic.t,ci,reduceEqDiff,reduceIte,reduceAdd,reduceMul,reduceLT,reduceLeDiff,reduceSub,reduceCtorEq,reduceEq,reduceNe,reduceToNat,Int.reduceLT,reduceLE,reduceNeg,hl,ha0,hi0,hw0,k2,c3,c6,c9,CL,LTN]
 first | exact hK | (simp only [hl,ha0,hi0,hw0,k2,c3,c6,c9,CL] at hK; exact hK)
theorem zcgz (p1:bq) (p2:Int) (r:ByteArray × bq) (h:oq p1 p2 = some r) (d:Option Nat) (K:ak) (fr:TF) (tk:TK) (τ:TH) (o0:Nat) (hl:τ.lock ≤ τ.next) (ha0:τ.at o0 = some ⟨kp,[.str p1.S,.bool p1.Bad]⟩) (hi0:o0 < τ.next) (hw0:τ.lock ≤ o0):d9 G false ov [.ptr o0 0,.int .i64 p2] d K fr tk τ = K (dh fr d (.str r.1)) tk (τ.put o0 ⟨kp,[.str r.2.S,.bool r.2.Bad]⟩) :=
 iy (zcg0 p1 p2 r h τ o0 hl ha0 hi0 hw0) (by simp -implicitDefEqProofs only [TT,Ic.t,ci,reduceEqDiff,reduceIte,reduceAdd,reduceLT,reduceCtorEq,reduceToNat,hl,ha0,hi0,hw0,CL,LTN])
def de (v0:ByteArray) (v1:(List ByteArray)) (v2:Int):Option (LS ((List ByteArray) × Int) ((List ByteArray) × Int)) :=
 if 0 ≤ v2 ∧ v2 ≤ (v0.size:Int) then
  oq (⟨(v0.extract v2.toNat v0.size),false⟩:bq) (1048576:Int) >>= fun y2 =>
  if y2.2.Bad = true then
   some (.dn (v1,v2))
  else
  if ((y2.2.S.size:Nat):Int) < (8:Int) then
   some (.dn (v1,v2))
  else
  if 0 ≤ (8:Int) ∧ (8:Int) ≤ (y2.2.S.size:Int) then
   vm y2.1 >>= fun y7 =>
   if 0 ≤ (8:Int) ∧ (8:Int) ≤ (y7.size:Int) then
    if (y2.2.S.extract 0 8) = (y7.extract 0 8) then
     if (v1.length + 1) * 16 ≤ 140737488355328 then
      some (.nx ((v1 ++ [y2.1]),(IntKind.i64.wrap ((IntKind.i64.wrap (v2 + ((y2.1.size:Nat):Int))) + (16:Int)))))
     else
      none
    else
    some (.dn (v1,v2))
   else
    none
  else
   none
 else
  none
def l4 (v0:ByteArray) (v1:(List ByteArray)) (v2:Int):Option ((List ByteArray) × Int):=lf (fun st => de v0 st.1 st.2) (v1,v2)
theorem zb73 (v0:ByteArray) (v1:(List ByteArray)) (v2:Int):l4 v0 v1 v2 = de v0 v1 v2 >>= LS.go (fun st => l4 v0 st.1 st.2):=dj (fun st => de v0 st.1 st.2) (v1,v2)
def pi (v0:ByteArray) (v1:(List ByteArray)) (v2:Int) (r:(List ByteArray) × Int):Prop:=∀ (τ:TH) (n0:Nat) (ty0:TypeId) (hnn0:n0 = v1.length) (hty0:n0 = 0 ∨ ty0 = zbnb) (hl:τ.lock ≤ τ.next) (Q:TEx → ak) (hQ0:∀ (tk2:TK) (τ2:TH),τ2.cut τ.next = τ → Q .ret [(2,.sla 0 (List.map TV.str r.1)),(3,.int .i64 r.2)] tk2 τ2) ,tW G (.loop [0,4,5] oh) Q [(0,.str v0),(4,.sla 0 (List.map TV.str v1)),(5,.int .i64 v2)] [some (n0,ty0)] τ
theorem zcgy (v0:ByteArray) (v1:(List ByteArray)) (v2:Int) (r:(List ByteArray) × Int) (h:l4 v0 v1 v2 = some r):pi v0 v1 v2 r:=by
 refine ct (f:=fun st => de v0 st.1 st.2) (P:=fun st r => ∀ (v1:(List ByteArray)) (v2:Int),(v1,v2) = st → pi v0 v1 v2 r) ?_ h v1 v2 rfl
 clear h r v2 v1
 intro st o h r ih v1 v2 hst τ  n0 ty0 hnn0 hty0 hl Q hQ0
 subst hst
 have h:de v0 v1 v2 = some o:=h
 unfold de at h
 subst hnn0
 refine qp fun LQ hn hr he => ?_
 obtain ⟨c1,h⟩:=ifS h
 obtain ⟨y2,hy2,h⟩:=ob h
 have k3:=zcgz (⟨(v0.extract v2.toNat v0.size),false⟩:bq) (1048576:Int) _ hy2
 try simp only [CL,MC,reduceToNat] at k3
 by_cases c4:y2.2.Bad = true
 · rw [if_pos c4] at h
   injection h with h; subst h
   obtain rfl:_ = r:=ih
   simp -implicitDefEqProofs only [oh,ug,TT,Ic.t,ci,reduceEqDiff,reduceIte,reduceAdd,reduceMul,reduceLT,reduceLeDiff,reduceSub,reduceCtorEq,reduceEq,reduceNe,reduceToNat,Int.reduceLT,reduceLE,reduceNeg,hl,hty0,he,hr,c1,k3,c4,CL,LTN]
   exact hQ0  _ _  (by first | exact f0 (Nat.le_refl _) | (simp -implicitDefEqProofs only [TT,Ic.t,ci,reduceEqDiff,reduceIte,reduceAdd,reduceMul,reduceLT,reduceLeDiff,reduceSub,reduceCtorEq,reduceEq,reduceNe,reduceToNat,Int.reduceLT,reduceLE,reduceNeg,hl,hty0,c1,k3,c4,CL,LTN]))
 rw [if_neg c4] at h
 have c4:=Bool.eq_false_iff.2 c4
 by_cases c5:((y2.2.S.size:Nat):Int) < (8:Int)
 · rw [if_pos c5] at h
   injection h with h; subst h
   obtain rfl:_ = r:=ih
   simp -implicitDefEqProofs only [oh,ug,TT,Ic.t,ci,reduceEqDiff,reduceIte,reduceAdd,reduceMul,reduceLT,reduceLeDiff,reduceSub,reduceCtorEq,reduceEq,reduceNe,reduceToNat,Int.reduceLT,reduceLE,reduceNeg,hl,hty0,he,hr,c1,k3,c4,c5,CL,LTN]
   exact hQ0  _ _  (by first | exact f0 (Nat.le_refl _) | (simp -implicitDefEqProofs only [TT,Ic.t,ci,reduceEqDiff,reduceIte,reduceAdd,reduceMul,reduceLT,reduceLeDiff,reduceSub,reduceCtorEq,reduceEq,reduceNe,reduceToNat,Int.reduceLT,reduceLE,reduceNeg,hl,hty0,c1,k3,c4,c5,CL,LTN]))
 rw [if_neg c5] at h
 obtain ⟨c6,h⟩:=ifS h
 obtain ⟨y7,hy7,h⟩:=ob h
 have k8:=zb1m y2.1 _ hy7
 try simp only [CL,MC,reduceToNat] at k8
 obtain ⟨c9,h⟩:=ifS h
 by_cases c10:(y2.2.S.extract 0 8) = (y7.extract 0 8)
 · rw [if_pos c10] at h
   obtain ⟨c11,h⟩:=ifS h
   have f12:1 ≤ maxLen:=by unfold maxLen; omega
   have f13:v1.length + 1 ≤ maxLen:=by unfold maxLen; omega
   have f14:((List.map TV.str v1).all fun e => e.cells.length == 1) = true:=zbl5 (fun _ => rfl) _
   have f15:List.map TV.str v1 ++ List.map TV.str [y2.1] = List.map TV.str (v1 ++ [y2.1]):=zbl3 _ _
   try simp only [CL,List.map_cons,List.map_nil] at f15
   injection h with h; subst h
   have ih:=ih (v1 ++ [y2.1]) (IntKind.i64.wrap ((IntKind.i64.wrap (v2 + ((y2.1.size:Nat):Int))) + (16:Int))) rfl
   unfold pi at ih
   simp -implicitDefEqProofs only [oh,ug,TT,Ic.t,ci,reduceEqDiff,reduceIte,reduceAdd,reduceMul,reduceLT,reduceLeDiff,reduceSub,reduceCtorEq,reduceEq,reduceNe,reduceToNat,Int.reduceLT,reduceLE,reduceNeg,hl,hty0,c1,k3,c4,c5,c6,k8,c9,eq_true c10,c11,f12,f13,f14,f15,CL,LTN]
   rw [hn]
   simp -implicitDefEqProofs only [TT,Ic.t,ci,reduceEqDiff,reduceIte,reduceAdd,reduceMul,reduceLT,reduceLeDiff,reduceSub,reduceCtorEq,reduceEq,reduceNe,reduceToNat,Int.reduceLT,reduceLE,reduceNeg,hl,hty0,c1,k3,c4,c5,c6,k8,c9,eq_true c10,c11,f12,f13,f14,f15,CL,LTN]
   exact ih  τ   (v1.length + 1) zbnb (by first | rfl | simp [aj]) (by first | exact hty0 | exact Or.inr rfl | assumption | simp) (by first | assumption | (simp only [aa,af]; assumption)) Q hQ0
 rw [if_neg c10] at h
 injection h with h; subst h
 obtain rfl:_ = r:=ih
 simp -implicitDefEqProofs only [oh,ug,TT,Ic.t,ci,reduceEqDiff,reduceIte,reduceAdd,reduceMul,reduceLT,reduceLeDiff,reduceSub,reduceCtorEq,reduceEq,reduceNe,reduceToNat,Int.reduceLT,reduceLE,reduceNeg,hl,hty0,he,hr,c1,k3,c4,c5,c6,k8,c9,c10,CL,LTN]
 exact hQ0  _ _  (by first | exact f0 (Nat.le_refl _) | (simp -implicitDefEqProofs only [TT,Ic.t,ci,reduceEqDiff,reduceIte,reduceAdd,reduceMul,reduceLT,reduceLeDiff,reduceSub,reduceCtorEq,reduceEq,reduceNe,reduceToNat,Int.reduceLT,reduceLE,reduceNeg,hl,hty0,c1,k3,c4,c5,c6,k8,c9,c10,CL,LTN]))
def uh (p1:ByteArray):Option ((List ByteArray) × Int) :=
 l4 p1 [] (0:Int) >>= fun y1 =>
 some (y1.1,y1.2)
theorem zb4d (p1:ByteArray) (r:(List ByteArray) × Int) (h:uh p1 = some r) (τ:TH) (hl:τ.lock ≤ τ.next):Ru G uj [.str p1] τ (.tup [.sl (List.map TV.str r.1),.int .i64 r.2]) τ:=by
 refine jn fun K hK => ?_
 rw [cb za5d (Nat.le_of_ble_eq_true rfl)]
 unfold uh at h
 obtain ⟨y1,hy1,h⟩:=ob h
 simp -implicitDefEqProofs only [ug,TT,Ic.t,ci,reduceEqDiff,reduceIte,reduceAdd,reduceLT,reduceCtorEq,reduceToNat,hl,CL,LTN]
 have Sy1:=zcgy p1 [] (0:Int) y1 hy1
 unfold pi at Sy1
 refine Sy1 _ 0 0 (by first | rfl | simp [aj]) (by first | exact Or.inl rfl | exact Or.inr rfl | assumption | simp) (by first | assumption | omega | (simp only [aa,ag,af,ar]; omega)) _ ?_
 intro tkq2 τq2 hcq2
 have hcq2:=cn (n:=τ.next) hcq2 (by first | omega | (simp only [aa,ag]; omega))
 try simp -implicitDefEqProofs only [TT,Ic.t,ci,reduceEqDiff,reduceIte,reduceAdd,reduceLT,reduceCtorEq,reduceToNat,hl,CL,LTN] at hcq2
 injection h with h; subst h
 simp -implicitDefEqProofs only [ug,TT,Ic.t,ci,reduceEqDiff,reduceIte,reduceAdd,reduceLT,reduceCtorEq,reduceToNat,hl,hcq2,CL,LTN]
 exact hK
theorem zce3 (p1:ByteArray) (r:(List ByteArray) × Int) (h:uh p1 = some r) (lk:Bool) (d:Option Nat) (K:ak) (fr:TF) (tk:TK) (τ:TH) (hl:τ.lock ≤ τ.next):d9 G lk uj [.str p1] d K fr tk τ = K (dh fr d (.tup [.sl (List.map TV.str r.1),.int .i64 r.2])) tk τ :=
 b9 (zb4d p1 r h τ  hl) (zb4d p1 r h (τ.locked τ.next)  (Nat.le_refl _) ) (by simp -implicitDefEqProofs only [TT,Ic.t,ci,reduceEqDiff,reduceIte,reduceAdd,reduceLT,reduceCtorEq,reduceToNat,hl,CL,LTN])
def bu (v0:(List ByteArray)) (v1:(List ByteArray)) (v2:Int):Option (LS (Int) (LX (Unit) (Bool))) :=
 if v2 < ((v0.length:Nat):Int) then
  ixL v0 v2 >>= fun y2 =>
  ixL v1 v2 >>= fun y4 =>
  if y2 = y4 then
   some (.nx (IntKind.i64.wrap (v2 + (1:Int))))
  else
  some (.dn (.rt false))
 else
 some (.dn (.ex ()))
def gc (v0:(List ByteArray)) (v1:(List ByteArray)) (v2:Int):Option (LX (Unit) (Bool)):=lf (fun st => bu v0 v1 st) v2
theorem rz (v0:(List ByteArray)) (v1:(List ByteArray)) (v2:Int):gc v0 v1 v2 = bu v0 v1 v2 >>= LS.go (fun st => gc v0 v1 st):=dj (fun st => bu v0 v1 st) v2
def i8 (v0:(List ByteArray)) (v1:(List ByteArray)) (v2:Int) (r:LX (Unit) (Bool)):Prop:=∀ (τ:TH) (hl:τ.lock ≤ τ.next) (Q:TEx → ak) (hQ0:∀ v:Unit,r = (.ex v) → ∀ (fr:TF) (tk2:TK) (τ2:TH),tk2.take 0 = [] → τ2.cut τ.next = τ → Q (.exit 0) fr tk2 τ2) (hQ1:∀ v:Bool,r = (.rt v) → ∀ (tk2:TK) (τ2:TH),τ2.cut τ.next = τ → Q .ret [(4,.bool v)] tk2 τ2) ,tW G (.loop [0,1,5] jj) Q [(0,.sl (List.map TV.str v0)),(1,.sl (List.map TV.str v1)),(5,.int .i64 v2)] [] τ
theorem zcjd (v0:(List ByteArray)) (v1:(List ByteArray)) (v2:Int) (r:LX (Unit) (Bool)) (h:gc v0 v1 v2 = some r):i8 v0 v1 v2 r:=by
 refine ct (f:=fun st => bu v0 v1 st) (P:=fun st r => ∀ (v2:Int),v2 = st → i8 v0 v1 v2 r) ?_ h v2 rfl
 clear h r v2
 intro st o h r ih v2 hst τ  hl Q hQ0 hQ1
 subst hst
 have h:bu v0 v1 v2 = some o:=h
 unfold bu at h
 refine qp fun LQ hn hr he => ?_
 by_cases c1:v2 < ((v0.length:Nat):Int)
 · rw [if_pos c1] at h
   obtain ⟨y2,hy2,h⟩:=ob h
   have f3:=au hy2
   have f3a:=(f3.2.2 TV.str).1
   have f3b:=(f3.2.2 TV.str).2
   try simp only [CL,MC,reduceToNat] at f3 f3a f3b
   obtain ⟨y4,hy4,h⟩:=ob h
   have f5:=au hy4
   have f5a:=(f5.2.2 TV.str).1
   have f5b:=(f5.2.2 TV.str).2
   try simp only [CL,MC,reduceToNat] at f5 f5a f5b
   by_cases c6:y2 = y4
   · rw [if_pos c6] at h
     injection h with h; subst h
     have ih:=ih (IntKind.i64.wrap (v2 + (1:Int))) rfl
     unfold i8 at ih
     simp -implicitDefEqProofs only [jj,g9,TT,Ic.t,ci,reduceEqDiff,reduceIte,reduceAdd,reduceLT,reduceCtorEq,reduceToNat,hl,c1,f3.1,f3.2.1,f3a,f3b,f5.1,f5.2.1,f5a,f5b,eq_true c6,CL,LTN]
     rw [hn]
     simp -implicitDefEqProofs only [TT,Ic.t,ci,reduceEqDiff,reduceIte,reduceAdd,reduceLT,reduceCtorEq,reduceToNat,hl,c1,f3.1,f3.2.1,f3a,f3b,f5.1,f5.2.1,f5a,f5b,eq_true c6,CL,LTN]
     exact ih  τ    (by first | assumption | (simp only [aa,af]; assumption)) Q hQ0 hQ1
   rw [if_neg c6] at h
   injection h with h; subst h
   obtain rfl:_ = r:=ih
   simp -implicitDefEqProofs only [jj,g9,TT,Ic.t,ci,reduceEqDiff,reduceIte,reduceAdd,reduceLT,reduceCtorEq,reduceToNat,hl,he,hr,c1,f3.1,f3.2.1,f3a,f3b,f5.1,f5.2.1,f5a,f5b,c6,CL,LTN]
   exact hQ1 false rfl  _ _  (by first | exact f0 (Nat.le_refl _) | (simp -implicitDefEqProofs only [TT,Ic.t,ci,reduceEqDiff,reduceIte,reduceAdd,reduceLT,reduceCtorEq,reduceToNat,hl,c1,f3.1,f3.2.1,f3a,f3b,f5.1,f5.2.1,f5a,f5b,c6,CL,LTN]))
 rw [if_neg c1] at h
 injection h with h; subst h
 obtain rfl:_ = r:=ih
 simp -implicitDefEqProofs only [jj,g9,TT,Ic.t,ci,reduceEqDiff,reduceIte,reduceAdd,reduceLT,reduceCtorEq,reduceToNat,hl,he,hr,c1,CL,LTN]
 exact hQ0 () rfl  _ _ _   (by first | rfl | (simp -implicitDefEqProofs only [TT,Ic.t,ci,reduceEqDiff,reduceIte,reduceAdd,reduceLT,reduceCtorEq,reduceToNat,hl,c1,CL,LTN])) (by first | exact f0 (Nat.le_refl _) | (simp -implicitDefEqProofs only [TT,Ic.t,ci,reduceEqDiff,reduceIte,reduceAdd,reduceLT,reduceCtorEq,reduceToNat,hl,c1,CL,LTN]))
def jo (p1:(List ByteArray)) (p2:(List ByteArray)):Option Bool :=
 if ((p1.length:Nat):Int) = ((p2.length:Nat):Int) then
  gc p1 p2 (0:Int) >>= fun y2 =>
  match y2 with
  | .ex w3 =>
   some true
  | .rt w5 =>
   some w5
 else
 some false
theorem zb8j (p1:(List ByteArray)) (p2:(List ByteArray)) (r:Bool) (h:jo p1 p2 = some r) (τ:TH) (hl:τ.lock ≤ τ.next):Ru G jr [.sl (List.map TV.str p1),.sl (List.map TV.str p2)] τ (.bool r) τ:=by
 refine jn fun K hK => ?_
 rw [cb zcg9 (Nat.le_of_ble_eq_true rfl)]
 unfold jo at h
 by_cases c1:((p1.length:Nat):Int) = ((p2.length:Nat):Int)
 · rw [if_pos c1] at h
   obtain ⟨y2,hy2,h⟩:=ob h
   simp -implicitDefEqProofs only [g9,TT,Ic.t,ci,reduceEqDiff,reduceIte,reduceAdd,reduceLT,reduceCtorEq,reduceToNat,hl,eq_true c1,CL,LTN]
   have Sy2:=zcjd p1 p2 (0:Int) y2 hy2
   unfold i8 at Sy2
   refine Sy2 _ (by first | assumption | omega | (simp only [aa,ag,af,ar]; omega)) _ ?_ ?_
   · intro w3 e frq4 tkq4 τq4 htq4 hcq4
     subst e
     simp only at h
     have hcq4:=cn (n:=τ.next) hcq4 (by first | omega | (simp only [aa,ag]; omega))
     try simp only [List.take_succ_cons,List.take_zero,List.take_nil,CL] at htq4
     try simp -implicitDefEqProofs only [TT,Ic.t,ci,reduceEqDiff,reduceIte,reduceAdd,reduceLT,reduceCtorEq,reduceToNat,hl,eq_true c1,CL,LTN] at hcq4
     injection h with h; subst h
     simp -implicitDefEqProofs only [g9,TT,Ic.t,ci,reduceEqDiff,reduceIte,reduceAdd,reduceLT,reduceCtorEq,reduceToNat,hl,eq_true c1,htq4,hcq4,CL,LTN]
     exact hK
   intro w5 e tkq6 τq6 hcq6
   subst e
   simp only at h
   have hcq6:=cn (n:=τ.next) hcq6 (by first | omega | (simp only [aa,ag]; omega))
   try simp -implicitDefEqProofs only [TT,Ic.t,ci,reduceEqDiff,reduceIte,reduceAdd,reduceLT,reduceCtorEq,reduceToNat,hl,eq_true c1,CL,LTN] at hcq6
   injection h with h; subst h
   simp -implicitDefEqProofs only [g9,TT,Ic.t,ci,reduceEqDiff,reduceIte,reduceAdd,reduceLT,reduceCtorEq,reduceToNat,hl,eq_true c1,hcq6,CL,LTN]
   exact hK
 rw [if_neg c1] at h
 injection h with h; subst h
 simp -implicitDefEqProofs only [g9,TT,Ic.t,ci,reduceEqDiff,reduceIte,reduceAdd,reduceLT,reduceCtorEq,reduceToNat,hl,c1,CL,LTN]
 exact hK
theorem zch0 (p1:(List ByteArray)) (p2:(List ByteArray)) (r:Bool) (h:jo p1 p2 = some r) (lk:Bool) (d:Option Nat) (K:ak) (fr:TF) (tk:TK) (τ:TH) (hl:τ.lock ≤ τ.next):d9 G lk jr [.sl (List.map TV.str p1),.sl (List.map TV.str p2)] d K fr tk τ = K (dh fr d (.bool r)) tk τ :=
 b9 (zb8j p1 p2 r h τ  hl) (zb8j p1 p2 r h (τ.locked τ.next)  (Nat.le_refl _) ) (by simp -implicitDefEqProofs only [TT,Ic.t,ci,reduceEqDiff,reduceIte,reduceAdd,reduceLT,reduceCtorEq,reduceToNat,hl,CL,LTN])
def ca (v0:(List ByteArray)) (v1:ByteArray) (v2:ByteArray) (v3:Int):Option (LS (ByteArray × Int) (LX (ByteArray) (Bool))) :=
 if v3 < ((v0.length:Nat):Int) then
  ixL v0 v3 >>= fun y2 =>
  if (200:Int) < ((y2.size:Nat):Int) then
   bz >>= fun y5 =>
   some (.dn (.rt y5))
  else
  mn y2 >>= fun y7 =>
  zbmi y2 >>= fun y9 =>
  if y7 = y9 then
   if ¬ (9223372036854775807 < ((v2.size + y9.size:Nat):Int)) then
    some (.nx ((v2 ++ y9),(IntKind.i64.wrap (v3 + (1:Int)))))
   else
    none
  else
  some (.dn (.rt false))
 else
 some (.dn (.ex v2))
def em (v0:(List ByteArray)) (v1:ByteArray) (v2:ByteArray) (v3:Int):Option (LX (ByteArray) (Bool)):=lf (fun st => ca v0 v1 st.1 st.2) (v2,v3)
theorem tu (v0:(List ByteArray)) (v1:ByteArray) (v2:ByteArray) (v3:Int):em v0 v1 v2 v3 = ca v0 v1 v2 v3 >>= LS.go (fun st => em v0 v1 st.1 st.2):=dj (fun st => ca v0 v1 st.1 st.2) (v2,v3)
def jz (v0:(List ByteArray)) (v1:ByteArray) (v2:ByteArray) (v3:Int) (r:LX (ByteArray) (Bool)):Prop:=∀ (τ:TH) (hl:τ.lock ≤ τ.next) (Q:TEx → ak) (hQ0:∀ v:ByteArray,r = (.ex v) → ∀ (fr:TF) (tk2:TK) (τ2:TH),lkp fr 0 = .sl (List.map TV.str v0) → lkp fr 1 = .str v1 → lkp fr 5 = .str v → tk2.take 0 = [] → τ2.cut τ.next = τ → Q (.exit 0) fr tk2 τ2) (hQ1:∀ v:Bool,r = (.rt v) → ∀ (tk2:TK) (τ2:TH),τ2.cut τ.next = τ → Q .ret [(4,.bool v)] tk2 τ2) ,tW G (.loop [0,1,5,6] ib) Q [(0,.sl (List.map TV.str v0)),(1,.str v1),(5,.str v2),(6,.int .i64 v3)] [] τ
theorem zci1 (v0:(List ByteArray)) (v1:ByteArray) (v2:ByteArray) (v3:Int) (r:LX (ByteArray) (Bool)) (h:em v0 v1 v2 v3 = some r):jz v0 v1 v2 v3 r:=by
 refine ct (f:=fun st => ca v0 v1 st.1 st.2) (P:=fun st r => ∀ (v2:ByteArray) (v3:Int),(v2,v3) = st → jz v0 v1 v2 v3 r) ?_ h v2 v3 rfl
 clear h r v3 v2
 intro st o h r ih v2 v3 hst τ  hl Q hQ0 hQ1
 subst hst
 have h:ca v0 v1 v2 v3 = some o:=h
 unfold ca at h
 refine qp fun LQ hn hr he => ?_
 by_cases c1:v3 < ((v0.length:Nat):Int)
 · rw [if_pos c1] at h
   obtain ⟨y2,hy2,h⟩:=ob h
   have f3:=au hy2
   have f3a:=(f3.2.2 TV.str).1
   have f3b:=(f3.2.2 TV.str).2
   try simp only [CL,MC,reduceToNat] at f3 f3a f3b
   by_cases c4:(200:Int) < ((y2.size:Nat):Int)
   · rw [if_pos c4] at h
     obtain ⟨y5,hy5,h⟩:=ob h
     have k6:=cq  _ hy5
     try simp only [CL,MC,reduceToNat] at k6
     injection h with h; subst h
     obtain rfl:_ = r:=ih
     simp -implicitDefEqProofs only [ib,cu,TT,Ic.t,ci,reduceEqDiff,reduceIte,reduceAdd,reduceLT,reduceCtorEq,reduceToNat,hl,he,hr,c1,f3.1,f3.2.1,f3a,f3b,c4,k6,CL,LTN]
     exact hQ1 y5 rfl  _ _  (by first | exact f0 (Nat.le_refl _) | (simp -implicitDefEqProofs only [TT,Ic.t,ci,reduceEqDiff,reduceIte,reduceAdd,reduceLT,reduceCtorEq,reduceToNat,hl,c1,f3.1,f3.2.1,f3a,f3b,c4,k6,CL,LTN]))
   rw [if_neg c4] at h
   obtain ⟨y7,hy7,h⟩:=ob h
   have k8:=ul y2 _ hy7
   try simp only [CL,MC,reduceToNat] at k8
   obtain ⟨y9,hy9,h⟩:=ob h
   have k10:=zcke y2 _ hy9
   try simp only [CL,MC,reduceToNat] at k10
   by_cases c11:y7 = y9
   · rw [if_pos c11] at h
     obtain ⟨c12,h⟩:=ifS h
     injection h with h; subst h
     have ih:=ih (v2 ++ y9) (IntKind.i64.wrap (v3 + (1:Int))) rfl
     unfold jz at ih
     simp -implicitDefEqProofs only [ib,cu,TT,Ic.t,ci,reduceEqDiff,reduceIte,reduceAdd,reduceLT,reduceCtorEq,reduceToNat,hl,c1,f3.1,f3.2.1,f3a,f3b,c4,k8,k10,eq_true c11,c12,CL,LTN]
     rw [hn]
     simp -implicitDefEqProofs only [TT,Ic.t,ci,reduceEqDiff,reduceIte,reduceAdd,reduceLT,reduceCtorEq,reduceToNat,hl,c1,f3.1,f3.2.1,f3a,f3b,c4,k8,k10,eq_true c11,c12,CL,LTN]
     exact ih  τ    (by first | assumption | (simp only [aa,af]; assumption)) Q hQ0 hQ1
   rw [if_neg c11] at h
   injection h with h; subst h
   obtain rfl:_ = r:=ih
   simp -implicitDefEqProofs only [ib,cu,TT,Ic.t,ci,reduceEqDiff,reduceIte,reduceAdd,reduceLT,reduceCtorEq,reduceToNat,hl,he,hr,c1,f3.1,f3.2.1,f3a,f3b,c4,k8,k10,c11,CL,LTN]
   exact hQ1 false rfl  _ _  (by first | exact f0 (Nat.le_refl _) | (simp -implicitDefEqProofs only [TT,Ic.t,ci,reduceEqDiff,reduceIte,reduceAdd,reduceLT,reduceCtorEq,reduceToNat,hl,c1,f3.1,f3.2.1,f3a,f3b,c4,k8,k10,c11,CL,LTN]))
 rw [if_neg c1] at h
 injection h with h; subst h
 obtain rfl:_ = r:=ih
 simp -implicitDefEqProofs only [ib,cu,TT,Ic.t,ci,reduceEqDiff,reduceIte,reduceAdd,reduceLT,reduceCtorEq,reduceToNat,hl,he,hr,c1,CL,LTN]
 exact hQ0 v2 rfl  _ _ _  (by first | rfl | (simp -implicitDefEqProofs only [TT,Ic.t,ci,reduceEqDiff,reduceIte,reduceAdd,reduceLT,reduceCtorEq,reduceToNat,hl,c1,CL,LTN])) (by first | rfl | (simp -implicitDefEqProofs only [TT,Ic.t,ci,reduceEqDiff,reduceIte,reduceAdd,reduceLT,reduceCtorEq,reduceToNat,hl,c1,CL,LTN])) (by first | rfl | (simp -implicitDefEqProofs only [TT,Ic.t,ci,reduceEqDiff,reduceIte,reduceAdd,reduceLT,reduceCtorEq,reduceToNat,hl,c1,CL,LTN])) (by first | rfl | (simp -implicitDefEqProofs only [TT,Ic.t,ci,reduceEqDiff,reduceIte,reduceAdd,reduceLT,reduceCtorEq,reduceToNat,hl,c1,CL,LTN])) (by first | exact f0 (Nat.le_refl _) | (simp -implicitDefEqProofs only [TT,Ic.t,ci,reduceEqDiff,reduceIte,reduceAdd,reduceLT,reduceCtorEq,reduceToNat,hl,c1,CL,LTN]))
end
end Go.Proofs.Ytgkkienmocpnbaa
