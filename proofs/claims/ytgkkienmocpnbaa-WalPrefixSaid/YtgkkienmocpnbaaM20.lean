import Derived.Test.YtgkkienmocpnbaaM19
set_option linter.unusedVariables false
set_option linter.unusedSimpArgs false
set_option linter.unusedSectionVars false
open Nat (reduceEqDiff reduceAdd reduceMul reduceLT reduceLeDiff reduceSub)
open Int (reduceToNat reduceNe reduceEq reduceNeg reduceLE)
namespace Go.Proofs.Ytgkkienmocpnbaa
open Go Go.RowKit Sh Ic
noncomputable def j8 (p1:Int) (p2:Int):Option Int :=
 if ¬ p2 = 0 then
  if (Int.tmod p1 p2) < (0:Int) then
   some (IntKind.i64.wrap ((Int.tmod p1 p2) + p2))
  else
  some (Int.tmod p1 p2)
 else
  none
theorem zby2 (p1:Int) (p2:Int) (r:Int) (h:j8 p1 p2 = some r) (τ:TH) (hl:τ.lock ≤ τ.next):Ru G j9 [.int .i64 p1,.int .i64 p2] τ (.int .i64 r) τ:=by
 refine jn fun K hK => ?_
 rw [cb zcfn (Nat.le_of_ble_eq_true rfl)]
 unfold j8 at h
 obtain ⟨c1,h⟩:=ifS h
 by_cases c2:(Int.tmod p1 p2) < (0:Int)
 · rw [if_pos c2] at h
   injection h with h; subst h
   simp -implicitDefEqProofs only [zbwz,TT,Ic.t,ci,reduceEqDiff,reduceIte,reduceAdd,reduceLT,reduceCtorEq,reduceToNat,hl,c1,c2,CL,LTN]
   exact hK
 rw [if_neg c2] at h
 injection h with h; subst h
 simp -implicitDefEqProofs only [zbwz,TT,Ic.t,ci,reduceEqDiff,reduceIte,reduceAdd,reduceLT,reduceCtorEq,reduceToNat,hl,c1,c2,CL,LTN]
 exact hK
theorem ua (p1:Int) (p2:Int) (r:Int) (h:j8 p1 p2 = some r) (lk:Bool) (d:Option Nat) (K:ak) (fr:TF) (tk:TK) (τ:TH) (hl:τ.lock ≤ τ.next):d9 G lk j9 [.int .i64 p1,.int .i64 p2] d K fr tk τ = K (dh fr d (.int .i64 r)) tk τ :=
 b9 (zby2 p1 p2 r h τ  hl) (zby2 p1 p2 r h (τ.locked τ.next)  (Nat.le_refl _) ) (by simp -implicitDefEqProofs only [TT,Ic.t,ci,reduceEqDiff,reduceIte,reduceAdd,reduceLT,reduceCtorEq,reduceToNat,hl,CL,LTN])
noncomputable def bx (v0:(List ByteArray)) (v1:Int) (v2:ByteArray) (v3:(List Int)) (v4:Int):Option (LS (ByteArray × (List Int) × Int) (LX (ByteArray × (List Int)) (Bool))) :=
 if v4 < ((v0.length:Nat):Int) then
  ixL v0 v4 >>= fun y2 =>
  if (200:Int) < ((y2.size:Nat):Int) then
   bz >>= fun y5 =>
   some (.dn (.rt y5))
  else
  mn y2 >>= fun y7 =>
  if ¬ (9223372036854775807 < ((v2.size + y7.size:Nat):Int)) then
   if (v3.length + 1) * 8 ≤ 140737488355328 then
    some (.nx ((v2 ++ y7),(v3 ++ [(((v2 ++ y7).size:Nat):Int)]),(IntKind.i64.wrap (v4 + (1:Int)))))
   else
    none
  else
   none
 else
 some (.dn (.ex (v2,v3)))
noncomputable def df (v0:(List ByteArray)) (v1:Int) (v2:ByteArray) (v3:(List Int)) (v4:Int):Option (LX (ByteArray × (List Int)) (Bool)):=lf (fun st => bx v0 v1 st.1 st.2.1 st.2.2) (v2,v3,v4)
theorem r9 (v0:(List ByteArray)) (v1:Int) (v2:ByteArray) (v3:(List Int)) (v4:Int):df v0 v1 v2 v3 v4 = bx v0 v1 v2 v3 v4 >>= LS.go (fun st => df v0 v1 st.1 st.2.1 st.2.2):=dj (fun st => bx v0 v1 st.1 st.2.1 st.2.2) (v2,v3,v4)
def jc (v0:(List ByteArray)) (v1:Int) (v2:ByteArray) (v3:(List Int)) (v4:Int) (r:LX (ByteArray × (List Int)) (Bool)):Prop:=∀ (τ:TH) (n0:Nat) (ty0:TypeId) (hnn0:n0 = v3.length) (hty0:n0 = 0 ∨ ty0 = zbgo) (hl:τ.lock ≤ τ.next) (Q:TEx → ak) (hQ0:∀ v:(ByteArray × (List Int)),r = (.ex v) → ∀ (fr:TF) (tk2:TK) (τ2:TH),∀ (u0:TypeId),(v.2.length = 0 ∨ u0 = zbgo) → lkp fr 0 = .sl (List.map TV.str v0) → lkp fr 1 = .int .i64 v1 → lkp fr 5 = .str v.1 → lkp fr 6 = .sla 0 (List.map (TV.int .i64) v.2) → tk2.take 1 = [some (v.2.length,u0)] → τ2.cut τ.next = τ → Q (.exit 0) fr tk2 τ2) (hQ1:∀ v:Bool,r = (.rt v) → ∀ (tk2:TK) (τ2:TH),τ2.cut τ.next = τ → Q .ret [(4,.bool v)] tk2 τ2) ,tW G (.loop [0,1,5,6,7] jm) Q [(0,.sl (List.map TV.str v0)),(1,.int .i64 v1),(5,.str v2),(6,.sla 0 (List.map (TV.int .i64) v3)),(7,.int .i64 v4)] [some (n0,ty0)] τ
theorem zcdk (v0:(List ByteArray)) (v1:Int) (v2:ByteArray) (v3:(List Int)) (v4:Int) (r:LX (ByteArray × (List Int)) (Bool)) (h:df v0 v1 v2 v3 v4 = some r):jc v0 v1 v2 v3 v4 r:=by
 refine ct (f:=fun st => bx v0 v1 st.1 st.2.1 st.2.2) (P:=fun st r => ∀ (v2:ByteArray) (v3:(List Int)) (v4:Int),(v2,v3,v4) = st → jc v0 v1 v2 v3 v4 r) ?_ h v2 v3 v4 rfl
 clear h r v4 v3 v2
 intro st o h r ih v2 v3 v4 hst τ  n0 ty0 hnn0 hty0 hl Q hQ0 hQ1
 subst hst
 have h:bx v0 v1 v2 v3 v4 = some o:=h
 unfold bx at h
 subst hnn0
 refine qp fun LQ hn hr he => ?_
 by_cases c1:v4 < ((v0.length:Nat):Int)
 · rw [if_pos c1] at h
   obtain ⟨y2,hy2,h⟩:=ob h
   have f3:=au hy2
   have f3a:=(f3.2.2 TV.str).1
   have f3b:=(f3.2.2 TV.str).2
   try simp only [CL,MC,reduceToNat] at f3 f3a f3b
   by_cases c4:(200:Int) < ((y2.size:Nat):Int)
   · rw [if_pos c4] at h
     obtain ⟨y5,hy5,h⟩:=ob h
     have k6:=cq  _ hy5
     try simp only [CL,MC,reduceToNat] at k6
     injection h with h; subst h
     obtain rfl:_ = r:=ih
     simp -implicitDefEqProofs only [jm,am,TT,Ic.t,ci,reduceEqDiff,reduceIte,reduceAdd,reduceMul,reduceLT,reduceLeDiff,reduceSub,reduceCtorEq,reduceEq,reduceNe,reduceToNat,Int.reduceLT,reduceLE,reduceNeg,hl,hty0,he,hr,c1,f3.1,f3.2.1,f3a,f3b,c4,k6,CL,LTN]
     exact hQ1 y5 rfl  _ _  (by first | exact f0 (Nat.le_refl _) | (simp -implicitDefEqProofs only [TT,Ic.t,ci,reduceEqDiff,reduceIte,reduceAdd,reduceMul,reduceLT,reduceLeDiff,reduceSub,reduceCtorEq,reduceEq,reduceNe,reduceToNat,Int.reduceLT,reduceLE,reduceNeg,hl,hty0,c1,f3.1,f3.2.1,f3a,f3b,c4,k6,CL,LTN]))
   rw [if_neg c4] at h
   obtain ⟨y7,hy7,h⟩:=ob h
   have k8:=ul y2 _ hy7
   try simp only [CL,MC,reduceToNat] at k8
   obtain ⟨c9,h⟩:=ifS h
   obtain ⟨c10,h⟩:=ifS h
   have f11:1 ≤ maxLen:=by unfold maxLen; omega
   have f12:v3.length + 1 ≤ maxLen:=by unfold maxLen; omega
   have f13:((List.map (TV.int .i64) v3).all fun e => e.cells.length == 1) = true:=zb54 (fun _ => rfl) _
   have f14:List.map (TV.int .i64) v3 ++ List.map (TV.int .i64) [(((v2 ++ y7).size:Nat):Int)] = List.map (TV.int .i64) (v3 ++ [(((v2 ++ y7).size:Nat):Int)]):=zb53 _ _
   try simp only [CL,List.map_cons,List.map_nil] at f14
   injection h with h; subst h
   have ih:=ih (v2 ++ y7) (v3 ++ [(((v2 ++ y7).size:Nat):Int)]) (IntKind.i64.wrap (v4 + (1:Int))) rfl
   unfold jc at ih
   simp -implicitDefEqProofs only [jm,am,TT,Ic.t,ci,reduceEqDiff,reduceIte,reduceAdd,reduceMul,reduceLT,reduceLeDiff,reduceSub,reduceCtorEq,reduceEq,reduceNe,reduceToNat,Int.reduceLT,reduceLE,reduceNeg,hl,hty0,c1,f3.1,f3.2.1,f3a,f3b,c4,k8,c9,c10,f11,f12,f13,f14,CL,LTN]
   rw [hn]
   simp -implicitDefEqProofs only [TT,Ic.t,ci,reduceEqDiff,reduceIte,reduceAdd,reduceMul,reduceLT,reduceLeDiff,reduceSub,reduceCtorEq,reduceEq,reduceNe,reduceToNat,Int.reduceLT,reduceLE,reduceNeg,hl,hty0,c1,f3.1,f3.2.1,f3a,f3b,c4,k8,c9,c10,f11,f12,f13,f14,CL,LTN]
   exact ih  τ   (v3.length + 1) zbgo (by first | rfl | simp [aj]) (by first | exact hty0 | exact Or.inr rfl | assumption | simp) (by first | assumption | (simp only [aa,af]; assumption)) Q hQ0 hQ1
 rw [if_neg c1] at h
 injection h with h; subst h
 obtain rfl:_ = r:=ih
 simp -implicitDefEqProofs only [jm,am,TT,Ic.t,ci,reduceEqDiff,reduceIte,reduceAdd,reduceMul,reduceLT,reduceLeDiff,reduceSub,reduceCtorEq,reduceEq,reduceNe,reduceToNat,Int.reduceLT,reduceLE,reduceNeg,hl,hty0,he,hr,c1,CL,LTN]
 exact hQ0 (v2,v3) rfl  _ _ _ ty0 (by first | exact hty0 | exact Or.inr rfl | assumption | simp) (by first | rfl | (simp -implicitDefEqProofs only [TT,Ic.t,ci,reduceEqDiff,reduceIte,reduceAdd,reduceMul,reduceLT,reduceLeDiff,reduceSub,reduceCtorEq,reduceEq,reduceNe,reduceToNat,Int.reduceLT,reduceLE,reduceNeg,hl,hty0,c1,CL,LTN])) (by first | rfl | (simp -implicitDefEqProofs only [TT,Ic.t,ci,reduceEqDiff,reduceIte,reduceAdd,reduceMul,reduceLT,reduceLeDiff,reduceSub,reduceCtorEq,reduceEq,reduceNe,reduceToNat,Int.reduceLT,reduceLE,reduceNeg,hl,hty0,c1,CL,LTN])) (by first | rfl | (simp -implicitDefEqProofs only [TT,Ic.t,ci,reduceEqDiff,reduceIte,reduceAdd,reduceMul,reduceLT,reduceLeDiff,reduceSub,reduceCtorEq,reduceEq,reduceNe,reduceToNat,Int.reduceLT,reduceLE,reduceNeg,hl,hty0,c1,CL,LTN])) (by first | rfl | (simp -implicitDefEqProofs only [TT,Ic.t,ci,reduceEqDiff,reduceIte,reduceAdd,reduceMul,reduceLT,reduceLeDiff,reduceSub,reduceCtorEq,reduceEq,reduceNe,reduceToNat,Int.reduceLT,reduceLE,reduceNeg,hl,hty0,c1,CL,LTN])) (by first | rfl | (simp -implicitDefEqProofs only [TT,Ic.t,ci,reduceEqDiff,reduceIte,reduceAdd,reduceMul,reduceLT,reduceLeDiff,reduceSub,reduceCtorEq,reduceEq,reduceNe,reduceToNat,Int.reduceLT,reduceLE,reduceNeg,hl,hty0,c1,CL,LTN])) (by first | exact f0 (Nat.le_refl _) | (simp -implicitDefEqProofs only [TT,Ic.t,ci,reduceEqDiff,reduceIte,reduceAdd,reduceMul,reduceLT,reduceLeDiff,reduceSub,reduceCtorEq,reduceEq,reduceNe,reduceToNat,Int.reduceLT,reduceLE,reduceNeg,hl,hty0,c1,CL,LTN]))
noncomputable def bw (v0:(List ByteArray)) (v1:(List Int)) (v2:Int) (v3:(List ByteArray)) (v4:Int) (v5:Int):Option (LS (Int) (Int)) :=
 if v5 < ((v1.length:Nat):Int) then
  ixL v1 v5 >>= fun y2 =>
  if y2 ≤ v2 then
   some (.nx (IntKind.i64.wrap (v5 + (1:Int))))
  else
  some (.dn v5)
 else
 some (.dn v5)
noncomputable def ey (v0:(List ByteArray)) (v1:(List Int)) (v2:Int) (v3:(List ByteArray)) (v4:Int) (v5:Int):Option (Int):=lf (fun st => bw v0 v1 v2 v3 v4 st) v5
theorem r8 (v0:(List ByteArray)) (v1:(List Int)) (v2:Int) (v3:(List ByteArray)) (v4:Int) (v5:Int):ey v0 v1 v2 v3 v4 v5 = bw v0 v1 v2 v3 v4 v5 >>= LS.go (fun st => ey v0 v1 v2 v3 v4 st):=dj (fun st => bw v0 v1 v2 v3 v4 st) v5
def ja (v0:(List ByteArray)) (v1:(List Int)) (v2:Int) (v3:(List ByteArray)) (v4:Int) (v5:Int) (r:Int):Prop:=∀ (τ:TH) (n0:Nat) (ty0:TypeId) (hnn0:n0 = v1.length) (hty0:n0 = 0 ∨ ty0 = zbgo) (hl:τ.lock ≤ τ.next) (Q:TEx → ak) (hQ0:∀ (fr:TF) (tk2:TK) (τ2:TH),∀ (u0:TypeId),(v1.length = 0 ∨ u0 = zbgo) → lkp fr 0 = .sl (List.map TV.str v0) → lkp fr 6 = .sla 0 (List.map (TV.int .i64) v1) → lkp fr 9 = .sl (List.map TV.str v3) → lkp fr 10 = .int .i64 v4 → lkp fr 11 = .int .i64 r → tk2.take 1 = [some (v1.length,u0)] → τ2.cut τ.next = τ → Q (.exit 2) fr tk2 τ2) ,tW G (.loop [0,6,8,9,10,11] jl) Q [(0,.sl (List.map TV.str v0)),(6,.sla 0 (List.map (TV.int .i64) v1)),(8,.int .i64 v2),(9,.sl (List.map TV.str v3)),(10,.int .i64 v4),(11,.int .i64 v5)] [some (n0,ty0)] τ
theorem zcdl (v0:(List ByteArray)) (v1:(List Int)) (v2:Int) (v3:(List ByteArray)) (v4:Int) (v5:Int) (r:Int) (h:ey v0 v1 v2 v3 v4 v5 = some r):ja v0 v1 v2 v3 v4 v5 r:=by
 refine ct (f:=fun st => bw v0 v1 v2 v3 v4 st) (P:=fun st r => ∀ (v5:Int),v5 = st → ja v0 v1 v2 v3 v4 v5 r) ?_ h v5 rfl
 clear h r v5
 intro st o h r ih v5 hst τ  n0 ty0 hnn0 hty0 hl Q hQ0
 subst hst
 have h:bw v0 v1 v2 v3 v4 v5 = some o:=h
 unfold bw at h
 subst hnn0
 refine qp fun LQ hn hr he => ?_
 by_cases c1:v5 < ((v1.length:Nat):Int)
 · rw [if_pos c1] at h
   obtain ⟨y2,hy2,h⟩:=ob h
   have f3:=au hy2
   have f3a:=(f3.2.2 (TV.int .i64)).1
   have f3b:=(f3.2.2 (TV.int .i64)).2
   try simp only [CL,MC,reduceToNat] at f3 f3a f3b
   by_cases c4:y2 ≤ v2
   · rw [if_pos c4] at h
     injection h with h; subst h
     have ih:=ih (IntKind.i64.wrap (v5 + (1:Int))) rfl
     unfold ja at ih
     simp -implicitDefEqProofs only [jl,am,TT,Ic.t,ci,reduceEqDiff,reduceIte,reduceAdd,reduceLT,reduceCtorEq,reduceToNat,hl,hty0,c1,f3.1,f3.2.1,f3a,f3b,c4,CL,LTN]
     rw [hn]
     simp -implicitDefEqProofs only [TT,Ic.t,ci,reduceEqDiff,reduceIte,reduceAdd,reduceLT,reduceCtorEq,reduceToNat,hl,hty0,c1,f3.1,f3.2.1,f3a,f3b,c4,CL,LTN]
     exact ih  τ   _ ty0 (by first | rfl | simp [aj]) (by first | exact hty0 | exact Or.inr rfl | assumption | simp) (by first | assumption | (simp only [aa,af]; assumption)) Q hQ0
   rw [if_neg c4] at h
   injection h with h; subst h
   obtain rfl:_ = r:=ih
   simp -implicitDefEqProofs only [jl,am,TT,Ic.t,ci,reduceEqDiff,reduceIte,reduceAdd,reduceLT,reduceCtorEq,reduceToNat,hl,hty0,he,hr,c1,f3.1,f3.2.1,f3a,f3b,c4,CL,LTN]
   exact hQ0  _ _ _ ty0 (by first | exact hty0 | exact Or.inr rfl | assumption | simp) (by first | rfl | (simp -implicitDefEqProofs only [TT,Ic.t,ci,reduceEqDiff,reduceIte,reduceAdd,reduceLT,reduceCtorEq,reduceToNat,hl,hty0,c1,f3.1,f3.2.1,f3a,f3b,c4,CL,LTN])) (by first | rfl | (simp -implicitDefEqProofs only [TT,Ic.t,ci,reduceEqDiff,reduceIte,reduceAdd,reduceLT,reduceCtorEq,reduceToNat,hl,hty0,c1,f3.1,f3.2.1,f3a,f3b,c4,CL,LTN])) (by first | rfl | (simp -implicitDefEqProofs only [TT,Ic.t,ci,reduceEqDiff,reduceIte,reduceAdd,reduceLT,reduceCtorEq,reduceToNat,hl,hty0,c1,f3.1,f3.2.1,f3a,f3b,c4,CL,LTN])) (by first | rfl | (simp -implicitDefEqProofs only [TT,Ic.t,ci,reduceEqDiff,reduceIte,reduceAdd,reduceLT,reduceCtorEq,reduceToNat,hl,hty0,c1,f3.1,f3.2.1,f3a,f3b,c4,CL,LTN])) (by first | rfl | (simp -implicitDefEqProofs only [TT,Ic.t,ci,reduceEqDiff,reduceIte,reduceAdd,reduceLT,reduceCtorEq,reduceToNat,hl,hty0,c1,f3.1,f3.2.1,f3a,f3b,c4,CL,LTN])) (by first | rfl | (simp -implicitDefEqProofs only [TT,Ic.t,ci,reduceEqDiff,reduceIte,reduceAdd,reduceLT,reduceCtorEq,reduceToNat,hl,hty0,c1,f3.1,f3.2.1,f3a,f3b,c4,CL,LTN])) (by first | exact f0 (Nat.le_refl _) | (simp -implicitDefEqProofs only [TT,Ic.t,ci,reduceEqDiff,reduceIte,reduceAdd,reduceLT,reduceCtorEq,reduceToNat,hl,hty0,c1,f3.1,f3.2.1,f3a,f3b,c4,CL,LTN]))
 rw [if_neg c1] at h
 injection h with h; subst h
 obtain rfl:_ = r:=ih
 simp -implicitDefEqProofs only [jl,am,TT,Ic.t,ci,reduceEqDiff,reduceIte,reduceAdd,reduceLT,reduceCtorEq,reduceToNat,hl,hty0,he,hr,c1,CL,LTN]
 exact hQ0  _ _ _ ty0 (by first | exact hty0 | exact Or.inr rfl | assumption | simp) (by first | rfl | (simp -implicitDefEqProofs only [TT,Ic.t,ci,reduceEqDiff,reduceIte,reduceAdd,reduceLT,reduceCtorEq,reduceToNat,hl,hty0,c1,CL,LTN])) (by first | rfl | (simp -implicitDefEqProofs only [TT,Ic.t,ci,reduceEqDiff,reduceIte,reduceAdd,reduceLT,reduceCtorEq,reduceToNat,hl,hty0,c1,CL,LTN])) (by first | rfl | (simp -implicitDefEqProofs only [TT,Ic.t,ci,reduceEqDiff,reduceIte,reduceAdd,reduceLT,reduceCtorEq,reduceToNat,hl,hty0,c1,CL,LTN])) (by first | rfl | (simp -implicitDefEqProofs only [TT,Ic.t,ci,reduceEqDiff,reduceIte,reduceAdd,reduceLT,reduceCtorEq,reduceToNat,hl,hty0,c1,CL,LTN])) (by first | rfl | (simp -implicitDefEqProofs only [TT,Ic.t,ci,reduceEqDiff,reduceIte,reduceAdd,reduceLT,reduceCtorEq,reduceToNat,hl,hty0,c1,CL,LTN])) (by first | rfl | (simp -implicitDefEqProofs only [TT,Ic.t,ci,reduceEqDiff,reduceIte,reduceAdd,reduceLT,reduceCtorEq,reduceToNat,hl,hty0,c1,CL,LTN])) (by first | exact f0 (Nat.le_refl _) | (simp -implicitDefEqProofs only [TT,Ic.t,ci,reduceEqDiff,reduceIte,reduceAdd,reduceLT,reduceCtorEq,reduceToNat,hl,hty0,c1,CL,LTN]))
noncomputable def bv (v0:(List ByteArray)) (v1:(List ByteArray)) (v2:Int) (v3:Int):Option (LS (Int) (LX (Unit) (Bool))) :=
 if v3 < v2 then
  ixL v1 v3 >>= fun y2 =>
  ixL v0 v3 >>= fun y4 =>
  if y2 = y4 then
   some (.nx (IntKind.i64.wrap (v3 + (1:Int))))
  else
  some (.dn (.rt false))
 else
 some (.dn (.ex ()))
noncomputable def cw (v0:(List ByteArray)) (v1:(List ByteArray)) (v2:Int) (v3:Int):Option (LX (Unit) (Bool)):=lf (fun st => bv v0 v1 v2 st) v3
theorem r7 (v0:(List ByteArray)) (v1:(List ByteArray)) (v2:Int) (v3:Int):cw v0 v1 v2 v3 = bv v0 v1 v2 v3 >>= LS.go (fun st => cw v0 v1 v2 st):=dj (fun st => bv v0 v1 v2 st) v3
def dd (v0:(List ByteArray)) (v1:(List ByteArray)) (v2:Int) (v3:Int) (r:LX (Unit) (Bool)):Prop:=∀ (τ:TH) (e0:Option (Nat × TypeId)) (hl:τ.lock ≤ τ.next) (Q:TEx → ak) (hQ0:∀ v:Unit,r = (.ex v) → ∀ (fr:TF) (tk2:TK) (τ2:TH),∀ (u0:Option (Nat × TypeId)),True → tk2.take 1 = [u0] → τ2.cut τ.next = τ → Q (.exit 4) fr tk2 τ2) (hQ1:∀ v:Bool,r = (.rt v) → ∀ (tk2:TK) (τ2:TH),τ2.cut τ.next = τ → Q .ret [(4,.bool v)] tk2 τ2) ,tW G (.loop [0,9,11,12] jk) Q [(0,.sl (List.map TV.str v0)),(9,.sl (List.map TV.str v1)),(11,.int .i64 v2),(12,.int .i64 v3)] [e0] τ
theorem i9 (v0:(List ByteArray)) (v1:(List ByteArray)) (v2:Int) (v3:Int) (r:LX (Unit) (Bool)) (h:cw v0 v1 v2 v3 = some r):dd v0 v1 v2 v3 r:=by
 refine ct (f:=fun st => bv v0 v1 v2 st) (P:=fun st r => ∀ (v3:Int),v3 = st → dd v0 v1 v2 v3 r) ?_ h v3 rfl
 clear h r v3
 intro st o h r ih v3 hst τ e0 hl Q hQ0 hQ1
 subst hst
 have h:bv v0 v1 v2 v3 = some o:=h
 unfold bv at h
 refine qp fun LQ hn hr he => ?_
 by_cases c1:v3 < v2
 · rw [if_pos c1] at h
   obtain ⟨y2,hy2,h⟩:=ob h
   have f3:=au hy2
   have f3a:=(f3.2.2 TV.str).1
   have f3b:=(f3.2.2 TV.str).2
   try simp only [CL,MC,reduceToNat] at f3 f3a f3b
   obtain ⟨y4,hy4,h⟩:=ob h
   have f5:=au hy4
   have f5a:=(f5.2.2 TV.str).1
   have f5b:=(f5.2.2 TV.str).2
   try simp only [CL,MC,reduceToNat] at f5 f5a f5b
   by_cases c6:y2 = y4
   · rw [if_pos c6] at h
     injection h with h; subst h
     have ih:=ih (IntKind.i64.wrap (v3 + (1:Int))) rfl
     unfold dd at ih
     simp -implicitDefEqProofs only [jk,am,TT,Ic.t,ci,reduceEqDiff,reduceIte,reduceAdd,reduceLT,reduceCtorEq,reduceToNat,hl,c1,f3.1,f3.2.1,f3a,f3b,f5.1,f5.2.1,f5a,f5b,eq_true c6,CL,LTN]
     rw [hn]
     simp -implicitDefEqProofs only [TT,Ic.t,ci,reduceEqDiff,reduceIte,reduceAdd,reduceLT,reduceCtorEq,reduceToNat,hl,c1,f3.1,f3.2.1,f3a,f3b,f5.1,f5.2.1,f5a,f5b,eq_true c6,CL,LTN]
     exact ih  τ  _  (by first | assumption | (simp only [aa,af]; assumption)) Q hQ0 hQ1
   rw [if_neg c6] at h
   injection h with h; subst h
   obtain rfl:_ = r:=ih
   simp -implicitDefEqProofs only [jk,am,TT,Ic.t,ci,reduceEqDiff,reduceIte,reduceAdd,reduceLT,reduceCtorEq,reduceToNat,hl,he,hr,c1,f3.1,f3.2.1,f3a,f3b,f5.1,f5.2.1,f5a,f5b,c6,CL,LTN]
   exact hQ1 false rfl  _ _  (by first | exact f0 (Nat.le_refl _) | (simp -implicitDefEqProofs only [TT,Ic.t,ci,reduceEqDiff,reduceIte,reduceAdd,reduceLT,reduceCtorEq,reduceToNat,hl,c1,f3.1,f3.2.1,f3a,f3b,f5.1,f5.2.1,f5a,f5b,c6,CL,LTN]))
 rw [if_neg c1] at h
 injection h with h; subst h
 obtain rfl:_ = r:=ih
 simp -implicitDefEqProofs only [jk,am,TT,Ic.t,ci,reduceEqDiff,reduceIte,reduceAdd,reduceLT,reduceCtorEq,reduceToNat,hl,he,hr,c1,CL,LTN]
 exact hQ0 () rfl  _ _ _ _ trivial  (by first | rfl | (simp -implicitDefEqProofs only [TT,Ic.t,ci,reduceEqDiff,reduceIte,reduceAdd,reduceLT,reduceCtorEq,reduceToNat,hl,c1,CL,LTN])) (by first | exact f0 (Nat.le_refl _) | (simp -implicitDefEqProofs only [TT,Ic.t,ci,reduceEqDiff,reduceIte,reduceAdd,reduceLT,reduceCtorEq,reduceToNat,hl,c1,CL,LTN]))
noncomputable def lx (p1:(List ByteArray)) (p2:Int):Option Bool :=
 if (20:Int) < ((p1.length:Nat):Int) then
  bz >>= fun y2 =>
  some y2
 else
 df p1 p2 (⟨#[]⟩:ByteArray) [] (0:Int) >>= fun y4 =>
 match y4 with
 | .ex w5 =>
  if ((w5.1.size:Nat):Int) < (IntKind.i64.wrap ((16:Int) * ((p1.length:Nat):Int))) then
   some false
  else
  j8 p2 (IntKind.i64.wrap (((w5.1.size:Nat):Int) + (1:Int))) >>= fun y10 =>
  if 0 ≤ y10 ∧ y10 ≤ (w5.1.size:Int) then
   gr (w5.1.extract 0 y10.toNat) >>= fun y13 =>
   ey p1 w5.2 y10 y13.1 y13.2 (0:Int) >>= fun y15 =>
   if ((y13.1.length:Nat):Int) = y15 then
    if (0:Int) < y15 then
     ixL w5.2 (IntKind.i64.wrap (y15 - (1:Int))) >>= fun y19 =>
     if y13.2 = y19 then
      if y15 = (0:Int) then
       if y13.2 = (0:Int) then
        cw p1 y13.1 y15 (0:Int) >>= fun y24 =>
        match y24 with
        | .ex w25 =>
         bz >>= fun y29 =>
         some y29
        | .rt w27 =>
         some w27
       else
       some false
      else
      cw p1 y13.1 y15 (0:Int) >>= fun y31 =>
      match y31 with
      | .ex w32 =>
       bz >>= fun y36 =>
       some y36
      | .rt w34 =>
       some w34
     else
     some false
    else
    if y15 = (0:Int) then
     if y13.2 = (0:Int) then
      cw p1 y13.1 y15 (0:Int) >>= fun y40 =>
      match y40 with
      | .ex w41 =>
       bz >>= fun y45 =>
       some y45
      | .rt w43 =>
       some w43
     else
     some false
    else
    cw p1 y13.1 y15 (0:Int) >>= fun y47 =>
    match y47 with
    | .ex w48 =>
     bz >>= fun y52 =>
     some y52
    | .rt w50 =>
     some w50
   else
   some false
  else
   none
 | .rt w7 =>
  some w7
theorem qa (p1:(List ByteArray)) (p2:Int) (r:Bool) (h:lx p1 p2 = some r) (τ:TH) (hl:τ.lock ≤ τ.next):Ru G jt [.sl (List.map TV.str p1),.int .i64 p2] τ (.bool r) τ:=by
 refine jn fun K hK => ?_
 rw [cb zb81 (Nat.le_of_ble_eq_true rfl)]
 unfold lx at h
 by_cases c1:(20:Int) < ((p1.length:Nat):Int)
 · rw [if_pos c1] at h
   obtain ⟨y2,hy2,h⟩:=ob h
   have k3:=cq  _ hy2
   try simp only [CL,MC,reduceToNat] at k3
   injection h with h; subst h
   simp -implicitDefEqProofs only [am,TT,Ic.t,ci,reduceEqDiff,reduceIte,reduceAdd,reduceLT,reduceCtorEq,reduceToNat,hl,c1,k3,CL,LTN]
   exact hK
 rw [if_neg c1] at h
 obtain ⟨y4,hy4,h⟩:=ob h
 simp -implicitDefEqProofs only [am,TT,Ic.t,ci,reduceEqDiff,reduceIte,reduceAdd,reduceLT,reduceCtorEq,reduceToNat,hl,c1,CL,LTN]
 have Sy4:=zcdk p1 p2 (⟨#[]⟩:ByteArray) [] (0:Int) y4 hy4
 unfold jc at Sy4
 refine Sy4 _ 0 0 (by first | rfl | simp [aj]) (by first | exact Or.inl rfl | exact Or.inr rfl | assumption | simp) (by first | assumption | omega | (simp only [aa,ag,af,ar]; omega)) _ ?_ ?_
 · intro w5 e frq6 tkq6 τq6 u0q6 uh0q6 g0q6 g1q6 g5q6 g6q6 htq6 hcq6
   subst e
   simp only at h
   have hcq6:=cn (n:=τ.next) hcq6 (by first | omega | (simp only [aa,ag]; omega))
   try simp only [List.take_succ_cons,List.take_zero,List.take_nil,CL] at htq6
   try simp -implicitDefEqProofs only [TT,Ic.t,ci,reduceEqDiff,reduceIte,reduceAdd,reduceLT,reduceCtorEq,reduceToNat,hl,c1,CL,LTN] at hcq6
   by_cases c9:((w5.1.size:Nat):Int) < (IntKind.i64.wrap ((16:Int) * ((p1.length:Nat):Int)))
   · rw [if_pos c9] at h
     injection h with h; subst h
     simp -implicitDefEqProofs only [am,TT,Ic.t,ci,reduceEqDiff,reduceIte,reduceAdd,reduceLT,reduceCtorEq,reduceToNat,hl,c1,uh0q6,g0q6,g1q6,g5q6,g6q6,htq6,hcq6,c9,CL,LTN]
     exact hK
   rw [if_neg c9] at h
   obtain ⟨y10,hy10,h⟩:=ob h
   have k11:=ua p2 (IntKind.i64.wrap (((w5.1.size:Nat):Int) + (1:Int))) _ hy10
   try simp only [CL,MC,reduceToNat] at k11
   obtain ⟨c12,h⟩:=ifS h
   obtain ⟨y13,hy13,h⟩:=ob h
   have k14:=ju (w5.1.extract 0 y10.toNat) _ hy13
   try simp only [CL,MC,reduceToNat] at k14
   obtain ⟨y15,hy15,h⟩:=ob h
   simp -implicitDefEqProofs only [am,TT,Ic.t,ci,reduceEqDiff,reduceIte,reduceAdd,reduceLT,reduceCtorEq,reduceToNat,hl,c1,uh0q6,g0q6,g1q6,g5q6,g6q6,htq6,hcq6,c9,k11,c12,k14,CL,LTN]
   have Sy15:=zcdl p1 w5.2 y10 y13.1 y13.2 (0:Int) y15 hy15
   unfold ja at Sy15
   refine Sy15 _ w5.2.length u0q6 (by first | rfl | simp [aj]) (by first | exact Or.inl rfl | exact Or.inr rfl | assumption | simp) (by first | assumption | omega | (simp only [aa,ag,af,ar]; omega)) _ ?_
   intro frq16 tkq16 τq16 u0q16 uh0q16 g0q16 g6q16 g9q16 g10q16 g11q16 htq16 hcq16
   have hcq16:=cn (n:=τ.next) hcq16 (by first | omega | (simp only [aa,ag]; omega))
   try simp only [List.take_succ_cons,List.take_zero,List.take_nil,CL] at htq16
   try simp -implicitDefEqProofs only [TT,Ic.t,ci,reduceEqDiff,reduceIte,reduceAdd,reduceLT,reduceCtorEq,reduceToNat,hl,c1,uh0q6,g0q6,g1q6,g5q6,g6q6,htq6,hcq6,c9,k11,c12,k14,CL,LTN] at hcq16
   by_cases c17:((y13.1.length:Nat):Int) = y15
   · rw [if_pos c17] at h
     by_cases c18:(0:Int) < y15
     · rw [if_pos c18] at h
       obtain ⟨y19,hy19,h⟩:=ob h
       have f20:=au hy19
       have f20a:=(f20.2.2 (TV.int .i64)).1
       have f20b:=(f20.2.2 (TV.int .i64)).2
       try simp only [CL,MC,reduceToNat] at f20 f20a f20b
       by_cases c21:y13.2 = y19
       · rw [if_pos c21] at h
         by_cases c22:y15 = (0:Int)
         · rw [if_pos c22] at h
           by_cases c23:y13.2 = (0:Int)
           · rw [if_pos c23] at h
             obtain ⟨y24,hy24,h⟩:=ob h
             simp -implicitDefEqProofs only [am,TT,Ic.t,ci,reduceEqDiff,reduceIte,reduceAdd,reduceLT,reduceCtorEq,reduceToNat,hl,c1,uh0q6,g0q6,g1q6,g5q6,g6q6,htq6,hcq6,c9,k11,c12,k14,uh0q16,g0q16,g6q16,g9q16,g10q16,g11q16,htq16,hcq16,eq_true c17,c18,f20.1,f20.2.1,f20a,f20b,eq_true c21,eq_true c22,eq_true c23,CL,LTN]
             have Sy24:=i9 p1 y13.1 y15 (0:Int) y24 hy24
             unfold dd at Sy24
             refine Sy24 _ _ (by first | assumption | omega | (simp only [aa,ag,af,ar]; omega)) _ ?_ ?_
             · intro w25 e frq26 tkq26 τq26 u0q26 uh0q26 htq26 hcq26
               subst e
               simp only at h
               have hcq26:=cn (n:=τ.next) hcq26 (by first | omega | (simp only [aa,ag]; omega))
               try simp only [List.take_succ_cons,List.take_zero,List.take_nil,CL] at htq26
               try simp -implicitDefEqProofs only [TT,Ic.t,ci,reduceEqDiff,reduceIte,reduceAdd,reduceLT,reduceCtorEq,reduceToNat,hl,c1,uh0q6,g0q6,g1q6,g5q6,g6q6,htq6,hcq6,c9,k11,c12,k14,uh0q16,g0q16,g6q16,g9q16,g10q16,g11q16,htq16,hcq16,eq_true c17,c18,f20.1,f20.2.1,f20a,f20b,eq_true c21,eq_true c22,eq_true c23,CL,LTN] at hcq26
               obtain ⟨y29,hy29,h⟩:=ob h
               have k30:=cq  _ hy29
               try simp only [CL,MC,reduceToNat] at k30
               injection h with h; subst h
               simp -implicitDefEqProofs only [am,TT,Ic.t,ci,reduceEqDiff,reduceIte,reduceAdd,reduceLT,reduceCtorEq,reduceToNat,hl,c1,uh0q6,g0q6,g1q6,g5q6,g6q6,htq6,hcq6,c9,k11,c12,k14,uh0q16,g0q16,g6q16,g9q16,g10q16,g11q16,htq16,hcq16,eq_true c17,c18,f20.1,f20.2.1,f20a,f20b,eq_true c21,eq_true c22,eq_true c23,htq26,hcq26,k30,CL,LTN]
               exact hK
             intro w27 e tkq28 τq28 hcq28
             subst e
             simp only at h
             have hcq28:=cn (n:=τ.next) hcq28 (by first | omega | (simp only [aa,ag]; omega))
             try simp -implicitDefEqProofs only [TT,Ic.t,ci,reduceEqDiff,reduceIte,reduceAdd,reduceLT,reduceCtorEq,reduceToNat,hl,c1,uh0q6,g0q6,g1q6,g5q6,g6q6,htq6,hcq6,c9,k11,c12,k14,uh0q16,g0q16,g6q16,g9q16,g10q16,g11q16,htq16,hcq16,eq_true c17,c18,f20.1,f20.2.1,f20a,f20b,eq_true c21,eq_true c22,eq_true c23,CL,LTN] at hcq28
             injection h with h; subst h
             simp -implicitDefEqProofs only [am,TT,Ic.t,ci,reduceEqDiff,reduceIte,reduceAdd,reduceLT,reduceCtorEq,reduceToNat,hl,c1,uh0q6,g0q6,g1q6,g5q6,g6q6,htq6,hcq6,c9,k11,c12,k14,uh0q16,g0q16,g6q16,g9q16,g10q16,g11q16,htq16,hcq16,eq_true c17,c18,f20.1,f20.2.1,f20a,f20b,eq_true c21,eq_true c22,eq_true c23,hcq28,CL,LTN]
             exact hK
           rw [if_neg c23] at h
           injection h with h; subst h
           simp -implicitDefEqProofs only [am,TT,Ic.t,ci,reduceEqDiff,reduceIte,reduceAdd,reduceLT,reduceCtorEq,reduceToNat,hl,c1,uh0q6,g0q6,g1q6,g5q6,g6q6,htq6,hcq6,c9,k11,c12,k14,uh0q16,g0q16,g6q16,g9q16,g10q16,g11q16,htq16,hcq16,eq_true c17,c18,f20.1,f20.2.1,f20a,f20b,eq_true c21,eq_true c22,c23,CL,LTN]
           exact hK
         rw [if_neg c22] at h
         obtain ⟨y31,hy31,h⟩:=ob h
         simp -implicitDefEqProofs only [am,TT,Ic.t,ci,reduceEqDiff,reduceIte,reduceAdd,reduceLT,reduceCtorEq,reduceToNat,hl,c1,uh0q6,g0q6,g1q6,g5q6,g6q6,htq6,hcq6,c9,k11,c12,k14,uh0q16,g0q16,g6q16,g9q16,g10q16,g11q16,htq16,hcq16,eq_true c17,c18,f20.1,f20.2.1,f20a,f20b,eq_true c21,c22,CL,LTN]
         have Sy31:=i9 p1 y13.1 y15 (0:Int) y31 hy31
         unfold dd at Sy31
         refine Sy31 _ _ (by first | assumption | omega | (simp only [aa,ag,af,ar]; omega)) _ ?_ ?_
         · intro w32 e frq33 tkq33 τq33 u0q33 uh0q33 htq33 hcq33
           subst e
           simp only at h
           have hcq33:=cn (n:=τ.next) hcq33 (by first | omega | (simp only [aa,ag]; omega))
           try simp only [List.take_succ_cons,List.take_zero,List.take_nil,CL] at htq33
           try simp -implicitDefEqProofs only [TT,Ic.t,ci,reduceEqDiff,reduceIte,reduceAdd,reduceLT,reduceCtorEq,reduceToNat,hl,c1,uh0q6,g0q6,g1q6,g5q6,g6q6,htq6,hcq6,c9,k11,c12,k14,uh0q16,g0q16,g6q16,g9q16,g10q16,g11q16,htq16,hcq16,eq_true c17,c18,f20.1,f20.2.1,f20a,f20b,eq_true c21,c22,CL,LTN] at hcq33
           obtain ⟨y36,hy36,h⟩:=ob h
           have k37:=cq  _ hy36
           try simp only [CL,MC,reduceToNat] at k37
           injection h with h; subst h
           simp -implicitDefEqProofs only [am,TT,Ic.t,ci,reduceEqDiff,reduceIte,reduceAdd,reduceLT,reduceCtorEq,reduceToNat,hl,c1,uh0q6,g0q6,g1q6,g5q6,g6q6,htq6,hcq6,c9,k11,c12,k14,uh0q16,g0q16,g6q16,g9q16,g10q16,g11q16,htq16,hcq16,eq_true c17,c18,f20.1,f20.2.1,f20a,f20b,eq_true c21,c22,htq33,hcq33,k37,CL,LTN]
           exact hK
         intro w34 e tkq35 τq35 hcq35
         subst e
         simp only at h
         have hcq35:=cn (n:=τ.next) hcq35 (by first | omega | (simp only [aa,ag]; omega))
         try simp -implicitDefEqProofs only [TT,Ic.t,ci,reduceEqDiff,reduceIte,reduceAdd,reduceLT,reduceCtorEq,reduceToNat,hl,c1,uh0q6,g0q6,g1q6,g5q6,g6q6,htq6,hcq6,c9,k11,c12,k14,uh0q16,g0q16,g6q16,g9q16,g10q16,g11q16,htq16,hcq16,eq_true c17,c18,f20.1,f20.2.1,f20a,f20b,eq_true c21,c22,CL,LTN] at hcq35
         injection h with h; subst h
         simp -implicitDefEqProofs only [am,TT,Ic.t,ci,reduceEqDiff,reduceIte,reduceAdd,reduceLT,reduceCtorEq,reduceToNat,hl,c1,uh0q6,g0q6,g1q6,g5q6,g6q6,htq6,hcq6,c9,k11,c12,k14,uh0q16,g0q16,g6q16,g9q16,g10q16,g11q16,htq16,hcq16,eq_true c17,c18,f20.1,f20.2.1,f20a,f20b,eq_true c21,c22,hcq35,CL,LTN]
         exact hK
       rw [if_neg c21] at h
       injection h with h; subst h
       simp -implicitDefEqProofs only [am,TT,Ic.t,ci,reduceEqDiff,reduceIte,reduceAdd,reduceLT,reduceCtorEq,reduceToNat,hl,c1,uh0q6,g0q6,g1q6,g5q6,g6q6,htq6,hcq6,c9,k11,c12,k14,uh0q16,g0q16,g6q16,g9q16,g10q16,g11q16,htq16,hcq16,eq_true c17,c18,f20.1,f20.2.1,f20a,f20b,c21,CL,LTN]
       exact hK
     rw [if_neg c18] at h
     by_cases c38:y15 = (0:Int)
     · rw [if_pos c38] at h
       by_cases c39:y13.2 = (0:Int)
       · rw [if_pos c39] at h
         obtain ⟨y40,hy40,h⟩:=ob h
         simp -implicitDefEqProofs only [am,TT,Ic.t,ci,reduceEqDiff,reduceIte,reduceAdd,reduceLT,reduceCtorEq,reduceToNat,hl,c1,uh0q6,g0q6,g1q6,g5q6,g6q6,htq6,hcq6,c9,k11,c12,k14,uh0q16,g0q16,g6q16,g9q16,g10q16,g11q16,htq16,hcq16,eq_true c17,c18,eq_true c38,eq_true c39,CL,LTN]
         have Sy40:=i9 p1 y13.1 y15 (0:Int) y40 hy40
         unfold dd at Sy40
         refine Sy40 _ _ (by first | assumption | omega | (simp only [aa,ag,af,ar]; omega)) _ ?_ ?_
         · intro w41 e frq42 tkq42 τq42 u0q42 uh0q42 htq42 hcq42
           subst e
           simp only at h
           have hcq42:=cn (n:=τ.next) hcq42 (by first | omega | (simp only [aa,ag]; omega))
           try simp only [List.take_succ_cons,List.take_zero,List.take_nil,CL] at htq42
           try simp -implicitDefEqProofs only [TT,Ic.t,ci,reduceEqDiff,reduceIte,reduceAdd,reduceLT,reduceCtorEq,reduceToNat,hl,c1,uh0q6,g0q6,g1q6,g5q6,g6q6,htq6,hcq6,c9,k11,c12,k14,uh0q16,g0q16,g6q16,g9q16,g10q16,g11q16,htq16,hcq16,eq_true c17,c18,eq_true c38,eq_true c39,CL,LTN] at hcq42
           obtain ⟨y45,hy45,h⟩:=ob h
           have k46:=cq  _ hy45
           try simp only [CL,MC,reduceToNat] at k46
           injection h with h; subst h
           simp -implicitDefEqProofs only [am,TT,Ic.t,ci,reduceEqDiff,reduceIte,reduceAdd,reduceLT,reduceCtorEq,reduceToNat,hl,c1,uh0q6,g0q6,g1q6,g5q6,g6q6,htq6,hcq6,c9,k11,c12,k14,uh0q16,g0q16,g6q16,g9q16,g10q16,g11q16,htq16,hcq16,eq_true c17,c18,eq_true c38,eq_true c39,htq42,hcq42,k46,CL,LTN]
           exact hK
         intro w43 e tkq44 τq44 hcq44
         subst e
         simp only at h
         have hcq44:=cn (n:=τ.next) hcq44 (by first | omega | (simp only [aa,ag]; omega))
         try simp -implicitDefEqProofs only [TT,Ic.t,ci,reduceEqDiff,reduceIte,reduceAdd,reduceLT,reduceCtorEq,reduceToNat,hl,c1,uh0q6,g0q6,g1q6,g5q6,g6q6,htq6,hcq6,c9,k11,c12,k14,uh0q16,g0q16,g6q16,g9q16,g10q16,g11q16,htq16,hcq16,eq_true c17,c18,eq_true c38,eq_true c39,CL,LTN] at hcq44
         injection h with h; subst h
         simp -implicitDefEqProofs only [am,TT,Ic.t,ci,reduceEqDiff,reduceIte,reduceAdd,reduceLT,reduceCtorEq,reduceToNat,hl,c1,uh0q6,g0q6,g1q6,g5q6,g6q6,htq6,hcq6,c9,k11,c12,k14,uh0q16,g0q16,g6q16,g9q16,g10q16,g11q16,htq16,hcq16,eq_true c17,c18,eq_true c38,eq_true c39,hcq44,CL,LTN]
         exact hK
       rw [if_neg c39] at h
       injection h with h; subst h
       simp -implicitDefEqProofs only [am,TT,Ic.t,ci,reduceEqDiff,reduceIte,reduceAdd,reduceLT,reduceCtorEq,reduceToNat,hl,c1,uh0q6,g0q6,g1q6,g5q6,g6q6,htq6,hcq6,c9,k11,c12,k14,uh0q16,g0q16,g6q16,g9q16,g10q16,g11q16,htq16,hcq16,eq_true c17,c18,eq_true c38,c39,CL,LTN]
       exact hK
     rw [if_neg c38] at h
     obtain ⟨y47,hy47,h⟩:=ob h
     simp -implicitDefEqProofs only [am,TT,Ic.t,ci,reduceEqDiff,reduceIte,reduceAdd,reduceLT,reduceCtorEq,reduceToNat,hl,c1,uh0q6,g0q6,g1q6,g5q6,g6q6,htq6,hcq6,c9,k11,c12,k14,uh0q16,g0q16,g6q16,g9q16,g10q16,g11q16,htq16,hcq16,eq_true c17,c18,c38,CL,LTN]
     have Sy47:=i9 p1 y13.1 y15 (0:Int) y47 hy47
     unfold dd at Sy47
     refine Sy47 _ _ (by first | assumption | omega | (simp only [aa,ag,af,ar]; omega)) _ ?_ ?_
     · intro w48 e frq49 tkq49 τq49 u0q49 uh0q49 htq49 hcq49
       subst e
       simp only at h
       have hcq49:=cn (n:=τ.next) hcq49 (by first | omega | (simp only [aa,ag]; omega))
       try simp only [List.take_succ_cons,List.take_zero,List.take_nil,CL] at htq49
       try simp -implicitDefEqProofs only [TT,Ic.t,ci,reduceEqDiff,reduceIte,reduceAdd,reduceLT,reduceCtorEq,reduceToNat,hl,c1,uh0q6,g0q6,g1q6,g5q6,g6q6,htq6,hcq6,c9,k11,c12,k14,uh0q16,g0q16,g6q16,g9q16,g10q16,g11q16,htq16,hcq16,eq_true c17,c18,c38,CL,LTN] at hcq49
       obtain ⟨y52,hy52,h⟩:=ob h
       have k53:=cq  _ hy52
       try simp only [CL,MC,reduceToNat] at k53
       injection h with h; subst h
       simp -implicitDefEqProofs only [am,TT,Ic.t,ci,reduceEqDiff,reduceIte,reduceAdd,reduceLT,reduceCtorEq,reduceToNat,hl,c1,uh0q6,g0q6,g1q6,g5q6,g6q6,htq6,hcq6,c9,k11,c12,k14,uh0q16,g0q16,g6q16,g9q16,g10q16,g11q16,htq16,hcq16,eq_true c17,c18,c38,htq49,hcq49,k53,CL,LTN]
       exact hK
     intro w50 e tkq51 τq51 hcq51
     subst e
     simp only at h
     have hcq51:=cn (n:=τ.next) hcq51 (by first | omega | (simp only [aa,ag]; omega))
     try simp -implicitDefEqProofs only [TT,Ic.t,ci,reduceEqDiff,reduceIte,reduceAdd,reduceLT,reduceCtorEq,reduceToNat,hl,c1,uh0q6,g0q6,g1q6,g5q6,g6q6,htq6,hcq6,c9,k11,c12,k14,uh0q16,g0q16,g6q16,g9q16,g10q16,g11q16,htq16,hcq16,eq_true c17,c18,c38,CL,LTN] at hcq51
     injection h with h; subst h
     simp -implicitDefEqProofs only [am,TT,Ic.t,ci,reduceEqDiff,reduceIte,reduceAdd,reduceLT,reduceCtorEq,reduceToNat,hl,c1,uh0q6,g0q6,g1q6,g5q6,g6q6,htq6,hcq6,c9,k11,c12,k14,uh0q16,g0q16,g6q16,g9q16,g10q16,g11q16,htq16,hcq16,eq_true c17,c18,c38,hcq51,CL,LTN]
     exact hK
   rw [if_neg c17] at h
   injection h with h; subst h
   simp -implicitDefEqProofs only [am,TT,Ic.t,ci,reduceEqDiff,reduceIte,reduceAdd,reduceLT,reduceCtorEq,reduceToNat,hl,c1,uh0q6,g0q6,g1q6,g5q6,g6q6,htq6,hcq6,c9,k11,c12,k14,uh0q16,g0q16,g6q16,g9q16,g10q16,g11q16,htq16,hcq16,c17,CL,LTN]
   exact hK
 intro w7 e tkq8 τq8 hcq8
 subst e
 simp only at h
 have hcq8:=cn (n:=τ.next) hcq8 (by first | omega | (simp only [aa,ag]; omega))
 try simp -implicitDefEqProofs only [TT,Ic.t,ci,reduceEqDiff,reduceIte,reduceAdd,reduceLT,reduceCtorEq,reduceToNat,hl,c1,CL,LTN] at hcq8
 injection h with h; subst h
 simp -implicitDefEqProofs only [am,TT,Ic.t,ci,reduceEqDiff,reduceIte,reduceAdd,reduceLT,reduceCtorEq,reduceToNat,hl,c1,hcq8,CL,LTN]
 exact hK
end Go.Proofs.Ytgkkienmocpnbaa

namespace Go.Proofs.Ytgkkienmocpnbaa
open Go Go.RowKit Sh Ic
theorem obz {α β:Type} {a:α} {f:α → Option β}:(some a >>= f) = f a:=by generalize h:f a = x; exact h
theorem w64 {n:Int} (h1:-9223372036854775808 ≤ n) (h2:n < 9223372036854775808):IntKind.i64.wrap n = n:=by
 simp [IntKind.wrap,IntKind.bits,IntKind.signed,IntKind.max]; omega
theorem zbqf (n:Int):IntKind.u32.wrap n = n % 4294967296:=by simp [IntKind.wrap,IntKind.bits,IntKind.signed]
theorem zbjl (n:Nat) (h:n < 4294967296):IntKind.u32.wrap (n:Int) = (n:Int):=by rw [zbqf]; omega
theorem zbgf (a:W):BitVec.ofInt 32 (a.toNat:Int) = a:=by
 rw [BitVec.ofInt_natCast,BitVec.ofNat_toNat,BitVec.setWidth_eq]
theorem zbj2 (a:W):a.toNat < 4294967296:=a.isLt
theorem zb50 (a b:W):IntKind.u32.wrap ((BitVec.ofInt IntKind.u32.bits (a.toNat:Int) ||| BitVec.ofInt IntKind.u32.bits (b.toNat:Int)).toNat:Int) = ((a ||| b).toNat:Int):=by
 show IntKind.u32.wrap ((BitVec.ofInt 32 (a.toNat:Int) ||| BitVec.ofInt 32 (b.toNat:Int)).toNat:Int) = _
 rw [zbgf,zbgf,zbjl _ (zbj2 _)]
theorem zbqh (a b:W):IntKind.u32.wrap ((BitVec.ofInt IntKind.u32.bits (a.toNat:Int) &&& BitVec.ofInt IntKind.u32.bits (b.toNat:Int)).toNat:Int) = ((a &&& b).toNat:Int):=by
 show IntKind.u32.wrap ((BitVec.ofInt 32 (a.toNat:Int) &&& BitVec.ofInt 32 (b.toNat:Int)).toNat:Int) = _
 rw [zbgf,zbgf,zbjl _ (zbj2 _)]
theorem zbjz (a b:W):IntKind.u32.wrap ((BitVec.ofInt IntKind.u32.bits (a.toNat:Int) ^^^ BitVec.ofInt IntKind.u32.bits (b.toNat:Int)).toNat:Int) = ((a ^^^ b).toNat:Int):=by
 show IntKind.u32.wrap ((BitVec.ofInt 32 (a.toNat:Int) ^^^ BitVec.ofInt 32 (b.toNat:Int)).toNat:Int) = _
 rw [zbgf,zbgf,zbjl _ (zbj2 _)]
theorem zbqg (a:W):zbqp .u32 (a.toNat:Int) = ((~~~a).toNat:Int):=by
 show IntKind.u32.wrap ((BitVec.ofInt 32 4294967295 ^^^ BitVec.ofInt 32 (a.toNat:Int)).toNat:Int) = _
 rw [zbgf,show BitVec.ofInt 32 4294967295 = BitVec.allOnes 32 from by decide,BitVec.allOnes_xor,zbjl _ (zbj2 _)]
theorem zbgt (a b:W):IntKind.u32.wrap ((a.toNat:Int) + (b.toNat:Int)) = ((a + b).toNat:Int):=by
 rw [zbqf,BitVec.toNat_add]; omega
theorem zbj0 (a:W) (k:Nat):(a.toNat:Int).fdiv (2 ^ k) = ((a >>> k).toNat:Int):=by
 rw [Int.fdiv_eq_ediv_of_nonneg _ (by exact Int.le_of_lt (Int.pow_pos (by decide))),BitVec.toNat_ushiftRight,Nat.shiftRight_eq_div_pow,Int.natCast_ediv,Int.natCast_pow]
 rfl
theorem zbj1 (a:W) (k:Nat):IntKind.u32.wrap ((a.toNat:Int) * 2 ^ k) = ((a <<< k).toNat:Int):=by
 rw [zbqf,BitVec.toNat_shiftLeft,Nat.shiftLeft_eq,Int.natCast_emod,Int.natCast_mul,Int.natCast_pow]
 rfl
theorem zbq5:∀ n:Fin 32,0 < n.val → (IntKind.u64.wrap ((BitVec.ofInt IntKind.u64.bits (IntKind.u64.wrap (IntKind.i64.wrap (0 - (n.val:Int)))) &&& BitVec.ofInt IntKind.u64.bits (31:Int)).toNat:Int)) = ((32 - n.val:Nat):Int):=by decide
theorem xu (x:W) (n:Nat) (z:Int) (hz:z = (n:Int)) (h0:0 < n) (hn:n < 32):dk (x.toNat:Int) z = some ((vm x n).toNat:Int):=by
 subst hz
 have b:=zbq5 ⟨n,hn⟩ h0
 simp only at b
 have c1:¬ ((32 - n:Nat):Int) < 0:=by omega
 have w1:IntKind.u64.wrap (32 - ((32 - n:Nat):Int)) = (n:Int):=by
  have:IntKind.u64.wrap (32 - ((32 - n:Nat):Int)) = (32 - ((32 - n:Nat):Int)) % 18446744073709551616:=by simp [IntKind.wrap,IntKind.bits,IntKind.signed]
  omega
 have c2:¬ (n:Int) < 0:=by omega
 have e1:Nat.min n IntKind.u32.bits = n:=Nat.min_eq_left (Nat.le_of_lt hn)
 have e2:Nat.min (32 - n) IntKind.u32.bits = 32 - n:=Nat.min_eq_left (Nat.sub_le _ _)
 unfold dk d6
 simp only [obz,b,c1,w1,c2,Int.toNat_natCast,e1,e2,zbj0,zbj1,zb50,not_false_eq_true,if_true]
 rw [vm,BitVec.or_comm]
def wl (ws:List W):List Int:=ws.map fun a => (a.toNat:Int)
theorem vr (ws:List W):(wl ws).length = ws.length:=List.length_map ..
theorem fu (ws:List W) (j:Nat) (z:Int) (hz:z = (j:Int)) (h:j < ws.length):ixL (wl ws) z = some ((ws.getD j 0).toNat:Int):=by
 subst hz
 rw [xx (by rw [vr]; exact h)]
 simp only [wl,List.getElem_map,List.getD_eq_getElem?_getD,List.getElem?_eq_getElem h,Option.getD_some]
theorem zbn6 (ws:List W) (j:Nat) (x:W):(wl ws).set j (x.toNat:Int) = wl (ws.set j x):=by rw [wl,wl,List.map_set]
theorem zbli (s:ByteArray) (i:Nat):(bt s i).toNat = (s.data.getD i 0).toNat:=by
 unfold bt; rw [BitVec.toNat_ofNat]; have:=(s.data.getD i 0).toNat_lt; omega
theorem zbh7 (s:ByteArray) (i:Nat):IntKind.u32.wrap ((bt s i).toNat:Int) = ((bt s i).toNat:Int):=zbjl _ (zbj2 _)
theorem zbmf (s:ByteArray) (i:Nat) (z:Int) (hz:z = (i:Int)) (h:i < s.size):ixB s z = some ((bt s i).toNat:Int):=by
 subst hz
 unfold ixB
 rw [if_pos (by omega),Int.toNat_natCast,zbli]
theorem zbm7 (s:ByteArray) (a i:Nat) (h:a + i < s.size):bt (s.extract a s.size) i = bt s (a + i):=by
 have hs:s.size = s.data.size:=rfl
 unfold bt
 rw [ByteArray.data_extract,Array.getD_eq_getD_getElem?,Array.getElem?_extract,if_pos (by omega),← Array.getD_eq_getD_getElem?]
theorem zbcx (s:ByteArray) (i:Nat) (h:4 * i + 3 < s.size):n9 (s.extract (4 * i) s.size) = some ((be4 s i).toNat:Int):=by
 have sz:(s.extract (4 * i) s.size).size = s.size - 4 * i:=by rw [ByteArray.size_extract]; omega
 unfold n9
 rw [zbmf _ 0 0 rfl (by omega),zbmf _ 1 1 rfl (by omega),zbmf _ 2 2 rfl (by omega),zbmf _ 3 3 rfl (by omega)]
 have m24:Nat.min 24 IntKind.u32.bits = 24:=rfl
 have m16:Nat.min 16 IntKind.u32.bits = 16:=rfl
 have m8:Nat.min 8 IntKind.u32.bits = 8:=rfl
 simp only [obz,zbh7,m24,m16,m8,zbj1,zb50]
 rw [zbm7 _ _ _ (by omega),zbm7 _ _ _ (by omega),zbm7 _ _ _ (by omega),zbm7 _ _ _ (by omega)]
 rfl
theorem zce8:zbbz.length = 64:=rfl
theorem zcfk:lc = some (wl zbbz):=rfl
theorem zbuq (s:ByteArray) (n:Nat):∀ i ws,(fill s i n ws).length = ws.length:=by
 induction n with
 | zero => intro i ws; rfl
 | succ n ih => intro i ws; rw [fill,ih,List.length_set]
theorem zau2 (n:Nat):∀ i ws,(zau3 i n ws).length = ws.length:=by
 induction n with
 | zero => intro i ws; rfl
 | succ n ih => intro i ws; rw [zau3,ih,List.length_set]
theorem zba7 (vs:List W) (n:Nat):∀ i ws,(zba8 vs i n ws).length = ws.length:=by
 induction n with
 | zero => intro i ws; rfl
 | succ n ih => intro i ws; rw [zba8,ih,List.length_set]
theorem zb8d (s:ByteArray):(zbi9 s).length = 64:=by
 unfold zbi9; rw [zau2,zbuq]; rfl
theorem zb0q (hs:List W) (s:ByteArray) (h:hs.length = 8):(zbmr hs s).length = 8:=by
 unfold zbmr; rw [zba7,h]
theorem m24:Nat.min 24 IntKind.u32.bits = 24:=rfl
theorem m16:Nat.min 16 IntKind.u32.bits = 16:=rfl
theorem m8:Nat.min 8 IntKind.u32.bits = 8:=rfl
theorem m3:Nat.min 3 IntKind.u32.bits = 3:=rfl
theorem m10:Nat.min 10 IntKind.u32.bits = 10:=rfl
theorem xz (i:Nat) (h:i < 1000000000000):IntKind.i64.wrap ((i:Int) + 1) = ((i + 1:Nat):Int):=by rw [w64 (by omega) (by omega)]; omega
theorem zbl2 (i k:Nat) (z:Int) (hz:z = (k:Int)) (h:i < 1000000000000) (hk:k ≤ i):IntKind.i64.wrap ((i:Int) - z) = ((i - k:Nat):Int):=by rw [hz,w64 (by omega) (by omega)]; omega
theorem zblb (i:Nat) (h:i < 1000000000000):IntKind.i64.wrap (4 * (i:Int)) = ((4 * i:Nat):Int):=by rw [w64 (by omega) (by omega)]; omega
theorem zbgn (i:Nat) (h:i < 64):(0 ≤ (i:Int) ∧ (i:Int) < ((64:Nat):Int)) = True:=eq_true ⟨by omega,by omega⟩
theorem in8 (i:Nat) (h:i < 8):(0 ≤ (i:Int) ∧ (i:Int) < ((8:Nat):Int)) = True:=eq_true ⟨by omega,by omega⟩
theorem zbgb:(List.replicate 64 (0:Int)) = wl zbl7:=rfl
theorem zbqu (s:ByteArray) (hs:s.size = 64) (x y:List Int) (n:Nat):∀ (i:Nat) (ws:List W) (r:List Int),n + i = 16 → ws.length = 64 → ep x s y (wl (fill s i n ws)) (16:Int) = some r → ep x s y (wl ws) (i:Int) = some r:=by
 induction n with
 | zero =>
  intro i ws r hi hl h
  obtain rfl:i = 16:=by omega
  exact h
 | succ n ih =>
  intro i ws r hi hl h
  have c:(i:Int) < 16:=by omega
  have c2:(i:Int) < 64:=by omega
  have cl:(i:Nat) + 1 ≤ (wl ws).length:=by rw [vr]; omega
  rw [la,bn]
  rw [zblb i (by omega)]
  have g:(0 ≤ ((4 * i:Nat):Int) ∧ ((4 * i:Nat):Int) ≤ (s.size:Int)) = True:=eq_true ⟨by omega,by omega⟩
  simp only [g,c,c2,if_true,Int.toNat_natCast]
  rw [zbcx s i (by omega)]
  simp only [obz,zbgn i (by omega),cl,if_true,zbn6,xz i (by omega),LS.go]
  exact ih (i + 1) _ r (by omega) (by rw [List.length_set,hl]) h
theorem zbqt (s:ByteArray) (x y:List Int) (n:Nat):∀ (i:Nat) (ws:List W),n + i = 64 → 16 ≤ i → ws.length = 64 → ep x s y (wl ws) (i:Int) = some (wl (zau3 i n ws)):=by
 induction n with
 | zero =>
  intro i ws hi h16 hl
  obtain rfl:i = 64:=by omega
  rw [la,bn,if_neg (by decide)]
  rfl
 | succ n ih =>
  intro i ws hi h16 hl
  have c:(i:Int) < 64:=by omega
  have c2:¬ (i:Int) < 16:=by omega
  have cl:(i:Nat) + 1 ≤ (wl ws).length:=by rw [vr]; omega
  rw [la,bn]
  rw [zbl2 i 15 15 rfl (by omega) (by omega),zbl2 i 2 2 rfl (by omega) (by omega),zbl2 i 16 16 rfl (by omega) (by omega),zbl2 i 7 7 rfl (by omega) (by omega)]
  rw [fu ws (i - 15) _ rfl (by omega),fu ws (i - 2) _ rfl (by omega),fu ws (i - 16) _ rfl (by omega),fu ws (i - 7) _ rfl (by omega)]
  simp only [obz,xu _ 7 7 rfl (by decide) (by decide),xu _ 18 18 rfl (by decide) (by decide),xu _ 17 17 rfl (by decide) (by decide),xu _ 19 19 rfl (by decide) (by decide),m3,m10,zbj0,zbjz,zbgt,c,c2,zbgn i (by omega),zbgn (i - 15) (by omega),zbgn (i - 2) (by omega),zbgn (i - 16) (by omega),zbgn (i - 7) (by omega),Int.toNat_natCast,cl,if_true,if_false,zbn6,xz i (by omega),LS.go]
  exact ih (i + 1) _ (by omega) (by omega) (by rw [List.length_set,hl])
def V8.tup (v:V8):Int × Int × Int × Int × Int × Int × Int × Int:=((v.a.toNat:Int),(v.b.toNat:Int),(v.c.toNat:Int),(v.d.toNat:Int),(v.e.toNat:Int),(v.f.toNat:Int),(v.g.toNat:Int),(v.h.toNat:Int))
theorem zbqs (x:List Int) (ks ws:List W) (hk:ks.length = 64) (hw:ws.length = 64) (n:Nat):∀ (i:Nat) (v:V8),n + i = 64 → ij x (wl ks) (wl ws) (v.a.toNat:Int) (v.b.toNat:Int) (v.c.toNat:Int) (v.d.toNat:Int) (v.e.toNat:Int) (v.f.toNat:Int) (v.g.toNat:Int) (v.h.toNat:Int) (i:Int) = some (zbni ks ws i n v).tup:=by
 induction n with
 | zero =>
  intro i ws hi
  obtain rfl:i = 64:=by omega
  rw [qt]
  rfl
 | succ n ih =>
  intro i v hi
  have c:(i:Int) < 64:=by omega
  rw [qt,cj]
  rw [fu ks i _ rfl (by omega),fu ws i _ rfl (by omega)]
  simp only [obz,xu _ 6 6 rfl (by decide) (by decide),xu _ 11 11 rfl (by decide) (by decide),xu _ 25 25 rfl (by decide) (by decide),xu _ 2 2 rfl (by decide) (by decide),xu _ 13 13 rfl (by decide) (by decide),xu _ 22 22 rfl (by decide) (by decide),zbjz,zbgt,zbqh,zbqg,c,zbgn i (by omega),if_true,xz i (by omega),LS.go]
  exact ih (i + 1) (v.rnd (ks.getD i 0) (ws.getD i 0)) (by omega)
theorem zbqr (vs:List W) (hv:vs.length = 8) (n:Nat):∀ (i:Nat) (hs:List W),n + i = 8 → hs.length = 8 → ig (wl vs) (wl hs) (i:Int) = some (wl (zba8 vs i n hs)):=by
 induction n with
 | zero =>
  intro i ws hi hl
  obtain rfl:i = 8:=by omega
  rw [qr]
  rfl
 | succ n ih =>
  intro i hs hi hl
  have c:(i:Int) < 8:=by omega
  have cl:(i:Nat) + 1 ≤ (wl hs).length:=by rw [vr]; omega
  have cv:8 ≤ (wl vs).length:=by rw [vr]; omega
  rw [qr,ch]
  rw [fu hs i _ rfl (by omega),fu vs i _ rfl (by omega)]
  simp only [obz,zbgt,c,cv,in8 i (by omega),Int.toNat_natCast,cl,if_true,zbn6,xz i (by omega),LS.go]
  exact ih (i + 1) _ (by omega) (by rw [List.length_set,hl])
theorem zbqv (hs:List W) (s:ByteArray) (hl:hs.length = 8) (h:s.size = 64):jd (wl hs) s (wl zbbz) = some (wl (zbmr hs s)):=by
 unfold jd
 rw [zbgb]
 have e2:=zbqt s (wl hs) (wl zbbz) 48 16 (fill s 0 16 zbl7) rfl (Nat.le_refl _) (by rw [zbuq]; rfl)
 have e1:=zbqu s h (wl hs) (wl zbbz) 16 0 zbl7 _ rfl rfl e2
 have e3:=zbqs (wl hs) zbbz (zbi9 s) zce8 (zb8d s) 64 0 (V8.ofL hs) rfl
 have e4:=zbqr (zbni zbbz (zbi9 s) 0 64 (V8.ofL hs)).list rfl 8 0 hs rfl hl
 refine (congrArg (· >>= _) e1).trans ?_
 rw [fu hs 0 0 rfl (by omega),fu hs 1 1 rfl (by omega),fu hs 2 2 rfl (by omega),fu hs 3 3 rfl (by omega),fu hs 4 4 rfl (by omega),fu hs 5 5 rfl (by omega),fu hs 6 6 rfl (by omega),fu hs 7 7 rfl (by omega)]
 simp only [obz]
 refine (congrArg (· >>= _) e3).trans ?_
 refine (congrArg (· >>= _) e4).trans ?_
 rfl
open Go Go.RowKit Sh Ic
theorem gw (l:List Int):(ox l).size = l.length:=by
 show (ox l).data.size = _
 simp [ox]
theorem zbum (l:List Int) (n:Int):(ox l).push (UInt8.ofNat n.toNat) = ox (l ++ [n]):=by
 apply ByteArray.ext
 simp [ox,ByteArray.push]
theorem zaq9 (l:List Int) (b:Nat):(ox l).extract 0 b = ox (l.take b):=by
 apply ByteArray.ext
 apply Array.toList_inj.1
 rw [ByteArray.data_extract,Array.toList_extract,List.extract_eq_take_drop,List.drop_zero,Nat.sub_zero]
 show List.take b (l.map fun n => UInt8.ofNat n.toNat) = (l.take b).map fun n => UInt8.ofNat n.toNat
 rw [List.map_take]
theorem zcfb (l:List Int) (a k:Nat):(ox l).extract a (a + k) = ox ((l.drop a).take k):=by
 apply ByteArray.ext
 apply Array.toList_inj.1
 rw [ByteArray.data_extract,Array.toList_extract,List.extract_eq_take_drop,Nat.add_sub_cancel_left]
 show List.take k (List.drop a (l.map fun n => UInt8.ofNat n.toNat)) = ((l.drop a).take k).map fun n => UInt8.ofNat n.toNat
 rw [List.map_take,List.map_drop]
theorem zara (l:List Int) (a:Nat) (h:a ≤ l.length):(ox l).extract a (ox l).size = ox (l.drop a):=by
 have:(ox l).size = a + (l.length - a):=by rw [gw]; omega
 rw [this,zcfb,List.take_of_length_le (by rw [List.length_drop]; omega)]
theorem zcbc (s:ByteArray):ox (bo s) = s:=by
 apply ByteArray.ext
 apply Array.toList_inj.1
 show ((s.data.toList.map fun b => (b.toNat:Int)).map fun n => UInt8.ofNat n.toNat) = _
 rw [List.map_map]
 apply List.ext_getElem?
 intro i
 rw [List.getElem?_map]
 cases s.data.toList[i]? with
 | none => rfl
 | some b => show some (UInt8.ofNat ((b.toNat:Int)).toNat) = some b; rw [Int.toNat_natCast,UInt8.ofNat_toNat]
theorem zarb (s:ByteArray):s ++ (⟨#[128]⟩:ByteArray) = ox (bo s ++ [128]):=by
 apply ByteArray.ext
 apply Array.toList_inj.1
 rw [ByteArray.data_append,Array.toList_append]
 show _ = (bo s ++ [128]).map fun n:Int => UInt8.ofNat n.toNat
 rw [List.map_append]
 congr 1
 exact (congrArg (fun b:ByteArray => b.data.toList) (zcbc s)).symm
theorem zbx7 (n k:Nat) (z:Int) (hz:z = (k:Int)):Int.tmod (n:Int) z = ((n % k:Nat):Int):=by subst hz; rfl
theorem wr8 (n:Int):IntKind.u8.wrap n = n % 256:=by simp [IntKind.wrap,IntKind.bits,IntKind.signed]
theorem zbjx (n:Int):0 ≤ IntKind.u8.wrap n ∧ IntKind.u8.wrap n < 256:=by rw [wr8]; omega
theorem zbkt (L:Int) (k:Nat):∀ l:List Int,(l.length + k) % 64 = 56 → k < 64 → l.length + k < 1000000000000 → qx L (ox l) = some (ox (l ++ List.replicate k 0)):=by
 induction k with
 | zero =>
  intro l h hk hb
  rw [zb0i,d5,gw,zbx7 _ 64 64 rfl,if_pos (by omega),List.replicate_zero,List.append_nil]
  rfl
 | succ k ih =>
  intro l h hk hb
  rw [zb0i,d5,gw,zbx7 _ 64 64 rfl,if_neg (by omega),if_pos ⟨by omega,by omega,by omega⟩,zbum]
  rw [obz,LS.go]
  have e:=ih (l ++ [0]) (by rw [List.length_append]; show (l.length + 1 + k) % 64 = 56; omega) (by omega) (by rw [List.length_append]; show l.length + 1 + k < _; omega)
  rw [List.append_assoc] at e
  exact e
theorem w56 (i:Nat) (h:i < 8):IntKind.i64.wrap ((56:Int) - (IntKind.i64.wrap ((8:Int) * (i:Int)))) = ((56 - 8 * i:Nat):Int):=by
 rw [w64 (n:=8 * (i:Int)) (by omega) (by omega),w64 (by omega) (by omega)]; omega
theorem zbqx (n:Nat) (h:n ≤ 64):Nat.min n IntKind.u64.bits = n:=Nat.min_eq_left h
theorem zbk0 (L:Int) (n:Nat):∀ (i:Nat) (l:List Int),n + i = 8 → l.length < 900000000000 + i → qw L (ox l) (i:Int) = some (ox (l ++ lb L i n)):=by
 induction n with
 | zero =>
  intro i l hi hb
  obtain rfl:i = 8:=by omega
  rw [zb0j,d4,if_neg (by decide),lb,List.append_nil]
  rfl
 | succ n ih =>
  intro i l hi hb
  have r:=zbjx (Int.fdiv L (2 ^ (56 - 8 * i)))
  rw [zb0j,d4,if_pos (by omega),w56 i (by omega),if_pos (by omega),Int.toNat_natCast,zbqx _ (by omega),if_pos ⟨r.1,r.2,by rw [gw]; omega⟩,zbum,xz i (by omega)]
  rw [obz,LS.go]
  have e:=ih (i + 1) (l ++ [sh8 L i]) (by omega) (by rw [List.length_append]; show l.length + 1 < _; omega)
  rw [List.append_assoc] at e
  exact e
theorem qo (n:Nat):∀ (m:List Int) (hs:List W),hs.length = 8 → (zbil n m hs).length = 8:=by
 induction n with
 | zero => intro m hs h; exact h
 | succ n ih => intro m hs h; exact ih _ _ (zb0q _ _ h)
theorem zbkp (n:Nat):∀ (m:List Int) (hs:List W),m.length = 64 * n → hs.length = 8 → qv (wl zbbz) (wl hs) (ox m) = some (wl (zbil n m hs)):=by
 induction n with
 | zero =>
  intro m hs hm hl
  obtain rfl:m = []:=List.eq_nil_of_length_eq_zero (by omega)
  rw [zb0k,dz,if_pos (show ox [] = (⟨#[]⟩:ByteArray) from rfl)]
  rfl
 | succ n ih =>
  intro m hs hm hl
  have ne:¬ ox m = (⟨#[]⟩:ByteArray):=fun h => by
   have h2:=gw m
   rw [h] at h2
   have h3:(⟨#[]⟩:ByteArray).size = 0:=rfl
   omega
  rw [zb0k,dz,if_neg ne,if_pos ⟨by omega,by rw [gw]; omega⟩,zaq9,zara _ _ (by omega)]
  rw [zbqv hs _ hl (by rw [gw,List.length_take]; omega)]
  rw [obz,obz,LS.go]
  exact ih _ _ (by rw [List.length_drop]; omega) (zb0q _ _ hl)
theorem zbcv (hs:List W) (n:Nat):∀ i,(zbiv hs i n).length = 4 * n:=by
 induction n with
 | zero => intro i; rfl
 | succ n ih => intro i; rw [zbiv,List.length_append,ih]; show 4 + 4 * n = _; omega
theorem zbku (hs:List W) (hl:hs.length = 8) (n:Nat):∀ (i:Nat) (l:List Int),n + i = 8 → l.length ≤ 100 + 4 * i → qu (wl hs) l (i:Int) = some (l ++ zbiv hs i n):=by
 induction n with
 | zero =>
  intro i l hi hb
  obtain rfl:i = 8:=by omega
  rw [zb0l,dy,if_neg (by decide),zbiv,List.append_nil]
  rfl
 | succ n ih =>
  intro i l hi hb
  rw [zb0l,dy,if_pos (by omega),if_pos (by rw [vr]; omega),if_pos ⟨by omega,by omega⟩,fu hs i _ rfl (by omega)]
  rw [obz,if_pos (by omega),xz i (by omega),obz,LS.go]
  have e:=ih (i + 1) (l ++ o4 ((hs.getD i 0).toNat:Int)) (by omega) (by rw [List.length_append]; show l.length + 4 ≤ _; omega)
  rw [List.append_assoc] at e
  exact e
theorem zbhs:uv = some (wl H0):=rfl
theorem zbk1 (L:Int) (n:Nat):∀ i,(lb L i n).length = n:=by
 induction n with
 | zero => intro i; rfl
 | succ n ih => intro i; rw [lb,List.length_cons,ih]
theorem zbk3 (n:Nat):(n + 1 + kz n) % 64 = 56 ∧ kz n < 64:=by unfold kz; omega
theorem zbo7 (s:ByteArray):(zbii s).length = 64 * zbiw s:=by
 have:=zbk3 s.size
 unfold zbii zbiw
 rw [List.length_append,List.length_append,List.length_append,zbk1,List.length_replicate,aj]
 show s.size + 1 + kz s.size + 8 = _
 omega
theorem zboy (s:ByteArray):(state s).length = 8:=qo _ _ _ rfl
theorem zby4 (s:ByteArray):(SHA s).size = 32:=by rw [SHA,gw,zbcv]
theorem zbkn (s:ByteArray) (h:s.size < 10000000000):uw s = some (SHA s):=by
 have kk:=zbk3 s.size
 have l1:(bo s ++ [128]).length = s.size + 1:=by rw [List.length_append,aj]; rfl
 have e1:=zbkt (zbh8 s) (kz s.size) (bo s ++ [128]) (by rw [l1]; exact kk.1) kk.2 (by omega)
 have e2:=zbk0 (zbh8 s) 8 0 ((bo s ++ [128]) ++ List.replicate (kz s.size) 0) rfl (by rw [List.length_append,List.length_replicate]; omega)
 have e3:=zbkp (zbiw s) (zbii s) H0 (zbo7 s) rfl
 rw [show zbil (zbiw s) (zbii s) H0 = state s from rfl] at e3
 have e4:=zbku (state s) (zboy s) 7 1 (o4 (((state s).getD 0 0).toNat:Int)) rfl (by show 4 ≤ _; omega)
 have s8:(wl (state s)).length = 8:=by rw [vr,zboy]
 have k64:(wl zbbz).length = 64:=rfl
 have h8:(wl H0).length = 8:=rfl
 have i1:IntKind.i64.wrap ((0:Int) + (1:Int)) = ((1:Nat):Int):=by decide
 unfold uw
 rw [if_pos (by omega),if_pos (by show s.size + 1 ≤ _; omega),zarb,zbhs,zcfk]
 refine (congrArg (· >>= _) e1).trans ?_
 refine (congrArg (· >>= _) e2).trans ?_
 rw [obz,obz,obz,if_pos h8,if_pos k64,if_pos (by show (ox (zbii s)).size ≤ _; rw [gw,zbo7]; have:=zbo7 s; unfold zbiw at *; omega)]
 refine (congrArg (· >>= _) e3).trans ?_
 show (if (wl (state s)).length = 8 then _ else none) = _
 rw [if_pos s8,if_pos (by omega)]
 show (ixL (wl (state s)) 0 >>= _) = _
 rw [fu (state s) 0 0 rfl (by rw [zboy]; omega),obz,i1]
 refine (congrArg (· >>= _) e4).trans ?_
 rfl
open Go Go.RowKit Sh Ic
theorem zbp8 (n:Int):IntKind.i64.wrap n = (BitVec.ofInt 64 n).toInt:=by
 rw [IntKind.wrap_i64,BitVec.toInt_ofInt]
 simp only [Int.bmod]
 split <;> omega
theorem zbur (n:Int):BitVec.ofInt 64 (IntKind.i64.wrap n) = BitVec.ofInt 64 n:=by rw [zbp8,BitVec.ofInt_toInt]
def zbb3 (v:Int) (c:UInt8):Int:=IntKind.i64.wrap (v * 256 + c.toNat)
theorem zb63 (x:BitVec 64) (c:Nat) (hc:c < 256):(x <<< 8) ||| BitVec.ofNat 64 c = x <<< 8 + BitVec.ofNat 64 c:=by
 rw [BitVec.add_eq_or_of_and_eq_zero]
 apply BitVec.eq_of_getLsbD_eq
 intro i hi
 simp only [BitVec.getLsbD_and,BitVec.getLsbD_shiftLeft,BitVec.getLsbD_ofNat,BitVec.getLsbD_zero]
 by_cases h:i < 8
 · simp [h]
 · have:c.testBit i = false:=Nat.testBit_lt_two_pow (Nat.lt_of_lt_of_le hc (Nat.pow_le_pow_right (by decide) (by omega):2 ^ 8 ≤ 2 ^ i))
   simp [this]
theorem zbhc (v:Int) (c:UInt8):IntKind.i64.wrap ((BitVec.ofInt IntKind.i64.bits (IntKind.i64.wrap (v * 2 ^ Nat.min 8 IntKind.i64.bits)) ||| BitVec.ofInt IntKind.i64.bits (IntKind.i64.wrap (c.toNat:Int))).toNat) = zbb3 v c:=by
 show IntKind.i64.wrap ((BitVec.ofInt 64 (IntKind.i64.wrap (v * 2 ^ 8)) ||| BitVec.ofInt 64 (IntKind.i64.wrap (c.toNat:Int))).toNat) = zbb3 v c
 rw [zbur,zbur]
 have h1:BitVec.ofInt 64 (v * 2 ^ 8) = (BitVec.ofInt 64 v) <<< 8:=by
  rw [BitVec.ofInt_mul,BitVec.shiftLeft_eq_mul_twoPow]; rfl
 have h2:BitVec.ofInt 64 (c.toNat:Int) = BitVec.ofNat 64 c.toNat:=BitVec.ofInt_natCast ..
 rw [h1,h2,zb63 _ _ c.toNat_lt,← h1,← h2,← BitVec.ofInt_add]
 unfold zbb3
 rw [zbp8,zbp8]
 congr 1
 rw [BitVec.ofInt_natCast,BitVec.ofNat_toNat,BitVec.setWidth_eq]
 congr 1
def j5 (v:Int) (l:List UInt8):Int:=l.foldl zbb3 v
theorem zb7b (s:ByteArray) (i:Nat) (h:i < s.size):s.data.toList.drop i = s.data.getD i 0 :: s.data.toList.drop (i + 1):=by
 have h':i < s.data.toList.length:=by simpa using h
 have h2:i < s.data.size:=h
 rw [List.drop_eq_getElem_cons h',Array.getD_eq_getD_getElem?,Array.getElem?_eq_getElem h2,Option.getD_some,Array.getElem_toList]
theorem zb88 (s:ByteArray) (i:Nat) (h:i < s.size):ixL (bo s) (i:Int) = some ((s.data.getD i 0).toNat:Int):=by
 rw [xx (by rw [aj]; exact h)]
 unfold bo
 rw [List.getElem_map]
 have h2:i < s.data.size:=h
 rw [Array.getD_eq_getD_getElem?,Array.getElem?_eq_getElem h2,Option.getD_some,Array.getElem_toList]
theorem zblc (l:List UInt8):∀ (u v:Int),IntKind.i64.wrap u = IntKind.i64.wrap v → IntKind.i64.wrap (l.foldl (fun v c => v * 256 + (c.toNat:Int)) u) = IntKind.i64.wrap (j5 v l):=by
 induction l with
 | nil => exact fun u v h => h
 | cons c r ih =>
  intro u v h
  refine ih _ (zbb3 v c) ?_
  show IntKind.i64.wrap (u * 256 + (c.toNat:Int)) = IntKind.i64.wrap (zbb3 v c)
  unfold zbb3
  rw [IntKind.wrap_i64] at h ⊢
  rw [IntKind.wrap_i64] at h ⊢
  rw [IntKind.wrap_i64]
  omega
theorem zb8i (l:List UInt8):IntKind.i64.wrap (j5 0 l) = j5 0 l:=by
 have key:∀ (l:List UInt8) (v:Int),IntKind.i64.wrap v = v → IntKind.i64.wrap (j5 v l) = j5 v l:=by
  intro l
  induction l with
  | nil => exact fun v h => h
  | cons c r ih =>
   intro v h
   refine ih (zbb3 v c) ?_
   unfold zbb3
   rw [IntKind.wrap_i64,IntKind.wrap_i64]
   omega
 exact key l 0 (by decide)
abbrev Rd:=ac
def Rd.fail:Rd:=⟨⟨#[]⟩,true⟩
def Rd.can (r:Rd) (n:Int):Prop:=r.bad_ = false ∧ 0 ≤ n ∧ n ≤ r.s_.size
instance (r:Rd) (n:Int):Decidable (Rd.can r n):=inferInstanceAs (Decidable (_ ∧ _ ∧ _))
def Rd.take (r:Rd) (n:Int):ByteArray × Rd:=if Rd.can r n then (r.s_.extract 0 n.toNat,⟨r.s_.extract n.toNat r.s_.size,false⟩) else (⟨#[]⟩,Rd.fail)
theorem zbi2 (r:Rd):cp r = some Rd.fail:=rfl
theorem zbed (r:Rd) (n:Int):dl r n = some (Rd.take r n):=by
 unfold dl Rd.take
 by_cases h1:r.bad_ = true
 · rw [if_pos h1,zbi2,obz,if_neg (fun h:Rd.can r n => by have:=h.1; rw [h1] at this; cases this)]
 · have h1':=Bool.eq_false_iff.2 h1
   rw [if_neg h1]
   by_cases h2:n < 0
   · rw [if_pos h2,zbi2,obz,if_neg (fun h:Rd.can r n => by have:=h.2.1; omega)]
   · rw [if_neg h2]
     by_cases h3:((r.s_.size:Nat):Int) < n
     · rw [if_pos h3,zbi2,obz,if_neg (fun h:Rd.can r n => by have:=h.2.2; omega)]
     · rw [if_neg h3,if_pos ⟨by omega,by omega⟩,if_pos ⟨h1',by omega,by omega⟩,h1']
theorem zamv (r:Rd) (n:Int) (hn:n ≤ 1000000000):(Rd.take r n).1.size ≤ 1000000000:=by
 unfold Rd.take
 split
 · simp only [ByteArray.size_extract]; omega
 · decide
def Rd.num (r:Rd):Int × Rd:=(j5 0 (Rd.take r 8).1.data.toList,(Rd.take r 8).2)
def Rd.count (r:Rd) (most:Int):Int × Rd:=if (Rd.num r).1 < 0 ∨ most < (Rd.num r).1 then (0,Rd.fail) else Rd.num r
def Rd.text (r:Rd) (most:Int):ByteArray × Rd:=Rd.take (Rd.count r most).2 (Rd.count r most).1
theorem zbqn (s:ByteArray) (hs:s.size ≤ 1000000000) (n:Nat):∀ (i:Nat) (v:Int),n + i = s.size → d8 (bo s) (s.size:Nat) v (i:Int) = some (j5 v (s.data.toList.drop i)):=by
 induction n with
 | zero =>
  intro i v h
  have e:s.data.toList.drop i = []:=List.drop_eq_nil_of_le (by simp; omega)
  rw [oo,bk,if_neg (by omega),obz,LS.go,e]; rfl
 | succ n ih =>
  intro i v h
  rw [oo,bk,if_pos (by omega),zb88 s i (by omega),obz,zbhc,obz,obz,LS.go,xz i (by omega),zb7b s i (by omega)]
  exact ih (i + 1) _ (by omega)
theorem zbqo (r:Rd):gb r = some (Rd.num r):=by
 unfold gb Rd.num
 have e:=zbqn (Rd.take r 8).1 (zamv r 8 (by decide)) (Rd.take r 8).1.size 0 0 rfl
 have e:d8 (bo (Rd.take r 8).1) ((Rd.take r 8).1.size:Nat) 0 0 = _:=e
 rw [zbed,obz,aj,e,obz]; rfl
theorem zbqm (r:Rd) (most:Int):gt r most = some (Rd.count r most):=by
 unfold gt Rd.count
 rw [zbqo,obz]
 by_cases h1:(Rd.num r).1 < 0
 · rw [if_pos h1,zbi2,obz,if_pos (.inl h1)]
 · rw [if_neg h1]
   by_cases h2:most < (Rd.num r).1
   · rw [if_pos h2,zbi2,obz,if_pos (.inr h2)]
   · rw [if_neg h2,if_neg (fun h => h.elim h1 h2)]
theorem zbh1 (r:Rd) (most:Int):fa r most = some (Rd.count r most):=by
 unfold fa
 rw [zbqm,obz]
theorem zbka (r:Rd) (most:Int):gz r most = some (Rd.text r most):=by
 unfold gz Rd.text
 rw [zbh1,obz,zbed,obz]
def br (v:Int) (i:Nat):Int:=IntKind.u8.wrap (v.fdiv (2 ^ Nat.min (8 * (7 - i)) IntKind.i64.bits))
def kg (v:Int):ByteArray:=⟨#[UInt8.ofNat (br v 0).toNat,UInt8.ofNat (br v 1).toNat,UInt8.ofNat (br v 2).toNat,UInt8.ofNat (br v 3).toNat,UInt8.ofNat (br v 4).toNat,UInt8.ofNat (br v 5).toNat,UInt8.ofNat (br v 6).toNat,UInt8.ofNat (br v 7).toNat]⟩
theorem rx (v:Int) (i:Nat) (hi:i < 8) (l:List Int) (hl:l.length = 8):iq v 8 ((8:Nat):Int) l (i:Int) = iq v 8 ((8:Nat):Int) (l.set i (br v i)) ((i + 1:Nat):Int):=by
 have w2:IntKind.i64.wrap (7 - (i:Int)) = ((7 - i:Nat):Int):=by rw [w64 (by omega) (by omega)]; omega
 have w3:IntKind.i64.wrap (8 * ((7 - i:Nat):Int)) = ((8 * (7 - i):Nat):Int):=by rw [w64 (by omega) (by omega)]; omega
 rw [zb0r,cz,if_pos (by omega),w2,w3,if_pos (by omega),if_pos ⟨by omega,by omega⟩,if_pos (by omega),obz,LS.go,xz i (by omega),Int.toNat_natCast,Int.toNat_natCast]
 rfl
theorem zblh (v:Int):pt v = some (kg v):=by
 have e:iq v 8 ((8:Nat):Int) (List.replicate 8 (0:Int)) (0:Int) = some [br v 0,br v 1,br v 2,br v 3,br v 4,br v 5,br v 6,br v 7]:=by
  have h0:=rx v 0 (by decide) (List.replicate 8 (0:Int)) rfl
  have h1:=rx v 1 (by decide) [br v 0,0,0,0,0,0,0,0] rfl
  have h2:=rx v 2 (by decide) [br v 0,br v 1,0,0,0,0,0,0] rfl
  have h3:=rx v 3 (by decide) [br v 0,br v 1,br v 2,0,0,0,0,0] rfl
  have h4:=rx v 4 (by decide) [br v 0,br v 1,br v 2,br v 3,0,0,0,0] rfl
  have h5:=rx v 5 (by decide) [br v 0,br v 1,br v 2,br v 3,br v 4,0,0,0] rfl
  have h6:=rx v 6 (by decide) [br v 0,br v 1,br v 2,br v 3,br v 4,br v 5,0,0] rfl
  have h7:=rx v 7 (by decide) [br v 0,br v 1,br v 2,br v 3,br v 4,br v 5,br v 6,0] rfl
  refine h0.trans (h1.trans (h2.trans (h3.trans (h4.trans (h5.trans (h6.trans (h7.trans ?_)))))))
  rw [zb0r,cz,if_neg (by decide),obz,LS.go]
  rfl
 unfold pt
 rw [e,obz]
 rfl
theorem gy (v:Int):(kg v).size = 8:=rfl
def fy (s:ByteArray):ByteArray:=kg s.size ++ s
theorem d7 (s:ByteArray):(fy s).size = 8 + s.size:=by unfold fy; rw [ByteArray.size_append,gy]
theorem zbhz (s:ByteArray) (hs:s.size ≤ 140737488355328):om s = some (fy s):=by
 unfold om
 rw [zblh,obz,if_pos (by rw [gy]; omega)]; rfl
def I64 (v:Int):Prop:=-9223372036854775808 ≤ v ∧ v ≤ 9223372036854775807
theorem zbup (v:Int) (i:Nat):br v i = (v / ((2 ^ Nat.min (8 * (7 - i)) 64:Nat):Int)) % 256:=by
 unfold br
 rw [Int.fdiv_eq_ediv_of_nonneg _ (by exact Int.le_of_lt (Int.pow_pos (by decide)))]
 simp [IntKind.wrap,IntKind.bits,IntKind.signed]
theorem zcf8 (v:Int) (i:Nat):((UInt8.ofNat (br v i).toNat).toNat:Int) = br v i:=by
 have:=zbup v i
 have h1:0 ≤ br v i:=by rw [this]; exact Int.emod_nonneg _ (by decide)
 have h2:br v i < 256:=by rw [this]; exact Int.emod_lt_of_pos _ (by decide)
 rw [UInt8.toNat_ofNat']
 omega
theorem zbu8 (v:Int) (hv:I64 v):j5 0 (kg v).data.toList = v:=by
 have e:=zblc (kg v).data.toList 0 0 rfl
 rw [zb8i] at e
 rw [← e]
 simp only [kg,List.foldl_cons,List.foldl_nil,zcf8]
 simp only [zbup]
 have p0:Nat.min (8 * (7 - 0)) 64 = 56:=rfl
 have p1:Nat.min (8 * (7 - 1)) 64 = 48:=rfl
 have p2:Nat.min (8 * (7 - 2)) 64 = 40:=rfl
 have p3:Nat.min (8 * (7 - 3)) 64 = 32:=rfl
 have p4:Nat.min (8 * (7 - 4)) 64 = 24:=rfl
 have p5:Nat.min (8 * (7 - 5)) 64 = 16:=rfl
 have p6:Nat.min (8 * (7 - 6)) 64 = 8:=rfl
 have p7:Nat.min (8 * (7 - 7)) 64 = 0:=rfl
 rw [p0,p1,p2,p3,p4,p5,p6,p7]
 obtain ⟨h1,h2⟩:=hv
 rw [IntKind.wrap_i64]
 simp only [Nat.reducePow,Int.cast_ofNat_Int]
 omega
theorem zcgd (a b:ByteArray):(a ++ b).extract 0 a.size = a:=by
 apply ByteArray.ext
 simp
theorem zcgc (a b:ByteArray):(a ++ b).extract a.size (a ++ b).size = b:=by
 apply ByteArray.ext
 apply Array.ext'
 rw [ByteArray.data_extract,Array.toList_extract,ByteArray.data_append,Array.toList_append,ByteArray.size_append,List.extract_eq_take_drop]
 rw [List.drop_append_of_le_length (by simp),List.drop_eq_nil_of_le (by simp),List.nil_append,List.take_of_length_le (by simp)]
theorem zbib (a:ByteArray):a ++ ⟨#[]⟩ = a:=ByteArray.append_empty
theorem zcbq (a:ByteArray):(⟨#[]⟩:ByteArray) ++ a = a:=ByteArray.empty_append
end Go.Proofs.Ytgkkienmocpnbaa
