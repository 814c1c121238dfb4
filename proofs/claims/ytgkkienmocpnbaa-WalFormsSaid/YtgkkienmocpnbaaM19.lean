import Derived.Test.YtgkkienmocpnbaaD1
set_option linter.unusedVariables false
set_option linter.unusedSimpArgs false
set_option linter.unusedSectionVars false
open Nat (reduceEqDiff reduceAdd reduceMul reduceLT reduceLeDiff reduceSub)
open Int (reduceToNat reduceNe reduceEq reduceNeg reduceLE)
namespace Go.Proofs.Ytgkkienmocpnbaa
open Go Go.RowKit Sh Ic
noncomputable def uw (p1:ByteArray):Option ByteArray :=
 if p1.size ≤ 140737488355328 then
  if p1.size + (⟨#[128]⟩:ByteArray).size ≤ 140737488355328 then
   qx (IntKind.u64.wrap ((IntKind.u64.wrap ((p1.size:Nat):Int)) * (8:Int))) (p1 ++ (⟨#[128]⟩:ByteArray)) >>= fun y5 =>
   qw (IntKind.u64.wrap ((IntKind.u64.wrap ((p1.size:Nat):Int)) * (8:Int))) y5 (0:Int) >>= fun y7 =>
   uv >>= fun y9 =>
   lc >>= fun y11 =>
   if y9.length = 8 then
    if y11.length = 64 then
     if y7.size ≤ 140737488355328 then
      qv y11 y9 y7 >>= fun y21 =>
      if y21.length = 8 then
       if 8 ≤ y21.length then
        ixL y21 (0:Int) >>= fun y30 =>
        qu y21 [(IntKind.u8.wrap (Int.fdiv y30 (2 ^ (Nat.min 24 IntKind.u32.bits)))),(IntKind.u8.wrap (Int.fdiv y30 (2 ^ (Nat.min 16 IntKind.u32.bits)))),(IntKind.u8.wrap (Int.fdiv y30 (2 ^ (Nat.min 8 IntKind.u32.bits)))),(IntKind.u8.wrap y30)] (IntKind.i64.wrap ((0:Int) + (1:Int))) >>= fun y33 =>
        some (ox y33)
       else
        none
      else
       none
     else
      none
    else
     none
   else
    none
  else
   none
 else
  none
theorem zbxf (p1:ByteArray) (r:ByteArray) (h:uw p1 = some r) (τ:TH) (hl:τ.lock ≤ τ.next):Ru G sa [.str p1] τ (.str r) τ:=by
 refine jn fun K hK => ?_
 rw [cb za9j (Nat.le_of_ble_eq_true rfl)]
 unfold uw at h
 obtain ⟨c1,h⟩:=ifS h
 have k2:=fun (id:Nat) (d:Option Nat) (K:ak) (fr:TF) (tk:TK) (τ:TH) (ha:τ.at id = some (cu id false ⟨#[]⟩)) (hi:id < τ.next) (hw:τ.lock ≤ id) (hl:τ.lock ≤ τ.next) => zb80 id d K fr tk τ ha hi hw hl p1 c1
 obtain ⟨c3,h⟩:=ifS h
 have k4:=fun (id:Nat) (d:Option Nat) (K:ak) (fr:TF) (tk:TK) (τ:TH) (ha:τ.at id = some (cu id true p1)) (hi:id < τ.next) (hw:τ.lock ≤ id) (hl:τ.lock ≤ τ.next) => zbyw p1 id true d K fr tk τ ha hi hw hl (by first | exact .inl rfl | assumption) (⟨#[128]⟩:ByteArray) c3
 obtain ⟨y5,hy5,h⟩:=ob h
 simp -implicitDefEqProofs only [il,TT,Ic.t,ci,reduceEqDiff,reduceIte,reduceAdd,reduceMul,reduceLT,reduceLeDiff,reduceSub,reduceCtorEq,reduceEq,reduceNe,reduceToNat,Int.reduceLT,reduceLE,reduceNeg,hl,c1,k2,fh,c3,k4,CL,LTN]
 have Sy5:=zb8v (IntKind.u64.wrap ((IntKind.u64.wrap ((p1.size:Nat):Int)) * (8:Int))) (p1 ++ (⟨#[128]⟩:ByteArray)) y5 hy5
 unfold qm at Sy5
 refine Sy5 _ τ.next (by first | assumption | omega | (simp only [aa,ag,af,ar]; omega)) true (by first | exact .inl rfl | exact .inr rfl | assumption) (by simp -implicitDefEqProofs only [TT,Ic.t,ci,reduceEqDiff,reduceIte,reduceAdd,reduceMul,reduceLT,reduceLeDiff,reduceSub,reduceCtorEq,reduceEq,reduceNe,reduceToNat,Int.reduceLT,reduceLE,reduceNeg,hl,c1,k2,fh,c3,k4,CL,LTN]) (by first | assumption | omega | (simp only [aa,ag,af,ar]; omega)) (by first | assumption | omega | (simp only [aa,ag,af,ar]; omega)) _ ?_
 intro frq6 tkq6 τq6 ubz6_0 huubz6_0 g3q6 g4q6 htq6 hcq6
 have hcq6:=cn (n:=τ.next + 1) hcq6 (by first | omega | (simp only [aa,ag]; omega))
 try simp only [List.take_succ_cons,List.take_zero,List.take_nil,CL] at htq6
 try simp -implicitDefEqProofs only [TT,Ic.t,ci,reduceEqDiff,reduceIte,reduceAdd,reduceMul,reduceLT,reduceLeDiff,reduceSub,reduceCtorEq,reduceEq,reduceNe,reduceToNat,Int.reduceLT,reduceLE,reduceNeg,hl,c1,k2,fh,c3,k4,CL,LTN] at hcq6
 obtain ⟨y7,hy7,h⟩:=ob h
 simp -implicitDefEqProofs only [il,TT,Ic.t,ci,reduceEqDiff,reduceIte,reduceAdd,reduceMul,reduceLT,reduceLeDiff,reduceSub,reduceCtorEq,reduceEq,reduceNe,reduceToNat,Int.reduceLT,reduceLE,reduceNeg,hl,c1,k2,fh,c3,k4,g3q6,g4q6,htq6,hcq6,CL,LTN]
 have Sy7:=zb8w (IntKind.u64.wrap ((IntKind.u64.wrap ((p1.size:Nat):Int)) * (8:Int))) y5 (0:Int) y7 hy7
 unfold ql at Sy7
 refine Sy7 _ τ.next (by first | assumption | omega | (simp only [aa,ag,af,ar]; omega)) ubz6_0 (by first | exact .inl rfl | exact .inr rfl | assumption) (by simp -implicitDefEqProofs only [TT,Ic.t,ci,reduceEqDiff,reduceIte,reduceAdd,reduceMul,reduceLT,reduceLeDiff,reduceSub,reduceCtorEq,reduceEq,reduceNe,reduceToNat,Int.reduceLT,reduceLE,reduceNeg,hl,c1,k2,fh,c3,k4,g3q6,g4q6,htq6,hcq6,CL,LTN]) (by first | assumption | omega | (simp only [aa,ag,af,ar]; omega)) (by first | assumption | omega | (simp only [aa,ag,af,ar]; omega)) _ ?_
 intro frq8 tkq8 τq8 ubz8_0 huubz8_0 g4q8 htq8 hcq8
 have hcq8:=cn (n:=τ.next + 1) hcq8 (by first | omega | (simp only [aa,ag]; omega))
 try simp only [List.take_succ_cons,List.take_zero,List.take_nil,CL] at htq8
 try simp -implicitDefEqProofs only [TT,Ic.t,ci,reduceEqDiff,reduceIte,reduceAdd,reduceMul,reduceLT,reduceLeDiff,reduceSub,reduceCtorEq,reduceEq,reduceNe,reduceToNat,Int.reduceLT,reduceLE,reduceNeg,hl,c1,k2,fh,c3,k4,g3q6,g4q6,htq6,hcq6,CL,LTN] at hcq8
 obtain ⟨y9,hy9,h⟩:=ob h
 have k10:=zb8k  _ hy9
 try simp only [CL,MC,reduceToNat] at k10
 obtain ⟨y11,hy11,h⟩:=ob h
 have k12:=zca4  _ hy11
 try simp only [CL,MC,reduceToNat] at k12
 obtain ⟨c13,h⟩:=ifS h
 have f14:(List.map (TV.int .u32) y9 = []) = False:=zbu8 c13 (by decide)
 have f15:y9.length ≤ 8:=Nat.le_of_eq c13
 obtain ⟨c16,h⟩:=ifS h
 have f17:(List.map (TV.int .u32) y11 = []) = False:=zbu8 c16 (by decide)
 have f18:y11.length ≤ 64:=Nat.le_of_eq c16
 obtain ⟨c19,h⟩:=ifS h
 have k20:=fun (id:Nat) (d:Option Nat) (K:ak) (fr:TF) (tk:TK) (τ:TH) (ha:τ.at id = some (cu id ubz8_0 y7)) (hi:id < τ.next) (hw:τ.lock ≤ id) (hl:τ.lock ≤ τ.next) => zceh y7 id ubz8_0 d K fr tk τ ha hi hw hl (by first | exact .inl rfl | assumption) c19
 obtain ⟨y21,hy21,h⟩:=ob h
 simp -implicitDefEqProofs only [il,TT,Ic.t,ci,reduceEqDiff,reduceIte,reduceAdd,reduceMul,reduceLT,reduceLeDiff,reduceSub,reduceCtorEq,reduceEq,reduceNe,reduceToNat,Int.reduceLT,reduceLE,reduceNeg,hl,c1,k2,fh,c3,k4,g3q6,g4q6,htq6,hcq6,g4q8,htq8,hcq8,k10,k12,c13,f14,f15,av,c16,f17,f18,c19,k20,CL,LTN]
 have Sy21:=zb8x y11 y9 y7 y21 hy21
 unfold qk at Sy21
 refine Sy21 _ (τ.next + 1) (τ.next + 2) (by first | assumption | omega | (simp only [aa,ag,af,ar]; omega)) (by first | (simp -implicitDefEqProofs only [TT,Ic.t,ci,reduceEqDiff,reduceIte,reduceAdd,reduceMul,reduceLT,reduceLeDiff,reduceSub,reduceCtorEq,reduceEq,reduceNe,reduceToNat,Int.reduceLT,reduceLE,reduceNeg,hl,c1,k2,fh,c3,k4,g3q6,g4q6,htq6,hcq6,g4q8,htq8,hcq8,k10,k12,c13,f14,f15,av,c16,f17,f18,c19,k20,CL,LTN]; done) | (simp -implicitDefEqProofs only [TT,Ic.t,ci,reduceEqDiff,reduceIte,reduceAdd,reduceMul,reduceLT,reduceLeDiff,reduceSub,reduceCtorEq,reduceEq,reduceNe,reduceToNat,Int.reduceLT,reduceLE,reduceNeg,hl,c1,k2,fh,c3,k4,g3q6,g4q6,htq6,hcq6,g4q8,htq8,hcq8,k10,k12,c13,f14,f15,av,c16,f17,f18,c19,k20,CL,LTN]; rfl)) (by first | assumption | omega | (simp only [aa,ag,af,ar]; omega)) (by first | assumption | omega | (simp only [aa,ag,af,ar]; omega)) (by first | (simp -implicitDefEqProofs only [TT,Ic.t,ci,reduceEqDiff,reduceIte,reduceAdd,reduceMul,reduceLT,reduceLeDiff,reduceSub,reduceCtorEq,reduceEq,reduceNe,reduceToNat,Int.reduceLT,reduceLE,reduceNeg,hl,c1,k2,fh,c3,k4,g3q6,g4q6,htq6,hcq6,g4q8,htq8,hcq8,k10,k12,c13,f14,f15,av,c16,f17,f18,c19,k20,CL,LTN]; done) | (simp -implicitDefEqProofs only [TT,Ic.t,ci,reduceEqDiff,reduceIte,reduceAdd,reduceMul,reduceLT,reduceLeDiff,reduceSub,reduceCtorEq,reduceEq,reduceNe,reduceToNat,Int.reduceLT,reduceLE,reduceNeg,hl,c1,k2,fh,c3,k4,g3q6,g4q6,htq6,hcq6,g4q8,htq8,hcq8,k10,k12,c13,f14,f15,av,c16,f17,f18,c19,k20,CL,LTN]; rfl)) (by first | assumption | omega | (simp only [aa,ag,af,ar]; omega)) (by first | assumption | omega | (simp only [aa,ag]; omega)) _ ?_
 intro frq22 tkq22 τq22 g6q22 htq22 hcq22
 have hcq22:=cn (n:=τ.next + 3) hcq22 (by first | omega | (simp only [aa,ag]; omega))
 try simp only [List.take_succ_cons,List.take_zero,List.take_nil,CL] at htq22
 try simp -implicitDefEqProofs only [TT,Ic.t,ci,reduceEqDiff,reduceIte,reduceAdd,reduceMul,reduceLT,reduceLeDiff,reduceSub,reduceCtorEq,reduceEq,reduceNe,reduceToNat,Int.reduceLT,reduceLE,reduceNeg,hl,c1,k2,fh,c3,k4,g3q6,g4q6,htq6,hcq6,g4q8,htq8,hcq8,k10,k12,c13,f14,f15,av,c16,f17,f18,c19,k20,CL,LTN] at hcq22
 have f23:(32:Int) * ((1:Nat):Int) ≤ 140737488355328:=by decide
 obtain ⟨c24,h⟩:=ifS h
 have f25:8 ≤ y21.length:=Nat.le_of_eq (Eq.symm c24)
 have f26:List.take 8 (List.map (TV.int .u32) y21) = List.map (TV.int .u32) y21:=zbox c24
 simp -implicitDefEqProofs only [ny,il,TT,Ic.t,ci,reduceEqDiff,reduceIte,reduceAdd,reduceMul,reduceLT,reduceLeDiff,reduceSub,reduceCtorEq,reduceEq,reduceNe,reduceToNat,Int.reduceLT,reduceLE,reduceNeg,hl,c1,k2,fh,c3,k4,g3q6,g4q6,htq6,hcq6,g4q8,htq8,hcq8,k10,k12,c13,f14,f15,av,c16,f17,f18,c19,k20,g6q22,htq22,hcq22,f23,c24,f25,f26,CL,LTN]
 refine qp fun LQz27 hnz27 hrz27 hez27 => ?_
 have f28:(0:Int) < ((8:Nat):Int):=by decide
 obtain ⟨c29,h⟩:=ifS h
 obtain ⟨y30,hy30,h⟩:=ob h
 have f31:=au hy30
 have f31a:=(f31.2.2 (TV.int .u32)).1
 have f31b:=(f31.2.2 (TV.int .u32)).2
 try simp only [CL,MC,reduceToNat] at f31 f31a f31b
 have f32:4 ≤ maxLen:=by unfold maxLen; omega
 obtain ⟨y33,hy33,h⟩:=ob h
 simp -implicitDefEqProofs only [ny,il,TT,Ic.t,ci,reduceEqDiff,reduceIte,reduceAdd,reduceMul,reduceLT,reduceLeDiff,reduceSub,reduceCtorEq,reduceEq,reduceNe,reduceToNat,Int.reduceLT,reduceLE,reduceNeg,hl,c1,k2,fh,c3,k4,g3q6,g4q6,htq6,hcq6,g4q8,htq8,hcq8,k10,k12,c13,f14,f15,av,c16,f17,f18,c19,k20,g6q22,htq22,hcq22,f23,c24,f25,f26,hnz27,hrz27,hez27,f28,c29,f31.1,f31.2.1,f31a,f31b,f32,CL,LTN]
 have Sy33:=zb8y y21 [(IntKind.u8.wrap (Int.fdiv y30 (2 ^ (Nat.min 24 IntKind.u32.bits)))),(IntKind.u8.wrap (Int.fdiv y30 (2 ^ (Nat.min 16 IntKind.u32.bits)))),(IntKind.u8.wrap (Int.fdiv y30 (2 ^ (Nat.min 8 IntKind.u32.bits)))),(IntKind.u8.wrap y30)] (IntKind.i64.wrap ((0:Int) + (1:Int))) y33 hy33
 unfold qj at Sy33
 refine Sy33 _ 4 a9 (by first | rfl | simp [aj]) (by first | exact Or.inl rfl | exact Or.inr rfl | assumption | simp) (by first | assumption | omega | (simp only [aa,ag,af,ar]; omega)) _ ?_
 intro frq34 tkq34 τq34 u0q34 uh0q34 g9q34 htq34 hcq34
 have hcq34:=cn (n:=τ.next + 3) hcq34 (by first | omega | (simp only [aa,ag]; omega))
 try simp only [List.take_succ_cons,List.take_zero,List.take_nil,CL] at htq34
 try simp -implicitDefEqProofs only [TT,Ic.t,ci,reduceEqDiff,reduceIte,reduceAdd,reduceMul,reduceLT,reduceLeDiff,reduceSub,reduceCtorEq,reduceEq,reduceNe,reduceToNat,Int.reduceLT,reduceLE,reduceNeg,hl,c1,k2,fh,c3,k4,g3q6,g4q6,htq6,hcq6,g4q8,htq8,hcq8,k10,k12,c13,f14,f15,av,c16,f17,f18,c19,k20,g6q22,htq22,hcq22,f23,c24,f25,f26,hnz27,hrz27,hez27,f28,c29,f31.1,f31.2.1,f31a,f31b,f32,CL,LTN] at hcq34
 injection h with h; subst h
 simp -implicitDefEqProofs only [ny,il,TT,Ic.t,ci,reduceEqDiff,reduceIte,reduceAdd,reduceMul,reduceLT,reduceLeDiff,reduceSub,reduceCtorEq,reduceEq,reduceNe,reduceToNat,Int.reduceLT,reduceLE,reduceNeg,hl,c1,k2,fh,c3,k4,g3q6,g4q6,htq6,hcq6,g4q8,htq8,hcq8,k10,k12,c13,f14,f15,av,c16,f17,f18,c19,k20,g6q22,htq22,hcq22,f23,c24,f25,f26,hnz27,hrz27,hez27,f28,c29,f31.1,f31.2.1,f31a,f31b,f32,uh0q34,g9q34,htq34,hcq34,CL,LTN]
 exact hK
theorem zbxe (p1:ByteArray) (r:ByteArray) (h:uw p1 = some r) (lk:Bool) (d:Option Nat) (K:ak) (fr:TF) (tk:TK) (τ:TH) (hl:τ.lock ≤ τ.next):d9 G lk sa [.str p1] d K fr tk τ = K (dh fr d (.str r)) tk τ :=
 b9 (zbxf p1 r h τ  hl) (zbxf p1 r h (τ.locked τ.next)  (Nat.le_refl _) ) (by simp -implicitDefEqProofs only [TT,Ic.t,ci,reduceEqDiff,reduceIte,reduceAdd,reduceLT,reduceCtorEq,reduceToNat,hl,CL,LTN])
noncomputable def ub (p1:ByteArray):Option ByteArray :=
 uw p1 >>= fun y1 =>
 if 0 ≤ (8:Int) ∧ (8:Int) ≤ (y1.size:Int) then
  some (y1.extract 0 8)
 else
  none
theorem zbo5 (p1:ByteArray) (r:ByteArray) (h:ub p1 = some r) (τ:TH) (hl:τ.lock ≤ τ.next):Ru G qb [.str p1] τ (.str r) τ:=by
 refine jn fun K hK => ?_
 rw [cb mw (Nat.le_of_ble_eq_true rfl)]
 unfold ub at h
 obtain ⟨y1,hy1,h⟩:=ob h
 have k2:=zbxe p1 _ hy1
 try simp only [CL,MC,reduceToNat] at k2
 obtain ⟨c3,h⟩:=ifS h
 injection h with h; subst h
 simp -implicitDefEqProofs only [oq,TT,Ic.t,ci,reduceEqDiff,reduceIte,reduceAdd,reduceLT,reduceCtorEq,reduceToNat,hl,k2,c3,CL,LTN]
 exact hK
theorem zb72 (p1:ByteArray) (r:ByteArray) (h:ub p1 = some r) (lk:Bool) (d:Option Nat) (K:ak) (fr:TF) (tk:TK) (τ:TH) (hl:τ.lock ≤ τ.next):d9 G lk qb [.str p1] d K fr tk τ = K (dh fr d (.str r)) tk τ :=
 b9 (zbo5 p1 r h τ  hl) (zbo5 p1 r h (τ.locked τ.next)  (Nat.le_refl _) ) (by simp -implicitDefEqProofs only [TT,Ic.t,ci,reduceEqDiff,reduceIte,reduceAdd,reduceLT,reduceCtorEq,reduceToNat,hl,CL,LTN])
noncomputable def mn (p1:ByteArray):Option ByteArray :=
 om p1 >>= fun y1 =>
 ub p1 >>= fun y3 =>
 if ¬ (9223372036854775807 < ((y1.size + y3.size:Nat):Int)) then
  some (y1 ++ y3)
 else
  none
theorem zbx3 (p1:ByteArray) (r:ByteArray) (h:mn p1 = some r) (τ:TH) (hl:τ.lock ≤ τ.next):Ru G nf [.str p1] τ (.str r) τ:=by
 refine jn fun K hK => ?_
 rw [cb za9i (Nat.le_of_ble_eq_true rfl)]
 unfold mn at h
 obtain ⟨y1,hy1,h⟩:=ob h
 have k2:=zb84 p1 _ hy1
 try simp only [CL,MC,reduceToNat] at k2
 obtain ⟨y3,hy3,h⟩:=ob h
 have k4:=zb72 p1 _ hy3
 try simp only [CL,MC,reduceToNat] at k4
 obtain ⟨c5,h⟩:=ifS h
 injection h with h; subst h
 simp -implicitDefEqProofs only [zbat,TT,Ic.t,ci,reduceEqDiff,reduceIte,reduceAdd,reduceLT,reduceCtorEq,reduceToNat,hl,k2,k4,c5,CL,LTN]
 exact hK
theorem ul (p1:ByteArray) (r:ByteArray) (h:mn p1 = some r) (lk:Bool) (d:Option Nat) (K:ak) (fr:TF) (tk:TK) (τ:TH) (hl:τ.lock ≤ τ.next):d9 G lk nf [.str p1] d K fr tk τ = K (dh fr d (.str r)) tk τ :=
 b9 (zbx3 p1 r h τ  hl) (zbx3 p1 r h (τ.locked τ.next)  (Nat.le_refl _) ) (by simp -implicitDefEqProofs only [TT,Ic.t,ci,reduceEqDiff,reduceIte,reduceAdd,reduceLT,reduceCtorEq,reduceToNat,hl,CL,LTN])
noncomputable def zbzs (p1:ByteArray):Option ac :=
 some (⟨p1,false⟩:ac)
theorem zcbj (p1:ByteArray) (r:ac) (h:zbzs p1 = some r) (τ:TH) (hl:τ.lock ≤ τ.next):Ru G qe [.str p1] τ (.ptr τ.next 0) (τ.push ⟨aq,[.str r.s_,.bool r.bad_]⟩):=by
 refine jn fun K hK => ?_
 rw [cb zcex (Nat.le_of_ble_eq_true rfl)]
 unfold zbzs at h
 injection h with h; subst h
 simp -implicitDefEqProofs only [zcel,TT,Ic.t,ci,reduceEqDiff,reduceIte,reduceAdd,reduceMul,reduceLT,reduceLeDiff,reduceSub,reduceCtorEq,reduceEq,reduceNe,reduceToNat,Int.reduceLT,reduceLE,reduceNeg,hl,CL,LTN]
 exact hK
noncomputable def cp (p1:ac):Option ac :=
 some (⟨(⟨#[]⟩:ByteArray),true⟩:ac)
theorem zcdq (p1:ac) (r:ac) (h:cp p1 = some r) (τ:TH) (o0:Nat) (hl:τ.lock ≤ τ.next) (ha0:τ.at o0 = some ⟨aq,[.str p1.s_,.bool p1.bad_]⟩) (hi0:o0 < τ.next) (hw0:τ.lock ≤ o0):Ru G dw [.ptr o0 0] τ (.tup []) (τ.put o0 ⟨aq,[.str r.s_,.bool r.bad_]⟩):=by
 refine jn fun K hK => ?_
 rw [cb zcb8 (Nat.le_of_ble_eq_true rfl)]
 unfold cp at h
 injection h with h; subst h
 simp -implicitDefEqProofs only [zccd,TT,Ic.t,ci,reduceEqDiff,reduceIte,reduceAdd,reduceMul,reduceLT,reduceLeDiff,reduceSub,reduceCtorEq,reduceEq,reduceNe,reduceToNat,Int.reduceLT,reduceLE,reduceNeg,hl,ha0,hi0,hw0,CL,LTN]
 exact hK
theorem ga (p1:ac) (r:ac) (h:cp p1 = some r) (d:Option Nat) (K:ak) (fr:TF) (tk:TK) (τ:TH) (o0:Nat) (hl:τ.lock ≤ τ.next) (ha0:τ.at o0 = some ⟨aq,[.str p1.s_,.bool p1.bad_]⟩) (hi0:o0 < τ.next) (hw0:τ.lock ≤ o0):d9 G false dw [.ptr o0 0] d K fr tk τ = K (dh fr d (.tup [])) tk (τ.put o0 ⟨aq,[.str r.s_,.bool r.bad_]⟩) :=
 iy (zcdq p1 r h τ o0 hl ha0 hi0 hw0) (by simp -implicitDefEqProofs only [TT,Ic.t,ci,reduceEqDiff,reduceIte,reduceAdd,reduceLT,reduceCtorEq,reduceToNat,hl,ha0,hi0,hw0,CL,LTN])
noncomputable def dl (p1:ac) (p2:Int):Option (ByteArray × ac) :=
 if p1.bad_ = true then
  cp p1 >>= fun y2 =>
  some ((⟨#[]⟩:ByteArray),y2)
 else
 if p2 < (0:Int) then
  cp p1 >>= fun y5 =>
  some ((⟨#[]⟩:ByteArray),y5)
 else
 if ((p1.s_.size:Nat):Int) < p2 then
  cp p1 >>= fun y8 =>
  some ((⟨#[]⟩:ByteArray),y8)
 else
 if 0 ≤ p2 ∧ p2 ≤ (p1.s_.size:Int) then
  some ((p1.s_.extract 0 p2.toNat),(⟨(p1.s_.extract p2.toNat p1.s_.size),p1.bad_⟩:ac))
 else
  none
theorem zcdr (p1:ac) (p2:Int) (r:ByteArray × ac) (h:dl p1 p2 = some r) (τ:TH) (o0:Nat) (hl:τ.lock ≤ τ.next) (ha0:τ.at o0 = some ⟨aq,[.str p1.s_,.bool p1.bad_]⟩) (hi0:o0 < τ.next) (hw0:τ.lock ≤ o0):Ru G dv [.ptr o0 0,.int .i64 p2] τ (.str r.1) (τ.put o0 ⟨aq,[.str r.2.s_,.bool r.2.bad_]⟩):=by
 refine jn fun K hK => ?_
 rw [cb zcb9 (Nat.le_of_ble_eq_true rfl)]
 unfold dl at h
 by_cases c1:p1.bad_ = true
 · rw [if_pos c1] at h
   obtain ⟨y2,hy2,h⟩:=ob h
   have k3:=ga p1 _ hy2
   try simp only [CL,MC,reduceToNat] at k3
   injection h with h; subst h
   simp -implicitDefEqProofs only [jy,TT,Ic.t,ci,reduceEqDiff,reduceIte,reduceAdd,reduceMul,reduceLT,reduceLeDiff,reduceSub,reduceCtorEq,reduceEq,reduceNe,reduceToNat,Int.reduceLT,reduceLE,reduceNeg,hl,ha0,hi0,hw0,c1,k3,CL,LTN]
   first | exact hK | (simp only [hl,ha0,hi0,hw0,c1,k3,CL] at hK; exact hK)
 rw [if_neg c1] at h
 have c1:=Bool.eq_false_iff.2 c1
 by_cases c4:p2 < (0:Int)
 · rw [if_pos c4] at h
   obtain ⟨y5,hy5,h⟩:=ob h
   have k6:=ga p1 _ hy5
   try simp only [CL,MC,reduceToNat] at k6
   injection h with h; subst h
   simp -implicitDefEqProofs only [jy,TT,Ic.t,ci,reduceEqDiff,reduceIte,reduceAdd,reduceMul,reduceLT,reduceLeDiff,reduceSub,reduceCtorEq,reduceEq,reduceNe,reduceToNat,Int.reduceLT,reduceLE,reduceNeg,hl,ha0,hi0,hw0,c1,c4,k6,CL,LTN]
   first | exact hK | (simp only [hl,ha0,hi0,hw0,c1,c4,k6,CL] at hK; exact hK)
 rw [if_neg c4] at h
 by_cases c7:((p1.s_.size:Nat):Int) < p2
 · rw [if_pos c7] at h
   obtain ⟨y8,hy8,h⟩:=ob h
   have k9:=ga p1 _ hy8
   try simp only [CL,MC,reduceToNat] at k9
   injection h with h; subst h
   simp -implicitDefEqProofs only [jy,TT,Ic.t,ci,reduceEqDiff,reduceIte,reduceAdd,reduceMul,reduceLT,reduceLeDiff,reduceSub,reduceCtorEq,reduceEq,reduceNe,reduceToNat,Int.reduceLT,reduceLE,reduceNeg,hl,ha0,hi0,hw0,c1,c4,c7,k9,CL,LTN]
   first | exact hK | (simp only [hl,ha0,hi0,hw0,c1,c4,c7,k9,CL] at hK; exact hK)
 rw [if_neg c7] at h
 obtain ⟨c10,h⟩:=ifS h
 injection h with h; subst h
 simp -implicitDefEqProofs only [jy,TT,Ic.t,ci,reduceEqDiff,reduceIte,reduceAdd,reduceMul,reduceLT,reduceLeDiff,reduceSub,reduceCtorEq,reduceEq,reduceNe,reduceToNat,Int.reduceLT,reduceLE,reduceNeg,hl,ha0,hi0,hw0,c1,c4,c7,c10,CL,LTN]
 first | exact hK | (simp only [hl,ha0,hi0,hw0,c1,c4,c7,c10,CL] at hK; exact hK)
theorem ru (p1:ac) (p2:Int) (r:ByteArray × ac) (h:dl p1 p2 = some r) (d:Option Nat) (K:ak) (fr:TF) (tk:TK) (τ:TH) (o0:Nat) (hl:τ.lock ≤ τ.next) (ha0:τ.at o0 = some ⟨aq,[.str p1.s_,.bool p1.bad_]⟩) (hi0:o0 < τ.next) (hw0:τ.lock ≤ o0):d9 G false dv [.ptr o0 0,.int .i64 p2] d K fr tk τ = K (dh fr d (.str r.1)) tk (τ.put o0 ⟨aq,[.str r.2.s_,.bool r.2.bad_]⟩) :=
 iy (zcdr p1 p2 r h τ o0 hl ha0 hi0 hw0) (by simp -implicitDefEqProofs only [TT,Ic.t,ci,reduceEqDiff,reduceIte,reduceAdd,reduceLT,reduceCtorEq,reduceToNat,hl,ha0,hi0,hw0,CL,LTN])
noncomputable def bk (v1:(List Int)) (v2:Int) (v0:Int) (v3:Int):Option (LS (Int × Int) (Int)) :=
 if v3 < v2 then
  ixL v1 v3 >>= fun y2 =>
  some (IntKind.i64.wrap ((BitVec.ofInt IntKind.i64.bits (IntKind.i64.wrap (v0 * 2 ^ (Nat.min 8 IntKind.i64.bits))) ||| BitVec.ofInt IntKind.i64.bits (IntKind.i64.wrap y2)).toNat:Int)) >>= fun x4 =>
  some (.nx (x4,(IntKind.i64.wrap (v3 + (1:Int)))))
 else
 some (.dn v0)
noncomputable def d8 (v1:(List Int)) (v2:Int) (v0:Int) (v3:Int):Option (Int):=lf (fun st => bk v1 v2 st.1 st.2) (v0,v3)
theorem oo (v1:(List Int)) (v2:Int) (v0:Int) (v3:Int):d8 v1 v2 v0 v3 = bk v1 v2 v0 v3 >>= LS.go (fun st => d8 v1 v2 st.1 st.2):=dj (fun st => bk v1 v2 st.1 st.2) (v0,v3)
def gn (v1:(List Int)) (v2:Int) (v0:Int) (v3:Int) (r:Int):Prop:=∀ (τ:TH) (hl:τ.lock ≤ τ.next) (Q:TEx → ak) (hQ0:∀ (fr:TF) (tk2:TK) (τ2:TH),lkp fr 3 = .int .i64 r → tk2.take 0 = [] → τ2.cut τ.next = τ → Q (.exit 0) fr tk2 τ2) ,tW G (.loop [3,8,9,10] ix) Q [(3,.int .i64 v0),(8,.sl (List.map (TV.int .u8) v1)),(9,.int .i64 v2),(10,.int .i64 v3)] [] τ
theorem zcdw (v1:(List Int)) (v2:Int) (v0:Int) (v3:Int) (r:Int) (h:d8 v1 v2 v0 v3 = some r):gn v1 v2 v0 v3 r:=by
 refine ct (f:=fun st => bk v1 v2 st.1 st.2) (P:=fun st r => ∀ (v0:Int) (v3:Int),(v0,v3) = st → gn v1 v2 v0 v3 r) ?_ h v0 v3 rfl
 clear h r v3 v0
 intro st o h r ih v0 v3 hst τ  hl Q hQ0
 subst hst
 have h:bk v1 v2 v0 v3 = some o:=h
 unfold bk at h
 refine qp fun LQ hn hr he => ?_
 by_cases c1:v3 < v2
 · rw [if_pos c1] at h
   obtain ⟨y2,hy2,h⟩:=ob h
   have f3:=au hy2
   have f3a:=(f3.2.2 (TV.int .u8)).1
   have f3b:=(f3.2.2 (TV.int .u8)).2
   try simp only [CL,MC,reduceToNat] at f3 f3a f3b
   obtain ⟨x4,hx4,h⟩:=ob h
   have f5:=Option.some.inj hx4
   injection h with h; subst h
   have ih:=ih x4 (IntKind.i64.wrap (v3 + (1:Int))) rfl
   unfold gn at ih
   simp -implicitDefEqProofs only [ix,kv,TT,Ic.t,ci,reduceEqDiff,reduceIte,reduceAdd,reduceMul,reduceLT,reduceLeDiff,reduceSub,reduceCtorEq,reduceEq,reduceNe,reduceToNat,Int.reduceLT,reduceLE,reduceNeg,hl,c1,f3.1,f3.2.1,f3a,f3b,f5,CL,LTN]
   rw [hn]
   simp -implicitDefEqProofs only [TT,Ic.t,ci,reduceEqDiff,reduceIte,reduceAdd,reduceMul,reduceLT,reduceLeDiff,reduceSub,reduceCtorEq,reduceEq,reduceNe,reduceToNat,Int.reduceLT,reduceLE,reduceNeg,hl,c1,f3.1,f3.2.1,f3a,f3b,f5,CL,LTN]
   exact ih  τ    (by first | assumption | (simp only [aa,af]; assumption)) Q hQ0
 rw [if_neg c1] at h
 injection h with h; subst h
 obtain rfl:_ = r:=ih
 simp -implicitDefEqProofs only [ix,kv,TT,Ic.t,ci,reduceEqDiff,reduceIte,reduceAdd,reduceMul,reduceLT,reduceLeDiff,reduceSub,reduceCtorEq,reduceEq,reduceNe,reduceToNat,Int.reduceLT,reduceLE,reduceNeg,hl,he,hr,c1,CL,LTN]
 exact hQ0  _ _ _  (by first | rfl | (simp -implicitDefEqProofs only [TT,Ic.t,ci,reduceEqDiff,reduceIte,reduceAdd,reduceMul,reduceLT,reduceLeDiff,reduceSub,reduceCtorEq,reduceEq,reduceNe,reduceToNat,Int.reduceLT,reduceLE,reduceNeg,hl,c1,CL,LTN])) (by first | rfl | (simp -implicitDefEqProofs only [TT,Ic.t,ci,reduceEqDiff,reduceIte,reduceAdd,reduceMul,reduceLT,reduceLeDiff,reduceSub,reduceCtorEq,reduceEq,reduceNe,reduceToNat,Int.reduceLT,reduceLE,reduceNeg,hl,c1,CL,LTN])) (by first | exact f0 (Nat.le_refl _) | (simp -implicitDefEqProofs only [TT,Ic.t,ci,reduceEqDiff,reduceIte,reduceAdd,reduceMul,reduceLT,reduceLeDiff,reduceSub,reduceCtorEq,reduceEq,reduceNe,reduceToNat,Int.reduceLT,reduceLE,reduceNeg,hl,c1,CL,LTN]))
noncomputable def gb (p1:ac):Option (Int × ac) :=
 dl p1 (8:Int) >>= fun y1 =>
 d8 (bo y1.1) (((bo y1.1).length:Nat):Int) (0:Int) (0:Int) >>= fun y3 =>
 some (y3,y1.2)
theorem zcc8 (p1:ac) (r:Int × ac) (h:gb p1 = some r) (τ:TH) (o0:Nat) (hl:τ.lock ≤ τ.next) (ha0:τ.at o0 = some ⟨aq,[.str p1.s_,.bool p1.bad_]⟩) (hi0:o0 < τ.next) (hw0:τ.lock ≤ o0):Ru G dg [.ptr o0 0] τ (.int .i64 r.1) (τ.put o0 ⟨aq,[.str r.2.s_,.bool r.2.bad_]⟩):=by
 refine jn fun K hK => ?_
 rw [cb zcbl (Nat.le_of_ble_eq_true rfl)]
 unfold gb at h
 obtain ⟨y1,hy1,h⟩:=ob h
 have k2:=ru p1 (8:Int) _ hy1
 try simp only [CL,MC,reduceToNat] at k2
 obtain ⟨y3,hy3,h⟩:=ob h
 simp -implicitDefEqProofs only [kv,TT,Ic.t,ci,reduceEqDiff,reduceIte,reduceAdd,reduceLT,reduceCtorEq,reduceToNat,hl,ha0,hi0,hw0,k2,CL,LTN]
 have Sy3:=zcdw (bo y1.1) (((bo y1.1).length:Nat):Int) (0:Int) (0:Int) y3 hy3
 unfold gn at Sy3
 refine Sy3 _ (by first | assumption | omega | (simp only [aa,ag,af,ar]; omega)) _ ?_
 intro frq4 tkq4 τq4 g3q4 htq4 hcq4
 have hcq4:=cn (n:=τ.next) hcq4 (by first | omega | (simp only [aa,ag]; omega))
 try simp only [List.take_succ_cons,List.take_zero,List.take_nil,CL] at htq4
 try simp -implicitDefEqProofs only [TT,Ic.t,ci,reduceEqDiff,reduceIte,reduceAdd,reduceLT,reduceCtorEq,reduceToNat,hl,ha0,hi0,hw0,k2,CL,LTN] at hcq4
 injection h with h; subst h
 simp -implicitDefEqProofs only [kv,TT,Ic.t,ci,reduceEqDiff,reduceIte,reduceAdd,reduceLT,reduceCtorEq,reduceToNat,hl,ha0,hi0,hw0,k2,g3q4,htq4,hcq4,CL,LTN]
 exact hK
theorem zcc7 (p1:ac) (r:Int × ac) (h:gb p1 = some r) (d:Option Nat) (K:ak) (fr:TF) (tk:TK) (τ:TH) (o0:Nat) (hl:τ.lock ≤ τ.next) (ha0:τ.at o0 = some ⟨aq,[.str p1.s_,.bool p1.bad_]⟩) (hi0:o0 < τ.next) (hw0:τ.lock ≤ o0):d9 G false dg [.ptr o0 0] d K fr tk τ = K (dh fr d (.int .i64 r.1)) tk (τ.put o0 ⟨aq,[.str r.2.s_,.bool r.2.bad_]⟩) :=
 iy (zcc8 p1 r h τ o0 hl ha0 hi0 hw0) (by simp -implicitDefEqProofs only [TT,Ic.t,ci,reduceEqDiff,reduceIte,reduceAdd,reduceLT,reduceCtorEq,reduceToNat,hl,ha0,hi0,hw0,CL,LTN])
noncomputable def gt (p1:ac) (p2:Int):Option (Int × ac) :=
 gb p1 >>= fun y1 =>
 if y1.1 < (0:Int) then
  cp y1.2 >>= fun y4 =>
  some ((0:Int),y4)
 else
 if p2 < y1.1 then
  cp y1.2 >>= fun y7 =>
  some ((0:Int),y7)
 else
 some (y1.1,y1.2)
theorem zcb2 (p1:ac) (p2:Int) (r:Int × ac) (h:gt p1 p2 = some r) (τ:TH) (o0:Nat) (hl:τ.lock ≤ τ.next) (ha0:τ.at o0 = some ⟨aq,[.str p1.s_,.bool p1.bad_]⟩) (hi0:o0 < τ.next) (hw0:τ.lock ≤ o0):Ru G gu [.ptr o0 0,.func dg [.ptr o0 0] [],.int .i64 p2] τ (.int .i64 r.1) (τ.put o0 ⟨aq,[.str r.2.s_,.bool r.2.bad_]⟩):=by
 refine jn fun K hK => ?_
 rw [cb zcau (Nat.le_of_ble_eq_true rfl)]
 unfold gt at h
 obtain ⟨y1,hy1,h⟩:=ob h
 have k2:=zcc7 p1 _ hy1
 try simp only [CL,MC,reduceToNat] at k2
 by_cases c3:y1.1 < (0:Int)
 · rw [if_pos c3] at h
   obtain ⟨y4,hy4,h⟩:=ob h
   have k5:=ga y1.2 _ hy4
   try simp only [CL,MC,reduceToNat] at k5
   injection h with h; subst h
   simp -implicitDefEqProofs only [pw,TT,Ic.t,ci,reduceEqDiff,reduceIte,reduceAdd,reduceLT,reduceCtorEq,reduceToNat,hl,ha0,hi0,hw0,k2,c3,k5,CL,LTN]
   exact hK
 rw [if_neg c3] at h
 by_cases c6:p2 < y1.1
 · rw [if_pos c6] at h
   obtain ⟨y7,hy7,h⟩:=ob h
   have k8:=ga y1.2 _ hy7
   try simp only [CL,MC,reduceToNat] at k8
   injection h with h; subst h
   simp -implicitDefEqProofs only [pw,TT,Ic.t,ci,reduceEqDiff,reduceIte,reduceAdd,reduceLT,reduceCtorEq,reduceToNat,hl,ha0,hi0,hw0,k2,c3,c6,k8,CL,LTN]
   exact hK
 rw [if_neg c6] at h
 injection h with h; subst h
 simp -implicitDefEqProofs only [pw,TT,Ic.t,ci,reduceEqDiff,reduceIte,reduceAdd,reduceLT,reduceCtorEq,reduceToNat,hl,ha0,hi0,hw0,k2,c3,c6,CL,LTN]
 exact hK
theorem zcb1 (p1:ac) (p2:Int) (r:Int × ac) (h:gt p1 p2 = some r) (d:Option Nat) (K:ak) (fr:TF) (tk:TK) (τ:TH) (o0:Nat) (hl:τ.lock ≤ τ.next) (ha0:τ.at o0 = some ⟨aq,[.str p1.s_,.bool p1.bad_]⟩) (hi0:o0 < τ.next) (hw0:τ.lock ≤ o0):d9 G false gu [.ptr o0 0,.func dg [.ptr o0 0] [],.int .i64 p2] d K fr tk τ = K (dh fr d (.int .i64 r.1)) tk (τ.put o0 ⟨aq,[.str r.2.s_,.bool r.2.bad_]⟩) :=
 iy (zcb2 p1 p2 r h τ o0 hl ha0 hi0 hw0) (by simp -implicitDefEqProofs only [TT,Ic.t,ci,reduceEqDiff,reduceIte,reduceAdd,reduceLT,reduceCtorEq,reduceToNat,hl,ha0,hi0,hw0,CL,LTN])
noncomputable def fa (p1:ac) (p2:Int):Option (Int × ac) :=
 gt p1 p2 >>= fun y1 =>
 some (y1.1,y1.2)
theorem zcdt (p1:ac) (p2:Int) (r:Int × ac) (h:fa p1 p2 = some r) (τ:TH) (o0:Nat) (hl:τ.lock ≤ τ.next) (ha0:τ.at o0 = some ⟨aq,[.str p1.s_,.bool p1.bad_]⟩) (hi0:o0 < τ.next) (hw0:τ.lock ≤ o0):Ru G fb [.ptr o0 0,.int .i64 p2] τ (.int .i64 r.1) (τ.put o0 ⟨aq,[.str r.2.s_,.bool r.2.bad_]⟩):=by
 refine jn fun K hK => ?_
 rw [cb zcc9 (Nat.le_of_ble_eq_true rfl)]
 unfold fa at h
 obtain ⟨y1,hy1,h⟩:=ob h
 have k2:=zcb1 p1 p2 _ hy1
 try simp only [CL,MC,reduceToNat] at k2
 injection h with h; subst h
 simp -implicitDefEqProofs only [zcc5,TT,Ic.t,ci,reduceEqDiff,reduceIte,reduceAdd,reduceLT,reduceCtorEq,reduceToNat,hl,ha0,hi0,hw0,k2,CL,LTN]
 exact hK
theorem zcds (p1:ac) (p2:Int) (r:Int × ac) (h:fa p1 p2 = some r) (d:Option Nat) (K:ak) (fr:TF) (tk:TK) (τ:TH) (o0:Nat) (hl:τ.lock ≤ τ.next) (ha0:τ.at o0 = some ⟨aq,[.str p1.s_,.bool p1.bad_]⟩) (hi0:o0 < τ.next) (hw0:τ.lock ≤ o0):d9 G false fb [.ptr o0 0,.int .i64 p2] d K fr tk τ = K (dh fr d (.int .i64 r.1)) tk (τ.put o0 ⟨aq,[.str r.2.s_,.bool r.2.bad_]⟩) :=
 iy (zcdt p1 p2 r h τ o0 hl ha0 hi0 hw0) (by simp -implicitDefEqProofs only [TT,Ic.t,ci,reduceEqDiff,reduceIte,reduceAdd,reduceLT,reduceCtorEq,reduceToNat,hl,ha0,hi0,hw0,CL,LTN])
noncomputable def gz (p1:ac) (p2:Int):Option (ByteArray × ac) :=
 fa p1 p2 >>= fun y1 =>
 dl y1.2 y1.1 >>= fun y3 =>
 some (y3.1,y3.2)
theorem rv (p1:ac) (p2:Int) (r:ByteArray × ac) (h:gz p1 p2 = some r) (τ:TH) (o0:Nat) (hl:τ.lock ≤ τ.next) (ha0:τ.at o0 = some ⟨aq,[.str p1.s_,.bool p1.bad_]⟩) (hi0:o0 < τ.next) (hw0:τ.lock ≤ o0):Ru G fo [.ptr o0 0,.int .i64 p2] τ (.str r.1) (τ.put o0 ⟨aq,[.str r.2.s_,.bool r.2.bad_]⟩):=by
 refine jn fun K hK => ?_
 rw [cb zcb7 (Nat.le_of_ble_eq_true rfl)]
 unfold gz at h
 obtain ⟨y1,hy1,h⟩:=ob h
 have k2:=zcds p1 p2 _ hy1
 try simp only [CL,MC,reduceToNat] at k2
 obtain ⟨y3,hy3,h⟩:=ob h
 have k4:=ru y1.2 y1.1 _ hy3
 try simp only [CL,MC,reduceToNat] at k4
 injection h with h; subst h
 simp -implicitDefEqProofs only [zccc,TT,Ic.t,ci,reduceEqDiff,reduceIte,reduceAdd,reduceLT,reduceCtorEq,reduceToNat,hl,ha0,hi0,hw0,k2,k4,CL,LTN]
 exact hK
noncomputable def n4 (p1:ac):Option Int :=
 some ((p1.s_.size:Nat):Int)
theorem li (p1:ac) (r:Int) (h:n4 p1 = some r) (τ:TH) (o0:Nat) (hl:τ.lock ≤ τ.next) (ha0:τ.at o0 = some ⟨aq,[.str p1.s_,.bool p1.bad_]⟩) (hi0:o0 < τ.next):Ru G dx [.ptr o0 0] τ (.int .i64 r) τ:=by
 refine jn fun K hK => ?_
 rw [cb zcb6 (Nat.le_of_ble_eq_true rfl)]
 unfold n4 at h
 injection h with h; subst h
 simp -implicitDefEqProofs only [zccb,TT,Ic.t,ci,reduceEqDiff,reduceIte,reduceAdd,reduceLT,reduceCtorEq,reduceToNat,hl,ha0,hi0,CL,LTN]
 exact hK
noncomputable def pg (p1:ac):Option Bool :=
 some p1.bad_
theorem ml (p1:ac) (r:Bool) (h:pg p1 = some r) (τ:TH) (o0:Nat) (hl:τ.lock ≤ τ.next) (ha0:τ.at o0 = some ⟨aq,[.str p1.s_,.bool p1.bad_]⟩) (hi0:o0 < τ.next):Ru G ge [.ptr o0 0] τ (.bool r) τ:=by
 refine jn fun K hK => ?_
 rw [cb zcbk (Nat.le_of_ble_eq_true rfl)]
 unfold pg at h
 injection h with h; subst h
 simp -implicitDefEqProofs only [zca0,TT,Ic.t,ci,reduceEqDiff,reduceIte,reduceAdd,reduceLT,reduceCtorEq,reduceToNat,hl,ha0,hi0,CL,LTN]
 exact hK
open Go Go.RowKit Sh Ic
open Classical in
noncomputable def gr (s:ByteArray):Option ((List ByteArray) × Int):=if (∀ τ,zbbc Try.prog ie [.str s] τ (zbb3 s) τ) then some (zbbj s,(zbio s:Int)) else none
theorem ju (p1:ByteArray) (r:(List ByteArray) × Int) (h:gr p1 = some r) (lk:Bool) (d:Option Nat) (K:ak) (fr:TF) (tk:TK) (τ:TH) (hl:τ.lock ≤ τ.next):d9 G lk ie [.str p1] d K fr tk τ = K (dh fr d (.tup [.sl (List.map TV.str r.1),.int .i64 r.2])) tk τ:=by
 unfold gr at h
 split at h
 · rename_i hc
   injection h with h
   subst h
   have hr:∀ τ,Ru G ie [.str p1] τ (zbb3 p1) τ:=fun τ => zbpj my (if_pos (hc τ))
   exact b9 (hr _) (hr _) (by simp -implicitDefEqProofs only [TT,Ic.t,Ic.ci,Nat.reduceEqDiff,reduceIte,Nat.reduceAdd,Nat.reduceLT,reduceCtorEq,Int.reduceToNat])
 · cases h
end Go.Proofs.Ytgkkienmocpnbaa
open Nat (reduceEqDiff reduceAdd reduceMul reduceLT reduceLeDiff reduceSub)
open Int (reduceToNat reduceNe reduceEq reduceNeg reduceLE)
namespace Go.Proofs.Ytgkkienmocpnbaa
open Go Go.RowKit Sh Ic
noncomputable def bz :Option Bool :=
 mn (⟨#[97]⟩:ByteArray) >>= fun y1 =>
 mn (⟨#[]⟩:ByteArray) >>= fun y3 =>
 if ¬ (9223372036854775807 < ((y1.size + y3.size:Nat):Int)) then
  if ¬ (9223372036854775807 < (((y1 ++ y3).size + (⟨#[120]⟩:ByteArray).size:Nat):Int)) then
   gr ((y1 ++ y3) ++ (⟨#[120]⟩:ByteArray)) >>= fun y7 =>
   gr (⟨#[]⟩:ByteArray) >>= fun y9 =>
   if ((y7.1.length:Nat):Int) = (2:Int) then
    ixL y7.1 (0:Int) >>= fun y12 =>
    if y12 = (⟨#[97]⟩:ByteArray) then
     ixL y7.1 (1:Int) >>= fun y15 =>
     if y15 = (⟨#[]⟩:ByteArray) then
      if y7.2 = (IntKind.i64.wrap (((((y1 ++ y3) ++ (⟨#[120]⟩:ByteArray)).size:Nat):Int) - (1:Int))) then
       if ((y9.1.length:Nat):Int) = (0:Int) then
        some (decide (y9.2 = (0:Int)))
       else
       some false
      else
      some false
     else
     some false
    else
    some false
   else
   some false
  else
   none
 else
  none
theorem zbyv  (r:Bool) (h:bz  = some r) (τ:TH) (hl:τ.lock ≤ τ.next):Ru G fq [] τ (.bool r) τ:=by
 refine jn fun K hK => ?_
 rw [cb zcew (Nat.le_of_ble_eq_true rfl)]
 unfold bz at h
 obtain ⟨y1,hy1,h⟩:=ob h
 have k2:=ul (⟨#[97]⟩:ByteArray) _ hy1
 try simp only [CL,MC,reduceToNat] at k2
 obtain ⟨y3,hy3,h⟩:=ob h
 have k4:=ul (⟨#[]⟩:ByteArray) _ hy3
 try simp only [CL,MC,reduceToNat] at k4
 obtain ⟨c5,h⟩:=ifS h
 obtain ⟨c6,h⟩:=ifS h
 obtain ⟨y7,hy7,h⟩:=ob h
 have k8:=ju ((y1 ++ y3) ++ (⟨#[120]⟩:ByteArray)) _ hy7
 try simp only [CL,MC,reduceToNat] at k8
 obtain ⟨y9,hy9,h⟩:=ob h
 have k10:=ju (⟨#[]⟩:ByteArray) _ hy9
 try simp only [CL,MC,reduceToNat] at k10
 by_cases c11:((y7.1.length:Nat):Int) = (2:Int)
 · rw [if_pos c11] at h
   obtain ⟨y12,hy12,h⟩:=ob h
   have f13:=au hy12
   have f13a:=(f13.2.2 TV.str).1
   have f13b:=(f13.2.2 TV.str).2
   try simp only [CL,MC,reduceToNat] at f13 f13a f13b
   by_cases c14:y12 = (⟨#[97]⟩:ByteArray)
   · rw [if_pos c14] at h
     obtain ⟨y15,hy15,h⟩:=ob h
     have f16:=au hy15
     have f16a:=(f16.2.2 TV.str).1
     have f16b:=(f16.2.2 TV.str).2
     try simp only [CL,MC,reduceToNat] at f16 f16a f16b
     by_cases c17:y15 = (⟨#[]⟩:ByteArray)
     · rw [if_pos c17] at h
       by_cases c18:y7.2 = (IntKind.i64.wrap (((((y1 ++ y3) ++ (⟨#[120]⟩:ByteArray)).size:Nat):Int) - (1:Int)))
       · rw [if_pos c18] at h
         by_cases c19:((y9.1.length:Nat):Int) = (0:Int)
         · rw [if_pos c19] at h
           injection h with h; subst h
           simp -implicitDefEqProofs only [pz,TT,Ic.t,ci,reduceEqDiff,reduceIte,reduceAdd,reduceLT,reduceCtorEq,reduceToNat,hl,k2,k4,c5,c6,k8,k10,eq_true c11,f13.1,f13.2.1,f13a,f13b,eq_true c14,f16.1,f16.2.1,f16a,f16b,eq_true c17,eq_true c18,eq_true c19,CL,LTN]
           exact hK
         rw [if_neg c19] at h
         injection h with h; subst h
         simp -implicitDefEqProofs only [pz,TT,Ic.t,ci,reduceEqDiff,reduceIte,reduceAdd,reduceLT,reduceCtorEq,reduceToNat,hl,k2,k4,c5,c6,k8,k10,eq_true c11,f13.1,f13.2.1,f13a,f13b,eq_true c14,f16.1,f16.2.1,f16a,f16b,eq_true c17,eq_true c18,c19,CL,LTN]
         exact hK
       rw [if_neg c18] at h
       injection h with h; subst h
       simp -implicitDefEqProofs only [pz,TT,Ic.t,ci,reduceEqDiff,reduceIte,reduceAdd,reduceLT,reduceCtorEq,reduceToNat,hl,k2,k4,c5,c6,k8,k10,eq_true c11,f13.1,f13.2.1,f13a,f13b,eq_true c14,f16.1,f16.2.1,f16a,f16b,eq_true c17,c18,CL,LTN]
       exact hK
     rw [if_neg c17] at h
     injection h with h; subst h
     simp -implicitDefEqProofs only [pz,TT,Ic.t,ci,reduceEqDiff,reduceIte,reduceAdd,reduceLT,reduceCtorEq,reduceToNat,hl,k2,k4,c5,c6,k8,k10,eq_true c11,f13.1,f13.2.1,f13a,f13b,eq_true c14,f16.1,f16.2.1,f16a,f16b,c17,CL,LTN]
     exact hK
   rw [if_neg c14] at h
   injection h with h; subst h
   simp -implicitDefEqProofs only [pz,TT,Ic.t,ci,reduceEqDiff,reduceIte,reduceAdd,reduceLT,reduceCtorEq,reduceToNat,hl,k2,k4,c5,c6,k8,k10,eq_true c11,f13.1,f13.2.1,f13a,f13b,c14,CL,LTN]
   exact hK
 rw [if_neg c11] at h
 injection h with h; subst h
 simp -implicitDefEqProofs only [pz,TT,Ic.t,ci,reduceEqDiff,reduceIte,reduceAdd,reduceLT,reduceCtorEq,reduceToNat,hl,k2,k4,c5,c6,k8,k10,c11,CL,LTN]
 exact hK
theorem cq  (r:Bool) (h:bz  = some r) (lk:Bool) (d:Option Nat) (K:ak) (fr:TF) (tk:TK) (τ:TH) (hl:τ.lock ≤ τ.next):d9 G lk fq [] d K fr tk τ = K (dh fr d (.bool r)) tk τ :=
 b9 (zbyv  r h τ  hl) (zbyv  r h (τ.locked τ.next)  (Nat.le_refl _) ) (by simp -implicitDefEqProofs only [TT,Ic.t,ci,reduceEqDiff,reduceIte,reduceAdd,reduceLT,reduceCtorEq,reduceToNat,hl,CL,LTN])
noncomputable def ee (v0:Int) (v1:(List Int)) (v2:Int):Option (LS ((List Int) × Int) ((List Int))) :=
 if v2 < (8:Int) then
  if ¬ (IntKind.u64.wrap (IntKind.i64.wrap ((56:Int) - (IntKind.i64.wrap ((8:Int) * v2))))) < 0 then
   if v1.length ≤ 140737488355327 then
    some (.nx ((v1 ++ [(IntKind.u8.wrap (Int.fdiv v0 (2 ^ (Nat.min (IntKind.u64.wrap (IntKind.i64.wrap ((56:Int) - (IntKind.i64.wrap ((8:Int) * v2))))).toNat IntKind.u64.bits))))]),(IntKind.i64.wrap (v2 + (1:Int)))))
   else
    none
  else
   none
 else
 some (.dn v1)
noncomputable def lq (v0:Int) (v1:(List Int)) (v2:Int):Option ((List Int)):=lf (fun st => ee v0 st.1 st.2) (v1,v2)
theorem zbz2 (v0:Int) (v1:(List Int)) (v2:Int):lq v0 v1 v2 = ee v0 v1 v2 >>= LS.go (fun st => lq v0 st.1 st.2):=dj (fun st => ee v0 st.1 st.2) (v1,v2)
def qo (v0:Int) (v1:(List Int)) (v2:Int) (r:(List Int)):Prop:=∀ (τ:TH) (n0:Nat) (ty0:TypeId) (hnn0:n0 = v1.length) (hty0:n0 = 0 ∨ ty0 = a9) (hl:τ.lock ≤ τ.next) (Q:TEx → ak) (hQ0:∀ (fr:TF) (tk2:TK) (τ2:TH),∀ (u0:TypeId),(r.length = 0 ∨ u0 = a9) → lkp fr 4 = .sla 0 (List.map (TV.int .u8) r) → tk2.take 1 = [some (r.length,u0)] → τ2.cut τ.next = τ → Q (.exit 0) fr tk2 τ2) ,tW G (.loop [3,4,5] zbmh) Q [(3,.int .u64 v0),(4,.sla 0 (List.map (TV.int .u8) v1)),(5,.int .i64 v2)] [some (n0,ty0)] τ
theorem zb8o (v0:Int) (v1:(List Int)) (v2:Int) (r:(List Int)) (h:lq v0 v1 v2 = some r):qo v0 v1 v2 r:=by
 refine ct (f:=fun st => ee v0 st.1 st.2) (P:=fun st r => ∀ (v1:(List Int)) (v2:Int),(v1,v2) = st → qo v0 v1 v2 r) ?_ h v1 v2 rfl
 clear h r v2 v1
 intro st o h r ih v1 v2 hst τ  n0 ty0 hnn0 hty0 hl Q hQ0
 subst hst
 have h:ee v0 v1 v2 = some o:=h
 unfold ee at h
 subst hnn0
 refine qp fun LQ hn hr he => ?_
 by_cases c1:v2 < (8:Int)
 · rw [if_pos c1] at h
   obtain ⟨c2,h⟩:=ifS h
   obtain ⟨c3,h⟩:=ifS h
   have f4:1 ≤ maxLen:=by unfold maxLen; omega
   have f5:v1.length + 1 ≤ maxLen:=by unfold maxLen; omega
   have f6:((List.map (TV.int .u8) v1).all fun e => e.cells.length == 1) = true:=zb6b (fun _ => rfl) _
   have f7:List.map (TV.int .u8) v1 ++ List.map (TV.int .u8) [(IntKind.u8.wrap (Int.fdiv v0 (2 ^ (Nat.min (IntKind.u64.wrap (IntKind.i64.wrap ((56:Int) - (IntKind.i64.wrap ((8:Int) * v2))))).toNat IntKind.u64.bits))))] = List.map (TV.int .u8) (v1 ++ [(IntKind.u8.wrap (Int.fdiv v0 (2 ^ (Nat.min (IntKind.u64.wrap (IntKind.i64.wrap ((56:Int) - (IntKind.i64.wrap ((8:Int) * v2))))).toNat IntKind.u64.bits))))]):=zb6a _ _
   try simp only [CL,List.map_cons,List.map_nil] at f7
   injection h with h; subst h
   have ih:=ih (v1 ++ [(IntKind.u8.wrap (Int.fdiv v0 (2 ^ (Nat.min (IntKind.u64.wrap (IntKind.i64.wrap ((56:Int) - (IntKind.i64.wrap ((8:Int) * v2))))).toNat IntKind.u64.bits))))]) (IntKind.i64.wrap (v2 + (1:Int))) rfl
   unfold qo at ih
   simp -implicitDefEqProofs only [zbmh,zbly,TT,Ic.t,ci,reduceEqDiff,reduceIte,reduceAdd,reduceMul,reduceLT,reduceLeDiff,reduceSub,reduceCtorEq,reduceEq,reduceNe,reduceToNat,Int.reduceLT,reduceLE,reduceNeg,hl,hty0,c1,c2,c3,f4,f5,f6,f7,CL,LTN]
   rw [hn]
   simp -implicitDefEqProofs only [TT,Ic.t,ci,reduceEqDiff,reduceIte,reduceAdd,reduceMul,reduceLT,reduceLeDiff,reduceSub,reduceCtorEq,reduceEq,reduceNe,reduceToNat,Int.reduceLT,reduceLE,reduceNeg,hl,hty0,c1,c2,c3,f4,f5,f6,f7,CL,LTN]
   exact ih  τ   (v1.length + 1) a9 (by first | rfl | simp [aj]) (by first | exact hty0 | exact Or.inr rfl | assumption | simp) (by first | assumption | (simp only [aa,af]; assumption)) Q hQ0
 rw [if_neg c1] at h
 injection h with h; subst h
 obtain rfl:_ = r:=ih
 simp -implicitDefEqProofs only [zbmh,zbly,TT,Ic.t,ci,reduceEqDiff,reduceIte,reduceAdd,reduceMul,reduceLT,reduceLeDiff,reduceSub,reduceCtorEq,reduceEq,reduceNe,reduceToNat,Int.reduceLT,reduceLE,reduceNeg,hl,hty0,he,hr,c1,CL,LTN]
 exact hQ0  _ _ _ ty0 (by first | exact hty0 | exact Or.inr rfl | assumption | simp) (by first | rfl | (simp -implicitDefEqProofs only [TT,Ic.t,ci,reduceEqDiff,reduceIte,reduceAdd,reduceMul,reduceLT,reduceLeDiff,reduceSub,reduceCtorEq,reduceEq,reduceNe,reduceToNat,Int.reduceLT,reduceLE,reduceNeg,hl,hty0,c1,CL,LTN])) (by first | rfl | (simp -implicitDefEqProofs only [TT,Ic.t,ci,reduceEqDiff,reduceIte,reduceAdd,reduceMul,reduceLT,reduceLeDiff,reduceSub,reduceCtorEq,reduceEq,reduceNe,reduceToNat,Int.reduceLT,reduceLE,reduceNeg,hl,hty0,c1,CL,LTN])) (by first | exact f0 (Nat.le_refl _) | (simp -implicitDefEqProofs only [TT,Ic.t,ci,reduceEqDiff,reduceIte,reduceAdd,reduceMul,reduceLT,reduceLeDiff,reduceSub,reduceCtorEq,reduceEq,reduceNe,reduceToNat,Int.reduceLT,reduceLE,reduceNeg,hl,hty0,c1,CL,LTN]))
noncomputable def ms (p1:Int):Option ByteArray :=
 lq (IntKind.u64.wrap p1) [] (0:Int) >>= fun y1 =>
 some (ox y1)
theorem zbwi (p1:Int) (r:ByteArray) (h:ms p1 = some r) (τ:TH) (hl:τ.lock ≤ τ.next):Ru G ng [.int .i64 p1] τ (.str r) τ:=by
 refine jn fun K hK => ?_
 rw [cb za9k (Nat.le_of_ble_eq_true rfl)]
 unfold ms at h
 obtain ⟨y1,hy1,h⟩:=ob h
 simp -implicitDefEqProofs only [zbly,TT,Ic.t,ci,reduceEqDiff,reduceIte,reduceAdd,reduceLT,reduceCtorEq,reduceToNat,hl,CL,LTN]
 have Sy1:=zb8o (IntKind.u64.wrap p1) [] (0:Int) y1 hy1
 unfold qo at Sy1
 refine Sy1 _ 0 0 (by first | rfl | simp [aj]) (by first | exact Or.inl rfl | exact Or.inr rfl | assumption | simp) (by first | assumption | omega | (simp only [aa,ag,af,ar]; omega)) _ ?_
 intro frq2 tkq2 τq2 u0q2 uh0q2 g4q2 htq2 hcq2
 have hcq2:=cn (n:=τ.next) hcq2 (by first | omega | (simp only [aa,ag]; omega))
 try simp only [List.take_succ_cons,List.take_zero,List.take_nil,CL] at htq2
 try simp -implicitDefEqProofs only [TT,Ic.t,ci,reduceEqDiff,reduceIte,reduceAdd,reduceLT,reduceCtorEq,reduceToNat,hl,CL,LTN] at hcq2
 injection h with h; subst h
 simp -implicitDefEqProofs only [zbly,TT,Ic.t,ci,reduceEqDiff,reduceIte,reduceAdd,reduceLT,reduceCtorEq,reduceToNat,hl,uh0q2,g4q2,htq2,hcq2,CL,LTN]
 exact hK
theorem vk (p1:Int) (r:ByteArray) (h:ms p1 = some r) (lk:Bool) (d:Option Nat) (K:ak) (fr:TF) (tk:TK) (τ:TH) (hl:τ.lock ≤ τ.next):d9 G lk ng [.int .i64 p1] d K fr tk τ = K (dh fr d (.str r)) tk τ :=
 b9 (zbwi p1 r h τ  hl) (zbwi p1 r h (τ.locked τ.next)  (Nat.le_refl _) ) (by simp -implicitDefEqProofs only [TT,Ic.t,ci,reduceEqDiff,reduceIte,reduceAdd,reduceLT,reduceCtorEq,reduceToNat,hl,CL,LTN])
open Go Go.RowKit Sh Ic
end Go.Proofs.Ytgkkienmocpnbaa
open Nat (reduceEqDiff reduceAdd reduceMul reduceLT reduceLeDiff reduceSub)
open Int (reduceToNat reduceNe reduceEq reduceNeg reduceLE)
namespace Go.Proofs.Ytgkkienmocpnbaa
open Go Go.RowKit Sh Ic
noncomputable def j8 (p1:Int) (p2:Int):Option Int :=
 if ¬ p2 = 0 then
  if (Int.tmod p1 p2) < (0:Int) then
   some (IntKind.i64.wrap ((Int.tmod p1 p2) + p2))
  else
  some (Int.tmod p1 p2)
 else
  none
theorem zbyu (p1:Int) (p2:Int) (r:Int) (h:j8 p1 p2 = some r) (τ:TH) (hl:τ.lock ≤ τ.next):Ru G j9 [.int .i64 p1,.int .i64 p2] τ (.int .i64 r) τ:=by
 refine jn fun K hK => ?_
 rw [cb zcev (Nat.le_of_ble_eq_true rfl)]
 unfold j8 at h
 obtain ⟨c1,h⟩:=ifS h
 by_cases c2:(Int.tmod p1 p2) < (0:Int)
 · rw [if_pos c2] at h
   injection h with h; subst h
   simp -implicitDefEqProofs only [zbwk,TT,Ic.t,ci,reduceEqDiff,reduceIte,reduceAdd,reduceLT,reduceCtorEq,reduceToNat,hl,c1,c2,CL,LTN]
   exact hK
 rw [if_neg c2] at h
 injection h with h; subst h
 simp -implicitDefEqProofs only [zbwk,TT,Ic.t,ci,reduceEqDiff,reduceIte,reduceAdd,reduceLT,reduceCtorEq,reduceToNat,hl,c1,c2,CL,LTN]
 exact hK
theorem ua (p1:Int) (p2:Int) (r:Int) (h:j8 p1 p2 = some r) (lk:Bool) (d:Option Nat) (K:ak) (fr:TF) (tk:TK) (τ:TH) (hl:τ.lock ≤ τ.next):d9 G lk j9 [.int .i64 p1,.int .i64 p2] d K fr tk τ = K (dh fr d (.int .i64 r)) tk τ :=
 b9 (zbyu p1 p2 r h τ  hl) (zbyu p1 p2 r h (τ.locked τ.next)  (Nat.le_refl _) ) (by simp -implicitDefEqProofs only [TT,Ic.t,ci,reduceEqDiff,reduceIte,reduceAdd,reduceLT,reduceCtorEq,reduceToNat,hl,CL,LTN])
noncomputable def nc (p1:ByteArray) (p2:Int) (p3:Int):Option Bool :=
 if (300:Int) < ((p1.size:Nat):Int) then
  bz >>= fun y2 =>
  some y2
 else
 mn p1 >>= fun y4 =>
 if ((y4.size:Nat):Int) < (16:Int) then
  some false
 else
 ms ((p1.size:Nat):Int) >>= fun y7 =>
 if ¬ (9223372036854775807 < ((y7.size + p1.size:Nat):Int)) then
  uw p1 >>= fun y10 =>
  if 0 ≤ (if ((y10.size:Nat):Int) < (8:Int) then ((y10.size:Nat):Int) else (8:Int)) ∧ (if ((y10.size:Nat):Int) < (8:Int) then ((y10.size:Nat):Int) else (8:Int)) ≤ (y10.size:Int) then
   if ¬ (9223372036854775807 < (((y7 ++ p1).size + (y10.extract 0 ((if ((y10.size:Nat):Int) < (8:Int) then ((y10.size:Nat):Int) else (8:Int)).toNat)).size:Nat):Int)) then
    if y4 = ((y7 ++ p1) ++ (y10.extract 0 ((if ((y10.size:Nat):Int) < (8:Int) then ((y10.size:Nat):Int) else (8:Int)).toNat))) then
     j8 p2 (4:Int) >>= fun y15 =>
     if y15 = (0:Int) then
      if 0 ≤ (8:Int) ∧ (8:Int) ≤ (y4.size:Int) then
       ms (IntKind.i64.wrap ((-1:Int) - ((p1.size:Nat):Int))) >>= fun y19 =>
       if ¬ (9223372036854775807 < ((y19.size + (y4.extract 8 y4.size).size:Nat):Int)) then
        if ¬ (9223372036854775807 < ((y4.size + (y19 ++ (y4.extract 8 y4.size)).size:Nat):Int)) then
         if ¬ (9223372036854775807 < (((y4 ++ (y19 ++ (y4.extract 8 y4.size))).size + y4.size:Nat):Int)) then
          gr ((y4 ++ (y19 ++ (y4.extract 8 y4.size))) ++ y4) >>= fun y24 =>
          if ((y24.1.length:Nat):Int) = (1:Int) then
           ixL y24.1 (0:Int) >>= fun y27 =>
           if y27 = p1 then
            if y24.2 = ((y4.size:Nat):Int) then
             bz >>= fun y31 =>
             some y31
            else
            some false
           else
           some false
          else
          some false
         else
          none
        else
         none
       else
        none
      else
       none
     else
     if y15 = (1:Int) then
      if 0 ≤ (8:Int) ∧ (8:Int) ≤ (y4.size:Int) then
       ms (1099511627776:Int) >>= fun y35 =>
       if ¬ (9223372036854775807 < ((y35.size + (y4.extract 8 y4.size).size:Nat):Int)) then
        if ¬ (9223372036854775807 < ((y4.size + (y35 ++ (y4.extract 8 y4.size)).size:Nat):Int)) then
         if ¬ (9223372036854775807 < (((y4 ++ (y35 ++ (y4.extract 8 y4.size))).size + y4.size:Nat):Int)) then
          gr ((y4 ++ (y35 ++ (y4.extract 8 y4.size))) ++ y4) >>= fun y40 =>
          if ((y40.1.length:Nat):Int) = (1:Int) then
           ixL y40.1 (0:Int) >>= fun y43 =>
           if y43 = p1 then
            if y40.2 = ((y4.size:Nat):Int) then
             bz >>= fun y47 =>
             some y47
            else
            some false
           else
           some false
          else
          some false
         else
          none
        else
         none
       else
        none
      else
       none
     else
     if y15 = (2:Int) then
      j8 p3 (8:Int) >>= fun y50 =>
      if 0 ≤ (IntKind.i64.wrap ((IntKind.i64.wrap (((y4.size:Nat):Int) - (1:Int))) - y50)) ∧ (IntKind.i64.wrap ((IntKind.i64.wrap (((y4.size:Nat):Int) - (1:Int))) - y50)) < (y4.size:Int) then
       ixL (bo y4) (IntKind.i64.wrap ((IntKind.i64.wrap (((y4.size:Nat):Int) - (1:Int))) - y50)) >>= fun y53 =>
       j8 (IntKind.i64.wrap (Int.tdiv p3 (8:Int))) (255:Int) >>= fun y55 =>
       if (IntKind.i64.wrap ((IntKind.i64.wrap (((y4.size:Nat):Int) - (1:Int))) - y50)).toNat + 1 ≤ (bo y4).length then
        if ((bo y4).set (IntKind.i64.wrap ((IntKind.i64.wrap (((y4.size:Nat):Int) - (1:Int))) - y50)).toNat (IntKind.u8.wrap ((BitVec.ofInt IntKind.u8.bits y53 ^^^ BitVec.ofInt IntKind.u8.bits (IntKind.u8.wrap (IntKind.i64.wrap ((1:Int) + y55)))).toNat:Int))).length = y4.size then
         if ¬ (9223372036854775807 < ((y4.size + (ox ((bo y4).set (IntKind.i64.wrap ((IntKind.i64.wrap (((y4.size:Nat):Int) - (1:Int))) - y50)).toNat (IntKind.u8.wrap ((BitVec.ofInt IntKind.u8.bits y53 ^^^ BitVec.ofInt IntKind.u8.bits (IntKind.u8.wrap (IntKind.i64.wrap ((1:Int) + y55)))).toNat:Int)))).size:Nat):Int)) then
          if ¬ (9223372036854775807 < (((y4 ++ (ox ((bo y4).set (IntKind.i64.wrap ((IntKind.i64.wrap (((y4.size:Nat):Int) - (1:Int))) - y50)).toNat (IntKind.u8.wrap ((BitVec.ofInt IntKind.u8.bits y53 ^^^ BitVec.ofInt IntKind.u8.bits (IntKind.u8.wrap (IntKind.i64.wrap ((1:Int) + y55)))).toNat:Int))))).size + y4.size:Nat):Int)) then
           gr ((y4 ++ (ox ((bo y4).set (IntKind.i64.wrap ((IntKind.i64.wrap (((y4.size:Nat):Int) - (1:Int))) - y50)).toNat (IntKind.u8.wrap ((BitVec.ofInt IntKind.u8.bits y53 ^^^ BitVec.ofInt IntKind.u8.bits (IntKind.u8.wrap (IntKind.i64.wrap ((1:Int) + y55)))).toNat:Int))))) ++ y4) >>= fun y64 =>
           if ((y64.1.length:Nat):Int) = (1:Int) then
            ixL y64.1 (0:Int) >>= fun y67 =>
            if y67 = p1 then
             if y64.2 = ((y4.size:Nat):Int) then
              bz >>= fun y71 =>
              some y71
             else
             some false
            else
            some false
           else
           some false
          else
           none
         else
          none
        else
         none
       else
        none
      else
       none
     else
     if 0 ≤ (8:Int) ∧ (8:Int) ≤ (y4.size:Int) then
      ms (IntKind.i64.wrap ((IntKind.i64.wrap (((p1.size:Nat):Int) + (9:Int))) + ((y4.size:Nat):Int))) >>= fun y74 =>
      if ¬ (9223372036854775807 < ((y74.size + (y4.extract 8 y4.size).size:Nat):Int)) then
       if ¬ (9223372036854775807 < ((y4.size + (y74 ++ (y4.extract 8 y4.size)).size:Nat):Int)) then
        if ¬ (9223372036854775807 < (((y4 ++ (y74 ++ (y4.extract 8 y4.size))).size + y4.size:Nat):Int)) then
         gr ((y4 ++ (y74 ++ (y4.extract 8 y4.size))) ++ y4) >>= fun y79 =>
         if ((y79.1.length:Nat):Int) = (1:Int) then
          ixL y79.1 (0:Int) >>= fun y82 =>
          if y82 = p1 then
           if y79.2 = ((y4.size:Nat):Int) then
            bz >>= fun y86 =>
            some y86
           else
           some false
          else
          some false
         else
         some false
        else
         none
       else
        none
      else
       none
     else
      none
    else
    some false
   else
    none
  else
   none
 else
  none
theorem tc (p1:ByteArray) (p2:Int) (p3:Int) (r:Bool) (h:nc p1 p2 p3 = some r) (τ:TH) (hl:τ.lock ≤ τ.next):Ru G km [.str p1,.int .i64 p2,.int .i64 p3] τ (.bool r) τ:=by
 refine jn fun K hK => ?_
 rw [cb zb85 (Nat.le_of_ble_eq_true rfl)]
 unfold nc at h
 by_cases c1:(300:Int) < ((p1.size:Nat):Int)
 · rw [if_pos c1] at h
   obtain ⟨y2,hy2,h⟩:=ob h
   have k3:=cq  _ hy2
   try simp only [CL,MC,reduceToNat] at k3
   injection h with h; subst h
   simp -implicitDefEqProofs only [bc,TT,Ic.t,ci,reduceEqDiff,reduceIte,reduceAdd,reduceMul,reduceLT,reduceLeDiff,reduceSub,reduceCtorEq,reduceEq,reduceNe,reduceToNat,Int.reduceLT,reduceLE,reduceNeg,hl,c1,k3,CL,LTN]
   exact hK
 rw [if_neg c1] at h
 obtain ⟨y4,hy4,h⟩:=ob h
 have k5:=ul p1 _ hy4
 try simp only [CL,MC,reduceToNat] at k5
 by_cases c6:((y4.size:Nat):Int) < (16:Int)
 · rw [if_pos c6] at h
   injection h with h; subst h
   simp -implicitDefEqProofs only [bc,TT,Ic.t,ci,reduceEqDiff,reduceIte,reduceAdd,reduceMul,reduceLT,reduceLeDiff,reduceSub,reduceCtorEq,reduceEq,reduceNe,reduceToNat,Int.reduceLT,reduceLE,reduceNeg,hl,c1,k5,c6,CL,LTN]
   exact hK
 rw [if_neg c6] at h
 obtain ⟨y7,hy7,h⟩:=ob h
 have k8:=vk ((p1.size:Nat):Int) _ hy7
 try simp only [CL,MC,reduceToNat] at k8
 obtain ⟨c9,h⟩:=ifS h
 obtain ⟨y10,hy10,h⟩:=ob h
 have k11:=zbxe p1 _ hy10
 try simp only [CL,MC,reduceToNat] at k11
 obtain ⟨c12,h⟩:=ifS h
 obtain ⟨c13,h⟩:=ifS h
 by_cases c14:y4 = ((y7 ++ p1) ++ (y10.extract 0 ((if ((y10.size:Nat):Int) < (8:Int) then ((y10.size:Nat):Int) else (8:Int)).toNat)))
 · rw [if_pos c14] at h
   obtain ⟨y15,hy15,h⟩:=ob h
   have k16:=ua p2 (4:Int) _ hy15
   try simp only [CL,MC,reduceToNat] at k16
   by_cases c17:y15 = (0:Int)
   · rw [if_pos c17] at h
     obtain ⟨c18,h⟩:=ifS h
     obtain ⟨y19,hy19,h⟩:=ob h
     have k20:=vk (IntKind.i64.wrap ((-1:Int) - ((p1.size:Nat):Int))) _ hy19
     try simp only [CL,MC,reduceToNat] at k20
     obtain ⟨c21,h⟩:=ifS h
     obtain ⟨c22,h⟩:=ifS h
     obtain ⟨c23,h⟩:=ifS h
     obtain ⟨y24,hy24,h⟩:=ob h
     have k25:=ju ((y4 ++ (y19 ++ (y4.extract 8 y4.size))) ++ y4) _ hy24
     try simp only [CL,MC,reduceToNat] at k25
     by_cases c26:((y24.1.length:Nat):Int) = (1:Int)
     · rw [if_pos c26] at h
       obtain ⟨y27,hy27,h⟩:=ob h
       have f28:=au hy27
       have f28a:=(f28.2.2 TV.str).1
       have f28b:=(f28.2.2 TV.str).2
       try simp only [CL,MC,reduceToNat] at f28 f28a f28b
       by_cases c29:y27 = p1
       · rw [if_pos c29] at h
         by_cases c30:y24.2 = ((y4.size:Nat):Int)
         · rw [if_pos c30] at h
           obtain ⟨y31,hy31,h⟩:=ob h
           have k32:=cq  _ hy31
           try simp only [CL,MC,reduceToNat] at k32
           injection h with h; subst h
           simp -implicitDefEqProofs only [bc,TT,Ic.t,ci,reduceEqDiff,reduceIte,reduceAdd,reduceMul,reduceLT,reduceLeDiff,reduceSub,reduceCtorEq,reduceEq,reduceNe,reduceToNat,Int.reduceLT,reduceLE,reduceNeg,hl,c1,k5,c6,k8,c9,k11,c12,c13,eq_true c14,k16,eq_true c17,c18,k20,c21,c22,c23,k25,eq_true c26,f28.1,f28.2.1,f28a,f28b,eq_true c29,eq_true c30,k32,CL,LTN]
           exact hK
         rw [if_neg c30] at h
         injection h with h; subst h
         simp -implicitDefEqProofs only [bc,TT,Ic.t,ci,reduceEqDiff,reduceIte,reduceAdd,reduceMul,reduceLT,reduceLeDiff,reduceSub,reduceCtorEq,reduceEq,reduceNe,reduceToNat,Int.reduceLT,reduceLE,reduceNeg,hl,c1,k5,c6,k8,c9,k11,c12,c13,eq_true c14,k16,eq_true c17,c18,k20,c21,c22,c23,k25,eq_true c26,f28.1,f28.2.1,f28a,f28b,eq_true c29,c30,CL,LTN]
         exact hK
       rw [if_neg c29] at h
       injection h with h; subst h
       simp -implicitDefEqProofs only [bc,TT,Ic.t,ci,reduceEqDiff,reduceIte,reduceAdd,reduceMul,reduceLT,reduceLeDiff,reduceSub,reduceCtorEq,reduceEq,reduceNe,reduceToNat,Int.reduceLT,reduceLE,reduceNeg,hl,c1,k5,c6,k8,c9,k11,c12,c13,eq_true c14,k16,eq_true c17,c18,k20,c21,c22,c23,k25,eq_true c26,f28.1,f28.2.1,f28a,f28b,c29,CL,LTN]
       exact hK
     rw [if_neg c26] at h
     injection h with h; subst h
     simp -implicitDefEqProofs only [bc,TT,Ic.t,ci,reduceEqDiff,reduceIte,reduceAdd,reduceMul,reduceLT,reduceLeDiff,reduceSub,reduceCtorEq,reduceEq,reduceNe,reduceToNat,Int.reduceLT,reduceLE,reduceNeg,hl,c1,k5,c6,k8,c9,k11,c12,c13,eq_true c14,k16,eq_true c17,c18,k20,c21,c22,c23,k25,c26,CL,LTN]
     exact hK
   rw [if_neg c17] at h
   by_cases c33:y15 = (1:Int)
   · rw [if_pos c33] at h
     obtain ⟨c34,h⟩:=ifS h
     obtain ⟨y35,hy35,h⟩:=ob h
     have k36:=vk (1099511627776:Int) _ hy35
     try simp only [CL,MC,reduceToNat] at k36
     obtain ⟨c37,h⟩:=ifS h
     obtain ⟨c38,h⟩:=ifS h
     obtain ⟨c39,h⟩:=ifS h
     obtain ⟨y40,hy40,h⟩:=ob h
     have k41:=ju ((y4 ++ (y35 ++ (y4.extract 8 y4.size))) ++ y4) _ hy40
     try simp only [CL,MC,reduceToNat] at k41
     by_cases c42:((y40.1.length:Nat):Int) = (1:Int)
     · rw [if_pos c42] at h
       obtain ⟨y43,hy43,h⟩:=ob h
       have f44:=au hy43
       have f44a:=(f44.2.2 TV.str).1
       have f44b:=(f44.2.2 TV.str).2
       try simp only [CL,MC,reduceToNat] at f44 f44a f44b
       by_cases c45:y43 = p1
       · rw [if_pos c45] at h
         by_cases c46:y40.2 = ((y4.size:Nat):Int)
         · rw [if_pos c46] at h
           obtain ⟨y47,hy47,h⟩:=ob h
           have k48:=cq  _ hy47
           try simp only [CL,MC,reduceToNat] at k48
           injection h with h; subst h
           simp -implicitDefEqProofs only [bc,TT,Ic.t,ci,reduceEqDiff,reduceIte,reduceAdd,reduceMul,reduceLT,reduceLeDiff,reduceSub,reduceCtorEq,reduceEq,reduceNe,reduceToNat,Int.reduceLT,reduceLE,reduceNeg,hl,c1,k5,c6,k8,c9,k11,c12,c13,eq_true c14,k16,c17,eq_true c33,c34,k36,c37,c38,c39,k41,eq_true c42,f44.1,f44.2.1,f44a,f44b,eq_true c45,eq_true c46,k48,CL,LTN]
           exact hK
         rw [if_neg c46] at h
         injection h with h; subst h
         simp -implicitDefEqProofs only [bc,TT,Ic.t,ci,reduceEqDiff,reduceIte,reduceAdd,reduceMul,reduceLT,reduceLeDiff,reduceSub,reduceCtorEq,reduceEq,reduceNe,reduceToNat,Int.reduceLT,reduceLE,reduceNeg,hl,c1,k5,c6,k8,c9,k11,c12,c13,eq_true c14,k16,c17,eq_true c33,c34,k36,c37,c38,c39,k41,eq_true c42,f44.1,f44.2.1,f44a,f44b,eq_true c45,c46,CL,LTN]
         exact hK
       rw [if_neg c45] at h
       injection h with h; subst h
       simp -implicitDefEqProofs only [bc,TT,Ic.t,ci,reduceEqDiff,reduceIte,reduceAdd,reduceMul,reduceLT,reduceLeDiff,reduceSub,reduceCtorEq,reduceEq,reduceNe,reduceToNat,Int.reduceLT,reduceLE,reduceNeg,hl,c1,k5,c6,k8,c9,k11,c12,c13,eq_true c14,k16,c17,eq_true c33,c34,k36,c37,c38,c39,k41,eq_true c42,f44.1,f44.2.1,f44a,f44b,c45,CL,LTN]
       exact hK
     rw [if_neg c42] at h
     injection h with h; subst h
     simp -implicitDefEqProofs only [bc,TT,Ic.t,ci,reduceEqDiff,reduceIte,reduceAdd,reduceMul,reduceLT,reduceLeDiff,reduceSub,reduceCtorEq,reduceEq,reduceNe,reduceToNat,Int.reduceLT,reduceLE,reduceNeg,hl,c1,k5,c6,k8,c9,k11,c12,c13,eq_true c14,k16,c17,eq_true c33,c34,k36,c37,c38,c39,k41,c42,CL,LTN]
     exact hK
   rw [if_neg c33] at h
   by_cases c49:y15 = (2:Int)
   · rw [if_pos c49] at h
     obtain ⟨y50,hy50,h⟩:=ob h
     have k51:=ua p3 (8:Int) _ hy50
     try simp only [CL,MC,reduceToNat] at k51
     obtain ⟨c52,h⟩:=ifS h
     obtain ⟨y53,hy53,h⟩:=ob h
     have f54:=au hy53
     have f54a:=(f54.2.2 (TV.int .u8)).1
     have f54b:=(f54.2.2 (TV.int .u8)).2
     try simp only [CL,MC,reduceToNat] at f54 f54a f54b
     obtain ⟨y55,hy55,h⟩:=ob h
     have k56:=ua (IntKind.i64.wrap (Int.tdiv p3 (8:Int))) (255:Int) _ hy55
     try simp only [CL,MC,reduceToNat] at k56
     obtain ⟨c57,h⟩:=ifS h
     have f58:(List.map (TV.int .u8) (bo y4)).set (IntKind.i64.wrap ((IntKind.i64.wrap (((y4.size:Nat):Int) - (1:Int))) - y50)).toNat (.int .u8 (IntKind.u8.wrap ((BitVec.ofInt IntKind.u8.bits y53 ^^^ BitVec.ofInt IntKind.u8.bits (IntKind.u8.wrap (IntKind.i64.wrap ((1:Int) + y55)))).toNat:Int))) = List.map (TV.int .u8) ((bo y4).set (IntKind.i64.wrap ((IntKind.i64.wrap (((y4.size:Nat):Int) - (1:Int))) - y50)).toNat (IntKind.u8.wrap ((BitVec.ofInt IntKind.u8.bits y53 ^^^ BitVec.ofInt IntKind.u8.bits (IntKind.u8.wrap (IntKind.i64.wrap ((1:Int) + y55)))).toNat:Int))):=zbj4 (enc:=(TV.int .u8)) _ _ _
     obtain ⟨c59,h⟩:=ifS h
     have f60:y4.size ≤ ((bo y4).set (IntKind.i64.wrap ((IntKind.i64.wrap (((y4.size:Nat):Int) - (1:Int))) - y50)).toNat (IntKind.u8.wrap ((BitVec.ofInt IntKind.u8.bits y53 ^^^ BitVec.ofInt IntKind.u8.bits (IntKind.u8.wrap (IntKind.i64.wrap ((1:Int) + y55)))).toNat:Int))).length:=Nat.le_of_eq (Eq.symm c59)
     have f61:List.take y4.size (List.map (TV.int .u8) ((bo y4).set (IntKind.i64.wrap ((IntKind.i64.wrap (((y4.size:Nat):Int) - (1:Int))) - y50)).toNat (IntKind.u8.wrap ((BitVec.ofInt IntKind.u8.bits y53 ^^^ BitVec.ofInt IntKind.u8.bits (IntKind.u8.wrap (IntKind.i64.wrap ((1:Int) + y55)))).toNat:Int)))) = List.map (TV.int .u8) ((bo y4).set (IntKind.i64.wrap ((IntKind.i64.wrap (((y4.size:Nat):Int) - (1:Int))) - y50)).toNat (IntKind.u8.wrap ((BitVec.ofInt IntKind.u8.bits y53 ^^^ BitVec.ofInt IntKind.u8.bits (IntKind.u8.wrap (IntKind.i64.wrap ((1:Int) + y55)))).toNat:Int))):=zbox c59
     obtain ⟨c62,h⟩:=ifS h
     obtain ⟨c63,h⟩:=ifS h
     obtain ⟨y64,hy64,h⟩:=ob h
     have k65:=ju ((y4 ++ (ox ((bo y4).set (IntKind.i64.wrap ((IntKind.i64.wrap (((y4.size:Nat):Int) - (1:Int))) - y50)).toNat (IntKind.u8.wrap ((BitVec.ofInt IntKind.u8.bits y53 ^^^ BitVec.ofInt IntKind.u8.bits (IntKind.u8.wrap (IntKind.i64.wrap ((1:Int) + y55)))).toNat:Int))))) ++ y4) _ hy64
     try simp only [CL,MC,reduceToNat] at k65
     by_cases c66:((y64.1.length:Nat):Int) = (1:Int)
     · rw [if_pos c66] at h
       obtain ⟨y67,hy67,h⟩:=ob h
       have f68:=au hy67
       have f68a:=(f68.2.2 TV.str).1
       have f68b:=(f68.2.2 TV.str).2
       try simp only [CL,MC,reduceToNat] at f68 f68a f68b
       by_cases c69:y67 = p1
       · rw [if_pos c69] at h
         by_cases c70:y64.2 = ((y4.size:Nat):Int)
         · rw [if_pos c70] at h
           obtain ⟨y71,hy71,h⟩:=ob h
           have k72:=cq  _ hy71
           try simp only [CL,MC,reduceToNat] at k72
           injection h with h; subst h
           simp -implicitDefEqProofs only [bc,TT,Ic.t,ci,reduceEqDiff,reduceIte,reduceAdd,reduceMul,reduceLT,reduceLeDiff,reduceSub,reduceCtorEq,reduceEq,reduceNe,reduceToNat,Int.reduceLT,reduceLE,reduceNeg,hl,c1,k5,c6,k8,c9,k11,c12,c13,eq_true c14,k16,c17,c33,eq_true c49,k51,c52,f54.1,f54.2.1,f54a,f54b,k56,c57,f58,eq_true c59,f60,f61,c62,c63,k65,eq_true c66,f68.1,f68.2.1,f68a,f68b,eq_true c69,eq_true c70,k72,CL,LTN]
           exact hK
         rw [if_neg c70] at h
         injection h with h; subst h
         simp -implicitDefEqProofs only [bc,TT,Ic.t,ci,reduceEqDiff,reduceIte,reduceAdd,reduceMul,reduceLT,reduceLeDiff,reduceSub,reduceCtorEq,reduceEq,reduceNe,reduceToNat,Int.reduceLT,reduceLE,reduceNeg,hl,c1,k5,c6,k8,c9,k11,c12,c13,eq_true c14,k16,c17,c33,eq_true c49,k51,c52,f54.1,f54.2.1,f54a,f54b,k56,c57,f58,eq_true c59,f60,f61,c62,c63,k65,eq_true c66,f68.1,f68.2.1,f68a,f68b,eq_true c69,c70,CL,LTN]
         exact hK
       rw [if_neg c69] at h
       injection h with h; subst h
       simp -implicitDefEqProofs only [bc,TT,Ic.t,ci,reduceEqDiff,reduceIte,reduceAdd,reduceMul,reduceLT,reduceLeDiff,reduceSub,reduceCtorEq,reduceEq,reduceNe,reduceToNat,Int.reduceLT,reduceLE,reduceNeg,hl,c1,k5,c6,k8,c9,k11,c12,c13,eq_true c14,k16,c17,c33,eq_true c49,k51,c52,f54.1,f54.2.1,f54a,f54b,k56,c57,f58,eq_true c59,f60,f61,c62,c63,k65,eq_true c66,f68.1,f68.2.1,f68a,f68b,c69,CL,LTN]
       exact hK
     rw [if_neg c66] at h
     injection h with h; subst h
     simp -implicitDefEqProofs only [bc,TT,Ic.t,ci,reduceEqDiff,reduceIte,reduceAdd,reduceMul,reduceLT,reduceLeDiff,reduceSub,reduceCtorEq,reduceEq,reduceNe,reduceToNat,Int.reduceLT,reduceLE,reduceNeg,hl,c1,k5,c6,k8,c9,k11,c12,c13,eq_true c14,k16,c17,c33,eq_true c49,k51,c52,f54.1,f54.2.1,f54a,f54b,k56,c57,f58,eq_true c59,f60,f61,c62,c63,k65,c66,CL,LTN]
     exact hK
   rw [if_neg c49] at h
   obtain ⟨c73,h⟩:=ifS h
   obtain ⟨y74,hy74,h⟩:=ob h
   have k75:=vk (IntKind.i64.wrap ((IntKind.i64.wrap (((p1.size:Nat):Int) + (9:Int))) + ((y4.size:Nat):Int))) _ hy74
   try simp only [CL,MC,reduceToNat] at k75
   obtain ⟨c76,h⟩:=ifS h
   obtain ⟨c77,h⟩:=ifS h
   obtain ⟨c78,h⟩:=ifS h
   obtain ⟨y79,hy79,h⟩:=ob h
   have k80:=ju ((y4 ++ (y74 ++ (y4.extract 8 y4.size))) ++ y4) _ hy79
   try simp only [CL,MC,reduceToNat] at k80
   by_cases c81:((y79.1.length:Nat):Int) = (1:Int)
   · rw [if_pos c81] at h
     obtain ⟨y82,hy82,h⟩:=ob h
     have f83:=au hy82
     have f83a:=(f83.2.2 TV.str).1
     have f83b:=(f83.2.2 TV.str).2
     try simp only [CL,MC,reduceToNat] at f83 f83a f83b
     by_cases c84:y82 = p1
     · rw [if_pos c84] at h
       by_cases c85:y79.2 = ((y4.size:Nat):Int)
       · rw [if_pos c85] at h
         obtain ⟨y86,hy86,h⟩:=ob h
         have k87:=cq  _ hy86
         try simp only [CL,MC,reduceToNat] at k87
         injection h with h; subst h
         simp -implicitDefEqProofs only [bc,TT,Ic.t,ci,reduceEqDiff,reduceIte,reduceAdd,reduceMul,reduceLT,reduceLeDiff,reduceSub,reduceCtorEq,reduceEq,reduceNe,reduceToNat,Int.reduceLT,reduceLE,reduceNeg,hl,c1,k5,c6,k8,c9,k11,c12,c13,eq_true c14,k16,c17,c33,c49,c73,k75,c76,c77,c78,k80,eq_true c81,f83.1,f83.2.1,f83a,f83b,eq_true c84,eq_true c85,k87,CL,LTN]
         exact hK
       rw [if_neg c85] at h
       injection h with h; subst h
       simp -implicitDefEqProofs only [bc,TT,Ic.t,ci,reduceEqDiff,reduceIte,reduceAdd,reduceMul,reduceLT,reduceLeDiff,reduceSub,reduceCtorEq,reduceEq,reduceNe,reduceToNat,Int.reduceLT,reduceLE,reduceNeg,hl,c1,k5,c6,k8,c9,k11,c12,c13,eq_true c14,k16,c17,c33,c49,c73,k75,c76,c77,c78,k80,eq_true c81,f83.1,f83.2.1,f83a,f83b,eq_true c84,c85,CL,LTN]
       exact hK
     rw [if_neg c84] at h
     injection h with h; subst h
     simp -implicitDefEqProofs only [bc,TT,Ic.t,ci,reduceEqDiff,reduceIte,reduceAdd,reduceMul,reduceLT,reduceLeDiff,reduceSub,reduceCtorEq,reduceEq,reduceNe,reduceToNat,Int.reduceLT,reduceLE,reduceNeg,hl,c1,k5,c6,k8,c9,k11,c12,c13,eq_true c14,k16,c17,c33,c49,c73,k75,c76,c77,c78,k80,eq_true c81,f83.1,f83.2.1,f83a,f83b,c84,CL,LTN]
     exact hK
   rw [if_neg c81] at h
   injection h with h; subst h
   simp -implicitDefEqProofs only [bc,TT,Ic.t,ci,reduceEqDiff,reduceIte,reduceAdd,reduceMul,reduceLT,reduceLeDiff,reduceSub,reduceCtorEq,reduceEq,reduceNe,reduceToNat,Int.reduceLT,reduceLE,reduceNeg,hl,c1,k5,c6,k8,c9,k11,c12,c13,eq_true c14,k16,c17,c33,c49,c73,k75,c76,c77,c78,k80,c81,CL,LTN]
   exact hK
 rw [if_neg c14] at h
 injection h with h; subst h
 simp -implicitDefEqProofs only [bc,TT,Ic.t,ci,reduceEqDiff,reduceIte,reduceAdd,reduceMul,reduceLT,reduceLeDiff,reduceSub,reduceCtorEq,reduceEq,reduceNe,reduceToNat,Int.reduceLT,reduceLE,reduceNeg,hl,c1,k5,c6,k8,c9,k11,c12,c13,c14,CL,LTN]
 exact hK
end Go.Proofs.Ytgkkienmocpnbaa

