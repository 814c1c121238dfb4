import Derived.Test.YtgkkienmocpnbaaD1
set_option linter.unusedVariables false
set_option linter.unusedSimpArgs false
set_option linter.unusedSectionVars false
open Nat (reduceEqDiff reduceAdd reduceMul reduceLT reduceLeDiff reduceSub)
open Int (reduceToNat reduceNe reduceEq reduceNeg reduceLE)
namespace Go.Proofs.Ytgkkienmocpnbaa
open Go Go.RowKit Sh Ic
noncomputable def uw (p1:ByteArray):Option ByteArray :=
 if p1.size ≤ 140737488355328 then
  if p1.size + (⟨#[128]⟩:ByteArray).size ≤ 140737488355328 then
   qx (IntKind.u64.wrap ((IntKind.u64.wrap ((p1.size:Nat):Int)) * (8:Int))) (p1 ++ (⟨#[128]⟩:ByteArray)) >>= fun y5 =>
   qw (IntKind.u64.wrap ((IntKind.u64.wrap ((p1.size:Nat):Int)) * (8:Int))) y5 (0:Int) >>= fun y7 =>
   uv >>= fun y9 =>
   lc >>= fun y11 =>
   if y9.length = 8 then
    if y11.length = 64 then
     if y7.size ≤ 140737488355328 then
      qv y11 y9 y7 >>= fun y21 =>
      if y21.length = 8 then
       if 8 ≤ y21.length then
        ixL y21 (0:Int) >>= fun y30 =>
        qu y21 [(IntKind.u8.wrap (Int.fdiv y30 (2 ^ (Nat.min 24 IntKind.u32.bits)))),(IntKind.u8.wrap (Int.fdiv y30 (2 ^ (Nat.min 16 IntKind.u32.bits)))),(IntKind.u8.wrap (Int.fdiv y30 (2 ^ (Nat.min 8 IntKind.u32.bits)))),(IntKind.u8.wrap y30)] (IntKind.i64.wrap ((0:Int) + (1:Int))) >>= fun y33 =>
        some (ox y33)
       else
        none
      else
       none
     else
      none
    else
     none
   else
    none
  else
   none
 else
  none
theorem zbxn (p1:ByteArray) (r:ByteArray) (h:uw p1 = some r) (τ:TH) (hl:τ.lock ≤ τ.next):Ru G sa [.str p1] τ (.str r) τ:=by
 refine jn fun K hK => ?_
 rw [cb za94 (Nat.le_of_ble_eq_true rfl)]
 unfold uw at h
 obtain ⟨c1,h⟩:=ifS h
 have k2:=fun (id:Nat) (d:Option Nat) (K:ak) (fr:TF) (tk:TK) (τ:TH) (ha:τ.at id = some (eh id false ⟨#[]⟩)) (hi:id < τ.next) (hw:τ.lock ≤ id) (hl:τ.lock ≤ τ.next) => zb8u id d K fr tk τ ha hi hw hl p1 c1
 obtain ⟨c3,h⟩:=ifS h
 have k4:=fun (id:Nat) (d:Option Nat) (K:ak) (fr:TF) (tk:TK) (τ:TH) (ha:τ.at id = some (eh id true p1)) (hi:id < τ.next) (hw:τ.lock ≤ id) (hl:τ.lock ≤ τ.next) => zby5 p1 id true d K fr tk τ ha hi hw hl (by first | exact .inl rfl | assumption) (⟨#[128]⟩:ByteArray) c3
 obtain ⟨y5,hy5,h⟩:=ob h
 simp -implicitDefEqProofs only [il,TT,Ic.t,ci,reduceEqDiff,reduceIte,reduceAdd,reduceMul,reduceLT,reduceLeDiff,reduceSub,reduceCtorEq,reduceEq,reduceNe,reduceToNat,Int.reduceLT,reduceLE,reduceNeg,hl,c1,k2,fh,c3,k4,CL,LTN]
 have Sy5:=zb8p (IntKind.u64.wrap ((IntKind.u64.wrap ((p1.size:Nat):Int)) * (8:Int))) (p1 ++ (⟨#[128]⟩:ByteArray)) y5 hy5
 unfold qm at Sy5
 refine Sy5 _ τ.next (by first | assumption | omega | (simp only [aa,ag,af,ar]; omega)) true (by first | exact .inl rfl | exact .inr rfl | assumption) (by simp -implicitDefEqProofs only [TT,Ic.t,ci,reduceEqDiff,reduceIte,reduceAdd,reduceMul,reduceLT,reduceLeDiff,reduceSub,reduceCtorEq,reduceEq,reduceNe,reduceToNat,Int.reduceLT,reduceLE,reduceNeg,hl,c1,k2,fh,c3,k4,CL,LTN]) (by first | assumption | omega | (simp only [aa,ag,af,ar]; omega)) (by first | assumption | omega | (simp only [aa,ag,af,ar]; omega)) _ ?_
 intro frq6 tkq6 τq6 ubz6_0 huubz6_0 g3q6 g4q6 htq6 hcq6
 have hcq6:=cn (n:=τ.next + 1) hcq6 (by first | omega | (simp only [aa,ag]; omega))
 try simp only [List.take_succ_cons,List.take_zero,List.take_nil,CL] at htq6
 try simp -implicitDefEqProofs only [TT,Ic.t,ci,reduceEqDiff,reduceIte,reduceAdd,reduceMul,reduceLT,reduceLeDiff,reduceSub,reduceCtorEq,reduceEq,reduceNe,reduceToNat,Int.reduceLT,reduceLE,reduceNeg,hl,c1,k2,fh,c3,k4,CL,LTN] at hcq6
 obtain ⟨y7,hy7,h⟩:=ob h
 simp -implicitDefEqProofs only [il,TT,Ic.t,ci,reduceEqDiff,reduceIte,reduceAdd,reduceMul,reduceLT,reduceLeDiff,reduceSub,reduceCtorEq,reduceEq,reduceNe,reduceToNat,Int.reduceLT,reduceLE,reduceNeg,hl,c1,k2,fh,c3,k4,g3q6,g4q6,htq6,hcq6,CL,LTN]
 have Sy7:=zb8q (IntKind.u64.wrap ((IntKind.u64.wrap ((p1.size:Nat):Int)) * (8:Int))) y5 (0:Int) y7 hy7
 unfold ql at Sy7
 refine Sy7 _ τ.next (by first | assumption | omega | (simp only [aa,ag,af,ar]; omega)) ubz6_0 (by first | exact .inl rfl | exact .inr rfl | assumption) (by simp -implicitDefEqProofs only [TT,Ic.t,ci,reduceEqDiff,reduceIte,reduceAdd,reduceMul,reduceLT,reduceLeDiff,reduceSub,reduceCtorEq,reduceEq,reduceNe,reduceToNat,Int.reduceLT,reduceLE,reduceNeg,hl,c1,k2,fh,c3,k4,g3q6,g4q6,htq6,hcq6,CL,LTN]) (by first | assumption | omega | (simp only [aa,ag,af,ar]; omega)) (by first | assumption | omega | (simp only [aa,ag,af,ar]; omega)) _ ?_
 intro frq8 tkq8 τq8 ubz8_0 huubz8_0 g4q8 htq8 hcq8
 have hcq8:=cn (n:=τ.next + 1) hcq8 (by first | omega | (simp only [aa,ag]; omega))
 try simp only [List.take_succ_cons,List.take_zero,List.take_nil,CL] at htq8
 try simp -implicitDefEqProofs only [TT,Ic.t,ci,reduceEqDiff,reduceIte,reduceAdd,reduceMul,reduceLT,reduceLeDiff,reduceSub,reduceCtorEq,reduceEq,reduceNe,reduceToNat,Int.reduceLT,reduceLE,reduceNeg,hl,c1,k2,fh,c3,k4,g3q6,g4q6,htq6,hcq6,CL,LTN] at hcq8
 obtain ⟨y9,hy9,h⟩:=ob h
 have k10:=zb8e  _ hy9
 try simp only [CL,MC,reduceToNat] at k10
 obtain ⟨y11,hy11,h⟩:=ob h
 have k12:=zca9  _ hy11
 try simp only [CL,MC,reduceToNat] at k12
 obtain ⟨c13,h⟩:=ifS h
 have f14:(List.map (TV.int .u32) y9 = []) = False:=zbvo c13 (by decide)
 have f15:y9.length ≤ 8:=Nat.le_of_eq c13
 obtain ⟨c16,h⟩:=ifS h
 have f17:(List.map (TV.int .u32) y11 = []) = False:=zbvo c16 (by decide)
 have f18:y11.length ≤ 64:=Nat.le_of_eq c16
 obtain ⟨c19,h⟩:=ifS h
 have k20:=fun (id:Nat) (d:Option Nat) (K:ak) (fr:TF) (tk:TK) (τ:TH) (ha:τ.at id = some (eh id ubz8_0 y7)) (hi:id < τ.next) (hw:τ.lock ≤ id) (hl:τ.lock ≤ τ.next) => zce9 y7 id ubz8_0 d K fr tk τ ha hi hw hl (by first | exact .inl rfl | assumption) c19
 obtain ⟨y21,hy21,h⟩:=ob h
 simp -implicitDefEqProofs only [il,TT,Ic.t,ci,reduceEqDiff,reduceIte,reduceAdd,reduceMul,reduceLT,reduceLeDiff,reduceSub,reduceCtorEq,reduceEq,reduceNe,reduceToNat,Int.reduceLT,reduceLE,reduceNeg,hl,c1,k2,fh,c3,k4,g3q6,g4q6,htq6,hcq6,g4q8,htq8,hcq8,k10,k12,c13,f14,f15,av,c16,f17,f18,c19,k20,CL,LTN]
 have Sy21:=zb8r y11 y9 y7 y21 hy21
 unfold qk at Sy21
 refine Sy21 _ (τ.next + 1) (τ.next + 2) (by first | assumption | omega | (simp only [aa,ag,af,ar]; omega)) (by first | (simp -implicitDefEqProofs only [TT,Ic.t,ci,reduceEqDiff,reduceIte,reduceAdd,reduceMul,reduceLT,reduceLeDiff,reduceSub,reduceCtorEq,reduceEq,reduceNe,reduceToNat,Int.reduceLT,reduceLE,reduceNeg,hl,c1,k2,fh,c3,k4,g3q6,g4q6,htq6,hcq6,g4q8,htq8,hcq8,k10,k12,c13,f14,f15,av,c16,f17,f18,c19,k20,CL,LTN]; done) | (simp -implicitDefEqProofs only [TT,Ic.t,ci,reduceEqDiff,reduceIte,reduceAdd,reduceMul,reduceLT,reduceLeDiff,reduceSub,reduceCtorEq,reduceEq,reduceNe,reduceToNat,Int.reduceLT,reduceLE,reduceNeg,hl,c1,k2,fh,c3,k4,g3q6,g4q6,htq6,hcq6,g4q8,htq8,hcq8,k10,k12,c13,f14,f15,av,c16,f17,f18,c19,k20,CL,LTN]; rfl)) (by first | assumption | omega | (simp only [aa,ag,af,ar]; omega)) (by first | assumption | omega | (simp only [aa,ag,af,ar]; omega)) (by first | (simp -implicitDefEqProofs only [TT,Ic.t,ci,reduceEqDiff,reduceIte,reduceAdd,reduceMul,reduceLT,reduceLeDiff,reduceSub,reduceCtorEq,reduceEq,reduceNe,reduceToNat,Int.reduceLT,reduceLE,reduceNeg,hl,c1,k2,fh,c3,k4,g3q6,g4q6,htq6,hcq6,g4q8,htq8,hcq8,k10,k12,c13,f14,f15,av,c16,f17,f18,c19,k20,CL,LTN]; done) | (simp -implicitDefEqProofs only [TT,Ic.t,ci,reduceEqDiff,reduceIte,reduceAdd,reduceMul,reduceLT,reduceLeDiff,reduceSub,reduceCtorEq,reduceEq,reduceNe,reduceToNat,Int.reduceLT,reduceLE,reduceNeg,hl,c1,k2,fh,c3,k4,g3q6,g4q6,htq6,hcq6,g4q8,htq8,hcq8,k10,k12,c13,f14,f15,av,c16,f17,f18,c19,k20,CL,LTN]; rfl)) (by first | assumption | omega | (simp only [aa,ag,af,ar]; omega)) (by first | assumption | omega | (simp only [aa,ag]; omega)) _ ?_
 intro frq22 tkq22 τq22 g6q22 htq22 hcq22
 have hcq22:=cn (n:=τ.next + 3) hcq22 (by first | omega | (simp only [aa,ag]; omega))
 try simp only [List.take_succ_cons,List.take_zero,List.take_nil,CL] at htq22
 try simp -implicitDefEqProofs only [TT,Ic.t,ci,reduceEqDiff,reduceIte,reduceAdd,reduceMul,reduceLT,reduceLeDiff,reduceSub,reduceCtorEq,reduceEq,reduceNe,reduceToNat,Int.reduceLT,reduceLE,reduceNeg,hl,c1,k2,fh,c3,k4,g3q6,g4q6,htq6,hcq6,g4q8,htq8,hcq8,k10,k12,c13,f14,f15,av,c16,f17,f18,c19,k20,CL,LTN] at hcq22
 have f23:(32:Int) * ((1:Nat):Int) ≤ 140737488355328:=by decide
 obtain ⟨c24,h⟩:=ifS h
 have f25:8 ≤ y21.length:=Nat.le_of_eq (Eq.symm c24)
 have f26:List.take 8 (List.map (TV.int .u32) y21) = List.map (TV.int .u32) y21:=zb0c c24
 simp -implicitDefEqProofs only [ny,il,TT,Ic.t,ci,reduceEqDiff,reduceIte,reduceAdd,reduceMul,reduceLT,reduceLeDiff,reduceSub,reduceCtorEq,reduceEq,reduceNe,reduceToNat,Int.reduceLT,reduceLE,reduceNeg,hl,c1,k2,fh,c3,k4,g3q6,g4q6,htq6,hcq6,g4q8,htq8,hcq8,k10,k12,c13,f14,f15,av,c16,f17,f18,c19,k20,g6q22,htq22,hcq22,f23,c24,f25,f26,CL,LTN]
 refine qp fun LQz27 hnz27 hrz27 hez27 => ?_
 have f28:(0:Int) < ((8:Nat):Int):=by decide
 obtain ⟨c29,h⟩:=ifS h
 obtain ⟨y30,hy30,h⟩:=ob h
 have f31:=au hy30
 have f31a:=(f31.2.2 (TV.int .u32)).1
 have f31b:=(f31.2.2 (TV.int .u32)).2
 try simp only [CL,MC,reduceToNat] at f31 f31a f31b
 have f32:4 ≤ maxLen:=by unfold maxLen; omega
 obtain ⟨y33,hy33,h⟩:=ob h
 simp -implicitDefEqProofs only [ny,il,TT,Ic.t,ci,reduceEqDiff,reduceIte,reduceAdd,reduceMul,reduceLT,reduceLeDiff,reduceSub,reduceCtorEq,reduceEq,reduceNe,reduceToNat,Int.reduceLT,reduceLE,reduceNeg,hl,c1,k2,fh,c3,k4,g3q6,g4q6,htq6,hcq6,g4q8,htq8,hcq8,k10,k12,c13,f14,f15,av,c16,f17,f18,c19,k20,g6q22,htq22,hcq22,f23,c24,f25,f26,hnz27,hrz27,hez27,f28,c29,f31.1,f31.2.1,f31a,f31b,f32,CL,LTN]
 have Sy33:=zb8s y21 [(IntKind.u8.wrap (Int.fdiv y30 (2 ^ (Nat.min 24 IntKind.u32.bits)))),(IntKind.u8.wrap (Int.fdiv y30 (2 ^ (Nat.min 16 IntKind.u32.bits)))),(IntKind.u8.wrap (Int.fdiv y30 (2 ^ (Nat.min 8 IntKind.u32.bits)))),(IntKind.u8.wrap y30)] (IntKind.i64.wrap ((0:Int) + (1:Int))) y33 hy33
 unfold qj at Sy33
 refine Sy33 _ 4 a9 (by first | rfl | simp [aj]) (by first | exact Or.inl rfl | exact Or.inr rfl | assumption | simp) (by first | assumption | omega | (simp only [aa,ag,af,ar]; omega)) _ ?_
 intro frq34 tkq34 τq34 u0q34 uh0q34 g9q34 htq34 hcq34
 have hcq34:=cn (n:=τ.next + 3) hcq34 (by first | omega | (simp only [aa,ag]; omega))
 try simp only [List.take_succ_cons,List.take_zero,List.take_nil,CL] at htq34
 try simp -implicitDefEqProofs only [TT,Ic.t,ci,reduceEqDiff,reduceIte,reduceAdd,reduceMul,reduceLT,reduceLeDiff,reduceSub,reduceCtorEq,reduceEq,reduceNe,reduceToNat,Int.reduceLT,reduceLE,reduceNeg,hl,c1,k2,fh,c3,k4,g3q6,g4q6,htq6,hcq6,g4q8,htq8,hcq8,k10,k12,c13,f14,f15,av,c16,f17,f18,c19,k20,g6q22,htq22,hcq22,f23,c24,f25,f26,hnz27,hrz27,hez27,f28,c29,f31.1,f31.2.1,f31a,f31b,f32,CL,LTN] at hcq34
 injection h with h; subst h
 simp -implicitDefEqProofs only [ny,il,TT,Ic.t,ci,reduceEqDiff,reduceIte,reduceAdd,reduceMul,reduceLT,reduceLeDiff,reduceSub,reduceCtorEq,reduceEq,reduceNe,reduceToNat,Int.reduceLT,reduceLE,reduceNeg,hl,c1,k2,fh,c3,k4,g3q6,g4q6,htq6,hcq6,g4q8,htq8,hcq8,k10,k12,c13,f14,f15,av,c16,f17,f18,c19,k20,g6q22,htq22,hcq22,f23,c24,f25,f26,hnz27,hrz27,hez27,f28,c29,f31.1,f31.2.1,f31a,f31b,f32,uh0q34,g9q34,htq34,hcq34,CL,LTN]
 exact hK
theorem zb9x (p1:ByteArray) (r:ByteArray) (h:uw p1 = some r) (lk:Bool) (d:Option Nat) (K:ak) (fr:TF) (tk:TK) (τ:TH) (hl:τ.lock ≤ τ.next):d9 G lk sa [.str p1] d K fr tk τ = K (dh fr d (.str r)) tk τ :=
 b9 (zbxn p1 r h τ  hl) (zbxn p1 r h (τ.locked τ.next)  (Nat.le_refl _) ) (by simp -implicitDefEqProofs only [TT,Ic.t,ci,reduceEqDiff,reduceIte,reduceAdd,reduceLT,reduceCtorEq,reduceToNat,hl,CL,LTN])
noncomputable def ub (p1:ByteArray):Option ByteArray :=
 uw p1 >>= fun y1 =>
 if 0 ≤ (8:Int) ∧ (8:Int) ≤ (y1.size:Int) then
  some (y1.extract 0 8)
 else
  none
theorem zbph (p1:ByteArray) (r:ByteArray) (h:ub p1 = some r) (τ:TH) (hl:τ.lock ≤ τ.next):Ru G qb [.str p1] τ (.str r) τ:=by
 refine jn fun K hK => ?_
 rw [cb nn (Nat.le_of_ble_eq_true rfl)]
 unfold ub at h
 obtain ⟨y1,hy1,h⟩:=ob h
 have k2:=zb9x p1 _ hy1
 try simp only [CL,MC,reduceToNat] at k2
 obtain ⟨c3,h⟩:=ifS h
 injection h with h; subst h
 simp -implicitDefEqProofs only [rz,TT,Ic.t,ci,reduceEqDiff,reduceIte,reduceAdd,reduceLT,reduceCtorEq,reduceToNat,hl,k2,c3,CL,LTN]
 exact hK
theorem zb7w (p1:ByteArray) (r:ByteArray) (h:ub p1 = some r) (lk:Bool) (d:Option Nat) (K:ak) (fr:TF) (tk:TK) (τ:TH) (hl:τ.lock ≤ τ.next):d9 G lk qb [.str p1] d K fr tk τ = K (dh fr d (.str r)) tk τ :=
 b9 (zbph p1 r h τ  hl) (zbph p1 r h (τ.locked τ.next)  (Nat.le_refl _) ) (by simp -implicitDefEqProofs only [TT,Ic.t,ci,reduceEqDiff,reduceIte,reduceAdd,reduceLT,reduceCtorEq,reduceToNat,hl,CL,LTN])
noncomputable def mn (p1:ByteArray):Option ByteArray :=
 om p1 >>= fun y1 =>
 ub p1 >>= fun y3 =>
 if ¬ (9223372036854775807 < ((y1.size + y3.size:Nat):Int)) then
  some (y1 ++ y3)
 else
  none
theorem zbya (p1:ByteArray) (r:ByteArray) (h:mn p1 = some r) (τ:TH) (hl:τ.lock ≤ τ.next):Ru G nf [.str p1] τ (.str r) τ:=by
 refine jn fun K hK => ?_
 rw [cb za93 (Nat.le_of_ble_eq_true rfl)]
 unfold mn at h
 obtain ⟨y1,hy1,h⟩:=ob h
 have k2:=zb8y p1 _ hy1
 try simp only [CL,MC,reduceToNat] at k2
 obtain ⟨y3,hy3,h⟩:=ob h
 have k4:=zb7w p1 _ hy3
 try simp only [CL,MC,reduceToNat] at k4
 obtain ⟨c5,h⟩:=ifS h
 injection h with h; subst h
 simp -implicitDefEqProofs only [zbbd,TT,Ic.t,ci,reduceEqDiff,reduceIte,reduceAdd,reduceLT,reduceCtorEq,reduceToNat,hl,k2,k4,c5,CL,LTN]
 exact hK
theorem ul (p1:ByteArray) (r:ByteArray) (h:mn p1 = some r) (lk:Bool) (d:Option Nat) (K:ak) (fr:TF) (tk:TK) (τ:TH) (hl:τ.lock ≤ τ.next):d9 G lk nf [.str p1] d K fr tk τ = K (dh fr d (.str r)) tk τ :=
 b9 (zbya p1 r h τ  hl) (zbya p1 r h (τ.locked τ.next)  (Nat.le_refl _) ) (by simp -implicitDefEqProofs only [TT,Ic.t,ci,reduceEqDiff,reduceIte,reduceAdd,reduceLT,reduceCtorEq,reduceToNat,hl,CL,LTN])
noncomputable def zbz2 (p1:ByteArray):Option ac :=
 some (⟨p1,false⟩:ac)
theorem zcbp (p1:ByteArray) (r:ac) (h:zbz2 p1 = some r) (τ:TH) (hl:τ.lock ≤ τ.next):Ru G qe [.str p1] τ (.ptr τ.next 0) (τ.push ⟨aq,[.str r.s_,.bool r.bad_]⟩):=by
 refine jn fun K hK => ?_
 rw [cb zcfp (Nat.le_of_ble_eq_true rfl)]
 unfold zbz2 at h
 injection h with h; subst h
 simp -implicitDefEqProofs only [zcfd,TT,Ic.t,ci,reduceEqDiff,reduceIte,reduceAdd,reduceMul,reduceLT,reduceLeDiff,reduceSub,reduceCtorEq,reduceEq,reduceNe,reduceToNat,Int.reduceLT,reduceLE,reduceNeg,hl,CL,LTN]
 exact hK
noncomputable def cp (p1:ac):Option ac :=
 some (⟨(⟨#[]⟩:ByteArray),true⟩:ac)
theorem zcdz (p1:ac) (r:ac) (h:cp p1 = some r) (τ:TH) (o0:Nat) (hl:τ.lock ≤ τ.next) (ha0:τ.at o0 = some ⟨aq,[.str p1.s_,.bool p1.bad_]⟩) (hi0:o0 < τ.next) (hw0:τ.lock ≤ o0):Ru G dw [.ptr o0 0] τ (.tup []) (τ.put o0 ⟨aq,[.str r.s_,.bool r.bad_]⟩):=by
 refine jn fun K hK => ?_
 rw [cb zccf (Nat.le_of_ble_eq_true rfl)]
 unfold cp at h
 injection h with h; subst h
 simp -implicitDefEqProofs only [zcck,TT,Ic.t,ci,reduceEqDiff,reduceIte,reduceAdd,reduceMul,reduceLT,reduceLeDiff,reduceSub,reduceCtorEq,reduceEq,reduceNe,reduceToNat,Int.reduceLT,reduceLE,reduceNeg,hl,ha0,hi0,hw0,CL,LTN]
 exact hK
theorem ga (p1:ac) (r:ac) (h:cp p1 = some r) (d:Option Nat) (K:ak) (fr:TF) (tk:TK) (τ:TH) (o0:Nat) (hl:τ.lock ≤ τ.next) (ha0:τ.at o0 = some ⟨aq,[.str p1.s_,.bool p1.bad_]⟩) (hi0:o0 < τ.next) (hw0:τ.lock ≤ o0):d9 G false dw [.ptr o0 0] d K fr tk τ = K (dh fr d (.tup [])) tk (τ.put o0 ⟨aq,[.str r.s_,.bool r.bad_]⟩) :=
 iy (zcdz p1 r h τ o0 hl ha0 hi0 hw0) (by simp -implicitDefEqProofs only [TT,Ic.t,ci,reduceEqDiff,reduceIte,reduceAdd,reduceLT,reduceCtorEq,reduceToNat,hl,ha0,hi0,hw0,CL,LTN])
noncomputable def dl (p1:ac) (p2:Int):Option (ByteArray × ac) :=
 if p1.bad_ = true then
  cp p1 >>= fun y2 =>
  some ((⟨#[]⟩:ByteArray),y2)
 else
 if p2 < (0:Int) then
  cp p1 >>= fun y5 =>
  some ((⟨#[]⟩:ByteArray),y5)
 else
 if ((p1.s_.size:Nat):Int) < p2 then
  cp p1 >>= fun y8 =>
  some ((⟨#[]⟩:ByteArray),y8)
 else
 if 0 ≤ p2 ∧ p2 ≤ (p1.s_.size:Int) then
  some ((p1.s_.extract 0 p2.toNat),(⟨(p1.s_.extract p2.toNat p1.s_.size),p1.bad_⟩:ac))
 else
  none
theorem zcd0 (p1:ac) (p2:Int) (r:ByteArray × ac) (h:dl p1 p2 = some r) (τ:TH) (o0:Nat) (hl:τ.lock ≤ τ.next) (ha0:τ.at o0 = some ⟨aq,[.str p1.s_,.bool p1.bad_]⟩) (hi0:o0 < τ.next) (hw0:τ.lock ≤ o0):Ru G dv [.ptr o0 0,.int .i64 p2] τ (.str r.1) (τ.put o0 ⟨aq,[.str r.2.s_,.bool r.2.bad_]⟩):=by
 refine jn fun K hK => ?_
 rw [cb zccg (Nat.le_of_ble_eq_true rfl)]
 unfold dl at h
 by_cases c1:p1.bad_ = true
 · rw [if_pos c1] at h
   obtain ⟨y2,hy2,h⟩:=ob h
   have k3:=ga p1 _ hy2
   try simp only [CL,MC,reduceToNat] at k3
   injection h with h; subst h
   simp -implicitDefEqProofs only [jy,TT,Ic.t,ci,reduceEqDiff,reduceIte,reduceAdd,reduceMul,reduceLT,reduceLeDiff,reduceSub,reduceCtorEq,reduceEq,reduceNe,reduceToNat,Int.reduceLT,reduceLE,reduceNeg,hl,ha0,hi0,hw0,c1,k3,CL,LTN]
   first | exact hK | (simp only [hl,ha0,hi0,hw0,c1,k3,CL] at hK; exact hK)
 rw [if_neg c1] at h
 have c1:=Bool.eq_false_iff.2 c1
 by_cases c4:p2 < (0:Int)
 · rw [if_pos c4] at h
   obtain ⟨y5,hy5,h⟩:=ob h
   have k6:=ga p1 _ hy5
   try simp only [CL,MC,reduceToNat] at k6
   injection h with h; subst h
   simp -implicitDefEqProofs only [jy,TT,Ic.t,ci,reduceEqDiff,reduceIte,reduceAdd,reduceMul,reduceLT,reduceLeDiff,reduceSub,reduceCtorEq,reduceEq,reduceNe,reduceToNat,Int.reduceLT,reduceLE,reduceNeg,hl,ha0,hi0,hw0,c1,c4,k6,CL,LTN]
   first | exact hK | (simp only [hl,ha0,hi0,hw0,c1,c4,k6,CL] at hK; exact hK)
 rw [if_neg c4] at h
 by_cases c7:((p1.s_.size:Nat):Int) < p2
 · rw [if_pos c7] at h
   obtain ⟨y8,hy8,h⟩:=ob h
   have k9:=ga p1 _ hy8
   try simp only [CL,MC,reduceToNat] at k9
   injection h with h; subst h
   simp -implicitDefEqProofs only [jy,TT,Ic.t,ci,reduceEqDiff,reduceIte,reduceAdd,reduceMul,reduceLT,reduceLeDiff,reduceSub,reduceCtorEq,reduceEq,reduceNe,reduceToNat,Int.reduceLT,reduceLE,reduceNeg,hl,ha0,hi0,hw0,c1,c4,c7,k9,CL,LTN]
   first | exact hK | (simp only [hl,ha0,hi0,hw0,c1,c4,c7,k9,CL] at hK; exact hK)
 rw [if_neg c7] at h
 obtain ⟨c10,h⟩:=ifS h
 injection h with h; subst h
 simp -implicitDefEqProofs only [jy,TT,Ic.t,ci,reduceEqDiff,reduceIte,reduceAdd,reduceMul,reduceLT,reduceLeDiff,reduceSub,reduceCtorEq,reduceEq,reduceNe,reduceToNat,Int.reduceLT,reduceLE,reduceNeg,hl,ha0,hi0,hw0,c1,c4,c7,c10,CL,LTN]
 first | exact hK | (simp only [hl,ha0,hi0,hw0,c1,c4,c7,c10,CL] at hK; exact hK)
theorem ru (p1:ac) (p2:Int) (r:ByteArray × ac) (h:dl p1 p2 = some r) (d:Option Nat) (K:ak) (fr:TF) (tk:TK) (τ:TH) (o0:Nat) (hl:τ.lock ≤ τ.next) (ha0:τ.at o0 = some ⟨aq,[.str p1.s_,.bool p1.bad_]⟩) (hi0:o0 < τ.next) (hw0:τ.lock ≤ o0):d9 G false dv [.ptr o0 0,.int .i64 p2] d K fr tk τ = K (dh fr d (.str r.1)) tk (τ.put o0 ⟨aq,[.str r.2.s_,.bool r.2.bad_]⟩) :=
 iy (zcd0 p1 p2 r h τ o0 hl ha0 hi0 hw0) (by simp -implicitDefEqProofs only [TT,Ic.t,ci,reduceEqDiff,reduceIte,reduceAdd,reduceLT,reduceCtorEq,reduceToNat,hl,ha0,hi0,hw0,CL,LTN])
noncomputable def bk (v1:(List Int)) (v2:Int) (v0:Int) (v3:Int):Option (LS (Int × Int) (Int)) :=
 if v3 < v2 then
  ixL v1 v3 >>= fun y2 =>
  some (IntKind.i64.wrap ((BitVec.ofInt IntKind.i64.bits (IntKind.i64.wrap (v0 * 2 ^ (Nat.min 8 IntKind.i64.bits))) ||| BitVec.ofInt IntKind.i64.bits (IntKind.i64.wrap y2)).toNat:Int)) >>= fun x4 =>
  some (.nx (x4,(IntKind.i64.wrap (v3 + (1:Int)))))
 else
 some (.dn v0)
noncomputable def d8 (v1:(List Int)) (v2:Int) (v0:Int) (v3:Int):Option (Int):=lf (fun st => bk v1 v2 st.1 st.2) (v0,v3)
theorem oo (v1:(List Int)) (v2:Int) (v0:Int) (v3:Int):d8 v1 v2 v0 v3 = bk v1 v2 v0 v3 >>= LS.go (fun st => d8 v1 v2 st.1 st.2):=dj (fun st => bk v1 v2 st.1 st.2) (v0,v3)
def gn (v1:(List Int)) (v2:Int) (v0:Int) (v3:Int) (r:Int):Prop:=∀ (τ:TH) (hl:τ.lock ≤ τ.next) (Q:TEx → ak) (hQ0:∀ (fr:TF) (tk2:TK) (τ2:TH),lkp fr 3 = .int .i64 r → tk2.take 0 = [] → τ2.cut τ.next = τ → Q (.exit 0) fr tk2 τ2) ,tW G (.loop [3,8,9,10] ix) Q [(3,.int .i64 v0),(8,.sl (List.map (TV.int .u8) v1)),(9,.int .i64 v2),(10,.int .i64 v3)] [] τ
theorem zcef (v1:(List Int)) (v2:Int) (v0:Int) (v3:Int) (r:Int) (h:d8 v1 v2 v0 v3 = some r):gn v1 v2 v0 v3 r:=by
 refine ct (f:=fun st => bk v1 v2 st.1 st.2) (P:=fun st r => ∀ (v0:Int) (v3:Int),(v0,v3) = st → gn v1 v2 v0 v3 r) ?_ h v0 v3 rfl
 clear h r v3 v0
 intro st o h r ih v0 v3 hst τ  hl Q hQ0
 subst hst
 have h:bk v1 v2 v0 v3 = some o:=h
 unfold bk at h
 refine qp fun LQ hn hr he => ?_
 by_cases c1:v3 < v2
 · rw [if_pos c1] at h
   obtain ⟨y2,hy2,h⟩:=ob h
   have f3:=au hy2
   have f3a:=(f3.2.2 (TV.int .u8)).1
   have f3b:=(f3.2.2 (TV.int .u8)).2
   try simp only [CL,MC,reduceToNat] at f3 f3a f3b
   obtain ⟨x4,hx4,h⟩:=ob h
   have f5:=Option.some.inj hx4
   injection h with h; subst h
   have ih:=ih x4 (IntKind.i64.wrap (v3 + (1:Int))) rfl
   unfold gn at ih
   simp -implicitDefEqProofs only [ix,kv,TT,Ic.t,ci,reduceEqDiff,reduceIte,reduceAdd,reduceMul,reduceLT,reduceLeDiff,reduceSub,reduceCtorEq,reduceEq,reduceNe,reduceToNat,Int.reduceLT,reduceLE,reduceNeg,hl,c1,f3.1,f3.2.1,f3a,f3b,f5,CL,LTN]
   rw [hn]
   simp -implicitDefEqProofs only [TT,Ic.t,ci,reduceEqDiff,reduceIte,reduceAdd,reduceMul,reduceLT,reduceLeDiff,reduceSub,reduceCtorEq,reduceEq,reduceNe,reduceToNat,Int.reduceLT,reduceLE,reduceNeg,hl,c1,f3.1,f3.2.1,f3a,f3b,f5,CL,LTN]
   exact ih  τ    (by first | assumption | (simp only [aa,af]; assumption)) Q hQ0
 rw [if_neg c1] at h
 injection h with h; subst h
 obtain rfl:_ = r:=ih
 simp -implicitDefEqProofs only [ix,kv,TT,Ic.t,ci,reduceEqDiff,reduceIte,reduceAdd,reduceMul,reduceLT,reduceLeDiff,reduceSub,reduceCtorEq,reduceEq,reduceNe,reduceToNat,Int.reduceLT,reduceLE,reduceNeg,hl,he,hr,c1,CL,LTN]
 exact hQ0  _ _ _  (by first | rfl | (simp -implicitDefEqProofs only [TT,Ic.t,ci,reduceEqDiff,reduceIte,reduceAdd,reduceMul,reduceLT,reduceLeDiff,reduceSub,reduceCtorEq,reduceEq,reduceNe,reduceToNat,Int.reduceLT,reduceLE,reduceNeg,hl,c1,CL,LTN])) (by first | rfl | (simp -implicitDefEqProofs only [TT,Ic.t,ci,reduceEqDiff,reduceIte,reduceAdd,reduceMul,reduceLT,reduceLeDiff,reduceSub,reduceCtorEq,reduceEq,reduceNe,reduceToNat,Int.reduceLT,reduceLE,reduceNeg,hl,c1,CL,LTN])) (by first | exact f0 (Nat.le_refl _) | (simp -implicitDefEqProofs only [TT,Ic.t,ci,reduceEqDiff,reduceIte,reduceAdd,reduceMul,reduceLT,reduceLeDiff,reduceSub,reduceCtorEq,reduceEq,reduceNe,reduceToNat,Int.reduceLT,reduceLE,reduceNeg,hl,c1,CL,LTN]))
noncomputable def gb (p1:ac):Option (Int × ac) :=
 dl p1 (8:Int) >>= fun y1 =>
 d8 (bo y1.1) (((bo y1.1).length:Nat):Int) (0:Int) (0:Int) >>= fun y3 =>
 some (y3,y1.2)
theorem zcdf (p1:ac) (r:Int × ac) (h:gb p1 = some r) (τ:TH) (o0:Nat) (hl:τ.lock ≤ τ.next) (ha0:τ.at o0 = some ⟨aq,[.str p1.s_,.bool p1.bad_]⟩) (hi0:o0 < τ.next) (hw0:τ.lock ≤ o0):Ru G dg [.ptr o0 0] τ (.int .i64 r.1) (τ.put o0 ⟨aq,[.str r.2.s_,.bool r.2.bad_]⟩):=by
 refine jn fun K hK => ?_
 rw [cb zcbs (Nat.le_of_ble_eq_true rfl)]
 unfold gb at h
 obtain ⟨y1,hy1,h⟩:=ob h
 have k2:=ru p1 (8:Int) _ hy1
 try simp only [CL,MC,reduceToNat] at k2
 obtain ⟨y3,hy3,h⟩:=ob h
 simp -implicitDefEqProofs only [kv,TT,Ic.t,ci,reduceEqDiff,reduceIte,reduceAdd,reduceLT,reduceCtorEq,reduceToNat,hl,ha0,hi0,hw0,k2,CL,LTN]
 have Sy3:=zcef (bo y1.1) (((bo y1.1).length:Nat):Int) (0:Int) (0:Int) y3 hy3
 unfold gn at Sy3
 refine Sy3 _ (by first | assumption | omega | (simp only [aa,ag,af,ar]; omega)) _ ?_
 intro frq4 tkq4 τq4 g3q4 htq4 hcq4
 have hcq4:=cn (n:=τ.next) hcq4 (by first | omega | (simp only [aa,ag]; omega))
 try simp only [List.take_succ_cons,List.take_zero,List.take_nil,CL] at htq4
 try simp -implicitDefEqProofs only [TT,Ic.t,ci,reduceEqDiff,reduceIte,reduceAdd,reduceLT,reduceCtorEq,reduceToNat,hl,ha0,hi0,hw0,k2,CL,LTN] at hcq4
 injection h with h; subst h
 simp -implicitDefEqProofs only [kv,TT,Ic.t,ci,reduceEqDiff,reduceIte,reduceAdd,reduceLT,reduceCtorEq,reduceToNat,hl,ha0,hi0,hw0,k2,g3q4,htq4,hcq4,CL,LTN]
 exact hK
theorem zcde (p1:ac) (r:Int × ac) (h:gb p1 = some r) (d:Option Nat) (K:ak) (fr:TF) (tk:TK) (τ:TH) (o0:Nat) (hl:τ.lock ≤ τ.next) (ha0:τ.at o0 = some ⟨aq,[.str p1.s_,.bool p1.bad_]⟩) (hi0:o0 < τ.next) (hw0:τ.lock ≤ o0):d9 G false dg [.ptr o0 0] d K fr tk τ = K (dh fr d (.int .i64 r.1)) tk (τ.put o0 ⟨aq,[.str r.2.s_,.bool r.2.bad_]⟩) :=
 iy (zcdf p1 r h τ o0 hl ha0 hi0 hw0) (by simp -implicitDefEqProofs only [TT,Ic.t,ci,reduceEqDiff,reduceIte,reduceAdd,reduceLT,reduceCtorEq,reduceToNat,hl,ha0,hi0,hw0,CL,LTN])
noncomputable def gt (p1:ac) (p2:Int):Option (Int × ac) :=
 gb p1 >>= fun y1 =>
 if y1.1 < (0:Int) then
  cp y1.2 >>= fun y4 =>
  some ((0:Int),y4)
 else
 if p2 < y1.1 then
  cp y1.2 >>= fun y7 =>
  some ((0:Int),y7)
 else
 some (y1.1,y1.2)
theorem zcb9 (p1:ac) (p2:Int) (r:Int × ac) (h:gt p1 p2 = some r) (τ:TH) (o0:Nat) (hl:τ.lock ≤ τ.next) (ha0:τ.at o0 = some ⟨aq,[.str p1.s_,.bool p1.bad_]⟩) (hi0:o0 < τ.next) (hw0:τ.lock ≤ o0):Ru G gu [.ptr o0 0,.func dg [.ptr o0 0] [],.int .i64 p2] τ (.int .i64 r.1) (τ.put o0 ⟨aq,[.str r.2.s_,.bool r.2.bad_]⟩):=by
 refine jn fun K hK => ?_
 rw [cb zcaz (Nat.le_of_ble_eq_true rfl)]
 unfold gt at h
 obtain ⟨y1,hy1,h⟩:=ob h
 have k2:=zcde p1 _ hy1
 try simp only [CL,MC,reduceToNat] at k2
 by_cases c3:y1.1 < (0:Int)
 · rw [if_pos c3] at h
   obtain ⟨y4,hy4,h⟩:=ob h
   have k5:=ga y1.2 _ hy4
   try simp only [CL,MC,reduceToNat] at k5
   injection h with h; subst h
   simp -implicitDefEqProofs only [pw,TT,Ic.t,ci,reduceEqDiff,reduceIte,reduceAdd,reduceLT,reduceCtorEq,reduceToNat,hl,ha0,hi0,hw0,k2,c3,k5,CL,LTN]
   exact hK
 rw [if_neg c3] at h
 by_cases c6:p2 < y1.1
 · rw [if_pos c6] at h
   obtain ⟨y7,hy7,h⟩:=ob h
   have k8:=ga y1.2 _ hy7
   try simp only [CL,MC,reduceToNat] at k8
   injection h with h; subst h
   simp -implicitDefEqProofs only [pw,TT,Ic.t,ci,reduceEqDiff,reduceIte,reduceAdd,reduceLT,reduceCtorEq,reduceToNat,hl,ha0,hi0,hw0,k2,c3,c6,k8,CL,LTN]
   exact hK
 rw [if_neg c6] at h
 injection h with h; subst h
 simp -implicitDefEqProofs only [pw,TT,Ic.t,ci,reduceEqDiff,reduceIte,reduceAdd,reduceLT,reduceCtorEq,reduceToNat,hl,ha0,hi0,hw0,k2,c3,c6,CL,LTN]
 exact hK
theorem zcb8 (p1:ac) (p2:Int) (r:Int × ac) (h:gt p1 p2 = some r) (d:Option Nat) (K:ak) (fr:TF) (tk:TK) (τ:TH) (o0:Nat) (hl:τ.lock ≤ τ.next) (ha0:τ.at o0 = some ⟨aq,[.str p1.s_,.bool p1.bad_]⟩) (hi0:o0 < τ.next) (hw0:τ.lock ≤ o0):d9 G false gu [.ptr o0 0,.func dg [.ptr o0 0] [],.int .i64 p2] d K fr tk τ = K (dh fr d (.int .i64 r.1)) tk (τ.put o0 ⟨aq,[.str r.2.s_,.bool r.2.bad_]⟩) :=
 iy (zcb9 p1 p2 r h τ o0 hl ha0 hi0 hw0) (by simp -implicitDefEqProofs only [TT,Ic.t,ci,reduceEqDiff,reduceIte,reduceAdd,reduceLT,reduceCtorEq,reduceToNat,hl,ha0,hi0,hw0,CL,LTN])
noncomputable def fa (p1:ac) (p2:Int):Option (Int × ac) :=
 gt p1 p2 >>= fun y1 =>
 some (y1.1,y1.2)
theorem zcd2 (p1:ac) (p2:Int) (r:Int × ac) (h:fa p1 p2 = some r) (τ:TH) (o0:Nat) (hl:τ.lock ≤ τ.next) (ha0:τ.at o0 = some ⟨aq,[.str p1.s_,.bool p1.bad_]⟩) (hi0:o0 < τ.next) (hw0:τ.lock ≤ o0):Ru G fb [.ptr o0 0,.int .i64 p2] τ (.int .i64 r.1) (τ.put o0 ⟨aq,[.str r.2.s_,.bool r.2.bad_]⟩):=by
 refine jn fun K hK => ?_
 rw [cb zcdg (Nat.le_of_ble_eq_true rfl)]
 unfold fa at h
 obtain ⟨y1,hy1,h⟩:=ob h
 have k2:=zcb8 p1 p2 _ hy1
 try simp only [CL,MC,reduceToNat] at k2
 injection h with h; subst h
 simp -implicitDefEqProofs only [zcdc,TT,Ic.t,ci,reduceEqDiff,reduceIte,reduceAdd,reduceLT,reduceCtorEq,reduceToNat,hl,ha0,hi0,hw0,k2,CL,LTN]
 exact hK
theorem zcd1 (p1:ac) (p2:Int) (r:Int × ac) (h:fa p1 p2 = some r) (d:Option Nat) (K:ak) (fr:TF) (tk:TK) (τ:TH) (o0:Nat) (hl:τ.lock ≤ τ.next) (ha0:τ.at o0 = some ⟨aq,[.str p1.s_,.bool p1.bad_]⟩) (hi0:o0 < τ.next) (hw0:τ.lock ≤ o0):d9 G false fb [.ptr o0 0,.int .i64 p2] d K fr tk τ = K (dh fr d (.int .i64 r.1)) tk (τ.put o0 ⟨aq,[.str r.2.s_,.bool r.2.bad_]⟩) :=
 iy (zcd2 p1 p2 r h τ o0 hl ha0 hi0 hw0) (by simp -implicitDefEqProofs only [TT,Ic.t,ci,reduceEqDiff,reduceIte,reduceAdd,reduceLT,reduceCtorEq,reduceToNat,hl,ha0,hi0,hw0,CL,LTN])
noncomputable def gz (p1:ac) (p2:Int):Option (ByteArray × ac) :=
 fa p1 p2 >>= fun y1 =>
 dl y1.2 y1.1 >>= fun y3 =>
 some (y3.1,y3.2)
theorem rv (p1:ac) (p2:Int) (r:ByteArray × ac) (h:gz p1 p2 = some r) (τ:TH) (o0:Nat) (hl:τ.lock ≤ τ.next) (ha0:τ.at o0 = some ⟨aq,[.str p1.s_,.bool p1.bad_]⟩) (hi0:o0 < τ.next) (hw0:τ.lock ≤ o0):Ru G fo [.ptr o0 0,.int .i64 p2] τ (.str r.1) (τ.put o0 ⟨aq,[.str r.2.s_,.bool r.2.bad_]⟩):=by
 refine jn fun K hK => ?_
 rw [cb zcce (Nat.le_of_ble_eq_true rfl)]
 unfold gz at h
 obtain ⟨y1,hy1,h⟩:=ob h
 have k2:=zcd1 p1 p2 _ hy1
 try simp only [CL,MC,reduceToNat] at k2
 obtain ⟨y3,hy3,h⟩:=ob h
 have k4:=ru y1.2 y1.1 _ hy3
 try simp only [CL,MC,reduceToNat] at k4
 injection h with h; subst h
 simp -implicitDefEqProofs only [zccj,TT,Ic.t,ci,reduceEqDiff,reduceIte,reduceAdd,reduceLT,reduceCtorEq,reduceToNat,hl,ha0,hi0,hw0,k2,k4,CL,LTN]
 exact hK
noncomputable def n4 (p1:ac):Option Int :=
 some ((p1.s_.size:Nat):Int)
theorem li (p1:ac) (r:Int) (h:n4 p1 = some r) (τ:TH) (o0:Nat) (hl:τ.lock ≤ τ.next) (ha0:τ.at o0 = some ⟨aq,[.str p1.s_,.bool p1.bad_]⟩) (hi0:o0 < τ.next):Ru G dx [.ptr o0 0] τ (.int .i64 r) τ:=by
 refine jn fun K hK => ?_
 rw [cb zccd (Nat.le_of_ble_eq_true rfl)]
 unfold n4 at h
 injection h with h; subst h
 simp -implicitDefEqProofs only [zcci,TT,Ic.t,ci,reduceEqDiff,reduceIte,reduceAdd,reduceLT,reduceCtorEq,reduceToNat,hl,ha0,hi0,CL,LTN]
 exact hK
noncomputable def pg (p1:ac):Option Bool :=
 some p1.bad_
theorem ml (p1:ac) (r:Bool) (h:pg p1 = some r) (τ:TH) (o0:Nat) (hl:τ.lock ≤ τ.next) (ha0:τ.at o0 = some ⟨aq,[.str p1.s_,.bool p1.bad_]⟩) (hi0:o0 < τ.next):Ru G ge [.ptr o0 0] τ (.bool r) τ:=by
 refine jn fun K hK => ?_
 rw [cb zcbr (Nat.le_of_ble_eq_true rfl)]
 unfold pg at h
 injection h with h; subst h
 simp -implicitDefEqProofs only [zca5,TT,Ic.t,ci,reduceEqDiff,reduceIte,reduceAdd,reduceLT,reduceCtorEq,reduceToNat,hl,ha0,hi0,CL,LTN]
 exact hK
open Go Go.RowKit Sh Ic
open Classical in
noncomputable def gr (s:ByteArray):Option ((List ByteArray) × Int):=if (∀ τ,zbbw Try.prog ie [.str s] τ (zbcm s) τ) then some (zbby s,(zbic s:Int)) else none
theorem ju (p1:ByteArray) (r:(List ByteArray) × Int) (h:gr p1 = some r) (lk:Bool) (d:Option Nat) (K:ak) (fr:TF) (tk:TK) (τ:TH) (hl:τ.lock ≤ τ.next):d9 G lk ie [.str p1] d K fr tk τ = K (dh fr d (.tup [.sl (List.map TV.str r.1),.int .i64 r.2])) tk τ:=by
 unfold gr at h
 split at h
 · rename_i hc
   injection h with h
   subst h
   have hr:∀ τ,Ru G ie [.str p1] τ (zbcm p1) τ:=fun τ => zbpx n1 (if_pos (hc τ))
   exact b9 (hr _) (hr _) (by simp -implicitDefEqProofs only [TT,Ic.t,Ic.ci,Nat.reduceEqDiff,reduceIte,Nat.reduceAdd,Nat.reduceLT,reduceCtorEq,Int.reduceToNat])
 · cases h
end Go.Proofs.Ytgkkienmocpnbaa
open Nat (reduceEqDiff reduceAdd reduceLT)
open Int (reduceToNat reduceEq)
namespace Go.Proofs.Ytgkkienmocpnbaa
open Go Go.RowKit Sh Ic
noncomputable def bz :Option Bool :=
 mn (⟨#[97]⟩:ByteArray) >>= fun y1 =>
 mn (⟨#[]⟩:ByteArray) >>= fun y3 =>
 if ¬ (9223372036854775807 < ((y1.size + y3.size:Nat):Int)) then
  if ¬ (9223372036854775807 < (((y1 ++ y3).size + (⟨#[120]⟩:ByteArray).size:Nat):Int)) then
   gr ((y1 ++ y3) ++ (⟨#[120]⟩:ByteArray)) >>= fun y7 =>
   gr (⟨#[]⟩:ByteArray) >>= fun y9 =>
   if ((y7.1.length:Nat):Int) = (2:Int) then
    ixL y7.1 (0:Int) >>= fun y12 =>
    if y12 = (⟨#[97]⟩:ByteArray) then
     ixL y7.1 (1:Int) >>= fun y15 =>
     if y15 = (⟨#[]⟩:ByteArray) then
      if y7.2 = (IntKind.i64.wrap (((((y1 ++ y3) ++ (⟨#[120]⟩:ByteArray)).size:Nat):Int) - (1:Int))) then
       if ((y9.1.length:Nat):Int) = (0:Int) then
        some (decide (y9.2 = (0:Int)))
       else
       some false
      else
      some false
     else
     some false
    else
    some false
   else
   some false
  else
   none
 else
  none
theorem zby3  (r:Bool) (h:bz  = some r) (τ:TH) (hl:τ.lock ≤ τ.next):Ru G fq [] τ (.bool r) τ:=by
 refine jn fun K hK => ?_
 rw [cb zcfo (Nat.le_of_ble_eq_true rfl)]
 unfold bz at h
 obtain ⟨y1,hy1,h⟩:=ob h
 have k2:=ul (⟨#[97]⟩:ByteArray) _ hy1
 try simp only [CL,MC,reduceToNat] at k2
 obtain ⟨y3,hy3,h⟩:=ob h
 have k4:=ul (⟨#[]⟩:ByteArray) _ hy3
 try simp only [CL,MC,reduceToNat] at k4
 obtain ⟨c5,h⟩:=ifS h
 obtain ⟨c6,h⟩:=ifS h
 obtain ⟨y7,hy7,h⟩:=ob h
 have k8:=ju ((y1 ++ y3) ++ (⟨#[120]⟩:ByteArray)) _ hy7
 try simp only [CL,MC,reduceToNat] at k8
 obtain ⟨y9,hy9,h⟩:=ob h
 have k10:=ju (⟨#[]⟩:ByteArray) _ hy9
 try simp only [CL,MC,reduceToNat] at k10
 by_cases c11:((y7.1.length:Nat):Int) = (2:Int)
 · rw [if_pos c11] at h
   obtain ⟨y12,hy12,h⟩:=ob h
   have f13:=au hy12
   have f13a:=(f13.2.2 TV.str).1
   have f13b:=(f13.2.2 TV.str).2
   try simp only [CL,MC,reduceToNat] at f13 f13a f13b
   by_cases c14:y12 = (⟨#[97]⟩:ByteArray)
   · rw [if_pos c14] at h
     obtain ⟨y15,hy15,h⟩:=ob h
     have f16:=au hy15
     have f16a:=(f16.2.2 TV.str).1
     have f16b:=(f16.2.2 TV.str).2
     try simp only [CL,MC,reduceToNat] at f16 f16a f16b
     by_cases c17:y15 = (⟨#[]⟩:ByteArray)
     · rw [if_pos c17] at h
       by_cases c18:y7.2 = (IntKind.i64.wrap (((((y1 ++ y3) ++ (⟨#[120]⟩:ByteArray)).size:Nat):Int) - (1:Int)))
       · rw [if_pos c18] at h
         by_cases c19:((y9.1.length:Nat):Int) = (0:Int)
         · rw [if_pos c19] at h
           injection h with h; subst h
           simp -implicitDefEqProofs only [pz,TT,Ic.t,ci,reduceEqDiff,reduceIte,reduceAdd,reduceLT,reduceCtorEq,reduceToNat,hl,k2,k4,c5,c6,k8,k10,eq_true c11,f13.1,f13.2.1,f13a,f13b,eq_true c14,f16.1,f16.2.1,f16a,f16b,eq_true c17,eq_true c18,eq_true c19,CL,LTN]
           exact hK
         rw [if_neg c19] at h
         injection h with h; subst h
         simp -implicitDefEqProofs only [pz,TT,Ic.t,ci,reduceEqDiff,reduceIte,reduceAdd,reduceLT,reduceCtorEq,reduceToNat,hl,k2,k4,c5,c6,k8,k10,eq_true c11,f13.1,f13.2.1,f13a,f13b,eq_true c14,f16.1,f16.2.1,f16a,f16b,eq_true c17,eq_true c18,c19,CL,LTN]
         exact hK
       rw [if_neg c18] at h
       injection h with h; subst h
       simp -implicitDefEqProofs only [pz,TT,Ic.t,ci,reduceEqDiff,reduceIte,reduceAdd,reduceLT,reduceCtorEq,reduceToNat,hl,k2,k4,c5,c6,k8,k10,eq_true c11,f13.1,f13.2.1,f13a,f13b,eq_true c14,f16.1,f16.2.1,f16a,f16b,eq_true c17,c18,CL,LTN]
       exact hK
     rw [if_neg c17] at h
     injection h with h; subst h
     simp -implicitDefEqProofs only [pz,TT,Ic.t,ci,reduceEqDiff,reduceIte,reduceAdd,reduceLT,reduceCtorEq,reduceToNat,hl,k2,k4,c5,c6,k8,k10,eq_true c11,f13.1,f13.2.1,f13a,f13b,eq_true c14,f16.1,f16.2.1,f16a,f16b,c17,CL,LTN]
     exact hK
   rw [if_neg c14] at h
   injection h with h; subst h
   simp -implicitDefEqProofs only [pz,TT,Ic.t,ci,reduceEqDiff,reduceIte,reduceAdd,reduceLT,reduceCtorEq,reduceToNat,hl,k2,k4,c5,c6,k8,k10,eq_true c11,f13.1,f13.2.1,f13a,f13b,c14,CL,LTN]
   exact hK
 rw [if_neg c11] at h
 injection h with h; subst h
 simp -implicitDefEqProofs only [pz,TT,Ic.t,ci,reduceEqDiff,reduceIte,reduceAdd,reduceLT,reduceCtorEq,reduceToNat,hl,k2,k4,c5,c6,k8,k10,c11,CL,LTN]
 exact hK
theorem cq  (r:Bool) (h:bz  = some r) (lk:Bool) (d:Option Nat) (K:ak) (fr:TF) (tk:TK) (τ:TH) (hl:τ.lock ≤ τ.next):d9 G lk fq [] d K fr tk τ = K (dh fr d (.bool r)) tk τ :=
 b9 (zby3  r h τ  hl) (zby3  r h (τ.locked τ.next)  (Nat.le_refl _) ) (by simp -implicitDefEqProofs only [TT,Ic.t,ci,reduceEqDiff,reduceIte,reduceAdd,reduceLT,reduceCtorEq,reduceToNat,hl,CL,LTN])
open Go Go.RowKit Sh Ic
end Go.Proofs.Ytgkkienmocpnbaa
