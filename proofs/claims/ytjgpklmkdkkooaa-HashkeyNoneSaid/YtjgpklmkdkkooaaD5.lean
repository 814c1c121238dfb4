import Derived.Test.YtjgpklmkdkkooaaD4
set_option linter.unusedVariables false
set_option linter.unusedSimpArgs false
set_option linter.unusedSectionVars false
open Nat (reduceEqDiff reduceAdd reduceMul reduceLT reduceLeDiff reduceSub)
open Int (reduceToNat reduceNe reduceEq reduceNeg reduceLE)
namespace Go.Proofs.Ytjgpklmkdkkooaa
open Go Go.RowKit Sh Ic
noncomputable section
def zb0c (p1:ByteArray):Option ByteArray :=
 if p1.size ≤ 140737488355328 then
  if p1.size + (⟨#[128]⟩:ByteArray).size ≤ 140737488355328 then
   zb91 (IntKind.u64.wrap ((IntKind.u64.wrap ((p1.size:Nat):Int)) * (8:Int))) (p1 ++ (⟨#[128]⟩:ByteArray)) >>= fun y5 =>
   zb92 (IntKind.u64.wrap ((IntKind.u64.wrap ((p1.size:Nat):Int)) * (8:Int))) y5 (0:Int) >>= fun y7 =>
   zb9w >>= fun y9 =>
   xg >>= fun y11 =>
   if y9.length = 8 then
    if y11.length = 64 then
     if y7.size ≤ 140737488355328 then
      zb93 y11 y9 y7 >>= fun y21 =>
      if y21.length = 8 then
       if 8 ≤ y21.length then
        ixL y21 (0:Int) >>= fun y30 =>
        zb94 y21 [(IntKind.u8.wrap (Int.fdiv y30 (2 ^ (Nat.min 24 IntKind.u32.bits)))),(IntKind.u8.wrap (Int.fdiv y30 (2 ^ (Nat.min 16 IntKind.u32.bits)))),(IntKind.u8.wrap (Int.fdiv y30 (2 ^ (Nat.min 8 IntKind.u32.bits)))),(IntKind.u8.wrap y30)] (IntKind.i64.wrap ((0:Int) + (1:Int))) >>= fun y33 =>
        some (yu y33)
       else
        none
      else
       none
     else
      none
    else
     none
   else
    none
  else
   none
 else
  none
theorem zc8f (p1:ByteArray) (r:ByteArray) (h:zb0c p1 = some r) (τ:TH) (hl:τ.lock ≤ τ.next):Ru G zb0d [.str p1] τ (.str r) τ:=by
 refine gp fun K hK => ?_
 rw [bc zbu7 (Nat.le_of_ble_eq_true rfl)]
 unfold zb0c at h
 obtain ⟨c1,h⟩:=ifS h
 have k2:=fun (id:Nat) (d:Option Nat) (K:ap) (fr:TF) (tk:TK) (τ:TH) (ha:τ.at id = some (a8 id false ⟨#[]⟩)) (hi:id < τ.next) (hw:τ.lock ≤ id) (hl:τ.lock ≤ τ.next) => zcxo id d K fr tk τ ha hi hw hl p1 c1
 obtain ⟨c3,h⟩:=ifS h
 have k4:=fun (id:Nat) (d:Option Nat) (K:ap) (fr:TF) (tk:TK) (τ:TH) (ha:τ.at id = some (a8 id true p1)) (hi:id < τ.next) (hw:τ.lock ≤ id) (hl:τ.lock ≤ τ.next) => yn p1 id true d K fr tk τ ha hi hw hl (by exact .inl rfl) (⟨#[128]⟩:ByteArray) c3
 obtain ⟨y5,hy5,h⟩:=ob h
 simp -implicitDefEqProofs only [rz,TT,Ic.t,ci,reduceEqDiff,reduceLT,reduceCtorEq,hl,k2,bu,k4]
 have Sy5:=zdis (IntKind.u64.wrap ((IntKind.u64.wrap ((p1.size:Nat):Int)) * (8:Int))) (p1 ++ (⟨#[128]⟩:ByteArray)) y5 hy5
 unfold zcfn at Sy5
 refine Sy5 _ τ.next (by simp only [ak,aq]; omega) true (by exact .inl rfl) (by simp -implicitDefEqProofs only [TT]) (by simp only [ak]; omega) (by assumption) _ ?_
 intro frq6 tkq6 τq6 ubz6_0 huubz6_0 g3q6 g4q6 htq6 hcq6
 have hcq6:=dp (n:=τ.next + 1) hcq6 (by simp only [ak]; omega)
 try simp only [List.take_zero] at htq6
 try simp -implicitDefEqProofs only [TT] at hcq6
 obtain ⟨y7,hy7,h⟩:=ob h
 simp -implicitDefEqProofs only [TT,reduceEqDiff,reduceLT,g3q6,g4q6,hcq6]
 have Sy7:=zdit (IntKind.u64.wrap ((IntKind.u64.wrap ((p1.size:Nat):Int)) * (8:Int))) y5 (0:Int) y7 hy7
 unfold zcfo at Sy7
 refine Sy7 _ τ.next (by simp only [ak,aq]; omega) ubz6_0 (by assumption) (by simp -implicitDefEqProofs only [TT]) (by simp only [ak]; omega) (by assumption) _ ?_
 intro frq8 tkq8 τq8 ubz8_0 huubz8_0 g4q8 htq8 hcq8
 have hcq8:=dp (n:=τ.next + 1) hcq8 (by simp only [ak]; omega)
 try simp only [List.take_zero] at htq8
 try simp -implicitDefEqProofs only [TT] at hcq8
 obtain ⟨y9,hy9,h⟩:=ob h
 have k10:=zdfq  _ hy9
 try simp only [CL,MC,reduceToNat] at k10
 obtain ⟨y11,hy11,h⟩:=ob h
 have k12:=zdkw  _ hy11
 try simp only [CL,MC,reduceToNat] at k12
 obtain ⟨c13,h⟩:=ifS h
 have f14:(List.map (TV.int .u32) y9 = []) = False:=zb7d c13 (by decide)
 have f15:y9.length ≤ 8:=Nat.le_of_eq c13
 obtain ⟨c16,h⟩:=ifS h
 have f17:(List.map (TV.int .u32) y11 = []) = False:=zb7d c16 (by decide)
 have f18:y11.length ≤ 64:=Nat.le_of_eq c16
 obtain ⟨c19,h⟩:=ifS h
 have k20:=fun (id:Nat) (d:Option Nat) (K:ap) (fr:TF) (tk:TK) (τ:TH) (ha:τ.at id = some (a8 id ubz8_0 y7)) (hi:id < τ.next) (hw:τ.lock ≤ id) (hl:τ.lock ≤ τ.next) => zcgn y7 id ubz8_0 d K fr tk τ ha hi hw hl (by assumption) c19
 obtain ⟨y21,hy21,h⟩:=ob h
 simp -implicitDefEqProofs only [TT,Ic.t,reduceEqDiff,reduceAdd,reduceLT,hl,g4q8,hcq8,k10,k12,c13,f14,bv,c16,f17,k20,LTN]
 have Sy21:=zdiu y11 y9 y7 y21 hy21
 unfold zcfp at Sy21
 refine Sy21 _ (τ.next + 1) (τ.next + 2) (by simp only [ak,aq]; omega) (by simp -implicitDefEqProofs only [TT,reduceAdd,reduceLT]; done) (by simp only [ak]; omega) (by simp only [aq]; omega) (by simp -implicitDefEqProofs only [TT,reduceAdd]; done) (by simp only [ak]; omega) (by omega) _ ?_
 intro frq22 tkq22 τq22 g6q22 htq22 hcq22
 have hcq22:=dp (n:=τ.next + 3) hcq22 (by simp only [ak]; omega)
 try simp only [List.take_zero] at htq22
 try simp -implicitDefEqProofs only [TT,reduceAdd,reduceLT] at hcq22
 have f23:(32:Int) * ((1:Nat):Int) ≤ 140737488355328:=by decide
 obtain ⟨c24,h⟩:=ifS h
 have f25:8 ≤ y21.length:=Nat.le_of_eq (Eq.symm c24)
 have f26:List.take 8 (List.map (TV.int .u32) y21) = List.map (TV.int .u32) y21:=zb9f c24
 simp -implicitDefEqProofs only [zb4c,rz,TT,Ic.t,ci,reduceEqDiff,reduceAdd,reduceLT,reduceCtorEq,reduceLE,g6q22,hcq22,f23,c24,f26,LTN]
 refine mo fun LQz27 hnz27 hrz27 hez27 => ?_
 have f28:(0:Int) < ((8:Nat):Int):=by decide
 obtain ⟨c29,h⟩:=ifS h
 obtain ⟨y30,hy30,h⟩:=ob h
 have f31:=av hy30
 have f31a:=(f31.2.2 (TV.int .u32)).1
 have f31b:=(f31.2.2 (TV.int .u32)).2
 try simp only [reduceToNat] at f31 f31a f31b
 have f32:4 ≤ maxLen:=by unfold maxLen; omega
 obtain ⟨y33,hy33,h⟩:=ob h
 simp -implicitDefEqProofs only [TT,Ic.t,reduceEqDiff,reduceAdd,reduceLT,reduceLeDiff,reduceCtorEq,reduceToNat,Int.reduceLT,c24,hnz27,hez27,f28,f31.1,f31b,f32,LTN]
 have Sy33:=zdiv y21 [(IntKind.u8.wrap (Int.fdiv y30 (2 ^ (Nat.min 24 IntKind.u32.bits)))),(IntKind.u8.wrap (Int.fdiv y30 (2 ^ (Nat.min 16 IntKind.u32.bits)))),(IntKind.u8.wrap (Int.fdiv y30 (2 ^ (Nat.min 8 IntKind.u32.bits)))),(IntKind.u8.wrap y30)] (IntKind.i64.wrap ((0:Int) + (1:Int))) y33 hy33
 unfold zcfq at Sy33
 refine Sy33 _ 4 dv (by rfl) (by exact Or.inr rfl) (by simp only [ak,aq]; omega) _ ?_
 intro frq34 tkq34 τq34 u0q34 uh0q34 g9q34 htq34 hcq34
 have hcq34:=dp (n:=τ.next + 3) hcq34 (by simp only [ak]; omega)
 try simp only [List.take_succ_cons,List.take_zero,List.take_nil,CL] at htq34
 try simp -implicitDefEqProofs only [TT,reduceAdd] at hcq34
 injection h with h; subst h
 simp -implicitDefEqProofs only [TT,Ic.t,reduceAdd,reduceLT,g9q34,htq34,hcq34,LTN]
 exact hK
theorem zcia (p1:ByteArray) (r:ByteArray) (h:zb0c p1 = some r) (lk:Bool) (d:Option Nat) (K:ap) (fr:TF) (tk:TK) (τ:TH) (hl:τ.lock ≤ τ.next):du G lk zb0d [.str p1] d K fr tk τ = K (fp fr d (.str r)) tk τ :=
 au (zc8f p1 r h τ  hl) (zc8f p1 r h (τ.locked τ.next)  (Nat.le_refl _) ) (by simp -implicitDefEqProofs only [TT])
def zb32 (p1:ByteArray):Option ByteArray :=
 zb0c p1 >>= fun y1 =>
 some y1
theorem zdet (p1:ByteArray) (r:ByteArray) (h:zb32 p1 = some r) (τ:TH) (hl:τ.lock ≤ τ.next):Ru G zb34 [.str p1] τ (.func fy [] [.ptr τ.next 0]) (τ.push ⟨a9,[.str r]⟩):=by
 refine gp fun K hK => ?_
 rw [bc zbp0 (Nat.le_of_ble_eq_true rfl)]
 unfold zb32 at h
 obtain ⟨y1,hy1,h⟩:=ob h
 have k2:=zcia p1 _ hy1
 try simp only [CL,MC,reduceToNat] at k2
 injection h with h; subst h
 simp -implicitDefEqProofs only [zbqj,TT,Ic.t,reduceEqDiff,reduceLT,reduceCtorEq,hl,k2]
 exact hK
theorem zdaj (p1:ByteArray) (r:ByteArray) (h:zb32 p1 = some r) (d:Option Nat) (K:ap) (fr:TF) (tk:TK) (τ:TH) (hl:τ.lock ≤ τ.next):du G false zb34 [.str p1] d K fr tk τ = K (fp fr d (.func fy [] [.ptr τ.next 0])) tk (τ.push ⟨a9,[.str r]⟩) :=
 zbz3 (zdet p1 r h τ  hl) (by simp -implicitDefEqProofs only [TT])
def xh (p1:Int) (p2:ByteArray):Option Int :=
 ixB p2 (IntKind.i64.wrap (Int.tdiv p1 (8:Int))) >>= fun b1 =>
 if ¬ (IntKind.i64.wrap ((7:Int) - (Int.tmod p1 (8:Int)))) < 0 then
  some (IntKind.i64.wrap ((BitVec.ofInt IntKind.i64.bits (IntKind.i64.wrap (Int.fdiv b1 (2 ^ (Nat.min (IntKind.i64.wrap ((7:Int) - (Int.tmod p1 (8:Int)))).toNat IntKind.u8.bits)))) &&& BitVec.ofInt IntKind.i64.bits (1:Int)).toNat:Int)) >>= fun x4 =>
  some x4
 else
  none
theorem zczq (p1:Int) (p2:ByteArray) (r:Int) (h:xh p1 p2 = some r) (τ:TH) (o0:Nat) (hl:τ.lock ≤ τ.next) (ha0:τ.at o0 = some ⟨a9,[.str p2]⟩) (hi0:o0 < τ.next):Ru G fy [.int .i64 p1,.ptr o0 0] τ (.int .i64 r) τ:=by
 refine gp fun K hK => ?_
 rw [bc zded (Nat.le_of_ble_eq_true rfl)]
 unfold xh at h
 obtain ⟨b1,hb1,h⟩:=ob h
 have f2:=zbx2 hb1
 try simp only [CL,MC,reduceToNat] at f2
 obtain ⟨c3,h⟩:=ifS h
 obtain ⟨x4,hx4,h⟩:=ob h
 have f5:=Option.some.inj hx4
 injection h with h; subst h
 simp -implicitDefEqProofs only [zdd4,TT,Ic.t,ci,reduceEqDiff,reduceAdd,reduceCtorEq,reduceEq,ha0,f2.1,f2.2.1,f2.2.2,c3,f5]
 exact hK
theorem zczp (p1:Int) (p2:ByteArray) (r:Int) (h:xh p1 p2 = some r) (lk:Bool) (d:Option Nat) (K:ap) (fr:TF) (tk:TK) (τ:TH) (o0:Nat) (hl:τ.lock ≤ τ.next) (ha0:τ.at o0 = some ⟨a9,[.str p2]⟩) (hi0:o0 < τ.next):du G lk fy [.int .i64 p1,.ptr o0 0] d K fr tk τ = K (fp fr d (.int .i64 r)) tk τ :=
 au (zczq p1 p2 r h τ o0 hl ha0 hi0) (zczq p1 p2 r h (τ.locked τ.next) o0 (Nat.le_refl _) (by rw [ww]; exact ha0) hi0) (by simp -implicitDefEqProofs only [TT,hi0])
def um (p1:ByteArray):Option ByteArray :=
 zb0c p1 >>= fun y1 =>
 if 0 ≤ (16:Int) ∧ (16:Int) ≤ (y1.size:Int) then
  some (y1.extract 0 16)
 else
  none
theorem zcw1 (p1:ByteArray) (r:ByteArray) (h:um p1 = some r) (τ:TH) (hl:τ.lock ≤ τ.next):Ru G uu [.str p1] τ (.str r) τ:=by
 refine gp fun K hK => ?_
 rw [bc zdc2 (Nat.le_of_ble_eq_true rfl)]
 unfold um at h
 obtain ⟨y1,hy1,h⟩:=ob h
 have k2:=zcia p1 _ hy1
 try simp only [CL,MC,reduceToNat] at k2
 obtain ⟨c3,h⟩:=ifS h
 injection h with h; subst h
 simp -implicitDefEqProofs only [zdcw,TT,Ic.t,ci,reduceCtorEq,reduceToNat,hl,k2,c3]
 exact hK
theorem zcfk (p1:ByteArray) (r:ByteArray) (h:um p1 = some r) (lk:Bool) (d:Option Nat) (K:ap) (fr:TF) (tk:TK) (τ:TH) (hl:τ.lock ≤ τ.next):du G lk uu [.str p1] d K fr tk τ = K (fp fr d (.str r)) tk τ :=
 au (zcw1 p1 r h τ  hl) (zcw1 p1 r h (τ.locked τ.next)  (Nat.le_refl _) ) (by simp -implicitDefEqProofs only [TT])
def zb4d (p1:ByteArray) (p2:Int) (p3:Int) (p4:Int):Option ByteArray :=
 zb4e p2 >>= fun y1 =>
 if y1 = true then
  if p3 < (0:Int) then
   some (⟨#[]⟩:ByteArray)
  else
  if (16:Int) ≤ p3 then
   some (⟨#[]⟩:ByteArray)
  else
  if p4 < (0:Int) then
   some (⟨#[]⟩:ByteArray)
  else
  if (2:Int) ≤ p4 then
   some (⟨#[]⟩:ByteArray)
  else
  if ¬ (9223372036854775807 < ((p1.size + (yu [(IntKind.u8.wrap p2),(IntKind.u8.wrap p3),(IntKind.u8.wrap p4)]).size:Nat):Int)) then
   um (p1 ++ (yu [(IntKind.u8.wrap p2),(IntKind.u8.wrap p3),(IntKind.u8.wrap p4)])) >>= fun y9 =>
   some y9
  else
   none
 else
 some (⟨#[]⟩:ByteArray)
theorem zcxc (p1:ByteArray) (p2:Int) (p3:Int) (p4:Int) (r:ByteArray) (h:zb4d p1 p2 p3 p4 = some r) (τ:TH) (hl:τ.lock ≤ τ.next):Ru G zb37 [.str p1,.int .i64 p2,.int .i64 p3,.int .i64 p4] τ (.str r) τ:=by
 refine gp fun K hK => ?_
 rw [bc zdc0 (Nat.le_of_ble_eq_true rfl)]
 unfold zb4d at h
 obtain ⟨y1,hy1,h⟩:=ob h
 have k2:=zcxd p2 _ hy1
 try simp only [CL,MC,reduceToNat] at k2
 by_cases c3:y1 = true
 · rw [if_pos c3] at h
   by_cases c4:p3 < (0:Int)
   · rw [if_pos c4] at h
     injection h with h; subst h
     simp -implicitDefEqProofs only [zb77,TT,Ic.t,ci,reduceEqDiff,reduceAdd,reduceCtorEq,hl,k2,c3,c4,LTN]
     first | exact hK | (simp only [hl,k2,c3,c4,CL] at hK; exact hK)
   rw [if_neg c4] at h
   by_cases c5:(16:Int) ≤ p3
   · rw [if_pos c5] at h
     injection h with h; subst h
     simp -implicitDefEqProofs only [zb77,TT,Ic.t,ci,reduceEqDiff,reduceAdd,reduceCtorEq,hl,k2,c3,c4,c5,LTN]
     first | exact hK | (simp only [hl,k2,c3,c4,c5,CL] at hK; exact hK)
   rw [if_neg c5] at h
   by_cases c6:p4 < (0:Int)
   · rw [if_pos c6] at h
     injection h with h; subst h
     simp -implicitDefEqProofs only [zb77,TT,Ic.t,ci,reduceEqDiff,reduceAdd,reduceCtorEq,hl,k2,c3,c4,c5,c6,LTN]
     first | exact hK | (simp only [hl,k2,c3,c4,c5,c6,CL] at hK; exact hK)
   rw [if_neg c6] at h
   by_cases c7:(2:Int) ≤ p4
   · rw [if_pos c7] at h
     injection h with h; subst h
     simp -implicitDefEqProofs only [zb77,TT,Ic.t,ci,reduceEqDiff,reduceAdd,reduceCtorEq,hl,k2,c3,c4,c5,c6,c7,LTN]
     first | exact hK | (simp only [hl,k2,c3,c4,c5,c6,c7,CL] at hK; exact hK)
   rw [if_neg c7] at h
   obtain ⟨c8,h⟩:=ifS h
   obtain ⟨y9,hy9,h⟩:=ob h
   have k10:=zcfk (p1 ++ (yu [(IntKind.u8.wrap p2),(IntKind.u8.wrap p3),(IntKind.u8.wrap p4)])) _ hy9
   try simp only [CL,MC,reduceToNat] at k10
   injection h with h; subst h
   simp -implicitDefEqProofs only [zb77,TT,Ic.t,ci,reduceEqDiff,reduceAdd,reduceCtorEq,hl,k2,c3,c4,c5,c6,c7,c8,k10,LTN]
   first | exact hK | (simp only [hl,k2,c3,c4,c5,c6,c7,c8,k10,CL] at hK; exact hK)
 rw [if_neg c3] at h
 have c3:=Bool.eq_false_iff.2 c3
 injection h with h; subst h
 simp -implicitDefEqProofs only [zb77,TT,Ic.t,ci,reduceEqDiff,reduceAdd,reduceCtorEq,hl,k2,c3,LTN]
 first | exact hK | (simp only [hl,k2,c3,CL] at hK; exact hK)
theorem zcxb (p1:ByteArray) (p2:Int) (p3:Int) (p4:Int) (r:ByteArray) (h:zb4d p1 p2 p3 p4 = some r) (lk:Bool) (d:Option Nat) (K:ap) (fr:TF) (tk:TK) (τ:TH) (hl:τ.lock ≤ τ.next):du G lk zb37 [.str p1,.int .i64 p2,.int .i64 p3,.int .i64 p4] d K fr tk τ = K (fp fr d (.str r)) tk τ :=
 au (zcxc p1 p2 p3 p4 r h τ  hl) (zcxc p1 p2 p3 p4 r h (τ.locked τ.next)  (Nat.le_refl _) ) (by simp -implicitDefEqProofs only [TT])
def zb8m (p1:Int) (p2:ByteArray) (p3:Int) (p4:ByteArray):Option ByteArray :=
 xh p1 p4 >>= fun y1 =>
 zb4d p2 p3 p1 y1 >>= fun y3 =>
 zb4d p2 p3 p1 (IntKind.i64.wrap ((1:Int) - y1)) >>= fun y5 =>
 um y5 >>= fun y7 =>
 if ¬ (9223372036854775807 < ((y3.size + y7.size:Nat):Int)) then
  some (y3 ++ y7)
 else
  none
theorem zczn (p1:Int) (p2:ByteArray) (p3:Int) (p4:ByteArray) (r:ByteArray) (h:zb8m p1 p2 p3 p4 = some r) (τ:TH) (o0:Nat) (o1:Nat) (o2:Nat) (o3:Nat) (hl:τ.lock ≤ τ.next) (ha0:τ.at o0 = some ⟨a9,[.str p2]⟩) (hi0:o0 < τ.next) (ha1:τ.at o1 = some ⟨jy,[.int .i64 p3]⟩) (hi1:o1 < τ.next) (ha2:τ.at o2 = some ⟨jc,[.func fy [] [.ptr o3 0]]⟩) (hi2:o2 < τ.next) (ha3:τ.at o3 = some ⟨a9,[.str p4]⟩) (hi3:o3 < τ.next):Ru G se [.int .i64 p1,.ptr o0 0,.ptr o1 0,.ptr o2 0] τ (.str r) τ:=by
 refine gp fun K hK => ?_
 rw [bc zdeb (Nat.le_of_ble_eq_true rfl)]
 unfold zb8m at h
 obtain ⟨y1,hy1,h⟩:=ob h
 have k2:=zczp p1 p4 _ hy1
 try simp only [CL,MC,reduceToNat] at k2
 obtain ⟨y3,hy3,h⟩:=ob h
 have k4:=zcxb p2 p3 p1 y1 _ hy3
 try simp only [CL,MC,reduceToNat] at k4
 obtain ⟨y5,hy5,h⟩:=ob h
 have k6:=zcxb p2 p3 p1 (IntKind.i64.wrap ((1:Int) - y1)) _ hy5
 try simp only [CL,MC,reduceToNat] at k6
 obtain ⟨y7,hy7,h⟩:=ob h
 have k8:=zcfk y5 _ hy7
 try simp only [CL,MC,reduceToNat] at k8
 obtain ⟨c9,h⟩:=ifS h
 injection h with h; subst h
 simp -implicitDefEqProofs only [jg,jd,List.isEmpty_cons,ei,tD,pnK,kj,gq,List.filter_cons,List.filter_nil,List.filterMap_cons,List.filterMap_nil,bg,dg,mf,dm,Ins.dsts,Ins.looks,I.ops,pt,ta,List.all_cons,List.all_nil,List.any_cons,List.any_nil,List.contains_cons,List.contains_nil,List.nil_append,List.cons_append,Option.toList_some,Option.isSome_some,Option.isSome_none,Bool.and_true,Bool.and_false,Bool.or_false,Bool.or_true,Bool.not_false,and_true,true_and,and_false,Nat.reduceBEq,zdd3,TT,Ic.t,ci,reduceEqDiff,reduceAdd,reduceCtorEq,hl,ha0,ha1,ha2,ha3,hi3,k2,k4,k6,k8,c9]
 exact hK
theorem zdip (p1:Int) (p2:ByteArray) (p3:Int) (p4:ByteArray) (r:ByteArray) (h:zb8m p1 p2 p3 p4 = some r) (lk:Bool) (d:Option Nat) (K:ap) (fr:TF) (tk:TK) (τ:TH) (o0:Nat) (o1:Nat) (o2:Nat) (o3:Nat) (hl:τ.lock ≤ τ.next) (ha0:τ.at o0 = some ⟨a9,[.str p2]⟩) (hi0:o0 < τ.next) (ha1:τ.at o1 = some ⟨jy,[.int .i64 p3]⟩) (hi1:o1 < τ.next) (ha2:τ.at o2 = some ⟨jc,[.func fy [] [.ptr o3 0]]⟩) (hi2:o2 < τ.next) (ha3:τ.at o3 = some ⟨a9,[.str p4]⟩) (hi3:o3 < τ.next):du G lk se [.int .i64 p1,.ptr o0 0,.ptr o1 0,.ptr o2 0] d K fr tk τ = K (fp fr d (.str r)) tk τ :=
 au (zczn p1 p2 p3 p4 r h τ o0 o1 o2 o3 hl ha0 hi0 ha1 hi1 ha2 hi2 ha3 hi3) (zczn p1 p2 p3 p4 r h (τ.locked τ.next) o0 o1 o2 o3 (Nat.le_refl _) (by rw [ww]; exact ha0) hi0 (by rw [ww]; exact ha1) hi1 (by rw [ww]; exact ha2) hi2 (by rw [ww]; exact ha3) hi3) (by simp -implicitDefEqProofs only [TT,hi0,hi1,hi2])
def kq (v0:ByteArray) (v1:Int) (v2:ByteArray) (v3:ByteArray) (v4:Int):Option (LS (ByteArray × Int) (ByteArray)) :=
 if v4 < (16:Int) then
  zb8m v4 v0 v1 v2 >>= fun y2 =>
  if v3.size + y2.size ≤ 140737488355328 then
   some (.nx ((v3 ++ y2),(IntKind.i64.wrap (v4 + (1:Int)))))
  else
   none
 else
 some (.dn v3)
def zb90 (v0:ByteArray) (v1:Int) (v2:ByteArray) (v3:ByteArray) (v4:Int):Option (ByteArray):=oq (fun st => kq v0 v1 v2 st.1 st.2) (v3,v4)
theorem zc1j (v0:ByteArray) (v1:Int) (v2:ByteArray) (v3:ByteArray) (v4:Int):zb90 v0 v1 v2 v3 v4 = kq v0 v1 v2 v3 v4 >>= LS.go (fun st => zb90 v0 v1 v2 st.1 st.2):=ew (fun st => kq v0 v1 v2 st.1 st.2) (v3,v4)
def zcfm (v0:ByteArray) (v1:Int) (v2:ByteArray) (v3:ByteArray) (v4:Int) (r:ByteArray):Prop:=∀ (τ:TH) (o0:Nat) (o1:Nat) (o2:Nat) (o3:Nat) (o4:Nat) (hl:τ.lock ≤ τ.next) (ha0:τ.at o0 = some ⟨a9,[.str v0]⟩) (hi0:o0 < τ.next) (ha1:τ.at o1 = some ⟨jy,[.int .i64 v1]⟩) (hi1:o1 < τ.next) (ha2:τ.at o2 = some ⟨jc,[.func fy [] [.ptr o3 0]]⟩) (hi2:o2 < τ.next) (ha3:τ.at o3 = some ⟨a9,[.str v2]⟩) (hi3:o3 < τ.next) (ub4:Bool) (hub4:ub4 = true ∨ v3.size = 0) (ha4:τ.at o4 = some (a8 o4 ub4 v3)) (hi4:o4 < τ.next) (hw4:τ.lock ≤ o4) (hn0_4:o0 ≠ o4) (hn1_4:o1 ≠ o4) (hn2_4:o2 ≠ o4) (hn3_4:o3 ≠ o4) (Q:TEx → ap) (hQ0:∀ (fr:TF) (tk2:TK) (τ2:TH),∀ (ubx4:Bool),(ubx4 = true ∨ r.size = 0) → lkp fr 3 = .ptr o4 0 → tk2.take 0 = [] → τ2.cut τ.next = (τ.put o4 (a8 o4 ubx4 r)) → Q (.exit 0) fr tk2 τ2) ,tW G (.loop [0,3,5] zb4b) Q [(0,.func se [] [.ptr o0 0,.ptr o1 0,.ptr o2 0]),(3,.ptr o4 0),(5,.int .i64 v4)] [] τ
theorem zdir (v0:ByteArray) (v1:Int) (v2:ByteArray) (v3:ByteArray) (v4:Int) (r:ByteArray) (h:zb90 v0 v1 v2 v3 v4 = some r):zcfm v0 v1 v2 v3 v4 r:=by
 refine di (f:=fun st => kq v0 v1 v2 st.1 st.2) (P:=fun st r => ∀ (v3:ByteArray) (v4:Int),(v3,v4) = st → zcfm v0 v1 v2 v3 v4 r) ?_ h v3 v4 rfl
 clear h r v4 v3
 intro st o h r ih v3 v4 hst τ o0 o1 o2 o3 o4  hl ha0 hi0 ha1 hi1 ha2 hi2 ha3 hi3 ub4 hub4 ha4 hi4 hw4 hn0_4 hn1_4 hn2_4 hn3_4 Q hQ0
 subst hst
 have h:kq v0 v1 v2 v3 v4 = some o:=h
 unfold kq at h
 refine mo fun LQ hn hr he => ?_
 by_cases c1:v4 < (16:Int)
 · rw [if_pos c1] at h
   obtain ⟨y2,hy2,h⟩:=ob h
   have k3:=fun (lk:Bool) (d:Option Nat) (K:ap) (fr:TF) (tk:TK) (τ':TH) (o'0:Nat) (o'1:Nat) (o'2:Nat) => zdip v4 v0 v1 v2 _ hy2 lk d K fr tk τ' o'0 o'1 o'2 o3
   try simp only [CL,MC,reduceToNat] at k3
   obtain ⟨c4,h⟩:=ifS h
   have k5:=fun (id:Nat) (d:Option Nat) (K:ap) (fr:TF) (tk:TK) (τ:TH) (ha:τ.at id = some (a8 id ub4 v3)) (hi:id < τ.next) (hw:τ.lock ≤ id) (hl:τ.lock ≤ τ.next) => yn v3 id ub4 d K fr tk τ ha hi hw hl (by assumption) y2 c4
   injection h with h; subst h
   have ih:=ih (v3 ++ y2) (IntKind.i64.wrap (v4 + (1:Int))) rfl
   unfold zcfm at ih
   simp -implicitDefEqProofs only [zb4b,zbz8,TT,Ic.t,ci,reduceEqDiff,reduceCtorEq,hl,ha0,hi0,ha1,hi1,ha2,hi2,ha3,hi3,ha4,hi4,hw4,c1,k3,k5]
   rw [hn]
   simp -implicitDefEqProofs only [TT,reduceEqDiff,reduceCtorEq,hi0,hi1,hi2,hi4]
   exact ih  (τ.put o4 (a8 o4 true (v3 ++ y2))) o0 o1 o2 o3 o4   (by simp only [aa,ag]; assumption) (by simp -implicitDefEqProofs only [TT,ha0,nq hn0_4]) (by simp only [aa]; assumption) (by simp -implicitDefEqProofs only [TT,ha1,nq hn1_4]) (by simp only [aa]; assumption) (by simp -implicitDefEqProofs only [TT,ha2,nq hn2_4]) (by simp only [aa]; assumption) (by simp -implicitDefEqProofs only [TT,ha3,nq hn3_4]) (by simp only [aa]; assumption) true (by exact .inl rfl) (by simp -implicitDefEqProofs only [TT,hi4]) (by simp only [aa]; assumption) (by assumption) hn0_4 hn1_4 hn2_4 hn3_4 Q (fun fr tk2 τ2 w4 w4' g0 ht hτ => hQ0 fr tk2 τ2 w4 w4' g0 ht (by simpa only [aa,rf,hl,ha0,hi0,ha1,hi1,ha2,hi2,ha3,hi3,bu,ha4,hi4,hw4,nq hn0_4,nq hn1_4,nq hn2_4,nq hn3_4] using hτ))
 rw [if_neg c1] at h
 injection h with h; subst h
 obtain rfl:_ = r:=ih
 simp -implicitDefEqProofs only [zb4b,zbz8,TT,Ic.t,ci,reduceEqDiff,reduceCtorEq,he,c1]
 exact hQ0  _ _ _ ub4 (by assumption) (by rfl) (by rfl) (by simp -implicitDefEqProofs only [TT,jj ha4])
def zb7r (p1:ByteArray) (p2:Int) (p3:ByteArray):Option ByteArray :=
 zb90 p1 p2 p3 (⟨#[]⟩:ByteArray) (0:Int) >>= fun y1 =>
 if y1.size ≤ 140737488355328 then
  some y1
 else
  none
theorem zc8r (p1:ByteArray) (p2:Int) (p3:ByteArray) (r:ByteArray) (h:zb7r p1 p2 p3 = some r) (τ:TH) (o0:Nat) (o1:Nat) (o2:Nat) (o3:Nat) (hl:τ.lock ≤ τ.next) (ha0:τ.at o0 = some ⟨a9,[.str p1]⟩) (hi0:o0 < τ.next) (ha1:τ.at o1 = some ⟨jy,[.int .i64 p2]⟩) (hi1:o1 < τ.next) (ha2:τ.at o2 = some ⟨jc,[.func fy [] [.ptr o3 0]]⟩) (hi2:o2 < τ.next) (ha3:τ.at o3 = some ⟨a9,[.str p3]⟩) (hi3:o3 < τ.next):Ru G zbx1 [.func se [] [.ptr o0 0,.ptr o1 0,.ptr o2 0]] τ (.str r) τ:=by
 refine gp fun K hK => ?_
 rw [bc zcsf (Nat.le_of_ble_eq_true rfl)]
 unfold zb7r at h
 obtain ⟨y1,hy1,h⟩:=ob h
 simp -implicitDefEqProofs only [zbz8,TT,Ic.t,ci,reduceEqDiff,reduceCtorEq]
 have Sy1:=zdir p1 p2 p3 (⟨#[]⟩:ByteArray) (0:Int) y1 hy1
 unfold zcfm at Sy1
 refine Sy1 _ o0 o1 o2 o3 τ.next (by simp only [ak,aq]; omega) (by simp -implicitDefEqProofs only [TT,ha0,hi0]) (by simp only [ak]; omega) (by simp -implicitDefEqProofs only [TT,ha1,hi1]) (by simp only [ak]; omega) (by simp -implicitDefEqProofs only [TT,ha2,hi2]) (by simp only [ak]; omega) (by simp -implicitDefEqProofs only [TT,ha3,hi3]) (by simp only [ak]; omega) false (by exact .inr rfl) (by simp -implicitDefEqProofs only [TT,bu]) (by simp only [ak]; omega) (by assumption) (by omega) (by omega) (by omega) (by omega) _ ?_
 intro frq2 tkq2 τq2 ubz2_4 huubz2_4 g3q2 htq2 hcq2
 have hcq2:=dp (n:=τ.next + 1) hcq2 (by simp only [ak]; omega)
 try simp only [List.take_zero] at htq2
 try simp -implicitDefEqProofs only [TT] at hcq2
 obtain ⟨c3,h⟩:=ifS h
 have k4:=fun (id:Nat) (d:Option Nat) (K:ap) (fr:TF) (tk:TK) (τ:TH) (ha:τ.at id = some (a8 id ubz2_4 y1)) (hi:id < τ.next) (hw:τ.lock ≤ id) (hl:τ.lock ≤ τ.next) => zcgn y1 id ubz2_4 d K fr tk τ ha hi hw hl (by assumption) c3
 injection h with h; subst h
 simp -implicitDefEqProofs only [TT,Ic.t,reduceLT,hl,g3q2,hcq2,k4]
 exact hK
theorem zdde (p1:ByteArray) (p2:Int) (p3:ByteArray) (r:ByteArray) (h:zb7r p1 p2 p3 = some r) (lk:Bool) (d:Option Nat) (K:ap) (fr:TF) (tk:TK) (τ:TH) (o0:Nat) (o1:Nat) (o2:Nat) (o3:Nat) (hl:τ.lock ≤ τ.next) (ha0:τ.at o0 = some ⟨a9,[.str p1]⟩) (hi0:o0 < τ.next) (ha1:τ.at o1 = some ⟨jy,[.int .i64 p2]⟩) (hi1:o1 < τ.next) (ha2:τ.at o2 = some ⟨jc,[.func fy [] [.ptr o3 0]]⟩) (hi2:o2 < τ.next) (ha3:τ.at o3 = some ⟨a9,[.str p3]⟩) (hi3:o3 < τ.next):du G lk zbx1 [.func se [] [.ptr o0 0,.ptr o1 0,.ptr o2 0]] d K fr tk τ = K (fp fr d (.str r)) tk τ :=
 au (zc8r p1 p2 p3 r h τ o0 o1 o2 o3 hl ha0 hi0 ha1 hi1 ha2 hi2 ha3 hi3) (zc8r p1 p2 p3 r h (τ.locked τ.next) o0 o1 o2 o3 (Nat.le_refl _) (by rw [ww]; exact ha0) hi0 (by rw [ww]; exact ha1) hi1 (by rw [ww]; exact ha2) hi2 (by rw [ww]; exact ha3) hi3) (by simp -implicitDefEqProofs only [TT,hi0,hi1,hi2])
def zb8n (p1:ByteArray) (p2:Int) (p3:ByteArray):Option ByteArray :=
 zb4e p2 >>= fun y1 =>
 if y1 = true then
  zb32 p3 >>= fun y4 =>
  zb7r p1 p2 y4 >>= fun y6 =>
  some y6
 else
 some (⟨#[]⟩:ByteArray)
theorem zdah (p1:ByteArray) (p2:Int) (p3:ByteArray) (r:ByteArray) (h:zb8n p1 p2 p3 = some r) (τ:TH) (hl:τ.lock ≤ τ.next):Ru G zb33 [.str p1,.int .i64 p2,.str p3] τ (.str r) τ:=by
 refine gp fun K hK => ?_
 rw [bc zbp1 (Nat.le_of_ble_eq_true rfl)]
 unfold zb8n at h
 obtain ⟨y1,hy1,h⟩:=ob h
 have k2:=zcxd p2 _ hy1
 try simp only [CL,MC,reduceToNat] at k2
 by_cases c3:y1 = true
 · rw [if_pos c3] at h
   obtain ⟨y4,hy4,h⟩:=ob h
   have k5:=zdaj p3 _ hy4
   try simp only [CL,MC,reduceToNat] at k5
   obtain ⟨y6,hy6,h⟩:=ob h
   have k7:=fun (lk:Bool) (d:Option Nat) (K:ap) (fr:TF) (tk:TK) (τ':TH) (o'0:Nat) (o'1:Nat) (o'2:Nat) => zdde p1 p2 y4 _ hy6 lk d K fr tk τ' o'0 o'1 o'2 (τ.next + 2)
   try simp only [CL,MC,reduceToNat] at k7
   injection h with h; subst h
   simp -implicitDefEqProofs only [zctw,TT,Ic.t,reduceEqDiff,reduceAdd,reduceLT,reduceCtorEq,hl,k2,c3,k5,k7]
   first | exact hK | (simp only [hl,k2,c3,k5,k7,CL] at hK; exact hK)
 rw [if_neg c3] at h
 have c3:=Bool.eq_false_iff.2 c3
 injection h with h; subst h
 simp -implicitDefEqProofs only [zctw,TT,Ic.t,reduceEqDiff,reduceAdd,reduceCtorEq,hl,k2,c3]
 first | exact hK | (simp only [hl,k2,c3,CL] at hK; exact hK)
theorem zdkn (p1:ByteArray) (p2:Int) (p3:ByteArray) (r:ByteArray) (h:zb8n p1 p2 p3 = some r) (lk:Bool) (d:Option Nat) (K:ap) (fr:TF) (tk:TK) (τ:TH) (hl:τ.lock ≤ τ.next):du G lk zb33 [.str p1,.int .i64 p2,.str p3] d K fr tk τ = K (fp fr d (.str r)) tk τ :=
 au (zdah p1 p2 p3 r h τ  hl) (zdah p1 p2 p3 r h (τ.locked τ.next)  (Nat.le_refl _) ) (by simp -implicitDefEqProofs only [TT])
def ja (p1:af) (p2:Int) (p3:ByteArray) (p4:ByteArray):Option ah :=
 ph p1 p2 >>= fun y1 =>
 if y1 = true then
  ixL p1.Leaders p2 >>= fun y4 =>
  zb8n p4 p2 p3 >>= fun y6 =>
  some (⟨p2,p3,[y4],[y6]⟩:ah)
 else
 some (⟨(0:Int),(⟨#[]⟩:ByteArray),[],[]⟩:ah)
set_option maxRecDepth 100000 in
set_option maxHeartbeats 4000000 in
theorem zc1o (p1:af) (p2:Int) (p3:ByteArray) (p4:ByteArray) (r:ah) (h:ja p1 p2 p3 p4 = some r) (τ:TH) (hl:τ.lock ≤ τ.next):Ru G m7 [.agg p1.cells,.int .i64 p2,.str p3,.str p4] τ (.agg r.cells) τ:=by
 refine gp fun K hK => ?_
 rw [bc zdf8 (Nat.le_of_ble_eq_true rfl)]
 unfold ja at h
 obtain ⟨y1,hy1,h⟩:=ob h
 have k2:=zc50 p1 p2 _ hy1
 try simp only [CL] at k2
 by_cases c3:y1 = true
 · rw [if_pos c3] at h
   obtain ⟨y4,hy4,h⟩:=ob h
   have f5:=av hy4
   have f5a:=(f5.2.2 (TV.int .i64)).1
   have f5b:=(f5.2.2 (TV.int .i64)).2
   try simp only [CL,MC,reduceToNat] at f5 f5a f5b
   obtain ⟨y6,hy6,h⟩:=ob h
   have k7:=zdkn p4 p2 p3 _ hy6
   try simp only [CL,MC,reduceToNat] at k7
   injection h with h; subst h
   simp -implicitDefEqProofs only [zcxm,TT,Ic.t,reduceEqDiff,reduceAdd,reduceLT,reduceLeDiff,reduceCtorEq,hl,k2,c3,f5.1,f5.2.1,f5a,k7,CL]
   first | exact hK | (simp only [hl,k2,c3,f5.1,f5.2.1,f5a,f5b,k7,CL] at hK; exact hK)
 rw [if_neg c3] at h
 have c3:=Bool.eq_false_iff.2 c3
 injection h with h; subst h
 simp -implicitDefEqProofs only [zcxm,TT,Ic.t,reduceEqDiff,reduceAdd,reduceLT,reduceLeDiff,reduceCtorEq,hl,k2,c3,CL]
 first | exact hK | (simp only [hl,k2,c3,CL] at hK; exact hK)
theorem zclv (p1:af) (p2:Int) (p3:ByteArray) (p4:ByteArray) (r:ah) (h:ja p1 p2 p3 p4 = some r) (lk:Bool) (d:Option Nat) (K:ap) (fr:TF) (tk:TK) (τ:TH) (hl:τ.lock ≤ τ.next):du G lk m7 [.agg p1.cells,.int .i64 p2,.str p3,.str p4] d K fr tk τ = K (fp fr d (.agg r.cells)) tk τ :=
 au (zc1o p1 p2 p3 p4 r h τ  hl) (zc1o p1 p2 p3 p4 r h (τ.locked τ.next)  (Nat.le_refl _) ) (by simp -implicitDefEqProofs only [TT,CL])
def qe (p1:Int) (p2:Int):Option Bool :=
 if (0:Int) ≤ p1 then
  some (decide (p1 < p2))
 else
 some false
theorem zc2w (p1:Int) (p2:Int) (r:Bool) (h:qe p1 p2 = some r) (τ:TH) (hl:τ.lock ≤ τ.next):Ru G gi [.int .i64 p1,.int .i64 p2] τ (.bool r) τ:=by
 refine gp fun K hK => ?_
 rw [bc zdjg (Nat.le_of_ble_eq_true rfl)]
 unfold qe at h
 by_cases c1:(0:Int) ≤ p1
 · rw [if_pos c1] at h
   injection h with h; subst h
   simp -implicitDefEqProofs only [zc0c,TT,Ic.t,ci,reduceEqDiff,reduceAdd,reduceCtorEq,c1]
   exact hK
 rw [if_neg c1] at h
 injection h with h; subst h
 simp -implicitDefEqProofs only [zc0c,TT,Ic.t,ci,reduceEqDiff,reduceAdd,reduceCtorEq,c1]
 exact hK
theorem zc2v (p1:Int) (p2:Int) (r:Bool) (h:qe p1 p2 = some r) (lk:Bool) (d:Option Nat) (K:ap) (fr:TF) (tk:TK) (τ:TH) (hl:τ.lock ≤ τ.next):du G lk gi [.int .i64 p1,.int .i64 p2] d K fr tk τ = K (fp fr d (.bool r)) tk τ :=
 au (zc2w p1 p2 r h τ  hl) (zc2w p1 p2 r h (τ.locked τ.next)  (Nat.le_refl _) ) (by simp -implicitDefEqProofs only [TT])
def t8 (p1:Int):Option Bool :=
 qe p1 (6:Int) >>= fun y1 =>
 some (!y1)
theorem zc2x (p1:Int) (r:Bool) (h:t8 p1 = some r) (τ:TH) (o0:Nat) (hl:τ.lock ≤ τ.next) (ha0:τ.at o0 = some ⟨iy,[.func gi [] []]⟩) (hi0:o0 < τ.next):Ru G i8 [.int .i64 p1,.ptr o0 0] τ (.bool r) τ:=by
 refine gp fun K hK => ?_
 rw [bc zdjh (Nat.le_of_ble_eq_true rfl)]
 unfold t8 at h
 obtain ⟨y1,hy1,h⟩:=ob h
 have k2:=zc2v p1 (6:Int) _ hy1
 try simp only [CL,MC,reduceToNat] at k2
 injection h with h; subst h
 simp -implicitDefEqProofs only [zdiy,TT,Ic.t,ci,reduceEqDiff,reduceAdd,reduceCtorEq,hl,ha0,k2]
 exact hK
theorem zdk5 (p1:Int) (r:Bool) (h:t8 p1 = some r) (lk:Bool) (d:Option Nat) (K:ap) (fr:TF) (tk:TK) (τ:TH) (o0:Nat) (hl:τ.lock ≤ τ.next) (ha0:τ.at o0 = some ⟨iy,[.func gi [] []]⟩) (hi0:o0 < τ.next):du G lk i8 [.int .i64 p1,.ptr o0 0] d K fr tk τ = K (fp fr d (.bool r)) tk τ :=
 au (zc2x p1 r h τ o0 hl ha0 hi0) (zc2x p1 r h (τ.locked τ.next) o0 (Nat.le_refl _) (by rw [ww]; exact ha0) hi0) (by simp -implicitDefEqProofs only [TT,hi0])
def bd (v0:(List Int)) (v1:Int) (v2:Int):Option (LS (Int) (LX (Unit) (Int))) :=
 if v2 < v1 then
  ixL v0 v2 >>= fun y2 =>
  t8 y2 >>= fun y4 =>
  if y4 = true then
   some (.dn (.rt v2))
  else
  some (.nx (IntKind.i64.wrap (v2 + (1:Int))))
 else
 some (.dn (.ex ()))
def cj (v0:(List Int)) (v1:Int) (v2:Int):Option (LX (Unit) (Int)):=oq (fun st => bd v0 v1 st) v2
theorem l0 (v0:(List Int)) (v1:Int) (v2:Int):cj v0 v1 v2 = bd v0 v1 v2 >>= LS.go (fun st => cj v0 v1 st):=ew (fun st => bd v0 v1 st) v2
def im (v0:(List Int)) (v1:Int) (v2:Int) (r:LX (Unit) (Int)):Prop:=∀ (τ:TH) (o0:Nat) (hl:τ.lock ≤ τ.next) (ha0:τ.at o0 = some ⟨iy,[.func gi [] []]⟩) (hi0:o0 < τ.next) (Q:TEx → ap) (hQ0:∀ v:Unit,r = (.ex v) → ∀ (fr:TF) (tk2:TK) (τ2:TH),tk2.take 0 = [] → τ2.cut τ.next = τ → Q (.exit 0) fr tk2 τ2) (hQ1:∀ v:Int,r = (.rt v) → ∀ (tk2:TK) (τ2:TH),τ2.cut τ.next = τ → Q .ret [(4,.int .i64 v)] tk2 τ2) ,tW G (.loop [0,1,7,8] ce) Q [(0,.sl (List.map (TV.int .i64) v0)),(1,.func i8 [] [.ptr o0 0]),(7,.int .i64 v1),(8,.int .i64 v2)] [] τ
theorem zdif (v0:(List Int)) (v1:Int) (v2:Int) (r:LX (Unit) (Int)) (h:cj v0 v1 v2 = some r):im v0 v1 v2 r:=by
 refine di (f:=fun st => bd v0 v1 st) (P:=fun st r => ∀ (v2:Int),v2 = st → im v0 v1 v2 r) ?_ h v2 rfl
 clear h r v2
 intro st o h r ih v2 hst τ o0  hl ha0 hi0 Q hQ0 hQ1
 subst hst
 have h:bd v0 v1 v2 = some o:=h
 unfold bd at h
 refine mo fun LQ hn hr he => ?_
 by_cases c1:v2 < v1
 · rw [if_pos c1] at h
   obtain ⟨y2,hy2,h⟩:=ob h
   have f3:=av hy2
   have f3a:=(f3.2.2 (TV.int .i64)).1
   have f3b:=(f3.2.2 (TV.int .i64)).2
   try simp only [CL,MC,reduceToNat] at f3 f3a f3b
   obtain ⟨y4,hy4,h⟩:=ob h
   have k5:=zdk5 y2 _ hy4
   try simp only [CL,MC,reduceToNat] at k5
   by_cases c6:y4 = true
   · rw [if_pos c6] at h
     injection h with h; subst h
     obtain rfl:_ = r:=ih
     simp -implicitDefEqProofs only [ce,bn,TT,Ic.t,ci,reduceEqDiff,reduceCtorEq,hl,ha0,hi0,he,hr,c1,f3.1,f3.2.1,f3a,k5,c6]
     exact hQ1 v2 rfl  _ _  (by simp -implicitDefEqProofs only [TT])
   rw [if_neg c6] at h
   have c6:=Bool.eq_false_iff.2 c6
   injection h with h; subst h
   have ih:=ih (IntKind.i64.wrap (v2 + (1:Int))) rfl
   unfold im at ih
   simp -implicitDefEqProofs only [ce,bn,TT,Ic.t,ci,reduceEqDiff,reduceCtorEq,hl,ha0,hi0,c1,f3.1,f3.2.1,f3a,k5,c6]
   rw [hn]
   simp -implicitDefEqProofs only [TT,reduceEqDiff,reduceCtorEq,hi0]
   exact ih  τ o0   (by assumption) (by simp -implicitDefEqProofs only [ha0]) (by assumption) Q hQ0 hQ1
 rw [if_neg c1] at h
 injection h with h; subst h
 obtain rfl:_ = r:=ih
 simp -implicitDefEqProofs only [ce,bn,TT,Ic.t,ci,reduceEqDiff,reduceCtorEq,he,c1]
 exact hQ0 () rfl  _ _ _   (by rfl) (by simp -implicitDefEqProofs only [TT])
def ip (p1:(List Int)):Option Int :=
 cj p1 ((p1.length:Nat):Int) (0:Int) >>= fun y1 =>
 match y1 with
 | .ex w2 =>
  some (-1:Int)
 | .rt w4 =>
  some w4
theorem uy (p1:(List Int)) (r:Int) (h:ip p1 = some r) (τ:TH) (o0:Nat) (hl:τ.lock ≤ τ.next) (ha0:τ.at o0 = some ⟨iy,[.func gi [] []]⟩) (hi0:o0 < τ.next):Ru G dz [.sl (List.map (TV.int .i64) p1),.func i8 [] [.ptr o0 0]] τ (.int .i64 r) τ:=by
 refine gp fun K hK => ?_
 rw [bc zj (Nat.le_of_ble_eq_true rfl)]
 unfold ip at h
 obtain ⟨y1,hy1,h⟩:=ob h
 simp -implicitDefEqProofs only [bn,TT,Ic.t,ci,reduceEqDiff,reduceAdd,reduceCtorEq]
 have Sy1:=zdif p1 ((p1.length:Nat):Int) (0:Int) y1 hy1
 unfold im at Sy1
 refine Sy1 _ o0 (by assumption) (by simp -implicitDefEqProofs only [ha0]) (by assumption) _ ?_ ?_
 · intro w2 e frq3 tkq3 τq3 htq3 hcq3
   subst e
   simp only at h
   have hcq3:=dp (n:=τ.next) hcq3 (by omega)
   try simp only [List.take_zero] at htq3
   try simp -implicitDefEqProofs only [TT] at hcq3
   injection h with h; subst h
   simp -implicitDefEqProofs only [TT,hcq3]
   exact hK
 intro w4 e tkq5 τq5 hcq5
 subst e
 simp only at h
 have hcq5:=dp (n:=τ.next) hcq5 (by omega)
 try simp -implicitDefEqProofs only [TT] at hcq5
 injection h with h; subst h
 simp -implicitDefEqProofs only [TT,hcq5]
 exact hK
theorem zdh4 (p1:(List Int)) (r:Int) (h:ip p1 = some r) (lk:Bool) (d:Option Nat) (K:ap) (fr:TF) (tk:TK) (τ:TH) (o0:Nat) (hl:τ.lock ≤ τ.next) (ha0:τ.at o0 = some ⟨iy,[.func gi [] []]⟩) (hi0:o0 < τ.next):du G lk dz [.sl (List.map (TV.int .i64) p1),.func i8 [] [.ptr o0 0]] d K fr tk τ = K (fp fr d (.int .i64 r)) tk τ :=
 au (uy p1 r h τ o0 hl ha0 hi0) (uy p1 r h (τ.locked τ.next) o0 (Nat.le_refl _) (by rw [ww]; exact ha0) hi0) (by simp -implicitDefEqProofs only [TT,hi0])
def cn (p1:(List Int)):Option Bool :=
 ip p1 >>= fun y1 =>
 some (decide ((0:Int) ≤ y1))
theorem sw (p1:(List Int)) (r:Bool) (h:cn p1 = some r) (τ:TH) (o0:Nat) (hl:τ.lock ≤ τ.next) (ha0:τ.at o0 = some ⟨iy,[.func gi [] []]⟩) (hi0:o0 < τ.next):Ru G cb [.sl (List.map (TV.int .i64) p1),.func i8 [] [.ptr o0 0]] τ (.bool r) τ:=by
 refine gp fun K hK => ?_
 rw [bc ve (Nat.le_of_ble_eq_true rfl)]
 unfold cn at h
 obtain ⟨y1,hy1,h⟩:=ob h
 have k2:=zdh4 p1 _ hy1
 try simp only [CL,MC,reduceToNat] at k2
 injection h with h; subst h
 simp -implicitDefEqProofs only [vg,TT,Ic.t,ci,reduceEqDiff,reduceAdd,reduceCtorEq,hl,ha0,hi0,k2]
 exact hK
theorem zdie (p1:(List Int)) (r:Bool) (h:cn p1 = some r) (lk:Bool) (d:Option Nat) (K:ap) (fr:TF) (tk:TK) (τ:TH) (o0:Nat) (hl:τ.lock ≤ τ.next) (ha0:τ.at o0 = some ⟨iy,[.func gi [] []]⟩) (hi0:o0 < τ.next):du G lk cb [.sl (List.map (TV.int .i64) p1),.func i8 [] [.ptr o0 0]] d K fr tk τ = K (fp fr d (.bool r)) tk τ :=
 au (sw p1 r h τ o0 hl ha0 hi0) (sw p1 r h (τ.locked τ.next) o0 (Nat.le_refl _) (by rw [ww]; exact ha0) hi0) (by simp -implicitDefEqProofs only [TT,hi0])
def t7 (p1:ByteArray):Option Bool :=
 some (decide (¬ (((p1.size:Nat):Int) = (512:Int))))
theorem zc2y (p1:ByteArray) (r:Bool) (h:t7 p1 = some r) (τ:TH) (hl:τ.lock ≤ τ.next):Ru G iz [.str p1] τ (.bool r) τ:=by
 refine gp fun K hK => ?_
 rw [bc zdji (Nat.le_of_ble_eq_true rfl)]
 unfold t7 at h
 injection h with h; subst h
 simp -implicitDefEqProofs only [zdiz,TT,Ic.t,ci,reduceCtorEq]
 exact hK
theorem zdk6 (p1:ByteArray) (r:Bool) (h:t7 p1 = some r) (lk:Bool) (d:Option Nat) (K:ap) (fr:TF) (tk:TK) (τ:TH) (hl:τ.lock ≤ τ.next):du G lk iz [.str p1] d K fr tk τ = K (fp fr d (.bool r)) tk τ :=
 au (zc2y p1 r h τ  hl) (zc2y p1 r h (τ.locked τ.next)  (Nat.le_refl _) ) (by simp -implicitDefEqProofs only [TT])
def ax (v0:(List ByteArray)) (v1:Int) (v2:Int):Option (LS (Int) (LX (Unit) (Int))) :=
 if v2 < v1 then
  ixL v0 v2 >>= fun y2 =>
  t7 y2 >>= fun y4 =>
  if y4 = true then
   some (.dn (.rt v2))
  else
  some (.nx (IntKind.i64.wrap (v2 + (1:Int))))
 else
 some (.dn (.ex ()))
def bp (v0:(List ByteArray)) (v1:Int) (v2:Int):Option (LX (Unit) (Int)):=oq (fun st => ax v0 v1 st) v2
theorem io (v0:(List ByteArray)) (v1:Int) (v2:Int):bp v0 v1 v2 = ax v0 v1 v2 >>= LS.go (fun st => bp v0 v1 st):=ew (fun st => ax v0 v1 st) v2
def fu (v0:(List ByteArray)) (v1:Int) (v2:Int) (r:LX (Unit) (Int)):Prop:=∀ (τ:TH) (hl:τ.lock ≤ τ.next) (Q:TEx → ap) (hQ0:∀ v:Unit,r = (.ex v) → ∀ (fr:TF) (tk2:TK) (τ2:TH),tk2.take 0 = [] → τ2.cut τ.next = τ → Q (.exit 0) fr tk2 τ2) (hQ1:∀ v:Int,r = (.rt v) → ∀ (tk2:TK) (τ2:TH),τ2.cut τ.next = τ → Q .ret [(4,.int .i64 v)] tk2 τ2) ,tW G (.loop [0,1,7,8] bm) Q [(0,.sl (List.map TV.str v0)),(1,.func iz [] []),(7,.int .i64 v1),(8,.int .i64 v2)] [] τ
theorem yc (v0:(List ByteArray)) (v1:Int) (v2:Int) (r:LX (Unit) (Int)) (h:bp v0 v1 v2 = some r):fu v0 v1 v2 r:=by
 refine di (f:=fun st => ax v0 v1 st) (P:=fun st r => ∀ (v2:Int),v2 = st → fu v0 v1 v2 r) ?_ h v2 rfl
 clear h r v2
 intro st o h r ih v2 hst τ  hl Q hQ0 hQ1
 subst hst
 have h:ax v0 v1 v2 = some o:=h
 unfold ax at h
 refine mo fun LQ hn hr he => ?_
 by_cases c1:v2 < v1
 · rw [if_pos c1] at h
   obtain ⟨y2,hy2,h⟩:=ob h
   have f3:=av hy2
   have f3a:=(f3.2.2 TV.str).1
   have f3b:=(f3.2.2 TV.str).2
   try simp only [CL,MC,reduceToNat] at f3 f3a f3b
   obtain ⟨y4,hy4,h⟩:=ob h
   have k5:=zdk6 y2 _ hy4
   try simp only [CL,MC,reduceToNat] at k5
   by_cases c6:y4 = true
   · rw [if_pos c6] at h
     injection h with h; subst h
     obtain rfl:_ = r:=ih
     simp -implicitDefEqProofs only [bm,ay,TT,Ic.t,ci,reduceEqDiff,reduceCtorEq,hl,he,hr,c1,f3.1,f3.2.1,f3a,k5,c6]
     exact hQ1 v2 rfl  _ _  (by simp -implicitDefEqProofs only [TT])
   rw [if_neg c6] at h
   have c6:=Bool.eq_false_iff.2 c6
   injection h with h; subst h
   have ih:=ih (IntKind.i64.wrap (v2 + (1:Int))) rfl
   unfold fu at ih
   simp -implicitDefEqProofs only [bm,ay,TT,Ic.t,ci,reduceEqDiff,reduceCtorEq,hl,c1,f3.1,f3.2.1,f3a,k5,c6]
   rw [hn]
   simp -implicitDefEqProofs only [TT,reduceEqDiff,reduceCtorEq]
   exact ih  τ    (by assumption) Q hQ0 hQ1
 rw [if_neg c1] at h
 injection h with h; subst h
 obtain rfl:_ = r:=ih
 simp -implicitDefEqProofs only [bm,ay,TT,Ic.t,ci,reduceEqDiff,reduceCtorEq,he,c1]
 exact hQ0 () rfl  _ _ _   (by rfl) (by simp -implicitDefEqProofs only [TT])
def fi (p1:(List ByteArray)):Option Int :=
 bp p1 ((p1.length:Nat):Int) (0:Int) >>= fun y1 =>
 match y1 with
 | .ex w2 =>
  some (-1:Int)
 | .rt w4 =>
  some w4
theorem qb (p1:(List ByteArray)) (r:Int) (h:fi p1 = some r) (τ:TH) (hl:τ.lock ≤ τ.next):Ru G ca [.sl (List.map TV.str p1),.func iz [] []] τ (.int .i64 r) τ:=by
 refine gp fun K hK => ?_
 rw [bc sy (Nat.le_of_ble_eq_true rfl)]
 unfold fi at h
 obtain ⟨y1,hy1,h⟩:=ob h
 simp -implicitDefEqProofs only [ay,TT,Ic.t,ci,reduceEqDiff,reduceAdd,reduceCtorEq]
 have Sy1:=yc p1 ((p1.length:Nat):Int) (0:Int) y1 hy1
 unfold fu at Sy1
 refine Sy1 _ (by assumption) _ ?_ ?_
 · intro w2 e frq3 tkq3 τq3 htq3 hcq3
   subst e
   simp only at h
   have hcq3:=dp (n:=τ.next) hcq3 (by omega)
   try simp only [List.take_zero] at htq3
   try simp -implicitDefEqProofs only [TT] at hcq3
   injection h with h; subst h
   simp -implicitDefEqProofs only [TT,hcq3]
   exact hK
 intro w4 e tkq5 τq5 hcq5
 subst e
 simp only at h
 have hcq5:=dp (n:=τ.next) hcq5 (by omega)
 try simp -implicitDefEqProofs only [TT] at hcq5
 injection h with h; subst h
 simp -implicitDefEqProofs only [TT,hcq5]
 exact hK
theorem zdin (p1:(List ByteArray)) (r:Int) (h:fi p1 = some r) (lk:Bool) (d:Option Nat) (K:ap) (fr:TF) (tk:TK) (τ:TH) (hl:τ.lock ≤ τ.next):du G lk ca [.sl (List.map TV.str p1),.func iz [] []] d K fr tk τ = K (fp fr d (.int .i64 r)) tk τ :=
 au (qb p1 r h τ  hl) (qb p1 r h (τ.locked τ.next)  (Nat.le_refl _) ) (by simp -implicitDefEqProofs only [TT])
def bq (p1:(List ByteArray)):Option Bool :=
 fi p1 >>= fun y1 =>
 some (decide ((0:Int) ≤ y1))
theorem n4 (p1:(List ByteArray)) (r:Bool) (h:bq p1 = some r) (τ:TH) (hl:τ.lock ≤ τ.next):Ru G bf [.sl (List.map TV.str p1),.func iz [] []] τ (.bool r) τ:=by
 refine gp fun K hK => ?_
 rw [bc qf (Nat.le_of_ble_eq_true rfl)]
 unfold bq at h
 obtain ⟨y1,hy1,h⟩:=ob h
 have k2:=zdin p1 _ hy1
 try simp only [CL,MC,reduceToNat] at k2
 injection h with h; subst h
 simp -implicitDefEqProofs only [qh,TT,Ic.t,ci,reduceEqDiff,reduceAdd,reduceCtorEq,hl,k2]
 exact hK
theorem yd (p1:(List ByteArray)) (r:Bool) (h:bq p1 = some r) (lk:Bool) (d:Option Nat) (K:ap) (fr:TF) (tk:TK) (τ:TH) (hl:τ.lock ≤ τ.next):du G lk bf [.sl (List.map TV.str p1),.func iz [] []] d K fr tk τ = K (fp fr d (.bool r)) tk τ :=
 au (n4 p1 r h τ  hl) (n4 p1 r h (τ.locked τ.next)  (Nat.le_refl _) ) (by simp -implicitDefEqProofs only [TT])
def ia (p1:ah):Option Bool :=
 qe p1.Lock (3:Int) >>= fun y1 =>
 if y1 = true then
  if ((p1.Secret.size:Nat):Int) ≤ (64:Int) then
   if (0:Int) < ((p1.Path.length:Nat):Int) then
    if ((p1.Path.length:Nat):Int) ≤ (6:Int) then
     if ((p1.Sigs.length:Nat):Int) = ((p1.Path.length:Nat):Int) then
      cn p1.Path >>= fun y8 =>
      if y8 = true then
       some false
      else
      bq p1.Sigs >>= fun y11 =>
      some (!y11)
     else
     some false
    else
    some false
   else
   some false
  else
  some false
 else
 some false
theorem zc07 (p1:ah) (r:Bool) (h:ia p1 = some r) (τ:TH) (hl:τ.lock ≤ τ.next):Ru G yp [.agg p1.cells] τ (.bool r) τ:=by
 refine gp fun K hK => ?_
 rw [bc zde8 (Nat.le_of_ble_eq_true rfl)]
 unfold ia at h
 obtain ⟨y1,hy1,h⟩:=ob h
 have k2:=zc2v p1.Lock (3:Int) _ hy1
 try simp only [CL,MC,reduceToNat] at k2
 by_cases c3:y1 = true
 · rw [if_pos c3] at h
   by_cases c4:((p1.Secret.size:Nat):Int) ≤ (64:Int)
   · rw [if_pos c4] at h
     by_cases c5:(0:Int) < ((p1.Path.length:Nat):Int)
     · rw [if_pos c5] at h
       by_cases c6:((p1.Path.length:Nat):Int) ≤ (6:Int)
       · rw [if_pos c6] at h
         by_cases c7:((p1.Sigs.length:Nat):Int) = ((p1.Path.length:Nat):Int)
         · rw [if_pos c7] at h
           obtain ⟨y8,hy8,h⟩:=ob h
           have k9:=zdie p1.Path _ hy8
           try simp only [CL,MC,reduceToNat] at k9
           by_cases c10:y8 = true
           · rw [if_pos c10] at h
             injection h with h; subst h
             simp -implicitDefEqProofs only [uq,TT,Ic.t,ci,reduceEqDiff,reduceAdd,reduceLT,reduceCtorEq,hl,k2,c3,c4,c5,c6,eq_true c7,k9,c10,CL]
             first | exact hK | (simp only [hl,k2,c3,c4,c5,c6,eq_true c7,k9,c10,CL] at hK; exact hK)
           rw [if_neg c10] at h
           have c10:=Bool.eq_false_iff.2 c10
           obtain ⟨y11,hy11,h⟩:=ob h
           have k12:=yd p1.Sigs _ hy11
           try simp only [CL,MC,reduceToNat] at k12
           injection h with h; subst h
           simp -implicitDefEqProofs only [uq,TT,Ic.t,ci,reduceEqDiff,reduceAdd,reduceLT,reduceCtorEq,hl,k2,c3,c4,c5,c6,eq_true c7,k9,c10,k12,CL]
           first | exact hK | (simp only [hl,k2,c3,c4,c5,c6,eq_true c7,k9,c10,k12,CL] at hK; exact hK)
         rw [if_neg c7] at h
         injection h with h; subst h
         simp -implicitDefEqProofs only [uq,TT,Ic.t,ci,reduceEqDiff,reduceAdd,reduceLT,reduceCtorEq,hl,k2,c3,c4,c5,c6,c7,CL]
         first | exact hK | (simp only [hl,k2,c3,c4,c5,c6,c7,CL] at hK; exact hK)
       rw [if_neg c6] at h
       injection h with h; subst h
       simp -implicitDefEqProofs only [uq,TT,Ic.t,ci,reduceEqDiff,reduceAdd,reduceLT,reduceCtorEq,hl,k2,c3,c4,c5,c6,CL]
       first | exact hK | (simp only [hl,k2,c3,c4,c5,c6,CL] at hK; exact hK)
     rw [if_neg c5] at h
     injection h with h; subst h
     simp -implicitDefEqProofs only [uq,TT,Ic.t,ci,reduceEqDiff,reduceAdd,reduceLT,reduceCtorEq,hl,k2,c3,c4,c5,CL]
     first | exact hK | (simp only [hl,k2,c3,c4,c5,CL] at hK; exact hK)
   rw [if_neg c4] at h
   injection h with h; subst h
   simp -implicitDefEqProofs only [uq,TT,Ic.t,ci,reduceEqDiff,reduceAdd,reduceLT,reduceCtorEq,hl,k2,c3,c4,CL]
   first | exact hK | (simp only [hl,k2,c3,c4,CL] at hK; exact hK)
 rw [if_neg c3] at h
 have c3:=Bool.eq_false_iff.2 c3
 injection h with h; subst h
 simp -implicitDefEqProofs only [uq,TT,Ic.t,ci,reduceEqDiff,reduceAdd,reduceLT,reduceCtorEq,hl,k2,c3,CL]
 first | exact hK | (simp only [hl,k2,c3,CL] at hK; exact hK)
theorem zdju (p1:ah) (r:Bool) (h:ia p1 = some r) (lk:Bool) (d:Option Nat) (K:ap) (fr:TF) (tk:TK) (τ:TH) (hl:τ.lock ≤ τ.next):du G lk yp [.agg p1.cells] d K fr tk τ = K (fp fr d (.bool r)) tk τ :=
 au (zc07 p1 r h τ  hl) (zc07 p1 r h (τ.locked τ.next)  (Nat.le_refl _) ) (by simp -implicitDefEqProofs only [TT,CL])
def iv (v0:Int) (v2:Nat) (v3:Int) (v1:(List Int)) (v4:Int):Option (LS ((List Int) × Int) ((List Int))) :=
 if v4 < v3 then
  if ¬ (IntKind.i64.wrap ((8:Int) * (IntKind.i64.wrap ((7:Int) - v4)))) < 0 then
   if 0 ≤ v4 ∧ v4 < (v2:Int) then
    if v4.toNat + 1 ≤ v1.length then
     some (.nx ((v1.set v4.toNat (IntKind.u8.wrap (Int.fdiv v0 (2 ^ (Nat.min (IntKind.i64.wrap ((8:Int) * (IntKind.i64.wrap ((7:Int) - v4)))).toNat IntKind.i64.bits))))),(IntKind.i64.wrap (v4 + (1:Int)))))
    else
     none
   else
    none
  else
   none
 else
 some (.dn v1)
def ss (v0:Int) (v2:Nat) (v3:Int) (v1:(List Int)) (v4:Int):Option ((List Int)):=oq (fun st => iv v0 v2 v3 st.1 st.2) (v1,v4)
theorem zc3b (v0:Int) (v2:Nat) (v3:Int) (v1:(List Int)) (v4:Int):ss v0 v2 v3 v1 v4 = iv v0 v2 v3 v1 v4 >>= LS.go (fun st => ss v0 v2 v3 st.1 st.2):=ew (fun st => iv v0 v2 v3 st.1 st.2) (v1,v4)
def zcf0 (v0:Int) (v2:Nat) (v3:Int) (v1:(List Int)) (v4:Int) (r:(List Int)):Prop:=∀ (τ:TH) (o0:Nat) (hl:τ.lock ≤ τ.next) (ha0:τ.at o0 = some ⟨dv,List.map (TV.int .u8) v1⟩) (hi0:o0 < τ.next) (hw0:τ.lock ≤ o0) (Q:TEx → ap) (hQ0:∀ (fr:TF) (tk2:TK) (τ2:TH),lkp fr 3 = .slm o0 0 v2 1 → tk2.take 0 = [] → τ2.cut τ.next = (τ.put o0 ⟨dv,List.map (TV.int .u8) r⟩) → Q (.exit 0) fr tk2 τ2) ,tW G (.loop [0,3,7,8] zcfj) Q [(0,.int .i64 v0),(3,.slm o0 0 v2 1),(7,.int .i64 v3),(8,.int .i64 v4)] [] τ
theorem zdj7 (v0:Int) (v2:Nat) (v3:Int) (v1:(List Int)) (v4:Int) (r:(List Int)) (h:ss v0 v2 v3 v1 v4 = some r):zcf0 v0 v2 v3 v1 v4 r:=by
 refine di (f:=fun st => iv v0 v2 v3 st.1 st.2) (P:=fun st r => ∀ (v1:(List Int)) (v4:Int),(v1,v4) = st → zcf0 v0 v2 v3 v1 v4 r) ?_ h v1 v4 rfl
 clear h r v4 v1
 intro st o h r ih v1 v4 hst τ o0  hl ha0 hi0 hw0 Q hQ0
 subst hst
 have h:iv v0 v2 v3 v1 v4 = some o:=h
 unfold iv at h
 refine mo fun LQ hn hr he => ?_
 by_cases c1:v4 < v3
 · rw [if_pos c1] at h
   obtain ⟨c2,h⟩:=ifS h
   obtain ⟨c3,h⟩:=ifS h
   obtain ⟨c4,h⟩:=ifS h
   have f5:(List.map (TV.int .u8) v1).set v4.toNat (.int .u8 (IntKind.u8.wrap (Int.fdiv v0 (2 ^ (Nat.min (IntKind.i64.wrap ((8:Int) * (IntKind.i64.wrap ((7:Int) - v4)))).toNat IntKind.i64.bits))))) = List.map (TV.int .u8) (v1.set v4.toNat (IntKind.u8.wrap (Int.fdiv v0 (2 ^ (Nat.min (IntKind.i64.wrap ((8:Int) * (IntKind.i64.wrap ((7:Int) - v4)))).toNat IntKind.i64.bits))))):=zbyk (enc:=(TV.int .u8)) _ _ _
   injection h with h; subst h
   have ih:=ih (v1.set v4.toNat (IntKind.u8.wrap (Int.fdiv v0 (2 ^ (Nat.min (IntKind.i64.wrap ((8:Int) * (IntKind.i64.wrap ((7:Int) - v4)))).toNat IntKind.i64.bits))))) (IntKind.i64.wrap (v4 + (1:Int))) rfl
   unfold zcf0 at ih
   simp -implicitDefEqProofs only [zcfj,zcev,TT,Ic.t,ci,reduceEqDiff,reduceCtorEq,ha0,hi0,hw0,c1,c2,c3,c4,f5]
   rw [hn]
   simp -implicitDefEqProofs only [TT,reduceEqDiff,reduceCtorEq,hi0]
   exact ih  (τ.put o0 ⟨dv,List.map (TV.int .u8) (v1.set v4.toNat (IntKind.u8.wrap (Int.fdiv v0 (2 ^ (Nat.min (IntKind.i64.wrap ((8:Int) * (IntKind.i64.wrap ((7:Int) - v4)))).toNat IntKind.i64.bits)))))⟩) o0   (by simp only [aa,ag]; assumption) (by simp -implicitDefEqProofs only [TT,hi0]) (by simp only [aa]; assumption) (by assumption) Q (fun fr tk2 τ2 g0 ht hτ => hQ0 fr tk2 τ2 g0 ht (by simpa only [aa,rf,hl,ha0,hi0,hw0] using hτ))
 rw [if_neg c1] at h
 injection h with h; subst h
 obtain rfl:_ = r:=ih
 simp -implicitDefEqProofs only [zcfj,zcev,TT,Ic.t,ci,reduceEqDiff,reduceCtorEq,ha0,hi0,hw0,he,c1]
 exact hQ0  _ _ _  (by rfl) (by rfl) (by simp -implicitDefEqProofs only [TT,jj ha0])
end
end Go.Proofs.Ytjgpklmkdkkooaa
