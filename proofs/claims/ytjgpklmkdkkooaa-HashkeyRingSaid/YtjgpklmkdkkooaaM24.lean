import Derived.Test.YtjgpklmkdkkooaaD4
import Derived.IntWalk
set_option linter.unusedVariables false
set_option linter.unusedSimpArgs false
set_option linter.unusedSectionVars false
open Nat (reduceEqDiff reduceAdd reduceMul reduceLT reduceLeDiff reduceSub)
open Int (reduceToNat reduceNe reduceEq reduceNeg reduceLE)
namespace Go.Proofs.Ytjgpklmkdkkooaa
open Go Go.RowKit Sh Ic
noncomputable def zbza (p1 : ByteArray) : Option ByteArray :=
 if p1.size ≤ 140737488355328 then
  if p1.size + (⟨#[128]⟩ : ByteArray).size ≤ 140737488355328 then
   zb9a (IntKind.u64.wrap ((IntKind.u64.wrap ((p1.size : Nat) : Int)) * (8 : Int))) (p1 ++ (⟨#[128]⟩ : ByteArray)) >>= fun y5 =>
   zb9b (IntKind.u64.wrap ((IntKind.u64.wrap ((p1.size : Nat) : Int)) * (8 : Int))) y5 (0 : Int) >>= fun y7 =>
   zb85 >>= fun y9 =>
   xg >>= fun y11 =>
   if y9.length = 8 then
    if y11.length = 64 then
     if y7.size ≤ 140737488355328 then
      zb9c y11 y9 y7 >>= fun y21 =>
      if y21.length = 8 then
       if 8 ≤ y21.length then
        ixL y21 (0 : Int) >>= fun y30 =>
        zb9d y21 [(IntKind.u8.wrap (Int.fdiv y30 (2 ^ (Nat.min 24 IntKind.u32.bits)))),(IntKind.u8.wrap (Int.fdiv y30 (2 ^ (Nat.min 16 IntKind.u32.bits)))),(IntKind.u8.wrap (Int.fdiv y30 (2 ^ (Nat.min 8 IntKind.u32.bits)))),(IntKind.u8.wrap y30)] (IntKind.i64.wrap ((0 : Int) + (1 : Int))) >>= fun y33 =>
        some (yu y33)
       else
        none
      else
       none
     else
      none
    else
     none
   else
    none
  else
   none
 else
  none
theorem zc5y (p1 : ByteArray) (r : ByteArray) (h : zbza p1 = some r) (τ : TH) (hl : τ.lock ≤ τ.next) : Ru G zbzb [.str p1] τ (.str r) τ:=by
 refine gp fun K hK => ?_
 rw [bc zbt0 (Nat.le_of_ble_eq_true rfl)]
 unfold zbza at h
 obtain ⟨c1,h⟩:=ifS h
 have k2:=fun (id : Nat) (d : Option Nat) (K : ap) (fr : TF) (tk : TK) (τ : TH) (ha : τ.at id = some (ek id false ⟨#[]⟩)) (hi : id < τ.next) (hw : τ.lock ≤ id) (hl : τ.lock ≤ τ.next) => zddz id d K fr tk τ ha hi hw hl p1 c1
 obtain ⟨c3,h⟩:=ifS h
 have k4:=fun (id : Nat) (d : Option Nat) (K : ap) (fr : TF) (tk : TK) (τ : TH) (ha : τ.at id = some (ek id true p1)) (hi : id < τ.next) (hw : τ.lock ≤ id) (hl : τ.lock ≤ τ.next) => yn p1 id true d K fr tk τ ha hi hw hl (by exact .inl rfl) (⟨#[128]⟩ : ByteArray) c3
 obtain ⟨y5,hy5,h⟩:=ob h
 simp -implicitDefEqProofs only [rz,TT,Ic.t,ci,reduceEqDiff,reduceLT,reduceCtorEq,hl,k2,bu,k4]
 have Sy5:=zdha (IntKind.u64.wrap ((IntKind.u64.wrap ((p1.size : Nat) : Int)) * (8 : Int))) (p1 ++ (⟨#[128]⟩ : ByteArray)) y5 hy5
 unfold zcep at Sy5
 refine Sy5 _ τ.next (by simp only [ak,aq]; omega) true (by exact .inl rfl) (by simp -implicitDefEqProofs only [TT]) (by simp only [ak]; omega) (by assumption) _ ?_
 intro frq6 tkq6 τq6 ubz6_0 huubz6_0 g3q6 g4q6 htq6 hcq6
 have hcq6:=dp (n:=τ.next + 1) hcq6 (by simp only [ak]; omega)
 try simp only [List.take_zero] at htq6
 try simp -implicitDefEqProofs only [TT] at hcq6
 obtain ⟨y7,hy7,h⟩:=ob h
 simp -implicitDefEqProofs only [TT,reduceEqDiff,reduceLT,g3q6,g4q6,hcq6]
 have Sy7:=zdhb (IntKind.u64.wrap ((IntKind.u64.wrap ((p1.size : Nat) : Int)) * (8 : Int))) y5 (0 : Int) y7 hy7
 unfold zceq at Sy7
 refine Sy7 _ τ.next (by simp only [ak,aq]; omega) ubz6_0 (by assumption) (by simp -implicitDefEqProofs only [TT]) (by simp only [ak]; omega) (by assumption) _ ?_
 intro frq8 tkq8 τq8 ubz8_0 huubz8_0 g4q8 htq8 hcq8
 have hcq8:=dp (n:=τ.next + 1) hcq8 (by simp only [ak]; omega)
 try simp only [List.take_zero] at htq8
 try simp -implicitDefEqProofs only [TT] at hcq8
 obtain ⟨y9,hy9,h⟩:=ob h
 have k10:=zdc4  _ hy9
 try simp only [CL,MC,reduceToNat] at k10
 obtain ⟨y11,hy11,h⟩:=ob h
 have k12:=zdi7  _ hy11
 try simp only [CL,MC,reduceToNat] at k12
 obtain ⟨c13,h⟩:=ifS h
 have f14 : (List.map (TV.int .u32) y9 = []) = False:=zb6n c13 (by decide)
 have f15 : y9.length ≤ 8:=Nat.le_of_eq c13
 obtain ⟨c16,h⟩:=ifS h
 have f17 : (List.map (TV.int .u32) y11 = []) = False:=zb6n c16 (by decide)
 have f18 : y11.length ≤ 64:=Nat.le_of_eq c16
 obtain ⟨c19,h⟩:=ifS h
 have k20:=fun (id : Nat) (d : Option Nat) (K : ap) (fr : TF) (tk : TK) (τ : TH) (ha : τ.at id = some (ek id ubz8_0 y7)) (hi : id < τ.next) (hw : τ.lock ≤ id) (hl : τ.lock ≤ τ.next) => zclj y7 id ubz8_0 d K fr tk τ ha hi hw hl (by assumption) c19
 obtain ⟨y21,hy21,h⟩:=ob h
 simp -implicitDefEqProofs only [TT,Ic.t,reduceEqDiff,reduceAdd,reduceLT,hl,g4q8,hcq8,k10,k12,c13,f14,bv,c16,f17,k20,LTN]
 have Sy21:=zdhc y11 y9 y7 y21 hy21
 unfold zces at Sy21
 refine Sy21 _ (τ.next + 1) (τ.next + 2) (by simp only [ak,aq]; omega) (by simp -implicitDefEqProofs only [TT,reduceAdd,reduceLT]; done) (by simp only [ak]; omega) (by simp only [aq]; omega) (by simp -implicitDefEqProofs only [TT,reduceAdd]; done) (by simp only [ak]; omega) (by omega) _ ?_
 intro frq22 tkq22 τq22 g6q22 htq22 hcq22
 have hcq22:=dp (n:=τ.next + 3) hcq22 (by simp only [ak]; omega)
 try simp only [List.take_zero] at htq22
 try simp -implicitDefEqProofs only [TT,reduceAdd,reduceLT] at hcq22
 have f23 : (32 : Int) * ((1 : Nat) : Int) ≤ 140737488355328:=by decide
 obtain ⟨c24,h⟩:=ifS h
 have f25 : 8 ≤ y21.length:=Nat.le_of_eq (Eq.symm c24)
 have f26 : List.take 8 (List.map (TV.int .u32) y21) = List.map (TV.int .u32) y21:=zcdq c24
 simp -implicitDefEqProofs only [zb3j,rz,TT,Ic.t,ci,reduceEqDiff,reduceAdd,reduceLT,reduceCtorEq,reduceLE,g6q22,hcq22,f23,c24,f26,LTN]
 refine mo fun LQz27 hnz27 hrz27 hez27 => ?_
 have f28 : (0 : Int) < ((8 : Nat) : Int):=by decide
 obtain ⟨c29,h⟩:=ifS h
 obtain ⟨y30,hy30,h⟩:=ob h
 have f31:=av hy30
 have f31a:=(f31.2.2 (TV.int .u32)).1
 have f31b:=(f31.2.2 (TV.int .u32)).2
 try simp only [reduceToNat] at f31 f31a f31b
 have f32 : 4 ≤ maxLen:=by unfold maxLen; omega
 obtain ⟨y33,hy33,h⟩:=ob h
 simp -implicitDefEqProofs only [TT,Ic.t,reduceEqDiff,reduceAdd,reduceLT,reduceLeDiff,reduceCtorEq,reduceToNat,Int.reduceLT,c24,hnz27,hez27,f28,f31.1,f31b,f32,LTN]
 have Sy33:=zdhd y21 [(IntKind.u8.wrap (Int.fdiv y30 (2 ^ (Nat.min 24 IntKind.u32.bits)))),(IntKind.u8.wrap (Int.fdiv y30 (2 ^ (Nat.min 16 IntKind.u32.bits)))),(IntKind.u8.wrap (Int.fdiv y30 (2 ^ (Nat.min 8 IntKind.u32.bits)))),(IntKind.u8.wrap y30)] (IntKind.i64.wrap ((0 : Int) + (1 : Int))) y33 hy33
 unfold zcet at Sy33
 refine Sy33 _ 4 dv (by rfl) (by exact Or.inr rfl) (by simp only [ak,aq]; omega) _ ?_
 intro frq34 tkq34 τq34 u0q34 uh0q34 g9q34 htq34 hcq34
 have hcq34:=dp (n:=τ.next + 3) hcq34 (by simp only [ak]; omega)
 try simp only [List.take_succ_cons,List.take_zero,List.take_nil,CL] at htq34
 try simp -implicitDefEqProofs only [TT,reduceAdd] at hcq34
 injection h with h; subst h
 simp -implicitDefEqProofs only [TT,Ic.t,reduceAdd,reduceLT,g9q34,htq34,hcq34,LTN]
 exact hK
theorem zchc (p1 : ByteArray) (r : ByteArray) (h : zbza p1 = some r) (lk : Bool) (d : Option Nat) (K : ap) (fr : TF) (tk : TK) (τ : TH) (hl : τ.lock ≤ τ.next) : du G lk zbzb [.str p1] d K fr tk τ = K (fp fr d (.str r)) tk τ :=
 au (zc5y p1 r h τ  hl) (zc5y p1 r h (τ.locked τ.next)  (Nat.le_refl _) ) (by simp -implicitDefEqProofs only [TT])
noncomputable def zb29 (p1 : ByteArray) : Option ByteArray :=
 zbza p1 >>= fun y1 =>
 some y1
theorem zdb8 (p1 : ByteArray) (r : ByteArray) (h : zb29 p1 = some r) (τ : TH) (hl : τ.lock ≤ τ.next) : Ru G zb3b [.str p1] τ (.func fy [] [.ptr τ.next 0]) (τ.push ⟨a9,[.str r]⟩):=by
 refine gp fun K hK => ?_
 rw [bc zbav (Nat.le_of_ble_eq_true rfl)]
 unfold zb29 at h
 obtain ⟨y1,hy1,h⟩:=ob h
 have k2:=zchc p1 _ hy1
 try simp only [CL,MC,reduceToNat] at k2
 injection h with h; subst h
 simp -implicitDefEqProofs only [zbmr,TT,Ic.t,reduceEqDiff,reduceLT,reduceCtorEq,hl,k2]
 exact hK
theorem zc71 (p1 : ByteArray) (r : ByteArray) (h : zb29 p1 = some r) (d : Option Nat) (K : ap) (fr : TF) (tk : TK) (τ : TH) (hl : τ.lock ≤ τ.next) : du G false zb3b [.str p1] d K fr tk τ = K (fp fr d (.func fy [] [.ptr τ.next 0])) tk (τ.push ⟨a9,[.str r]⟩) :=
 zby2 (zdb8 p1 r h τ  hl) (by simp -implicitDefEqProofs only [TT])
noncomputable def xh (p1 : Int) (p2 : ByteArray) : Option Int :=
 ixB p2 (IntKind.i64.wrap (Int.tdiv p1 (8 : Int))) >>= fun b1 =>
 if ¬ (IntKind.i64.wrap ((7 : Int) - (Int.tmod p1 (8 : Int)))) < 0 then
  some (IntKind.i64.wrap ((BitVec.ofInt IntKind.i64.bits (IntKind.i64.wrap (Int.fdiv b1 (2 ^ (Nat.min (IntKind.i64.wrap ((7 : Int) - (Int.tmod p1 (8 : Int)))).toNat IntKind.u8.bits)))) &&& BitVec.ofInt IntKind.i64.bits (1 : Int)).toNat : Int)) >>= fun x4 =>
  some x4
 else
  none
theorem zcx2 (p1 : Int) (p2 : ByteArray) (r : Int) (h : xh p1 p2 = some r) (τ : TH) (o0 : Nat) (hl : τ.lock ≤ τ.next) (ha0 : τ.at o0 = some ⟨a9,[.str p2]⟩) (hi0 : o0 < τ.next) : Ru G fy [.int .i64 p1,.ptr o0 0] τ (.int .i64 r) τ:=by
 refine gp fun K hK => ?_
 rw [bc zdbs (Nat.le_of_ble_eq_true rfl)]
 unfold xh at h
 obtain ⟨b1,hb1,h⟩:=ob h
 have f2:=zbwx hb1
 try simp only [CL,MC,reduceToNat] at f2
 obtain ⟨c3,h⟩:=ifS h
 obtain ⟨x4,hx4,h⟩:=ob h
 have f5:=Option.some.inj hx4
 injection h with h; subst h
 simp -implicitDefEqProofs only [zdbk,TT,Ic.t,ci,reduceEqDiff,reduceAdd,reduceCtorEq,reduceEq,ha0,f2.1,f2.2.1,f2.2.2,c3,f5]
 exact hK
theorem zcx1 (p1 : Int) (p2 : ByteArray) (r : Int) (h : xh p1 p2 = some r) (lk : Bool) (d : Option Nat) (K : ap) (fr : TF) (tk : TK) (τ : TH) (o0 : Nat) (hl : τ.lock ≤ τ.next) (ha0 : τ.at o0 = some ⟨a9,[.str p2]⟩) (hi0 : o0 < τ.next) : du G lk fy [.int .i64 p1,.ptr o0 0] d K fr tk τ = K (fp fr d (.int .i64 r)) tk τ :=
 au (zcx2 p1 p2 r h τ o0 hl ha0 hi0) (zcx2 p1 p2 r h (τ.locked τ.next) o0 (Nat.le_refl _) (by rw [ww]; exact ha0) hi0) (by simp -implicitDefEqProofs only [TT,hi0])
noncomputable def um (p1 : ByteArray) : Option ByteArray :=
 zbza p1 >>= fun y1 =>
 if 0 ≤ (16 : Int) ∧ (16 : Int) ≤ (y1.size : Int) then
  some (y1.extract 0 16)
 else
  none
theorem zcvi (p1 : ByteArray) (r : ByteArray) (h : um p1 = some r) (τ : TH) (hl : τ.lock ≤ τ.next) : Ru G uu [.str p1] τ (.str r) τ:=by
 refine gp fun K hK => ?_
 rw [bc zdai (Nat.le_of_ble_eq_true rfl)]
 unfold um at h
 obtain ⟨y1,hy1,h⟩:=ob h
 have k2:=zchc p1 _ hy1
 try simp only [CL,MC,reduceToNat] at k2
 obtain ⟨c3,h⟩:=ifS h
 injection h with h; subst h
 simp -implicitDefEqProofs only [zdad,TT,Ic.t,ci,reduceCtorEq,reduceToNat,hl,k2,c3]
 exact hK
theorem zcem (p1 : ByteArray) (r : ByteArray) (h : um p1 = some r) (lk : Bool) (d : Option Nat) (K : ap) (fr : TF) (tk : TK) (τ : TH) (hl : τ.lock ≤ τ.next) : du G lk uu [.str p1] d K fr tk τ = K (fp fr d (.str r)) tk τ :=
 au (zcvi p1 r h τ  hl) (zcvi p1 r h (τ.locked τ.next)  (Nat.le_refl _) ) (by simp -implicitDefEqProofs only [TT])
noncomputable def zb3k (p1 : ByteArray) (p2 : Int) (p3 : Int) (p4 : Int) : Option ByteArray :=
 zb3l p2 >>= fun y1 =>
 if y1 = true then
  if p3 < (0 : Int) then
   some (⟨#[]⟩ : ByteArray)
  else
  if (16 : Int) ≤ p3 then
   some (⟨#[]⟩ : ByteArray)
  else
  if p4 < (0 : Int) then
   some (⟨#[]⟩ : ByteArray)
  else
  if (2 : Int) ≤ p4 then
   some (⟨#[]⟩ : ByteArray)
  else
  if ¬ (9223372036854775807 < ((p1.size + (yu [(IntKind.u8.wrap p2),(IntKind.u8.wrap p3),(IntKind.u8.wrap p4)]).size : Nat) : Int)) then
   um (p1 ++ (yu [(IntKind.u8.wrap p2),(IntKind.u8.wrap p3),(IntKind.u8.wrap p4)])) >>= fun y9 =>
   some y9
  else
   none
 else
 some (⟨#[]⟩ : ByteArray)
theorem zcvt (p1 : ByteArray) (p2 : Int) (p3 : Int) (p4 : Int) (r : ByteArray) (h : zb3k p1 p2 p3 p4 = some r) (τ : TH) (hl : τ.lock ≤ τ.next) : Ru G zb3e [.str p1,.int .i64 p2,.int .i64 p3,.int .i64 p4] τ (.str r) τ:=by
 refine gp fun K hK => ?_
 rw [bc zdag (Nat.le_of_ble_eq_true rfl)]
 unfold zb3k at h
 obtain ⟨y1,hy1,h⟩:=ob h
 have k2:=zcvu p2 _ hy1
 try simp only [CL,MC,reduceToNat] at k2
 by_cases c3 : y1 = true
 · rw [if_pos c3] at h
   by_cases c4 : p3 < (0 : Int)
   · rw [if_pos c4] at h
     injection h with h; subst h
     simp -implicitDefEqProofs only [zb7l,TT,Ic.t,ci,reduceEqDiff,reduceAdd,reduceCtorEq,hl,k2,c3,c4,LTN]
     first | exact hK | (simp only [hl,k2,c3,c4,CL] at hK; exact hK)
   rw [if_neg c4] at h
   by_cases c5 : (16 : Int) ≤ p3
   · rw [if_pos c5] at h
     injection h with h; subst h
     simp -implicitDefEqProofs only [zb7l,TT,Ic.t,ci,reduceEqDiff,reduceAdd,reduceCtorEq,hl,k2,c3,c4,c5,LTN]
     first | exact hK | (simp only [hl,k2,c3,c4,c5,CL] at hK; exact hK)
   rw [if_neg c5] at h
   by_cases c6 : p4 < (0 : Int)
   · rw [if_pos c6] at h
     injection h with h; subst h
     simp -implicitDefEqProofs only [zb7l,TT,Ic.t,ci,reduceEqDiff,reduceAdd,reduceCtorEq,hl,k2,c3,c4,c5,c6,LTN]
     first | exact hK | (simp only [hl,k2,c3,c4,c5,c6,CL] at hK; exact hK)
   rw [if_neg c6] at h
   by_cases c7 : (2 : Int) ≤ p4
   · rw [if_pos c7] at h
     injection h with h; subst h
     simp -implicitDefEqProofs only [zb7l,TT,Ic.t,ci,reduceEqDiff,reduceAdd,reduceCtorEq,hl,k2,c3,c4,c5,c6,c7,LTN]
     first | exact hK | (simp only [hl,k2,c3,c4,c5,c6,c7,CL] at hK; exact hK)
   rw [if_neg c7] at h
   obtain ⟨c8,h⟩:=ifS h
   obtain ⟨y9,hy9,h⟩:=ob h
   have k10:=zcem (p1 ++ (yu [(IntKind.u8.wrap p2),(IntKind.u8.wrap p3),(IntKind.u8.wrap p4)])) _ hy9
   try simp only [CL,MC,reduceToNat] at k10
   injection h with h; subst h
   simp -implicitDefEqProofs only [zb7l,TT,Ic.t,ci,reduceEqDiff,reduceAdd,reduceCtorEq,hl,k2,c3,c4,c5,c6,c7,c8,k10,LTN]
   first | exact hK | (simp only [hl,k2,c3,c4,c5,c6,c7,c8,k10,CL] at hK; exact hK)
 rw [if_neg c3] at h
 have c3:=Bool.eq_false_iff.2 c3
 injection h with h; subst h
 simp -implicitDefEqProofs only [zb7l,TT,Ic.t,ci,reduceEqDiff,reduceAdd,reduceCtorEq,hl,k2,c3,LTN]
 first | exact hK | (simp only [hl,k2,c3,CL] at hK; exact hK)
theorem zcvs (p1 : ByteArray) (p2 : Int) (p3 : Int) (p4 : Int) (r : ByteArray) (h : zb3k p1 p2 p3 p4 = some r) (lk : Bool) (d : Option Nat) (K : ap) (fr : TF) (tk : TK) (τ : TH) (hl : τ.lock ≤ τ.next) : du G lk zb3e [.str p1,.int .i64 p2,.int .i64 p3,.int .i64 p4] d K fr tk τ = K (fp fr d (.str r)) tk τ :=
 au (zcvt p1 p2 p3 p4 r h τ  hl) (zcvt p1 p2 p3 p4 r h (τ.locked τ.next)  (Nat.le_refl _) ) (by simp -implicitDefEqProofs only [TT])
noncomputable def zb7z (p1 : Int) (p2 : ByteArray) (p3 : Int) (p4 : ByteArray) : Option ByteArray :=
 xh p1 p4 >>= fun y1 =>
 zb3k p2 p3 p1 y1 >>= fun y3 =>
 zb3k p2 p3 p1 (IntKind.i64.wrap ((1 : Int) - y1)) >>= fun y5 =>
 um y5 >>= fun y7 =>
 if ¬ (9223372036854775807 < ((y3.size + y7.size : Nat) : Int)) then
  some (y3 ++ y7)
 else
  none
theorem zcxz (p1 : Int) (p2 : ByteArray) (p3 : Int) (p4 : ByteArray) (r : ByteArray) (h : zb7z p1 p2 p3 p4 = some r) (τ : TH) (o0 : Nat) (o1 : Nat) (o2 : Nat) (o3 : Nat) (hl : τ.lock ≤ τ.next) (ha0 : τ.at o0 = some ⟨a9,[.str p2]⟩) (hi0 : o0 < τ.next) (ha1 : τ.at o1 = some ⟨jy,[.int .i64 p3]⟩) (hi1 : o1 < τ.next) (ha2 : τ.at o2 = some ⟨jc,[.func fy [] [.ptr o3 0]]⟩) (hi2 : o2 < τ.next) (ha3 : τ.at o3 = some ⟨a9,[.str p4]⟩) (hi3 : o3 < τ.next) : Ru G se [.int .i64 p1,.ptr o0 0,.ptr o1 0,.ptr o2 0] τ (.str r) τ:=by
 refine gp fun K hK => ?_
 rw [bc zdbq (Nat.le_of_ble_eq_true rfl)]
 unfold zb7z at h
 obtain ⟨y1,hy1,h⟩:=ob h
 have k2:=zcx1 p1 p4 _ hy1
 try simp only [CL,MC,reduceToNat] at k2
 obtain ⟨y3,hy3,h⟩:=ob h
 have k4:=zcvs p2 p3 p1 y1 _ hy3
 try simp only [CL,MC,reduceToNat] at k4
 obtain ⟨y5,hy5,h⟩:=ob h
 have k6:=zcvs p2 p3 p1 (IntKind.i64.wrap ((1 : Int) - y1)) _ hy5
 try simp only [CL,MC,reduceToNat] at k6
 obtain ⟨y7,hy7,h⟩:=ob h
 have k8:=zcem y5 _ hy7
 try simp only [CL,MC,reduceToNat] at k8
 obtain ⟨c9,h⟩:=ifS h
 injection h with h; subst h
 simp -implicitDefEqProofs only [jg,jd,List.isEmpty_cons,ei,tD,pnK,kj,gq,List.filter_cons,List.filter_nil,List.filterMap_cons,List.filterMap_nil,bg,dg,mf,dm,Ins.dsts,Ins.looks,I.ops,pt,ta,List.all_cons,List.all_nil,List.any_cons,List.any_nil,List.contains_cons,List.contains_nil,List.nil_append,List.cons_append,Option.toList_some,Option.isSome_some,Option.isSome_none,Bool.and_true,Bool.and_false,Bool.or_false,Bool.or_true,Bool.not_false,and_true,true_and,and_false,Nat.reduceBEq,zdbj,TT,Ic.t,ci,reduceEqDiff,reduceAdd,reduceCtorEq,hl,ha0,ha1,ha2,ha3,hi3,k2,k4,k6,k8,c9]
 exact hK
theorem zdg7 (p1 : Int) (p2 : ByteArray) (p3 : Int) (p4 : ByteArray) (r : ByteArray) (h : zb7z p1 p2 p3 p4 = some r) (lk : Bool) (d : Option Nat) (K : ap) (fr : TF) (tk : TK) (τ : TH) (o0 : Nat) (o1 : Nat) (o2 : Nat) (o3 : Nat) (hl : τ.lock ≤ τ.next) (ha0 : τ.at o0 = some ⟨a9,[.str p2]⟩) (hi0 : o0 < τ.next) (ha1 : τ.at o1 = some ⟨jy,[.int .i64 p3]⟩) (hi1 : o1 < τ.next) (ha2 : τ.at o2 = some ⟨jc,[.func fy [] [.ptr o3 0]]⟩) (hi2 : o2 < τ.next) (ha3 : τ.at o3 = some ⟨a9,[.str p4]⟩) (hi3 : o3 < τ.next) : du G lk se [.int .i64 p1,.ptr o0 0,.ptr o1 0,.ptr o2 0] d K fr tk τ = K (fp fr d (.str r)) tk τ :=
 au (zcxz p1 p2 p3 p4 r h τ o0 o1 o2 o3 hl ha0 hi0 ha1 hi1 ha2 hi2 ha3 hi3) (zcxz p1 p2 p3 p4 r h (τ.locked τ.next) o0 o1 o2 o3 (Nat.le_refl _) (by rw [ww]; exact ha0) hi0 (by rw [ww]; exact ha1) hi1 (by rw [ww]; exact ha2) hi2 (by rw [ww]; exact ha3) hi3) (by simp -implicitDefEqProofs only [TT,hi0,hi1,hi2])
noncomputable def kq (v0 : ByteArray) (v1 : Int) (v2 : ByteArray) (v3 : ByteArray) (v4 : Int) : Option (LS (ByteArray × Int) (ByteArray)) :=
 if v4 < (16 : Int) then
  zb7z v4 v0 v1 v2 >>= fun y2 =>
  if v3.size + y2.size ≤ 140737488355328 then
   some (.nx ((v3 ++ y2),(IntKind.i64.wrap (v4 + (1 : Int)))))
  else
   none
 else
 some (.dn v3)
noncomputable def zb89 (v0 : ByteArray) (v1 : Int) (v2 : ByteArray) (v3 : ByteArray) (v4 : Int) : Option (ByteArray):=oq (fun st => kq v0 v1 v2 st.1 st.2) (v3,v4)
theorem zczp (v0 : ByteArray) (v1 : Int) (v2 : ByteArray) (v3 : ByteArray) (v4 : Int) : zb89 v0 v1 v2 v3 v4 = kq v0 v1 v2 v3 v4 >>= LS.go (fun st => zb89 v0 v1 v2 st.1 st.2):=ew (fun st => kq v0 v1 v2 st.1 st.2) (v3,v4)
def zceo (v0 : ByteArray) (v1 : Int) (v2 : ByteArray) (v3 : ByteArray) (v4 : Int) (r : ByteArray) : Prop:=∀ (τ : TH) (o0 : Nat) (o1 : Nat) (o2 : Nat) (o3 : Nat) (o4 : Nat) (hl : τ.lock ≤ τ.next) (ha0 : τ.at o0 = some ⟨a9,[.str v0]⟩) (hi0 : o0 < τ.next) (ha1 : τ.at o1 = some ⟨jy,[.int .i64 v1]⟩) (hi1 : o1 < τ.next) (ha2 : τ.at o2 = some ⟨jc,[.func fy [] [.ptr o3 0]]⟩) (hi2 : o2 < τ.next) (ha3 : τ.at o3 = some ⟨a9,[.str v2]⟩) (hi3 : o3 < τ.next) (ub4 : Bool) (hub4 : ub4 = true ∨ v3.size = 0) (ha4 : τ.at o4 = some (ek o4 ub4 v3)) (hi4 : o4 < τ.next) (hw4 : τ.lock ≤ o4) (hn0_4 : o0 ≠ o4) (hn1_4 : o1 ≠ o4) (hn2_4 : o2 ≠ o4) (hn3_4 : o3 ≠ o4) (Q : TEx → ap) (hQ0 : ∀ (fr : TF) (tk2 : TK) (τ2 : TH),∀ (ubx4 : Bool),(ubx4 = true ∨ r.size = 0) → lkp fr 3 = .ptr o4 0 → tk2.take 0 = [] → τ2.cut τ.next = (τ.put o4 (ek o4 ubx4 r)) → Q (.exit 0) fr tk2 τ2) ,tW G (.loop [0,3,5] zb3i) Q [(0,.func se [] [.ptr o0 0,.ptr o1 0,.ptr o2 0]),(3,.ptr o4 0),(5,.int .i64 v4)] [] τ
theorem zdg9 (v0 : ByteArray) (v1 : Int) (v2 : ByteArray) (v3 : ByteArray) (v4 : Int) (r : ByteArray) (h : zb89 v0 v1 v2 v3 v4 = some r) : zceo v0 v1 v2 v3 v4 r:=by
 refine di (f:=fun st => kq v0 v1 v2 st.1 st.2) (P:=fun st r => ∀ (v3 : ByteArray) (v4 : Int),(v3,v4) = st → zceo v0 v1 v2 v3 v4 r) ?_ h v3 v4 rfl
 clear h r v4 v3
 intro st o h r ih v3 v4 hst τ o0 o1 o2 o3 o4  hl ha0 hi0 ha1 hi1 ha2 hi2 ha3 hi3 ub4 hub4 ha4 hi4 hw4 hn0_4 hn1_4 hn2_4 hn3_4 Q hQ0
 subst hst
 have h : kq v0 v1 v2 v3 v4 = some o:=h
 unfold kq at h
 refine mo fun LQ hn hr he => ?_
 by_cases c1 : v4 < (16 : Int)
 · rw [if_pos c1] at h
   obtain ⟨y2,hy2,h⟩:=ob h
   have k3:=fun (lk : Bool) (d : Option Nat) (K : ap) (fr : TF) (tk : TK) (τ' : TH) (o'0 : Nat) (o'1 : Nat) (o'2 : Nat) => zdg7 v4 v0 v1 v2 _ hy2 lk d K fr tk τ' o'0 o'1 o'2 o3
   try simp only [CL,MC,reduceToNat] at k3
   obtain ⟨c4,h⟩:=ifS h
   have k5:=fun (id : Nat) (d : Option Nat) (K : ap) (fr : TF) (tk : TK) (τ : TH) (ha : τ.at id = some (ek id ub4 v3)) (hi : id < τ.next) (hw : τ.lock ≤ id) (hl : τ.lock ≤ τ.next) => yn v3 id ub4 d K fr tk τ ha hi hw hl (by assumption) y2 c4
   injection h with h; subst h
   have ih:=ih (v3 ++ y2) (IntKind.i64.wrap (v4 + (1 : Int))) rfl
   unfold zceo at ih
   simp -implicitDefEqProofs only [zb3i,zby7,TT,Ic.t,ci,reduceEqDiff,reduceCtorEq,hl,ha0,hi0,ha1,hi1,ha2,hi2,ha3,hi3,ha4,hi4,hw4,c1,k3,k5]
   rw [hn]
   simp -implicitDefEqProofs only [TT,reduceEqDiff,reduceCtorEq,hi0,hi1,hi2,hi4]
   exact ih  (τ.put o4 (ek o4 true (v3 ++ y2))) o0 o1 o2 o3 o4   (by simp only [aa,ag]; assumption) (by simp -implicitDefEqProofs only [TT,ha0,nq hn0_4]) (by simp only [aa]; assumption) (by simp -implicitDefEqProofs only [TT,ha1,nq hn1_4]) (by simp only [aa]; assumption) (by simp -implicitDefEqProofs only [TT,ha2,nq hn2_4]) (by simp only [aa]; assumption) (by simp -implicitDefEqProofs only [TT,ha3,nq hn3_4]) (by simp only [aa]; assumption) true (by exact .inl rfl) (by simp -implicitDefEqProofs only [TT,hi4]) (by simp only [aa]; assumption) (by assumption) hn0_4 hn1_4 hn2_4 hn3_4 Q (fun fr tk2 τ2 w4 w4' g0 ht hτ => hQ0 fr tk2 τ2 w4 w4' g0 ht (by simpa only [aa,oc,hl,ha0,hi0,ha1,hi1,ha2,hi2,ha3,hi3,bu,ha4,hi4,hw4,nq hn0_4,nq hn1_4,nq hn2_4,nq hn3_4] using hτ))
 rw [if_neg c1] at h
 injection h with h; subst h
 obtain rfl : _ = r:=ih
 simp -implicitDefEqProofs only [zb3i,zby7,TT,Ic.t,ci,reduceEqDiff,reduceCtorEq,he,c1]
 exact hQ0  _ _ _ ub4 (by assumption) (by rfl) (by rfl) (by simp -implicitDefEqProofs only [TT,jj ha4])
noncomputable def zb64 (p1 : ByteArray) (p2 : Int) (p3 : ByteArray) : Option ByteArray :=
 zb89 p1 p2 p3 (⟨#[]⟩ : ByteArray) (0 : Int) >>= fun y1 =>
 if y1.size ≤ 140737488355328 then
  some y1
 else
  none
theorem zc59 (p1 : ByteArray) (p2 : Int) (p3 : ByteArray) (r : ByteArray) (h : zb64 p1 p2 p3 = some r) (τ : TH) (o0 : Nat) (o1 : Nat) (o2 : Nat) (o3 : Nat) (hl : τ.lock ≤ τ.next) (ha0 : τ.at o0 = some ⟨a9,[.str p1]⟩) (hi0 : o0 < τ.next) (ha1 : τ.at o1 = some ⟨jy,[.int .i64 p2]⟩) (hi1 : o1 < τ.next) (ha2 : τ.at o2 = some ⟨jc,[.func fy [] [.ptr o3 0]]⟩) (hi2 : o2 < τ.next) (ha3 : τ.at o3 = some ⟨a9,[.str p3]⟩) (hi3 : o3 < τ.next) : Ru G zbww [.func se [] [.ptr o0 0,.ptr o1 0,.ptr o2 0]] τ (.str r) τ:=by
 refine gp fun K hK => ?_
 rw [bc zcq5 (Nat.le_of_ble_eq_true rfl)]
 unfold zb64 at h
 obtain ⟨y1,hy1,h⟩:=ob h
 simp -implicitDefEqProofs only [zby7,TT,Ic.t,ci,reduceEqDiff,reduceCtorEq]
 have Sy1:=zdg9 p1 p2 p3 (⟨#[]⟩ : ByteArray) (0 : Int) y1 hy1
 unfold zceo at Sy1
 refine Sy1 _ o0 o1 o2 o3 τ.next (by simp only [ak,aq]; omega) (by simp -implicitDefEqProofs only [TT,ha0,hi0]) (by simp only [ak]; omega) (by simp -implicitDefEqProofs only [TT,ha1,hi1]) (by simp only [ak]; omega) (by simp -implicitDefEqProofs only [TT,ha2,hi2]) (by simp only [ak]; omega) (by simp -implicitDefEqProofs only [TT,ha3,hi3]) (by simp only [ak]; omega) false (by exact .inr rfl) (by simp -implicitDefEqProofs only [TT,bu]) (by simp only [ak]; omega) (by assumption) (by omega) (by omega) (by omega) (by omega) _ ?_
 intro frq2 tkq2 τq2 ubz2_4 huubz2_4 g3q2 htq2 hcq2
 have hcq2:=dp (n:=τ.next + 1) hcq2 (by simp only [ak]; omega)
 try simp only [List.take_zero] at htq2
 try simp -implicitDefEqProofs only [TT] at hcq2
 obtain ⟨c3,h⟩:=ifS h
 have k4:=fun (id : Nat) (d : Option Nat) (K : ap) (fr : TF) (tk : TK) (τ : TH) (ha : τ.at id = some (ek id ubz2_4 y1)) (hi : id < τ.next) (hw : τ.lock ≤ id) (hl : τ.lock ≤ τ.next) => zclj y1 id ubz2_4 d K fr tk τ ha hi hw hl (by assumption) c3
 injection h with h; subst h
 simp -implicitDefEqProofs only [TT,Ic.t,reduceLT,hl,g3q2,hcq2,k4]
 exact hK
theorem zdau (p1 : ByteArray) (p2 : Int) (p3 : ByteArray) (r : ByteArray) (h : zb64 p1 p2 p3 = some r) (lk : Bool) (d : Option Nat) (K : ap) (fr : TF) (tk : TK) (τ : TH) (o0 : Nat) (o1 : Nat) (o2 : Nat) (o3 : Nat) (hl : τ.lock ≤ τ.next) (ha0 : τ.at o0 = some ⟨a9,[.str p1]⟩) (hi0 : o0 < τ.next) (ha1 : τ.at o1 = some ⟨jy,[.int .i64 p2]⟩) (hi1 : o1 < τ.next) (ha2 : τ.at o2 = some ⟨jc,[.func fy [] [.ptr o3 0]]⟩) (hi2 : o2 < τ.next) (ha3 : τ.at o3 = some ⟨a9,[.str p3]⟩) (hi3 : o3 < τ.next) : du G lk zbww [.func se [] [.ptr o0 0,.ptr o1 0,.ptr o2 0]] d K fr tk τ = K (fp fr d (.str r)) tk τ :=
 au (zc59 p1 p2 p3 r h τ o0 o1 o2 o3 hl ha0 hi0 ha1 hi1 ha2 hi2 ha3 hi3) (zc59 p1 p2 p3 r h (τ.locked τ.next) o0 o1 o2 o3 (Nat.le_refl _) (by rw [ww]; exact ha0) hi0 (by rw [ww]; exact ha1) hi1 (by rw [ww]; exact ha2) hi2 (by rw [ww]; exact ha3) hi3) (by simp -implicitDefEqProofs only [TT,hi0,hi1,hi2])
noncomputable def zbze (p1 : ByteArray) (p2 : Int) (p3 : ByteArray) : Option ByteArray :=
 zb3l p2 >>= fun y1 =>
 if y1 = true then
  zb29 p3 >>= fun y4 =>
  zb64 p1 p2 y4 >>= fun y6 =>
  some y6
 else
 some (⟨#[]⟩ : ByteArray)
theorem zc7z (p1 : ByteArray) (p2 : Int) (p3 : ByteArray) (r : ByteArray) (h : zbze p1 p2 p3 = some r) (τ : TH) (hl : τ.lock ≤ τ.next) : Ru G zb3a [.str p1,.int .i64 p2,.str p3] τ (.str r) τ:=by
 refine gp fun K hK => ?_
 rw [bc zbbj (Nat.le_of_ble_eq_true rfl)]
 unfold zbze at h
 obtain ⟨y1,hy1,h⟩:=ob h
 have k2:=zcvu p2 _ hy1
 try simp only [CL,MC,reduceToNat] at k2
 by_cases c3 : y1 = true
 · rw [if_pos c3] at h
   obtain ⟨y4,hy4,h⟩:=ob h
   have k5:=zc71 p3 _ hy4
   try simp only [CL,MC,reduceToNat] at k5
   obtain ⟨y6,hy6,h⟩:=ob h
   have k7:=fun (lk : Bool) (d : Option Nat) (K : ap) (fr : TF) (tk : TK) (τ' : TH) (o'0 : Nat) (o'1 : Nat) (o'2 : Nat) => zdau p1 p2 y4 _ hy6 lk d K fr tk τ' o'0 o'1 o'2 (τ.next + 2)
   try simp only [CL,MC,reduceToNat] at k7
   injection h with h; subst h
   simp -implicitDefEqProofs only [zcsn,TT,Ic.t,reduceEqDiff,reduceAdd,reduceLT,reduceCtorEq,hl,k2,c3,k5,k7]
   first | exact hK | (simp only [hl,k2,c3,k5,k7,CL] at hK; exact hK)
 rw [if_neg c3] at h
 have c3:=Bool.eq_false_iff.2 c3
 injection h with h; subst h
 simp -implicitDefEqProofs only [zcsn,TT,Ic.t,reduceEqDiff,reduceAdd,reduceCtorEq,hl,k2,c3]
 first | exact hK | (simp only [hl,k2,c3,CL] at hK; exact hK)
theorem zc7y (p1 : ByteArray) (p2 : Int) (p3 : ByteArray) (r : ByteArray) (h : zbze p1 p2 p3 = some r) (lk : Bool) (d : Option Nat) (K : ap) (fr : TF) (tk : TK) (τ : TH) (hl : τ.lock ≤ τ.next) : du G lk zb3a [.str p1,.int .i64 p2,.str p3] d K fr tk τ = K (fp fr d (.str r)) tk τ :=
 au (zc7z p1 p2 p3 r h τ  hl) (zc7z p1 p2 p3 r h (τ.locked τ.next)  (Nat.le_refl _) ) (by simp -implicitDefEqProofs only [TT])
noncomputable def ja (p1 : af) (p2 : Int) (p3 : ByteArray) (p4 : ByteArray) : Option ah :=
 ph p1 p2 >>= fun y1 =>
 if y1 = true then
  ixL p1.Leaders p2 >>= fun y4 =>
  zbze p4 p2 p3 >>= fun y6 =>
  some (⟨p2,p3,[y4],[y6]⟩ : ah)
 else
 some (⟨(0 : Int),(⟨#[]⟩ : ByteArray),[],[]⟩ : ah)
set_option maxRecDepth 100000 in
set_option maxHeartbeats 4000000 in
theorem zczu (p1 : af) (p2 : Int) (p3 : ByteArray) (p4 : ByteArray) (r : ah) (h : ja p1 p2 p3 p4 = some r) (τ : TH) (hl : τ.lock ≤ τ.next) : Ru G m7 [.agg p1.cells,.int .i64 p2,.str p3,.str p4] τ (.agg r.cells) τ:=by
 refine gp fun K hK => ?_
 rw [bc zddm (Nat.le_of_ble_eq_true rfl)]
 unfold ja at h
 obtain ⟨y1,hy1,h⟩:=ob h
 have k2:=zcj2 p1 p2 _ hy1
 try simp only [CL] at k2
 by_cases c3 : y1 = true
 · rw [if_pos c3] at h
   obtain ⟨y4,hy4,h⟩:=ob h
   have f5:=av hy4
   have f5a:=(f5.2.2 (TV.int .i64)).1
   have f5b:=(f5.2.2 (TV.int .i64)).2
   try simp only [CL,MC,reduceToNat] at f5 f5a f5b
   obtain ⟨y6,hy6,h⟩:=ob h
   have k7:=zc7y p4 p2 p3 _ hy6
   try simp only [CL,MC,reduceToNat] at k7
   injection h with h; subst h
   simp -implicitDefEqProofs only [zcv3,TT,Ic.t,reduceEqDiff,reduceAdd,reduceLT,reduceLeDiff,reduceCtorEq,hl,k2,c3,f5.1,f5.2.1,f5a,k7,CL]
   first | exact hK | (simp only [hl,k2,c3,f5.1,f5.2.1,f5a,f5b,k7,CL] at hK; exact hK)
 rw [if_neg c3] at h
 have c3:=Bool.eq_false_iff.2 c3
 injection h with h; subst h
 simp -implicitDefEqProofs only [zcv3,TT,Ic.t,reduceEqDiff,reduceAdd,reduceLT,reduceLeDiff,reduceCtorEq,hl,k2,c3,CL]
 first | exact hK | (simp only [hl,k2,c3,CL] at hK; exact hK)
theorem zckl (p1 : af) (p2 : Int) (p3 : ByteArray) (p4 : ByteArray) (r : ah) (h : ja p1 p2 p3 p4 = some r) (lk : Bool) (d : Option Nat) (K : ap) (fr : TF) (tk : TK) (τ : TH) (hl : τ.lock ≤ τ.next) : du G lk m7 [.agg p1.cells,.int .i64 p2,.str p3,.str p4] d K fr tk τ = K (fp fr d (.agg r.cells)) tk τ :=
 au (zczu p1 p2 p3 p4 r h τ  hl) (zczu p1 p2 p3 p4 r h (τ.locked τ.next)  (Nat.le_refl _) ) (by simp -implicitDefEqProofs only [TT,CL])
end Go.Proofs.Ytjgpklmkdkkooaa
open Nat (reduceEqDiff reduceAdd reduceLT)
open Int (reduceToNat reduceEq)
namespace Go.Proofs.Ytjgpklmkdkkooaa
open Go Go.RowKit Sh Ic
noncomputable def xw (p1 : Int) (p2 : Int) : Option Int :=
 if ¬ p2 = 0 then
  if (Int.tmod p1 p2) < (0 : Int) then
   some (IntKind.i64.wrap ((Int.tmod p1 p2) + p2))
  else
  some (Int.tmod p1 p2)
 else
  none
theorem zc8f (p1 : Int) (p2 : Int) (r : Int) (h : xw p1 p2 = some r) (τ : TH) (hl : τ.lock ≤ τ.next) : Ru G x7 [.int .i64 p1,.int .i64 p2] τ (.int .i64 r) τ:=by
 refine gp fun K hK => ?_
 rw [bc zdaw (Nat.le_of_ble_eq_true rfl)]
 unfold xw at h
 obtain ⟨c1,h⟩:=ifS h
 by_cases c2 : (Int.tmod p1 p2) < (0 : Int)
 · rw [if_pos c2] at h
   injection h with h; subst h
   simp -implicitDefEqProofs only [zc4x,TT,Ic.t,ci,reduceEqDiff,reduceAdd,reduceCtorEq,c1,c2]
   exact hK
 rw [if_neg c2] at h
 injection h with h; subst h
 simp -implicitDefEqProofs only [zc4x,TT,Ic.t,ci,reduceEqDiff,reduceAdd,reduceCtorEq,c1,c2]
 exact hK
theorem zden (p1 : Int) (p2 : Int) (r : Int) (h : xw p1 p2 = some r) (lk : Bool) (d : Option Nat) (K : ap) (fr : TF) (tk : TK) (τ : TH) (hl : τ.lock ≤ τ.next) : du G lk x7 [.int .i64 p1,.int .i64 p2] d K fr tk τ = K (fp fr d (.int .i64 r)) tk τ :=
 au (zc8f p1 p2 r h τ  hl) (zc8f p1 p2 r h (τ.locked τ.next)  (Nat.le_refl _) ) (by simp -implicitDefEqProofs only [TT])
noncomputable def vk (p1 : Int) : Option Bool :=
 some true
theorem zczs (p1 : Int) (r : Bool) (h : vk p1 = some r) (τ : TH) (hl : τ.lock ≤ τ.next) : Ru G lx [.int .i64 p1] τ (.bool r) τ:=by
 refine gp fun K hK => ?_
 rw [bc zddl (Nat.le_of_ble_eq_true rfl)]
 unfold vk at h
 injection h with h; subst h
 simp -implicitDefEqProofs only [zdc7,TT]
 exact hK
theorem zdiu (p1 : Int) (r : Bool) (h : vk p1 = some r) (lk : Bool) (d : Option Nat) (K : ap) (fr : TF) (tk : TK) (τ : TH) (hl : τ.lock ≤ τ.next) : du G lk lx [.int .i64 p1] d K fr tk τ = K (fp fr d (.bool r)) tk τ :=
 au (zczs p1 r h τ  hl) (zczs p1 r h (τ.locked τ.next)  (Nat.le_refl _) ) (by simp -implicitDefEqProofs only [TT])
end Go.Proofs.Ytjgpklmkdkkooaa
open Nat (reduceEqDiff reduceAdd reduceLT)
open Int (reduceToNat reduceEq)
namespace Go.Proofs.Ytjgpklmkdkkooaa
open Go Go.RowKit Sh Ic
theorem reW {n : Int} (h1 : -9223372036854775808 ≤ n) (h2 : n ≤ 9223372036854775807) : IntKind.i64.wrap n = n:=IntWalk.i64_in n ⟨h1,h2⟩
def reX (back : Bool) (a : ac) : Int:=if back = true then a.To else a.From
def reY (back : Bool) (a : ac) : Int:=if back = true then a.From else a.To
def reA (back : Bool) (v : Int) (p : Int → Option Bool) : List ac → List Bool → List Int → Option (List Bool × List Int)
 | [],ra,todo => some (ra,todo)
 | a :: r,ra,todo =>
  if reX back a = v then
   ixL ra (reY back a) >>= fun b =>
   if b = true then reA back v p r ra todo else
   p (reY back a) >>= fun t =>
   if t = true then (if todo.length < 1000000 then reA back v p r (ra.set (reY back a).toNat true) (todo ++ [reY back a]) else none)
   else reA back v p r ra todo
  else reA back v p r ra todo
def reS (back : Bool) (p : Int → Option Bool) (A : List ac) (st : List Bool × List Int) : Option (LS (List Bool × List Int) (List Bool)) :=
 if 0 < st.2.length then
  if st.2.length < 2000000 then
   ixL st.2 ((st.2.length - 1 : Nat) : Int) >>= fun v =>
   reA back v p A st.1 (st.2.take (st.2.length - 1)) >>= fun st' => some (.nx st')
  else none
 else some (.dn st.1)
noncomputable def reF (s : af) (o : Int) (back : Bool) (p : Int → Option Bool) : Option (List Bool) :=
 if s.Parties.length < 1000000 ∧ s.Arcs.length < 1000000 then oq (reS back p s.Arcs) (List.replicate s.Parties.length false,[o]) else none
def zcfr (s : af) : Ob:=⟨bh,s.cells⟩
def zb1x (l : List Bool) : Ob:=⟨zccv,l.map TV.bool⟩
def zb8d (l : List Int) : Ob:=⟨jy,l.map (TV.int .i64)⟩
theorem ru {τ : TH} {b : Ob} : (τ.push b).next = τ.next + 1:=by show (τ.o ++ [b]).length = _; simp [TH.next]
theorem sn {τ : TH} {b : Ob} {id : Nat} : (τ.put id b).next = τ.next:=by show (τ.o.set id b).length = _; simp [TH.next]
theorem zcdy {τ : TH} {b : Ob} : (τ.push b).at τ.next = some b:=by
 show (τ.o ++ [b])[τ.o.length]? = some b
 simp
theorem sp {τ : TH} {b : Ob} {id : Nat} (h : id < τ.next) : (τ.push b).at id = τ.at id:=by
 show (τ.o ++ [b])[id]? = τ.o[id]?
 exact List.getElem?_append_left h
theorem zbrx {τ : TH} {b : Ob} {id : Nat} (h : id < τ.next) : (τ.put id b).at id = some b:=by
 show (τ.o.set id b)[id]? = some b
 exact List.getElem?_set_self h
theorem zb7b {τ : TH} {b : Ob} {id k : Nat} (h : ¬ id = k) : (τ.put id b).at k = τ.at k:=by
 show (τ.o.set id b)[k]? = τ.o[k]?
 exact List.getElem?_set_ne h
theorem zb8y {τ : TH} {n id : Nat} (h : id < n) : (τ.cut n).at id = τ.at id:=by
 show (τ.o.take n)[id]? = τ.o[id]?
 exact List.getElem?_take_of_lt h
structure RI (τ0 : TH) (s : af) (np : Nat) (ra : List Bool) (todo junk : List Int) (id : Nat) (τ : TH) : Prop where
 lock : τ.lock = τ0.lock
 cut : τ.cut τ0.next = τ0
 o4 : τ.at τ0.next = some (zcfr s)
 o9 : τ.at (τ0.next + 1) = some (zb1x ra)
 lo : τ0.next + 2 ≤ id
 hi : id < τ.next
 o10 : τ.at id = some (zb8d (todo ++ junk))
 ne : todo ++ junk ≠ []
 ln : ra.length = np
section
variable {τ0 τ : TH} {s : af} {np : Nat} {ra : List Bool} {todo junk : List Int} {id : Nat}
theorem RI.next (h : RI τ0 s np ra todo junk id τ) : τ0.next + 2 < τ.next:=by have:=h.lo; have:=h.hi; omega
theorem zb3m {τ : TH} {b : Ob} {n : Nat} (h : n ≤ τ.next) : (τ.push b).cut n = τ.cut n:=by
 show TH.mk ((τ.o ++ [b]).take n) τ.lock = TH.mk (τ.o.take n) τ.lock
 rw [List.take_append_of_le_length h]
theorem zcs2 {τ : TH} {b : Ob} {n k : Nat} (h : n ≤ k) : (τ.put k b).cut n = τ.cut n:=by
 show TH.mk ((τ.o.set k b).take n) τ.lock = TH.mk (τ.o.take n) τ.lock
 rw [List.take_set_of_le h]
theorem RI.push (h : RI τ0 s np ra todo junk id τ) (b : Ob) : RI τ0 s np ra todo junk id (τ.push b):=by
 have hn:=h.next
 exact ⟨h.lock,by rw [zb3m (by omega)]; exact h.cut,by rw [sp (by omega)]; exact h.o4,by rw [sp (by omega)]; exact h.o9,h.lo,by rw [ru]; exact Nat.lt_succ_of_lt h.hi,by rw [sp h.hi]; exact h.o10,h.ne,h.ln⟩
theorem RI.cutN (h : RI τ0 s np ra todo junk id τ) {n : Nat} (hn : id < n) : RI τ0 s np ra todo junk id (τ.cut n):=by
 have h1:=h.lo
 refine ⟨h.lock,?_,by rw [zb8y (by omega)]; exact h.o4,by rw [zb8y (by omega)]; exact h.o9,h1,?_,by rw [zb8y hn]; exact h.o10,h.ne,h.ln⟩
 · rw [zb21 (by omega)]; exact h.cut
 · have:=h.hi
   show id < (τ.o.take n).length
   rw [List.length_take]
   have e : τ.next = τ.o.length:=rfl
   omega
theorem RI.see (h : RI τ0 s np ra todo junk id τ) (k : Nat) : RI τ0 s np (ra.set k true) todo junk id (τ.put (τ0.next + 1) (zb1x (ra.set k true))):=by
 have hn:=h.next
 have h1:=h.lo
 exact ⟨h.lock,by rw [zcs2 (by omega)]; exact h.cut,by rw [zb7b (by omega)]; exact h.o4,by rw [zbrx (by omega)],h1,by rw [sn]; exact h.hi,by rw [zb7b (by omega)]; exact h.o10,h.ne,by rw [List.length_set]; exact h.ln⟩
theorem RI.add (h : RI τ0 s np ra todo junk id τ) (y : Int) : RI τ0 s np ra (todo ++ [y]) [] τ.next ((τ.put id ⟨jy,[]⟩).push (zb8d (todo ++ [y]))):=by
 have hn:=h.next
 have h1:=h.lo
 refine ⟨h.lock,?_,?_,?_,by omega,?_,?_,by simp,h.ln⟩
 · rw [zb3m (by rw [sn]; omega),zcs2 (by omega)]; exact h.cut
 · rw [sp (by rw [sn]; omega),zb7b (by omega)]; exact h.o4
 · rw [sp (by rw [sn]; omega),zb7b (by omega)]; exact h.o9
 · rw [ru,sn]; omega
 · have:=zcdy (τ:=τ.put id ⟨jy,[]⟩) (b:=zb8d (todo ++ [y]))
   rw [sn] at this
   rw [List.append_nil]; exact this
theorem RI.drop (h : RI τ0 s np ra todo junk id τ) (k : Nat) : RI τ0 s np ra (todo.take k) (todo.drop k ++ junk) id τ :=
 ⟨h.lock,h.cut,h.o4,h.o9,h.lo,h.hi,by rw [← List.append_assoc,List.take_append_drop]; exact h.o10,by rw [← List.append_assoc,List.take_append_drop]; exact h.ne,h.ln⟩
end
def zcmr (τ0 : TH) (f : FuncId) (b : List TV) (p : Int → Option Bool) : Prop :=
 (∀ n,τ0.next ≤ n → ju n b = true ∧ ltL n 0 b = true) ∧ ∀ (v : Int) (r : Bool),p v = some r → ∀ (lk : Bool) (d : Option Nat) (K : ap) (fr : TF) (tk : TK) (τ : TH),τ.lock = τ0.lock → τ0.next ≤ τ.next → τ.cut τ0.next = τ0 → du G lk f (.int .i64 v :: b) d K fr tk τ = K (fp fr d (.bool r)) tk τ
set_option maxHeartbeats 1000000 in
theorem zb4v (τ0 : TH) (hl0 : τ0.lock ≤ τ0.next) (s : af) (np : Nat) (hnp : np < 1000000) (back : Bool) (f : FuncId) (b : List TV) (p : Int → Option Bool) (hf : zcmr τ0 f b p) (v : Int) (A : List ac) (hA : A.length < 1000000) (Q : TEx → ap) (seen' : List Bool) (todo' : List Int) (m : Nat) :
 ∀ (i : Nat) (ra : List Bool) (todo junk : List Int) (id : Nat) (τ : TH),m + i = A.length → RI τ0 s np ra todo junk id τ → reA back v p (A.drop i) ra todo = some (seen',todo') →
 (∀ junk id τ,RI τ0 s np seen' todo' junk id τ → Q (.exit 2) [(2,.bool back),(3,.func f [] b),(4,.ptr τ0.next 0),(9,.slm (τ0.next + 1) 0 np 1),(10,.slm id 0 todo'.length 1),(12,.int .i64 v),(37,.sl (A.map ac.tv)),(38,.int .i64 A.length),(39,.int .i64 A.length),(40,.bool false)] [] τ) →
 tW G (.loop [2,3,4,9,10,12,37,38,39] iq) Q [(2,.bool back),(3,.func f [] b),(4,.ptr τ0.next 0),(9,.slm (τ0.next + 1) 0 np 1),(10,.slm id 0 todo.length 1),(12,.int .i64 v),(37,.sl (A.map ac.tv)),(38,.int .i64 A.length),(39,.int .i64 (i : Int))] [] τ:=by
 induction m with
 | zero =>
  intro i ra todo junk id τ hi hI hr hQ
  obtain rfl : i = A.length:=by omega
  have c : ¬ ((A.length : Nat) : Int) < ((A.length : Nat) : Int):=by omega
  rw [List.drop_of_length_le (Nat.le_refl _)] at hr
  injection hr with hr
  injection hr with h1 h2
  subst h1 h2
  refine mo fun LQ hnx hr he => ?_
  simp -implicitDefEqProofs only [iq,ie,TT,Ic.t,ci,reduceEqDiff,reduceAdd,reduceCtorEq,c,he]
  exact hQ _ _ _ hI
 | succ m ih =>
  intro i ra todo junk id τ hi hI hr hQ
  have hin : i < A.length:=by omega
  have c : (i : Int) < ((A.length : Nat) : Int):=by omega
  have w1 : IntKind.i64.wrap ((i : Int) + 1) = ((i + 1 : Nat) : Int):=by rw [reW (by omega) (by omega)]; omega
  obtain ⟨a,ha⟩ : ∃ a,a = A[i]:=⟨_,rfl⟩
  have hx : ixL A (i : Int) = some a:=by rw [zamv hin,ha]
  have f0:=av hx
  have fa:=(f0.2.2 ac.tv).1
  have fb:=(f0.2.2 ac.tv).2
  try simp only [CL,MC] at f0 fa fb
  rw [List.drop_eq_getElem_cons hin,← ha,reA] at hr
  have hn:=hI.next
  have l1 : τ.lock ≤ τ.next:=by rw [hI.lock]; omega
  refine mo fun LQ hnx hrr he => ?_
  have h4 : τ0.next < τ.next:=by omega
  have h9 : τ0.next + 1 < τ.next:=by omega
  have h9l : τ.lock ≤ τ0.next + 1:=by rw [hI.lock]; omega
  have lb:=(hf.1 τ.next (by omega)).2
  have ub:=(hf.1 (τ.next + 1) (by omega)).1
  have hi:=hI.hi
  have o9 : τ.at (τ0.next + 1) = some ⟨zccv,List.map TV.bool ra⟩:=hI.o9
  have o10 : τ.at id = some ⟨jy,List.map (TV.int .i64) (todo ++ junk)⟩:=hI.o10
  have ne1 : ¬ τ0.next + 1 = τ.next:=by omega
  have hid : τ.lock ≤ id:=by rw [hI.lock]; have:=hI.lo; omega
  cases back with
  | false =>
   rw [show reX false a = a.From from rfl,show reY false a = a.To from rfl] at hr
   by_cases c1 : a.From = v
   · rw [if_pos c1] at hr
     obtain ⟨q,hq,hr⟩:=ob hr
     have g0:=av hq
     have ga:=(g0.2.2 TV.bool).1
     have gb:=(g0.2.2 TV.bool).2
     have gl : a.To < (np : Int):=by have:=g0.2.1; rw [hI.ln] at this; exact this
     cases q with
     | true =>
      rw [if_pos rfl] at hr
      simp -implicitDefEqProofs only [iq,ie,TT,Ic.t,ci,reduceEqDiff,reduceAdd,reduceCtorEq,c,w1,f0.1,fa,l1,eq_true c1,g0.1,gl,gb,o9,h9]
      rw [hnx]
      simp -implicitDefEqProofs only [TT,reduceEqDiff,lb,h4,h9,hi]
      exact ih (i + 1) ra todo junk id τ (by omega) hI hr hQ
     | false =>
      rw [if_neg (by decide)] at hr
      obtain ⟨t,ht,hr⟩:=ob hr
      have k1:=fun (d : Option Nat) (K : ap) (fr : TF) (tk : TK) => hf.2 a.To t ht false d K fr tk (τ.push ⟨r7,a.cells⟩) hI.lock (by rw [ru]; omega) (by rw [zb3m (by omega)]; exact hI.cut)
      cases t with
      | false =>
       rw [if_neg (by decide)] at hr
       simp -implicitDefEqProofs only [iq,ie,TT,Ic.t,ci,reduceEqDiff,reduceAdd,reduceCtorEq,c,w1,f0.1,fa,l1,eq_true c1,g0.1,gl,gb,o9,h9,k1,CL]
       rw [hnx]
       simp -implicitDefEqProofs only [TT,reduceEqDiff,lb,h4,h9,hi]
       exact ih (i + 1) ra todo junk id τ (by omega) hI hr hQ
      | true =>
       rw [if_pos rfl] at hr
       obtain ⟨hlen,hr⟩:=ifS hr
       have m1 : todo.length + 1 ≤ maxLen:=by unfold maxLen; omega
       have m2 : (todo.length + 1) * 8 ≤ 140737488355328:=by omega
       have m3 : todo.length ≤ todo.length + junk.length:=by omega
       have e10 : ∀ X Y,((τ.put (τ0.next + 1) X).push Y).at id = some ⟨jy,List.map (TV.int .i64) (todo ++ junk)⟩:=by
        intro X Y
        rw [sp (by rw [sn]; exact hi),zb7b (by have:=hI.lo; omega)]
        exact o10
       have nem : (List.map (TV.int .i64) (todo ++ junk) = []) = False:=eq_false fun h => hI.ne (List.map_eq_nil_iff.1 h)
       have tk1 : List.take todo.length (List.map (TV.int .i64) (todo ++ junk)) ++ [.int .i64 a.To] = List.map (TV.int .i64) (todo ++ [a.To]):=by
        rw [← List.map_take,List.take_append_of_le_length (Nat.le_refl _),List.take_length,List.map_append]; rfl
       have lt1 : ¬ τ.next + 1 < τ.next:=by omega
       simp -implicitDefEqProofs only [iq,ie,TT,Ic.t,ci,reduceEqDiff,reduceAdd,reduceCtorEq,c,w1,f0.1,fa,l1,eq_true c1,g0.1,gl,gb,o9,h9,h9l,k1,CL]
       refine ⟨by omega,?_⟩
       have hI2:=((hI.see a.To.toNat).push ⟨r7,a.cells⟩).add a.To
       rw [ru,sn] at hI2
       unfold zb1x zb8d at hI2
       rw [← zb0r (enc:=TV.bool)] at hI2
       simp -implicitDefEqProofs only [TT,Ic.t,reduceEqDiff,e10,m1,m2,m3,hid,nem,List.flatMap_cons,List.flatMap_nil,tk1,lt1,w1,lb,h4,h9,Bool.and_false,Bool.false_eq_true]
       rw [hnx]
       simp -implicitDefEqProofs only [TT,reduceEqDiff,lb,h4,h9,lt1,Bool.and_false,Bool.false_eq_true]
       have q:=ih (i + 1) _ _ _ _ _ (by omega) hI2 hr hQ
       rw [List.length_append] at q
       exact q
   · rw [if_neg c1] at hr
     simp -implicitDefEqProofs only [iq,ie,TT,Ic.t,ci,reduceEqDiff,reduceAdd,reduceCtorEq,c,w1,f0.1,fa,l1,c1]
     rw [hnx]
     simp -implicitDefEqProofs only [TT,reduceEqDiff,lb,h4,h9,hi]
     exact ih (i + 1) ra todo junk id τ (by omega) hI hr hQ
  | true =>
   rw [show reX true a = a.To from rfl,show reY true a = a.From from rfl] at hr
   by_cases c1 : a.To = v
   · rw [if_pos c1] at hr
     obtain ⟨q,hq,hr⟩:=ob hr
     have g0:=av hq
     have ga:=(g0.2.2 TV.bool).1
     have gb:=(g0.2.2 TV.bool).2
     have gl : a.From < (np : Int):=by have:=g0.2.1; rw [hI.ln] at this; exact this
     cases q with
     | true =>
      rw [if_pos rfl] at hr
      simp -implicitDefEqProofs only [iq,ie,TT,Ic.t,ci,reduceEqDiff,reduceAdd,reduceCtorEq,c,w1,f0.1,fa,l1,eq_true c1,g0.1,gl,gb,o9,h9]
      rw [hnx]
      simp -implicitDefEqProofs only [TT,reduceEqDiff,lb,h4,h9,hi]
      exact ih (i + 1) ra todo junk id τ (by omega) hI hr hQ
     | false =>
      rw [if_neg (by decide)] at hr
      obtain ⟨t,ht,hr⟩:=ob hr
      have k1:=fun (d : Option Nat) (K : ap) (fr : TF) (tk : TK) => hf.2 a.From t ht false d K fr tk (τ.push ⟨r7,a.cells⟩) hI.lock (by rw [ru]; omega) (by rw [zb3m (by omega)]; exact hI.cut)
      cases t with
      | false =>
       rw [if_neg (by decide)] at hr
       simp -implicitDefEqProofs only [iq,ie,TT,Ic.t,ci,reduceEqDiff,reduceAdd,reduceCtorEq,c,w1,f0.1,fa,l1,eq_true c1,g0.1,gl,gb,o9,h9,k1,CL]
       rw [hnx]
       simp -implicitDefEqProofs only [TT,reduceEqDiff,lb,h4,h9,hi]
       exact ih (i + 1) ra todo junk id τ (by omega) hI hr hQ
      | true =>
       rw [if_pos rfl] at hr
       obtain ⟨hlen,hr⟩:=ifS hr
       have m1 : todo.length + 1 ≤ maxLen:=by unfold maxLen; omega
       have m2 : (todo.length + 1) * 8 ≤ 140737488355328:=by omega
       have m3 : todo.length ≤ todo.length + junk.length:=by omega
       have e10 : ∀ X Y,((τ.put (τ0.next + 1) X).push Y).at id = some ⟨jy,List.map (TV.int .i64) (todo ++ junk)⟩:=by
        intro X Y
        rw [sp (by rw [sn]; exact hi),zb7b (by have:=hI.lo; omega)]
        exact o10
       have nem : (List.map (TV.int .i64) (todo ++ junk) = []) = False:=eq_false fun h => hI.ne (List.map_eq_nil_iff.1 h)
       have tk1 : List.take todo.length (List.map (TV.int .i64) (todo ++ junk)) ++ [.int .i64 a.From] = List.map (TV.int .i64) (todo ++ [a.From]):=by
        rw [← List.map_take,List.take_append_of_le_length (Nat.le_refl _),List.take_length,List.map_append]; rfl
       have lt1 : ¬ τ.next + 1 < τ.next:=by omega
       simp -implicitDefEqProofs only [iq,ie,TT,Ic.t,ci,reduceEqDiff,reduceAdd,reduceCtorEq,c,w1,f0.1,fa,l1,eq_true c1,g0.1,gl,gb,o9,h9,h9l,k1,CL]
       refine ⟨by omega,?_⟩
       have hI2:=((hI.see a.From.toNat).push ⟨r7,a.cells⟩).add a.From
       rw [ru,sn] at hI2
       unfold zb1x zb8d at hI2
       rw [← zb0r (enc:=TV.bool)] at hI2
       simp -implicitDefEqProofs only [TT,Ic.t,reduceEqDiff,e10,m1,m2,m3,hid,nem,List.flatMap_cons,List.flatMap_nil,tk1,lt1,w1,lb,h4,h9,Bool.and_false,Bool.false_eq_true]
       rw [hnx]
       simp -implicitDefEqProofs only [TT,reduceEqDiff,lb,h4,h9,lt1,Bool.and_false,Bool.false_eq_true]
       have q:=ih (i + 1) _ _ _ _ _ (by omega) hI2 hr hQ
       rw [List.length_append] at q
       exact q
   · rw [if_neg c1] at hr
     simp -implicitDefEqProofs only [iq,ie,TT,Ic.t,ci,reduceEqDiff,reduceAdd,reduceCtorEq,c,w1,f0.1,fa,l1,c1]
     rw [hnx]
     simp -implicitDefEqProofs only [TT,reduceEqDiff,lb,h4,h9,hi]
     exact ih (i + 1) ra todo junk id τ (by omega) hI hr hQ
theorem zb4w (τ0 : TH) (hl0 : τ0.lock ≤ τ0.next) (s : af) (np : Nat) (hnp : np < 1000000) (back : Bool) (f : FuncId) (b : List TV) (p : Int → Option Bool) (hf : zcmr τ0 f b p) (hA : s.Arcs.length < 1000000) (Q : TEx → ap) (r : List Bool) (st : List Bool × List Int) (h : oq (reS back p s.Arcs) st = some r) :
 ∀ (junk : List Int) (id : Nat) (τ : TH),RI τ0 s np st.1 st.2 junk id τ →
 (∀ junk id τ,RI τ0 s np r [] junk id τ → Q (.exit 0) [(2,.bool back),(3,.func f [] b),(4,.ptr τ0.next 0),(9,.slm (τ0.next + 1) 0 np 1),(10,.slm id 0 0 1),(11,.int .i64 0),(26,.bool true)] [] τ) →
 tW G (.loop [2,3,4,9,10] t6) Q [(2,.bool back),(3,.func f [] b),(4,.ptr τ0.next 0),(9,.slm (τ0.next + 1) 0 np 1),(10,.slm id 0 st.2.length 1)] [] τ:=by
 refine di (f:=reS back p s.Arcs) (P:=fun st r => ∀ (junk : List Int) (id : Nat) (τ : TH),RI τ0 s np st.1 st.2 junk id τ → (∀ junk id τ,RI τ0 s np r [] junk id τ → Q (.exit 0) [(2,.bool back),(3,.func f [] b),(4,.ptr τ0.next 0),(9,.slm (τ0.next + 1) 0 np 1),(10,.slm id 0 0 1),(11,.int .i64 0),(26,.bool true)] [] τ) → tW G (.loop [2,3,4,9,10] t6) Q [(2,.bool back),(3,.func f [] b),(4,.ptr τ0.next 0),(9,.slm (τ0.next + 1) 0 np 1),(10,.slm id 0 st.2.length 1)] [] τ) ?_ h
 clear h st r
 rintro ⟨ra,todo⟩ o hs r hor junk id τ hI hQ
 have hs : reS back p s.Arcs (ra,todo) = some o:=hs
 unfold reS at hs
 simp only at hs hI ⊢
 refine mo fun LQ hnx hrr he => ?_
 by_cases c : 0 < todo.length
 · rw [if_pos c] at hs
   obtain ⟨c2,hs⟩:=ifS hs
   obtain ⟨v,hv,hs⟩:=ob hs
   obtain ⟨⟨seen',todo'⟩,ha,hs⟩:=ob hs
   injection hs with hs
   subst hs
   obtain ⟨k,hk⟩ : ∃ k,todo.length - 1 = k:=⟨_,rfl⟩
   rw [hk] at hv ha
   have f0:=av hv
   have hk2 : k < todo.length:=by omega
   have c0 : ¬ ((todo.length : Nat) : Int) = 0:=by omega
   have w1 : IntKind.i64.wrap ((todo.length : Int) - 1) = (k : Int):=by rw [reW (by omega) (by omega)]; omega
   have b0 : (0 : Int) ≤ (k : Int):=by omega
   have b1 : (k : Int) < ((todo.length : Nat) : Int):=by omega
   have b2 : (k : Int) ≤ ((todo.length : Nat) : Int):=by omega
   have o4 : τ.at τ0.next = some ⟨bh,s.cells⟩:=hI.o4
   have o10 : τ.at id = some ⟨jy,List.map (TV.int .i64) (todo ++ junk)⟩:=hI.o10
   have fb:=(f0.2.2 (TV.int .i64)).2
   rw [Int.toNat_natCast] at fb
   have fc : (List.map (TV.int .i64) (todo ++ junk))[k]? = some (.int .i64 v):=by rw [List.map_append,List.getElem?_append_left (by rw [List.length_map]; exact hk2)]; exact fb
   have hn:=hI.next
   have hi:=hI.hi
   have h4 : τ0.next < τ.next:=by omega
   have h9 : τ0.next + 1 < τ.next:=by omega
   have lb:=(hf.1 τ.next (by omega)).2
   have l2:=zb4v τ0 hl0 s np hnp back f b p hf v s.Arcs hA
   have lt : (todo.take k).length = k:=by rw [List.length_take]; omega
   simp -implicitDefEqProofs only [t6,ie,TT,Ic.t,ci,reduceEqDiff,reduceCtorEq,c0,w1,b0,b1,b2,o4,o10,fc,CL,MC]
   have q:=fun Q hQ => l2 Q seen' todo' s.Arcs.length 0 ra (todo.take k) (todo.drop k ++ junk) id τ rfl (hI.drop k) (by rw [List.drop_zero]; exact ha) hQ
   rw [lt] at q
   refine q _ fun junk' id' τ' hI' => ?_
   simp -implicitDefEqProofs only [TT,reduceEqDiff,h4,h9,lb]
   by_cases hc : id' < τ.next
   · simp only [if_pos hc]
     rw [zb21 (Nat.le_refl _),hnx]
     simp -implicitDefEqProofs only [TT,reduceEqDiff,h4,h9,lb,hc]
     simp only [zb21 (Nat.le_refl _)]
     exact hor _ _ _ (hI'.cutN hc) hQ
   · simp only [if_neg hc]
     rw [hnx]
     simp -implicitDefEqProofs only [TT,reduceEqDiff,reduceCtorEq,h4,h9,lb,hc]
     exact hor _ _ _ hI' hQ
 · rw [if_neg c] at hs
   injection hs with hs
   subst hs
   obtain rfl : _ = r:=hor
   obtain rfl : todo = []:=List.eq_nil_of_length_eq_zero (by omega)
   have z : ((([] : List Int).length : Nat) : Int) = 0:=rfl
   have z2 : ([] : List Int).length = 0:=rfl
   simp -implicitDefEqProofs only [t6,ie,TT,Ic.t,ci,reduceEqDiff,reduceCtorEq,he,z2]
   exact hQ _ _ _ hI
theorem zbyc {τ0 τ : TH} {m : Nat} {l : List Bool} (hg : τ.cut τ0.next = τ0) (ha : τ.at (τ0.next + 1) = some (zb1x l)) (hl : l.length = m) (K : TV → TH → Prop) : fzK (ip τ τ0.next 2 (.slm (τ0.next + 1) 0 m 1)) τ0 K τ = K (.sl (l.map TV.bool)) τ0:=by
 rw [zbt2 (c:=fun x => [TV.bool x]) (e:=TV.bool) (by decide) (fun _ => rfl) (fun _ => rfl) τ τ0.next (τ0.next + 1) m zccv l (by omega) (by rw [ha]; unfold zb1x; rw [List.map_eq_flatMap]) hl (fun x v hv => by
  simp only [List.mem_singleton] at hv
  subst hv; exact ⟨rfl,rfl⟩)]
 show K _ (τ.cut τ0.next) = _
 rw [hg]
theorem zco8 (τ0 : TH) (hl0 : τ0.lock ≤ τ0.next) (s : af) (o : Int) (back : Bool) (f : FuncId) (b : List TV) (p : Int → Option Bool) (hf : zcmr τ0 f b p) (r : List Bool) (h : reF s o back p = some r) :
 Ru G me [.agg s.cells,.int .i64 o,.bool back,.func f [] b] τ0 (.sl (List.map TV.bool r)) τ0:=by
 unfold reF at h
 obtain ⟨⟨hp,hA⟩,h⟩:=ifS h
 refine gp fun K hK => ?_
 rw [bc zdcm (Nat.le_of_ble_eq_true rfl)]
 have m1 : ((s.Parties.length : Nat) : Int) * ((1 : Nat) : Int) ≤ 140737488355328:=by omega
 have m2 : ((s.Parties.length : Nat) : Int) ≤ 9223372036854775807:=by omega
 have m0 : (0 : Int) ≤ ((s.Parties.length : Nat) : Int):=by omega
 have f2 : (List.replicate s.Parties.length [.bool false]).flatten = List.map TV.bool (List.replicate s.Parties.length false):=zc9r (enc:=TV.bool) _ _
 have hI : RI τ0 s s.Parties.length (List.replicate s.Parties.length false) [o] [] (τ0.next + 2) (((τ0.push (zcfr s)).push (zb1x (List.replicate s.Parties.length false))).push (zb8d [o])):=by
  have n1 : (τ0.push (zcfr s)).next = τ0.next + 1:=ru
  have n2 : ((τ0.push (zcfr s)).push (zb1x (List.replicate s.Parties.length false))).next = τ0.next + 2:=by rw [ru,n1]
  refine ⟨rfl,?_,?_,?_,Nat.le_refl _,by rw [ru,n2]; omega,?_,by simp,List.length_replicate⟩
  · rw [zb3m (by omega),zb3m (by omega),zb3m (Nat.le_refl _)]
    show TH.mk (τ0.o.take τ0.o.length) τ0.lock = τ0
    rw [List.take_length]
  · rw [sp (by omega),sp (by omega),zcdy]
  · rw [sp (by omega),← n1,zcdy]
  · rw [← n2,zcdy]; rfl
 simp -implicitDefEqProofs only [ie,TT,Ic.t,reduceEqDiff,reduceAdd,reduceCtorEq,m0,m1,m2,f2,CL,MC]
 refine ⟨Int.le_refl _,?_⟩
 have q:=fun Q hQ => zb4w τ0 hl0 s s.Parties.length hp back f b p hf hA Q r _ h [] (τ0.next + 2) _ hI hQ
 refine q _ fun junk id τ hI' => ?_
 have lt9 : τ0.next + 1 < τ0.next + 3:=by omega
 simp -implicitDefEqProofs only [TT,Ic.t,reduceEqDiff,reduceAdd,lt9]
 have c3 : (τ.cut (τ0.next + 3)).cut τ0.next = τ0:=by rw [zb21 (by omega)]; exact hI'.cut
 rw [zbyc c3 (by rw [zb8y lt9]; exact hI'.o9) hI'.ln]
 exact hK
end Go.Proofs.Ytjgpklmkdkkooaa
