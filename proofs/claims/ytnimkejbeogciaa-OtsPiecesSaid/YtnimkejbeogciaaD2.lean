/- Functions of numbers and lists, printed by a program of ours out of the code for the tree level, with their proofs. -/
import Derived.Test.YtnimkejbeogciaaD1
set_option linter.unusedVariables false
set_option linter.unusedSimpArgs false
set_option linter.unusedSectionVars false
namespace Go.Proofs.Ytnimkejbeogciaa
open Go Go.RowKit Sh Ic
noncomputable def sha_Sum_f (p1 : ByteArray) : Option ByteArray :=
  if p1.size ≤ 140737488355328 then
    if p1.size + (⟨#[128]⟩ : ByteArray).size ≤ 140737488355328 then
      sha_Sum_f_l1 (IntKind.u64.wrap ((IntKind.u64.wrap ((p1.size : Nat) : Int)) * (8 : Int))) (p1 ++ (⟨#[128]⟩ : ByteArray)) >>= fun y5 =>
      sha_Sum_f_l2 (IntKind.u64.wrap ((IntKind.u64.wrap ((p1.size : Nat) : Int)) * (8 : Int))) y5 (0 : Int) >>= fun y7 =>
      sha_first_f >>= fun y9 =>
      sha_constants_f >>= fun y11 =>
      if y9.length = 8 then
        if y11.length = 64 then
          if y7.size ≤ 140737488355328 then
            sha_Sum_f_l3 y11 y9 y7 >>= fun y21 =>
            if y21.length = 8 then
              if 8 ≤ y21.length then
                ixL y21 (0 : Int) >>= fun y30 =>
                sha_Sum_f_l4 y21 [(IntKind.u8.wrap (Int.fdiv y30 (2 ^ (Nat.min 24 IntKind.u32.bits)))),(IntKind.u8.wrap (Int.fdiv y30 (2 ^ (Nat.min 16 IntKind.u32.bits)))),(IntKind.u8.wrap (Int.fdiv y30 (2 ^ (Nat.min 8 IntKind.u32.bits)))),(IntKind.u8.wrap y30)] (IntKind.i64.wrap ((0 : Int) + (1 : Int))) >>= fun y33 =>
                some (strL y33)
              else
                none
            else
              none
          else
            none
        else
          none
      else
        none
    else
      none
  else
    none
theorem sha_Sum_f_s (p1 : ByteArray) (r : ByteArray) (h : sha_Sum_f p1 = some r) (τ : TH) (hl : τ.lock ≤ τ.next) : Ru G F_sha_Sum [.str p1] τ (.str r) τ := by
  refine Ru_of fun K hK => ?_
  rw [tC_code g_sha_Sum (Nat.le_of_ble_eq_true rfl)]
  unfold sha_Sum_f at h
  obtain ⟨c1,h⟩ := ifS h
  have k2 := fun (id : Nat) (d : Option Nat) (K : TCont) (fr : TF) (tk : TK) (τ : TH) (ha : τ.at id = some (bldO id false ⟨#[]⟩)) (hi : id < τ.next) (hw : τ.lock ≤ id) (hl : τ.lock ≤ τ.next) => WriteString_k0 id d K fr tk τ ha hi hw hl p1 c1
  obtain ⟨c3,h⟩ := ifS h
  have k4 := fun (id : Nat) (d : Option Nat) (K : TCont) (fr : TF) (tk : TK) (τ : TH) (ha : τ.at id = some (bldO id true p1)) (hi : id < τ.next) (hw : τ.lock ≤ id) (hl : τ.lock ≤ τ.next) => WriteString_k p1 id true d K fr tk τ ha hi hw hl (by first | exact .inl rfl | assumption) (⟨#[128]⟩ : ByteArray) c3
  obtain ⟨y5,hy5,h⟩ := ob h
  simp -implicitDefEqProofs only [U_sha_Sum,TT,Ic.t,Ic.ci,Nat.reduceEqDiff,reduceIte,Nat.reduceAdd,Nat.reduceMul,Nat.reduceLT,Nat.reduceLeDiff,Nat.reduceSub,reduceCtorEq,Int.reduceEq,Int.reduceNe,Int.reduceToNat,Int.reduceLT,Int.reduceLE,Int.reduceNeg,hl,c1,k2,bldO_f,c3,k4,CL,LTN]
  have Sy5 := sha_Sum_f_l1_s (IntKind.u64.wrap ((IntKind.u64.wrap ((p1.size : Nat) : Int)) * (8 : Int))) (p1 ++ (⟨#[128]⟩ : ByteArray)) y5 hy5
  unfold sha_Sum_f_l1_P at Sy5
  refine Sy5 _ τ.next (by first | assumption | omega | (simp only [next_pt,next_pu,lock_pt,lock_pu]; omega)) true (by first | exact .inl rfl | exact .inr rfl | assumption) (by simp -implicitDefEqProofs only [TT,Ic.t,Ic.ci,Nat.reduceEqDiff,reduceIte,Nat.reduceAdd,Nat.reduceMul,Nat.reduceLT,Nat.reduceLeDiff,Nat.reduceSub,reduceCtorEq,Int.reduceEq,Int.reduceNe,Int.reduceToNat,Int.reduceLT,Int.reduceLE,Int.reduceNeg,hl,c1,k2,bldO_f,c3,k4,CL,LTN]) (by first | assumption | omega | (simp only [next_pt,next_pu,lock_pt,lock_pu]; omega)) (by first | assumption | omega | (simp only [next_pt,next_pu,lock_pt,lock_pu]; omega)) _ ?_
  intro frq6 tkq6 τq6 ubz6_0 huubz6_0 g3q6 g4q6 htq6 hcq6
  have hcq6 := cut_via (n := τ.next + 1) hcq6 (by first | omega | (simp only [next_pt,next_pu]; omega))
  try simp only [List.take_succ_cons,List.take_zero,List.take_nil,CL] at htq6
  try simp -implicitDefEqProofs only [TT,Ic.t,Ic.ci,Nat.reduceEqDiff,reduceIte,Nat.reduceAdd,Nat.reduceMul,Nat.reduceLT,Nat.reduceLeDiff,Nat.reduceSub,reduceCtorEq,Int.reduceEq,Int.reduceNe,Int.reduceToNat,Int.reduceLT,Int.reduceLE,Int.reduceNeg,hl,c1,k2,bldO_f,c3,k4,CL,LTN] at hcq6
  obtain ⟨y7,hy7,h⟩ := ob h
  simp -implicitDefEqProofs only [U_sha_Sum,TT,Ic.t,Ic.ci,Nat.reduceEqDiff,reduceIte,Nat.reduceAdd,Nat.reduceMul,Nat.reduceLT,Nat.reduceLeDiff,Nat.reduceSub,reduceCtorEq,Int.reduceEq,Int.reduceNe,Int.reduceToNat,Int.reduceLT,Int.reduceLE,Int.reduceNeg,hl,c1,k2,bldO_f,c3,k4,g3q6,g4q6,htq6,hcq6,CL,LTN]
  have Sy7 := sha_Sum_f_l2_s (IntKind.u64.wrap ((IntKind.u64.wrap ((p1.size : Nat) : Int)) * (8 : Int))) y5 (0 : Int) y7 hy7
  unfold sha_Sum_f_l2_P at Sy7
  refine Sy7 _ τ.next (by first | assumption | omega | (simp only [next_pt,next_pu,lock_pt,lock_pu]; omega)) ubz6_0 (by first | exact .inl rfl | exact .inr rfl | assumption) (by simp -implicitDefEqProofs only [TT,Ic.t,Ic.ci,Nat.reduceEqDiff,reduceIte,Nat.reduceAdd,Nat.reduceMul,Nat.reduceLT,Nat.reduceLeDiff,Nat.reduceSub,reduceCtorEq,Int.reduceEq,Int.reduceNe,Int.reduceToNat,Int.reduceLT,Int.reduceLE,Int.reduceNeg,hl,c1,k2,bldO_f,c3,k4,g3q6,g4q6,htq6,hcq6,CL,LTN]) (by first | assumption | omega | (simp only [next_pt,next_pu,lock_pt,lock_pu]; omega)) (by first | assumption | omega | (simp only [next_pt,next_pu,lock_pt,lock_pu]; omega)) _ ?_
  intro frq8 tkq8 τq8 ubz8_0 huubz8_0 g4q8 htq8 hcq8
  have hcq8 := cut_via (n := τ.next + 1) hcq8 (by first | omega | (simp only [next_pt,next_pu]; omega))
  try simp only [List.take_succ_cons,List.take_zero,List.take_nil,CL] at htq8
  try simp -implicitDefEqProofs only [TT,Ic.t,Ic.ci,Nat.reduceEqDiff,reduceIte,Nat.reduceAdd,Nat.reduceMul,Nat.reduceLT,Nat.reduceLeDiff,Nat.reduceSub,reduceCtorEq,Int.reduceEq,Int.reduceNe,Int.reduceToNat,Int.reduceLT,Int.reduceLE,Int.reduceNeg,hl,c1,k2,bldO_f,c3,k4,g3q6,g4q6,htq6,hcq6,CL,LTN] at hcq8
  obtain ⟨y9,hy9,h⟩ := ob h
  have k10 := sha_first_f_k  _ hy9
  try simp only [CL,MC,Int.reduceToNat] at k10
  obtain ⟨y11,hy11,h⟩ := ob h
  have k12 := sha_constants_f_k  _ hy11
  try simp only [CL,MC,Int.reduceToNat] at k12
  obtain ⟨c13,h⟩ := ifS h
  have f14 : (List.map (TV.int .u32) y9 = []) = False := map_ne c13 (by decide)
  have f15 : y9.length ≤ 8 := Nat.le_of_eq c13
  obtain ⟨c16,h⟩ := ifS h
  have f17 : (List.map (TV.int .u32) y11 = []) = False := map_ne c16 (by decide)
  have f18 : y11.length ≤ 64 := Nat.le_of_eq c16
  obtain ⟨c19,h⟩ := ifS h
  have k20 := fun (id : Nat) (d : Option Nat) (K : TCont) (fr : TF) (tk : TK) (τ : TH) (ha : τ.at id = some (bldO id ubz8_0 y7)) (hi : id < τ.next) (hw : τ.lock ≤ id) (hl : τ.lock ≤ τ.next) => String_k y7 id ubz8_0 d K fr tk τ ha hi hw hl (by first | exact .inl rfl | assumption) c19
  obtain ⟨y21,hy21,h⟩ := ob h
  simp -implicitDefEqProofs only [U_sha_Sum,TT,Ic.t,Ic.ci,Nat.reduceEqDiff,reduceIte,Nat.reduceAdd,Nat.reduceMul,Nat.reduceLT,Nat.reduceLeDiff,Nat.reduceSub,reduceCtorEq,Int.reduceEq,Int.reduceNe,Int.reduceToNat,Int.reduceLT,Int.reduceLE,Int.reduceNeg,hl,c1,k2,bldO_f,c3,k4,g3q6,g4q6,htq6,hcq6,g4q8,htq8,hcq8,k10,k12,c13,f14,f15,tset_all,c16,f17,f18,c19,k20,CL,LTN]
  have Sy21 := sha_Sum_f_l3_s y11 y9 y7 y21 hy21
  unfold sha_Sum_f_l3_P at Sy21
  refine Sy21 _ (τ.next + 1) (τ.next + 2) (by first | assumption | omega | (simp only [next_pt,next_pu,lock_pt,lock_pu]; omega)) (by first | (simp -implicitDefEqProofs only [TT,Ic.t,Ic.ci,Nat.reduceEqDiff,reduceIte,Nat.reduceAdd,Nat.reduceMul,Nat.reduceLT,Nat.reduceLeDiff,Nat.reduceSub,reduceCtorEq,Int.reduceEq,Int.reduceNe,Int.reduceToNat,Int.reduceLT,Int.reduceLE,Int.reduceNeg,hl,c1,k2,bldO_f,c3,k4,g3q6,g4q6,htq6,hcq6,g4q8,htq8,hcq8,k10,k12,c13,f14,f15,tset_all,c16,f17,f18,c19,k20,CL,LTN]; done) | (simp -implicitDefEqProofs only [TT,Ic.t,Ic.ci,Nat.reduceEqDiff,reduceIte,Nat.reduceAdd,Nat.reduceMul,Nat.reduceLT,Nat.reduceLeDiff,Nat.reduceSub,reduceCtorEq,Int.reduceEq,Int.reduceNe,Int.reduceToNat,Int.reduceLT,Int.reduceLE,Int.reduceNeg,hl,c1,k2,bldO_f,c3,k4,g3q6,g4q6,htq6,hcq6,g4q8,htq8,hcq8,k10,k12,c13,f14,f15,tset_all,c16,f17,f18,c19,k20,CL,LTN]; rfl)) (by first | assumption | omega | (simp only [next_pt,next_pu,lock_pt,lock_pu]; omega)) (by first | assumption | omega | (simp only [next_pt,next_pu,lock_pt,lock_pu]; omega)) (by first | (simp -implicitDefEqProofs only [TT,Ic.t,Ic.ci,Nat.reduceEqDiff,reduceIte,Nat.reduceAdd,Nat.reduceMul,Nat.reduceLT,Nat.reduceLeDiff,Nat.reduceSub,reduceCtorEq,Int.reduceEq,Int.reduceNe,Int.reduceToNat,Int.reduceLT,Int.reduceLE,Int.reduceNeg,hl,c1,k2,bldO_f,c3,k4,g3q6,g4q6,htq6,hcq6,g4q8,htq8,hcq8,k10,k12,c13,f14,f15,tset_all,c16,f17,f18,c19,k20,CL,LTN]; done) | (simp -implicitDefEqProofs only [TT,Ic.t,Ic.ci,Nat.reduceEqDiff,reduceIte,Nat.reduceAdd,Nat.reduceMul,Nat.reduceLT,Nat.reduceLeDiff,Nat.reduceSub,reduceCtorEq,Int.reduceEq,Int.reduceNe,Int.reduceToNat,Int.reduceLT,Int.reduceLE,Int.reduceNeg,hl,c1,k2,bldO_f,c3,k4,g3q6,g4q6,htq6,hcq6,g4q8,htq8,hcq8,k10,k12,c13,f14,f15,tset_all,c16,f17,f18,c19,k20,CL,LTN]; rfl)) (by first | assumption | omega | (simp only [next_pt,next_pu,lock_pt,lock_pu]; omega)) (by first | assumption | omega | (simp only [next_pt,next_pu]; omega)) _ ?_
  intro frq22 tkq22 τq22 g6q22 htq22 hcq22
  have hcq22 := cut_via (n := τ.next + 3) hcq22 (by first | omega | (simp only [next_pt,next_pu]; omega))
  try simp only [List.take_succ_cons,List.take_zero,List.take_nil,CL] at htq22
  try simp -implicitDefEqProofs only [TT,Ic.t,Ic.ci,Nat.reduceEqDiff,reduceIte,Nat.reduceAdd,Nat.reduceMul,Nat.reduceLT,Nat.reduceLeDiff,Nat.reduceSub,reduceCtorEq,Int.reduceEq,Int.reduceNe,Int.reduceToNat,Int.reduceLT,Int.reduceLE,Int.reduceNeg,hl,c1,k2,bldO_f,c3,k4,g3q6,g4q6,htq6,hcq6,g4q8,htq8,hcq8,k10,k12,c13,f14,f15,tset_all,c16,f17,f18,c19,k20,CL,LTN] at hcq22
  have f23 : (32 : Int) * ((1 : Nat) : Int) ≤ 140737488355328 := by decide
  obtain ⟨c24,h⟩ := ifS h
  have f25 : 8 ≤ y21.length := Nat.le_of_eq (Eq.symm c24)
  have f26 : List.take 8 (List.map (TV.int .u32) y21) = List.map (TV.int .u32) y21 := take_map c24
  simp -implicitDefEqProofs only [l_sha_Sum_4,U_sha_Sum,TT,Ic.t,Ic.ci,Nat.reduceEqDiff,reduceIte,Nat.reduceAdd,Nat.reduceMul,Nat.reduceLT,Nat.reduceLeDiff,Nat.reduceSub,reduceCtorEq,Int.reduceEq,Int.reduceNe,Int.reduceToNat,Int.reduceLT,Int.reduceLE,Int.reduceNeg,hl,c1,k2,bldO_f,c3,k4,g3q6,g4q6,htq6,hcq6,g4q8,htq8,hcq8,k10,k12,c13,f14,f15,tset_all,c16,f17,f18,c19,k20,g6q22,htq22,hcq22,f23,c24,f25,f26,CL,LTN]
  refine tW_lp fun LQz27 hnz27 hrz27 hez27 => ?_
  have f28 : (0 : Int) < ((8 : Nat) : Int) := by decide
  obtain ⟨c29,h⟩ := ifS h
  obtain ⟨y30,hy30,h⟩ := ob h
  have f31 := ixL_facts hy30
  have f31a := (f31.2.2 (TV.int .u32)).1
  have f31b := (f31.2.2 (TV.int .u32)).2
  try simp only [CL,MC,Int.reduceToNat] at f31 f31a f31b
  have f32 : 4 ≤ maxLen := by unfold maxLen; omega
  obtain ⟨y33,hy33,h⟩ := ob h
  simp -implicitDefEqProofs only [l_sha_Sum_4,U_sha_Sum,TT,Ic.t,Ic.ci,Nat.reduceEqDiff,reduceIte,Nat.reduceAdd,Nat.reduceMul,Nat.reduceLT,Nat.reduceLeDiff,Nat.reduceSub,reduceCtorEq,Int.reduceEq,Int.reduceNe,Int.reduceToNat,Int.reduceLT,Int.reduceLE,Int.reduceNeg,hl,c1,k2,bldO_f,c3,k4,g3q6,g4q6,htq6,hcq6,g4q8,htq8,hcq8,k10,k12,c13,f14,f15,tset_all,c16,f17,f18,c19,k20,g6q22,htq22,hcq22,f23,c24,f25,f26,hnz27,hrz27,hez27,f28,c29,f31.1,f31.2.1,f31a,f31b,f32,CL,LTN]
  have Sy33 := sha_Sum_f_l4_s y21 [(IntKind.u8.wrap (Int.fdiv y30 (2 ^ (Nat.min 24 IntKind.u32.bits)))),(IntKind.u8.wrap (Int.fdiv y30 (2 ^ (Nat.min 16 IntKind.u32.bits)))),(IntKind.u8.wrap (Int.fdiv y30 (2 ^ (Nat.min 8 IntKind.u32.bits)))),(IntKind.u8.wrap y30)] (IntKind.i64.wrap ((0 : Int) + (1 : Int))) y33 hy33
  unfold sha_Sum_f_l4_P at Sy33
  refine Sy33 _ 4 T_uint8 (by first | rfl | simp [bytesL_len]) (by first | exact Or.inl rfl | exact Or.inr rfl | assumption | simp) (by first | assumption | omega | (simp only [next_pt,next_pu,lock_pt,lock_pu]; omega)) _ ?_
  intro frq34 tkq34 τq34 u0q34 uh0q34 g9q34 htq34 hcq34
  have hcq34 := cut_via (n := τ.next + 3) hcq34 (by first | omega | (simp only [next_pt,next_pu]; omega))
  try simp only [List.take_succ_cons,List.take_zero,List.take_nil,CL] at htq34
  try simp -implicitDefEqProofs only [TT,Ic.t,Ic.ci,Nat.reduceEqDiff,reduceIte,Nat.reduceAdd,Nat.reduceMul,Nat.reduceLT,Nat.reduceLeDiff,Nat.reduceSub,reduceCtorEq,Int.reduceEq,Int.reduceNe,Int.reduceToNat,Int.reduceLT,Int.reduceLE,Int.reduceNeg,hl,c1,k2,bldO_f,c3,k4,g3q6,g4q6,htq6,hcq6,g4q8,htq8,hcq8,k10,k12,c13,f14,f15,tset_all,c16,f17,f18,c19,k20,g6q22,htq22,hcq22,f23,c24,f25,f26,hnz27,hrz27,hez27,f28,c29,f31.1,f31.2.1,f31a,f31b,f32,CL,LTN] at hcq34
  injection h with h; subst h
  simp -implicitDefEqProofs only [l_sha_Sum_4,U_sha_Sum,TT,Ic.t,Ic.ci,Nat.reduceEqDiff,reduceIte,Nat.reduceAdd,Nat.reduceMul,Nat.reduceLT,Nat.reduceLeDiff,Nat.reduceSub,reduceCtorEq,Int.reduceEq,Int.reduceNe,Int.reduceToNat,Int.reduceLT,Int.reduceLE,Int.reduceNeg,hl,c1,k2,bldO_f,c3,k4,g3q6,g4q6,htq6,hcq6,g4q8,htq8,hcq8,k10,k12,c13,f14,f15,tset_all,c16,f17,f18,c19,k20,g6q22,htq22,hcq22,f23,c24,f25,f26,hnz27,hrz27,hez27,f28,c29,f31.1,f31.2.1,f31a,f31b,f32,uh0q34,g9q34,htq34,hcq34,CL,LTN]
  exact hK
theorem sha_Sum_f_k (p1 : ByteArray) (r : ByteArray) (h : sha_Sum_f p1 = some r) (lk : Bool) (d : Option Nat) (K : TCont) (fr : TF) (tk : TK) (τ : TH) (hl : τ.lock ≤ τ.next) : callK G lk F_sha_Sum [.str p1] d K fr tk τ = K (tput fr d (.str r)) tk τ :=
  callK_rdo (sha_Sum_f_s p1 r h τ  hl) (sha_Sum_f_s p1 r h (τ.locked τ.next)  (Nat.le_refl _) ) (by simp -implicitDefEqProofs only [TT,Ic.t,Ic.ci,Nat.reduceEqDiff,reduceIte,Nat.reduceAdd,Nat.reduceMul,Nat.reduceLT,Nat.reduceLeDiff,Nat.reduceSub,reduceCtorEq,Int.reduceEq,Int.reduceNe,Int.reduceToNat,Int.reduceLT,Int.reduceLE,Int.reduceNeg,hl,CL,LTN])
noncomputable def ots_bits_f (p1 : ByteArray) : Option ByteArray :=
  sha_Sum_f p1 >>= fun y1 =>
  some y1
theorem ots_bits_f_s (p1 : ByteArray) (r : ByteArray) (h : ots_bits_f p1 = some r) (τ : TH) (hl : τ.lock ≤ τ.next) : Ru G F_ots_bits [.str p1] τ (.func F_ots_bits_1 [] [.ptr τ.next 0]) (τ.push ⟨T_string,[.str r]⟩) := by
  refine Ru_of fun K hK => ?_
  rw [tC_code g_ots_bits (Nat.le_of_ble_eq_true rfl)]
  unfold ots_bits_f at h
  obtain ⟨y1,hy1,h⟩ := ob h
  have k2 := sha_Sum_f_k p1 _ hy1
  try simp only [CL,MC,Int.reduceToNat] at k2
  injection h with h; subst h
  simp -implicitDefEqProofs only [U_ots_bits,TT,Ic.t,Ic.ci,Nat.reduceEqDiff,reduceIte,Nat.reduceAdd,Nat.reduceMul,Nat.reduceLT,Nat.reduceLeDiff,Nat.reduceSub,reduceCtorEq,Int.reduceEq,Int.reduceNe,Int.reduceToNat,Int.reduceLT,Int.reduceLE,Int.reduceNeg,hl,k2,CL,LTN]
  exact hK
theorem ots_bits_f_k (p1 : ByteArray) (r : ByteArray) (h : ots_bits_f p1 = some r) (d : Option Nat) (K : TCont) (fr : TF) (tk : TK) (τ : TH) (hl : τ.lock ≤ τ.next) : callK G false F_ots_bits [.str p1] d K fr tk τ = K (tput fr d (.func F_ots_bits_1 [] [.ptr τ.next 0])) tk (τ.push ⟨T_string,[.str r]⟩) :=
  callK_wr (ots_bits_f_s p1 r h τ  hl) (by simp -implicitDefEqProofs only [TT,Ic.t,Ic.ci,Nat.reduceEqDiff,reduceIte,Nat.reduceAdd,Nat.reduceMul,Nat.reduceLT,Nat.reduceLeDiff,Nat.reduceSub,reduceCtorEq,Int.reduceEq,Int.reduceNe,Int.reduceToNat,Int.reduceLT,Int.reduceLE,Int.reduceNeg,hl,CL,LTN])
noncomputable def ots_bits_1_f (p1 : Int) (p2 : ByteArray) : Option Int :=
  ixB p2 (IntKind.i64.wrap (Int.tdiv p1 (8 : Int))) >>= fun b1 =>
  if ¬ (IntKind.i64.wrap ((7 : Int) - (Int.tmod p1 (8 : Int)))) < 0 then
    some (IntKind.i64.wrap ((BitVec.ofInt IntKind.i64.bits (IntKind.i64.wrap (Int.fdiv b1 (2 ^ (Nat.min (IntKind.i64.wrap ((7 : Int) - (Int.tmod p1 (8 : Int)))).toNat IntKind.u8.bits)))) &&& BitVec.ofInt IntKind.i64.bits (1 : Int)).toNat : Int)) >>= fun x4 =>
    some x4
  else
    none
theorem ots_bits_1_f_s (p1 : Int) (p2 : ByteArray) (r : Int) (h : ots_bits_1_f p1 p2 = some r) (τ : TH) (o0 : Nat) (hl : τ.lock ≤ τ.next) (ha0 : τ.at o0 = some ⟨T_string,[.str p2]⟩) (hi0 : o0 < τ.next) : Ru G F_ots_bits_1 [.int .i64 p1,.ptr o0 0] τ (.int .i64 r) τ := by
  refine Ru_of fun K hK => ?_
  rw [tC_code g_ots_bits_1 (Nat.le_of_ble_eq_true rfl)]
  unfold ots_bits_1_f at h
  obtain ⟨b1,hb1,h⟩ := ob h
  have f2 := ixB_facts hb1
  try simp only [CL,MC,Int.reduceToNat] at f2
  obtain ⟨c3,h⟩ := ifS h
  obtain ⟨x4,hx4,h⟩ := ob h
  have f5 := Option.some.inj hx4
  injection h with h; subst h
  simp -implicitDefEqProofs only [U_ots_bits_1,TT,Ic.t,Ic.ci,Nat.reduceEqDiff,reduceIte,Nat.reduceAdd,Nat.reduceMul,Nat.reduceLT,Nat.reduceLeDiff,Nat.reduceSub,reduceCtorEq,Int.reduceEq,Int.reduceNe,Int.reduceToNat,Int.reduceLT,Int.reduceLE,Int.reduceNeg,hl,ha0,hi0,f2.1,f2.2.1,f2.2.2,c3,f5,CL,LTN]
  exact hK
theorem ots_bits_1_f_k (p1 : Int) (p2 : ByteArray) (r : Int) (h : ots_bits_1_f p1 p2 = some r) (lk : Bool) (d : Option Nat) (K : TCont) (fr : TF) (tk : TK) (τ : TH) (o0 : Nat) (hl : τ.lock ≤ τ.next) (ha0 : τ.at o0 = some ⟨T_string,[.str p2]⟩) (hi0 : o0 < τ.next) : callK G lk F_ots_bits_1 [.int .i64 p1,.ptr o0 0] d K fr tk τ = K (tput fr d (.int .i64 r)) tk τ :=
  callK_rdo (ots_bits_1_f_s p1 p2 r h τ o0 hl ha0 hi0) (ots_bits_1_f_s p1 p2 r h (τ.locked τ.next) o0 (Nat.le_refl _) (by rw [at_lk]; exact ha0) hi0) (by simp -implicitDefEqProofs only [TT,Ic.t,Ic.ci,Nat.reduceEqDiff,reduceIte,Nat.reduceAdd,Nat.reduceMul,Nat.reduceLT,Nat.reduceLeDiff,Nat.reduceSub,reduceCtorEq,Int.reduceEq,Int.reduceNe,Int.reduceToNat,Int.reduceLT,Int.reduceLE,Int.reduceNeg,hl,ha0,hi0,CL,LTN])
noncomputable def sha_Short_f (p1 : ByteArray) : Option ByteArray :=
  sha_Sum_f p1 >>= fun y1 =>
  if 0 ≤ (16 : Int) ∧ (16 : Int) ≤ (y1.size : Int) then
    some (y1.extract 0 16)
  else
    none
theorem sha_Short_f_s (p1 : ByteArray) (r : ByteArray) (h : sha_Short_f p1 = some r) (τ : TH) (hl : τ.lock ≤ τ.next) : Ru G F_sha_Short [.str p1] τ (.str r) τ := by
  refine Ru_of fun K hK => ?_
  rw [tC_code g_sha_Short (Nat.le_of_ble_eq_true rfl)]
  unfold sha_Short_f at h
  obtain ⟨y1,hy1,h⟩ := ob h
  have k2 := sha_Sum_f_k p1 _ hy1
  try simp only [CL,MC,Int.reduceToNat] at k2
  obtain ⟨c3,h⟩ := ifS h
  injection h with h; subst h
  simp -implicitDefEqProofs only [U_sha_Short,TT,Ic.t,Ic.ci,Nat.reduceEqDiff,reduceIte,Nat.reduceAdd,Nat.reduceMul,Nat.reduceLT,Nat.reduceLeDiff,Nat.reduceSub,reduceCtorEq,Int.reduceEq,Int.reduceNe,Int.reduceToNat,Int.reduceLT,Int.reduceLE,Int.reduceNeg,hl,k2,c3,CL,LTN]
  exact hK
theorem sha_Short_f_k (p1 : ByteArray) (r : ByteArray) (h : sha_Short_f p1 = some r) (lk : Bool) (d : Option Nat) (K : TCont) (fr : TF) (tk : TK) (τ : TH) (hl : τ.lock ≤ τ.next) : callK G lk F_sha_Short [.str p1] d K fr tk τ = K (tput fr d (.str r)) tk τ :=
  callK_rdo (sha_Short_f_s p1 r h τ  hl) (sha_Short_f_s p1 r h (τ.locked τ.next)  (Nat.le_refl _) ) (by simp -implicitDefEqProofs only [TT,Ic.t,Ic.ci,Nat.reduceEqDiff,reduceIte,Nat.reduceAdd,Nat.reduceMul,Nat.reduceLT,Nat.reduceLeDiff,Nat.reduceSub,reduceCtorEq,Int.reduceEq,Int.reduceNe,Int.reduceToNat,Int.reduceLT,Int.reduceLE,Int.reduceNeg,hl,CL,LTN])
noncomputable def ots_Value_f (p1 : ByteArray) (p2 : Int) (p3 : Int) (p4 : Int) : Option ByteArray :=
  ots_isKey_f p2 >>= fun y1 =>
  if y1 = true then
    if p3 < (0 : Int) then
      some (⟨#[]⟩ : ByteArray)
    else
    if (16 : Int) ≤ p3 then
      some (⟨#[]⟩ : ByteArray)
    else
    if p4 < (0 : Int) then
      some (⟨#[]⟩ : ByteArray)
    else
    if (2 : Int) ≤ p4 then
      some (⟨#[]⟩ : ByteArray)
    else
    if ¬ (9223372036854775807 < ((p1.size + (strL [(IntKind.u8.wrap p2),(IntKind.u8.wrap p3),(IntKind.u8.wrap p4)]).size : Nat) : Int)) then
      sha_Short_f (p1 ++ (strL [(IntKind.u8.wrap p2),(IntKind.u8.wrap p3),(IntKind.u8.wrap p4)])) >>= fun y9 =>
      some y9
    else
      none
  else
  some (⟨#[]⟩ : ByteArray)
theorem ots_Value_f_s (p1 : ByteArray) (p2 : Int) (p3 : Int) (p4 : Int) (r : ByteArray) (h : ots_Value_f p1 p2 p3 p4 = some r) (τ : TH) (hl : τ.lock ≤ τ.next) : Ru G F_ots_Value [.str p1,.int .i64 p2,.int .i64 p3,.int .i64 p4] τ (.str r) τ := by
  refine Ru_of fun K hK => ?_
  rw [tC_code g_ots_Value (Nat.le_of_ble_eq_true rfl)]
  unfold ots_Value_f at h
  obtain ⟨y1,hy1,h⟩ := ob h
  have k2 := ots_isKey_f_k p2 _ hy1
  try simp only [CL,MC,Int.reduceToNat] at k2
  by_cases c3 : y1 = true
  · rw [if_pos c3] at h
    by_cases c4 : p3 < (0 : Int)
    · rw [if_pos c4] at h
      injection h with h; subst h
      simp -implicitDefEqProofs only [U_ots_Value,TT,Ic.t,Ic.ci,Nat.reduceEqDiff,reduceIte,Nat.reduceAdd,Nat.reduceMul,Nat.reduceLT,Nat.reduceLeDiff,Nat.reduceSub,reduceCtorEq,Int.reduceEq,Int.reduceNe,Int.reduceToNat,Int.reduceLT,Int.reduceLE,Int.reduceNeg,hl,k2,c3,c4,CL,LTN]
      exact hK
    rw [if_neg c4] at h
    by_cases c5 : (16 : Int) ≤ p3
    · rw [if_pos c5] at h
      injection h with h; subst h
      simp -implicitDefEqProofs only [U_ots_Value,TT,Ic.t,Ic.ci,Nat.reduceEqDiff,reduceIte,Nat.reduceAdd,Nat.reduceMul,Nat.reduceLT,Nat.reduceLeDiff,Nat.reduceSub,reduceCtorEq,Int.reduceEq,Int.reduceNe,Int.reduceToNat,Int.reduceLT,Int.reduceLE,Int.reduceNeg,hl,k2,c3,c4,c5,CL,LTN]
      exact hK
    rw [if_neg c5] at h
    by_cases c6 : p4 < (0 : Int)
    · rw [if_pos c6] at h
      injection h with h; subst h
      simp -implicitDefEqProofs only [U_ots_Value,TT,Ic.t,Ic.ci,Nat.reduceEqDiff,reduceIte,Nat.reduceAdd,Nat.reduceMul,Nat.reduceLT,Nat.reduceLeDiff,Nat.reduceSub,reduceCtorEq,Int.reduceEq,Int.reduceNe,Int.reduceToNat,Int.reduceLT,Int.reduceLE,Int.reduceNeg,hl,k2,c3,c4,c5,c6,CL,LTN]
      exact hK
    rw [if_neg c6] at h
    by_cases c7 : (2 : Int) ≤ p4
    · rw [if_pos c7] at h
      injection h with h; subst h
      simp -implicitDefEqProofs only [U_ots_Value,TT,Ic.t,Ic.ci,Nat.reduceEqDiff,reduceIte,Nat.reduceAdd,Nat.reduceMul,Nat.reduceLT,Nat.reduceLeDiff,Nat.reduceSub,reduceCtorEq,Int.reduceEq,Int.reduceNe,Int.reduceToNat,Int.reduceLT,Int.reduceLE,Int.reduceNeg,hl,k2,c3,c4,c5,c6,c7,CL,LTN]
      exact hK
    rw [if_neg c7] at h
    obtain ⟨c8,h⟩ := ifS h
    obtain ⟨y9,hy9,h⟩ := ob h
    have k10 := sha_Short_f_k (p1 ++ (strL [(IntKind.u8.wrap p2),(IntKind.u8.wrap p3),(IntKind.u8.wrap p4)])) _ hy9
    try simp only [CL,MC,Int.reduceToNat] at k10
    injection h with h; subst h
    simp -implicitDefEqProofs only [U_ots_Value,TT,Ic.t,Ic.ci,Nat.reduceEqDiff,reduceIte,Nat.reduceAdd,Nat.reduceMul,Nat.reduceLT,Nat.reduceLeDiff,Nat.reduceSub,reduceCtorEq,Int.reduceEq,Int.reduceNe,Int.reduceToNat,Int.reduceLT,Int.reduceLE,Int.reduceNeg,hl,k2,c3,c4,c5,c6,c7,c8,k10,CL,LTN]
    exact hK
  rw [if_neg c3] at h
  have c3 := Bool.eq_false_iff.2 c3
  injection h with h; subst h
  simp -implicitDefEqProofs only [U_ots_Value,TT,Ic.t,Ic.ci,Nat.reduceEqDiff,reduceIte,Nat.reduceAdd,Nat.reduceMul,Nat.reduceLT,Nat.reduceLeDiff,Nat.reduceSub,reduceCtorEq,Int.reduceEq,Int.reduceNe,Int.reduceToNat,Int.reduceLT,Int.reduceLE,Int.reduceNeg,hl,k2,c3,CL,LTN]
  exact hK
theorem ots_Value_f_k (p1 : ByteArray) (p2 : Int) (p3 : Int) (p4 : Int) (r : ByteArray) (h : ots_Value_f p1 p2 p3 p4 = some r) (lk : Bool) (d : Option Nat) (K : TCont) (fr : TF) (tk : TK) (τ : TH) (hl : τ.lock ≤ τ.next) : callK G lk F_ots_Value [.str p1,.int .i64 p2,.int .i64 p3,.int .i64 p4] d K fr tk τ = K (tput fr d (.str r)) tk τ :=
  callK_rdo (ots_Value_f_s p1 p2 p3 p4 r h τ  hl) (ots_Value_f_s p1 p2 p3 p4 r h (τ.locked τ.next)  (Nat.le_refl _) ) (by simp -implicitDefEqProofs only [TT,Ic.t,Ic.ci,Nat.reduceEqDiff,reduceIte,Nat.reduceAdd,Nat.reduceMul,Nat.reduceLT,Nat.reduceLeDiff,Nat.reduceSub,reduceCtorEq,Int.reduceEq,Int.reduceNe,Int.reduceToNat,Int.reduceLT,Int.reduceLE,Int.reduceNeg,hl,CL,LTN])
noncomputable def ots_Sign_1_f (p1 : Int) (p2 : ByteArray) (p3 : Int) (p4 : ByteArray) : Option ByteArray :=
  ots_bits_1_f p1 p4 >>= fun y1 =>
  ots_Value_f p2 p3 p1 y1 >>= fun y3 =>
  ots_Value_f p2 p3 p1 (IntKind.i64.wrap ((1 : Int) - y1)) >>= fun y5 =>
  sha_Short_f y5 >>= fun y7 =>
  if ¬ (9223372036854775807 < ((y3.size + y7.size : Nat) : Int)) then
    some (y3 ++ y7)
  else
    none
theorem ots_Sign_1_f_s (p1 : Int) (p2 : ByteArray) (p3 : Int) (p4 : ByteArray) (r : ByteArray) (h : ots_Sign_1_f p1 p2 p3 p4 = some r) (τ : TH) (o0 : Nat) (o1 : Nat) (o2 : Nat) (o3 : Nat) (hl : τ.lock ≤ τ.next) (ha0 : τ.at o0 = some ⟨T_string,[.str p2]⟩) (hi0 : o0 < τ.next) (ha1 : τ.at o1 = some ⟨T_int,[.int .i64 p3]⟩) (hi1 : o1 < τ.next) (ha2 : τ.at o2 = some ⟨T_func_int_int,[.func F_ots_bits_1 [] [.ptr o3 0]]⟩) (hi2 : o2 < τ.next) (ha3 : τ.at o3 = some ⟨T_string,[.str p4]⟩) (hi3 : o3 < τ.next) : Ru G F_ots_Sign_1 [.int .i64 p1,.ptr o0 0,.ptr o1 0,.ptr o2 0] τ (.str r) τ := by
  refine Ru_of fun K hK => ?_
  rw [tC_code g_ots_Sign_1 (Nat.le_of_ble_eq_true rfl)]
  unfold ots_Sign_1_f at h
  obtain ⟨y1,hy1,h⟩ := ob h
  have k2 := ots_bits_1_f_k p1 p4 _ hy1
  try simp only [CL,MC,Int.reduceToNat] at k2
  obtain ⟨y3,hy3,h⟩ := ob h
  have k4 := ots_Value_f_k p2 p3 p1 y1 _ hy3
  try simp only [CL,MC,Int.reduceToNat] at k4
  obtain ⟨y5,hy5,h⟩ := ob h
  have k6 := ots_Value_f_k p2 p3 p1 (IntKind.i64.wrap ((1 : Int) - y1)) _ hy5
  try simp only [CL,MC,Int.reduceToNat] at k6
  obtain ⟨y7,hy7,h⟩ := ob h
  have k8 := sha_Short_f_k y5 _ hy7
  try simp only [CL,MC,Int.reduceToNat] at k8
  obtain ⟨c9,h⟩ := ifS h
  injection h with h; subst h
  simp -implicitDefEqProofs only [U_ots_Sign_1,TT,Ic.t,Ic.ci,Nat.reduceEqDiff,reduceIte,Nat.reduceAdd,Nat.reduceMul,Nat.reduceLT,Nat.reduceLeDiff,Nat.reduceSub,reduceCtorEq,Int.reduceEq,Int.reduceNe,Int.reduceToNat,Int.reduceLT,Int.reduceLE,Int.reduceNeg,hl,ha0,hi0,ha1,hi1,ha2,hi2,ha3,hi3,k2,k4,k6,k8,c9,CL,LTN]
  exact hK
theorem ots_Sign_1_f_k (p1 : Int) (p2 : ByteArray) (p3 : Int) (p4 : ByteArray) (r : ByteArray) (h : ots_Sign_1_f p1 p2 p3 p4 = some r) (lk : Bool) (d : Option Nat) (K : TCont) (fr : TF) (tk : TK) (τ : TH) (o0 : Nat) (o1 : Nat) (o2 : Nat) (o3 : Nat) (hl : τ.lock ≤ τ.next) (ha0 : τ.at o0 = some ⟨T_string,[.str p2]⟩) (hi0 : o0 < τ.next) (ha1 : τ.at o1 = some ⟨T_int,[.int .i64 p3]⟩) (hi1 : o1 < τ.next) (ha2 : τ.at o2 = some ⟨T_func_int_int,[.func F_ots_bits_1 [] [.ptr o3 0]]⟩) (hi2 : o2 < τ.next) (ha3 : τ.at o3 = some ⟨T_string,[.str p4]⟩) (hi3 : o3 < τ.next) : callK G lk F_ots_Sign_1 [.int .i64 p1,.ptr o0 0,.ptr o1 0,.ptr o2 0] d K fr tk τ = K (tput fr d (.str r)) tk τ :=
  callK_rdo (ots_Sign_1_f_s p1 p2 p3 p4 r h τ o0 o1 o2 o3 hl ha0 hi0 ha1 hi1 ha2 hi2 ha3 hi3) (ots_Sign_1_f_s p1 p2 p3 p4 r h (τ.locked τ.next) o0 o1 o2 o3 (Nat.le_refl _) (by rw [at_lk]; exact ha0) hi0 (by rw [at_lk]; exact ha1) hi1 (by rw [at_lk]; exact ha2) hi2 (by rw [at_lk]; exact ha3) hi3) (by simp -implicitDefEqProofs only [TT,Ic.t,Ic.ci,Nat.reduceEqDiff,reduceIte,Nat.reduceAdd,Nat.reduceMul,Nat.reduceLT,Nat.reduceLeDiff,Nat.reduceSub,reduceCtorEq,Int.reduceEq,Int.reduceNe,Int.reduceToNat,Int.reduceLT,Int.reduceLE,Int.reduceNeg,hl,ha0,hi0,ha1,hi1,ha2,hi2,ha3,hi3,CL,LTN])
noncomputable def ots_all_f_l1_step (v0 : ByteArray) (v1 : Int) (v2 : ByteArray) (v3 : ByteArray) (v4 : Int) : Option (LS (ByteArray × Int) (ByteArray)) :=
  if v4 < (16 : Int) then
    ots_Sign_1_f v4 v0 v1 v2 >>= fun y2 =>
    if v3.size + y2.size ≤ 140737488355328 then
      some (.nx ((v3 ++ y2),(IntKind.i64.wrap (v4 + (1 : Int)))))
    else
      none
  else
  some (.dn v3)
noncomputable def ots_all_f_l1 (v0 : ByteArray) (v1 : Int) (v2 : ByteArray) (v3 : ByteArray) (v4 : Int) : Option (ByteArray) := iterO (fun st => ots_all_f_l1_step v0 v1 v2 st.1 st.2) (v3,v4)
theorem ots_all_f_l1_eq (v0 : ByteArray) (v1 : Int) (v2 : ByteArray) (v3 : ByteArray) (v4 : Int) : ots_all_f_l1 v0 v1 v2 v3 v4 = ots_all_f_l1_step v0 v1 v2 v3 v4 >>= LS.go (fun st => ots_all_f_l1 v0 v1 v2 st.1 st.2) := iterO_eq (fun st => ots_all_f_l1_step v0 v1 v2 st.1 st.2) (v3,v4)
def ots_all_f_l1_P (v0 : ByteArray) (v1 : Int) (v2 : ByteArray) (v3 : ByteArray) (v4 : Int) (r : ByteArray) : Prop := ∀ (τ : TH) (o0 : Nat) (o1 : Nat) (o2 : Nat) (o3 : Nat) (o4 : Nat) (hl : τ.lock ≤ τ.next) (ha0 : τ.at o0 = some ⟨T_string,[.str v0]⟩) (hi0 : o0 < τ.next) (ha1 : τ.at o1 = some ⟨T_int,[.int .i64 v1]⟩) (hi1 : o1 < τ.next) (ha2 : τ.at o2 = some ⟨T_func_int_int,[.func F_ots_bits_1 [] [.ptr o3 0]]⟩) (hi2 : o2 < τ.next) (ha3 : τ.at o3 = some ⟨T_string,[.str v2]⟩) (hi3 : o3 < τ.next) (ub4 : Bool) (hub4 : ub4 = true ∨ v3.size = 0) (ha4 : τ.at o4 = some (bldO o4 ub4 v3)) (hi4 : o4 < τ.next) (hw4 : τ.lock ≤ o4) (hn0_4 : o0 ≠ o4) (hn1_4 : o1 ≠ o4) (hn2_4 : o2 ≠ o4) (hn3_4 : o3 ≠ o4) (Q : TEx → TCont) (hQ0 : ∀ (fr : TF) (tk2 : TK) (τ2 : TH),∀ (ubx4 : Bool),(ubx4 = true ∨ r.size = 0) → lkp fr 3 = .ptr o4 0 → tk2.take 0 = [] → τ2.cut τ.next = (τ.put o4 (bldO o4 ubx4 r)) → Q (.exit 0) fr tk2 τ2) ,tW G (.loop [0,3,5] l_ots_all_1) Q [(0,.func F_ots_Sign_1 [] [.ptr o0 0,.ptr o1 0,.ptr o2 0]),(3,.ptr o4 0),(5,.int .i64 v4)] [] τ
theorem ots_all_f_l1_s (v0 : ByteArray) (v1 : Int) (v2 : ByteArray) (v3 : ByteArray) (v4 : Int) (r : ByteArray) (h : ots_all_f_l1 v0 v1 v2 v3 v4 = some r) : ots_all_f_l1_P v0 v1 v2 v3 v4 r := by
  refine iterO_ind (f := fun st => ots_all_f_l1_step v0 v1 v2 st.1 st.2) (P := fun st r => ∀ (v3 : ByteArray) (v4 : Int),(v3,v4) = st → ots_all_f_l1_P v0 v1 v2 v3 v4 r) ?_ h v3 v4 rfl
  clear h r v4 v3
  intro st o h r ih v3 v4 hst τ o0 o1 o2 o3 o4  hl ha0 hi0 ha1 hi1 ha2 hi2 ha3 hi3 ub4 hub4 ha4 hi4 hw4 hn0_4 hn1_4 hn2_4 hn3_4 Q hQ0
  subst hst
  have h : ots_all_f_l1_step v0 v1 v2 v3 v4 = some o := h
  unfold ots_all_f_l1_step at h
  refine tW_lp fun LQ hn hr he => ?_
  by_cases c1 : v4 < (16 : Int)
  · rw [if_pos c1] at h
    obtain ⟨y2,hy2,h⟩ := ob h
    have k3 := fun (lk : Bool) (d : Option Nat) (K : TCont) (fr : TF) (tk : TK) (τ' : TH) (o'0 : Nat) (o'1 : Nat) (o'2 : Nat) => ots_Sign_1_f_k v4 v0 v1 v2 _ hy2 lk d K fr tk τ' o'0 o'1 o'2 o3
    try simp only [CL,MC,Int.reduceToNat] at k3
    obtain ⟨c4,h⟩ := ifS h
    have k5 := fun (id : Nat) (d : Option Nat) (K : TCont) (fr : TF) (tk : TK) (τ : TH) (ha : τ.at id = some (bldO id ub4 v3)) (hi : id < τ.next) (hw : τ.lock ≤ id) (hl : τ.lock ≤ τ.next) => WriteString_k v3 id ub4 d K fr tk τ ha hi hw hl (by first | exact .inl rfl | assumption) y2 c4
    injection h with h; subst h
    have ih := ih (v3 ++ y2) (IntKind.i64.wrap (v4 + (1 : Int))) rfl
    unfold ots_all_f_l1_P at ih
    simp -implicitDefEqProofs only [l_ots_all_1,U_ots_all,TT,Ic.t,Ic.ci,Nat.reduceEqDiff,reduceIte,Nat.reduceAdd,Nat.reduceMul,Nat.reduceLT,Nat.reduceLeDiff,Nat.reduceSub,reduceCtorEq,Int.reduceEq,Int.reduceNe,Int.reduceToNat,Int.reduceLT,Int.reduceLE,Int.reduceNeg,hl,ha0,hi0,ha1,hi1,ha2,hi2,ha3,hi3,bldO_f,ha4,hi4,hw4,nq hn0_4,nq hn1_4,nq hn2_4,nq hn3_4,c1,k3,c4,k5,CL,LTN]
    rw [hn]
    simp -implicitDefEqProofs only [TT,Ic.t,Ic.ci,Nat.reduceEqDiff,reduceIte,Nat.reduceAdd,Nat.reduceMul,Nat.reduceLT,Nat.reduceLeDiff,Nat.reduceSub,reduceCtorEq,Int.reduceEq,Int.reduceNe,Int.reduceToNat,Int.reduceLT,Int.reduceLE,Int.reduceNeg,hl,ha0,hi0,ha1,hi1,ha2,hi2,ha3,hi3,bldO_f,ha4,hi4,hw4,nq hn0_4,nq hn1_4,nq hn2_4,nq hn3_4,c1,k3,c4,k5,CL,LTN]
    exact ih  (τ.put o4 (bldO o4 true (v3 ++ y2))) o0 o1 o2 o3 o4   (by first | assumption | (simp only [next_pt,lock_pt]; assumption)) (by simp -implicitDefEqProofs only [TT,Ic.t,Ic.ci,Nat.reduceEqDiff,reduceIte,Nat.reduceAdd,Nat.reduceMul,Nat.reduceLT,Nat.reduceLeDiff,Nat.reduceSub,reduceCtorEq,Int.reduceEq,Int.reduceNe,Int.reduceToNat,Int.reduceLT,Int.reduceLE,Int.reduceNeg,hl,ha0,hi0,ha1,hi1,ha2,hi2,ha3,hi3,bldO_f,ha4,hi4,hw4,nq hn0_4,nq hn1_4,nq hn2_4,nq hn3_4,c1,k3,c4,k5,CL,LTN]) (by first | assumption | (simp only [next_pt,lock_pt]; assumption)) (by simp -implicitDefEqProofs only [TT,Ic.t,Ic.ci,Nat.reduceEqDiff,reduceIte,Nat.reduceAdd,Nat.reduceMul,Nat.reduceLT,Nat.reduceLeDiff,Nat.reduceSub,reduceCtorEq,Int.reduceEq,Int.reduceNe,Int.reduceToNat,Int.reduceLT,Int.reduceLE,Int.reduceNeg,hl,ha0,hi0,ha1,hi1,ha2,hi2,ha3,hi3,bldO_f,ha4,hi4,hw4,nq hn0_4,nq hn1_4,nq hn2_4,nq hn3_4,c1,k3,c4,k5,CL,LTN]) (by first | assumption | (simp only [next_pt,lock_pt]; assumption)) (by simp -implicitDefEqProofs only [TT,Ic.t,Ic.ci,Nat.reduceEqDiff,reduceIte,Nat.reduceAdd,Nat.reduceMul,Nat.reduceLT,Nat.reduceLeDiff,Nat.reduceSub,reduceCtorEq,Int.reduceEq,Int.reduceNe,Int.reduceToNat,Int.reduceLT,Int.reduceLE,Int.reduceNeg,hl,ha0,hi0,ha1,hi1,ha2,hi2,ha3,hi3,bldO_f,ha4,hi4,hw4,nq hn0_4,nq hn1_4,nq hn2_4,nq hn3_4,c1,k3,c4,k5,CL,LTN]) (by first | assumption | (simp only [next_pt,lock_pt]; assumption)) (by simp -implicitDefEqProofs only [TT,Ic.t,Ic.ci,Nat.reduceEqDiff,reduceIte,Nat.reduceAdd,Nat.reduceMul,Nat.reduceLT,Nat.reduceLeDiff,Nat.reduceSub,reduceCtorEq,Int.reduceEq,Int.reduceNe,Int.reduceToNat,Int.reduceLT,Int.reduceLE,Int.reduceNeg,hl,ha0,hi0,ha1,hi1,ha2,hi2,ha3,hi3,bldO_f,ha4,hi4,hw4,nq hn0_4,nq hn1_4,nq hn2_4,nq hn3_4,c1,k3,c4,k5,CL,LTN]) (by first | assumption | (simp only [next_pt,lock_pt]; assumption)) true (by first | exact .inl rfl | assumption) (by simp -implicitDefEqProofs only [TT,Ic.t,Ic.ci,Nat.reduceEqDiff,reduceIte,Nat.reduceAdd,Nat.reduceMul,Nat.reduceLT,Nat.reduceLeDiff,Nat.reduceSub,reduceCtorEq,Int.reduceEq,Int.reduceNe,Int.reduceToNat,Int.reduceLT,Int.reduceLE,Int.reduceNeg,hl,ha0,hi0,ha1,hi1,ha2,hi2,ha3,hi3,bldO_f,ha4,hi4,hw4,nq hn0_4,nq hn1_4,nq hn2_4,nq hn3_4,c1,k3,c4,k5,CL,LTN]) (by first | assumption | (simp only [next_pt,lock_pt]; assumption)) (by first | assumption | (simp only [next_pt,lock_pt]; assumption)) hn0_4 hn1_4 hn2_4 hn3_4 Q (fun fr tk2 τ2 w4 w4' g0 ht hτ => hQ0 fr tk2 τ2 w4 w4' g0 ht (by first | exact hτ | simpa only [next_pt,pt_pt,hl,ha0,hi0,ha1,hi1,ha2,hi2,ha3,hi3,bldO_f,ha4,hi4,hw4,nq hn0_4,nq hn1_4,nq hn2_4,nq hn3_4] using hτ))
  rw [if_neg c1] at h
  injection h with h; subst h
  obtain rfl : _ = r := ih
  simp -implicitDefEqProofs only [l_ots_all_1,U_ots_all,TT,Ic.t,Ic.ci,Nat.reduceEqDiff,reduceIte,Nat.reduceAdd,Nat.reduceMul,Nat.reduceLT,Nat.reduceLeDiff,Nat.reduceSub,reduceCtorEq,Int.reduceEq,Int.reduceNe,Int.reduceToNat,Int.reduceLT,Int.reduceLE,Int.reduceNeg,hl,ha0,hi0,ha1,hi1,ha2,hi2,ha3,hi3,bldO_f,ha4,hi4,hw4,nq hn0_4,nq hn1_4,nq hn2_4,nq hn3_4,he,hr,c1,CL,LTN]
  exact hQ0  _ _ _ ub4 (by first | exact .inl rfl | assumption) (by first | rfl | (simp -implicitDefEqProofs only [TT,Ic.t,Ic.ci,Nat.reduceEqDiff,reduceIte,Nat.reduceAdd,Nat.reduceMul,Nat.reduceLT,Nat.reduceLeDiff,Nat.reduceSub,reduceCtorEq,Int.reduceEq,Int.reduceNe,Int.reduceToNat,Int.reduceLT,Int.reduceLE,Int.reduceNeg,hl,ha0,hi0,ha1,hi1,ha2,hi2,ha3,hi3,bldO_f,ha4,hi4,hw4,nq hn0_4,nq hn1_4,nq hn2_4,nq hn3_4,c1,CL,LTN])) (by first | rfl | (simp -implicitDefEqProofs only [TT,Ic.t,Ic.ci,Nat.reduceEqDiff,reduceIte,Nat.reduceAdd,Nat.reduceMul,Nat.reduceLT,Nat.reduceLeDiff,Nat.reduceSub,reduceCtorEq,Int.reduceEq,Int.reduceNe,Int.reduceToNat,Int.reduceLT,Int.reduceLE,Int.reduceNeg,hl,ha0,hi0,ha1,hi1,ha2,hi2,ha3,hi3,bldO_f,ha4,hi4,hw4,nq hn0_4,nq hn1_4,nq hn2_4,nq hn3_4,c1,CL,LTN])) (by first | exact cut_ge (Nat.le_refl _) | (simp -implicitDefEqProofs only [TT,Ic.t,Ic.ci,Nat.reduceEqDiff,reduceIte,Nat.reduceAdd,Nat.reduceMul,Nat.reduceLT,Nat.reduceLeDiff,Nat.reduceSub,reduceCtorEq,Int.reduceEq,Int.reduceNe,Int.reduceToNat,Int.reduceLT,Int.reduceLE,Int.reduceNeg,hl,ha0,hi0,ha1,hi1,ha2,hi2,ha3,hi3,bldO_f,ha4,hi4,hw4,nq hn0_4,nq hn1_4,nq hn2_4,nq hn3_4,put_same ha4,c1,CL,LTN]))
noncomputable def ots_all_f (p1 : ByteArray) (p2 : Int) (p3 : ByteArray) : Option ByteArray :=
  ots_all_f_l1 p1 p2 p3 (⟨#[]⟩ : ByteArray) (0 : Int) >>= fun y1 =>
  if y1.size ≤ 140737488355328 then
    some y1
  else
    none
theorem ots_all_f_s (p1 : ByteArray) (p2 : Int) (p3 : ByteArray) (r : ByteArray) (h : ots_all_f p1 p2 p3 = some r) (τ : TH) (o0 : Nat) (o1 : Nat) (o2 : Nat) (o3 : Nat) (hl : τ.lock ≤ τ.next) (ha0 : τ.at o0 = some ⟨T_string,[.str p1]⟩) (hi0 : o0 < τ.next) (ha1 : τ.at o1 = some ⟨T_int,[.int .i64 p2]⟩) (hi1 : o1 < τ.next) (ha2 : τ.at o2 = some ⟨T_func_int_int,[.func F_ots_bits_1 [] [.ptr o3 0]]⟩) (hi2 : o2 < τ.next) (ha3 : τ.at o3 = some ⟨T_string,[.str p3]⟩) (hi3 : o3 < τ.next) : Ru G F_ots_all [.func F_ots_Sign_1 [] [.ptr o0 0,.ptr o1 0,.ptr o2 0]] τ (.str r) τ := by
  refine Ru_of fun K hK => ?_
  rw [tC_code g_ots_all (Nat.le_of_ble_eq_true rfl)]
  unfold ots_all_f at h
  obtain ⟨y1,hy1,h⟩ := ob h
  simp -implicitDefEqProofs only [U_ots_all,TT,Ic.t,Ic.ci,Nat.reduceEqDiff,reduceIte,Nat.reduceAdd,Nat.reduceMul,Nat.reduceLT,Nat.reduceLeDiff,Nat.reduceSub,reduceCtorEq,Int.reduceEq,Int.reduceNe,Int.reduceToNat,Int.reduceLT,Int.reduceLE,Int.reduceNeg,hl,ha0,hi0,ha1,hi1,ha2,hi2,ha3,hi3,CL,LTN]
  have Sy1 := ots_all_f_l1_s p1 p2 p3 (⟨#[]⟩ : ByteArray) (0 : Int) y1 hy1
  unfold ots_all_f_l1_P at Sy1
  refine Sy1 _ o0 o1 o2 o3 τ.next (by first | assumption | omega | (simp only [next_pt,next_pu,lock_pt,lock_pu]; omega)) (by simp -implicitDefEqProofs only [TT,Ic.t,Ic.ci,Nat.reduceEqDiff,reduceIte,Nat.reduceAdd,Nat.reduceMul,Nat.reduceLT,Nat.reduceLeDiff,Nat.reduceSub,reduceCtorEq,Int.reduceEq,Int.reduceNe,Int.reduceToNat,Int.reduceLT,Int.reduceLE,Int.reduceNeg,hl,ha0,hi0,ha1,hi1,ha2,hi2,ha3,hi3,CL,LTN]) (by first | assumption | omega | (simp only [next_pt,next_pu,lock_pt,lock_pu]; omega)) (by simp -implicitDefEqProofs only [TT,Ic.t,Ic.ci,Nat.reduceEqDiff,reduceIte,Nat.reduceAdd,Nat.reduceMul,Nat.reduceLT,Nat.reduceLeDiff,Nat.reduceSub,reduceCtorEq,Int.reduceEq,Int.reduceNe,Int.reduceToNat,Int.reduceLT,Int.reduceLE,Int.reduceNeg,hl,ha0,hi0,ha1,hi1,ha2,hi2,ha3,hi3,CL,LTN]) (by first | assumption | omega | (simp only [next_pt,next_pu,lock_pt,lock_pu]; omega)) (by simp -implicitDefEqProofs only [TT,Ic.t,Ic.ci,Nat.reduceEqDiff,reduceIte,Nat.reduceAdd,Nat.reduceMul,Nat.reduceLT,Nat.reduceLeDiff,Nat.reduceSub,reduceCtorEq,Int.reduceEq,Int.reduceNe,Int.reduceToNat,Int.reduceLT,Int.reduceLE,Int.reduceNeg,hl,ha0,hi0,ha1,hi1,ha2,hi2,ha3,hi3,CL,LTN]) (by first | assumption | omega | (simp only [next_pt,next_pu,lock_pt,lock_pu]; omega)) (by simp -implicitDefEqProofs only [TT,Ic.t,Ic.ci,Nat.reduceEqDiff,reduceIte,Nat.reduceAdd,Nat.reduceMul,Nat.reduceLT,Nat.reduceLeDiff,Nat.reduceSub,reduceCtorEq,Int.reduceEq,Int.reduceNe,Int.reduceToNat,Int.reduceLT,Int.reduceLE,Int.reduceNeg,hl,ha0,hi0,ha1,hi1,ha2,hi2,ha3,hi3,CL,LTN]) (by first | assumption | omega | (simp only [next_pt,next_pu,lock_pt,lock_pu]; omega)) false (by first | exact .inl rfl | exact .inr rfl | assumption) (by simp -implicitDefEqProofs only [TT,Ic.t,Ic.ci,Nat.reduceEqDiff,reduceIte,Nat.reduceAdd,Nat.reduceMul,Nat.reduceLT,Nat.reduceLeDiff,Nat.reduceSub,reduceCtorEq,Int.reduceEq,Int.reduceNe,Int.reduceToNat,Int.reduceLT,Int.reduceLE,Int.reduceNeg,hl,ha0,hi0,ha1,hi1,ha2,hi2,ha3,hi3,bldO_f,CL,LTN]) (by first | assumption | omega | (simp only [next_pt,next_pu,lock_pt,lock_pu]; omega)) (by first | assumption | omega | (simp only [next_pt,next_pu,lock_pt,lock_pu]; omega)) (by first | assumption | omega | (simp only [next_pt,next_pu]; omega)) (by first | assumption | omega | (simp only [next_pt,next_pu]; omega)) (by first | assumption | omega | (simp only [next_pt,next_pu]; omega)) (by first | assumption | omega | (simp only [next_pt,next_pu]; omega)) _ ?_
  intro frq2 tkq2 τq2 ubz2_4 huubz2_4 g3q2 htq2 hcq2
  have hcq2 := cut_via (n := τ.next + 1) hcq2 (by first | omega | (simp only [next_pt,next_pu]; omega))
  try simp only [List.take_succ_cons,List.take_zero,List.take_nil,CL] at htq2
  try simp -implicitDefEqProofs only [TT,Ic.t,Ic.ci,Nat.reduceEqDiff,reduceIte,Nat.reduceAdd,Nat.reduceMul,Nat.reduceLT,Nat.reduceLeDiff,Nat.reduceSub,reduceCtorEq,Int.reduceEq,Int.reduceNe,Int.reduceToNat,Int.reduceLT,Int.reduceLE,Int.reduceNeg,hl,ha0,hi0,ha1,hi1,ha2,hi2,ha3,hi3,CL,LTN] at hcq2
  obtain ⟨c3,h⟩ := ifS h
  have k4 := fun (id : Nat) (d : Option Nat) (K : TCont) (fr : TF) (tk : TK) (τ : TH) (ha : τ.at id = some (bldO id ubz2_4 y1)) (hi : id < τ.next) (hw : τ.lock ≤ id) (hl : τ.lock ≤ τ.next) => String_k y1 id ubz2_4 d K fr tk τ ha hi hw hl (by first | exact .inl rfl | assumption) c3
  injection h with h; subst h
  simp -implicitDefEqProofs only [U_ots_all,TT,Ic.t,Ic.ci,Nat.reduceEqDiff,reduceIte,Nat.reduceAdd,Nat.reduceMul,Nat.reduceLT,Nat.reduceLeDiff,Nat.reduceSub,reduceCtorEq,Int.reduceEq,Int.reduceNe,Int.reduceToNat,Int.reduceLT,Int.reduceLE,Int.reduceNeg,hl,ha0,hi0,ha1,hi1,ha2,hi2,ha3,hi3,bldO_f,g3q2,htq2,hcq2,c3,k4,CL,LTN]
  exact hK
theorem ots_all_f_k (p1 : ByteArray) (p2 : Int) (p3 : ByteArray) (r : ByteArray) (h : ots_all_f p1 p2 p3 = some r) (lk : Bool) (d : Option Nat) (K : TCont) (fr : TF) (tk : TK) (τ : TH) (o0 : Nat) (o1 : Nat) (o2 : Nat) (o3 : Nat) (hl : τ.lock ≤ τ.next) (ha0 : τ.at o0 = some ⟨T_string,[.str p1]⟩) (hi0 : o0 < τ.next) (ha1 : τ.at o1 = some ⟨T_int,[.int .i64 p2]⟩) (hi1 : o1 < τ.next) (ha2 : τ.at o2 = some ⟨T_func_int_int,[.func F_ots_bits_1 [] [.ptr o3 0]]⟩) (hi2 : o2 < τ.next) (ha3 : τ.at o3 = some ⟨T_string,[.str p3]⟩) (hi3 : o3 < τ.next) : callK G lk F_ots_all [.func F_ots_Sign_1 [] [.ptr o0 0,.ptr o1 0,.ptr o2 0]] d K fr tk τ = K (tput fr d (.str r)) tk τ :=
  callK_rdo (ots_all_f_s p1 p2 p3 r h τ o0 o1 o2 o3 hl ha0 hi0 ha1 hi1 ha2 hi2 ha3 hi3) (ots_all_f_s p1 p2 p3 r h (τ.locked τ.next) o0 o1 o2 o3 (Nat.le_refl _) (by rw [at_lk]; exact ha0) hi0 (by rw [at_lk]; exact ha1) hi1 (by rw [at_lk]; exact ha2) hi2 (by rw [at_lk]; exact ha3) hi3) (by simp -implicitDefEqProofs only [TT,Ic.t,Ic.ci,Nat.reduceEqDiff,reduceIte,Nat.reduceAdd,Nat.reduceMul,Nat.reduceLT,Nat.reduceLeDiff,Nat.reduceSub,reduceCtorEq,Int.reduceEq,Int.reduceNe,Int.reduceToNat,Int.reduceLT,Int.reduceLE,Int.reduceNeg,hl,ha0,hi0,ha1,hi1,ha2,hi2,ha3,hi3,CL,LTN])
noncomputable def ots_Sign_f (p1 : ByteArray) (p2 : Int) (p3 : ByteArray) : Option ByteArray :=
  ots_isKey_f p2 >>= fun y1 =>
  if y1 = true then
    ots_bits_f p3 >>= fun y4 =>
    ots_all_f p1 p2 y4 >>= fun y6 =>
    some y6
  else
  some (⟨#[]⟩ : ByteArray)
theorem ots_Sign_f_s (p1 : ByteArray) (p2 : Int) (p3 : ByteArray) (r : ByteArray) (h : ots_Sign_f p1 p2 p3 = some r) (τ : TH) (hl : τ.lock ≤ τ.next) : Ru G F_ots_Sign [.str p1,.int .i64 p2,.str p3] τ (.str r) τ := by
  refine Ru_of fun K hK => ?_
  rw [tC_code g_ots_Sign (Nat.le_of_ble_eq_true rfl)]
  unfold ots_Sign_f at h
  obtain ⟨y1,hy1,h⟩ := ob h
  have k2 := ots_isKey_f_k p2 _ hy1
  try simp only [CL,MC,Int.reduceToNat] at k2
  by_cases c3 : y1 = true
  · rw [if_pos c3] at h
    obtain ⟨y4,hy4,h⟩ := ob h
    have k5 := ots_bits_f_k p3 _ hy4
    try simp only [CL,MC,Int.reduceToNat] at k5
    obtain ⟨y6,hy6,h⟩ := ob h
    have k7 := fun (lk : Bool) (d : Option Nat) (K : TCont) (fr : TF) (tk : TK) (τ' : TH) (o'0 : Nat) (o'1 : Nat) (o'2 : Nat) => ots_all_f_k p1 p2 y4 _ hy6 lk d K fr tk τ' o'0 o'1 o'2 (τ.next + 2)
    try simp only [CL,MC,Int.reduceToNat] at k7
    injection h with h; subst h
    simp -implicitDefEqProofs only [U_ots_Sign,TT,Ic.t,Ic.ci,Nat.reduceEqDiff,reduceIte,Nat.reduceAdd,Nat.reduceMul,Nat.reduceLT,Nat.reduceLeDiff,Nat.reduceSub,reduceCtorEq,Int.reduceEq,Int.reduceNe,Int.reduceToNat,Int.reduceLT,Int.reduceLE,Int.reduceNeg,hl,k2,c3,k5,k7,CL,LTN]
    exact hK
  rw [if_neg c3] at h
  have c3 := Bool.eq_false_iff.2 c3
  injection h with h; subst h
  simp -implicitDefEqProofs only [U_ots_Sign,TT,Ic.t,Ic.ci,Nat.reduceEqDiff,reduceIte,Nat.reduceAdd,Nat.reduceMul,Nat.reduceLT,Nat.reduceLeDiff,Nat.reduceSub,reduceCtorEq,Int.reduceEq,Int.reduceNe,Int.reduceToNat,Int.reduceLT,Int.reduceLE,Int.reduceNeg,hl,k2,c3,CL,LTN]
  exact hK
theorem ots_Sign_f_k (p1 : ByteArray) (p2 : Int) (p3 : ByteArray) (r : ByteArray) (h : ots_Sign_f p1 p2 p3 = some r) (lk : Bool) (d : Option Nat) (K : TCont) (fr : TF) (tk : TK) (τ : TH) (hl : τ.lock ≤ τ.next) : callK G lk F_ots_Sign [.str p1,.int .i64 p2,.str p3] d K fr tk τ = K (tput fr d (.str r)) tk τ :=
  callK_rdo (ots_Sign_f_s p1 p2 p3 r h τ  hl) (ots_Sign_f_s p1 p2 p3 r h (τ.locked τ.next)  (Nat.le_refl _) ) (by simp -implicitDefEqProofs only [TT,Ic.t,Ic.ci,Nat.reduceEqDiff,reduceIte,Nat.reduceAdd,Nat.reduceMul,Nat.reduceLT,Nat.reduceLeDiff,Nat.reduceSub,reduceCtorEq,Int.reduceEq,Int.reduceNe,Int.reduceToNat,Int.reduceLT,Int.reduceLE,Int.reduceNeg,hl,CL,LTN])
noncomputable def ots_Public_1_f (p1 : Int) (p2 : ByteArray) (p3 : Int) : Option ByteArray :=
  ots_Value_f p2 p3 p1 (0 : Int) >>= fun y1 =>
  sha_Short_f y1 >>= fun y3 =>
  ots_Value_f p2 p3 p1 (1 : Int) >>= fun y5 =>
  sha_Short_f y5 >>= fun y7 =>
  if ¬ (9223372036854775807 < ((y3.size + y7.size : Nat) : Int)) then
    some (y3 ++ y7)
  else
    none
theorem ots_Public_1_f_s (p1 : Int) (p2 : ByteArray) (p3 : Int) (r : ByteArray) (h : ots_Public_1_f p1 p2 p3 = some r) (τ : TH) (o0 : Nat) (o1 : Nat) (hl : τ.lock ≤ τ.next) (ha0 : τ.at o0 = some ⟨T_string,[.str p2]⟩) (hi0 : o0 < τ.next) (ha1 : τ.at o1 = some ⟨T_int,[.int .i64 p3]⟩) (hi1 : o1 < τ.next) : Ru G F_ots_Public_1 [.int .i64 p1,.ptr o0 0,.ptr o1 0] τ (.str r) τ := by
  refine Ru_of fun K hK => ?_
  rw [tC_code g_ots_Public_1 (Nat.le_of_ble_eq_true rfl)]
  unfold ots_Public_1_f at h
  obtain ⟨y1,hy1,h⟩ := ob h
  have k2 := ots_Value_f_k p2 p3 p1 (0 : Int) _ hy1
  try simp only [CL,MC,Int.reduceToNat] at k2
  obtain ⟨y3,hy3,h⟩ := ob h
  have k4 := sha_Short_f_k y1 _ hy3
  try simp only [CL,MC,Int.reduceToNat] at k4
  obtain ⟨y5,hy5,h⟩ := ob h
  have k6 := ots_Value_f_k p2 p3 p1 (1 : Int) _ hy5
  try simp only [CL,MC,Int.reduceToNat] at k6
  obtain ⟨y7,hy7,h⟩ := ob h
  have k8 := sha_Short_f_k y5 _ hy7
  try simp only [CL,MC,Int.reduceToNat] at k8
  obtain ⟨c9,h⟩ := ifS h
  injection h with h; subst h
  simp -implicitDefEqProofs only [U_ots_Public_1,TT,Ic.t,Ic.ci,Nat.reduceEqDiff,reduceIte,Nat.reduceAdd,Nat.reduceMul,Nat.reduceLT,Nat.reduceLeDiff,Nat.reduceSub,reduceCtorEq,Int.reduceEq,Int.reduceNe,Int.reduceToNat,Int.reduceLT,Int.reduceLE,Int.reduceNeg,hl,ha0,hi0,ha1,hi1,k2,k4,k6,k8,c9,CL,LTN]
  exact hK
theorem ots_Public_1_f_k (p1 : Int) (p2 : ByteArray) (p3 : Int) (r : ByteArray) (h : ots_Public_1_f p1 p2 p3 = some r) (lk : Bool) (d : Option Nat) (K : TCont) (fr : TF) (tk : TK) (τ : TH) (o0 : Nat) (o1 : Nat) (hl : τ.lock ≤ τ.next) (ha0 : τ.at o0 = some ⟨T_string,[.str p2]⟩) (hi0 : o0 < τ.next) (ha1 : τ.at o1 = some ⟨T_int,[.int .i64 p3]⟩) (hi1 : o1 < τ.next) : callK G lk F_ots_Public_1 [.int .i64 p1,.ptr o0 0,.ptr o1 0] d K fr tk τ = K (tput fr d (.str r)) tk τ :=
  callK_rdo (ots_Public_1_f_s p1 p2 p3 r h τ o0 o1 hl ha0 hi0 ha1 hi1) (ots_Public_1_f_s p1 p2 p3 r h (τ.locked τ.next) o0 o1 (Nat.le_refl _) (by rw [at_lk]; exact ha0) hi0 (by rw [at_lk]; exact ha1) hi1) (by simp -implicitDefEqProofs only [TT,Ic.t,Ic.ci,Nat.reduceEqDiff,reduceIte,Nat.reduceAdd,Nat.reduceMul,Nat.reduceLT,Nat.reduceLeDiff,Nat.reduceSub,reduceCtorEq,Int.reduceEq,Int.reduceNe,Int.reduceToNat,Int.reduceLT,Int.reduceLE,Int.reduceNeg,hl,ha0,hi0,ha1,hi1,CL,LTN])
noncomputable def ots_all_f2_l1_step (v0 : ByteArray) (v1 : Int) (v2 : ByteArray) (v3 : Int) : Option (LS (ByteArray × Int) (ByteArray)) :=
  if v3 < (16 : Int) then
    ots_Public_1_f v3 v0 v1 >>= fun y2 =>
    if v2.size + y2.size ≤ 140737488355328 then
      some (.nx ((v2 ++ y2),(IntKind.i64.wrap (v3 + (1 : Int)))))
    else
      none
  else
  some (.dn v2)
noncomputable def ots_all_f2_l1 (v0 : ByteArray) (v1 : Int) (v2 : ByteArray) (v3 : Int) : Option (ByteArray) := iterO (fun st => ots_all_f2_l1_step v0 v1 st.1 st.2) (v2,v3)
theorem ots_all_f2_l1_eq (v0 : ByteArray) (v1 : Int) (v2 : ByteArray) (v3 : Int) : ots_all_f2_l1 v0 v1 v2 v3 = ots_all_f2_l1_step v0 v1 v2 v3 >>= LS.go (fun st => ots_all_f2_l1 v0 v1 st.1 st.2) := iterO_eq (fun st => ots_all_f2_l1_step v0 v1 st.1 st.2) (v2,v3)
def ots_all_f2_l1_P (v0 : ByteArray) (v1 : Int) (v2 : ByteArray) (v3 : Int) (r : ByteArray) : Prop := ∀ (τ : TH) (o0 : Nat) (o1 : Nat) (o2 : Nat) (hl : τ.lock ≤ τ.next) (ha0 : τ.at o0 = some ⟨T_string,[.str v0]⟩) (hi0 : o0 < τ.next) (ha1 : τ.at o1 = some ⟨T_int,[.int .i64 v1]⟩) (hi1 : o1 < τ.next) (ub2 : Bool) (hub2 : ub2 = true ∨ v2.size = 0) (ha2 : τ.at o2 = some (bldO o2 ub2 v2)) (hi2 : o2 < τ.next) (hw2 : τ.lock ≤ o2) (hn0_2 : o0 ≠ o2) (hn1_2 : o1 ≠ o2) (Q : TEx → TCont) (hQ0 : ∀ (fr : TF) (tk2 : TK) (τ2 : TH),∀ (ubx2 : Bool),(ubx2 = true ∨ r.size = 0) → lkp fr 3 = .ptr o2 0 → tk2.take 0 = [] → τ2.cut τ.next = (τ.put o2 (bldO o2 ubx2 r)) → Q (.exit 0) fr tk2 τ2) ,tW G (.loop [0,3,5] l_ots_all_1) Q [(0,.func F_ots_Public_1 [] [.ptr o0 0,.ptr o1 0]),(3,.ptr o2 0),(5,.int .i64 v3)] [] τ
theorem ots_all_f2_l1_s (v0 : ByteArray) (v1 : Int) (v2 : ByteArray) (v3 : Int) (r : ByteArray) (h : ots_all_f2_l1 v0 v1 v2 v3 = some r) : ots_all_f2_l1_P v0 v1 v2 v3 r := by
  refine iterO_ind (f := fun st => ots_all_f2_l1_step v0 v1 st.1 st.2) (P := fun st r => ∀ (v2 : ByteArray) (v3 : Int),(v2,v3) = st → ots_all_f2_l1_P v0 v1 v2 v3 r) ?_ h v2 v3 rfl
  clear h r v3 v2
  intro st o h r ih v2 v3 hst τ o0 o1 o2  hl ha0 hi0 ha1 hi1 ub2 hub2 ha2 hi2 hw2 hn0_2 hn1_2 Q hQ0
  subst hst
  have h : ots_all_f2_l1_step v0 v1 v2 v3 = some o := h
  unfold ots_all_f2_l1_step at h
  refine tW_lp fun LQ hn hr he => ?_
  by_cases c1 : v3 < (16 : Int)
  · rw [if_pos c1] at h
    obtain ⟨y2,hy2,h⟩ := ob h
    have k3 := ots_Public_1_f_k v3 v0 v1 _ hy2
    try simp only [CL,MC,Int.reduceToNat] at k3
    obtain ⟨c4,h⟩ := ifS h
    have k5 := fun (id : Nat) (d : Option Nat) (K : TCont) (fr : TF) (tk : TK) (τ : TH) (ha : τ.at id = some (bldO id ub2 v2)) (hi : id < τ.next) (hw : τ.lock ≤ id) (hl : τ.lock ≤ τ.next) => WriteString_k v2 id ub2 d K fr tk τ ha hi hw hl (by first | exact .inl rfl | assumption) y2 c4
    injection h with h; subst h
    have ih := ih (v2 ++ y2) (IntKind.i64.wrap (v3 + (1 : Int))) rfl
    unfold ots_all_f2_l1_P at ih
    simp -implicitDefEqProofs only [l_ots_all_1,U_ots_all,TT,Ic.t,Ic.ci,Nat.reduceEqDiff,reduceIte,Nat.reduceAdd,Nat.reduceMul,Nat.reduceLT,Nat.reduceLeDiff,Nat.reduceSub,reduceCtorEq,Int.reduceEq,Int.reduceNe,Int.reduceToNat,Int.reduceLT,Int.reduceLE,Int.reduceNeg,hl,ha0,hi0,ha1,hi1,bldO_f,ha2,hi2,hw2,nq hn0_2,nq hn1_2,c1,k3,c4,k5,CL,LTN]
    rw [hn]
    simp -implicitDefEqProofs only [TT,Ic.t,Ic.ci,Nat.reduceEqDiff,reduceIte,Nat.reduceAdd,Nat.reduceMul,Nat.reduceLT,Nat.reduceLeDiff,Nat.reduceSub,reduceCtorEq,Int.reduceEq,Int.reduceNe,Int.reduceToNat,Int.reduceLT,Int.reduceLE,Int.reduceNeg,hl,ha0,hi0,ha1,hi1,bldO_f,ha2,hi2,hw2,nq hn0_2,nq hn1_2,c1,k3,c4,k5,CL,LTN]
    exact ih  (τ.put o2 (bldO o2 true (v2 ++ y2))) o0 o1 o2   (by first | assumption | (simp only [next_pt,lock_pt]; assumption)) (by simp -implicitDefEqProofs only [TT,Ic.t,Ic.ci,Nat.reduceEqDiff,reduceIte,Nat.reduceAdd,Nat.reduceMul,Nat.reduceLT,Nat.reduceLeDiff,Nat.reduceSub,reduceCtorEq,Int.reduceEq,Int.reduceNe,Int.reduceToNat,Int.reduceLT,Int.reduceLE,Int.reduceNeg,hl,ha0,hi0,ha1,hi1,bldO_f,ha2,hi2,hw2,nq hn0_2,nq hn1_2,c1,k3,c4,k5,CL,LTN]) (by first | assumption | (simp only [next_pt,lock_pt]; assumption)) (by simp -implicitDefEqProofs only [TT,Ic.t,Ic.ci,Nat.reduceEqDiff,reduceIte,Nat.reduceAdd,Nat.reduceMul,Nat.reduceLT,Nat.reduceLeDiff,Nat.reduceSub,reduceCtorEq,Int.reduceEq,Int.reduceNe,Int.reduceToNat,Int.reduceLT,Int.reduceLE,Int.reduceNeg,hl,ha0,hi0,ha1,hi1,bldO_f,ha2,hi2,hw2,nq hn0_2,nq hn1_2,c1,k3,c4,k5,CL,LTN]) (by first | assumption | (simp only [next_pt,lock_pt]; assumption)) true (by first | exact .inl rfl | assumption) (by simp -implicitDefEqProofs only [TT,Ic.t,Ic.ci,Nat.reduceEqDiff,reduceIte,Nat.reduceAdd,Nat.reduceMul,Nat.reduceLT,Nat.reduceLeDiff,Nat.reduceSub,reduceCtorEq,Int.reduceEq,Int.reduceNe,Int.reduceToNat,Int.reduceLT,Int.reduceLE,Int.reduceNeg,hl,ha0,hi0,ha1,hi1,bldO_f,ha2,hi2,hw2,nq hn0_2,nq hn1_2,c1,k3,c4,k5,CL,LTN]) (by first | assumption | (simp only [next_pt,lock_pt]; assumption)) (by first | assumption | (simp only [next_pt,lock_pt]; assumption)) hn0_2 hn1_2 Q (fun fr tk2 τ2 w2 w2' g0 ht hτ => hQ0 fr tk2 τ2 w2 w2' g0 ht (by first | exact hτ | simpa only [next_pt,pt_pt,hl,ha0,hi0,ha1,hi1,bldO_f,ha2,hi2,hw2,nq hn0_2,nq hn1_2] using hτ))
  rw [if_neg c1] at h
  injection h with h; subst h
  obtain rfl : _ = r := ih
  simp -implicitDefEqProofs only [l_ots_all_1,U_ots_all,TT,Ic.t,Ic.ci,Nat.reduceEqDiff,reduceIte,Nat.reduceAdd,Nat.reduceMul,Nat.reduceLT,Nat.reduceLeDiff,Nat.reduceSub,reduceCtorEq,Int.reduceEq,Int.reduceNe,Int.reduceToNat,Int.reduceLT,Int.reduceLE,Int.reduceNeg,hl,ha0,hi0,ha1,hi1,bldO_f,ha2,hi2,hw2,nq hn0_2,nq hn1_2,he,hr,c1,CL,LTN]
  exact hQ0  _ _ _ ub2 (by first | exact .inl rfl | assumption) (by first | rfl | (simp -implicitDefEqProofs only [TT,Ic.t,Ic.ci,Nat.reduceEqDiff,reduceIte,Nat.reduceAdd,Nat.reduceMul,Nat.reduceLT,Nat.reduceLeDiff,Nat.reduceSub,reduceCtorEq,Int.reduceEq,Int.reduceNe,Int.reduceToNat,Int.reduceLT,Int.reduceLE,Int.reduceNeg,hl,ha0,hi0,ha1,hi1,bldO_f,ha2,hi2,hw2,nq hn0_2,nq hn1_2,c1,CL,LTN])) (by first | rfl | (simp -implicitDefEqProofs only [TT,Ic.t,Ic.ci,Nat.reduceEqDiff,reduceIte,Nat.reduceAdd,Nat.reduceMul,Nat.reduceLT,Nat.reduceLeDiff,Nat.reduceSub,reduceCtorEq,Int.reduceEq,Int.reduceNe,Int.reduceToNat,Int.reduceLT,Int.reduceLE,Int.reduceNeg,hl,ha0,hi0,ha1,hi1,bldO_f,ha2,hi2,hw2,nq hn0_2,nq hn1_2,c1,CL,LTN])) (by first | exact cut_ge (Nat.le_refl _) | (simp -implicitDefEqProofs only [TT,Ic.t,Ic.ci,Nat.reduceEqDiff,reduceIte,Nat.reduceAdd,Nat.reduceMul,Nat.reduceLT,Nat.reduceLeDiff,Nat.reduceSub,reduceCtorEq,Int.reduceEq,Int.reduceNe,Int.reduceToNat,Int.reduceLT,Int.reduceLE,Int.reduceNeg,hl,ha0,hi0,ha1,hi1,bldO_f,ha2,hi2,hw2,nq hn0_2,nq hn1_2,put_same ha2,c1,CL,LTN]))
noncomputable def ots_all_f2 (p1 : ByteArray) (p2 : Int) : Option ByteArray :=
  ots_all_f2_l1 p1 p2 (⟨#[]⟩ : ByteArray) (0 : Int) >>= fun y1 =>
  if y1.size ≤ 140737488355328 then
    some y1
  else
    none
theorem ots_all_f2_s (p1 : ByteArray) (p2 : Int) (r : ByteArray) (h : ots_all_f2 p1 p2 = some r) (τ : TH) (o0 : Nat) (o1 : Nat) (hl : τ.lock ≤ τ.next) (ha0 : τ.at o0 = some ⟨T_string,[.str p1]⟩) (hi0 : o0 < τ.next) (ha1 : τ.at o1 = some ⟨T_int,[.int .i64 p2]⟩) (hi1 : o1 < τ.next) : Ru G F_ots_all [.func F_ots_Public_1 [] [.ptr o0 0,.ptr o1 0]] τ (.str r) τ := by
  refine Ru_of fun K hK => ?_
  rw [tC_code g_ots_all (Nat.le_of_ble_eq_true rfl)]
  unfold ots_all_f2 at h
  obtain ⟨y1,hy1,h⟩ := ob h
  simp -implicitDefEqProofs only [U_ots_all,TT,Ic.t,Ic.ci,Nat.reduceEqDiff,reduceIte,Nat.reduceAdd,Nat.reduceMul,Nat.reduceLT,Nat.reduceLeDiff,Nat.reduceSub,reduceCtorEq,Int.reduceEq,Int.reduceNe,Int.reduceToNat,Int.reduceLT,Int.reduceLE,Int.reduceNeg,hl,ha0,hi0,ha1,hi1,CL,LTN]
  have Sy1 := ots_all_f2_l1_s p1 p2 (⟨#[]⟩ : ByteArray) (0 : Int) y1 hy1
  unfold ots_all_f2_l1_P at Sy1
  refine Sy1 _ o0 o1 τ.next (by first | assumption | omega | (simp only [next_pt,next_pu,lock_pt,lock_pu]; omega)) (by simp -implicitDefEqProofs only [TT,Ic.t,Ic.ci,Nat.reduceEqDiff,reduceIte,Nat.reduceAdd,Nat.reduceMul,Nat.reduceLT,Nat.reduceLeDiff,Nat.reduceSub,reduceCtorEq,Int.reduceEq,Int.reduceNe,Int.reduceToNat,Int.reduceLT,Int.reduceLE,Int.reduceNeg,hl,ha0,hi0,ha1,hi1,CL,LTN]) (by first | assumption | omega | (simp only [next_pt,next_pu,lock_pt,lock_pu]; omega)) (by simp -implicitDefEqProofs only [TT,Ic.t,Ic.ci,Nat.reduceEqDiff,reduceIte,Nat.reduceAdd,Nat.reduceMul,Nat.reduceLT,Nat.reduceLeDiff,Nat.reduceSub,reduceCtorEq,Int.reduceEq,Int.reduceNe,Int.reduceToNat,Int.reduceLT,Int.reduceLE,Int.reduceNeg,hl,ha0,hi0,ha1,hi1,CL,LTN]) (by first | assumption | omega | (simp only [next_pt,next_pu,lock_pt,lock_pu]; omega)) false (by first | exact .inl rfl | exact .inr rfl | assumption) (by simp -implicitDefEqProofs only [TT,Ic.t,Ic.ci,Nat.reduceEqDiff,reduceIte,Nat.reduceAdd,Nat.reduceMul,Nat.reduceLT,Nat.reduceLeDiff,Nat.reduceSub,reduceCtorEq,Int.reduceEq,Int.reduceNe,Int.reduceToNat,Int.reduceLT,Int.reduceLE,Int.reduceNeg,hl,ha0,hi0,ha1,hi1,bldO_f,CL,LTN]) (by first | assumption | omega | (simp only [next_pt,next_pu,lock_pt,lock_pu]; omega)) (by first | assumption | omega | (simp only [next_pt,next_pu,lock_pt,lock_pu]; omega)) (by first | assumption | omega | (simp only [next_pt,next_pu]; omega)) (by first | assumption | omega | (simp only [next_pt,next_pu]; omega)) _ ?_
  intro frq2 tkq2 τq2 ubz2_2 huubz2_2 g3q2 htq2 hcq2
  have hcq2 := cut_via (n := τ.next + 1) hcq2 (by first | omega | (simp only [next_pt,next_pu]; omega))
  try simp only [List.take_succ_cons,List.take_zero,List.take_nil,CL] at htq2
  try simp -implicitDefEqProofs only [TT,Ic.t,Ic.ci,Nat.reduceEqDiff,reduceIte,Nat.reduceAdd,Nat.reduceMul,Nat.reduceLT,Nat.reduceLeDiff,Nat.reduceSub,reduceCtorEq,Int.reduceEq,Int.reduceNe,Int.reduceToNat,Int.reduceLT,Int.reduceLE,Int.reduceNeg,hl,ha0,hi0,ha1,hi1,CL,LTN] at hcq2
  obtain ⟨c3,h⟩ := ifS h
  have k4 := fun (id : Nat) (d : Option Nat) (K : TCont) (fr : TF) (tk : TK) (τ : TH) (ha : τ.at id = some (bldO id ubz2_2 y1)) (hi : id < τ.next) (hw : τ.lock ≤ id) (hl : τ.lock ≤ τ.next) => String_k y1 id ubz2_2 d K fr tk τ ha hi hw hl (by first | exact .inl rfl | assumption) c3
  injection h with h; subst h
  simp -implicitDefEqProofs only [U_ots_all,TT,Ic.t,Ic.ci,Nat.reduceEqDiff,reduceIte,Nat.reduceAdd,Nat.reduceMul,Nat.reduceLT,Nat.reduceLeDiff,Nat.reduceSub,reduceCtorEq,Int.reduceEq,Int.reduceNe,Int.reduceToNat,Int.reduceLT,Int.reduceLE,Int.reduceNeg,hl,ha0,hi0,ha1,hi1,bldO_f,g3q2,htq2,hcq2,c3,k4,CL,LTN]
  exact hK
theorem ots_all_f2_k (p1 : ByteArray) (p2 : Int) (r : ByteArray) (h : ots_all_f2 p1 p2 = some r) (lk : Bool) (d : Option Nat) (K : TCont) (fr : TF) (tk : TK) (τ : TH) (o0 : Nat) (o1 : Nat) (hl : τ.lock ≤ τ.next) (ha0 : τ.at o0 = some ⟨T_string,[.str p1]⟩) (hi0 : o0 < τ.next) (ha1 : τ.at o1 = some ⟨T_int,[.int .i64 p2]⟩) (hi1 : o1 < τ.next) : callK G lk F_ots_all [.func F_ots_Public_1 [] [.ptr o0 0,.ptr o1 0]] d K fr tk τ = K (tput fr d (.str r)) tk τ :=
  callK_rdo (ots_all_f2_s p1 p2 r h τ o0 o1 hl ha0 hi0 ha1 hi1) (ots_all_f2_s p1 p2 r h (τ.locked τ.next) o0 o1 (Nat.le_refl _) (by rw [at_lk]; exact ha0) hi0 (by rw [at_lk]; exact ha1) hi1) (by simp -implicitDefEqProofs only [TT,Ic.t,Ic.ci,Nat.reduceEqDiff,reduceIte,Nat.reduceAdd,Nat.reduceMul,Nat.reduceLT,Nat.reduceLeDiff,Nat.reduceSub,reduceCtorEq,Int.reduceEq,Int.reduceNe,Int.reduceToNat,Int.reduceLT,Int.reduceLE,Int.reduceNeg,hl,ha0,hi0,ha1,hi1,CL,LTN])
noncomputable def ots_Public_f (p1 : ByteArray) (p2 : Int) : Option ByteArray :=
  ots_isKey_f p2 >>= fun y1 =>
  if y1 = true then
    ots_all_f2 p1 p2 >>= fun y4 =>
    sha_Short_f y4 >>= fun y6 =>
    some y6
  else
  some (⟨#[]⟩ : ByteArray)
theorem ots_Public_f_s (p1 : ByteArray) (p2 : Int) (r : ByteArray) (h : ots_Public_f p1 p2 = some r) (τ : TH) (hl : τ.lock ≤ τ.next) : Ru G F_ots_Public [.str p1,.int .i64 p2] τ (.str r) τ := by
  refine Ru_of fun K hK => ?_
  rw [tC_code g_ots_Public (Nat.le_of_ble_eq_true rfl)]
  unfold ots_Public_f at h
  obtain ⟨y1,hy1,h⟩ := ob h
  have k2 := ots_isKey_f_k p2 _ hy1
  try simp only [CL,MC,Int.reduceToNat] at k2
  by_cases c3 : y1 = true
  · rw [if_pos c3] at h
    obtain ⟨y4,hy4,h⟩ := ob h
    have k5 := ots_all_f2_k p1 p2 _ hy4
    try simp only [CL,MC,Int.reduceToNat] at k5
    obtain ⟨y6,hy6,h⟩ := ob h
    have k7 := sha_Short_f_k y4 _ hy6
    try simp only [CL,MC,Int.reduceToNat] at k7
    injection h with h; subst h
    simp -implicitDefEqProofs only [U_ots_Public,TT,Ic.t,Ic.ci,Nat.reduceEqDiff,reduceIte,Nat.reduceAdd,Nat.reduceMul,Nat.reduceLT,Nat.reduceLeDiff,Nat.reduceSub,reduceCtorEq,Int.reduceEq,Int.reduceNe,Int.reduceToNat,Int.reduceLT,Int.reduceLE,Int.reduceNeg,hl,k2,c3,k5,k7,CL,LTN]
    exact hK
  rw [if_neg c3] at h
  have c3 := Bool.eq_false_iff.2 c3
  injection h with h; subst h
  simp -implicitDefEqProofs only [U_ots_Public,TT,Ic.t,Ic.ci,Nat.reduceEqDiff,reduceIte,Nat.reduceAdd,Nat.reduceMul,Nat.reduceLT,Nat.reduceLeDiff,Nat.reduceSub,reduceCtorEq,Int.reduceEq,Int.reduceNe,Int.reduceToNat,Int.reduceLT,Int.reduceLE,Int.reduceNeg,hl,k2,c3,CL,LTN]
  exact hK
theorem ots_Public_f_k (p1 : ByteArray) (p2 : Int) (r : ByteArray) (h : ots_Public_f p1 p2 = some r) (lk : Bool) (d : Option Nat) (K : TCont) (fr : TF) (tk : TK) (τ : TH) (hl : τ.lock ≤ τ.next) : callK G lk F_ots_Public [.str p1,.int .i64 p2] d K fr tk τ = K (tput fr d (.str r)) tk τ :=
  callK_rdo (ots_Public_f_s p1 p2 r h τ  hl) (ots_Public_f_s p1 p2 r h (τ.locked τ.next)  (Nat.le_refl _) ) (by simp -implicitDefEqProofs only [TT,Ic.t,Ic.ci,Nat.reduceEqDiff,reduceIte,Nat.reduceAdd,Nat.reduceMul,Nat.reduceLT,Nat.reduceLeDiff,Nat.reduceSub,reduceCtorEq,Int.reduceEq,Int.reduceNe,Int.reduceToNat,Int.reduceLT,Int.reduceLE,Int.reduceNeg,hl,CL,LTN])
noncomputable def ots_Verify_1_f (p1 : Int) (p2 : ByteArray) (p3 : ByteArray) : Option ByteArray :=
  if (0 ≤ (IntKind.i64.wrap ((IntKind.i64.wrap (p1 + (1 : Int))) * (32 : Int))) ∧ (IntKind.i64.wrap ((IntKind.i64.wrap (p1 + (1 : Int))) * (32 : Int))) ≤ (p2.size : Int)) ∧ 0 ≤ (IntKind.i64.wrap (p1 * (32 : Int))) ∧ (IntKind.i64.wrap (p1 * (32 : Int))) ≤ (IntKind.i64.wrap ((IntKind.i64.wrap (p1 + (1 : Int))) * (32 : Int))) then
    if 0 ≤ (16 : Int) ∧ (16 : Int) ≤ ((p2.extract ((IntKind.i64.wrap (p1 * (32 : Int))).toNat) ((IntKind.i64.wrap ((IntKind.i64.wrap (p1 + (1 : Int))) * (32 : Int))).toNat)).size : Int) then
      sha_Short_f ((p2.extract ((IntKind.i64.wrap (p1 * (32 : Int))).toNat) ((IntKind.i64.wrap ((IntKind.i64.wrap (p1 + (1 : Int))) * (32 : Int))).toNat)).extract 0 16) >>= fun y3 =>
      ots_bits_1_f p1 p3 >>= fun y5 =>
      if y5 = (0 : Int) then
        if ¬ (9223372036854775807 < ((y3.size + ((p2.extract ((IntKind.i64.wrap (p1 * (32 : Int))).toNat) ((IntKind.i64.wrap ((IntKind.i64.wrap (p1 + (1 : Int))) * (32 : Int))).toNat)).extract 16 ((p2.extract ((IntKind.i64.wrap (p1 * (32 : Int))).toNat) ((IntKind.i64.wrap ((IntKind.i64.wrap (p1 + (1 : Int))) * (32 : Int))).toNat)).size)).size : Nat) : Int)) then
          some (y3 ++ ((p2.extract ((IntKind.i64.wrap (p1 * (32 : Int))).toNat) ((IntKind.i64.wrap ((IntKind.i64.wrap (p1 + (1 : Int))) * (32 : Int))).toNat)).extract 16 ((p2.extract ((IntKind.i64.wrap (p1 * (32 : Int))).toNat) ((IntKind.i64.wrap ((IntKind.i64.wrap (p1 + (1 : Int))) * (32 : Int))).toNat)).size)))
        else
          none
      else
      if ¬ (9223372036854775807 < ((((p2.extract ((IntKind.i64.wrap (p1 * (32 : Int))).toNat) ((IntKind.i64.wrap ((IntKind.i64.wrap (p1 + (1 : Int))) * (32 : Int))).toNat)).extract 16 ((p2.extract ((IntKind.i64.wrap (p1 * (32 : Int))).toNat) ((IntKind.i64.wrap ((IntKind.i64.wrap (p1 + (1 : Int))) * (32 : Int))).toNat)).size)).size + y3.size : Nat) : Int)) then
        some (((p2.extract ((IntKind.i64.wrap (p1 * (32 : Int))).toNat) ((IntKind.i64.wrap ((IntKind.i64.wrap (p1 + (1 : Int))) * (32 : Int))).toNat)).extract 16 ((p2.extract ((IntKind.i64.wrap (p1 * (32 : Int))).toNat) ((IntKind.i64.wrap ((IntKind.i64.wrap (p1 + (1 : Int))) * (32 : Int))).toNat)).size)) ++ y3)
      else
        none
    else
      none
  else
    none
theorem ots_Verify_1_f_s (p1 : Int) (p2 : ByteArray) (p3 : ByteArray) (r : ByteArray) (h : ots_Verify_1_f p1 p2 p3 = some r) (τ : TH) (o0 : Nat) (o1 : Nat) (o2 : Nat) (hl : τ.lock ≤ τ.next) (ha0 : τ.at o0 = some ⟨T_string,[.str p2]⟩) (hi0 : o0 < τ.next) (ha1 : τ.at o1 = some ⟨T_func_int_int,[.func F_ots_bits_1 [] [.ptr o2 0]]⟩) (hi1 : o1 < τ.next) (ha2 : τ.at o2 = some ⟨T_string,[.str p3]⟩) (hi2 : o2 < τ.next) : Ru G F_ots_Verify_1 [.int .i64 p1,.ptr o0 0,.ptr o1 0] τ (.str r) τ := by
  refine Ru_of fun K hK => ?_
  rw [tC_code g_ots_Verify_1 (Nat.le_of_ble_eq_true rfl)]
  unfold ots_Verify_1_f at h
  obtain ⟨c1,h⟩ := ifS h
  obtain ⟨c2,h⟩ := ifS h
  obtain ⟨y3,hy3,h⟩ := ob h
  have k4 := sha_Short_f_k ((p2.extract ((IntKind.i64.wrap (p1 * (32 : Int))).toNat) ((IntKind.i64.wrap ((IntKind.i64.wrap (p1 + (1 : Int))) * (32 : Int))).toNat)).extract 0 16) _ hy3
  try simp only [CL,MC,Int.reduceToNat] at k4
  obtain ⟨y5,hy5,h⟩ := ob h
  have k6 := ots_bits_1_f_k p1 p3 _ hy5
  try simp only [CL,MC,Int.reduceToNat] at k6
  by_cases c7 : y5 = (0 : Int)
  · rw [if_pos c7] at h
    obtain ⟨c8,h⟩ := ifS h
    injection h with h; subst h
    simp -implicitDefEqProofs only [U_ots_Verify_1,TT,Ic.t,Ic.ci,Nat.reduceEqDiff,reduceIte,Nat.reduceAdd,Nat.reduceMul,Nat.reduceLT,Nat.reduceLeDiff,Nat.reduceSub,reduceCtorEq,Int.reduceEq,Int.reduceNe,Int.reduceToNat,Int.reduceLT,Int.reduceLE,Int.reduceNeg,hl,ha0,hi0,ha1,hi1,ha2,hi2,c1,c2,k4,k6,eq_true c7,c8,CL,LTN]
    exact hK
  rw [if_neg c7] at h
  obtain ⟨c9,h⟩ := ifS h
  injection h with h; subst h
  simp -implicitDefEqProofs only [U_ots_Verify_1,TT,Ic.t,Ic.ci,Nat.reduceEqDiff,reduceIte,Nat.reduceAdd,Nat.reduceMul,Nat.reduceLT,Nat.reduceLeDiff,Nat.reduceSub,reduceCtorEq,Int.reduceEq,Int.reduceNe,Int.reduceToNat,Int.reduceLT,Int.reduceLE,Int.reduceNeg,hl,ha0,hi0,ha1,hi1,ha2,hi2,c1,c2,k4,k6,c7,c9,CL,LTN]
  exact hK
theorem ots_Verify_1_f_k (p1 : Int) (p2 : ByteArray) (p3 : ByteArray) (r : ByteArray) (h : ots_Verify_1_f p1 p2 p3 = some r) (lk : Bool) (d : Option Nat) (K : TCont) (fr : TF) (tk : TK) (τ : TH) (o0 : Nat) (o1 : Nat) (o2 : Nat) (hl : τ.lock ≤ τ.next) (ha0 : τ.at o0 = some ⟨T_string,[.str p2]⟩) (hi0 : o0 < τ.next) (ha1 : τ.at o1 = some ⟨T_func_int_int,[.func F_ots_bits_1 [] [.ptr o2 0]]⟩) (hi1 : o1 < τ.next) (ha2 : τ.at o2 = some ⟨T_string,[.str p3]⟩) (hi2 : o2 < τ.next) : callK G lk F_ots_Verify_1 [.int .i64 p1,.ptr o0 0,.ptr o1 0] d K fr tk τ = K (tput fr d (.str r)) tk τ :=
  callK_rdo (ots_Verify_1_f_s p1 p2 p3 r h τ o0 o1 o2 hl ha0 hi0 ha1 hi1 ha2 hi2) (ots_Verify_1_f_s p1 p2 p3 r h (τ.locked τ.next) o0 o1 o2 (Nat.le_refl _) (by rw [at_lk]; exact ha0) hi0 (by rw [at_lk]; exact ha1) hi1 (by rw [at_lk]; exact ha2) hi2) (by simp -implicitDefEqProofs only [TT,Ic.t,Ic.ci,Nat.reduceEqDiff,reduceIte,Nat.reduceAdd,Nat.reduceMul,Nat.reduceLT,Nat.reduceLeDiff,Nat.reduceSub,reduceCtorEq,Int.reduceEq,Int.reduceNe,Int.reduceToNat,Int.reduceLT,Int.reduceLE,Int.reduceNeg,hl,ha0,hi0,ha1,hi1,ha2,hi2,CL,LTN])
noncomputable def ots_all_f3_l1_step (v0 : ByteArray) (v1 : ByteArray) (v2 : ByteArray) (v3 : Int) : Option (LS (ByteArray × Int) (ByteArray)) :=
  if v3 < (16 : Int) then
    ots_Verify_1_f v3 v0 v1 >>= fun y2 =>
    if v2.size + y2.size ≤ 140737488355328 then
      some (.nx ((v2 ++ y2),(IntKind.i64.wrap (v3 + (1 : Int)))))
    else
      none
  else
  some (.dn v2)
noncomputable def ots_all_f3_l1 (v0 : ByteArray) (v1 : ByteArray) (v2 : ByteArray) (v3 : Int) : Option (ByteArray) := iterO (fun st => ots_all_f3_l1_step v0 v1 st.1 st.2) (v2,v3)
theorem ots_all_f3_l1_eq (v0 : ByteArray) (v1 : ByteArray) (v2 : ByteArray) (v3 : Int) : ots_all_f3_l1 v0 v1 v2 v3 = ots_all_f3_l1_step v0 v1 v2 v3 >>= LS.go (fun st => ots_all_f3_l1 v0 v1 st.1 st.2) := iterO_eq (fun st => ots_all_f3_l1_step v0 v1 st.1 st.2) (v2,v3)
def ots_all_f3_l1_P (v0 : ByteArray) (v1 : ByteArray) (v2 : ByteArray) (v3 : Int) (r : ByteArray) : Prop := ∀ (τ : TH) (o0 : Nat) (o1 : Nat) (o2 : Nat) (o3 : Nat) (hl : τ.lock ≤ τ.next) (ha0 : τ.at o0 = some ⟨T_string,[.str v0]⟩) (hi0 : o0 < τ.next) (ha1 : τ.at o1 = some ⟨T_func_int_int,[.func F_ots_bits_1 [] [.ptr o2 0]]⟩) (hi1 : o1 < τ.next) (ha2 : τ.at o2 = some ⟨T_string,[.str v1]⟩) (hi2 : o2 < τ.next) (ub3 : Bool) (hub3 : ub3 = true ∨ v2.size = 0) (ha3 : τ.at o3 = some (bldO o3 ub3 v2)) (hi3 : o3 < τ.next) (hw3 : τ.lock ≤ o3) (hn0_3 : o0 ≠ o3) (hn1_3 : o1 ≠ o3) (hn2_3 : o2 ≠ o3) (Q : TEx → TCont) (hQ0 : ∀ (fr : TF) (tk2 : TK) (τ2 : TH),∀ (ubx3 : Bool),(ubx3 = true ∨ r.size = 0) → lkp fr 3 = .ptr o3 0 → tk2.take 0 = [] → τ2.cut τ.next = (τ.put o3 (bldO o3 ubx3 r)) → Q (.exit 0) fr tk2 τ2) ,tW G (.loop [0,3,5] l_ots_all_1) Q [(0,.func F_ots_Verify_1 [] [.ptr o0 0,.ptr o1 0]),(3,.ptr o3 0),(5,.int .i64 v3)] [] τ
theorem ots_all_f3_l1_s (v0 : ByteArray) (v1 : ByteArray) (v2 : ByteArray) (v3 : Int) (r : ByteArray) (h : ots_all_f3_l1 v0 v1 v2 v3 = some r) : ots_all_f3_l1_P v0 v1 v2 v3 r := by
  refine iterO_ind (f := fun st => ots_all_f3_l1_step v0 v1 st.1 st.2) (P := fun st r => ∀ (v2 : ByteArray) (v3 : Int),(v2,v3) = st → ots_all_f3_l1_P v0 v1 v2 v3 r) ?_ h v2 v3 rfl
  clear h r v3 v2
  intro st o h r ih v2 v3 hst τ o0 o1 o2 o3  hl ha0 hi0 ha1 hi1 ha2 hi2 ub3 hub3 ha3 hi3 hw3 hn0_3 hn1_3 hn2_3 Q hQ0
  subst hst
  have h : ots_all_f3_l1_step v0 v1 v2 v3 = some o := h
  unfold ots_all_f3_l1_step at h
  refine tW_lp fun LQ hn hr he => ?_
  by_cases c1 : v3 < (16 : Int)
  · rw [if_pos c1] at h
    obtain ⟨y2,hy2,h⟩ := ob h
    have k3 := fun (lk : Bool) (d : Option Nat) (K : TCont) (fr : TF) (tk : TK) (τ' : TH) (o'0 : Nat) (o'1 : Nat) => ots_Verify_1_f_k v3 v0 v1 _ hy2 lk d K fr tk τ' o'0 o'1 o2
    try simp only [CL,MC,Int.reduceToNat] at k3
    obtain ⟨c4,h⟩ := ifS h
    have k5 := fun (id : Nat) (d : Option Nat) (K : TCont) (fr : TF) (tk : TK) (τ : TH) (ha : τ.at id = some (bldO id ub3 v2)) (hi : id < τ.next) (hw : τ.lock ≤ id) (hl : τ.lock ≤ τ.next) => WriteString_k v2 id ub3 d K fr tk τ ha hi hw hl (by first | exact .inl rfl | assumption) y2 c4
    injection h with h; subst h
    have ih := ih (v2 ++ y2) (IntKind.i64.wrap (v3 + (1 : Int))) rfl
    unfold ots_all_f3_l1_P at ih
    simp -implicitDefEqProofs only [l_ots_all_1,U_ots_all,TT,Ic.t,Ic.ci,Nat.reduceEqDiff,reduceIte,Nat.reduceAdd,Nat.reduceMul,Nat.reduceLT,Nat.reduceLeDiff,Nat.reduceSub,reduceCtorEq,Int.reduceEq,Int.reduceNe,Int.reduceToNat,Int.reduceLT,Int.reduceLE,Int.reduceNeg,hl,ha0,hi0,ha1,hi1,ha2,hi2,bldO_f,ha3,hi3,hw3,nq hn0_3,nq hn1_3,nq hn2_3,c1,k3,c4,k5,CL,LTN]
    rw [hn]
    simp -implicitDefEqProofs only [TT,Ic.t,Ic.ci,Nat.reduceEqDiff,reduceIte,Nat.reduceAdd,Nat.reduceMul,Nat.reduceLT,Nat.reduceLeDiff,Nat.reduceSub,reduceCtorEq,Int.reduceEq,Int.reduceNe,Int.reduceToNat,Int.reduceLT,Int.reduceLE,Int.reduceNeg,hl,ha0,hi0,ha1,hi1,ha2,hi2,bldO_f,ha3,hi3,hw3,nq hn0_3,nq hn1_3,nq hn2_3,c1,k3,c4,k5,CL,LTN]
    exact ih  (τ.put o3 (bldO o3 true (v2 ++ y2))) o0 o1 o2 o3   (by first | assumption | (simp only [next_pt,lock_pt]; assumption)) (by simp -implicitDefEqProofs only [TT,Ic.t,Ic.ci,Nat.reduceEqDiff,reduceIte,Nat.reduceAdd,Nat.reduceMul,Nat.reduceLT,Nat.reduceLeDiff,Nat.reduceSub,reduceCtorEq,Int.reduceEq,Int.reduceNe,Int.reduceToNat,Int.reduceLT,Int.reduceLE,Int.reduceNeg,hl,ha0,hi0,ha1,hi1,ha2,hi2,bldO_f,ha3,hi3,hw3,nq hn0_3,nq hn1_3,nq hn2_3,c1,k3,c4,k5,CL,LTN]) (by first | assumption | (simp only [next_pt,lock_pt]; assumption)) (by simp -implicitDefEqProofs only [TT,Ic.t,Ic.ci,Nat.reduceEqDiff,reduceIte,Nat.reduceAdd,Nat.reduceMul,Nat.reduceLT,Nat.reduceLeDiff,Nat.reduceSub,reduceCtorEq,Int.reduceEq,Int.reduceNe,Int.reduceToNat,Int.reduceLT,Int.reduceLE,Int.reduceNeg,hl,ha0,hi0,ha1,hi1,ha2,hi2,bldO_f,ha3,hi3,hw3,nq hn0_3,nq hn1_3,nq hn2_3,c1,k3,c4,k5,CL,LTN]) (by first | assumption | (simp only [next_pt,lock_pt]; assumption)) (by simp -implicitDefEqProofs only [TT,Ic.t,Ic.ci,Nat.reduceEqDiff,reduceIte,Nat.reduceAdd,Nat.reduceMul,Nat.reduceLT,Nat.reduceLeDiff,Nat.reduceSub,reduceCtorEq,Int.reduceEq,Int.reduceNe,Int.reduceToNat,Int.reduceLT,Int.reduceLE,Int.reduceNeg,hl,ha0,hi0,ha1,hi1,ha2,hi2,bldO_f,ha3,hi3,hw3,nq hn0_3,nq hn1_3,nq hn2_3,c1,k3,c4,k5,CL,LTN]) (by first | assumption | (simp only [next_pt,lock_pt]; assumption)) true (by first | exact .inl rfl | assumption) (by simp -implicitDefEqProofs only [TT,Ic.t,Ic.ci,Nat.reduceEqDiff,reduceIte,Nat.reduceAdd,Nat.reduceMul,Nat.reduceLT,Nat.reduceLeDiff,Nat.reduceSub,reduceCtorEq,Int.reduceEq,Int.reduceNe,Int.reduceToNat,Int.reduceLT,Int.reduceLE,Int.reduceNeg,hl,ha0,hi0,ha1,hi1,ha2,hi2,bldO_f,ha3,hi3,hw3,nq hn0_3,nq hn1_3,nq hn2_3,c1,k3,c4,k5,CL,LTN]) (by first | assumption | (simp only [next_pt,lock_pt]; assumption)) (by first | assumption | (simp only [next_pt,lock_pt]; assumption)) hn0_3 hn1_3 hn2_3 Q (fun fr tk2 τ2 w3 w3' g0 ht hτ => hQ0 fr tk2 τ2 w3 w3' g0 ht (by first | exact hτ | simpa only [next_pt,pt_pt,hl,ha0,hi0,ha1,hi1,ha2,hi2,bldO_f,ha3,hi3,hw3,nq hn0_3,nq hn1_3,nq hn2_3] using hτ))
  rw [if_neg c1] at h
  injection h with h; subst h
  obtain rfl : _ = r := ih
  simp -implicitDefEqProofs only [l_ots_all_1,U_ots_all,TT,Ic.t,Ic.ci,Nat.reduceEqDiff,reduceIte,Nat.reduceAdd,Nat.reduceMul,Nat.reduceLT,Nat.reduceLeDiff,Nat.reduceSub,reduceCtorEq,Int.reduceEq,Int.reduceNe,Int.reduceToNat,Int.reduceLT,Int.reduceLE,Int.reduceNeg,hl,ha0,hi0,ha1,hi1,ha2,hi2,bldO_f,ha3,hi3,hw3,nq hn0_3,nq hn1_3,nq hn2_3,he,hr,c1,CL,LTN]
  exact hQ0  _ _ _ ub3 (by first | exact .inl rfl | assumption) (by first | rfl | (simp -implicitDefEqProofs only [TT,Ic.t,Ic.ci,Nat.reduceEqDiff,reduceIte,Nat.reduceAdd,Nat.reduceMul,Nat.reduceLT,Nat.reduceLeDiff,Nat.reduceSub,reduceCtorEq,Int.reduceEq,Int.reduceNe,Int.reduceToNat,Int.reduceLT,Int.reduceLE,Int.reduceNeg,hl,ha0,hi0,ha1,hi1,ha2,hi2,bldO_f,ha3,hi3,hw3,nq hn0_3,nq hn1_3,nq hn2_3,c1,CL,LTN])) (by first | rfl | (simp -implicitDefEqProofs only [TT,Ic.t,Ic.ci,Nat.reduceEqDiff,reduceIte,Nat.reduceAdd,Nat.reduceMul,Nat.reduceLT,Nat.reduceLeDiff,Nat.reduceSub,reduceCtorEq,Int.reduceEq,Int.reduceNe,Int.reduceToNat,Int.reduceLT,Int.reduceLE,Int.reduceNeg,hl,ha0,hi0,ha1,hi1,ha2,hi2,bldO_f,ha3,hi3,hw3,nq hn0_3,nq hn1_3,nq hn2_3,c1,CL,LTN])) (by first | exact cut_ge (Nat.le_refl _) | (simp -implicitDefEqProofs only [TT,Ic.t,Ic.ci,Nat.reduceEqDiff,reduceIte,Nat.reduceAdd,Nat.reduceMul,Nat.reduceLT,Nat.reduceLeDiff,Nat.reduceSub,reduceCtorEq,Int.reduceEq,Int.reduceNe,Int.reduceToNat,Int.reduceLT,Int.reduceLE,Int.reduceNeg,hl,ha0,hi0,ha1,hi1,ha2,hi2,bldO_f,ha3,hi3,hw3,nq hn0_3,nq hn1_3,nq hn2_3,put_same ha3,c1,CL,LTN]))
noncomputable def ots_all_f3 (p1 : ByteArray) (p2 : ByteArray) : Option ByteArray :=
  ots_all_f3_l1 p1 p2 (⟨#[]⟩ : ByteArray) (0 : Int) >>= fun y1 =>
  if y1.size ≤ 140737488355328 then
    some y1
  else
    none
theorem ots_all_f3_s (p1 : ByteArray) (p2 : ByteArray) (r : ByteArray) (h : ots_all_f3 p1 p2 = some r) (τ : TH) (o0 : Nat) (o1 : Nat) (o2 : Nat) (hl : τ.lock ≤ τ.next) (ha0 : τ.at o0 = some ⟨T_string,[.str p1]⟩) (hi0 : o0 < τ.next) (ha1 : τ.at o1 = some ⟨T_func_int_int,[.func F_ots_bits_1 [] [.ptr o2 0]]⟩) (hi1 : o1 < τ.next) (ha2 : τ.at o2 = some ⟨T_string,[.str p2]⟩) (hi2 : o2 < τ.next) : Ru G F_ots_all [.func F_ots_Verify_1 [] [.ptr o0 0,.ptr o1 0]] τ (.str r) τ := by
  refine Ru_of fun K hK => ?_
  rw [tC_code g_ots_all (Nat.le_of_ble_eq_true rfl)]
  unfold ots_all_f3 at h
  obtain ⟨y1,hy1,h⟩ := ob h
  simp -implicitDefEqProofs only [U_ots_all,TT,Ic.t,Ic.ci,Nat.reduceEqDiff,reduceIte,Nat.reduceAdd,Nat.reduceMul,Nat.reduceLT,Nat.reduceLeDiff,Nat.reduceSub,reduceCtorEq,Int.reduceEq,Int.reduceNe,Int.reduceToNat,Int.reduceLT,Int.reduceLE,Int.reduceNeg,hl,ha0,hi0,ha1,hi1,ha2,hi2,CL,LTN]
  have Sy1 := ots_all_f3_l1_s p1 p2 (⟨#[]⟩ : ByteArray) (0 : Int) y1 hy1
  unfold ots_all_f3_l1_P at Sy1
  refine Sy1 _ o0 o1 o2 τ.next (by first | assumption | omega | (simp only [next_pt,next_pu,lock_pt,lock_pu]; omega)) (by simp -implicitDefEqProofs only [TT,Ic.t,Ic.ci,Nat.reduceEqDiff,reduceIte,Nat.reduceAdd,Nat.reduceMul,Nat.reduceLT,Nat.reduceLeDiff,Nat.reduceSub,reduceCtorEq,Int.reduceEq,Int.reduceNe,Int.reduceToNat,Int.reduceLT,Int.reduceLE,Int.reduceNeg,hl,ha0,hi0,ha1,hi1,ha2,hi2,CL,LTN]) (by first | assumption | omega | (simp only [next_pt,next_pu,lock_pt,lock_pu]; omega)) (by simp -implicitDefEqProofs only [TT,Ic.t,Ic.ci,Nat.reduceEqDiff,reduceIte,Nat.reduceAdd,Nat.reduceMul,Nat.reduceLT,Nat.reduceLeDiff,Nat.reduceSub,reduceCtorEq,Int.reduceEq,Int.reduceNe,Int.reduceToNat,Int.reduceLT,Int.reduceLE,Int.reduceNeg,hl,ha0,hi0,ha1,hi1,ha2,hi2,CL,LTN]) (by first | assumption | omega | (simp only [next_pt,next_pu,lock_pt,lock_pu]; omega)) (by simp -implicitDefEqProofs only [TT,Ic.t,Ic.ci,Nat.reduceEqDiff,reduceIte,Nat.reduceAdd,Nat.reduceMul,Nat.reduceLT,Nat.reduceLeDiff,Nat.reduceSub,reduceCtorEq,Int.reduceEq,Int.reduceNe,Int.reduceToNat,Int.reduceLT,Int.reduceLE,Int.reduceNeg,hl,ha0,hi0,ha1,hi1,ha2,hi2,CL,LTN]) (by first | assumption | omega | (simp only [next_pt,next_pu,lock_pt,lock_pu]; omega)) false (by first | exact .inl rfl | exact .inr rfl | assumption) (by simp -implicitDefEqProofs only [TT,Ic.t,Ic.ci,Nat.reduceEqDiff,reduceIte,Nat.reduceAdd,Nat.reduceMul,Nat.reduceLT,Nat.reduceLeDiff,Nat.reduceSub,reduceCtorEq,Int.reduceEq,Int.reduceNe,Int.reduceToNat,Int.reduceLT,Int.reduceLE,Int.reduceNeg,hl,ha0,hi0,ha1,hi1,ha2,hi2,bldO_f,CL,LTN]) (by first | assumption | omega | (simp only [next_pt,next_pu,lock_pt,lock_pu]; omega)) (by first | assumption | omega | (simp only [next_pt,next_pu,lock_pt,lock_pu]; omega)) (by first | assumption | omega | (simp only [next_pt,next_pu]; omega)) (by first | assumption | omega | (simp only [next_pt,next_pu]; omega)) (by first | assumption | omega | (simp only [next_pt,next_pu]; omega)) _ ?_
  intro frq2 tkq2 τq2 ubz2_3 huubz2_3 g3q2 htq2 hcq2
  have hcq2 := cut_via (n := τ.next + 1) hcq2 (by first | omega | (simp only [next_pt,next_pu]; omega))
  try simp only [List.take_succ_cons,List.take_zero,List.take_nil,CL] at htq2
  try simp -implicitDefEqProofs only [TT,Ic.t,Ic.ci,Nat.reduceEqDiff,reduceIte,Nat.reduceAdd,Nat.reduceMul,Nat.reduceLT,Nat.reduceLeDiff,Nat.reduceSub,reduceCtorEq,Int.reduceEq,Int.reduceNe,Int.reduceToNat,Int.reduceLT,Int.reduceLE,Int.reduceNeg,hl,ha0,hi0,ha1,hi1,ha2,hi2,CL,LTN] at hcq2
  obtain ⟨c3,h⟩ := ifS h
  have k4 := fun (id : Nat) (d : Option Nat) (K : TCont) (fr : TF) (tk : TK) (τ : TH) (ha : τ.at id = some (bldO id ubz2_3 y1)) (hi : id < τ.next) (hw : τ.lock ≤ id) (hl : τ.lock ≤ τ.next) => String_k y1 id ubz2_3 d K fr tk τ ha hi hw hl (by first | exact .inl rfl | assumption) c3
  injection h with h; subst h
  simp -implicitDefEqProofs only [U_ots_all,TT,Ic.t,Ic.ci,Nat.reduceEqDiff,reduceIte,Nat.reduceAdd,Nat.reduceMul,Nat.reduceLT,Nat.reduceLeDiff,Nat.reduceSub,reduceCtorEq,Int.reduceEq,Int.reduceNe,Int.reduceToNat,Int.reduceLT,Int.reduceLE,Int.reduceNeg,hl,ha0,hi0,ha1,hi1,ha2,hi2,bldO_f,g3q2,htq2,hcq2,c3,k4,CL,LTN]
  exact hK
theorem ots_all_f3_k (p1 : ByteArray) (p2 : ByteArray) (r : ByteArray) (h : ots_all_f3 p1 p2 = some r) (lk : Bool) (d : Option Nat) (K : TCont) (fr : TF) (tk : TK) (τ : TH) (o0 : Nat) (o1 : Nat) (o2 : Nat) (hl : τ.lock ≤ τ.next) (ha0 : τ.at o0 = some ⟨T_string,[.str p1]⟩) (hi0 : o0 < τ.next) (ha1 : τ.at o1 = some ⟨T_func_int_int,[.func F_ots_bits_1 [] [.ptr o2 0]]⟩) (hi1 : o1 < τ.next) (ha2 : τ.at o2 = some ⟨T_string,[.str p2]⟩) (hi2 : o2 < τ.next) : callK G lk F_ots_all [.func F_ots_Verify_1 [] [.ptr o0 0,.ptr o1 0]] d K fr tk τ = K (tput fr d (.str r)) tk τ :=
  callK_rdo (ots_all_f3_s p1 p2 r h τ o0 o1 o2 hl ha0 hi0 ha1 hi1 ha2 hi2) (ots_all_f3_s p1 p2 r h (τ.locked τ.next) o0 o1 o2 (Nat.le_refl _) (by rw [at_lk]; exact ha0) hi0 (by rw [at_lk]; exact ha1) hi1 (by rw [at_lk]; exact ha2) hi2) (by simp -implicitDefEqProofs only [TT,Ic.t,Ic.ci,Nat.reduceEqDiff,reduceIte,Nat.reduceAdd,Nat.reduceMul,Nat.reduceLT,Nat.reduceLeDiff,Nat.reduceSub,reduceCtorEq,Int.reduceEq,Int.reduceNe,Int.reduceToNat,Int.reduceLT,Int.reduceLE,Int.reduceNeg,hl,ha0,hi0,ha1,hi1,ha2,hi2,CL,LTN])
noncomputable def ots_Verify_f (p1 : ByteArray) (p2 : ByteArray) (p3 : ByteArray) : Option Bool :=
  if ((p3.size : Nat) : Int) = (512 : Int) then
    ots_bits_f p2 >>= fun y2 =>
    ots_all_f3 p3 y2 >>= fun y4 =>
    sha_Short_f y4 >>= fun y6 =>
    some (decide (p1 = y6))
  else
  some false
theorem ots_Verify_f_s (p1 : ByteArray) (p2 : ByteArray) (p3 : ByteArray) (r : Bool) (h : ots_Verify_f p1 p2 p3 = some r) (τ : TH) (hl : τ.lock ≤ τ.next) : Ru G F_ots_Verify [.str p1,.str p2,.str p3] τ (.bool r) τ := by
  refine Ru_of fun K hK => ?_
  rw [tC_code g_ots_Verify (Nat.le_of_ble_eq_true rfl)]
  unfold ots_Verify_f at h
  by_cases c1 : ((p3.size : Nat) : Int) = (512 : Int)
  · rw [if_pos c1] at h
    obtain ⟨y2,hy2,h⟩ := ob h
    have k3 := ots_bits_f_k p2 _ hy2
    try simp only [CL,MC,Int.reduceToNat] at k3
    obtain ⟨y4,hy4,h⟩ := ob h
    have k5 := fun (lk : Bool) (d : Option Nat) (K : TCont) (fr : TF) (tk : TK) (τ' : TH) (o'0 : Nat) (o'1 : Nat) => ots_all_f3_k p3 y2 _ hy4 lk d K fr tk τ' o'0 o'1 (τ.next + 1)
    try simp only [CL,MC,Int.reduceToNat] at k5
    obtain ⟨y6,hy6,h⟩ := ob h
    have k7 := sha_Short_f_k y4 _ hy6
    try simp only [CL,MC,Int.reduceToNat] at k7
    injection h with h; subst h
    simp -implicitDefEqProofs only [U_ots_Verify,TT,Ic.t,Ic.ci,Nat.reduceEqDiff,reduceIte,Nat.reduceAdd,Nat.reduceMul,Nat.reduceLT,Nat.reduceLeDiff,Nat.reduceSub,reduceCtorEq,Int.reduceEq,Int.reduceNe,Int.reduceToNat,Int.reduceLT,Int.reduceLE,Int.reduceNeg,hl,eq_true c1,k3,k5,k7,CL,LTN]
    exact hK
  rw [if_neg c1] at h
  injection h with h; subst h
  simp -implicitDefEqProofs only [U_ots_Verify,TT,Ic.t,Ic.ci,Nat.reduceEqDiff,reduceIte,Nat.reduceAdd,Nat.reduceMul,Nat.reduceLT,Nat.reduceLeDiff,Nat.reduceSub,reduceCtorEq,Int.reduceEq,Int.reduceNe,Int.reduceToNat,Int.reduceLT,Int.reduceLE,Int.reduceNeg,hl,c1,CL,LTN]
  exact hK
theorem ots_Verify_f_k (p1 : ByteArray) (p2 : ByteArray) (p3 : ByteArray) (r : Bool) (h : ots_Verify_f p1 p2 p3 = some r) (lk : Bool) (d : Option Nat) (K : TCont) (fr : TF) (tk : TK) (τ : TH) (hl : τ.lock ≤ τ.next) : callK G lk F_ots_Verify [.str p1,.str p2,.str p3] d K fr tk τ = K (tput fr d (.bool r)) tk τ :=
  callK_rdo (ots_Verify_f_s p1 p2 p3 r h τ  hl) (ots_Verify_f_s p1 p2 p3 r h (τ.locked τ.next)  (Nat.le_refl _) ) (by simp -implicitDefEqProofs only [TT,Ic.t,Ic.ci,Nat.reduceEqDiff,reduceIte,Nat.reduceAdd,Nat.reduceMul,Nat.reduceLT,Nat.reduceLeDiff,Nat.reduceSub,reduceCtorEq,Int.reduceEq,Int.reduceNe,Int.reduceToNat,Int.reduceLT,Int.reduceLE,Int.reduceNeg,hl,CL,LTN])
noncomputable def handsellaw02_awake_f  : Option Bool :=
  ots_Sign_f (⟨#[115,101,101,100]⟩ : ByteArray) (1 : Int) (⟨#[116,101,120,116]⟩ : ByteArray) >>= fun y1 =>
  if ((y1.size : Nat) : Int) = (512 : Int) then
    ots_Public_f (⟨#[115,101,101,100]⟩ : ByteArray) (1 : Int) >>= fun y4 =>
    ots_Verify_f y4 (⟨#[116,101,120,116]⟩ : ByteArray) y1 >>= fun y6 =>
    if y6 = true then
      ots_Public_f (⟨#[115,101,101,100]⟩ : ByteArray) (2 : Int) >>= fun y9 =>
      ots_Verify_f y9 (⟨#[116,101,120,116]⟩ : ByteArray) y1 >>= fun y11 =>
      if y11 = true then
        some false
      else
      ots_Sign_f (⟨#[115,101,101,100]⟩ : ByteArray) (-1 : Int) (⟨#[116,101,120,116]⟩ : ByteArray) >>= fun y14 =>
      some (decide (y14 = (⟨#[]⟩ : ByteArray)))
    else
    some false
  else
  some false
theorem handsellaw02_awake_f_s  (r : Bool) (h : handsellaw02_awake_f  = some r) (τ : TH) (hl : τ.lock ≤ τ.next) : Ru G F_handsellaw02_awake [] τ (.bool r) τ := by
  refine Ru_of fun K hK => ?_
  rw [tC_code g_handsellaw02_awake (Nat.le_of_ble_eq_true rfl)]
  unfold handsellaw02_awake_f at h
  obtain ⟨y1,hy1,h⟩ := ob h
  have k2 := ots_Sign_f_k (⟨#[115,101,101,100]⟩ : ByteArray) (1 : Int) (⟨#[116,101,120,116]⟩ : ByteArray) _ hy1
  try simp only [CL,MC,Int.reduceToNat] at k2
  by_cases c3 : ((y1.size : Nat) : Int) = (512 : Int)
  · rw [if_pos c3] at h
    obtain ⟨y4,hy4,h⟩ := ob h
    have k5 := ots_Public_f_k (⟨#[115,101,101,100]⟩ : ByteArray) (1 : Int) _ hy4
    try simp only [CL,MC,Int.reduceToNat] at k5
    obtain ⟨y6,hy6,h⟩ := ob h
    have k7 := ots_Verify_f_k y4 (⟨#[116,101,120,116]⟩ : ByteArray) y1 _ hy6
    try simp only [CL,MC,Int.reduceToNat] at k7
    by_cases c8 : y6 = true
    · rw [if_pos c8] at h
      obtain ⟨y9,hy9,h⟩ := ob h
      have k10 := ots_Public_f_k (⟨#[115,101,101,100]⟩ : ByteArray) (2 : Int) _ hy9
      try simp only [CL,MC,Int.reduceToNat] at k10
      obtain ⟨y11,hy11,h⟩ := ob h
      have k12 := ots_Verify_f_k y9 (⟨#[116,101,120,116]⟩ : ByteArray) y1 _ hy11
      try simp only [CL,MC,Int.reduceToNat] at k12
      by_cases c13 : y11 = true
      · rw [if_pos c13] at h
        injection h with h; subst h
        simp -implicitDefEqProofs only [U_handsellaw02_awake,TT,Ic.t,Ic.ci,Nat.reduceEqDiff,reduceIte,Nat.reduceAdd,Nat.reduceMul,Nat.reduceLT,Nat.reduceLeDiff,Nat.reduceSub,reduceCtorEq,Int.reduceEq,Int.reduceNe,Int.reduceToNat,Int.reduceLT,Int.reduceLE,Int.reduceNeg,hl,k2,eq_true c3,k5,k7,c8,k10,k12,c13,CL,LTN]
        exact hK
      rw [if_neg c13] at h
      have c13 := Bool.eq_false_iff.2 c13
      obtain ⟨y14,hy14,h⟩ := ob h
      have k15 := ots_Sign_f_k (⟨#[115,101,101,100]⟩ : ByteArray) (-1 : Int) (⟨#[116,101,120,116]⟩ : ByteArray) _ hy14
      try simp only [CL,MC,Int.reduceToNat] at k15
      injection h with h; subst h
      simp -implicitDefEqProofs only [U_handsellaw02_awake,TT,Ic.t,Ic.ci,Nat.reduceEqDiff,reduceIte,Nat.reduceAdd,Nat.reduceMul,Nat.reduceLT,Nat.reduceLeDiff,Nat.reduceSub,reduceCtorEq,Int.reduceEq,Int.reduceNe,Int.reduceToNat,Int.reduceLT,Int.reduceLE,Int.reduceNeg,hl,k2,eq_true c3,k5,k7,c8,k10,k12,c13,k15,CL,LTN]
      exact hK
    rw [if_neg c8] at h
    have c8 := Bool.eq_false_iff.2 c8
    injection h with h; subst h
    simp -implicitDefEqProofs only [U_handsellaw02_awake,TT,Ic.t,Ic.ci,Nat.reduceEqDiff,reduceIte,Nat.reduceAdd,Nat.reduceMul,Nat.reduceLT,Nat.reduceLeDiff,Nat.reduceSub,reduceCtorEq,Int.reduceEq,Int.reduceNe,Int.reduceToNat,Int.reduceLT,Int.reduceLE,Int.reduceNeg,hl,k2,eq_true c3,k5,k7,c8,CL,LTN]
    exact hK
  rw [if_neg c3] at h
  injection h with h; subst h
  simp -implicitDefEqProofs only [U_handsellaw02_awake,TT,Ic.t,Ic.ci,Nat.reduceEqDiff,reduceIte,Nat.reduceAdd,Nat.reduceMul,Nat.reduceLT,Nat.reduceLeDiff,Nat.reduceSub,reduceCtorEq,Int.reduceEq,Int.reduceNe,Int.reduceToNat,Int.reduceLT,Int.reduceLE,Int.reduceNeg,hl,k2,c3,CL,LTN]
  exact hK
theorem handsellaw02_awake_f_k  (r : Bool) (h : handsellaw02_awake_f  = some r) (lk : Bool) (d : Option Nat) (K : TCont) (fr : TF) (tk : TK) (τ : TH) (hl : τ.lock ≤ τ.next) : callK G lk F_handsellaw02_awake [] d K fr tk τ = K (tput fr d (.bool r)) tk τ :=
  callK_rdo (handsellaw02_awake_f_s  r h τ  hl) (handsellaw02_awake_f_s  r h (τ.locked τ.next)  (Nat.le_refl _) ) (by simp -implicitDefEqProofs only [TT,Ic.t,Ic.ci,Nat.reduceEqDiff,reduceIte,Nat.reduceAdd,Nat.reduceMul,Nat.reduceLT,Nat.reduceLeDiff,Nat.reduceSub,reduceCtorEq,Int.reduceEq,Int.reduceNe,Int.reduceToNat,Int.reduceLT,Int.reduceLE,Int.reduceNeg,hl,CL,LTN])
end Go.Proofs.Ytnimkejbeogciaa
