/- Functions of numbers and lists, printed by a program of ours out of the code for the tree level, with their proofs. -/
import Derived.Test.YtnimkejbeogciaaD4
set_option linter.unusedVariables false
set_option linter.unusedSimpArgs false
set_option linter.unusedSectionVars false
namespace Go.Proofs.Ytnimkejbeogciaa
open Go Go.RowKit Sh Ic
noncomputable def handsellaw02_OtsTurned_f (p1 : ByteArray) (p2 : Int) (p3 : ByteArray) (p4 : Int) (p5 : Int) : Option Bool :=
  if (200 : Int) < ((p1.size : Nat) : Int) then
    handsellaw02_awake_f >>= fun y2 =>
    some y2
  else
  if (500 : Int) < ((p3.size : Nat) : Int) then
    handsellaw02_awake_f >>= fun y5 =>
    some y5
  else
  handsellaw00_Place_f p2 (256 : Int) >>= fun y7 =>
  ots_Public_f p1 y7 >>= fun y9 =>
  ots_Sign_f p1 y7 p3 >>= fun y11 =>
  if ((y11.size : Nat) : Int) = (512 : Int) then
    handsellaw00_Place_f p4 ((y11.size : Nat) : Int) >>= fun y14 =>
    if 0 ≤ y14 ∧ y14 < (y11.size : Int) then
      ixL (bytesL y11) y14 >>= fun y17 =>
      handsellaw00_Place_f p5 (255 : Int) >>= fun y19 =>
      if y14.toNat + 1 ≤ (bytesL y11).length then
        if ((bytesL y11).set y14.toNat (IntKind.u8.wrap ((BitVec.ofInt IntKind.u8.bits y17 ^^^ BitVec.ofInt IntKind.u8.bits (IntKind.u8.wrap (IntKind.i64.wrap ((1 : Int) + y19)))).toNat : Int))).length = y11.size then
          if ((bytesL y11).set y14.toNat (IntKind.u8.wrap ((BitVec.ofInt IntKind.u8.bits y17 ^^^ BitVec.ofInt IntKind.u8.bits (IntKind.u8.wrap (IntKind.i64.wrap ((1 : Int) + y19)))).toNat : Int))).length = y11.size then
            ots_Verify_f y9 p3 (strL ((bytesL y11).set y14.toNat (IntKind.u8.wrap ((BitVec.ofInt IntKind.u8.bits y17 ^^^ BitVec.ofInt IntKind.u8.bits (IntKind.u8.wrap (IntKind.i64.wrap ((1 : Int) + y19)))).toNat : Int)))) >>= fun y29 =>
            handselref02_Verify_f y9 p3 (strL ((bytesL y11).set y14.toNat (IntKind.u8.wrap ((BitVec.ofInt IntKind.u8.bits y17 ^^^ BitVec.ofInt IntKind.u8.bits (IntKind.u8.wrap (IntKind.i64.wrap ((1 : Int) + y19)))).toNat : Int)))) >>= fun y31 =>
            if (y29 == y31) = true then
              ots_Verify_f y9 p3 y11 >>= fun y34 =>
              if y34 = true then
                handsellaw02_awake_f >>= fun y37 =>
                some y37
              else
              some false
            else
            some false
          else
            none
        else
          none
      else
        none
    else
      none
  else
  some false
theorem handsellaw02_OtsTurned_f_s (p1 : ByteArray) (p2 : Int) (p3 : ByteArray) (p4 : Int) (p5 : Int) (r : Bool) (h : handsellaw02_OtsTurned_f p1 p2 p3 p4 p5 = some r) (τ : TH) (hl : τ.lock ≤ τ.next) : Ru G F_handsellaw02_OtsTurned [.str p1,.int .i64 p2,.str p3,.int .i64 p4,.int .i64 p5] τ (.bool r) τ := by
  refine Ru_of fun K hK => ?_
  rw [tC_code g_handsellaw02_OtsTurned (Nat.le_of_ble_eq_true rfl)]
  unfold handsellaw02_OtsTurned_f at h
  by_cases c1 : (200 : Int) < ((p1.size : Nat) : Int)
  · rw [if_pos c1] at h
    obtain ⟨y2,hy2,h⟩ := ob h
    have k3 := handsellaw02_awake_f_k  _ hy2
    try simp only [CL,MC,Int.reduceToNat] at k3
    injection h with h; subst h
    simp -implicitDefEqProofs only [U_handsellaw02_OtsTurned,TT,Ic.t,Ic.ci,Nat.reduceEqDiff,reduceIte,Nat.reduceAdd,Nat.reduceMul,Nat.reduceLT,Nat.reduceLeDiff,Nat.reduceSub,reduceCtorEq,Int.reduceEq,Int.reduceNe,Int.reduceToNat,Int.reduceLT,Int.reduceLE,Int.reduceNeg,hl,c1,k3,CL,LTN]
    exact hK
  rw [if_neg c1] at h
  by_cases c4 : (500 : Int) < ((p3.size : Nat) : Int)
  · rw [if_pos c4] at h
    obtain ⟨y5,hy5,h⟩ := ob h
    have k6 := handsellaw02_awake_f_k  _ hy5
    try simp only [CL,MC,Int.reduceToNat] at k6
    injection h with h; subst h
    simp -implicitDefEqProofs only [U_handsellaw02_OtsTurned,TT,Ic.t,Ic.ci,Nat.reduceEqDiff,reduceIte,Nat.reduceAdd,Nat.reduceMul,Nat.reduceLT,Nat.reduceLeDiff,Nat.reduceSub,reduceCtorEq,Int.reduceEq,Int.reduceNe,Int.reduceToNat,Int.reduceLT,Int.reduceLE,Int.reduceNeg,hl,c1,c4,k6,CL,LTN]
    exact hK
  rw [if_neg c4] at h
  obtain ⟨y7,hy7,h⟩ := ob h
  have k8 := handsellaw00_Place_f_k p2 (256 : Int) _ hy7
  try simp only [CL,MC,Int.reduceToNat] at k8
  obtain ⟨y9,hy9,h⟩ := ob h
  have k10 := ots_Public_f_k p1 y7 _ hy9
  try simp only [CL,MC,Int.reduceToNat] at k10
  obtain ⟨y11,hy11,h⟩ := ob h
  have k12 := ots_Sign_f_k p1 y7 p3 _ hy11
  try simp only [CL,MC,Int.reduceToNat] at k12
  by_cases c13 : ((y11.size : Nat) : Int) = (512 : Int)
  · rw [if_pos c13] at h
    obtain ⟨y14,hy14,h⟩ := ob h
    have k15 := handsellaw00_Place_f_k p4 ((y11.size : Nat) : Int) _ hy14
    try simp only [CL,MC,Int.reduceToNat] at k15
    obtain ⟨c16,h⟩ := ifS h
    obtain ⟨y17,hy17,h⟩ := ob h
    have f18 := ixL_facts hy17
    have f18a := (f18.2.2 (TV.int .u8)).1
    have f18b := (f18.2.2 (TV.int .u8)).2
    try simp only [CL,MC,Int.reduceToNat] at f18 f18a f18b
    obtain ⟨y19,hy19,h⟩ := ob h
    have k20 := handsellaw00_Place_f_k p5 (255 : Int) _ hy19
    try simp only [CL,MC,Int.reduceToNat] at k20
    obtain ⟨c21,h⟩ := ifS h
    have f22 : (List.map (TV.int .u8) (bytesL y11)).set y14.toNat (.int .u8 (IntKind.u8.wrap ((BitVec.ofInt IntKind.u8.bits y17 ^^^ BitVec.ofInt IntKind.u8.bits (IntKind.u8.wrap (IntKind.i64.wrap ((1 : Int) + y19)))).toNat : Int))) = List.map (TV.int .u8) ((bytesL y11).set y14.toNat (IntKind.u8.wrap ((BitVec.ofInt IntKind.u8.bits y17 ^^^ BitVec.ofInt IntKind.u8.bits (IntKind.u8.wrap (IntKind.i64.wrap ((1 : Int) + y19)))).toNat : Int))) := setm (enc := (TV.int .u8)) _ _ _
    obtain ⟨c23,h⟩ := ifS h
    have f24 : y11.size ≤ ((bytesL y11).set y14.toNat (IntKind.u8.wrap ((BitVec.ofInt IntKind.u8.bits y17 ^^^ BitVec.ofInt IntKind.u8.bits (IntKind.u8.wrap (IntKind.i64.wrap ((1 : Int) + y19)))).toNat : Int))).length := Nat.le_of_eq (Eq.symm c23)
    have f25 : List.take y11.size (List.map (TV.int .u8) ((bytesL y11).set y14.toNat (IntKind.u8.wrap ((BitVec.ofInt IntKind.u8.bits y17 ^^^ BitVec.ofInt IntKind.u8.bits (IntKind.u8.wrap (IntKind.i64.wrap ((1 : Int) + y19)))).toNat : Int)))) = List.map (TV.int .u8) ((bytesL y11).set y14.toNat (IntKind.u8.wrap ((BitVec.ofInt IntKind.u8.bits y17 ^^^ BitVec.ofInt IntKind.u8.bits (IntKind.u8.wrap (IntKind.i64.wrap ((1 : Int) + y19)))).toNat : Int))) := take_map c23
    obtain ⟨c26,h⟩ := ifS h
    have f27 : y11.size ≤ ((bytesL y11).set y14.toNat (IntKind.u8.wrap ((BitVec.ofInt IntKind.u8.bits y17 ^^^ BitVec.ofInt IntKind.u8.bits (IntKind.u8.wrap (IntKind.i64.wrap ((1 : Int) + y19)))).toNat : Int))).length := Nat.le_of_eq (Eq.symm c26)
    have f28 : List.take y11.size (List.map (TV.int .u8) ((bytesL y11).set y14.toNat (IntKind.u8.wrap ((BitVec.ofInt IntKind.u8.bits y17 ^^^ BitVec.ofInt IntKind.u8.bits (IntKind.u8.wrap (IntKind.i64.wrap ((1 : Int) + y19)))).toNat : Int)))) = List.map (TV.int .u8) ((bytesL y11).set y14.toNat (IntKind.u8.wrap ((BitVec.ofInt IntKind.u8.bits y17 ^^^ BitVec.ofInt IntKind.u8.bits (IntKind.u8.wrap (IntKind.i64.wrap ((1 : Int) + y19)))).toNat : Int))) := take_map c26
    obtain ⟨y29,hy29,h⟩ := ob h
    have k30 := ots_Verify_f_k y9 p3 (strL ((bytesL y11).set y14.toNat (IntKind.u8.wrap ((BitVec.ofInt IntKind.u8.bits y17 ^^^ BitVec.ofInt IntKind.u8.bits (IntKind.u8.wrap (IntKind.i64.wrap ((1 : Int) + y19)))).toNat : Int)))) _ hy29
    try simp only [CL,MC,Int.reduceToNat] at k30
    obtain ⟨y31,hy31,h⟩ := ob h
    have k32 := handselref02_Verify_f_k y9 p3 (strL ((bytesL y11).set y14.toNat (IntKind.u8.wrap ((BitVec.ofInt IntKind.u8.bits y17 ^^^ BitVec.ofInt IntKind.u8.bits (IntKind.u8.wrap (IntKind.i64.wrap ((1 : Int) + y19)))).toNat : Int)))) _ hy31
    try simp only [CL,MC,Int.reduceToNat] at k32
    by_cases c33 : (y29 == y31) = true
    · rw [if_pos c33] at h
      obtain ⟨y34,hy34,h⟩ := ob h
      have k35 := ots_Verify_f_k y9 p3 y11 _ hy34
      try simp only [CL,MC,Int.reduceToNat] at k35
      by_cases c36 : y34 = true
      · rw [if_pos c36] at h
        obtain ⟨y37,hy37,h⟩ := ob h
        have k38 := handsellaw02_awake_f_k  _ hy37
        try simp only [CL,MC,Int.reduceToNat] at k38
        injection h with h; subst h
        simp -implicitDefEqProofs only [U_handsellaw02_OtsTurned,TT,Ic.t,Ic.ci,Nat.reduceEqDiff,reduceIte,Nat.reduceAdd,Nat.reduceMul,Nat.reduceLT,Nat.reduceLeDiff,Nat.reduceSub,reduceCtorEq,Int.reduceEq,Int.reduceNe,Int.reduceToNat,Int.reduceLT,Int.reduceLE,Int.reduceNeg,hl,c1,c4,k8,k10,k12,eq_true c13,k15,c16,f18.1,f18.2.1,f18a,f18b,k20,c21,f22,eq_true c23,f24,f25,eq_true c26,f27,f28,k30,k32,c33,k35,c36,k38,CL,LTN]
        exact hK
      rw [if_neg c36] at h
      have c36 := Bool.eq_false_iff.2 c36
      injection h with h; subst h
      simp -implicitDefEqProofs only [U_handsellaw02_OtsTurned,TT,Ic.t,Ic.ci,Nat.reduceEqDiff,reduceIte,Nat.reduceAdd,Nat.reduceMul,Nat.reduceLT,Nat.reduceLeDiff,Nat.reduceSub,reduceCtorEq,Int.reduceEq,Int.reduceNe,Int.reduceToNat,Int.reduceLT,Int.reduceLE,Int.reduceNeg,hl,c1,c4,k8,k10,k12,eq_true c13,k15,c16,f18.1,f18.2.1,f18a,f18b,k20,c21,f22,eq_true c23,f24,f25,eq_true c26,f27,f28,k30,k32,c33,k35,c36,CL,LTN]
      exact hK
    rw [if_neg c33] at h
    have c33 := Bool.eq_false_iff.2 c33
    injection h with h; subst h
    simp -implicitDefEqProofs only [U_handsellaw02_OtsTurned,TT,Ic.t,Ic.ci,Nat.reduceEqDiff,reduceIte,Nat.reduceAdd,Nat.reduceMul,Nat.reduceLT,Nat.reduceLeDiff,Nat.reduceSub,reduceCtorEq,Int.reduceEq,Int.reduceNe,Int.reduceToNat,Int.reduceLT,Int.reduceLE,Int.reduceNeg,hl,c1,c4,k8,k10,k12,eq_true c13,k15,c16,f18.1,f18.2.1,f18a,f18b,k20,c21,f22,eq_true c23,f24,f25,eq_true c26,f27,f28,k30,k32,c33,CL,LTN]
    exact hK
  rw [if_neg c13] at h
  injection h with h; subst h
  simp -implicitDefEqProofs only [U_handsellaw02_OtsTurned,TT,Ic.t,Ic.ci,Nat.reduceEqDiff,reduceIte,Nat.reduceAdd,Nat.reduceMul,Nat.reduceLT,Nat.reduceLeDiff,Nat.reduceSub,reduceCtorEq,Int.reduceEq,Int.reduceNe,Int.reduceToNat,Int.reduceLT,Int.reduceLE,Int.reduceNeg,hl,c1,c4,k8,k10,k12,c13,CL,LTN]
  exact hK
theorem handsellaw02_OtsTurned_f_k (p1 : ByteArray) (p2 : Int) (p3 : ByteArray) (p4 : Int) (p5 : Int) (r : Bool) (h : handsellaw02_OtsTurned_f p1 p2 p3 p4 p5 = some r) (lk : Bool) (d : Option Nat) (K : TCont) (fr : TF) (tk : TK) (τ : TH) (hl : τ.lock ≤ τ.next) : callK G lk F_handsellaw02_OtsTurned [.str p1,.int .i64 p2,.str p3,.int .i64 p4,.int .i64 p5] d K fr tk τ = K (tput fr d (.bool r)) tk τ :=
  callK_rdo (handsellaw02_OtsTurned_f_s p1 p2 p3 p4 p5 r h τ  hl) (handsellaw02_OtsTurned_f_s p1 p2 p3 p4 p5 r h (τ.locked τ.next)  (Nat.le_refl _) ) (by simp -implicitDefEqProofs only [TT,Ic.t,Ic.ci,Nat.reduceEqDiff,reduceIte,Nat.reduceAdd,Nat.reduceMul,Nat.reduceLT,Nat.reduceLeDiff,Nat.reduceSub,reduceCtorEq,Int.reduceEq,Int.reduceNe,Int.reduceToNat,Int.reduceLT,Int.reduceLE,Int.reduceNeg,hl,CL,LTN])
end Go.Proofs.Ytnimkejbeogciaa
