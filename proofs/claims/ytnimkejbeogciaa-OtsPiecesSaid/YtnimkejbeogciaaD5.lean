/- Functions of numbers and lists, printed by a program of ours out of the code for the tree level, with their proofs. -/
import Derived.Test.YtnimkejbeogciaaD4
set_option linter.unusedVariables false
set_option linter.unusedSimpArgs false
set_option linter.unusedSectionVars false
namespace Go.Proofs.Ytnimkejbeogciaa
open Go Go.RowKit Sh Ic
noncomputable def handselref02_Sign_f (p1 : ByteArray) (p2 : Int) (p3 : ByteArray) : Option ByteArray :=
  if p2 < (0 : Int) then
    some (⟨#[]⟩ : ByteArray)
  else
  if (255 : Int) < p2 then
    some (⟨#[]⟩ : ByteArray)
  else
  handselref01_Sum_f p3 >>= fun y3 =>
  handselref02_Sign_f_l1 p1 p2 y3 (⟨#[]⟩ : ByteArray) (0 : Int) >>= fun y5 =>
  some y5
theorem handselref02_Sign_f_s (p1 : ByteArray) (p2 : Int) (p3 : ByteArray) (r : ByteArray) (h : handselref02_Sign_f p1 p2 p3 = some r) (τ : TH) (hl : τ.lock ≤ τ.next) : Ru G F_handselref02_Sign [.str p1,.int .i64 p2,.str p3] τ (.str r) τ := by
  refine Ru_of fun K hK => ?_
  rw [tC_code g_handselref02_Sign (Nat.le_of_ble_eq_true rfl)]
  unfold handselref02_Sign_f at h
  by_cases c1 : p2 < (0 : Int)
  · rw [if_pos c1] at h
    injection h with h; subst h
    simp -implicitDefEqProofs only [U_handselref02_Sign,TT,Ic.t,Ic.ci,Nat.reduceEqDiff,reduceIte,Nat.reduceAdd,Nat.reduceMul,Nat.reduceLT,Nat.reduceLeDiff,Nat.reduceSub,reduceCtorEq,Int.reduceEq,Int.reduceNe,Int.reduceToNat,Int.reduceLT,Int.reduceLE,Int.reduceNeg,hl,c1,CL,LTN]
    exact hK
  rw [if_neg c1] at h
  by_cases c2 : (255 : Int) < p2
  · rw [if_pos c2] at h
    injection h with h; subst h
    simp -implicitDefEqProofs only [U_handselref02_Sign,TT,Ic.t,Ic.ci,Nat.reduceEqDiff,reduceIte,Nat.reduceAdd,Nat.reduceMul,Nat.reduceLT,Nat.reduceLeDiff,Nat.reduceSub,reduceCtorEq,Int.reduceEq,Int.reduceNe,Int.reduceToNat,Int.reduceLT,Int.reduceLE,Int.reduceNeg,hl,c1,c2,CL,LTN]
    exact hK
  rw [if_neg c2] at h
  obtain ⟨y3,hy3,h⟩ := ob h
  have k4 := handselref01_Sum_f_k p3 _ hy3
  try simp only [CL,MC,Int.reduceToNat] at k4
  obtain ⟨y5,hy5,h⟩ := ob h
  simp -implicitDefEqProofs only [U_handselref02_Sign,TT,Ic.t,Ic.ci,Nat.reduceEqDiff,reduceIte,Nat.reduceAdd,Nat.reduceMul,Nat.reduceLT,Nat.reduceLeDiff,Nat.reduceSub,reduceCtorEq,Int.reduceEq,Int.reduceNe,Int.reduceToNat,Int.reduceLT,Int.reduceLE,Int.reduceNeg,hl,c1,c2,k4,CL,LTN]
  have Sy5 := handselref02_Sign_f_l1_s p1 p2 y3 (⟨#[]⟩ : ByteArray) (0 : Int) y5 hy5
  unfold handselref02_Sign_f_l1_P at Sy5
  refine Sy5 _ (by first | assumption | omega | (simp only [next_pt,next_pu,lock_pt,lock_pu]; omega)) _ ?_
  intro frq6 tkq6 τq6 g8q6 htq6 hcq6
  have hcq6 := cut_via (n := τ.next) hcq6 (by first | omega | (simp only [next_pt,next_pu]; omega))
  try simp only [List.take_succ_cons,List.take_zero,List.take_nil,CL] at htq6
  try simp -implicitDefEqProofs only [TT,Ic.t,Ic.ci,Nat.reduceEqDiff,reduceIte,Nat.reduceAdd,Nat.reduceMul,Nat.reduceLT,Nat.reduceLeDiff,Nat.reduceSub,reduceCtorEq,Int.reduceEq,Int.reduceNe,Int.reduceToNat,Int.reduceLT,Int.reduceLE,Int.reduceNeg,hl,c1,c2,k4,CL,LTN] at hcq6
  injection h with h; subst h
  simp -implicitDefEqProofs only [U_handselref02_Sign,TT,Ic.t,Ic.ci,Nat.reduceEqDiff,reduceIte,Nat.reduceAdd,Nat.reduceMul,Nat.reduceLT,Nat.reduceLeDiff,Nat.reduceSub,reduceCtorEq,Int.reduceEq,Int.reduceNe,Int.reduceToNat,Int.reduceLT,Int.reduceLE,Int.reduceNeg,hl,c1,c2,k4,g8q6,htq6,hcq6,CL,LTN]
  exact hK
theorem handselref02_Sign_f_k (p1 : ByteArray) (p2 : Int) (p3 : ByteArray) (r : ByteArray) (h : handselref02_Sign_f p1 p2 p3 = some r) (lk : Bool) (d : Option Nat) (K : TCont) (fr : TF) (tk : TK) (τ : TH) (hl : τ.lock ≤ τ.next) : callK G lk F_handselref02_Sign [.str p1,.int .i64 p2,.str p3] d K fr tk τ = K (tput fr d (.str r)) tk τ :=
  callK_rdo (handselref02_Sign_f_s p1 p2 p3 r h τ  hl) (handselref02_Sign_f_s p1 p2 p3 r h (τ.locked τ.next)  (Nat.le_refl _) ) (by simp -implicitDefEqProofs only [TT,Ic.t,Ic.ci,Nat.reduceEqDiff,reduceIte,Nat.reduceAdd,Nat.reduceMul,Nat.reduceLT,Nat.reduceLeDiff,Nat.reduceSub,reduceCtorEq,Int.reduceEq,Int.reduceNe,Int.reduceToNat,Int.reduceLT,Int.reduceLE,Int.reduceNeg,hl,CL,LTN])
noncomputable def handselref02_Verify_f_l1_step (v0 : ByteArray) (v1 : ByteArray) (v2 : ByteArray) (v3 : ByteArray) (v4 : Int) : Option (LS (ByteArray × Int) (ByteArray)) :=
  if v4 < (16 : Int) then
    if (0 ≤ (IntKind.i64.wrap ((IntKind.i64.wrap ((32 : Int) * v4)) + (16 : Int))) ∧ (IntKind.i64.wrap ((IntKind.i64.wrap ((32 : Int) * v4)) + (16 : Int))) ≤ (v1.size : Int)) ∧ 0 ≤ (IntKind.i64.wrap ((32 : Int) * v4)) ∧ (IntKind.i64.wrap ((32 : Int) * v4)) ≤ (IntKind.i64.wrap ((IntKind.i64.wrap ((32 : Int) * v4)) + (16 : Int))) then
      if (0 ≤ (IntKind.i64.wrap ((IntKind.i64.wrap ((32 : Int) * v4)) + (32 : Int))) ∧ (IntKind.i64.wrap ((IntKind.i64.wrap ((32 : Int) * v4)) + (32 : Int))) ≤ (v1.size : Int)) ∧ 0 ≤ (IntKind.i64.wrap ((IntKind.i64.wrap ((32 : Int) * v4)) + (16 : Int))) ∧ (IntKind.i64.wrap ((IntKind.i64.wrap ((32 : Int) * v4)) + (16 : Int))) ≤ (IntKind.i64.wrap ((IntKind.i64.wrap ((32 : Int) * v4)) + (32 : Int))) then
        handselref01_Short_f (v1.extract ((IntKind.i64.wrap ((32 : Int) * v4)).toNat) ((IntKind.i64.wrap ((IntKind.i64.wrap ((32 : Int) * v4)) + (16 : Int))).toNat)) >>= fun y4 =>
        handselref02_bit_f v2 v4 >>= fun y6 =>
        if y6 = (0 : Int) then
          if ¬ (9223372036854775807 < ((v3.size + y4.size : Nat) : Int)) then
            if ¬ (9223372036854775807 < (((v3 ++ y4).size + (v1.extract ((IntKind.i64.wrap ((IntKind.i64.wrap ((32 : Int) * v4)) + (16 : Int))).toNat) ((IntKind.i64.wrap ((IntKind.i64.wrap ((32 : Int) * v4)) + (32 : Int))).toNat)).size : Nat) : Int)) then
              some (.nx (((v3 ++ y4) ++ (v1.extract ((IntKind.i64.wrap ((IntKind.i64.wrap ((32 : Int) * v4)) + (16 : Int))).toNat) ((IntKind.i64.wrap ((IntKind.i64.wrap ((32 : Int) * v4)) + (32 : Int))).toNat))),(IntKind.i64.wrap (v4 + (1 : Int)))))
            else
              none
          else
            none
        else
        if ¬ (9223372036854775807 < ((v3.size + (v1.extract ((IntKind.i64.wrap ((IntKind.i64.wrap ((32 : Int) * v4)) + (16 : Int))).toNat) ((IntKind.i64.wrap ((IntKind.i64.wrap ((32 : Int) * v4)) + (32 : Int))).toNat)).size : Nat) : Int)) then
          if ¬ (9223372036854775807 < (((v3 ++ (v1.extract ((IntKind.i64.wrap ((IntKind.i64.wrap ((32 : Int) * v4)) + (16 : Int))).toNat) ((IntKind.i64.wrap ((IntKind.i64.wrap ((32 : Int) * v4)) + (32 : Int))).toNat))).size + y4.size : Nat) : Int)) then
            some (.nx (((v3 ++ (v1.extract ((IntKind.i64.wrap ((IntKind.i64.wrap ((32 : Int) * v4)) + (16 : Int))).toNat) ((IntKind.i64.wrap ((IntKind.i64.wrap ((32 : Int) * v4)) + (32 : Int))).toNat))) ++ y4),(IntKind.i64.wrap (v4 + (1 : Int)))))
          else
            none
        else
          none
      else
        none
    else
      none
  else
  some (.dn v3)
noncomputable def handselref02_Verify_f_l1 (v0 : ByteArray) (v1 : ByteArray) (v2 : ByteArray) (v3 : ByteArray) (v4 : Int) : Option (ByteArray) := iterO (fun st => handselref02_Verify_f_l1_step v0 v1 v2 st.1 st.2) (v3,v4)
theorem handselref02_Verify_f_l1_eq (v0 : ByteArray) (v1 : ByteArray) (v2 : ByteArray) (v3 : ByteArray) (v4 : Int) : handselref02_Verify_f_l1 v0 v1 v2 v3 v4 = handselref02_Verify_f_l1_step v0 v1 v2 v3 v4 >>= LS.go (fun st => handselref02_Verify_f_l1 v0 v1 v2 st.1 st.2) := iterO_eq (fun st => handselref02_Verify_f_l1_step v0 v1 v2 st.1 st.2) (v3,v4)
def handselref02_Verify_f_l1_P (v0 : ByteArray) (v1 : ByteArray) (v2 : ByteArray) (v3 : ByteArray) (v4 : Int) (r : ByteArray) : Prop := ∀ (τ : TH) (hl : τ.lock ≤ τ.next) (Q : TEx → TCont) (hQ0 : ∀ (fr : TF) (tk2 : TK) (τ2 : TH),lkp fr 0 = .str v0 → lkp fr 8 = .str r → tk2.take 0 = [] → τ2.cut τ.next = τ → Q (.exit 0) fr tk2 τ2) ,tW G (.loop [0,2,7,8,9] l_handselref02_Verify_1) Q [(0,.str v0),(2,.str v1),(7,.str v2),(8,.str v3),(9,.int .i64 v4)] [] τ
theorem handselref02_Verify_f_l1_s (v0 : ByteArray) (v1 : ByteArray) (v2 : ByteArray) (v3 : ByteArray) (v4 : Int) (r : ByteArray) (h : handselref02_Verify_f_l1 v0 v1 v2 v3 v4 = some r) : handselref02_Verify_f_l1_P v0 v1 v2 v3 v4 r := by
  refine iterO_ind (f := fun st => handselref02_Verify_f_l1_step v0 v1 v2 st.1 st.2) (P := fun st r => ∀ (v3 : ByteArray) (v4 : Int),(v3,v4) = st → handselref02_Verify_f_l1_P v0 v1 v2 v3 v4 r) ?_ h v3 v4 rfl
  clear h r v4 v3
  intro st o h r ih v3 v4 hst τ  hl Q hQ0
  subst hst
  have h : handselref02_Verify_f_l1_step v0 v1 v2 v3 v4 = some o := h
  unfold handselref02_Verify_f_l1_step at h
  refine tW_lp fun LQ hn hr he => ?_
  by_cases c1 : v4 < (16 : Int)
  · rw [if_pos c1] at h
    obtain ⟨c2,h⟩ := ifS h
    obtain ⟨c3,h⟩ := ifS h
    obtain ⟨y4,hy4,h⟩ := ob h
    have k5 := handselref01_Short_f_k (v1.extract ((IntKind.i64.wrap ((32 : Int) * v4)).toNat) ((IntKind.i64.wrap ((IntKind.i64.wrap ((32 : Int) * v4)) + (16 : Int))).toNat)) _ hy4
    try simp only [CL,MC,Int.reduceToNat] at k5
    obtain ⟨y6,hy6,h⟩ := ob h
    have k7 := handselref02_bit_f_k v2 v4 _ hy6
    try simp only [CL,MC,Int.reduceToNat] at k7
    by_cases c8 : y6 = (0 : Int)
    · rw [if_pos c8] at h
      obtain ⟨c9,h⟩ := ifS h
      obtain ⟨c10,h⟩ := ifS h
      injection h with h; subst h
      have ih := ih ((v3 ++ y4) ++ (v1.extract ((IntKind.i64.wrap ((IntKind.i64.wrap ((32 : Int) * v4)) + (16 : Int))).toNat) ((IntKind.i64.wrap ((IntKind.i64.wrap ((32 : Int) * v4)) + (32 : Int))).toNat))) (IntKind.i64.wrap (v4 + (1 : Int))) rfl
      unfold handselref02_Verify_f_l1_P at ih
      simp -implicitDefEqProofs only [l_handselref02_Verify_1,U_handselref02_Verify,TT,Ic.t,Ic.ci,Nat.reduceEqDiff,reduceIte,Nat.reduceAdd,Nat.reduceMul,Nat.reduceLT,Nat.reduceLeDiff,Nat.reduceSub,reduceCtorEq,Int.reduceEq,Int.reduceNe,Int.reduceToNat,Int.reduceLT,Int.reduceLE,Int.reduceNeg,hl,c1,c2,c3,k5,k7,eq_true c8,c9,c10,CL,LTN]
      rw [hn]
      simp -implicitDefEqProofs only [TT,Ic.t,Ic.ci,Nat.reduceEqDiff,reduceIte,Nat.reduceAdd,Nat.reduceMul,Nat.reduceLT,Nat.reduceLeDiff,Nat.reduceSub,reduceCtorEq,Int.reduceEq,Int.reduceNe,Int.reduceToNat,Int.reduceLT,Int.reduceLE,Int.reduceNeg,hl,c1,c2,c3,k5,k7,eq_true c8,c9,c10,CL,LTN]
      exact ih  τ    (by first | assumption | (simp only [next_pt,lock_pt]; assumption)) Q hQ0
    rw [if_neg c8] at h
    obtain ⟨c11,h⟩ := ifS h
    obtain ⟨c12,h⟩ := ifS h
    injection h with h; subst h
    have ih := ih ((v3 ++ (v1.extract ((IntKind.i64.wrap ((IntKind.i64.wrap ((32 : Int) * v4)) + (16 : Int))).toNat) ((IntKind.i64.wrap ((IntKind.i64.wrap ((32 : Int) * v4)) + (32 : Int))).toNat))) ++ y4) (IntKind.i64.wrap (v4 + (1 : Int))) rfl
    unfold handselref02_Verify_f_l1_P at ih
    simp -implicitDefEqProofs only [l_handselref02_Verify_1,U_handselref02_Verify,TT,Ic.t,Ic.ci,Nat.reduceEqDiff,reduceIte,Nat.reduceAdd,Nat.reduceMul,Nat.reduceLT,Nat.reduceLeDiff,Nat.reduceSub,reduceCtorEq,Int.reduceEq,Int.reduceNe,Int.reduceToNat,Int.reduceLT,Int.reduceLE,Int.reduceNeg,hl,c1,c2,c3,k5,k7,c8,c11,c12,CL,LTN]
    rw [hn]
    simp -implicitDefEqProofs only [TT,Ic.t,Ic.ci,Nat.reduceEqDiff,reduceIte,Nat.reduceAdd,Nat.reduceMul,Nat.reduceLT,Nat.reduceLeDiff,Nat.reduceSub,reduceCtorEq,Int.reduceEq,Int.reduceNe,Int.reduceToNat,Int.reduceLT,Int.reduceLE,Int.reduceNeg,hl,c1,c2,c3,k5,k7,c8,c11,c12,CL,LTN]
    exact ih  τ    (by first | assumption | (simp only [next_pt,lock_pt]; assumption)) Q hQ0
  rw [if_neg c1] at h
  injection h with h; subst h
  obtain rfl : _ = r := ih
  simp -implicitDefEqProofs only [l_handselref02_Verify_1,U_handselref02_Verify,TT,Ic.t,Ic.ci,Nat.reduceEqDiff,reduceIte,Nat.reduceAdd,Nat.reduceMul,Nat.reduceLT,Nat.reduceLeDiff,Nat.reduceSub,reduceCtorEq,Int.reduceEq,Int.reduceNe,Int.reduceToNat,Int.reduceLT,Int.reduceLE,Int.reduceNeg,hl,he,hr,c1,CL,LTN]
  exact hQ0  _ _ _  (by first | rfl | (simp -implicitDefEqProofs only [TT,Ic.t,Ic.ci,Nat.reduceEqDiff,reduceIte,Nat.reduceAdd,Nat.reduceMul,Nat.reduceLT,Nat.reduceLeDiff,Nat.reduceSub,reduceCtorEq,Int.reduceEq,Int.reduceNe,Int.reduceToNat,Int.reduceLT,Int.reduceLE,Int.reduceNeg,hl,c1,CL,LTN])) (by first | rfl | (simp -implicitDefEqProofs only [TT,Ic.t,Ic.ci,Nat.reduceEqDiff,reduceIte,Nat.reduceAdd,Nat.reduceMul,Nat.reduceLT,Nat.reduceLeDiff,Nat.reduceSub,reduceCtorEq,Int.reduceEq,Int.reduceNe,Int.reduceToNat,Int.reduceLT,Int.reduceLE,Int.reduceNeg,hl,c1,CL,LTN])) (by first | rfl | (simp -implicitDefEqProofs only [TT,Ic.t,Ic.ci,Nat.reduceEqDiff,reduceIte,Nat.reduceAdd,Nat.reduceMul,Nat.reduceLT,Nat.reduceLeDiff,Nat.reduceSub,reduceCtorEq,Int.reduceEq,Int.reduceNe,Int.reduceToNat,Int.reduceLT,Int.reduceLE,Int.reduceNeg,hl,c1,CL,LTN])) (by first | exact cut_ge (Nat.le_refl _) | (simp -implicitDefEqProofs only [TT,Ic.t,Ic.ci,Nat.reduceEqDiff,reduceIte,Nat.reduceAdd,Nat.reduceMul,Nat.reduceLT,Nat.reduceLeDiff,Nat.reduceSub,reduceCtorEq,Int.reduceEq,Int.reduceNe,Int.reduceToNat,Int.reduceLT,Int.reduceLE,Int.reduceNeg,hl,c1,CL,LTN]))
noncomputable def handselref02_Verify_f (p1 : ByteArray) (p2 : ByteArray) (p3 : ByteArray) : Option Bool :=
  if ((p3.size : Nat) : Int) = (512 : Int) then
    handselref01_Sum_f p2 >>= fun y2 =>
    handselref02_Verify_f_l1 p1 p3 y2 (⟨#[]⟩ : ByteArray) (0 : Int) >>= fun y4 =>
    handselref01_Short_f y4 >>= fun y6 =>
    some (decide (y6 = p1))
  else
  some false
theorem handselref02_Verify_f_s (p1 : ByteArray) (p2 : ByteArray) (p3 : ByteArray) (r : Bool) (h : handselref02_Verify_f p1 p2 p3 = some r) (τ : TH) (hl : τ.lock ≤ τ.next) : Ru G F_handselref02_Verify [.str p1,.str p2,.str p3] τ (.bool r) τ := by
  refine Ru_of fun K hK => ?_
  rw [tC_code g_handselref02_Verify (Nat.le_of_ble_eq_true rfl)]
  unfold handselref02_Verify_f at h
  by_cases c1 : ((p3.size : Nat) : Int) = (512 : Int)
  · rw [if_pos c1] at h
    obtain ⟨y2,hy2,h⟩ := ob h
    have k3 := handselref01_Sum_f_k p2 _ hy2
    try simp only [CL,MC,Int.reduceToNat] at k3
    obtain ⟨y4,hy4,h⟩ := ob h
    simp -implicitDefEqProofs only [U_handselref02_Verify,TT,Ic.t,Ic.ci,Nat.reduceEqDiff,reduceIte,Nat.reduceAdd,Nat.reduceMul,Nat.reduceLT,Nat.reduceLeDiff,Nat.reduceSub,reduceCtorEq,Int.reduceEq,Int.reduceNe,Int.reduceToNat,Int.reduceLT,Int.reduceLE,Int.reduceNeg,hl,eq_true c1,k3,CL,LTN]
    have Sy4 := handselref02_Verify_f_l1_s p1 p3 y2 (⟨#[]⟩ : ByteArray) (0 : Int) y4 hy4
    unfold handselref02_Verify_f_l1_P at Sy4
    refine Sy4 _ (by first | assumption | omega | (simp only [next_pt,next_pu,lock_pt,lock_pu]; omega)) _ ?_
    intro frq5 tkq5 τq5 g0q5 g8q5 htq5 hcq5
    have hcq5 := cut_via (n := τ.next) hcq5 (by first | omega | (simp only [next_pt,next_pu]; omega))
    try simp only [List.take_succ_cons,List.take_zero,List.take_nil,CL] at htq5
    try simp -implicitDefEqProofs only [TT,Ic.t,Ic.ci,Nat.reduceEqDiff,reduceIte,Nat.reduceAdd,Nat.reduceMul,Nat.reduceLT,Nat.reduceLeDiff,Nat.reduceSub,reduceCtorEq,Int.reduceEq,Int.reduceNe,Int.reduceToNat,Int.reduceLT,Int.reduceLE,Int.reduceNeg,hl,eq_true c1,k3,CL,LTN] at hcq5
    obtain ⟨y6,hy6,h⟩ := ob h
    have k7 := handselref01_Short_f_k y4 _ hy6
    try simp only [CL,MC,Int.reduceToNat] at k7
    injection h with h; subst h
    simp -implicitDefEqProofs only [U_handselref02_Verify,TT,Ic.t,Ic.ci,Nat.reduceEqDiff,reduceIte,Nat.reduceAdd,Nat.reduceMul,Nat.reduceLT,Nat.reduceLeDiff,Nat.reduceSub,reduceCtorEq,Int.reduceEq,Int.reduceNe,Int.reduceToNat,Int.reduceLT,Int.reduceLE,Int.reduceNeg,hl,eq_true c1,k3,g0q5,g8q5,htq5,hcq5,k7,CL,LTN]
    exact hK
  rw [if_neg c1] at h
  injection h with h; subst h
  simp -implicitDefEqProofs only [U_handselref02_Verify,TT,Ic.t,Ic.ci,Nat.reduceEqDiff,reduceIte,Nat.reduceAdd,Nat.reduceMul,Nat.reduceLT,Nat.reduceLeDiff,Nat.reduceSub,reduceCtorEq,Int.reduceEq,Int.reduceNe,Int.reduceToNat,Int.reduceLT,Int.reduceLE,Int.reduceNeg,hl,c1,CL,LTN]
  exact hK
theorem handselref02_Verify_f_k (p1 : ByteArray) (p2 : ByteArray) (p3 : ByteArray) (r : Bool) (h : handselref02_Verify_f p1 p2 p3 = some r) (lk : Bool) (d : Option Nat) (K : TCont) (fr : TF) (tk : TK) (τ : TH) (hl : τ.lock ≤ τ.next) : callK G lk F_handselref02_Verify [.str p1,.str p2,.str p3] d K fr tk τ = K (tput fr d (.bool r)) tk τ :=
  callK_rdo (handselref02_Verify_f_s p1 p2 p3 r h τ  hl) (handselref02_Verify_f_s p1 p2 p3 r h (τ.locked τ.next)  (Nat.le_refl _) ) (by simp -implicitDefEqProofs only [TT,Ic.t,Ic.ci,Nat.reduceEqDiff,reduceIte,Nat.reduceAdd,Nat.reduceMul,Nat.reduceLT,Nat.reduceLeDiff,Nat.reduceSub,reduceCtorEq,Int.reduceEq,Int.reduceNe,Int.reduceToNat,Int.reduceLT,Int.reduceLE,Int.reduceNeg,hl,CL,LTN])
end Go.Proofs.Ytnimkejbeogciaa
