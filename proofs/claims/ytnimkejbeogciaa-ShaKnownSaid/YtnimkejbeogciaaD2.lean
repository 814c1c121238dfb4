/- Functions of numbers and lists, printed by a program of ours out of the code for the tree level, with their proofs. -/
import Derived.Test.YtnimkejbeogciaaD1
set_option linter.unusedVariables false
set_option linter.unusedSimpArgs false
set_option linter.unusedSectionVars false
namespace Go.Proofs.Ytnimkejbeogciaa
open Go Go.RowKit Sh Ic
noncomputable def handselref01_block_f_l4_step (v1 : (List Int)) (v2 : (List Int)) (v0 : (List Int)) (v3 : Int) : Option (LS ((List Int) × Int) ((List Int))) :=
  if v3 < (8 : Int) then
    if 0 ≤ v3 ∧ v3 < ((8 : Nat) : Int) then
      ixL v0 v3 >>= fun y3 =>
      ixL v2 v3 >>= fun y5 =>
      if v3.toNat + 1 ≤ v0.length then
        some (.nx ((v0.set v3.toNat (IntKind.u32.wrap (y3 + y5))),(IntKind.i64.wrap (v3 + (1 : Int)))))
      else
        none
    else
      none
  else
  some (.dn v0)
noncomputable def handselref01_block_f_l4 (v1 : (List Int)) (v2 : (List Int)) (v0 : (List Int)) (v3 : Int) : Option ((List Int)) := iterO (fun st => handselref01_block_f_l4_step v1 v2 st.1 st.2) (v0,v3)
theorem handselref01_block_f_l4_eq (v1 : (List Int)) (v2 : (List Int)) (v0 : (List Int)) (v3 : Int) : handselref01_block_f_l4 v1 v2 v0 v3 = handselref01_block_f_l4_step v1 v2 v0 v3 >>= LS.go (fun st => handselref01_block_f_l4 v1 v2 st.1 st.2) := iterO_eq (fun st => handselref01_block_f_l4_step v1 v2 st.1 st.2) (v0,v3)
def handselref01_block_f_l4_P (v1 : (List Int)) (v2 : (List Int)) (v0 : (List Int)) (v3 : Int) (r : (List Int)) : Prop := ∀ (τ : TH) (o0 : Nat) (o1 : Nat) (o2 : Nat) (hl : τ.lock ≤ τ.next) (ha0 : τ.at o0 = some ⟨T_8_uint32,List.map (TV.int .u32) v0⟩) (hi0 : o0 < τ.next) (hw0 : τ.lock ≤ o0) (ha1 : τ.at o1 = some ⟨T_8_uint32,List.map (TV.int .u32) v1⟩) (hi1 : o1 < τ.next) (ha2 : τ.at o2 = some ⟨T_8_uint32,List.map (TV.int .u32) v2⟩) (hi2 : o2 < τ.next) (hn0_1 : o0 ≠ o1) (hn0_2 : o0 ≠ o2) (Q : TEx → TCont) (hQ0 : ∀ (fr : TF) (tk2 : TK) (τ2 : TH),lkp fr 2 = .ptr o0 0 → lkp fr 4 = .ptr o1 0 → tk2.take 0 = [] → τ2.cut τ.next = (τ.put o0 ⟨T_8_uint32,List.map (TV.int .u32) r⟩) → Q (.exit 6) fr tk2 τ2) ,tW G (.loop [2,4,11,17] l_handselref01_block_4) Q [(2,.ptr o0 0),(4,.ptr o1 0),(11,.ptr o2 0),(17,.int .i64 v3)] [] τ
theorem handselref01_block_f_l4_s (v1 : (List Int)) (v2 : (List Int)) (v0 : (List Int)) (v3 : Int) (r : (List Int)) (h : handselref01_block_f_l4 v1 v2 v0 v3 = some r) : handselref01_block_f_l4_P v1 v2 v0 v3 r := by
  refine iterO_ind (f := fun st => handselref01_block_f_l4_step v1 v2 st.1 st.2) (P := fun st r => ∀ (v0 : (List Int)) (v3 : Int),(v0,v3) = st → handselref01_block_f_l4_P v1 v2 v0 v3 r) ?_ h v0 v3 rfl
  clear h r v3 v0
  intro st o h r ih v0 v3 hst τ o0 o1 o2  hl ha0 hi0 hw0 ha1 hi1 ha2 hi2 hn0_1 hn0_2 Q hQ0
  subst hst
  have h : handselref01_block_f_l4_step v1 v2 v0 v3 = some o := h
  unfold handselref01_block_f_l4_step at h
  refine tW_lp fun LQ hn hr he => ?_
  by_cases c1 : v3 < (8 : Int)
  · rw [if_pos c1] at h
    obtain ⟨c2,h⟩ := ifS h
    obtain ⟨y3,hy3,h⟩ := ob h
    have f4 := ixL_facts hy3
    have f4a := (f4.2.2 (TV.int .u32)).1
    have f4b := (f4.2.2 (TV.int .u32)).2
    try simp only [CL,MC,Int.reduceToNat] at f4 f4a f4b
    obtain ⟨y5,hy5,h⟩ := ob h
    have f6 := ixL_facts hy5
    have f6a := (f6.2.2 (TV.int .u32)).1
    have f6b := (f6.2.2 (TV.int .u32)).2
    try simp only [CL,MC,Int.reduceToNat] at f6 f6a f6b
    obtain ⟨c7,h⟩ := ifS h
    have f8 : (List.map (TV.int .u32) v0).set v3.toNat (.int .u32 (IntKind.u32.wrap (y3 + y5))) = List.map (TV.int .u32) (v0.set v3.toNat (IntKind.u32.wrap (y3 + y5))) := setm (enc := (TV.int .u32)) _ _ _
    injection h with h; subst h
    have ih := ih (v0.set v3.toNat (IntKind.u32.wrap (y3 + y5))) (IntKind.i64.wrap (v3 + (1 : Int))) rfl
    unfold handselref01_block_f_l4_P at ih
    simp -implicitDefEqProofs only [l_handselref01_block_4,U_handselref01_block,TT,Ic.t,Ic.ci,Nat.reduceEqDiff,reduceIte,Nat.reduceAdd,Nat.reduceMul,Nat.reduceLT,Nat.reduceLeDiff,Nat.reduceSub,reduceCtorEq,Int.reduceEq,Int.reduceNe,Int.reduceToNat,Int.reduceLT,Int.reduceLE,Int.reduceNeg,hl,ha0,hi0,hw0,ha1,hi1,ha2,hi2,nq hn0_1,nq hn0_2,c1,c2,f4.1,f4.2.1,f4a,f4b,f6.1,f6.2.1,f6a,f6b,c7,f8,CL,LTN]
    rw [hn]
    simp -implicitDefEqProofs only [TT,Ic.t,Ic.ci,Nat.reduceEqDiff,reduceIte,Nat.reduceAdd,Nat.reduceMul,Nat.reduceLT,Nat.reduceLeDiff,Nat.reduceSub,reduceCtorEq,Int.reduceEq,Int.reduceNe,Int.reduceToNat,Int.reduceLT,Int.reduceLE,Int.reduceNeg,hl,ha0,hi0,hw0,ha1,hi1,ha2,hi2,nq hn0_1,nq hn0_2,c1,c2,f4.1,f4.2.1,f4a,f4b,f6.1,f6.2.1,f6a,f6b,c7,f8,CL,LTN]
    exact ih  (τ.put o0 ⟨T_8_uint32,List.map (TV.int .u32) (v0.set v3.toNat (IntKind.u32.wrap (y3 + y5)))⟩) o0 o1 o2   (by first | assumption | (simp only [next_pt,lock_pt]; assumption)) (by simp -implicitDefEqProofs only [TT,Ic.t,Ic.ci,Nat.reduceEqDiff,reduceIte,Nat.reduceAdd,Nat.reduceMul,Nat.reduceLT,Nat.reduceLeDiff,Nat.reduceSub,reduceCtorEq,Int.reduceEq,Int.reduceNe,Int.reduceToNat,Int.reduceLT,Int.reduceLE,Int.reduceNeg,hl,ha0,hi0,hw0,ha1,hi1,ha2,hi2,nq hn0_1,nq hn0_2,c1,c2,f4.1,f4.2.1,f4a,f4b,f6.1,f6.2.1,f6a,f6b,c7,f8,CL,LTN]) (by first | assumption | (simp only [next_pt,lock_pt]; assumption)) (by first | assumption | (simp only [next_pt,lock_pt]; assumption)) (by simp -implicitDefEqProofs only [TT,Ic.t,Ic.ci,Nat.reduceEqDiff,reduceIte,Nat.reduceAdd,Nat.reduceMul,Nat.reduceLT,Nat.reduceLeDiff,Nat.reduceSub,reduceCtorEq,Int.reduceEq,Int.reduceNe,Int.reduceToNat,Int.reduceLT,Int.reduceLE,Int.reduceNeg,hl,ha0,hi0,hw0,ha1,hi1,ha2,hi2,nq hn0_1,nq hn0_2,c1,c2,f4.1,f4.2.1,f4a,f4b,f6.1,f6.2.1,f6a,f6b,c7,f8,CL,LTN]) (by first | assumption | (simp only [next_pt,lock_pt]; assumption)) (by simp -implicitDefEqProofs only [TT,Ic.t,Ic.ci,Nat.reduceEqDiff,reduceIte,Nat.reduceAdd,Nat.reduceMul,Nat.reduceLT,Nat.reduceLeDiff,Nat.reduceSub,reduceCtorEq,Int.reduceEq,Int.reduceNe,Int.reduceToNat,Int.reduceLT,Int.reduceLE,Int.reduceNeg,hl,ha0,hi0,hw0,ha1,hi1,ha2,hi2,nq hn0_1,nq hn0_2,c1,c2,f4.1,f4.2.1,f4a,f4b,f6.1,f6.2.1,f6a,f6b,c7,f8,CL,LTN]) (by first | assumption | (simp only [next_pt,lock_pt]; assumption)) hn0_1 hn0_2 Q (fun fr tk2 τ2 g0 g1 ht hτ => hQ0 fr tk2 τ2 g0 g1 ht (by first | exact hτ | simpa only [next_pt,pt_pt,hl,ha0,hi0,hw0,ha1,hi1,ha2,hi2,nq hn0_1,nq hn0_2] using hτ))
  rw [if_neg c1] at h
  injection h with h; subst h
  obtain rfl : _ = r := ih
  simp -implicitDefEqProofs only [l_handselref01_block_4,U_handselref01_block,TT,Ic.t,Ic.ci,Nat.reduceEqDiff,reduceIte,Nat.reduceAdd,Nat.reduceMul,Nat.reduceLT,Nat.reduceLeDiff,Nat.reduceSub,reduceCtorEq,Int.reduceEq,Int.reduceNe,Int.reduceToNat,Int.reduceLT,Int.reduceLE,Int.reduceNeg,hl,ha0,hi0,hw0,ha1,hi1,ha2,hi2,nq hn0_1,nq hn0_2,he,hr,c1,CL,LTN]
  exact hQ0  _ _ _  (by first | rfl | (simp -implicitDefEqProofs only [TT,Ic.t,Ic.ci,Nat.reduceEqDiff,reduceIte,Nat.reduceAdd,Nat.reduceMul,Nat.reduceLT,Nat.reduceLeDiff,Nat.reduceSub,reduceCtorEq,Int.reduceEq,Int.reduceNe,Int.reduceToNat,Int.reduceLT,Int.reduceLE,Int.reduceNeg,hl,ha0,hi0,hw0,ha1,hi1,ha2,hi2,nq hn0_1,nq hn0_2,c1,CL,LTN])) (by first | rfl | (simp -implicitDefEqProofs only [TT,Ic.t,Ic.ci,Nat.reduceEqDiff,reduceIte,Nat.reduceAdd,Nat.reduceMul,Nat.reduceLT,Nat.reduceLeDiff,Nat.reduceSub,reduceCtorEq,Int.reduceEq,Int.reduceNe,Int.reduceToNat,Int.reduceLT,Int.reduceLE,Int.reduceNeg,hl,ha0,hi0,hw0,ha1,hi1,ha2,hi2,nq hn0_1,nq hn0_2,c1,CL,LTN])) (by first | rfl | (simp -implicitDefEqProofs only [TT,Ic.t,Ic.ci,Nat.reduceEqDiff,reduceIte,Nat.reduceAdd,Nat.reduceMul,Nat.reduceLT,Nat.reduceLeDiff,Nat.reduceSub,reduceCtorEq,Int.reduceEq,Int.reduceNe,Int.reduceToNat,Int.reduceLT,Int.reduceLE,Int.reduceNeg,hl,ha0,hi0,hw0,ha1,hi1,ha2,hi2,nq hn0_1,nq hn0_2,c1,CL,LTN])) (by first | exact cut_ge (Nat.le_refl _) | (simp -implicitDefEqProofs only [TT,Ic.t,Ic.ci,Nat.reduceEqDiff,reduceIte,Nat.reduceAdd,Nat.reduceMul,Nat.reduceLT,Nat.reduceLeDiff,Nat.reduceSub,reduceCtorEq,Int.reduceEq,Int.reduceNe,Int.reduceToNat,Int.reduceLT,Int.reduceLE,Int.reduceNeg,hl,ha0,hi0,hw0,ha1,hi1,ha2,hi2,nq hn0_1,nq hn0_2,put_same ha0,c1,CL,LTN]))
noncomputable def handselref01_block_f (p1 : (List Int)) (p2 : ByteArray) : Option (List Int) :=
  handselref01_table_f >>= fun y1 =>
  if y1.length = 64 then
    handselref01_block_f_l1 p2 p1 [(0 : Int),(0 : Int),(0 : Int),(0 : Int),(0 : Int),(0 : Int),(0 : Int),(0 : Int)] y1 (List.replicate 64 (0 : Int)) (0 : Int) >>= fun y6 =>
    handselref01_block_f_l2 p1 [(0 : Int),(0 : Int),(0 : Int),(0 : Int),(0 : Int),(0 : Int),(0 : Int),(0 : Int)] y1 y6 (16 : Int) >>= fun y8 =>
    if p1.length = 8 then
      if p1.length = 8 then
        handselref01_block_f_l3 p1 [(0 : Int),(0 : Int),(0 : Int),(0 : Int),(0 : Int),(0 : Int),(0 : Int),(0 : Int)] y8 y1 p1 (0 : Int) >>= fun y16 =>
        handselref01_block_f_l4 [(0 : Int),(0 : Int),(0 : Int),(0 : Int),(0 : Int),(0 : Int),(0 : Int),(0 : Int)] y16 p1 (0 : Int) >>= fun y18 =>
        if y18.length = 8 then
          if y18.length = 8 then
            some y18
          else
            none
        else
          none
      else
        none
    else
      none
  else
    none
theorem handselref01_block_f_s (p1 : (List Int)) (p2 : ByteArray) (r : (List Int)) (h : handselref01_block_f p1 p2 = some r) (τ : TH) (hl : τ.lock ≤ τ.next) : Ru G F_handselref01_block [.agg (List.map (TV.int .u32) p1),.str p2] τ (.agg (List.map (TV.int .u32) r)) τ := by
  refine Ru_of fun K hK => ?_
  rw [tC_code g_handselref01_block (Nat.le_of_ble_eq_true rfl)]
  unfold handselref01_block_f at h
  obtain ⟨y1,hy1,h⟩ := ob h
  have k2 := handselref01_table_f_k  _ hy1
  try simp only [CL,MC,Int.reduceToNat] at k2
  obtain ⟨c3,h⟩ := ifS h
  have f4 : (List.map (TV.int .u32) y1 = []) = False := map_ne c3 (by decide)
  have f5 : y1.length ≤ 64 := Nat.le_of_eq c3
  obtain ⟨y6,hy6,h⟩ := ob h
  simp -implicitDefEqProofs only [U_handselref01_block,TT,Ic.t,Ic.ci,Nat.reduceEqDiff,reduceIte,Nat.reduceAdd,Nat.reduceMul,Nat.reduceLT,Nat.reduceLeDiff,Nat.reduceSub,reduceCtorEq,Int.reduceEq,Int.reduceNe,Int.reduceToNat,Int.reduceLT,Int.reduceLE,Int.reduceNeg,hl,k2,c3,f4,f5,tset_all,CL,LTN]
  have Sy6 := handselref01_block_f_l1_s p2 p1 [(0 : Int),(0 : Int),(0 : Int),(0 : Int),(0 : Int),(0 : Int),(0 : Int),(0 : Int)] y1 (List.replicate 64 (0 : Int)) (0 : Int) y6 hy6
  unfold handselref01_block_f_l1_P at Sy6
  refine Sy6 _ τ.next (τ.next + 1) (τ.next + 2) (τ.next + 3) (by first | assumption | omega | (simp only [next_pt,next_pu,lock_pt,lock_pu]; omega)) (by first | (simp -implicitDefEqProofs only [TT,Ic.t,Ic.ci,Nat.reduceEqDiff,reduceIte,Nat.reduceAdd,Nat.reduceMul,Nat.reduceLT,Nat.reduceLeDiff,Nat.reduceSub,reduceCtorEq,Int.reduceEq,Int.reduceNe,Int.reduceToNat,Int.reduceLT,Int.reduceLE,Int.reduceNeg,hl,k2,c3,f4,f5,tset_all,CL,LTN]; done) | (simp -implicitDefEqProofs only [TT,Ic.t,Ic.ci,Nat.reduceEqDiff,reduceIte,Nat.reduceAdd,Nat.reduceMul,Nat.reduceLT,Nat.reduceLeDiff,Nat.reduceSub,reduceCtorEq,Int.reduceEq,Int.reduceNe,Int.reduceToNat,Int.reduceLT,Int.reduceLE,Int.reduceNeg,hl,k2,c3,f4,f5,tset_all,CL,LTN]; rfl)) (by first | assumption | omega | (simp only [next_pt,next_pu,lock_pt,lock_pu]; omega)) (by first | (simp -implicitDefEqProofs only [TT,Ic.t,Ic.ci,Nat.reduceEqDiff,reduceIte,Nat.reduceAdd,Nat.reduceMul,Nat.reduceLT,Nat.reduceLeDiff,Nat.reduceSub,reduceCtorEq,Int.reduceEq,Int.reduceNe,Int.reduceToNat,Int.reduceLT,Int.reduceLE,Int.reduceNeg,hl,k2,c3,f4,f5,tset_all,CL,LTN]; done) | (simp -implicitDefEqProofs only [TT,Ic.t,Ic.ci,Nat.reduceEqDiff,reduceIte,Nat.reduceAdd,Nat.reduceMul,Nat.reduceLT,Nat.reduceLeDiff,Nat.reduceSub,reduceCtorEq,Int.reduceEq,Int.reduceNe,Int.reduceToNat,Int.reduceLT,Int.reduceLE,Int.reduceNeg,hl,k2,c3,f4,f5,tset_all,CL,LTN]; rfl)) (by first | assumption | omega | (simp only [next_pt,next_pu,lock_pt,lock_pu]; omega)) (by first | (simp -implicitDefEqProofs only [TT,Ic.t,Ic.ci,Nat.reduceEqDiff,reduceIte,Nat.reduceAdd,Nat.reduceMul,Nat.reduceLT,Nat.reduceLeDiff,Nat.reduceSub,reduceCtorEq,Int.reduceEq,Int.reduceNe,Int.reduceToNat,Int.reduceLT,Int.reduceLE,Int.reduceNeg,hl,k2,c3,f4,f5,tset_all,CL,LTN]; done) | (simp -implicitDefEqProofs only [TT,Ic.t,Ic.ci,Nat.reduceEqDiff,reduceIte,Nat.reduceAdd,Nat.reduceMul,Nat.reduceLT,Nat.reduceLeDiff,Nat.reduceSub,reduceCtorEq,Int.reduceEq,Int.reduceNe,Int.reduceToNat,Int.reduceLT,Int.reduceLE,Int.reduceNeg,hl,k2,c3,f4,f5,tset_all,CL,LTN]; rfl)) (by first | assumption | omega | (simp only [next_pt,next_pu,lock_pt,lock_pu]; omega)) (by first | assumption | omega | (simp only [next_pt,next_pu,lock_pt,lock_pu]; omega)) (by first | (simp -implicitDefEqProofs only [TT,Ic.t,Ic.ci,Nat.reduceEqDiff,reduceIte,Nat.reduceAdd,Nat.reduceMul,Nat.reduceLT,Nat.reduceLeDiff,Nat.reduceSub,reduceCtorEq,Int.reduceEq,Int.reduceNe,Int.reduceToNat,Int.reduceLT,Int.reduceLE,Int.reduceNeg,hl,k2,c3,f4,f5,tset_all,CL,LTN]; done) | (simp -implicitDefEqProofs only [TT,Ic.t,Ic.ci,Nat.reduceEqDiff,reduceIte,Nat.reduceAdd,Nat.reduceMul,Nat.reduceLT,Nat.reduceLeDiff,Nat.reduceSub,reduceCtorEq,Int.reduceEq,Int.reduceNe,Int.reduceToNat,Int.reduceLT,Int.reduceLE,Int.reduceNeg,hl,k2,c3,f4,f5,tset_all,CL,LTN]; rfl)) (by first | assumption | omega | (simp only [next_pt,next_pu,lock_pt,lock_pu]; omega)) (by first | assumption | omega | (simp only [next_pt,next_pu]; omega)) (by first | assumption | omega | (simp only [next_pt,next_pu]; omega)) (by first | assumption | omega | (simp only [next_pt,next_pu]; omega)) _ ?_
  intro frq7 tkq7 τq7 g2q7 g4q7 g5q7 g6q7 htq7 hcq7
  have hcq7 := cut_via (n := τ.next + 4) hcq7 (by first | omega | (simp only [next_pt,next_pu]; omega))
  try simp only [List.take_succ_cons,List.take_zero,List.take_nil,CL] at htq7
  try simp -implicitDefEqProofs only [TT,Ic.t,Ic.ci,Nat.reduceEqDiff,reduceIte,Nat.reduceAdd,Nat.reduceMul,Nat.reduceLT,Nat.reduceLeDiff,Nat.reduceSub,reduceCtorEq,Int.reduceEq,Int.reduceNe,Int.reduceToNat,Int.reduceLT,Int.reduceLE,Int.reduceNeg,hl,k2,c3,f4,f5,tset_all,CL,LTN] at hcq7
  obtain ⟨y8,hy8,h⟩ := ob h
  simp -implicitDefEqProofs only [U_handselref01_block,TT,Ic.t,Ic.ci,Nat.reduceEqDiff,reduceIte,Nat.reduceAdd,Nat.reduceMul,Nat.reduceLT,Nat.reduceLeDiff,Nat.reduceSub,reduceCtorEq,Int.reduceEq,Int.reduceNe,Int.reduceToNat,Int.reduceLT,Int.reduceLE,Int.reduceNeg,hl,k2,c3,f4,f5,tset_all,g2q7,g4q7,g5q7,g6q7,htq7,hcq7,CL,LTN]
  have Sy8 := handselref01_block_f_l2_s p1 [(0 : Int),(0 : Int),(0 : Int),(0 : Int),(0 : Int),(0 : Int),(0 : Int),(0 : Int)] y1 y6 (16 : Int) y8 hy8
  unfold handselref01_block_f_l2_P at Sy8
  refine Sy8 _ τ.next (τ.next + 1) (τ.next + 2) (τ.next + 3) (by first | assumption | omega | (simp only [next_pt,next_pu,lock_pt,lock_pu]; omega)) (by first | (simp -implicitDefEqProofs only [TT,Ic.t,Ic.ci,Nat.reduceEqDiff,reduceIte,Nat.reduceAdd,Nat.reduceMul,Nat.reduceLT,Nat.reduceLeDiff,Nat.reduceSub,reduceCtorEq,Int.reduceEq,Int.reduceNe,Int.reduceToNat,Int.reduceLT,Int.reduceLE,Int.reduceNeg,hl,k2,c3,f4,f5,tset_all,g2q7,g4q7,g5q7,g6q7,htq7,hcq7,CL,LTN]; done) | (simp -implicitDefEqProofs only [TT,Ic.t,Ic.ci,Nat.reduceEqDiff,reduceIte,Nat.reduceAdd,Nat.reduceMul,Nat.reduceLT,Nat.reduceLeDiff,Nat.reduceSub,reduceCtorEq,Int.reduceEq,Int.reduceNe,Int.reduceToNat,Int.reduceLT,Int.reduceLE,Int.reduceNeg,hl,k2,c3,f4,f5,tset_all,g2q7,g4q7,g5q7,g6q7,htq7,hcq7,CL,LTN]; rfl)) (by first | assumption | omega | (simp only [next_pt,next_pu,lock_pt,lock_pu]; omega)) (by first | (simp -implicitDefEqProofs only [TT,Ic.t,Ic.ci,Nat.reduceEqDiff,reduceIte,Nat.reduceAdd,Nat.reduceMul,Nat.reduceLT,Nat.reduceLeDiff,Nat.reduceSub,reduceCtorEq,Int.reduceEq,Int.reduceNe,Int.reduceToNat,Int.reduceLT,Int.reduceLE,Int.reduceNeg,hl,k2,c3,f4,f5,tset_all,g2q7,g4q7,g5q7,g6q7,htq7,hcq7,CL,LTN]; done) | (simp -implicitDefEqProofs only [TT,Ic.t,Ic.ci,Nat.reduceEqDiff,reduceIte,Nat.reduceAdd,Nat.reduceMul,Nat.reduceLT,Nat.reduceLeDiff,Nat.reduceSub,reduceCtorEq,Int.reduceEq,Int.reduceNe,Int.reduceToNat,Int.reduceLT,Int.reduceLE,Int.reduceNeg,hl,k2,c3,f4,f5,tset_all,g2q7,g4q7,g5q7,g6q7,htq7,hcq7,CL,LTN]; rfl)) (by first | assumption | omega | (simp only [next_pt,next_pu,lock_pt,lock_pu]; omega)) (by first | (simp -implicitDefEqProofs only [TT,Ic.t,Ic.ci,Nat.reduceEqDiff,reduceIte,Nat.reduceAdd,Nat.reduceMul,Nat.reduceLT,Nat.reduceLeDiff,Nat.reduceSub,reduceCtorEq,Int.reduceEq,Int.reduceNe,Int.reduceToNat,Int.reduceLT,Int.reduceLE,Int.reduceNeg,hl,k2,c3,f4,f5,tset_all,g2q7,g4q7,g5q7,g6q7,htq7,hcq7,CL,LTN]; done) | (simp -implicitDefEqProofs only [TT,Ic.t,Ic.ci,Nat.reduceEqDiff,reduceIte,Nat.reduceAdd,Nat.reduceMul,Nat.reduceLT,Nat.reduceLeDiff,Nat.reduceSub,reduceCtorEq,Int.reduceEq,Int.reduceNe,Int.reduceToNat,Int.reduceLT,Int.reduceLE,Int.reduceNeg,hl,k2,c3,f4,f5,tset_all,g2q7,g4q7,g5q7,g6q7,htq7,hcq7,CL,LTN]; rfl)) (by first | assumption | omega | (simp only [next_pt,next_pu,lock_pt,lock_pu]; omega)) (by first | assumption | omega | (simp only [next_pt,next_pu,lock_pt,lock_pu]; omega)) (by first | (simp -implicitDefEqProofs only [TT,Ic.t,Ic.ci,Nat.reduceEqDiff,reduceIte,Nat.reduceAdd,Nat.reduceMul,Nat.reduceLT,Nat.reduceLeDiff,Nat.reduceSub,reduceCtorEq,Int.reduceEq,Int.reduceNe,Int.reduceToNat,Int.reduceLT,Int.reduceLE,Int.reduceNeg,hl,k2,c3,f4,f5,tset_all,g2q7,g4q7,g5q7,g6q7,htq7,hcq7,CL,LTN]; done) | (simp -implicitDefEqProofs only [TT,Ic.t,Ic.ci,Nat.reduceEqDiff,reduceIte,Nat.reduceAdd,Nat.reduceMul,Nat.reduceLT,Nat.reduceLeDiff,Nat.reduceSub,reduceCtorEq,Int.reduceEq,Int.reduceNe,Int.reduceToNat,Int.reduceLT,Int.reduceLE,Int.reduceNeg,hl,k2,c3,f4,f5,tset_all,g2q7,g4q7,g5q7,g6q7,htq7,hcq7,CL,LTN]; rfl)) (by first | assumption | omega | (simp only [next_pt,next_pu,lock_pt,lock_pu]; omega)) (by first | assumption | omega | (simp only [next_pt,next_pu]; omega)) (by first | assumption | omega | (simp only [next_pt,next_pu]; omega)) (by first | assumption | omega | (simp only [next_pt,next_pu]; omega)) _ ?_
  intro frq9 tkq9 τq9 g2q9 g4q9 g5q9 g6q9 htq9 hcq9
  have hcq9 := cut_via (n := τ.next + 4) hcq9 (by first | omega | (simp only [next_pt,next_pu]; omega))
  try simp only [List.take_succ_cons,List.take_zero,List.take_nil,CL] at htq9
  try simp -implicitDefEqProofs only [TT,Ic.t,Ic.ci,Nat.reduceEqDiff,reduceIte,Nat.reduceAdd,Nat.reduceMul,Nat.reduceLT,Nat.reduceLeDiff,Nat.reduceSub,reduceCtorEq,Int.reduceEq,Int.reduceNe,Int.reduceToNat,Int.reduceLT,Int.reduceLE,Int.reduceNeg,hl,k2,c3,f4,f5,tset_all,g2q7,g4q7,g5q7,g6q7,htq7,hcq7,CL,LTN] at hcq9
  obtain ⟨c10,h⟩ := ifS h
  have f11 : 8 ≤ p1.length := Nat.le_of_eq (Eq.symm c10)
  have f12 : List.take 8 (List.map (TV.int .u32) p1) = List.map (TV.int .u32) p1 := take_map c10
  obtain ⟨c13,h⟩ := ifS h
  have f14 : (List.map (TV.int .u32) p1 = []) = False := map_ne c13 (by decide)
  have f15 : p1.length ≤ 8 := Nat.le_of_eq c13
  obtain ⟨y16,hy16,h⟩ := ob h
  simp -implicitDefEqProofs only [U_handselref01_block,TT,Ic.t,Ic.ci,Nat.reduceEqDiff,reduceIte,Nat.reduceAdd,Nat.reduceMul,Nat.reduceLT,Nat.reduceLeDiff,Nat.reduceSub,reduceCtorEq,Int.reduceEq,Int.reduceNe,Int.reduceToNat,Int.reduceLT,Int.reduceLE,Int.reduceNeg,hl,k2,c3,f4,f5,tset_all,g2q7,g4q7,g5q7,g6q7,htq7,hcq7,g2q9,g4q9,g5q9,g6q9,htq9,hcq9,c10,f11,f12,c13,f14,f15,CL,LTN]
  have Sy16 := handselref01_block_f_l3_s p1 [(0 : Int),(0 : Int),(0 : Int),(0 : Int),(0 : Int),(0 : Int),(0 : Int),(0 : Int)] y8 y1 p1 (0 : Int) y16 hy16
  unfold handselref01_block_f_l3_P at Sy16
  refine Sy16 _ τ.next (τ.next + 1) (τ.next + 2) (τ.next + 3) (τ.next + 4) (by first | assumption | omega | (simp only [next_pt,next_pu,lock_pt,lock_pu]; omega)) (by first | (simp -implicitDefEqProofs only [TT,Ic.t,Ic.ci,Nat.reduceEqDiff,reduceIte,Nat.reduceAdd,Nat.reduceMul,Nat.reduceLT,Nat.reduceLeDiff,Nat.reduceSub,reduceCtorEq,Int.reduceEq,Int.reduceNe,Int.reduceToNat,Int.reduceLT,Int.reduceLE,Int.reduceNeg,hl,k2,c3,f4,f5,tset_all,g2q7,g4q7,g5q7,g6q7,htq7,hcq7,g2q9,g4q9,g5q9,g6q9,htq9,hcq9,c10,f11,f12,c13,f14,f15,CL,LTN]; done) | (simp -implicitDefEqProofs only [TT,Ic.t,Ic.ci,Nat.reduceEqDiff,reduceIte,Nat.reduceAdd,Nat.reduceMul,Nat.reduceLT,Nat.reduceLeDiff,Nat.reduceSub,reduceCtorEq,Int.reduceEq,Int.reduceNe,Int.reduceToNat,Int.reduceLT,Int.reduceLE,Int.reduceNeg,hl,k2,c3,f4,f5,tset_all,g2q7,g4q7,g5q7,g6q7,htq7,hcq7,g2q9,g4q9,g5q9,g6q9,htq9,hcq9,c10,f11,f12,c13,f14,f15,CL,LTN]; rfl)) (by first | assumption | omega | (simp only [next_pt,next_pu,lock_pt,lock_pu]; omega)) (by first | (simp -implicitDefEqProofs only [TT,Ic.t,Ic.ci,Nat.reduceEqDiff,reduceIte,Nat.reduceAdd,Nat.reduceMul,Nat.reduceLT,Nat.reduceLeDiff,Nat.reduceSub,reduceCtorEq,Int.reduceEq,Int.reduceNe,Int.reduceToNat,Int.reduceLT,Int.reduceLE,Int.reduceNeg,hl,k2,c3,f4,f5,tset_all,g2q7,g4q7,g5q7,g6q7,htq7,hcq7,g2q9,g4q9,g5q9,g6q9,htq9,hcq9,c10,f11,f12,c13,f14,f15,CL,LTN]; done) | (simp -implicitDefEqProofs only [TT,Ic.t,Ic.ci,Nat.reduceEqDiff,reduceIte,Nat.reduceAdd,Nat.reduceMul,Nat.reduceLT,Nat.reduceLeDiff,Nat.reduceSub,reduceCtorEq,Int.reduceEq,Int.reduceNe,Int.reduceToNat,Int.reduceLT,Int.reduceLE,Int.reduceNeg,hl,k2,c3,f4,f5,tset_all,g2q7,g4q7,g5q7,g6q7,htq7,hcq7,g2q9,g4q9,g5q9,g6q9,htq9,hcq9,c10,f11,f12,c13,f14,f15,CL,LTN]; rfl)) (by first | assumption | omega | (simp only [next_pt,next_pu,lock_pt,lock_pu]; omega)) (by first | (simp -implicitDefEqProofs only [TT,Ic.t,Ic.ci,Nat.reduceEqDiff,reduceIte,Nat.reduceAdd,Nat.reduceMul,Nat.reduceLT,Nat.reduceLeDiff,Nat.reduceSub,reduceCtorEq,Int.reduceEq,Int.reduceNe,Int.reduceToNat,Int.reduceLT,Int.reduceLE,Int.reduceNeg,hl,k2,c3,f4,f5,tset_all,g2q7,g4q7,g5q7,g6q7,htq7,hcq7,g2q9,g4q9,g5q9,g6q9,htq9,hcq9,c10,f11,f12,c13,f14,f15,CL,LTN]; done) | (simp -implicitDefEqProofs only [TT,Ic.t,Ic.ci,Nat.reduceEqDiff,reduceIte,Nat.reduceAdd,Nat.reduceMul,Nat.reduceLT,Nat.reduceLeDiff,Nat.reduceSub,reduceCtorEq,Int.reduceEq,Int.reduceNe,Int.reduceToNat,Int.reduceLT,Int.reduceLE,Int.reduceNeg,hl,k2,c3,f4,f5,tset_all,g2q7,g4q7,g5q7,g6q7,htq7,hcq7,g2q9,g4q9,g5q9,g6q9,htq9,hcq9,c10,f11,f12,c13,f14,f15,CL,LTN]; rfl)) (by first | assumption | omega | (simp only [next_pt,next_pu,lock_pt,lock_pu]; omega)) (by first | (simp -implicitDefEqProofs only [TT,Ic.t,Ic.ci,Nat.reduceEqDiff,reduceIte,Nat.reduceAdd,Nat.reduceMul,Nat.reduceLT,Nat.reduceLeDiff,Nat.reduceSub,reduceCtorEq,Int.reduceEq,Int.reduceNe,Int.reduceToNat,Int.reduceLT,Int.reduceLE,Int.reduceNeg,hl,k2,c3,f4,f5,tset_all,g2q7,g4q7,g5q7,g6q7,htq7,hcq7,g2q9,g4q9,g5q9,g6q9,htq9,hcq9,c10,f11,f12,c13,f14,f15,CL,LTN]; done) | (simp -implicitDefEqProofs only [TT,Ic.t,Ic.ci,Nat.reduceEqDiff,reduceIte,Nat.reduceAdd,Nat.reduceMul,Nat.reduceLT,Nat.reduceLeDiff,Nat.reduceSub,reduceCtorEq,Int.reduceEq,Int.reduceNe,Int.reduceToNat,Int.reduceLT,Int.reduceLE,Int.reduceNeg,hl,k2,c3,f4,f5,tset_all,g2q7,g4q7,g5q7,g6q7,htq7,hcq7,g2q9,g4q9,g5q9,g6q9,htq9,hcq9,c10,f11,f12,c13,f14,f15,CL,LTN]; rfl)) (by first | assumption | omega | (simp only [next_pt,next_pu,lock_pt,lock_pu]; omega)) (by first | (simp -implicitDefEqProofs only [TT,Ic.t,Ic.ci,Nat.reduceEqDiff,reduceIte,Nat.reduceAdd,Nat.reduceMul,Nat.reduceLT,Nat.reduceLeDiff,Nat.reduceSub,reduceCtorEq,Int.reduceEq,Int.reduceNe,Int.reduceToNat,Int.reduceLT,Int.reduceLE,Int.reduceNeg,hl,k2,c3,f4,f5,tset_all,g2q7,g4q7,g5q7,g6q7,htq7,hcq7,g2q9,g4q9,g5q9,g6q9,htq9,hcq9,c10,f11,f12,c13,f14,f15,CL,LTN]; done) | (simp -implicitDefEqProofs only [TT,Ic.t,Ic.ci,Nat.reduceEqDiff,reduceIte,Nat.reduceAdd,Nat.reduceMul,Nat.reduceLT,Nat.reduceLeDiff,Nat.reduceSub,reduceCtorEq,Int.reduceEq,Int.reduceNe,Int.reduceToNat,Int.reduceLT,Int.reduceLE,Int.reduceNeg,hl,k2,c3,f4,f5,tset_all,g2q7,g4q7,g5q7,g6q7,htq7,hcq7,g2q9,g4q9,g5q9,g6q9,htq9,hcq9,c10,f11,f12,c13,f14,f15,CL,LTN]; rfl)) (by first | assumption | omega | (simp only [next_pt,next_pu,lock_pt,lock_pu]; omega)) (by first | assumption | omega | (simp only [next_pt,next_pu,lock_pt,lock_pu]; omega)) (by first | assumption | omega | (simp only [next_pt,next_pu]; omega)) (by first | assumption | omega | (simp only [next_pt,next_pu]; omega)) (by first | assumption | omega | (simp only [next_pt,next_pu]; omega)) (by first | assumption | omega | (simp only [next_pt,next_pu]; omega)) _ ?_
  intro frq17 tkq17 τq17 g2q17 g4q17 g11q17 htq17 hcq17
  have hcq17 := cut_via (n := τ.next + 5) hcq17 (by first | omega | (simp only [next_pt,next_pu]; omega))
  try simp only [List.take_succ_cons,List.take_zero,List.take_nil,CL] at htq17
  try simp -implicitDefEqProofs only [TT,Ic.t,Ic.ci,Nat.reduceEqDiff,reduceIte,Nat.reduceAdd,Nat.reduceMul,Nat.reduceLT,Nat.reduceLeDiff,Nat.reduceSub,reduceCtorEq,Int.reduceEq,Int.reduceNe,Int.reduceToNat,Int.reduceLT,Int.reduceLE,Int.reduceNeg,hl,k2,c3,f4,f5,tset_all,g2q7,g4q7,g5q7,g6q7,htq7,hcq7,g2q9,g4q9,g5q9,g6q9,htq9,hcq9,c10,f11,f12,c13,f14,f15,CL,LTN] at hcq17
  obtain ⟨y18,hy18,h⟩ := ob h
  simp -implicitDefEqProofs only [U_handselref01_block,TT,Ic.t,Ic.ci,Nat.reduceEqDiff,reduceIte,Nat.reduceAdd,Nat.reduceMul,Nat.reduceLT,Nat.reduceLeDiff,Nat.reduceSub,reduceCtorEq,Int.reduceEq,Int.reduceNe,Int.reduceToNat,Int.reduceLT,Int.reduceLE,Int.reduceNeg,hl,k2,c3,f4,f5,tset_all,g2q7,g4q7,g5q7,g6q7,htq7,hcq7,g2q9,g4q9,g5q9,g6q9,htq9,hcq9,c10,f11,f12,c13,f14,f15,g2q17,g4q17,g11q17,htq17,hcq17,CL,LTN]
  have Sy18 := handselref01_block_f_l4_s [(0 : Int),(0 : Int),(0 : Int),(0 : Int),(0 : Int),(0 : Int),(0 : Int),(0 : Int)] y16 p1 (0 : Int) y18 hy18
  unfold handselref01_block_f_l4_P at Sy18
  refine Sy18 _ τ.next (τ.next + 1) (τ.next + 4) (by first | assumption | omega | (simp only [next_pt,next_pu,lock_pt,lock_pu]; omega)) (by first | (simp -implicitDefEqProofs only [TT,Ic.t,Ic.ci,Nat.reduceEqDiff,reduceIte,Nat.reduceAdd,Nat.reduceMul,Nat.reduceLT,Nat.reduceLeDiff,Nat.reduceSub,reduceCtorEq,Int.reduceEq,Int.reduceNe,Int.reduceToNat,Int.reduceLT,Int.reduceLE,Int.reduceNeg,hl,k2,c3,f4,f5,tset_all,g2q7,g4q7,g5q7,g6q7,htq7,hcq7,g2q9,g4q9,g5q9,g6q9,htq9,hcq9,c10,f11,f12,c13,f14,f15,g2q17,g4q17,g11q17,htq17,hcq17,CL,LTN]; done) | (simp -implicitDefEqProofs only [TT,Ic.t,Ic.ci,Nat.reduceEqDiff,reduceIte,Nat.reduceAdd,Nat.reduceMul,Nat.reduceLT,Nat.reduceLeDiff,Nat.reduceSub,reduceCtorEq,Int.reduceEq,Int.reduceNe,Int.reduceToNat,Int.reduceLT,Int.reduceLE,Int.reduceNeg,hl,k2,c3,f4,f5,tset_all,g2q7,g4q7,g5q7,g6q7,htq7,hcq7,g2q9,g4q9,g5q9,g6q9,htq9,hcq9,c10,f11,f12,c13,f14,f15,g2q17,g4q17,g11q17,htq17,hcq17,CL,LTN]; rfl)) (by first | assumption | omega | (simp only [next_pt,next_pu,lock_pt,lock_pu]; omega)) (by first | assumption | omega | (simp only [next_pt,next_pu,lock_pt,lock_pu]; omega)) (by first | (simp -implicitDefEqProofs only [TT,Ic.t,Ic.ci,Nat.reduceEqDiff,reduceIte,Nat.reduceAdd,Nat.reduceMul,Nat.reduceLT,Nat.reduceLeDiff,Nat.reduceSub,reduceCtorEq,Int.reduceEq,Int.reduceNe,Int.reduceToNat,Int.reduceLT,Int.reduceLE,Int.reduceNeg,hl,k2,c3,f4,f5,tset_all,g2q7,g4q7,g5q7,g6q7,htq7,hcq7,g2q9,g4q9,g5q9,g6q9,htq9,hcq9,c10,f11,f12,c13,f14,f15,g2q17,g4q17,g11q17,htq17,hcq17,CL,LTN]; done) | (simp -implicitDefEqProofs only [TT,Ic.t,Ic.ci,Nat.reduceEqDiff,reduceIte,Nat.reduceAdd,Nat.reduceMul,Nat.reduceLT,Nat.reduceLeDiff,Nat.reduceSub,reduceCtorEq,Int.reduceEq,Int.reduceNe,Int.reduceToNat,Int.reduceLT,Int.reduceLE,Int.reduceNeg,hl,k2,c3,f4,f5,tset_all,g2q7,g4q7,g5q7,g6q7,htq7,hcq7,g2q9,g4q9,g5q9,g6q9,htq9,hcq9,c10,f11,f12,c13,f14,f15,g2q17,g4q17,g11q17,htq17,hcq17,CL,LTN]; rfl)) (by first | assumption | omega | (simp only [next_pt,next_pu,lock_pt,lock_pu]; omega)) (by first | (simp -implicitDefEqProofs only [TT,Ic.t,Ic.ci,Nat.reduceEqDiff,reduceIte,Nat.reduceAdd,Nat.reduceMul,Nat.reduceLT,Nat.reduceLeDiff,Nat.reduceSub,reduceCtorEq,Int.reduceEq,Int.reduceNe,Int.reduceToNat,Int.reduceLT,Int.reduceLE,Int.reduceNeg,hl,k2,c3,f4,f5,tset_all,g2q7,g4q7,g5q7,g6q7,htq7,hcq7,g2q9,g4q9,g5q9,g6q9,htq9,hcq9,c10,f11,f12,c13,f14,f15,g2q17,g4q17,g11q17,htq17,hcq17,CL,LTN]; done) | (simp -implicitDefEqProofs only [TT,Ic.t,Ic.ci,Nat.reduceEqDiff,reduceIte,Nat.reduceAdd,Nat.reduceMul,Nat.reduceLT,Nat.reduceLeDiff,Nat.reduceSub,reduceCtorEq,Int.reduceEq,Int.reduceNe,Int.reduceToNat,Int.reduceLT,Int.reduceLE,Int.reduceNeg,hl,k2,c3,f4,f5,tset_all,g2q7,g4q7,g5q7,g6q7,htq7,hcq7,g2q9,g4q9,g5q9,g6q9,htq9,hcq9,c10,f11,f12,c13,f14,f15,g2q17,g4q17,g11q17,htq17,hcq17,CL,LTN]; rfl)) (by first | assumption | omega | (simp only [next_pt,next_pu,lock_pt,lock_pu]; omega)) (by first | assumption | omega | (simp only [next_pt,next_pu]; omega)) (by first | assumption | omega | (simp only [next_pt,next_pu]; omega)) _ ?_
  intro frq19 tkq19 τq19 g2q19 g4q19 htq19 hcq19
  have hcq19 := cut_via (n := τ.next + 5) hcq19 (by first | omega | (simp only [next_pt,next_pu]; omega))
  try simp only [List.take_succ_cons,List.take_zero,List.take_nil,CL] at htq19
  try simp -implicitDefEqProofs only [TT,Ic.t,Ic.ci,Nat.reduceEqDiff,reduceIte,Nat.reduceAdd,Nat.reduceMul,Nat.reduceLT,Nat.reduceLeDiff,Nat.reduceSub,reduceCtorEq,Int.reduceEq,Int.reduceNe,Int.reduceToNat,Int.reduceLT,Int.reduceLE,Int.reduceNeg,hl,k2,c3,f4,f5,tset_all,g2q7,g4q7,g5q7,g6q7,htq7,hcq7,g2q9,g4q9,g5q9,g6q9,htq9,hcq9,c10,f11,f12,c13,f14,f15,g2q17,g4q17,g11q17,htq17,hcq17,CL,LTN] at hcq19
  obtain ⟨c20,h⟩ := ifS h
  have f21 : 8 ≤ y18.length := Nat.le_of_eq (Eq.symm c20)
  have f22 : List.take 8 (List.map (TV.int .u32) y18) = List.map (TV.int .u32) y18 := take_map c20
  obtain ⟨c23,h⟩ := ifS h
  have f24 : (List.map (TV.int .u32) y18 = []) = False := map_ne c23 (by decide)
  have f25 : y18.length ≤ 8 := Nat.le_of_eq c23
  injection h with h; subst h
  simp -implicitDefEqProofs only [U_handselref01_block,TT,Ic.t,Ic.ci,Nat.reduceEqDiff,reduceIte,Nat.reduceAdd,Nat.reduceMul,Nat.reduceLT,Nat.reduceLeDiff,Nat.reduceSub,reduceCtorEq,Int.reduceEq,Int.reduceNe,Int.reduceToNat,Int.reduceLT,Int.reduceLE,Int.reduceNeg,hl,k2,c3,f4,f5,tset_all,g2q7,g4q7,g5q7,g6q7,htq7,hcq7,g2q9,g4q9,g5q9,g6q9,htq9,hcq9,c10,f11,f12,c13,f14,f15,g2q17,g4q17,g11q17,htq17,hcq17,g2q19,g4q19,htq19,hcq19,c20,f21,f22,c23,f24,f25,CL,LTN]
  exact hK
theorem handselref01_block_f_k (p1 : (List Int)) (p2 : ByteArray) (r : (List Int)) (h : handselref01_block_f p1 p2 = some r) (lk : Bool) (d : Option Nat) (K : TCont) (fr : TF) (tk : TK) (τ : TH) (hl : τ.lock ≤ τ.next) : callK G lk F_handselref01_block [.agg (List.map (TV.int .u32) p1),.str p2] d K fr tk τ = K (tput fr d (.agg (List.map (TV.int .u32) r))) tk τ :=
  callK_rdo (handselref01_block_f_s p1 p2 r h τ  hl) (handselref01_block_f_s p1 p2 r h (τ.locked τ.next)  (Nat.le_refl _) ) (by simp -implicitDefEqProofs only [TT,Ic.t,Ic.ci,Nat.reduceEqDiff,reduceIte,Nat.reduceAdd,Nat.reduceMul,Nat.reduceLT,Nat.reduceLeDiff,Nat.reduceSub,reduceCtorEq,Int.reduceEq,Int.reduceNe,Int.reduceToNat,Int.reduceLT,Int.reduceLE,Int.reduceNeg,hl,CL,LTN])
noncomputable def handselref01_Sum_f_l1_step (v0 : ByteArray) (v1 : (List Int)) : Option (LS ((List Int)) ((List Int))) :=
  if (Int.tmod ((v1.length : Nat) : Int) (64 : Int)) = (56 : Int) then
    some (.dn v1)
  else
  if v1.length ≤ 140737488355327 then
    some (.nx (v1 ++ [(0 : Int)]))
  else
    none
noncomputable def handselref01_Sum_f_l1 (v0 : ByteArray) (v1 : (List Int)) : Option ((List Int)) := iterO (fun st => handselref01_Sum_f_l1_step v0 st) v1
theorem handselref01_Sum_f_l1_eq (v0 : ByteArray) (v1 : (List Int)) : handselref01_Sum_f_l1 v0 v1 = handselref01_Sum_f_l1_step v0 v1 >>= LS.go (fun st => handselref01_Sum_f_l1 v0 st) := iterO_eq (fun st => handselref01_Sum_f_l1_step v0 st) v1
def handselref01_Sum_f_l1_P (v0 : ByteArray) (v1 : (List Int)) (r : (List Int)) : Prop := ∀ (τ : TH) (n0 : Nat) (ty0 : TypeId) (hnn0 : n0 = v1.length) (hty0 : n0 = 0 ∨ ty0 = T_uint8) (hl : τ.lock ≤ τ.next) (Q : TEx → TCont) (hQ0 : ∀ (fr : TF) (tk2 : TK) (τ2 : TH),∀ (u0 : TypeId),(r.length = 0 ∨ u0 = T_uint8) → lkp fr 0 = .str v0 → lkp fr 3 = .sla 0 (List.map (TV.int .u8) r) → tk2.take 1 = [some (r.length,u0)] → τ2.cut τ.next = τ → Q (.exit 0) fr tk2 τ2) ,tW G (.loop [0,3] l_handselref01_Sum_1) Q [(0,.str v0),(3,.sla 0 (List.map (TV.int .u8) v1))] [some (n0,ty0)] τ
theorem handselref01_Sum_f_l1_s (v0 : ByteArray) (v1 : (List Int)) (r : (List Int)) (h : handselref01_Sum_f_l1 v0 v1 = some r) : handselref01_Sum_f_l1_P v0 v1 r := by
  refine iterO_ind (f := fun st => handselref01_Sum_f_l1_step v0 st) (P := fun st r => ∀ (v1 : (List Int)),v1 = st → handselref01_Sum_f_l1_P v0 v1 r) ?_ h v1 rfl
  clear h r v1
  intro st o h r ih v1 hst τ  n0 ty0 hnn0 hty0 hl Q hQ0
  subst hst
  have h : handselref01_Sum_f_l1_step v0 v1 = some o := h
  unfold handselref01_Sum_f_l1_step at h
  subst hnn0
  refine tW_lp fun LQ hn hr he => ?_
  by_cases c1 : (Int.tmod ((v1.length : Nat) : Int) (64 : Int)) = (56 : Int)
  · rw [if_pos c1] at h
    injection h with h; subst h
    obtain rfl : _ = r := ih
    simp -implicitDefEqProofs only [l_handselref01_Sum_1,U_handselref01_Sum,TT,Ic.t,Ic.ci,Nat.reduceEqDiff,reduceIte,Nat.reduceAdd,Nat.reduceMul,Nat.reduceLT,Nat.reduceLeDiff,Nat.reduceSub,reduceCtorEq,Int.reduceEq,Int.reduceNe,Int.reduceToNat,Int.reduceLT,Int.reduceLE,Int.reduceNeg,hl,hty0,he,hr,eq_true c1,CL,LTN]
    exact hQ0  _ _ _ ty0 (by first | exact hty0 | exact Or.inr rfl | simp) (by first | rfl | (simp -implicitDefEqProofs only [TT,Ic.t,Ic.ci,Nat.reduceEqDiff,reduceIte,Nat.reduceAdd,Nat.reduceMul,Nat.reduceLT,Nat.reduceLeDiff,Nat.reduceSub,reduceCtorEq,Int.reduceEq,Int.reduceNe,Int.reduceToNat,Int.reduceLT,Int.reduceLE,Int.reduceNeg,hl,hty0,eq_true c1,CL,LTN])) (by first | rfl | (simp -implicitDefEqProofs only [TT,Ic.t,Ic.ci,Nat.reduceEqDiff,reduceIte,Nat.reduceAdd,Nat.reduceMul,Nat.reduceLT,Nat.reduceLeDiff,Nat.reduceSub,reduceCtorEq,Int.reduceEq,Int.reduceNe,Int.reduceToNat,Int.reduceLT,Int.reduceLE,Int.reduceNeg,hl,hty0,eq_true c1,CL,LTN])) (by first | rfl | (simp -implicitDefEqProofs only [TT,Ic.t,Ic.ci,Nat.reduceEqDiff,reduceIte,Nat.reduceAdd,Nat.reduceMul,Nat.reduceLT,Nat.reduceLeDiff,Nat.reduceSub,reduceCtorEq,Int.reduceEq,Int.reduceNe,Int.reduceToNat,Int.reduceLT,Int.reduceLE,Int.reduceNeg,hl,hty0,eq_true c1,CL,LTN])) (by first | exact cut_ge (Nat.le_refl _) | (simp -implicitDefEqProofs only [TT,Ic.t,Ic.ci,Nat.reduceEqDiff,reduceIte,Nat.reduceAdd,Nat.reduceMul,Nat.reduceLT,Nat.reduceLeDiff,Nat.reduceSub,reduceCtorEq,Int.reduceEq,Int.reduceNe,Int.reduceToNat,Int.reduceLT,Int.reduceLE,Int.reduceNeg,hl,hty0,eq_true c1,CL,LTN]))
  rw [if_neg c1] at h
  obtain ⟨c2,h⟩ := ifS h
  have f3 : 1 ≤ maxLen := by unfold maxLen; omega
  have f4 : v1.length + 1 ≤ maxLen := by unfold maxLen; omega
  have f5 : ((List.map (TV.int .u8) v1).all fun e => e.cells.length == 1) = true := allc (fun _ => rfl) _
  have f6 : List.map (TV.int .u8) v1 ++ List.map (TV.int .u8) [(0 : Int)] = List.map (TV.int .u8) (v1 ++ [(0 : Int)]) := appn _ _
  try simp only [CL,List.map_cons,List.map_nil] at f6
  injection h with h; subst h
  have ih := ih (v1 ++ [(0 : Int)]) rfl
  unfold handselref01_Sum_f_l1_P at ih
  simp -implicitDefEqProofs only [l_handselref01_Sum_1,U_handselref01_Sum,TT,Ic.t,Ic.ci,Nat.reduceEqDiff,reduceIte,Nat.reduceAdd,Nat.reduceMul,Nat.reduceLT,Nat.reduceLeDiff,Nat.reduceSub,reduceCtorEq,Int.reduceEq,Int.reduceNe,Int.reduceToNat,Int.reduceLT,Int.reduceLE,Int.reduceNeg,hl,hty0,c1,c2,f3,f4,f5,f6,CL,LTN]
  rw [hn]
  simp -implicitDefEqProofs only [TT,Ic.t,Ic.ci,Nat.reduceEqDiff,reduceIte,Nat.reduceAdd,Nat.reduceMul,Nat.reduceLT,Nat.reduceLeDiff,Nat.reduceSub,reduceCtorEq,Int.reduceEq,Int.reduceNe,Int.reduceToNat,Int.reduceLT,Int.reduceLE,Int.reduceNeg,hl,hty0,c1,c2,f3,f4,f5,f6,CL,LTN]
  exact ih  τ   (v1.length + 1) T_uint8 (by first | rfl | simp [bytesL_len]) (by first | exact hty0 | exact Or.inr rfl | simp) (by first | assumption | (simp only [next_pt,lock_pt]; assumption)) Q hQ0
noncomputable def handselref01_Sum_f_l2_step (v1 : Int) (v0 : (List Int)) (v2 : Int) : Option (LS ((List Int) × Int) ((List Int))) :=
  if v2 < (8 : Int) then
    if ¬ (IntKind.u64.wrap (IntKind.i64.wrap ((56 : Int) - (IntKind.i64.wrap ((8 : Int) * v2))))) < 0 then
      if v0.length ≤ 140737488355327 then
        some (.nx ((v0 ++ [(IntKind.u8.wrap (Int.fdiv v1 (2 ^ (Nat.min (IntKind.u64.wrap (IntKind.i64.wrap ((56 : Int) - (IntKind.i64.wrap ((8 : Int) * v2))))).toNat IntKind.u64.bits))))]),(IntKind.i64.wrap (v2 + (1 : Int)))))
      else
        none
    else
      none
  else
  some (.dn v0)
noncomputable def handselref01_Sum_f_l2 (v1 : Int) (v0 : (List Int)) (v2 : Int) : Option ((List Int)) := iterO (fun st => handselref01_Sum_f_l2_step v1 st.1 st.2) (v0,v2)
theorem handselref01_Sum_f_l2_eq (v1 : Int) (v0 : (List Int)) (v2 : Int) : handselref01_Sum_f_l2 v1 v0 v2 = handselref01_Sum_f_l2_step v1 v0 v2 >>= LS.go (fun st => handselref01_Sum_f_l2 v1 st.1 st.2) := iterO_eq (fun st => handselref01_Sum_f_l2_step v1 st.1 st.2) (v0,v2)
def handselref01_Sum_f_l2_P (v1 : Int) (v0 : (List Int)) (v2 : Int) (r : (List Int)) : Prop := ∀ (τ : TH) (n0 : Nat) (ty0 : TypeId) (hnn0 : n0 = v0.length) (hty0 : n0 = 0 ∨ ty0 = T_uint8) (hl : τ.lock ≤ τ.next) (Q : TEx → TCont) (hQ0 : ∀ (fr : TF) (tk2 : TK) (τ2 : TH),∀ (u0 : TypeId),(r.length = 0 ∨ u0 = T_uint8) → lkp fr 3 = .sla 0 (List.map (TV.int .u8) r) → tk2.take 1 = [some (r.length,u0)] → τ2.cut τ.next = τ → Q (.exit 2) fr tk2 τ2) ,tW G (.loop [3,4,5] l_handselref01_Sum_2) Q [(3,.sla 0 (List.map (TV.int .u8) v0)),(4,.int .u64 v1),(5,.int .i64 v2)] [some (n0,ty0)] τ
theorem handselref01_Sum_f_l2_s (v1 : Int) (v0 : (List Int)) (v2 : Int) (r : (List Int)) (h : handselref01_Sum_f_l2 v1 v0 v2 = some r) : handselref01_Sum_f_l2_P v1 v0 v2 r := by
  refine iterO_ind (f := fun st => handselref01_Sum_f_l2_step v1 st.1 st.2) (P := fun st r => ∀ (v0 : (List Int)) (v2 : Int),(v0,v2) = st → handselref01_Sum_f_l2_P v1 v0 v2 r) ?_ h v0 v2 rfl
  clear h r v2 v0
  intro st o h r ih v0 v2 hst τ  n0 ty0 hnn0 hty0 hl Q hQ0
  subst hst
  have h : handselref01_Sum_f_l2_step v1 v0 v2 = some o := h
  unfold handselref01_Sum_f_l2_step at h
  subst hnn0
  refine tW_lp fun LQ hn hr he => ?_
  by_cases c1 : v2 < (8 : Int)
  · rw [if_pos c1] at h
    obtain ⟨c2,h⟩ := ifS h
    obtain ⟨c3,h⟩ := ifS h
    have f4 : 1 ≤ maxLen := by unfold maxLen; omega
    have f5 : v0.length + 1 ≤ maxLen := by unfold maxLen; omega
    have f6 : ((List.map (TV.int .u8) v0).all fun e => e.cells.length == 1) = true := allc (fun _ => rfl) _
    have f7 : List.map (TV.int .u8) v0 ++ List.map (TV.int .u8) [(IntKind.u8.wrap (Int.fdiv v1 (2 ^ (Nat.min (IntKind.u64.wrap (IntKind.i64.wrap ((56 : Int) - (IntKind.i64.wrap ((8 : Int) * v2))))).toNat IntKind.u64.bits))))] = List.map (TV.int .u8) (v0 ++ [(IntKind.u8.wrap (Int.fdiv v1 (2 ^ (Nat.min (IntKind.u64.wrap (IntKind.i64.wrap ((56 : Int) - (IntKind.i64.wrap ((8 : Int) * v2))))).toNat IntKind.u64.bits))))]) := appn _ _
    try simp only [CL,List.map_cons,List.map_nil] at f7
    injection h with h; subst h
    have ih := ih (v0 ++ [(IntKind.u8.wrap (Int.fdiv v1 (2 ^ (Nat.min (IntKind.u64.wrap (IntKind.i64.wrap ((56 : Int) - (IntKind.i64.wrap ((8 : Int) * v2))))).toNat IntKind.u64.bits))))]) (IntKind.i64.wrap (v2 + (1 : Int))) rfl
    unfold handselref01_Sum_f_l2_P at ih
    simp -implicitDefEqProofs only [l_handselref01_Sum_2,U_handselref01_Sum,TT,Ic.t,Ic.ci,Nat.reduceEqDiff,reduceIte,Nat.reduceAdd,Nat.reduceMul,Nat.reduceLT,Nat.reduceLeDiff,Nat.reduceSub,reduceCtorEq,Int.reduceEq,Int.reduceNe,Int.reduceToNat,Int.reduceLT,Int.reduceLE,Int.reduceNeg,hl,hty0,c1,c2,c3,f4,f5,f6,f7,CL,LTN]
    rw [hn]
    simp -implicitDefEqProofs only [TT,Ic.t,Ic.ci,Nat.reduceEqDiff,reduceIte,Nat.reduceAdd,Nat.reduceMul,Nat.reduceLT,Nat.reduceLeDiff,Nat.reduceSub,reduceCtorEq,Int.reduceEq,Int.reduceNe,Int.reduceToNat,Int.reduceLT,Int.reduceLE,Int.reduceNeg,hl,hty0,c1,c2,c3,f4,f5,f6,f7,CL,LTN]
    exact ih  τ   (v0.length + 1) T_uint8 (by first | rfl | simp [bytesL_len]) (by first | exact hty0 | exact Or.inr rfl | simp) (by first | assumption | (simp only [next_pt,lock_pt]; assumption)) Q hQ0
  rw [if_neg c1] at h
  injection h with h; subst h
  obtain rfl : _ = r := ih
  simp -implicitDefEqProofs only [l_handselref01_Sum_2,U_handselref01_Sum,TT,Ic.t,Ic.ci,Nat.reduceEqDiff,reduceIte,Nat.reduceAdd,Nat.reduceMul,Nat.reduceLT,Nat.reduceLeDiff,Nat.reduceSub,reduceCtorEq,Int.reduceEq,Int.reduceNe,Int.reduceToNat,Int.reduceLT,Int.reduceLE,Int.reduceNeg,hl,hty0,he,hr,c1,CL,LTN]
  exact hQ0  _ _ _ ty0 (by first | exact hty0 | exact Or.inr rfl | simp) (by first | rfl | (simp -implicitDefEqProofs only [TT,Ic.t,Ic.ci,Nat.reduceEqDiff,reduceIte,Nat.reduceAdd,Nat.reduceMul,Nat.reduceLT,Nat.reduceLeDiff,Nat.reduceSub,reduceCtorEq,Int.reduceEq,Int.reduceNe,Int.reduceToNat,Int.reduceLT,Int.reduceLE,Int.reduceNeg,hl,hty0,c1,CL,LTN])) (by first | rfl | (simp -implicitDefEqProofs only [TT,Ic.t,Ic.ci,Nat.reduceEqDiff,reduceIte,Nat.reduceAdd,Nat.reduceMul,Nat.reduceLT,Nat.reduceLeDiff,Nat.reduceSub,reduceCtorEq,Int.reduceEq,Int.reduceNe,Int.reduceToNat,Int.reduceLT,Int.reduceLE,Int.reduceNeg,hl,hty0,c1,CL,LTN])) (by first | exact cut_ge (Nat.le_refl _) | (simp -implicitDefEqProofs only [TT,Ic.t,Ic.ci,Nat.reduceEqDiff,reduceIte,Nat.reduceAdd,Nat.reduceMul,Nat.reduceLT,Nat.reduceLeDiff,Nat.reduceSub,reduceCtorEq,Int.reduceEq,Int.reduceNe,Int.reduceToNat,Int.reduceLT,Int.reduceLE,Int.reduceNeg,hl,hty0,c1,CL,LTN]))
noncomputable def handselref01_Sum_f_l3_step (v0 : ByteArray) (v1 : (List Int)) (v2 : Int) : Option (LS ((List Int) × Int) ((List Int))) :=
  if v2 < ((v0.size : Nat) : Int) then
    if v1.length = 8 then
      if (0 ≤ (IntKind.i64.wrap (v2 + (64 : Int))) ∧ (IntKind.i64.wrap (v2 + (64 : Int))) ≤ (v0.size : Int)) ∧ 0 ≤ v2 ∧ v2 ≤ (IntKind.i64.wrap (v2 + (64 : Int))) then
        handselref01_block_f v1 (v0.extract v2.toNat ((IntKind.i64.wrap (v2 + (64 : Int))).toNat)) >>= fun y6 =>
        if y6.length = 8 then
          some (.nx (y6,(IntKind.i64.wrap (v2 + (64 : Int)))))
        else
          none
      else
        none
    else
      none
  else
  some (.dn v1)
noncomputable def handselref01_Sum_f_l3 (v0 : ByteArray) (v1 : (List Int)) (v2 : Int) : Option ((List Int)) := iterO (fun st => handselref01_Sum_f_l3_step v0 st.1 st.2) (v1,v2)
theorem handselref01_Sum_f_l3_eq (v0 : ByteArray) (v1 : (List Int)) (v2 : Int) : handselref01_Sum_f_l3 v0 v1 v2 = handselref01_Sum_f_l3_step v0 v1 v2 >>= LS.go (fun st => handselref01_Sum_f_l3 v0 st.1 st.2) := iterO_eq (fun st => handselref01_Sum_f_l3_step v0 st.1 st.2) (v1,v2)
def handselref01_Sum_f_l3_P (v0 : ByteArray) (v1 : (List Int)) (v2 : Int) (r : (List Int)) : Prop := ∀ (τ : TH) (o0 : Nat) (e0 : Option (Nat × TypeId)) (hl : τ.lock ≤ τ.next) (ha0 : τ.at o0 = some ⟨T_8_uint32,List.map (TV.int .u32) v1⟩) (hi0 : o0 < τ.next) (hw0 : τ.lock ≤ o0) (Q : TEx → TCont) (hQ0 : ∀ (fr : TF) (tk2 : TK) (τ2 : TH),∀ (u0 : Option (Nat × TypeId)),True → lkp fr 7 = .ptr o0 0 → tk2.take 1 = [u0] → τ2.cut τ.next = (τ.put o0 ⟨T_8_uint32,List.map (TV.int .u32) r⟩) → Q (.exit 4) fr tk2 τ2) ,tW G (.loop [6,7,8] l_handselref01_Sum_3) Q [(6,.str v0),(7,.ptr o0 0),(8,.int .i64 v2)] [e0] τ
theorem handselref01_Sum_f_l3_s (v0 : ByteArray) (v1 : (List Int)) (v2 : Int) (r : (List Int)) (h : handselref01_Sum_f_l3 v0 v1 v2 = some r) : handselref01_Sum_f_l3_P v0 v1 v2 r := by
  refine iterO_ind (f := fun st => handselref01_Sum_f_l3_step v0 st.1 st.2) (P := fun st r => ∀ (v1 : (List Int)) (v2 : Int),(v1,v2) = st → handselref01_Sum_f_l3_P v0 v1 v2 r) ?_ h v1 v2 rfl
  clear h r v2 v1
  intro st o h r ih v1 v2 hst τ o0 e0 hl ha0 hi0 hw0 Q hQ0
  subst hst
  have h : handselref01_Sum_f_l3_step v0 v1 v2 = some o := h
  unfold handselref01_Sum_f_l3_step at h
  refine tW_lp fun LQ hn hr he => ?_
  by_cases c1 : v2 < ((v0.size : Nat) : Int)
  · rw [if_pos c1] at h
    obtain ⟨c2,h⟩ := ifS h
    have f3 : 8 ≤ v1.length := Nat.le_of_eq (Eq.symm c2)
    have f4 : List.take 8 (List.map (TV.int .u32) v1) = List.map (TV.int .u32) v1 := take_map c2
    obtain ⟨c5,h⟩ := ifS h
    obtain ⟨y6,hy6,h⟩ := ob h
    have k7 := handselref01_block_f_k v1 (v0.extract v2.toNat ((IntKind.i64.wrap (v2 + (64 : Int))).toNat)) _ hy6
    try simp only [CL,MC,Int.reduceToNat] at k7
    obtain ⟨c8,h⟩ := ifS h
    have f9 : (List.map (TV.int .u32) y6 = []) = False := map_ne c8 (by decide)
    have f10 : y6.length ≤ 8 := Nat.le_of_eq c8
    injection h with h; subst h
    have ih := ih y6 (IntKind.i64.wrap (v2 + (64 : Int))) rfl
    unfold handselref01_Sum_f_l3_P at ih
    simp -implicitDefEqProofs only [l_handselref01_Sum_3,U_handselref01_Sum,TT,Ic.t,Ic.ci,Nat.reduceEqDiff,reduceIte,Nat.reduceAdd,Nat.reduceMul,Nat.reduceLT,Nat.reduceLeDiff,Nat.reduceSub,reduceCtorEq,Int.reduceEq,Int.reduceNe,Int.reduceToNat,Int.reduceLT,Int.reduceLE,Int.reduceNeg,hl,ha0,hi0,hw0,c1,c2,f3,f4,c5,k7,c8,f9,f10,tset_all,CL,LTN]
    rw [hn]
    simp -implicitDefEqProofs only [TT,Ic.t,Ic.ci,Nat.reduceEqDiff,reduceIte,Nat.reduceAdd,Nat.reduceMul,Nat.reduceLT,Nat.reduceLeDiff,Nat.reduceSub,reduceCtorEq,Int.reduceEq,Int.reduceNe,Int.reduceToNat,Int.reduceLT,Int.reduceLE,Int.reduceNeg,hl,ha0,hi0,hw0,c1,c2,f3,f4,c5,k7,c8,f9,f10,tset_all,CL,LTN]
    exact ih  (τ.put o0 ⟨T_8_uint32,List.map (TV.int .u32) y6⟩) o0 _  (by first | assumption | (simp only [next_pt,lock_pt]; assumption)) (by simp -implicitDefEqProofs only [TT,Ic.t,Ic.ci,Nat.reduceEqDiff,reduceIte,Nat.reduceAdd,Nat.reduceMul,Nat.reduceLT,Nat.reduceLeDiff,Nat.reduceSub,reduceCtorEq,Int.reduceEq,Int.reduceNe,Int.reduceToNat,Int.reduceLT,Int.reduceLE,Int.reduceNeg,hl,ha0,hi0,hw0,c1,c2,f3,f4,c5,k7,c8,f9,f10,tset_all,CL,LTN]) (by first | assumption | (simp only [next_pt,lock_pt]; assumption)) (by first | assumption | (simp only [next_pt,lock_pt]; assumption)) Q (fun fr tk2 τ2 u0 u0' g0 ht hτ => hQ0 fr tk2 τ2 u0 u0' g0 ht (by first | exact hτ | simpa only [next_pt,pt_pt,hl,ha0,hi0,hw0] using hτ))
  rw [if_neg c1] at h
  injection h with h; subst h
  obtain rfl : _ = r := ih
  simp -implicitDefEqProofs only [l_handselref01_Sum_3,U_handselref01_Sum,TT,Ic.t,Ic.ci,Nat.reduceEqDiff,reduceIte,Nat.reduceAdd,Nat.reduceMul,Nat.reduceLT,Nat.reduceLeDiff,Nat.reduceSub,reduceCtorEq,Int.reduceEq,Int.reduceNe,Int.reduceToNat,Int.reduceLT,Int.reduceLE,Int.reduceNeg,hl,ha0,hi0,hw0,he,hr,c1,CL,LTN]
  exact hQ0  _ _ _ _ trivial (by first | rfl | (simp -implicitDefEqProofs only [TT,Ic.t,Ic.ci,Nat.reduceEqDiff,reduceIte,Nat.reduceAdd,Nat.reduceMul,Nat.reduceLT,Nat.reduceLeDiff,Nat.reduceSub,reduceCtorEq,Int.reduceEq,Int.reduceNe,Int.reduceToNat,Int.reduceLT,Int.reduceLE,Int.reduceNeg,hl,ha0,hi0,hw0,c1,CL,LTN])) (by first | rfl | (simp -implicitDefEqProofs only [TT,Ic.t,Ic.ci,Nat.reduceEqDiff,reduceIte,Nat.reduceAdd,Nat.reduceMul,Nat.reduceLT,Nat.reduceLeDiff,Nat.reduceSub,reduceCtorEq,Int.reduceEq,Int.reduceNe,Int.reduceToNat,Int.reduceLT,Int.reduceLE,Int.reduceNeg,hl,ha0,hi0,hw0,c1,CL,LTN])) (by first | exact cut_ge (Nat.le_refl _) | (simp -implicitDefEqProofs only [TT,Ic.t,Ic.ci,Nat.reduceEqDiff,reduceIte,Nat.reduceAdd,Nat.reduceMul,Nat.reduceLT,Nat.reduceLeDiff,Nat.reduceSub,reduceCtorEq,Int.reduceEq,Int.reduceNe,Int.reduceToNat,Int.reduceLT,Int.reduceLE,Int.reduceNeg,hl,ha0,hi0,hw0,put_same ha0,c1,CL,LTN]))
noncomputable def handselref01_Sum_f_l4_step (v0 : (List Int)) (v1 : (List Int)) (v2 : Int) : Option (LS ((List Int) × Int) ((List Int))) :=
  if v2 < (8 : Int) then
    if 0 ≤ v2 ∧ v2 < ((8 : Nat) : Int) then
      ixL v0 v2 >>= fun y3 =>
      if v1.length ≤ 140737488355324 then
        some (.nx ((v1 ++ [(IntKind.u8.wrap (Int.fdiv y3 (2 ^ (Nat.min 24 IntKind.u32.bits)))),(IntKind.u8.wrap (Int.fdiv y3 (2 ^ (Nat.min 16 IntKind.u32.bits)))),(IntKind.u8.wrap (Int.fdiv y3 (2 ^ (Nat.min 8 IntKind.u32.bits)))),(IntKind.u8.wrap y3)]),(IntKind.i64.wrap (v2 + (1 : Int)))))
      else
        none
    else
      none
  else
  some (.dn v1)
noncomputable def handselref01_Sum_f_l4 (v0 : (List Int)) (v1 : (List Int)) (v2 : Int) : Option ((List Int)) := iterO (fun st => handselref01_Sum_f_l4_step v0 st.1 st.2) (v1,v2)
theorem handselref01_Sum_f_l4_eq (v0 : (List Int)) (v1 : (List Int)) (v2 : Int) : handselref01_Sum_f_l4 v0 v1 v2 = handselref01_Sum_f_l4_step v0 v1 v2 >>= LS.go (fun st => handselref01_Sum_f_l4 v0 st.1 st.2) := iterO_eq (fun st => handselref01_Sum_f_l4_step v0 st.1 st.2) (v1,v2)
def handselref01_Sum_f_l4_P (v0 : (List Int)) (v1 : (List Int)) (v2 : Int) (r : (List Int)) : Prop := ∀ (τ : TH) (o0 : Nat) (e0 : Option (Nat × TypeId)) (n1 : Nat) (ty1 : TypeId) (hnn1 : n1 = v1.length) (hty1 : n1 = 0 ∨ ty1 = T_uint8) (hl : τ.lock ≤ τ.next) (ha0 : τ.at o0 = some ⟨T_8_uint32,List.map (TV.int .u32) v0⟩) (hi0 : o0 < τ.next) (Q : TEx → TCont) (hQ0 : ∀ (fr : TF) (tk2 : TK) (τ2 : TH),∀ (u0 : Option (Nat × TypeId)),True → ∀ (u1 : TypeId),(r.length = 0 ∨ u1 = T_uint8) → lkp fr 9 = .sla 1 (List.map (TV.int .u8) r) → tk2.take 2 = [u0,some (r.length,u1)] → τ2.cut τ.next = τ → Q (.exit 6) fr tk2 τ2) ,tW G (.loop [7,9,10] l_handselref01_Sum_4) Q [(7,.ptr o0 0),(9,.sla 1 (List.map (TV.int .u8) v1)),(10,.int .i64 v2)] [e0,some (n1,ty1)] τ
theorem handselref01_Sum_f_l4_s (v0 : (List Int)) (v1 : (List Int)) (v2 : Int) (r : (List Int)) (h : handselref01_Sum_f_l4 v0 v1 v2 = some r) : handselref01_Sum_f_l4_P v0 v1 v2 r := by
  refine iterO_ind (f := fun st => handselref01_Sum_f_l4_step v0 st.1 st.2) (P := fun st r => ∀ (v1 : (List Int)) (v2 : Int),(v1,v2) = st → handselref01_Sum_f_l4_P v0 v1 v2 r) ?_ h v1 v2 rfl
  clear h r v2 v1
  intro st o h r ih v1 v2 hst τ o0 e0 n1 ty1 hnn1 hty1 hl ha0 hi0 Q hQ0
  subst hst
  have h : handselref01_Sum_f_l4_step v0 v1 v2 = some o := h
  unfold handselref01_Sum_f_l4_step at h
  subst hnn1
  refine tW_lp fun LQ hn hr he => ?_
  by_cases c1 : v2 < (8 : Int)
  · rw [if_pos c1] at h
    obtain ⟨c2,h⟩ := ifS h
    obtain ⟨y3,hy3,h⟩ := ob h
    have f4 := ixL_facts hy3
    have f4a := (f4.2.2 (TV.int .u32)).1
    have f4b := (f4.2.2 (TV.int .u32)).2
    try simp only [CL,MC,Int.reduceToNat] at f4 f4a f4b
    obtain ⟨c5,h⟩ := ifS h
    have f6 : 4 ≤ maxLen := by unfold maxLen; omega
    have f7 : v1.length + 4 ≤ maxLen := by unfold maxLen; omega
    have f8 : ((List.map (TV.int .u8) v1).all fun e => e.cells.length == 1) = true := allc (fun _ => rfl) _
    have f9 : List.map (TV.int .u8) v1 ++ List.map (TV.int .u8) [(IntKind.u8.wrap (Int.fdiv y3 (2 ^ (Nat.min 24 IntKind.u32.bits)))),(IntKind.u8.wrap (Int.fdiv y3 (2 ^ (Nat.min 16 IntKind.u32.bits)))),(IntKind.u8.wrap (Int.fdiv y3 (2 ^ (Nat.min 8 IntKind.u32.bits)))),(IntKind.u8.wrap y3)] = List.map (TV.int .u8) (v1 ++ [(IntKind.u8.wrap (Int.fdiv y3 (2 ^ (Nat.min 24 IntKind.u32.bits)))),(IntKind.u8.wrap (Int.fdiv y3 (2 ^ (Nat.min 16 IntKind.u32.bits)))),(IntKind.u8.wrap (Int.fdiv y3 (2 ^ (Nat.min 8 IntKind.u32.bits)))),(IntKind.u8.wrap y3)]) := appn _ _
    try simp only [CL,List.map_cons,List.map_nil] at f9
    injection h with h; subst h
    have ih := ih (v1 ++ [(IntKind.u8.wrap (Int.fdiv y3 (2 ^ (Nat.min 24 IntKind.u32.bits)))),(IntKind.u8.wrap (Int.fdiv y3 (2 ^ (Nat.min 16 IntKind.u32.bits)))),(IntKind.u8.wrap (Int.fdiv y3 (2 ^ (Nat.min 8 IntKind.u32.bits)))),(IntKind.u8.wrap y3)]) (IntKind.i64.wrap (v2 + (1 : Int))) rfl
    unfold handselref01_Sum_f_l4_P at ih
    simp -implicitDefEqProofs only [l_handselref01_Sum_4,U_handselref01_Sum,TT,Ic.t,Ic.ci,Nat.reduceEqDiff,reduceIte,Nat.reduceAdd,Nat.reduceMul,Nat.reduceLT,Nat.reduceLeDiff,Nat.reduceSub,reduceCtorEq,Int.reduceEq,Int.reduceNe,Int.reduceToNat,Int.reduceLT,Int.reduceLE,Int.reduceNeg,hl,ha0,hi0,hty1,c1,c2,f4.1,f4.2.1,f4a,f4b,c5,f6,f7,f8,f9,CL,LTN]
    rw [hn]
    simp -implicitDefEqProofs only [TT,Ic.t,Ic.ci,Nat.reduceEqDiff,reduceIte,Nat.reduceAdd,Nat.reduceMul,Nat.reduceLT,Nat.reduceLeDiff,Nat.reduceSub,reduceCtorEq,Int.reduceEq,Int.reduceNe,Int.reduceToNat,Int.reduceLT,Int.reduceLE,Int.reduceNeg,hl,ha0,hi0,hty1,c1,c2,f4.1,f4.2.1,f4a,f4b,c5,f6,f7,f8,f9,CL,LTN]
    exact ih  τ o0 _ (v1.length + 4) T_uint8 (by first | rfl | simp [bytesL_len]) (by first | exact hty1 | exact Or.inr rfl | simp) (by first | assumption | (simp only [next_pt,lock_pt]; assumption)) (by simp -implicitDefEqProofs only [TT,Ic.t,Ic.ci,Nat.reduceEqDiff,reduceIte,Nat.reduceAdd,Nat.reduceMul,Nat.reduceLT,Nat.reduceLeDiff,Nat.reduceSub,reduceCtorEq,Int.reduceEq,Int.reduceNe,Int.reduceToNat,Int.reduceLT,Int.reduceLE,Int.reduceNeg,hl,ha0,hi0,hty1,c1,c2,f4.1,f4.2.1,f4a,f4b,c5,f6,f7,f8,f9,CL,LTN]) (by first | assumption | (simp only [next_pt,lock_pt]; assumption)) Q hQ0
  rw [if_neg c1] at h
  injection h with h; subst h
  obtain rfl : _ = r := ih
  simp -implicitDefEqProofs only [l_handselref01_Sum_4,U_handselref01_Sum,TT,Ic.t,Ic.ci,Nat.reduceEqDiff,reduceIte,Nat.reduceAdd,Nat.reduceMul,Nat.reduceLT,Nat.reduceLeDiff,Nat.reduceSub,reduceCtorEq,Int.reduceEq,Int.reduceNe,Int.reduceToNat,Int.reduceLT,Int.reduceLE,Int.reduceNeg,hl,ha0,hi0,hty1,he,hr,c1,CL,LTN]
  exact hQ0  _ _ _ _ trivial ty1 (by first | exact hty1 | exact Or.inr rfl | simp) (by first | rfl | (simp -implicitDefEqProofs only [TT,Ic.t,Ic.ci,Nat.reduceEqDiff,reduceIte,Nat.reduceAdd,Nat.reduceMul,Nat.reduceLT,Nat.reduceLeDiff,Nat.reduceSub,reduceCtorEq,Int.reduceEq,Int.reduceNe,Int.reduceToNat,Int.reduceLT,Int.reduceLE,Int.reduceNeg,hl,ha0,hi0,hty1,c1,CL,LTN])) (by first | rfl | (simp -implicitDefEqProofs only [TT,Ic.t,Ic.ci,Nat.reduceEqDiff,reduceIte,Nat.reduceAdd,Nat.reduceMul,Nat.reduceLT,Nat.reduceLeDiff,Nat.reduceSub,reduceCtorEq,Int.reduceEq,Int.reduceNe,Int.reduceToNat,Int.reduceLT,Int.reduceLE,Int.reduceNeg,hl,ha0,hi0,hty1,c1,CL,LTN])) (by first | exact cut_ge (Nat.le_refl _) | (simp -implicitDefEqProofs only [TT,Ic.t,Ic.ci,Nat.reduceEqDiff,reduceIte,Nat.reduceAdd,Nat.reduceMul,Nat.reduceLT,Nat.reduceLeDiff,Nat.reduceSub,reduceCtorEq,Int.reduceEq,Int.reduceNe,Int.reduceToNat,Int.reduceLT,Int.reduceLE,Int.reduceNeg,hl,ha0,hi0,hty1,c1,CL,LTN]))
noncomputable def handselref01_Sum_f (p1 : ByteArray) : Option ByteArray :=
  if p1.size = 0 then
    handselref01_Sum_f_l1 p1 [(128 : Int)] >>= fun y3 =>
    handselref01_Sum_f_l2 (IntKind.u64.wrap ((IntKind.u64.wrap ((p1.size : Nat) : Int)) * (8 : Int))) y3 (0 : Int) >>= fun y5 =>
    handselref01_Sum_f_l3 (strL y5) [(1779033703 : Int),(3144134277 : Int),(1013904242 : Int),(2773480762 : Int),(1359893119 : Int),(2600822924 : Int),(528734635 : Int),(1541459225 : Int)] (0 : Int) >>= fun y7 =>
    handselref01_Sum_f_l4 y7 [] (0 : Int) >>= fun y9 =>
    some (strL y9)
  else
  if p1.size ≤ 140737488355327 then
    handselref01_Sum_f_l1 p1 ((bytesL p1) ++ [(128 : Int)]) >>= fun y16 =>
    handselref01_Sum_f_l2 (IntKind.u64.wrap ((IntKind.u64.wrap ((p1.size : Nat) : Int)) * (8 : Int))) y16 (0 : Int) >>= fun y18 =>
    handselref01_Sum_f_l3 (strL y18) [(1779033703 : Int),(3144134277 : Int),(1013904242 : Int),(2773480762 : Int),(1359893119 : Int),(2600822924 : Int),(528734635 : Int),(1541459225 : Int)] (0 : Int) >>= fun y20 =>
    handselref01_Sum_f_l4 y20 [] (0 : Int) >>= fun y22 =>
    some (strL y22)
  else
    none
theorem handselref01_Sum_f_s (p1 : ByteArray) (r : ByteArray) (h : handselref01_Sum_f p1 = some r) (τ : TH) (hl : τ.lock ≤ τ.next) : Ru G F_handselref01_Sum [.str p1] τ (.str r) τ := by
  refine Ru_of fun K hK => ?_
  rw [tC_code g_handselref01_Sum (Nat.le_of_ble_eq_true rfl)]
  unfold handselref01_Sum_f at h
  by_cases c1 : p1.size = 0
  · rw [if_pos c1] at h
    have f2 : 1 ≤ maxLen := by unfold maxLen; omega
    obtain ⟨y3,hy3,h⟩ := ob h
    simp -implicitDefEqProofs only [U_handselref01_Sum,TT,Ic.t,Ic.ci,Nat.reduceEqDiff,reduceIte,Nat.reduceAdd,Nat.reduceMul,Nat.reduceLT,Nat.reduceLeDiff,Nat.reduceSub,reduceCtorEq,Int.reduceEq,Int.reduceNe,Int.reduceToNat,Int.reduceLT,Int.reduceLE,Int.reduceNeg,hl,eq_true c1,bytesL_len,f2,CL,LTN]
    have Sy3 := handselref01_Sum_f_l1_s p1 [(128 : Int)] y3 hy3
    unfold handselref01_Sum_f_l1_P at Sy3
    refine Sy3 _ 1 T_uint8 (by first | rfl | simp [bytesL_len]) (by first | exact Or.inl rfl | exact Or.inr rfl | assumption | simp) (by first | assumption | omega | (simp only [next_pt,next_pu,lock_pt,lock_pu]; omega)) _ ?_
    intro frq4 tkq4 τq4 u0q4 uh0q4 g0q4 g3q4 htq4 hcq4
    have hcq4 := cut_via (n := τ.next) hcq4 (by first | omega | (simp only [next_pt,next_pu]; omega))
    try simp only [List.take_succ_cons,List.take_zero,List.take_nil,CL] at htq4
    try simp -implicitDefEqProofs only [TT,Ic.t,Ic.ci,Nat.reduceEqDiff,reduceIte,Nat.reduceAdd,Nat.reduceMul,Nat.reduceLT,Nat.reduceLeDiff,Nat.reduceSub,reduceCtorEq,Int.reduceEq,Int.reduceNe,Int.reduceToNat,Int.reduceLT,Int.reduceLE,Int.reduceNeg,hl,eq_true c1,bytesL_len,f2,CL,LTN] at hcq4
    obtain ⟨y5,hy5,h⟩ := ob h
    simp -implicitDefEqProofs only [U_handselref01_Sum,TT,Ic.t,Ic.ci,Nat.reduceEqDiff,reduceIte,Nat.reduceAdd,Nat.reduceMul,Nat.reduceLT,Nat.reduceLeDiff,Nat.reduceSub,reduceCtorEq,Int.reduceEq,Int.reduceNe,Int.reduceToNat,Int.reduceLT,Int.reduceLE,Int.reduceNeg,hl,eq_true c1,bytesL_len,f2,uh0q4,g0q4,g3q4,htq4,hcq4,CL,LTN]
    have Sy5 := handselref01_Sum_f_l2_s (IntKind.u64.wrap ((IntKind.u64.wrap ((p1.size : Nat) : Int)) * (8 : Int))) y3 (0 : Int) y5 hy5
    unfold handselref01_Sum_f_l2_P at Sy5
    refine Sy5 _ y3.length u0q4 (by first | rfl | simp [bytesL_len]) (by first | exact Or.inl rfl | exact Or.inr rfl | assumption | simp) (by first | assumption | omega | (simp only [next_pt,next_pu,lock_pt,lock_pu]; omega)) _ ?_
    intro frq6 tkq6 τq6 u0q6 uh0q6 g3q6 htq6 hcq6
    have hcq6 := cut_via (n := τ.next) hcq6 (by first | omega | (simp only [next_pt,next_pu]; omega))
    try simp only [List.take_succ_cons,List.take_zero,List.take_nil,CL] at htq6
    try simp -implicitDefEqProofs only [TT,Ic.t,Ic.ci,Nat.reduceEqDiff,reduceIte,Nat.reduceAdd,Nat.reduceMul,Nat.reduceLT,Nat.reduceLeDiff,Nat.reduceSub,reduceCtorEq,Int.reduceEq,Int.reduceNe,Int.reduceToNat,Int.reduceLT,Int.reduceLE,Int.reduceNeg,hl,eq_true c1,bytesL_len,f2,uh0q4,g0q4,g3q4,htq4,hcq4,CL,LTN] at hcq6
    obtain ⟨y7,hy7,h⟩ := ob h
    simp -implicitDefEqProofs only [U_handselref01_Sum,TT,Ic.t,Ic.ci,Nat.reduceEqDiff,reduceIte,Nat.reduceAdd,Nat.reduceMul,Nat.reduceLT,Nat.reduceLeDiff,Nat.reduceSub,reduceCtorEq,Int.reduceEq,Int.reduceNe,Int.reduceToNat,Int.reduceLT,Int.reduceLE,Int.reduceNeg,hl,eq_true c1,bytesL_len,f2,uh0q4,g0q4,g3q4,htq4,hcq4,uh0q6,g3q6,htq6,hcq6,CL,LTN]
    have Sy7 := handselref01_Sum_f_l3_s (strL y5) [(1779033703 : Int),(3144134277 : Int),(1013904242 : Int),(2773480762 : Int),(1359893119 : Int),(2600822924 : Int),(528734635 : Int),(1541459225 : Int)] (0 : Int) y7 hy7
    unfold handselref01_Sum_f_l3_P at Sy7
    refine Sy7 _ τ.next _ (by first | assumption | omega | (simp only [next_pt,next_pu,lock_pt,lock_pu]; omega)) (by first | (simp -implicitDefEqProofs only [TT,Ic.t,Ic.ci,Nat.reduceEqDiff,reduceIte,Nat.reduceAdd,Nat.reduceMul,Nat.reduceLT,Nat.reduceLeDiff,Nat.reduceSub,reduceCtorEq,Int.reduceEq,Int.reduceNe,Int.reduceToNat,Int.reduceLT,Int.reduceLE,Int.reduceNeg,hl,eq_true c1,bytesL_len,f2,uh0q4,g0q4,g3q4,htq4,hcq4,uh0q6,g3q6,htq6,hcq6,CL,LTN]; done) | (simp -implicitDefEqProofs only [TT,Ic.t,Ic.ci,Nat.reduceEqDiff,reduceIte,Nat.reduceAdd,Nat.reduceMul,Nat.reduceLT,Nat.reduceLeDiff,Nat.reduceSub,reduceCtorEq,Int.reduceEq,Int.reduceNe,Int.reduceToNat,Int.reduceLT,Int.reduceLE,Int.reduceNeg,hl,eq_true c1,bytesL_len,f2,uh0q4,g0q4,g3q4,htq4,hcq4,uh0q6,g3q6,htq6,hcq6,CL,LTN]; rfl)) (by first | assumption | omega | (simp only [next_pt,next_pu,lock_pt,lock_pu]; omega)) (by first | assumption | omega | (simp only [next_pt,next_pu,lock_pt,lock_pu]; omega)) _ ?_
    intro frq8 tkq8 τq8 u0q8 uh0q8 g7q8 htq8 hcq8
    have hcq8 := cut_via (n := τ.next + 1) hcq8 (by first | omega | (simp only [next_pt,next_pu]; omega))
    try simp only [List.take_succ_cons,List.take_zero,List.take_nil,CL] at htq8
    try simp -implicitDefEqProofs only [TT,Ic.t,Ic.ci,Nat.reduceEqDiff,reduceIte,Nat.reduceAdd,Nat.reduceMul,Nat.reduceLT,Nat.reduceLeDiff,Nat.reduceSub,reduceCtorEq,Int.reduceEq,Int.reduceNe,Int.reduceToNat,Int.reduceLT,Int.reduceLE,Int.reduceNeg,hl,eq_true c1,bytesL_len,f2,uh0q4,g0q4,g3q4,htq4,hcq4,uh0q6,g3q6,htq6,hcq6,CL,LTN] at hcq8
    obtain ⟨y9,hy9,h⟩ := ob h
    simp -implicitDefEqProofs only [U_handselref01_Sum,TT,Ic.t,Ic.ci,Nat.reduceEqDiff,reduceIte,Nat.reduceAdd,Nat.reduceMul,Nat.reduceLT,Nat.reduceLeDiff,Nat.reduceSub,reduceCtorEq,Int.reduceEq,Int.reduceNe,Int.reduceToNat,Int.reduceLT,Int.reduceLE,Int.reduceNeg,hl,eq_true c1,bytesL_len,f2,uh0q4,g0q4,g3q4,htq4,hcq4,uh0q6,g3q6,htq6,hcq6,g7q8,htq8,hcq8,CL,LTN]
    have Sy9 := handselref01_Sum_f_l4_s y7 [] (0 : Int) y9 hy9
    unfold handselref01_Sum_f_l4_P at Sy9
    refine Sy9 _ τ.next _ 0 0 (by first | rfl | simp [bytesL_len]) (by first | exact Or.inl rfl | exact Or.inr rfl | assumption | simp) (by first | assumption | omega | (simp only [next_pt,next_pu,lock_pt,lock_pu]; omega)) (by first | (simp -implicitDefEqProofs only [TT,Ic.t,Ic.ci,Nat.reduceEqDiff,reduceIte,Nat.reduceAdd,Nat.reduceMul,Nat.reduceLT,Nat.reduceLeDiff,Nat.reduceSub,reduceCtorEq,Int.reduceEq,Int.reduceNe,Int.reduceToNat,Int.reduceLT,Int.reduceLE,Int.reduceNeg,hl,eq_true c1,bytesL_len,f2,uh0q4,g0q4,g3q4,htq4,hcq4,uh0q6,g3q6,htq6,hcq6,g7q8,htq8,hcq8,CL,LTN]; done) | (simp -implicitDefEqProofs only [TT,Ic.t,Ic.ci,Nat.reduceEqDiff,reduceIte,Nat.reduceAdd,Nat.reduceMul,Nat.reduceLT,Nat.reduceLeDiff,Nat.reduceSub,reduceCtorEq,Int.reduceEq,Int.reduceNe,Int.reduceToNat,Int.reduceLT,Int.reduceLE,Int.reduceNeg,hl,eq_true c1,bytesL_len,f2,uh0q4,g0q4,g3q4,htq4,hcq4,uh0q6,g3q6,htq6,hcq6,g7q8,htq8,hcq8,CL,LTN]; rfl)) (by first | assumption | omega | (simp only [next_pt,next_pu,lock_pt,lock_pu]; omega)) _ ?_
    intro frq10 tkq10 τq10 u0q10 uh0q10 u1q10 uh1q10 g9q10 htq10 hcq10
    have hcq10 := cut_via (n := τ.next + 1) hcq10 (by first | omega | (simp only [next_pt,next_pu]; omega))
    try simp only [List.take_succ_cons,List.take_zero,List.take_nil,CL] at htq10
    try simp -implicitDefEqProofs only [TT,Ic.t,Ic.ci,Nat.reduceEqDiff,reduceIte,Nat.reduceAdd,Nat.reduceMul,Nat.reduceLT,Nat.reduceLeDiff,Nat.reduceSub,reduceCtorEq,Int.reduceEq,Int.reduceNe,Int.reduceToNat,Int.reduceLT,Int.reduceLE,Int.reduceNeg,hl,eq_true c1,bytesL_len,f2,uh0q4,g0q4,g3q4,htq4,hcq4,uh0q6,g3q6,htq6,hcq6,g7q8,htq8,hcq8,CL,LTN] at hcq10
    injection h with h; subst h
    simp -implicitDefEqProofs only [U_handselref01_Sum,TT,Ic.t,Ic.ci,Nat.reduceEqDiff,reduceIte,Nat.reduceAdd,Nat.reduceMul,Nat.reduceLT,Nat.reduceLeDiff,Nat.reduceSub,reduceCtorEq,Int.reduceEq,Int.reduceNe,Int.reduceToNat,Int.reduceLT,Int.reduceLE,Int.reduceNeg,hl,eq_true c1,bytesL_len,f2,uh0q4,g0q4,g3q4,htq4,hcq4,uh0q6,g3q6,htq6,hcq6,g7q8,htq8,hcq8,uh1q10,g9q10,htq10,hcq10,CL,LTN]
    exact hK
  rw [if_neg c1] at h
  obtain ⟨c11,h⟩ := ifS h
  have f12 : 1 ≤ maxLen := by unfold maxLen; omega
  have f13 : p1.size + 1 ≤ maxLen := by unfold maxLen; omega
  have f14 : ((List.map (TV.int .u8) (bytesL p1)).all fun e => e.cells.length == 1) = true := allc (fun _ => rfl) _
  have f15 : List.map (TV.int .u8) (bytesL p1) ++ List.map (TV.int .u8) [(128 : Int)] = List.map (TV.int .u8) ((bytesL p1) ++ [(128 : Int)]) := appn _ _
  try simp only [CL,List.map_cons,List.map_nil] at f15
  obtain ⟨y16,hy16,h⟩ := ob h
  simp -implicitDefEqProofs only [U_handselref01_Sum,TT,Ic.t,Ic.ci,Nat.reduceEqDiff,reduceIte,Nat.reduceAdd,Nat.reduceMul,Nat.reduceLT,Nat.reduceLeDiff,Nat.reduceSub,reduceCtorEq,Int.reduceEq,Int.reduceNe,Int.reduceToNat,Int.reduceLT,Int.reduceLE,Int.reduceNeg,hl,c1,bytesL_len,c11,f12,f13,f14,f15,CL,LTN]
  have Sy16 := handselref01_Sum_f_l1_s p1 ((bytesL p1) ++ [(128 : Int)]) y16 hy16
  unfold handselref01_Sum_f_l1_P at Sy16
  refine Sy16 _ (p1.size + 1) T_uint8 (by first | rfl | simp [bytesL_len]) (by first | exact Or.inl rfl | exact Or.inr rfl | assumption | simp) (by first | assumption | omega | (simp only [next_pt,next_pu,lock_pt,lock_pu]; omega)) _ ?_
  intro frq17 tkq17 τq17 u0q17 uh0q17 g0q17 g3q17 htq17 hcq17
  have hcq17 := cut_via (n := τ.next) hcq17 (by first | omega | (simp only [next_pt,next_pu]; omega))
  try simp only [List.take_succ_cons,List.take_zero,List.take_nil,CL] at htq17
  try simp -implicitDefEqProofs only [TT,Ic.t,Ic.ci,Nat.reduceEqDiff,reduceIte,Nat.reduceAdd,Nat.reduceMul,Nat.reduceLT,Nat.reduceLeDiff,Nat.reduceSub,reduceCtorEq,Int.reduceEq,Int.reduceNe,Int.reduceToNat,Int.reduceLT,Int.reduceLE,Int.reduceNeg,hl,c1,bytesL_len,c11,f12,f13,f14,f15,CL,LTN] at hcq17
  obtain ⟨y18,hy18,h⟩ := ob h
  simp -implicitDefEqProofs only [U_handselref01_Sum,TT,Ic.t,Ic.ci,Nat.reduceEqDiff,reduceIte,Nat.reduceAdd,Nat.reduceMul,Nat.reduceLT,Nat.reduceLeDiff,Nat.reduceSub,reduceCtorEq,Int.reduceEq,Int.reduceNe,Int.reduceToNat,Int.reduceLT,Int.reduceLE,Int.reduceNeg,hl,c1,bytesL_len,c11,f12,f13,f14,f15,uh0q17,g0q17,g3q17,htq17,hcq17,CL,LTN]
  have Sy18 := handselref01_Sum_f_l2_s (IntKind.u64.wrap ((IntKind.u64.wrap ((p1.size : Nat) : Int)) * (8 : Int))) y16 (0 : Int) y18 hy18
  unfold handselref01_Sum_f_l2_P at Sy18
  refine Sy18 _ y16.length u0q17 (by first | rfl | simp [bytesL_len]) (by first | exact Or.inl rfl | exact Or.inr rfl | assumption | simp) (by first | assumption | omega | (simp only [next_pt,next_pu,lock_pt,lock_pu]; omega)) _ ?_
  intro frq19 tkq19 τq19 u0q19 uh0q19 g3q19 htq19 hcq19
  have hcq19 := cut_via (n := τ.next) hcq19 (by first | omega | (simp only [next_pt,next_pu]; omega))
  try simp only [List.take_succ_cons,List.take_zero,List.take_nil,CL] at htq19
  try simp -implicitDefEqProofs only [TT,Ic.t,Ic.ci,Nat.reduceEqDiff,reduceIte,Nat.reduceAdd,Nat.reduceMul,Nat.reduceLT,Nat.reduceLeDiff,Nat.reduceSub,reduceCtorEq,Int.reduceEq,Int.reduceNe,Int.reduceToNat,Int.reduceLT,Int.reduceLE,Int.reduceNeg,hl,c1,bytesL_len,c11,f12,f13,f14,f15,uh0q17,g0q17,g3q17,htq17,hcq17,CL,LTN] at hcq19
  obtain ⟨y20,hy20,h⟩ := ob h
  simp -implicitDefEqProofs only [U_handselref01_Sum,TT,Ic.t,Ic.ci,Nat.reduceEqDiff,reduceIte,Nat.reduceAdd,Nat.reduceMul,Nat.reduceLT,Nat.reduceLeDiff,Nat.reduceSub,reduceCtorEq,Int.reduceEq,Int.reduceNe,Int.reduceToNat,Int.reduceLT,Int.reduceLE,Int.reduceNeg,hl,c1,bytesL_len,c11,f12,f13,f14,f15,uh0q17,g0q17,g3q17,htq17,hcq17,uh0q19,g3q19,htq19,hcq19,CL,LTN]
  have Sy20 := handselref01_Sum_f_l3_s (strL y18) [(1779033703 : Int),(3144134277 : Int),(1013904242 : Int),(2773480762 : Int),(1359893119 : Int),(2600822924 : Int),(528734635 : Int),(1541459225 : Int)] (0 : Int) y20 hy20
  unfold handselref01_Sum_f_l3_P at Sy20
  refine Sy20 _ τ.next _ (by first | assumption | omega | (simp only [next_pt,next_pu,lock_pt,lock_pu]; omega)) (by first | (simp -implicitDefEqProofs only [TT,Ic.t,Ic.ci,Nat.reduceEqDiff,reduceIte,Nat.reduceAdd,Nat.reduceMul,Nat.reduceLT,Nat.reduceLeDiff,Nat.reduceSub,reduceCtorEq,Int.reduceEq,Int.reduceNe,Int.reduceToNat,Int.reduceLT,Int.reduceLE,Int.reduceNeg,hl,c1,bytesL_len,c11,f12,f13,f14,f15,uh0q17,g0q17,g3q17,htq17,hcq17,uh0q19,g3q19,htq19,hcq19,CL,LTN]; done) | (simp -implicitDefEqProofs only [TT,Ic.t,Ic.ci,Nat.reduceEqDiff,reduceIte,Nat.reduceAdd,Nat.reduceMul,Nat.reduceLT,Nat.reduceLeDiff,Nat.reduceSub,reduceCtorEq,Int.reduceEq,Int.reduceNe,Int.reduceToNat,Int.reduceLT,Int.reduceLE,Int.reduceNeg,hl,c1,bytesL_len,c11,f12,f13,f14,f15,uh0q17,g0q17,g3q17,htq17,hcq17,uh0q19,g3q19,htq19,hcq19,CL,LTN]; rfl)) (by first | assumption | omega | (simp only [next_pt,next_pu,lock_pt,lock_pu]; omega)) (by first | assumption | omega | (simp only [next_pt,next_pu,lock_pt,lock_pu]; omega)) _ ?_
  intro frq21 tkq21 τq21 u0q21 uh0q21 g7q21 htq21 hcq21
  have hcq21 := cut_via (n := τ.next + 1) hcq21 (by first | omega | (simp only [next_pt,next_pu]; omega))
  try simp only [List.take_succ_cons,List.take_zero,List.take_nil,CL] at htq21
  try simp -implicitDefEqProofs only [TT,Ic.t,Ic.ci,Nat.reduceEqDiff,reduceIte,Nat.reduceAdd,Nat.reduceMul,Nat.reduceLT,Nat.reduceLeDiff,Nat.reduceSub,reduceCtorEq,Int.reduceEq,Int.reduceNe,Int.reduceToNat,Int.reduceLT,Int.reduceLE,Int.reduceNeg,hl,c1,bytesL_len,c11,f12,f13,f14,f15,uh0q17,g0q17,g3q17,htq17,hcq17,uh0q19,g3q19,htq19,hcq19,CL,LTN] at hcq21
  obtain ⟨y22,hy22,h⟩ := ob h
  simp -implicitDefEqProofs only [U_handselref01_Sum,TT,Ic.t,Ic.ci,Nat.reduceEqDiff,reduceIte,Nat.reduceAdd,Nat.reduceMul,Nat.reduceLT,Nat.reduceLeDiff,Nat.reduceSub,reduceCtorEq,Int.reduceEq,Int.reduceNe,Int.reduceToNat,Int.reduceLT,Int.reduceLE,Int.reduceNeg,hl,c1,bytesL_len,c11,f12,f13,f14,f15,uh0q17,g0q17,g3q17,htq17,hcq17,uh0q19,g3q19,htq19,hcq19,g7q21,htq21,hcq21,CL,LTN]
  have Sy22 := handselref01_Sum_f_l4_s y20 [] (0 : Int) y22 hy22
  unfold handselref01_Sum_f_l4_P at Sy22
  refine Sy22 _ τ.next _ 0 0 (by first | rfl | simp [bytesL_len]) (by first | exact Or.inl rfl | exact Or.inr rfl | assumption | simp) (by first | assumption | omega | (simp only [next_pt,next_pu,lock_pt,lock_pu]; omega)) (by first | (simp -implicitDefEqProofs only [TT,Ic.t,Ic.ci,Nat.reduceEqDiff,reduceIte,Nat.reduceAdd,Nat.reduceMul,Nat.reduceLT,Nat.reduceLeDiff,Nat.reduceSub,reduceCtorEq,Int.reduceEq,Int.reduceNe,Int.reduceToNat,Int.reduceLT,Int.reduceLE,Int.reduceNeg,hl,c1,bytesL_len,c11,f12,f13,f14,f15,uh0q17,g0q17,g3q17,htq17,hcq17,uh0q19,g3q19,htq19,hcq19,g7q21,htq21,hcq21,CL,LTN]; done) | (simp -implicitDefEqProofs only [TT,Ic.t,Ic.ci,Nat.reduceEqDiff,reduceIte,Nat.reduceAdd,Nat.reduceMul,Nat.reduceLT,Nat.reduceLeDiff,Nat.reduceSub,reduceCtorEq,Int.reduceEq,Int.reduceNe,Int.reduceToNat,Int.reduceLT,Int.reduceLE,Int.reduceNeg,hl,c1,bytesL_len,c11,f12,f13,f14,f15,uh0q17,g0q17,g3q17,htq17,hcq17,uh0q19,g3q19,htq19,hcq19,g7q21,htq21,hcq21,CL,LTN]; rfl)) (by first | assumption | omega | (simp only [next_pt,next_pu,lock_pt,lock_pu]; omega)) _ ?_
  intro frq23 tkq23 τq23 u0q23 uh0q23 u1q23 uh1q23 g9q23 htq23 hcq23
  have hcq23 := cut_via (n := τ.next + 1) hcq23 (by first | omega | (simp only [next_pt,next_pu]; omega))
  try simp only [List.take_succ_cons,List.take_zero,List.take_nil,CL] at htq23
  try simp -implicitDefEqProofs only [TT,Ic.t,Ic.ci,Nat.reduceEqDiff,reduceIte,Nat.reduceAdd,Nat.reduceMul,Nat.reduceLT,Nat.reduceLeDiff,Nat.reduceSub,reduceCtorEq,Int.reduceEq,Int.reduceNe,Int.reduceToNat,Int.reduceLT,Int.reduceLE,Int.reduceNeg,hl,c1,bytesL_len,c11,f12,f13,f14,f15,uh0q17,g0q17,g3q17,htq17,hcq17,uh0q19,g3q19,htq19,hcq19,g7q21,htq21,hcq21,CL,LTN] at hcq23
  injection h with h; subst h
  simp -implicitDefEqProofs only [U_handselref01_Sum,TT,Ic.t,Ic.ci,Nat.reduceEqDiff,reduceIte,Nat.reduceAdd,Nat.reduceMul,Nat.reduceLT,Nat.reduceLeDiff,Nat.reduceSub,reduceCtorEq,Int.reduceEq,Int.reduceNe,Int.reduceToNat,Int.reduceLT,Int.reduceLE,Int.reduceNeg,hl,c1,bytesL_len,c11,f12,f13,f14,f15,uh0q17,g0q17,g3q17,htq17,hcq17,uh0q19,g3q19,htq19,hcq19,g7q21,htq21,hcq21,uh1q23,g9q23,htq23,hcq23,CL,LTN]
  exact hK
theorem handselref01_Sum_f_k (p1 : ByteArray) (r : ByteArray) (h : handselref01_Sum_f p1 = some r) (lk : Bool) (d : Option Nat) (K : TCont) (fr : TF) (tk : TK) (τ : TH) (hl : τ.lock ≤ τ.next) : callK G lk F_handselref01_Sum [.str p1] d K fr tk τ = K (tput fr d (.str r)) tk τ :=
  callK_rdo (handselref01_Sum_f_s p1 r h τ  hl) (handselref01_Sum_f_s p1 r h (τ.locked τ.next)  (Nat.le_refl _) ) (by simp -implicitDefEqProofs only [TT,Ic.t,Ic.ci,Nat.reduceEqDiff,reduceIte,Nat.reduceAdd,Nat.reduceMul,Nat.reduceLT,Nat.reduceLeDiff,Nat.reduceSub,reduceCtorEq,Int.reduceEq,Int.reduceNe,Int.reduceToNat,Int.reduceLT,Int.reduceLE,Int.reduceNeg,hl,CL,LTN])
noncomputable def handselref01_Hex_f_l1_step (v0 : ByteArray) (v1 : (List Int)) (v2 : Int) : Option (LS ((List Int) × Int) ((List Int))) :=
  if v2 < ((v0.size : Nat) : Int) then
    ixB v0 v2 >>= fun b2 =>
    ixB (⟨#[48,49,50,51,52,53,54,55,56,57,97,98,99,100,101,102]⟩ : ByteArray) (Int.fdiv b2 (2 ^ (Nat.min 4 IntKind.u8.bits))) >>= fun b4 =>
    ixB (⟨#[48,49,50,51,52,53,54,55,56,57,97,98,99,100,101,102]⟩ : ByteArray) (IntKind.u8.wrap ((BitVec.ofInt IntKind.u8.bits b2 &&& BitVec.ofInt IntKind.u8.bits (15 : Int)).toNat : Int)) >>= fun b6 =>
    if v1.length ≤ 140737488355326 then
      some (.nx ((v1 ++ [b4,b6]),(IntKind.i64.wrap (v2 + (1 : Int)))))
    else
      none
  else
  some (.dn v1)
noncomputable def handselref01_Hex_f_l1 (v0 : ByteArray) (v1 : (List Int)) (v2 : Int) : Option ((List Int)) := iterO (fun st => handselref01_Hex_f_l1_step v0 st.1 st.2) (v1,v2)
theorem handselref01_Hex_f_l1_eq (v0 : ByteArray) (v1 : (List Int)) (v2 : Int) : handselref01_Hex_f_l1 v0 v1 v2 = handselref01_Hex_f_l1_step v0 v1 v2 >>= LS.go (fun st => handselref01_Hex_f_l1 v0 st.1 st.2) := iterO_eq (fun st => handselref01_Hex_f_l1_step v0 st.1 st.2) (v1,v2)
def handselref01_Hex_f_l1_P (v0 : ByteArray) (v1 : (List Int)) (v2 : Int) (r : (List Int)) : Prop := ∀ (τ : TH) (n0 : Nat) (ty0 : TypeId) (hnn0 : n0 = v1.length) (hty0 : n0 = 0 ∨ ty0 = T_uint8) (hl : τ.lock ≤ τ.next) (Q : TEx → TCont) (hQ0 : ∀ (fr : TF) (tk2 : TK) (τ2 : TH),∀ (u0 : TypeId),(r.length = 0 ∨ u0 = T_uint8) → lkp fr 3 = .sla 0 (List.map (TV.int .u8) r) → tk2.take 1 = [some (r.length,u0)] → τ2.cut τ.next = τ → Q (.exit 0) fr tk2 τ2) ,tW G (.loop [0,3,4] l_handselref01_Hex_1) Q [(0,.str v0),(3,.sla 0 (List.map (TV.int .u8) v1)),(4,.int .i64 v2)] [some (n0,ty0)] τ
theorem handselref01_Hex_f_l1_s (v0 : ByteArray) (v1 : (List Int)) (v2 : Int) (r : (List Int)) (h : handselref01_Hex_f_l1 v0 v1 v2 = some r) : handselref01_Hex_f_l1_P v0 v1 v2 r := by
  refine iterO_ind (f := fun st => handselref01_Hex_f_l1_step v0 st.1 st.2) (P := fun st r => ∀ (v1 : (List Int)) (v2 : Int),(v1,v2) = st → handselref01_Hex_f_l1_P v0 v1 v2 r) ?_ h v1 v2 rfl
  clear h r v2 v1
  intro st o h r ih v1 v2 hst τ  n0 ty0 hnn0 hty0 hl Q hQ0
  subst hst
  have h : handselref01_Hex_f_l1_step v0 v1 v2 = some o := h
  unfold handselref01_Hex_f_l1_step at h
  subst hnn0
  refine tW_lp fun LQ hn hr he => ?_
  by_cases c1 : v2 < ((v0.size : Nat) : Int)
  · rw [if_pos c1] at h
    obtain ⟨b2,hb2,h⟩ := ob h
    have f3 := ixB_facts hb2
    try simp only [CL,MC,Int.reduceToNat] at f3
    obtain ⟨b4,hb4,h⟩ := ob h
    have f5 := ixB_facts hb4
    try simp only [CL,MC,Int.reduceToNat] at f5
    obtain ⟨b6,hb6,h⟩ := ob h
    have f7 := ixB_facts hb6
    try simp only [CL,MC,Int.reduceToNat] at f7
    obtain ⟨c8,h⟩ := ifS h
    have f9 : 2 ≤ maxLen := by unfold maxLen; omega
    have f10 : v1.length + 2 ≤ maxLen := by unfold maxLen; omega
    have f11 : ((List.map (TV.int .u8) v1).all fun e => e.cells.length == 1) = true := allc (fun _ => rfl) _
    have f12 : List.map (TV.int .u8) v1 ++ List.map (TV.int .u8) [b4,b6] = List.map (TV.int .u8) (v1 ++ [b4,b6]) := appn _ _
    try simp only [CL,List.map_cons,List.map_nil] at f12
    injection h with h; subst h
    have ih := ih (v1 ++ [b4,b6]) (IntKind.i64.wrap (v2 + (1 : Int))) rfl
    unfold handselref01_Hex_f_l1_P at ih
    simp -implicitDefEqProofs only [l_handselref01_Hex_1,U_handselref01_Hex,TT,Ic.t,Ic.ci,Nat.reduceEqDiff,reduceIte,Nat.reduceAdd,Nat.reduceMul,Nat.reduceLT,Nat.reduceLeDiff,Nat.reduceSub,reduceCtorEq,Int.reduceEq,Int.reduceNe,Int.reduceToNat,Int.reduceLT,Int.reduceLE,Int.reduceNeg,hl,hty0,c1,f3.1,f3.2.1,f3.2.2,f5.1,f5.2.1,f5.2.2,f7.1,f7.2.1,f7.2.2,c8,f9,f10,f11,f12,CL,LTN]
    rw [hn]
    simp -implicitDefEqProofs only [TT,Ic.t,Ic.ci,Nat.reduceEqDiff,reduceIte,Nat.reduceAdd,Nat.reduceMul,Nat.reduceLT,Nat.reduceLeDiff,Nat.reduceSub,reduceCtorEq,Int.reduceEq,Int.reduceNe,Int.reduceToNat,Int.reduceLT,Int.reduceLE,Int.reduceNeg,hl,hty0,c1,f3.1,f3.2.1,f3.2.2,f5.1,f5.2.1,f5.2.2,f7.1,f7.2.1,f7.2.2,c8,f9,f10,f11,f12,CL,LTN]
    exact ih  τ   (v1.length + 2) T_uint8 (by first | rfl | simp [bytesL_len]) (by first | exact hty0 | exact Or.inr rfl | simp) (by first | assumption | (simp only [next_pt,lock_pt]; assumption)) Q hQ0
  rw [if_neg c1] at h
  injection h with h; subst h
  obtain rfl : _ = r := ih
  simp -implicitDefEqProofs only [l_handselref01_Hex_1,U_handselref01_Hex,TT,Ic.t,Ic.ci,Nat.reduceEqDiff,reduceIte,Nat.reduceAdd,Nat.reduceMul,Nat.reduceLT,Nat.reduceLeDiff,Nat.reduceSub,reduceCtorEq,Int.reduceEq,Int.reduceNe,Int.reduceToNat,Int.reduceLT,Int.reduceLE,Int.reduceNeg,hl,hty0,he,hr,c1,CL,LTN]
  exact hQ0  _ _ _ ty0 (by first | exact hty0 | exact Or.inr rfl | simp) (by first | rfl | (simp -implicitDefEqProofs only [TT,Ic.t,Ic.ci,Nat.reduceEqDiff,reduceIte,Nat.reduceAdd,Nat.reduceMul,Nat.reduceLT,Nat.reduceLeDiff,Nat.reduceSub,reduceCtorEq,Int.reduceEq,Int.reduceNe,Int.reduceToNat,Int.reduceLT,Int.reduceLE,Int.reduceNeg,hl,hty0,c1,CL,LTN])) (by first | rfl | (simp -implicitDefEqProofs only [TT,Ic.t,Ic.ci,Nat.reduceEqDiff,reduceIte,Nat.reduceAdd,Nat.reduceMul,Nat.reduceLT,Nat.reduceLeDiff,Nat.reduceSub,reduceCtorEq,Int.reduceEq,Int.reduceNe,Int.reduceToNat,Int.reduceLT,Int.reduceLE,Int.reduceNeg,hl,hty0,c1,CL,LTN])) (by first | exact cut_ge (Nat.le_refl _) | (simp -implicitDefEqProofs only [TT,Ic.t,Ic.ci,Nat.reduceEqDiff,reduceIte,Nat.reduceAdd,Nat.reduceMul,Nat.reduceLT,Nat.reduceLeDiff,Nat.reduceSub,reduceCtorEq,Int.reduceEq,Int.reduceNe,Int.reduceToNat,Int.reduceLT,Int.reduceLE,Int.reduceNeg,hl,hty0,c1,CL,LTN]))
noncomputable def handselref01_Hex_f (p1 : ByteArray) : Option ByteArray :=
  handselref01_Hex_f_l1 p1 [] (0 : Int) >>= fun y1 =>
  some (strL y1)
theorem handselref01_Hex_f_s (p1 : ByteArray) (r : ByteArray) (h : handselref01_Hex_f p1 = some r) (τ : TH) (hl : τ.lock ≤ τ.next) : Ru G F_handselref01_Hex [.str p1] τ (.str r) τ := by
  refine Ru_of fun K hK => ?_
  rw [tC_code g_handselref01_Hex (Nat.le_of_ble_eq_true rfl)]
  unfold handselref01_Hex_f at h
  obtain ⟨y1,hy1,h⟩ := ob h
  simp -implicitDefEqProofs only [U_handselref01_Hex,TT,Ic.t,Ic.ci,Nat.reduceEqDiff,reduceIte,Nat.reduceAdd,Nat.reduceMul,Nat.reduceLT,Nat.reduceLeDiff,Nat.reduceSub,reduceCtorEq,Int.reduceEq,Int.reduceNe,Int.reduceToNat,Int.reduceLT,Int.reduceLE,Int.reduceNeg,hl,CL,LTN]
  have Sy1 := handselref01_Hex_f_l1_s p1 [] (0 : Int) y1 hy1
  unfold handselref01_Hex_f_l1_P at Sy1
  refine Sy1 _ 0 0 (by first | rfl | simp [bytesL_len]) (by first | exact Or.inl rfl | exact Or.inr rfl | assumption | simp) (by first | assumption | omega | (simp only [next_pt,next_pu,lock_pt,lock_pu]; omega)) _ ?_
  intro frq2 tkq2 τq2 u0q2 uh0q2 g3q2 htq2 hcq2
  have hcq2 := cut_via (n := τ.next) hcq2 (by first | omega | (simp only [next_pt,next_pu]; omega))
  try simp only [List.take_succ_cons,List.take_zero,List.take_nil,CL] at htq2
  try simp -implicitDefEqProofs only [TT,Ic.t,Ic.ci,Nat.reduceEqDiff,reduceIte,Nat.reduceAdd,Nat.reduceMul,Nat.reduceLT,Nat.reduceLeDiff,Nat.reduceSub,reduceCtorEq,Int.reduceEq,Int.reduceNe,Int.reduceToNat,Int.reduceLT,Int.reduceLE,Int.reduceNeg,hl,CL,LTN] at hcq2
  injection h with h; subst h
  simp -implicitDefEqProofs only [U_handselref01_Hex,TT,Ic.t,Ic.ci,Nat.reduceEqDiff,reduceIte,Nat.reduceAdd,Nat.reduceMul,Nat.reduceLT,Nat.reduceLeDiff,Nat.reduceSub,reduceCtorEq,Int.reduceEq,Int.reduceNe,Int.reduceToNat,Int.reduceLT,Int.reduceLE,Int.reduceNeg,hl,uh0q2,g3q2,htq2,hcq2,CL,LTN]
  exact hK
theorem handselref01_Hex_f_k (p1 : ByteArray) (r : ByteArray) (h : handselref01_Hex_f p1 = some r) (lk : Bool) (d : Option Nat) (K : TCont) (fr : TF) (tk : TK) (τ : TH) (hl : τ.lock ≤ τ.next) : callK G lk F_handselref01_Hex [.str p1] d K fr tk τ = K (tput fr d (.str r)) tk τ :=
  callK_rdo (handselref01_Hex_f_s p1 r h τ  hl) (handselref01_Hex_f_s p1 r h (τ.locked τ.next)  (Nat.le_refl _) ) (by simp -implicitDefEqProofs only [TT,Ic.t,Ic.ci,Nat.reduceEqDiff,reduceIte,Nat.reduceAdd,Nat.reduceMul,Nat.reduceLT,Nat.reduceLeDiff,Nat.reduceSub,reduceCtorEq,Int.reduceEq,Int.reduceNe,Int.reduceToNat,Int.reduceLT,Int.reduceLE,Int.reduceNeg,hl,CL,LTN])
noncomputable def handsellaw01_ShaAll_f (p1 : ByteArray) : Option Bool :=
  if (3000 : Int) < ((p1.size : Nat) : Int) then
    handsellaw01_awake_f >>= fun y2 =>
    some y2
  else
  sha_Sum_f p1 >>= fun y4 =>
  handselref01_Sum_f p1 >>= fun y6 =>
  if y4 = y6 then
    if ((y4.size : Nat) : Int) = (32 : Int) then
      if 0 ≤ (16 : Int) ∧ (16 : Int) ≤ (y4.size : Int) then
        sha_Short_f p1 >>= fun y11 =>
        if y11 = (y4.extract 0 16) then
          sha_Hex_f p1 >>= fun y14 =>
          handselref01_Hex_f p1 >>= fun y16 =>
          if y14 = y16 then
            handsellaw01_awake_f >>= fun y19 =>
            some y19
          else
          some false
        else
        some false
      else
        none
    else
    some false
  else
  some false
theorem handsellaw01_ShaAll_f_s (p1 : ByteArray) (r : Bool) (h : handsellaw01_ShaAll_f p1 = some r) (τ : TH) (hl : τ.lock ≤ τ.next) : Ru G F_handsellaw01_ShaAll [.str p1] τ (.bool r) τ := by
  refine Ru_of fun K hK => ?_
  rw [tC_code g_handsellaw01_ShaAll (Nat.le_of_ble_eq_true rfl)]
  unfold handsellaw01_ShaAll_f at h
  by_cases c1 : (3000 : Int) < ((p1.size : Nat) : Int)
  · rw [if_pos c1] at h
    obtain ⟨y2,hy2,h⟩ := ob h
    have k3 := handsellaw01_awake_f_k  _ hy2
    try simp only [CL,MC,Int.reduceToNat] at k3
    injection h with h; subst h
    simp -implicitDefEqProofs only [U_handsellaw01_ShaAll,TT,Ic.t,Ic.ci,Nat.reduceEqDiff,reduceIte,Nat.reduceAdd,Nat.reduceMul,Nat.reduceLT,Nat.reduceLeDiff,Nat.reduceSub,reduceCtorEq,Int.reduceEq,Int.reduceNe,Int.reduceToNat,Int.reduceLT,Int.reduceLE,Int.reduceNeg,hl,c1,k3,CL,LTN]
    exact hK
  rw [if_neg c1] at h
  obtain ⟨y4,hy4,h⟩ := ob h
  have k5 := sha_Sum_f_k p1 _ hy4
  try simp only [CL,MC,Int.reduceToNat] at k5
  obtain ⟨y6,hy6,h⟩ := ob h
  have k7 := handselref01_Sum_f_k p1 _ hy6
  try simp only [CL,MC,Int.reduceToNat] at k7
  by_cases c8 : y4 = y6
  · rw [if_pos c8] at h
    by_cases c9 : ((y4.size : Nat) : Int) = (32 : Int)
    · rw [if_pos c9] at h
      obtain ⟨c10,h⟩ := ifS h
      obtain ⟨y11,hy11,h⟩ := ob h
      have k12 := sha_Short_f_k p1 _ hy11
      try simp only [CL,MC,Int.reduceToNat] at k12
      by_cases c13 : y11 = (y4.extract 0 16)
      · rw [if_pos c13] at h
        obtain ⟨y14,hy14,h⟩ := ob h
        have k15 := sha_Hex_f_k p1 _ hy14
        try simp only [CL,MC,Int.reduceToNat] at k15
        obtain ⟨y16,hy16,h⟩ := ob h
        have k17 := handselref01_Hex_f_k p1 _ hy16
        try simp only [CL,MC,Int.reduceToNat] at k17
        by_cases c18 : y14 = y16
        · rw [if_pos c18] at h
          obtain ⟨y19,hy19,h⟩ := ob h
          have k20 := handsellaw01_awake_f_k  _ hy19
          try simp only [CL,MC,Int.reduceToNat] at k20
          injection h with h; subst h
          simp -implicitDefEqProofs only [U_handsellaw01_ShaAll,TT,Ic.t,Ic.ci,Nat.reduceEqDiff,reduceIte,Nat.reduceAdd,Nat.reduceMul,Nat.reduceLT,Nat.reduceLeDiff,Nat.reduceSub,reduceCtorEq,Int.reduceEq,Int.reduceNe,Int.reduceToNat,Int.reduceLT,Int.reduceLE,Int.reduceNeg,hl,c1,k5,k7,eq_true c8,eq_true c9,c10,k12,eq_true c13,k15,k17,eq_true c18,k20,CL,LTN]
          exact hK
        rw [if_neg c18] at h
        injection h with h; subst h
        simp -implicitDefEqProofs only [U_handsellaw01_ShaAll,TT,Ic.t,Ic.ci,Nat.reduceEqDiff,reduceIte,Nat.reduceAdd,Nat.reduceMul,Nat.reduceLT,Nat.reduceLeDiff,Nat.reduceSub,reduceCtorEq,Int.reduceEq,Int.reduceNe,Int.reduceToNat,Int.reduceLT,Int.reduceLE,Int.reduceNeg,hl,c1,k5,k7,eq_true c8,eq_true c9,c10,k12,eq_true c13,k15,k17,c18,CL,LTN]
        exact hK
      rw [if_neg c13] at h
      injection h with h; subst h
      simp -implicitDefEqProofs only [U_handsellaw01_ShaAll,TT,Ic.t,Ic.ci,Nat.reduceEqDiff,reduceIte,Nat.reduceAdd,Nat.reduceMul,Nat.reduceLT,Nat.reduceLeDiff,Nat.reduceSub,reduceCtorEq,Int.reduceEq,Int.reduceNe,Int.reduceToNat,Int.reduceLT,Int.reduceLE,Int.reduceNeg,hl,c1,k5,k7,eq_true c8,eq_true c9,c10,k12,c13,CL,LTN]
      exact hK
    rw [if_neg c9] at h
    injection h with h; subst h
    simp -implicitDefEqProofs only [U_handsellaw01_ShaAll,TT,Ic.t,Ic.ci,Nat.reduceEqDiff,reduceIte,Nat.reduceAdd,Nat.reduceMul,Nat.reduceLT,Nat.reduceLeDiff,Nat.reduceSub,reduceCtorEq,Int.reduceEq,Int.reduceNe,Int.reduceToNat,Int.reduceLT,Int.reduceLE,Int.reduceNeg,hl,c1,k5,k7,eq_true c8,c9,CL,LTN]
    exact hK
  rw [if_neg c8] at h
  injection h with h; subst h
  simp -implicitDefEqProofs only [U_handsellaw01_ShaAll,TT,Ic.t,Ic.ci,Nat.reduceEqDiff,reduceIte,Nat.reduceAdd,Nat.reduceMul,Nat.reduceLT,Nat.reduceLeDiff,Nat.reduceSub,reduceCtorEq,Int.reduceEq,Int.reduceNe,Int.reduceToNat,Int.reduceLT,Int.reduceLE,Int.reduceNeg,hl,c1,k5,k7,c8,CL,LTN]
  exact hK
theorem handsellaw01_ShaAll_f_k (p1 : ByteArray) (r : Bool) (h : handsellaw01_ShaAll_f p1 = some r) (lk : Bool) (d : Option Nat) (K : TCont) (fr : TF) (tk : TK) (τ : TH) (hl : τ.lock ≤ τ.next) : callK G lk F_handsellaw01_ShaAll [.str p1] d K fr tk τ = K (tput fr d (.bool r)) tk τ :=
  callK_rdo (handsellaw01_ShaAll_f_s p1 r h τ  hl) (handsellaw01_ShaAll_f_s p1 r h (τ.locked τ.next)  (Nat.le_refl _) ) (by simp -implicitDefEqProofs only [TT,Ic.t,Ic.ci,Nat.reduceEqDiff,reduceIte,Nat.reduceAdd,Nat.reduceMul,Nat.reduceLT,Nat.reduceLeDiff,Nat.reduceSub,reduceCtorEq,Int.reduceEq,Int.reduceNe,Int.reduceToNat,Int.reduceLT,Int.reduceLE,Int.reduceNeg,hl,CL,LTN])
noncomputable def handsellaw00_Place_f (p1 : Int) (p2 : Int) : Option Int :=
  if ¬ p2 = 0 then
    if (Int.tmod p1 p2) < (0 : Int) then
      some (IntKind.i64.wrap ((Int.tmod p1 p2) + p2))
    else
    some (Int.tmod p1 p2)
  else
    none
theorem handsellaw00_Place_f_s (p1 : Int) (p2 : Int) (r : Int) (h : handsellaw00_Place_f p1 p2 = some r) (τ : TH) (hl : τ.lock ≤ τ.next) : Ru G F_handsellaw00_Place [.int .i64 p1,.int .i64 p2] τ (.int .i64 r) τ := by
  refine Ru_of fun K hK => ?_
  rw [tC_code g_handsellaw00_Place (Nat.le_of_ble_eq_true rfl)]
  unfold handsellaw00_Place_f at h
  obtain ⟨c1,h⟩ := ifS h
  by_cases c2 : (Int.tmod p1 p2) < (0 : Int)
  · rw [if_pos c2] at h
    injection h with h; subst h
    simp -implicitDefEqProofs only [U_handsellaw00_Place,TT,Ic.t,Ic.ci,Nat.reduceEqDiff,reduceIte,Nat.reduceAdd,Nat.reduceMul,Nat.reduceLT,Nat.reduceLeDiff,Nat.reduceSub,reduceCtorEq,Int.reduceEq,Int.reduceNe,Int.reduceToNat,Int.reduceLT,Int.reduceLE,Int.reduceNeg,hl,c1,c2,CL,LTN]
    exact hK
  rw [if_neg c2] at h
  injection h with h; subst h
  simp -implicitDefEqProofs only [U_handsellaw00_Place,TT,Ic.t,Ic.ci,Nat.reduceEqDiff,reduceIte,Nat.reduceAdd,Nat.reduceMul,Nat.reduceLT,Nat.reduceLeDiff,Nat.reduceSub,reduceCtorEq,Int.reduceEq,Int.reduceNe,Int.reduceToNat,Int.reduceLT,Int.reduceLE,Int.reduceNeg,hl,c1,c2,CL,LTN]
  exact hK
theorem handsellaw00_Place_f_k (p1 : Int) (p2 : Int) (r : Int) (h : handsellaw00_Place_f p1 p2 = some r) (lk : Bool) (d : Option Nat) (K : TCont) (fr : TF) (tk : TK) (τ : TH) (hl : τ.lock ≤ τ.next) : callK G lk F_handsellaw00_Place [.int .i64 p1,.int .i64 p2] d K fr tk τ = K (tput fr d (.int .i64 r)) tk τ :=
  callK_rdo (handsellaw00_Place_f_s p1 p2 r h τ  hl) (handsellaw00_Place_f_s p1 p2 r h (τ.locked τ.next)  (Nat.le_refl _) ) (by simp -implicitDefEqProofs only [TT,Ic.t,Ic.ci,Nat.reduceEqDiff,reduceIte,Nat.reduceAdd,Nat.reduceMul,Nat.reduceLT,Nat.reduceLeDiff,Nat.reduceSub,reduceCtorEq,Int.reduceEq,Int.reduceNe,Int.reduceToNat,Int.reduceLT,Int.reduceLE,Int.reduceNeg,hl,CL,LTN])
noncomputable def handsellaw01_ShaKnown_f_l1_step (v1 : Nat) (v0 : (List Int)) (v2 : Int) : Option (LS ((List Int) × Int) ((List Int))) :=
  if v2 < ((v1 : Nat) : Int) then
    if 0 ≤ v2 ∧ v2 < (v1 : Int) then
      if v2.toNat + 1 ≤ v0.length then
        some (.nx ((v0.set v2.toNat (97 : Int)),(IntKind.i64.wrap (v2 + (1 : Int)))))
      else
        none
    else
      none
  else
  some (.dn v0)
noncomputable def handsellaw01_ShaKnown_f_l1 (v1 : Nat) (v0 : (List Int)) (v2 : Int) : Option ((List Int)) := iterO (fun st => handsellaw01_ShaKnown_f_l1_step v1 st.1 st.2) (v0,v2)
theorem handsellaw01_ShaKnown_f_l1_eq (v1 : Nat) (v0 : (List Int)) (v2 : Int) : handsellaw01_ShaKnown_f_l1 v1 v0 v2 = handsellaw01_ShaKnown_f_l1_step v1 v0 v2 >>= LS.go (fun st => handsellaw01_ShaKnown_f_l1 v1 st.1 st.2) := iterO_eq (fun st => handsellaw01_ShaKnown_f_l1_step v1 st.1 st.2) (v0,v2)
def handsellaw01_ShaKnown_f_l1_P (v1 : Nat) (v0 : (List Int)) (v2 : Int) (r : (List Int)) : Prop := ∀ (τ : TH) (o0 : Nat) (hl : τ.lock ≤ τ.next) (ha0 : τ.at o0 = some ⟨T_uint8,List.map (TV.int .u8) v0⟩) (hi0 : o0 < τ.next) (hw0 : τ.lock ≤ o0) (Q : TEx → TCont) (hQ0 : ∀ (fr : TF) (tk2 : TK) (τ2 : TH),lkp fr 4 = .slm o0 0 v1 1 → tk2.take 0 = [] → τ2.cut τ.next = (τ.put o0 ⟨T_uint8,List.map (TV.int .u8) r⟩) → Q (.exit 0) fr tk2 τ2) ,tW G (.loop [4,5] l_handsellaw01_ShaKnown_1) Q [(4,.slm o0 0 v1 1),(5,.int .i64 v2)] [] τ
theorem handsellaw01_ShaKnown_f_l1_s (v1 : Nat) (v0 : (List Int)) (v2 : Int) (r : (List Int)) (h : handsellaw01_ShaKnown_f_l1 v1 v0 v2 = some r) : handsellaw01_ShaKnown_f_l1_P v1 v0 v2 r := by
  refine iterO_ind (f := fun st => handsellaw01_ShaKnown_f_l1_step v1 st.1 st.2) (P := fun st r => ∀ (v0 : (List Int)) (v2 : Int),(v0,v2) = st → handsellaw01_ShaKnown_f_l1_P v1 v0 v2 r) ?_ h v0 v2 rfl
  clear h r v2 v0
  intro st o h r ih v0 v2 hst τ o0  hl ha0 hi0 hw0 Q hQ0
  subst hst
  have h : handsellaw01_ShaKnown_f_l1_step v1 v0 v2 = some o := h
  unfold handsellaw01_ShaKnown_f_l1_step at h
  refine tW_lp fun LQ hn hr he => ?_
  by_cases c1 : v2 < ((v1 : Nat) : Int)
  · rw [if_pos c1] at h
    obtain ⟨c2,h⟩ := ifS h
    obtain ⟨c3,h⟩ := ifS h
    have f4 : (List.map (TV.int .u8) v0).set v2.toNat (.int .u8 (97 : Int)) = List.map (TV.int .u8) (v0.set v2.toNat (97 : Int)) := setm (enc := (TV.int .u8)) _ _ _
    injection h with h; subst h
    have ih := ih (v0.set v2.toNat (97 : Int)) (IntKind.i64.wrap (v2 + (1 : Int))) rfl
    unfold handsellaw01_ShaKnown_f_l1_P at ih
    simp -implicitDefEqProofs only [l_handsellaw01_ShaKnown_1,U_handsellaw01_ShaKnown,TT,Ic.t,Ic.ci,Nat.reduceEqDiff,reduceIte,Nat.reduceAdd,Nat.reduceMul,Nat.reduceLT,Nat.reduceLeDiff,Nat.reduceSub,reduceCtorEq,Int.reduceEq,Int.reduceNe,Int.reduceToNat,Int.reduceLT,Int.reduceLE,Int.reduceNeg,hl,ha0,hi0,hw0,c1,c2,c3,f4,CL,LTN]
    rw [hn]
    simp -implicitDefEqProofs only [TT,Ic.t,Ic.ci,Nat.reduceEqDiff,reduceIte,Nat.reduceAdd,Nat.reduceMul,Nat.reduceLT,Nat.reduceLeDiff,Nat.reduceSub,reduceCtorEq,Int.reduceEq,Int.reduceNe,Int.reduceToNat,Int.reduceLT,Int.reduceLE,Int.reduceNeg,hl,ha0,hi0,hw0,c1,c2,c3,f4,CL,LTN]
    exact ih  (τ.put o0 ⟨T_uint8,List.map (TV.int .u8) (v0.set v2.toNat (97 : Int))⟩) o0   (by first | assumption | (simp only [next_pt,lock_pt]; assumption)) (by simp -implicitDefEqProofs only [TT,Ic.t,Ic.ci,Nat.reduceEqDiff,reduceIte,Nat.reduceAdd,Nat.reduceMul,Nat.reduceLT,Nat.reduceLeDiff,Nat.reduceSub,reduceCtorEq,Int.reduceEq,Int.reduceNe,Int.reduceToNat,Int.reduceLT,Int.reduceLE,Int.reduceNeg,hl,ha0,hi0,hw0,c1,c2,c3,f4,CL,LTN]) (by first | assumption | (simp only [next_pt,lock_pt]; assumption)) (by first | assumption | (simp only [next_pt,lock_pt]; assumption)) Q (fun fr tk2 τ2 g0 ht hτ => hQ0 fr tk2 τ2 g0 ht (by first | exact hτ | simpa only [next_pt,pt_pt,hl,ha0,hi0,hw0] using hτ))
  rw [if_neg c1] at h
  injection h with h; subst h
  obtain rfl : _ = r := ih
  simp -implicitDefEqProofs only [l_handsellaw01_ShaKnown_1,U_handsellaw01_ShaKnown,TT,Ic.t,Ic.ci,Nat.reduceEqDiff,reduceIte,Nat.reduceAdd,Nat.reduceMul,Nat.reduceLT,Nat.reduceLeDiff,Nat.reduceSub,reduceCtorEq,Int.reduceEq,Int.reduceNe,Int.reduceToNat,Int.reduceLT,Int.reduceLE,Int.reduceNeg,hl,ha0,hi0,hw0,he,hr,c1,CL,LTN]
  exact hQ0  _ _ _  (by first | rfl | (simp -implicitDefEqProofs only [TT,Ic.t,Ic.ci,Nat.reduceEqDiff,reduceIte,Nat.reduceAdd,Nat.reduceMul,Nat.reduceLT,Nat.reduceLeDiff,Nat.reduceSub,reduceCtorEq,Int.reduceEq,Int.reduceNe,Int.reduceToNat,Int.reduceLT,Int.reduceLE,Int.reduceNeg,hl,ha0,hi0,hw0,c1,CL,LTN])) (by first | rfl | (simp -implicitDefEqProofs only [TT,Ic.t,Ic.ci,Nat.reduceEqDiff,reduceIte,Nat.reduceAdd,Nat.reduceMul,Nat.reduceLT,Nat.reduceLeDiff,Nat.reduceSub,reduceCtorEq,Int.reduceEq,Int.reduceNe,Int.reduceToNat,Int.reduceLT,Int.reduceLE,Int.reduceNeg,hl,ha0,hi0,hw0,c1,CL,LTN])) (by first | exact cut_ge (Nat.le_refl _) | (simp -implicitDefEqProofs only [TT,Ic.t,Ic.ci,Nat.reduceEqDiff,reduceIte,Nat.reduceAdd,Nat.reduceMul,Nat.reduceLT,Nat.reduceLeDiff,Nat.reduceSub,reduceCtorEq,Int.reduceEq,Int.reduceNe,Int.reduceToNat,Int.reduceLT,Int.reduceLE,Int.reduceNeg,hl,ha0,hi0,hw0,put_same ha0,c1,CL,LTN]))
end Go.Proofs.Ytnimkejbeogciaa
