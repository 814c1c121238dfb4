/- Functions of numbers and lists, printed by a program of ours out of the code for the tree level, with their proofs. -/
import Derived.Test.YtnimkejbeogciaaD2
set_option linter.unusedVariables false
set_option linter.unusedSimpArgs false
set_option linter.unusedSectionVars false
namespace Go.Proofs.Ytnimkejbeogciaa
open Go Go.RowKit Sh Ic
noncomputable def handsellaw01_ShaKnown_f (p1 : Int) : Option Bool :=
  handsellaw00_Place_f p1 (5 : Int) >>= fun y1 =>
  if y1 = (4 : Int) then
    handsellaw01_ShaKnown_f_l1 1000000 (List.replicate 1000000 (0 : Int)) (0 : Int) >>= fun y6 =>
    if y6.length = 1000000 then
      sha_Sum_f (strL y6) >>= fun y11 =>
      sha_Hex_f y11 >>= fun y13 =>
      if y13 = (⟨#[99,100,99,55,54,101,53,99,57,57,49,52,102,98,57,50,56,49,97,49,99,55,101,50,56,52,100,55,51,101,54,55,102,49,56,48,57,97,52,56,97,52,57,55,50,48,48,101,48,52,54,100,51,57,99,99,99,55,49,49,50,99,100,48]⟩ : ByteArray) then
        handsellaw01_awake_f >>= fun y16 =>
        some y16
      else
      some false
    else
      none
  else
  if 0 ≤ y1 ∧ y1 < ((4 : Nat) : Int) then
    ixL [(⟨#[97,98,99,100,98,99,100,101,99,100,101,102,100,101,102,103,101,102,103,104,102,103,104,105,103,104,105,106,104,105,106,107,105,106,107,108,106,107,108,109,107,108,109,110,108,109,110,111,109,110,111,112,110,111,112,113]⟩ : ByteArray),(⟨#[97,98,99,100,101,102,103,104,98,99,100,101,102,103,104,105,99,100,101,102,103,104,105,106,100,101,102,103,104,105,106,107,101,102,103,104,105,106,107,108,102,103,104,105,106,107,108,109,103,104,105,106,107,108,109,110,104,105,106,107,108,109,110,111,105,106,107,108,109,110,111,112,106,107,108,109,110,111,112,113,107,108,109,110,111,112,113,114,108,109,110,111,112,113,114,115,109,110,111,112,113,114,115,116,110,111,112,113,114,115,116,117]⟩ : ByteArray),(⟨#[84,104,101,32,113,117,105,99,107,32,98,114,111,119,110,32,102,111,120,32,106,117,109,112,115,32,111,118,101,114,32,116,104,101,32,108,97,122,121,32,100,111,103]⟩ : ByteArray),(⟨#[97]⟩ : ByteArray)] y1 >>= fun y19 =>
    ixL [(⟨#[50,52,56,100,54,97,54,49,100,50,48,54,51,56,98,56,101,53,99,48,50,54,57,51,48,99,51,101,54,48,51,57,97,51,51,99,101,52,53,57,54,52,102,102,50,49,54,55,102,54,101,99,101,100,100,52,49,57,100,98,48,54,99,49]⟩ : ByteArray),(⟨#[99,102,53,98,49,54,97,55,55,56,97,102,56,51,56,48,48,51,54,99,101,53,57,101,55,98,48,52,57,50,51,55,48,98,50,52,57,98,49,49,101,56,102,48,55,97,53,49,97,102,97,99,52,53,48,51,55,97,102,101,101,57,100,49]⟩ : ByteArray),(⟨#[100,55,97,56,102,98,98,51,48,55,100,55,56,48,57,52,54,57,99,97,57,97,98,99,98,48,48,56,50,101,52,102,56,100,53,54,53,49,101,52,54,100,51,99,100,98,55,54,50,100,48,50,100,48,98,102,51,55,99,57,101,53,57,50]⟩ : ByteArray),(⟨#[99,97,57,55,56,49,49,50,99,97,49,98,98,100,99,97,102,97,99,50,51,49,98,51,57,97,50,51,100,99,52,100,97,55,56,54,101,102,102,56,49,52,55,99,52,101,55,50,98,57,56,48,55,55,56,53,97,102,101,101,52,56,98,98]⟩ : ByteArray)] y1 >>= fun y21 =>
    sha_Sum_f y19 >>= fun y23 =>
    sha_Hex_f y23 >>= fun y25 =>
    if y25 = y21 then
      handsellaw01_awake_f >>= fun y28 =>
      some y28
    else
    some false
  else
    none
theorem handsellaw01_ShaKnown_f_s (p1 : Int) (r : Bool) (h : handsellaw01_ShaKnown_f p1 = some r) (τ : TH) (hl : τ.lock ≤ τ.next) : Ru G F_handsellaw01_ShaKnown [.int .i64 p1] τ (.bool r) τ := by
  refine Ru_of fun K hK => ?_
  rw [tC_code g_handsellaw01_ShaKnown (Nat.le_of_ble_eq_true rfl)]
  unfold handsellaw01_ShaKnown_f at h
  obtain ⟨y1,hy1,h⟩ := ob h
  have k2 := handsellaw00_Place_f_k p1 (5 : Int) _ hy1
  try simp only [CL,MC,Int.reduceToNat] at k2
  by_cases c3 : y1 = (4 : Int)
  · rw [if_pos c3] at h
    have f4 : (1000000 : Int) * ((1 : Nat) : Int) ≤ 140737488355328 := by decide
    have f5 : (List.replicate 1000000 [.int .u8 (0 : Int)]).flatten = List.map (TV.int .u8) (List.replicate 1000000 (0 : Int)) := flat_rep (enc := (TV.int .u8)) _ _
    obtain ⟨y6,hy6,h⟩ := ob h
    simp -implicitDefEqProofs only [U_handsellaw01_ShaKnown,TT,Ic.t,Ic.ci,Nat.reduceEqDiff,reduceIte,Nat.reduceAdd,Nat.reduceMul,Nat.reduceLT,Nat.reduceLeDiff,Nat.reduceSub,reduceCtorEq,Int.reduceEq,Int.reduceNe,Int.reduceToNat,Int.reduceLT,Int.reduceLE,Int.reduceNeg,hl,k2,eq_true c3,f4,f5,CL,LTN]
    have Sy6 := handsellaw01_ShaKnown_f_l1_s 1000000 (List.replicate 1000000 (0 : Int)) (0 : Int) y6 hy6
    unfold handsellaw01_ShaKnown_f_l1_P at Sy6
    refine Sy6 _ τ.next (by first | assumption | omega | (simp only [next_pt,next_pu,lock_pt,lock_pu]; omega)) (by first | (simp -implicitDefEqProofs only [TT,Ic.t,Ic.ci,Nat.reduceEqDiff,reduceIte,Nat.reduceAdd,Nat.reduceMul,Nat.reduceLT,Nat.reduceLeDiff,Nat.reduceSub,reduceCtorEq,Int.reduceEq,Int.reduceNe,Int.reduceToNat,Int.reduceLT,Int.reduceLE,Int.reduceNeg,hl,k2,eq_true c3,f4,f5,CL,LTN]; done) | (simp -implicitDefEqProofs only [TT,Ic.t,Ic.ci,Nat.reduceEqDiff,reduceIte,Nat.reduceAdd,Nat.reduceMul,Nat.reduceLT,Nat.reduceLeDiff,Nat.reduceSub,reduceCtorEq,Int.reduceEq,Int.reduceNe,Int.reduceToNat,Int.reduceLT,Int.reduceLE,Int.reduceNeg,hl,k2,eq_true c3,f4,f5,CL,LTN]; rfl)) (by first | assumption | omega | (simp only [next_pt,next_pu,lock_pt,lock_pu]; omega)) (by first | assumption | omega | (simp only [next_pt,next_pu,lock_pt,lock_pu]; omega)) _ ?_
    intro frq7 tkq7 τq7 g4q7 htq7 hcq7
    have hcq7 := cut_via (n := τ.next + 1) hcq7 (by first | omega | (simp only [next_pt,next_pu]; omega))
    try simp only [List.take_succ_cons,List.take_zero,List.take_nil,CL] at htq7
    try simp -implicitDefEqProofs only [TT,Ic.t,Ic.ci,Nat.reduceEqDiff,reduceIte,Nat.reduceAdd,Nat.reduceMul,Nat.reduceLT,Nat.reduceLeDiff,Nat.reduceSub,reduceCtorEq,Int.reduceEq,Int.reduceNe,Int.reduceToNat,Int.reduceLT,Int.reduceLE,Int.reduceNeg,hl,k2,eq_true c3,f4,f5,CL,LTN] at hcq7
    obtain ⟨c8,h⟩ := ifS h
    have f9 : 1000000 ≤ y6.length := Nat.le_of_eq (Eq.symm c8)
    have f10 : List.take 1000000 (List.map (TV.int .u8) y6) = List.map (TV.int .u8) y6 := take_map c8
    obtain ⟨y11,hy11,h⟩ := ob h
    have k12 := sha_Sum_f_k (strL y6) _ hy11
    try simp only [CL,MC,Int.reduceToNat] at k12
    obtain ⟨y13,hy13,h⟩ := ob h
    have k14 := sha_Hex_f_k y11 _ hy13
    try simp only [CL,MC,Int.reduceToNat] at k14
    by_cases c15 : y13 = (⟨#[99,100,99,55,54,101,53,99,57,57,49,52,102,98,57,50,56,49,97,49,99,55,101,50,56,52,100,55,51,101,54,55,102,49,56,48,57,97,52,56,97,52,57,55,50,48,48,101,48,52,54,100,51,57,99,99,99,55,49,49,50,99,100,48]⟩ : ByteArray)
    · rw [if_pos c15] at h
      obtain ⟨y16,hy16,h⟩ := ob h
      have k17 := handsellaw01_awake_f_k  _ hy16
      try simp only [CL,MC,Int.reduceToNat] at k17
      injection h with h; subst h
      simp -implicitDefEqProofs only [U_handsellaw01_ShaKnown,TT,Ic.t,Ic.ci,Nat.reduceEqDiff,reduceIte,Nat.reduceAdd,Nat.reduceMul,Nat.reduceLT,Nat.reduceLeDiff,Nat.reduceSub,reduceCtorEq,Int.reduceEq,Int.reduceNe,Int.reduceToNat,Int.reduceLT,Int.reduceLE,Int.reduceNeg,hl,k2,eq_true c3,f4,f5,g4q7,htq7,hcq7,eq_true c8,f9,f10,k12,k14,eq_true c15,k17,CL,LTN]
      exact hK
    rw [if_neg c15] at h
    injection h with h; subst h
    simp -implicitDefEqProofs only [U_handsellaw01_ShaKnown,TT,Ic.t,Ic.ci,Nat.reduceEqDiff,reduceIte,Nat.reduceAdd,Nat.reduceMul,Nat.reduceLT,Nat.reduceLeDiff,Nat.reduceSub,reduceCtorEq,Int.reduceEq,Int.reduceNe,Int.reduceToNat,Int.reduceLT,Int.reduceLE,Int.reduceNeg,hl,k2,eq_true c3,f4,f5,g4q7,htq7,hcq7,eq_true c8,f9,f10,k12,k14,c15,CL,LTN]
    exact hK
  rw [if_neg c3] at h
  obtain ⟨c18,h⟩ := ifS h
  obtain ⟨y19,hy19,h⟩ := ob h
  have f20 := ixL_facts hy19
  have f20a := (f20.2.2 TV.str).1
  have f20b := (f20.2.2 TV.str).2
  try simp only [CL,MC,Int.reduceToNat] at f20 f20a f20b
  obtain ⟨y21,hy21,h⟩ := ob h
  have f22 := ixL_facts hy21
  have f22a := (f22.2.2 TV.str).1
  have f22b := (f22.2.2 TV.str).2
  try simp only [CL,MC,Int.reduceToNat] at f22 f22a f22b
  obtain ⟨y23,hy23,h⟩ := ob h
  have k24 := sha_Sum_f_k y19 _ hy23
  try simp only [CL,MC,Int.reduceToNat] at k24
  obtain ⟨y25,hy25,h⟩ := ob h
  have k26 := sha_Hex_f_k y23 _ hy25
  try simp only [CL,MC,Int.reduceToNat] at k26
  by_cases c27 : y25 = y21
  · rw [if_pos c27] at h
    obtain ⟨y28,hy28,h⟩ := ob h
    have k29 := handsellaw01_awake_f_k  _ hy28
    try simp only [CL,MC,Int.reduceToNat] at k29
    injection h with h; subst h
    simp -implicitDefEqProofs only [U_handsellaw01_ShaKnown,TT,Ic.t,Ic.ci,Nat.reduceEqDiff,reduceIte,Nat.reduceAdd,Nat.reduceMul,Nat.reduceLT,Nat.reduceLeDiff,Nat.reduceSub,reduceCtorEq,Int.reduceEq,Int.reduceNe,Int.reduceToNat,Int.reduceLT,Int.reduceLE,Int.reduceNeg,hl,k2,c3,c18,f20.1,f20.2.1,f20a,f20b,f22.1,f22.2.1,f22a,f22b,k24,k26,eq_true c27,k29,CL,LTN]
    exact hK
  rw [if_neg c27] at h
  injection h with h; subst h
  simp -implicitDefEqProofs only [U_handsellaw01_ShaKnown,TT,Ic.t,Ic.ci,Nat.reduceEqDiff,reduceIte,Nat.reduceAdd,Nat.reduceMul,Nat.reduceLT,Nat.reduceLeDiff,Nat.reduceSub,reduceCtorEq,Int.reduceEq,Int.reduceNe,Int.reduceToNat,Int.reduceLT,Int.reduceLE,Int.reduceNeg,hl,k2,c3,c18,f20.1,f20.2.1,f20a,f20b,f22.1,f22.2.1,f22a,f22b,k24,k26,c27,CL,LTN]
  exact hK
theorem handsellaw01_ShaKnown_f_k (p1 : Int) (r : Bool) (h : handsellaw01_ShaKnown_f p1 = some r) (lk : Bool) (d : Option Nat) (K : TCont) (fr : TF) (tk : TK) (τ : TH) (hl : τ.lock ≤ τ.next) : callK G lk F_handsellaw01_ShaKnown [.int .i64 p1] d K fr tk τ = K (tput fr d (.bool r)) tk τ :=
  callK_rdo (handsellaw01_ShaKnown_f_s p1 r h τ  hl) (handsellaw01_ShaKnown_f_s p1 r h (τ.locked τ.next)  (Nat.le_refl _) ) (by simp -implicitDefEqProofs only [TT,Ic.t,Ic.ci,Nat.reduceEqDiff,reduceIte,Nat.reduceAdd,Nat.reduceMul,Nat.reduceLT,Nat.reduceLeDiff,Nat.reduceSub,reduceCtorEq,Int.reduceEq,Int.reduceNe,Int.reduceToNat,Int.reduceLT,Int.reduceLE,Int.reduceNeg,hl,CL,LTN])
noncomputable def handsellaw01_ShaLengths_f_l1_step (v0 : Int) (v1 : Int) (v3 : Nat) (v2 : (List Int)) (v4 : Int) : Option (LS ((List Int) × Int) ((List Int))) :=
  if v4 < v1 then
    if 0 ≤ v4 ∧ v4 < (v3 : Int) then
      if v4.toNat + 1 ≤ v2.length then
        some (.nx ((v2.set v4.toNat (IntKind.u8.wrap (v0 + (IntKind.u8.wrap (Int.tmod v4 (3 : Int)))))),(IntKind.i64.wrap (v4 + (1 : Int)))))
      else
        none
    else
      none
  else
  some (.dn v2)
noncomputable def handsellaw01_ShaLengths_f_l1 (v0 : Int) (v1 : Int) (v3 : Nat) (v2 : (List Int)) (v4 : Int) : Option ((List Int)) := iterO (fun st => handsellaw01_ShaLengths_f_l1_step v0 v1 v3 st.1 st.2) (v2,v4)
theorem handsellaw01_ShaLengths_f_l1_eq (v0 : Int) (v1 : Int) (v3 : Nat) (v2 : (List Int)) (v4 : Int) : handsellaw01_ShaLengths_f_l1 v0 v1 v3 v2 v4 = handsellaw01_ShaLengths_f_l1_step v0 v1 v3 v2 v4 >>= LS.go (fun st => handsellaw01_ShaLengths_f_l1 v0 v1 v3 st.1 st.2) := iterO_eq (fun st => handsellaw01_ShaLengths_f_l1_step v0 v1 v3 st.1 st.2) (v2,v4)
def handsellaw01_ShaLengths_f_l1_P (v0 : Int) (v1 : Int) (v3 : Nat) (v2 : (List Int)) (v4 : Int) (r : (List Int)) : Prop := ∀ (τ : TH) (o0 : Nat) (hl : τ.lock ≤ τ.next) (ha0 : τ.at o0 = some ⟨T_uint8,List.map (TV.int .u8) v2⟩) (hi0 : o0 < τ.next) (hw0 : τ.lock ≤ o0) (Q : TEx → TCont) (hQ0 : ∀ (fr : TF) (tk2 : TK) (τ2 : TH),lkp fr 6 = .slm o0 0 v3 1 → tk2.take 0 = [] → τ2.cut τ.next = (τ.put o0 ⟨T_uint8,List.map (TV.int .u8) r⟩) → Q (.exit 0) fr tk2 τ2) ,tW G (.loop [1,5,6,7] l_handsellaw01_ShaLengths_1) Q [(1,.int .u8 v0),(5,.int .i64 v1),(6,.slm o0 0 v3 1),(7,.int .i64 v4)] [] τ
theorem handsellaw01_ShaLengths_f_l1_s (v0 : Int) (v1 : Int) (v3 : Nat) (v2 : (List Int)) (v4 : Int) (r : (List Int)) (h : handsellaw01_ShaLengths_f_l1 v0 v1 v3 v2 v4 = some r) : handsellaw01_ShaLengths_f_l1_P v0 v1 v3 v2 v4 r := by
  refine iterO_ind (f := fun st => handsellaw01_ShaLengths_f_l1_step v0 v1 v3 st.1 st.2) (P := fun st r => ∀ (v2 : (List Int)) (v4 : Int),(v2,v4) = st → handsellaw01_ShaLengths_f_l1_P v0 v1 v3 v2 v4 r) ?_ h v2 v4 rfl
  clear h r v4 v2
  intro st o h r ih v2 v4 hst τ o0  hl ha0 hi0 hw0 Q hQ0
  subst hst
  have h : handsellaw01_ShaLengths_f_l1_step v0 v1 v3 v2 v4 = some o := h
  unfold handsellaw01_ShaLengths_f_l1_step at h
  refine tW_lp fun LQ hn hr he => ?_
  by_cases c1 : v4 < v1
  · rw [if_pos c1] at h
    obtain ⟨c2,h⟩ := ifS h
    obtain ⟨c3,h⟩ := ifS h
    have f4 : (List.map (TV.int .u8) v2).set v4.toNat (.int .u8 (IntKind.u8.wrap (v0 + (IntKind.u8.wrap (Int.tmod v4 (3 : Int)))))) = List.map (TV.int .u8) (v2.set v4.toNat (IntKind.u8.wrap (v0 + (IntKind.u8.wrap (Int.tmod v4 (3 : Int)))))) := setm (enc := (TV.int .u8)) _ _ _
    injection h with h; subst h
    have ih := ih (v2.set v4.toNat (IntKind.u8.wrap (v0 + (IntKind.u8.wrap (Int.tmod v4 (3 : Int)))))) (IntKind.i64.wrap (v4 + (1 : Int))) rfl
    unfold handsellaw01_ShaLengths_f_l1_P at ih
    simp -implicitDefEqProofs only [l_handsellaw01_ShaLengths_1,U_handsellaw01_ShaLengths,TT,Ic.t,Ic.ci,Nat.reduceEqDiff,reduceIte,Nat.reduceAdd,Nat.reduceMul,Nat.reduceLT,Nat.reduceLeDiff,Nat.reduceSub,reduceCtorEq,Int.reduceEq,Int.reduceNe,Int.reduceToNat,Int.reduceLT,Int.reduceLE,Int.reduceNeg,hl,ha0,hi0,hw0,c1,c2,c3,f4,CL,LTN]
    rw [hn]
    simp -implicitDefEqProofs only [TT,Ic.t,Ic.ci,Nat.reduceEqDiff,reduceIte,Nat.reduceAdd,Nat.reduceMul,Nat.reduceLT,Nat.reduceLeDiff,Nat.reduceSub,reduceCtorEq,Int.reduceEq,Int.reduceNe,Int.reduceToNat,Int.reduceLT,Int.reduceLE,Int.reduceNeg,hl,ha0,hi0,hw0,c1,c2,c3,f4,CL,LTN]
    exact ih  (τ.put o0 ⟨T_uint8,List.map (TV.int .u8) (v2.set v4.toNat (IntKind.u8.wrap (v0 + (IntKind.u8.wrap (Int.tmod v4 (3 : Int))))))⟩) o0   (by first | assumption | (simp only [next_pt,lock_pt]; assumption)) (by simp -implicitDefEqProofs only [TT,Ic.t,Ic.ci,Nat.reduceEqDiff,reduceIte,Nat.reduceAdd,Nat.reduceMul,Nat.reduceLT,Nat.reduceLeDiff,Nat.reduceSub,reduceCtorEq,Int.reduceEq,Int.reduceNe,Int.reduceToNat,Int.reduceLT,Int.reduceLE,Int.reduceNeg,hl,ha0,hi0,hw0,c1,c2,c3,f4,CL,LTN]) (by first | assumption | (simp only [next_pt,lock_pt]; assumption)) (by first | assumption | (simp only [next_pt,lock_pt]; assumption)) Q (fun fr tk2 τ2 g0 ht hτ => hQ0 fr tk2 τ2 g0 ht (by first | exact hτ | simpa only [next_pt,pt_pt,hl,ha0,hi0,hw0] using hτ))
  rw [if_neg c1] at h
  injection h with h; subst h
  obtain rfl : _ = r := ih
  simp -implicitDefEqProofs only [l_handsellaw01_ShaLengths_1,U_handsellaw01_ShaLengths,TT,Ic.t,Ic.ci,Nat.reduceEqDiff,reduceIte,Nat.reduceAdd,Nat.reduceMul,Nat.reduceLT,Nat.reduceLeDiff,Nat.reduceSub,reduceCtorEq,Int.reduceEq,Int.reduceNe,Int.reduceToNat,Int.reduceLT,Int.reduceLE,Int.reduceNeg,hl,ha0,hi0,hw0,he,hr,c1,CL,LTN]
  exact hQ0  _ _ _  (by first | rfl | (simp -implicitDefEqProofs only [TT,Ic.t,Ic.ci,Nat.reduceEqDiff,reduceIte,Nat.reduceAdd,Nat.reduceMul,Nat.reduceLT,Nat.reduceLeDiff,Nat.reduceSub,reduceCtorEq,Int.reduceEq,Int.reduceNe,Int.reduceToNat,Int.reduceLT,Int.reduceLE,Int.reduceNeg,hl,ha0,hi0,hw0,c1,CL,LTN])) (by first | rfl | (simp -implicitDefEqProofs only [TT,Ic.t,Ic.ci,Nat.reduceEqDiff,reduceIte,Nat.reduceAdd,Nat.reduceMul,Nat.reduceLT,Nat.reduceLeDiff,Nat.reduceSub,reduceCtorEq,Int.reduceEq,Int.reduceNe,Int.reduceToNat,Int.reduceLT,Int.reduceLE,Int.reduceNeg,hl,ha0,hi0,hw0,c1,CL,LTN])) (by first | exact cut_ge (Nat.le_refl _) | (simp -implicitDefEqProofs only [TT,Ic.t,Ic.ci,Nat.reduceEqDiff,reduceIte,Nat.reduceAdd,Nat.reduceMul,Nat.reduceLT,Nat.reduceLeDiff,Nat.reduceSub,reduceCtorEq,Int.reduceEq,Int.reduceNe,Int.reduceToNat,Int.reduceLT,Int.reduceLE,Int.reduceNeg,hl,ha0,hi0,hw0,put_same ha0,c1,CL,LTN]))
noncomputable def handsellaw01_ShaLengths_f (p1 : Int) (p2 : Int) : Option Bool :=
  handsellaw00_Place_f p1 (300 : Int) >>= fun y1 =>
  if 0 ≤ y1 then
    if y1 ≤ y1 then
      if y1 * ((1 : Nat) : Int) ≤ 140737488355328 then
        handsellaw01_ShaLengths_f_l1 p2 y1 y1.toNat (List.replicate y1.toNat (0 : Int)) (0 : Int) >>= fun y8 =>
        if y8.length = y1.toNat then
          if y8.length = y1.toNat then
            sha_Sum_f (strL y8) >>= fun y16 =>
            handselref01_Sum_f (strL y8) >>= fun y18 =>
            if y16 = y18 then
              handsellaw01_awake_f >>= fun y21 =>
              some y21
            else
            some false
          else
            none
        else
          none
      else
        none
    else
      none
  else
    none
theorem handsellaw01_ShaLengths_f_s (p1 : Int) (p2 : Int) (r : Bool) (h : handsellaw01_ShaLengths_f p1 p2 = some r) (τ : TH) (hl : τ.lock ≤ τ.next) : Ru G F_handsellaw01_ShaLengths [.int .i64 p1,.int .u8 p2] τ (.bool r) τ := by
  refine Ru_of fun K hK => ?_
  rw [tC_code g_handsellaw01_ShaLengths (Nat.le_of_ble_eq_true rfl)]
  unfold handsellaw01_ShaLengths_f at h
  obtain ⟨y1,hy1,h⟩ := ob h
  have k2 := handsellaw00_Place_f_k p1 (300 : Int) _ hy1
  try simp only [CL,MC,Int.reduceToNat] at k2
  obtain ⟨c3,h⟩ := ifS h
  obtain ⟨c4,h⟩ := ifS h
  obtain ⟨c5,h⟩ := ifS h
  have f6 : y1 ≤ 9223372036854775807 := by omega
  have f7 : (List.replicate y1.toNat [.int .u8 (0 : Int)]).flatten = List.map (TV.int .u8) (List.replicate y1.toNat (0 : Int)) := flat_rep (enc := (TV.int .u8)) _ _
  obtain ⟨y8,hy8,h⟩ := ob h
  simp -implicitDefEqProofs only [U_handsellaw01_ShaLengths,TT,Ic.t,Ic.ci,Nat.reduceEqDiff,reduceIte,Nat.reduceAdd,Nat.reduceMul,Nat.reduceLT,Nat.reduceLeDiff,Nat.reduceSub,reduceCtorEq,Int.reduceEq,Int.reduceNe,Int.reduceToNat,Int.reduceLT,Int.reduceLE,Int.reduceNeg,hl,k2,c3,c4,c5,f6,f7,CL,LTN]
  have Sy8 := handsellaw01_ShaLengths_f_l1_s p2 y1 y1.toNat (List.replicate y1.toNat (0 : Int)) (0 : Int) y8 hy8
  unfold handsellaw01_ShaLengths_f_l1_P at Sy8
  refine Sy8 _ τ.next (by first | assumption | omega | (simp only [next_pt,next_pu,lock_pt,lock_pu]; omega)) (by first | (simp -implicitDefEqProofs only [TT,Ic.t,Ic.ci,Nat.reduceEqDiff,reduceIte,Nat.reduceAdd,Nat.reduceMul,Nat.reduceLT,Nat.reduceLeDiff,Nat.reduceSub,reduceCtorEq,Int.reduceEq,Int.reduceNe,Int.reduceToNat,Int.reduceLT,Int.reduceLE,Int.reduceNeg,hl,k2,c3,c4,c5,f6,f7,CL,LTN]; done) | (simp -implicitDefEqProofs only [TT,Ic.t,Ic.ci,Nat.reduceEqDiff,reduceIte,Nat.reduceAdd,Nat.reduceMul,Nat.reduceLT,Nat.reduceLeDiff,Nat.reduceSub,reduceCtorEq,Int.reduceEq,Int.reduceNe,Int.reduceToNat,Int.reduceLT,Int.reduceLE,Int.reduceNeg,hl,k2,c3,c4,c5,f6,f7,CL,LTN]; rfl)) (by first | assumption | omega | (simp only [next_pt,next_pu,lock_pt,lock_pu]; omega)) (by first | assumption | omega | (simp only [next_pt,next_pu,lock_pt,lock_pu]; omega)) _ ?_
  intro frq9 tkq9 τq9 g6q9 htq9 hcq9
  have hcq9 := cut_via (n := τ.next + 1) hcq9 (by first | omega | (simp only [next_pt,next_pu]; omega))
  try simp only [List.take_succ_cons,List.take_zero,List.take_nil,CL] at htq9
  try simp -implicitDefEqProofs only [TT,Ic.t,Ic.ci,Nat.reduceEqDiff,reduceIte,Nat.reduceAdd,Nat.reduceMul,Nat.reduceLT,Nat.reduceLeDiff,Nat.reduceSub,reduceCtorEq,Int.reduceEq,Int.reduceNe,Int.reduceToNat,Int.reduceLT,Int.reduceLE,Int.reduceNeg,hl,k2,c3,c4,c5,f6,f7,CL,LTN] at hcq9
  obtain ⟨c10,h⟩ := ifS h
  have f11 : y1.toNat ≤ y8.length := Nat.le_of_eq (Eq.symm c10)
  have f12 : List.take y1.toNat (List.map (TV.int .u8) y8) = List.map (TV.int .u8) y8 := take_map c10
  obtain ⟨c13,h⟩ := ifS h
  have f14 : y1.toNat ≤ y8.length := Nat.le_of_eq (Eq.symm c13)
  have f15 : List.take y1.toNat (List.map (TV.int .u8) y8) = List.map (TV.int .u8) y8 := take_map c13
  obtain ⟨y16,hy16,h⟩ := ob h
  have k17 := sha_Sum_f_k (strL y8) _ hy16
  try simp only [CL,MC,Int.reduceToNat] at k17
  obtain ⟨y18,hy18,h⟩ := ob h
  have k19 := handselref01_Sum_f_k (strL y8) _ hy18
  try simp only [CL,MC,Int.reduceToNat] at k19
  by_cases c20 : y16 = y18
  · rw [if_pos c20] at h
    obtain ⟨y21,hy21,h⟩ := ob h
    have k22 := handsellaw01_awake_f_k  _ hy21
    try simp only [CL,MC,Int.reduceToNat] at k22
    injection h with h; subst h
    simp -implicitDefEqProofs only [U_handsellaw01_ShaLengths,TT,Ic.t,Ic.ci,Nat.reduceEqDiff,reduceIte,Nat.reduceAdd,Nat.reduceMul,Nat.reduceLT,Nat.reduceLeDiff,Nat.reduceSub,reduceCtorEq,Int.reduceEq,Int.reduceNe,Int.reduceToNat,Int.reduceLT,Int.reduceLE,Int.reduceNeg,hl,k2,c3,c4,c5,f6,f7,g6q9,htq9,hcq9,eq_true c10,f11,f12,eq_true c13,f14,f15,k17,k19,eq_true c20,k22,CL,LTN]
    exact hK
  rw [if_neg c20] at h
  injection h with h; subst h
  simp -implicitDefEqProofs only [U_handsellaw01_ShaLengths,TT,Ic.t,Ic.ci,Nat.reduceEqDiff,reduceIte,Nat.reduceAdd,Nat.reduceMul,Nat.reduceLT,Nat.reduceLeDiff,Nat.reduceSub,reduceCtorEq,Int.reduceEq,Int.reduceNe,Int.reduceToNat,Int.reduceLT,Int.reduceLE,Int.reduceNeg,hl,k2,c3,c4,c5,f6,f7,g6q9,htq9,hcq9,eq_true c10,f11,f12,eq_true c13,f14,f15,k17,k19,c20,CL,LTN]
  exact hK
theorem handsellaw01_ShaLengths_f_k (p1 : Int) (p2 : Int) (r : Bool) (h : handsellaw01_ShaLengths_f p1 p2 = some r) (lk : Bool) (d : Option Nat) (K : TCont) (fr : TF) (tk : TK) (τ : TH) (hl : τ.lock ≤ τ.next) : callK G lk F_handsellaw01_ShaLengths [.int .i64 p1,.int .u8 p2] d K fr tk τ = K (tput fr d (.bool r)) tk τ :=
  callK_rdo (handsellaw01_ShaLengths_f_s p1 p2 r h τ  hl) (handsellaw01_ShaLengths_f_s p1 p2 r h (τ.locked τ.next)  (Nat.le_refl _) ) (by simp -implicitDefEqProofs only [TT,Ic.t,Ic.ci,Nat.reduceEqDiff,reduceIte,Nat.reduceAdd,Nat.reduceMul,Nat.reduceLT,Nat.reduceLeDiff,Nat.reduceSub,reduceCtorEq,Int.reduceEq,Int.reduceNe,Int.reduceToNat,Int.reduceLT,Int.reduceLE,Int.reduceNeg,hl,CL,LTN])
noncomputable def handsellaw01_ShaTexts_f_l2_step (v0 : ByteArray) (v1 : ByteArray) (v2 : Int) (v3 : Int) (v4 : Int) : Option (LS (Int × Int) (LX (Int) (Bool))) :=
  if v4 < (2 : Int) then
    ixB v1 (IntKind.i64.wrap ((IntKind.i64.wrap ((2 : Int) * v2)) + v4)) >>= fun b2 =>
    if (48 : Int) ≤ b2 then
      if b2 ≤ (57 : Int) then
        some (.nx ((IntKind.i64.wrap ((IntKind.i64.wrap ((16 : Int) * v3)) + (IntKind.i64.wrap (IntKind.u8.wrap (b2 - (48 : Int)))))),(IntKind.i64.wrap (v4 + (1 : Int)))))
      else
      if (97 : Int) ≤ b2 then
        if b2 ≤ (102 : Int) then
          some (IntKind.i64.wrap ((IntKind.i64.wrap ((IntKind.i64.wrap ((16 : Int) * v3)) + (IntKind.i64.wrap (IntKind.u8.wrap (b2 - (97 : Int)))))) + (10 : Int))) >>= fun x8 =>
          some (.nx (x8,(IntKind.i64.wrap (v4 + (1 : Int)))))
        else
        some (.dn (.rt false))
      else
      some (.dn (.rt false))
    else
    if (97 : Int) ≤ b2 then
      if b2 ≤ (102 : Int) then
        some (IntKind.i64.wrap ((IntKind.i64.wrap ((IntKind.i64.wrap ((16 : Int) * v3)) + (IntKind.i64.wrap (IntKind.u8.wrap (b2 - (97 : Int)))))) + (10 : Int))) >>= fun x12 =>
        some (.nx (x12,(IntKind.i64.wrap (v4 + (1 : Int)))))
      else
      some (.dn (.rt false))
    else
    some (.dn (.rt false))
  else
  some (.dn (.ex v3))
noncomputable def handsellaw01_ShaTexts_f_l2 (v0 : ByteArray) (v1 : ByteArray) (v2 : Int) (v3 : Int) (v4 : Int) : Option (LX (Int) (Bool)) := iterO (fun st => handsellaw01_ShaTexts_f_l2_step v0 v1 v2 st.1 st.2) (v3,v4)
theorem handsellaw01_ShaTexts_f_l2_eq (v0 : ByteArray) (v1 : ByteArray) (v2 : Int) (v3 : Int) (v4 : Int) : handsellaw01_ShaTexts_f_l2 v0 v1 v2 v3 v4 = handsellaw01_ShaTexts_f_l2_step v0 v1 v2 v3 v4 >>= LS.go (fun st => handsellaw01_ShaTexts_f_l2 v0 v1 v2 st.1 st.2) := iterO_eq (fun st => handsellaw01_ShaTexts_f_l2_step v0 v1 v2 st.1 st.2) (v3,v4)
def handsellaw01_ShaTexts_f_l2_P (v0 : ByteArray) (v1 : ByteArray) (v2 : Int) (v3 : Int) (v4 : Int) (r : LX (Int) (Bool)) : Prop := ∀ (τ : TH) (hl : τ.lock ≤ τ.next) (Q : TEx → TCont) (hQ0 : ∀ v : Int,r = (.ex v) → ∀ (fr : TF) (tk2 : TK) (τ2 : TH),lkp fr 0 = .str v0 → lkp fr 3 = .str v1 → lkp fr 5 = .int .i64 v2 → lkp fr 6 = .int .i64 v → tk2.take 0 = [] → τ2.cut τ.next = τ → Q (.exit 2) fr tk2 τ2) (hQ1 : ∀ v : Bool,r = (.rt v) → ∀ (tk2 : TK) (τ2 : TH),τ2.cut τ.next = τ → Q .ret [(2,.bool v)] tk2 τ2) ,tW G (.loop [0,3,5,6,7] l_handsellaw01_ShaTexts_2) Q [(0,.str v0),(3,.str v1),(5,.int .i64 v2),(6,.int .i64 v3),(7,.int .i64 v4)] [] τ
theorem handsellaw01_ShaTexts_f_l2_s (v0 : ByteArray) (v1 : ByteArray) (v2 : Int) (v3 : Int) (v4 : Int) (r : LX (Int) (Bool)) (h : handsellaw01_ShaTexts_f_l2 v0 v1 v2 v3 v4 = some r) : handsellaw01_ShaTexts_f_l2_P v0 v1 v2 v3 v4 r := by
  refine iterO_ind (f := fun st => handsellaw01_ShaTexts_f_l2_step v0 v1 v2 st.1 st.2) (P := fun st r => ∀ (v3 : Int) (v4 : Int),(v3,v4) = st → handsellaw01_ShaTexts_f_l2_P v0 v1 v2 v3 v4 r) ?_ h v3 v4 rfl
  clear h r v4 v3
  intro st o h r ih v3 v4 hst τ  hl Q hQ0 hQ1
  subst hst
  have h : handsellaw01_ShaTexts_f_l2_step v0 v1 v2 v3 v4 = some o := h
  unfold handsellaw01_ShaTexts_f_l2_step at h
  refine tW_lp fun LQ hn hr he => ?_
  by_cases c1 : v4 < (2 : Int)
  · rw [if_pos c1] at h
    obtain ⟨b2,hb2,h⟩ := ob h
    have f3 := ixB_facts hb2
    try simp only [CL,MC,Int.reduceToNat] at f3
    by_cases c4 : (48 : Int) ≤ b2
    · rw [if_pos c4] at h
      by_cases c5 : b2 ≤ (57 : Int)
      · rw [if_pos c5] at h
        injection h with h; subst h
        have ih := ih (IntKind.i64.wrap ((IntKind.i64.wrap ((16 : Int) * v3)) + (IntKind.i64.wrap (IntKind.u8.wrap (b2 - (48 : Int)))))) (IntKind.i64.wrap (v4 + (1 : Int))) rfl
        unfold handsellaw01_ShaTexts_f_l2_P at ih
        simp -implicitDefEqProofs only [l_handsellaw01_ShaTexts_2,U_handsellaw01_ShaTexts,TT,Ic.t,Ic.ci,Nat.reduceEqDiff,reduceIte,Nat.reduceAdd,Nat.reduceMul,Nat.reduceLT,Nat.reduceLeDiff,Nat.reduceSub,reduceCtorEq,Int.reduceEq,Int.reduceNe,Int.reduceToNat,Int.reduceLT,Int.reduceLE,Int.reduceNeg,hl,c1,f3.1,f3.2.1,f3.2.2,c4,c5,CL,LTN]
        rw [hn]
        simp -implicitDefEqProofs only [TT,Ic.t,Ic.ci,Nat.reduceEqDiff,reduceIte,Nat.reduceAdd,Nat.reduceMul,Nat.reduceLT,Nat.reduceLeDiff,Nat.reduceSub,reduceCtorEq,Int.reduceEq,Int.reduceNe,Int.reduceToNat,Int.reduceLT,Int.reduceLE,Int.reduceNeg,hl,c1,f3.1,f3.2.1,f3.2.2,c4,c5,CL,LTN]
        exact ih  τ    (by first | assumption | (simp only [next_pt,lock_pt]; assumption)) Q hQ0 hQ1
      rw [if_neg c5] at h
      by_cases c6 : (97 : Int) ≤ b2
      · rw [if_pos c6] at h
        by_cases c7 : b2 ≤ (102 : Int)
        · rw [if_pos c7] at h
          obtain ⟨x8,hx8,h⟩ := ob h
          have f9 := Option.some.inj hx8
          injection h with h; subst h
          have ih := ih x8 (IntKind.i64.wrap (v4 + (1 : Int))) rfl
          unfold handsellaw01_ShaTexts_f_l2_P at ih
          simp -implicitDefEqProofs only [l_handsellaw01_ShaTexts_2,U_handsellaw01_ShaTexts,TT,Ic.t,Ic.ci,Nat.reduceEqDiff,reduceIte,Nat.reduceAdd,Nat.reduceMul,Nat.reduceLT,Nat.reduceLeDiff,Nat.reduceSub,reduceCtorEq,Int.reduceEq,Int.reduceNe,Int.reduceToNat,Int.reduceLT,Int.reduceLE,Int.reduceNeg,hl,c1,f3.1,f3.2.1,f3.2.2,c4,c5,c6,c7,f9,CL,LTN]
          rw [hn]
          simp -implicitDefEqProofs only [TT,Ic.t,Ic.ci,Nat.reduceEqDiff,reduceIte,Nat.reduceAdd,Nat.reduceMul,Nat.reduceLT,Nat.reduceLeDiff,Nat.reduceSub,reduceCtorEq,Int.reduceEq,Int.reduceNe,Int.reduceToNat,Int.reduceLT,Int.reduceLE,Int.reduceNeg,hl,c1,f3.1,f3.2.1,f3.2.2,c4,c5,c6,c7,f9,CL,LTN]
          exact ih  τ    (by first | assumption | (simp only [next_pt,lock_pt]; assumption)) Q hQ0 hQ1
        rw [if_neg c7] at h
        injection h with h; subst h
        obtain rfl : _ = r := ih
        simp -implicitDefEqProofs only [l_handsellaw01_ShaTexts_2,U_handsellaw01_ShaTexts,TT,Ic.t,Ic.ci,Nat.reduceEqDiff,reduceIte,Nat.reduceAdd,Nat.reduceMul,Nat.reduceLT,Nat.reduceLeDiff,Nat.reduceSub,reduceCtorEq,Int.reduceEq,Int.reduceNe,Int.reduceToNat,Int.reduceLT,Int.reduceLE,Int.reduceNeg,hl,he,hr,c1,f3.1,f3.2.1,f3.2.2,c4,c5,c6,c7,CL,LTN]
        exact hQ1 false rfl  _ _  (by first | exact cut_ge (Nat.le_refl _) | (simp -implicitDefEqProofs only [TT,Ic.t,Ic.ci,Nat.reduceEqDiff,reduceIte,Nat.reduceAdd,Nat.reduceMul,Nat.reduceLT,Nat.reduceLeDiff,Nat.reduceSub,reduceCtorEq,Int.reduceEq,Int.reduceNe,Int.reduceToNat,Int.reduceLT,Int.reduceLE,Int.reduceNeg,hl,c1,f3.1,f3.2.1,f3.2.2,c4,c5,c6,c7,CL,LTN]))
      rw [if_neg c6] at h
      injection h with h; subst h
      obtain rfl : _ = r := ih
      simp -implicitDefEqProofs only [l_handsellaw01_ShaTexts_2,U_handsellaw01_ShaTexts,TT,Ic.t,Ic.ci,Nat.reduceEqDiff,reduceIte,Nat.reduceAdd,Nat.reduceMul,Nat.reduceLT,Nat.reduceLeDiff,Nat.reduceSub,reduceCtorEq,Int.reduceEq,Int.reduceNe,Int.reduceToNat,Int.reduceLT,Int.reduceLE,Int.reduceNeg,hl,he,hr,c1,f3.1,f3.2.1,f3.2.2,c4,c5,c6,CL,LTN]
      exact hQ1 false rfl  _ _  (by first | exact cut_ge (Nat.le_refl _) | (simp -implicitDefEqProofs only [TT,Ic.t,Ic.ci,Nat.reduceEqDiff,reduceIte,Nat.reduceAdd,Nat.reduceMul,Nat.reduceLT,Nat.reduceLeDiff,Nat.reduceSub,reduceCtorEq,Int.reduceEq,Int.reduceNe,Int.reduceToNat,Int.reduceLT,Int.reduceLE,Int.reduceNeg,hl,c1,f3.1,f3.2.1,f3.2.2,c4,c5,c6,CL,LTN]))
    rw [if_neg c4] at h
    by_cases c10 : (97 : Int) ≤ b2
    · rw [if_pos c10] at h
      by_cases c11 : b2 ≤ (102 : Int)
      · rw [if_pos c11] at h
        obtain ⟨x12,hx12,h⟩ := ob h
        have f13 := Option.some.inj hx12
        injection h with h; subst h
        have ih := ih x12 (IntKind.i64.wrap (v4 + (1 : Int))) rfl
        unfold handsellaw01_ShaTexts_f_l2_P at ih
        simp -implicitDefEqProofs only [l_handsellaw01_ShaTexts_2,U_handsellaw01_ShaTexts,TT,Ic.t,Ic.ci,Nat.reduceEqDiff,reduceIte,Nat.reduceAdd,Nat.reduceMul,Nat.reduceLT,Nat.reduceLeDiff,Nat.reduceSub,reduceCtorEq,Int.reduceEq,Int.reduceNe,Int.reduceToNat,Int.reduceLT,Int.reduceLE,Int.reduceNeg,hl,c1,f3.1,f3.2.1,f3.2.2,c4,c10,c11,f13,CL,LTN]
        rw [hn]
        simp -implicitDefEqProofs only [TT,Ic.t,Ic.ci,Nat.reduceEqDiff,reduceIte,Nat.reduceAdd,Nat.reduceMul,Nat.reduceLT,Nat.reduceLeDiff,Nat.reduceSub,reduceCtorEq,Int.reduceEq,Int.reduceNe,Int.reduceToNat,Int.reduceLT,Int.reduceLE,Int.reduceNeg,hl,c1,f3.1,f3.2.1,f3.2.2,c4,c10,c11,f13,CL,LTN]
        exact ih  τ    (by first | assumption | (simp only [next_pt,lock_pt]; assumption)) Q hQ0 hQ1
      rw [if_neg c11] at h
      injection h with h; subst h
      obtain rfl : _ = r := ih
      simp -implicitDefEqProofs only [l_handsellaw01_ShaTexts_2,U_handsellaw01_ShaTexts,TT,Ic.t,Ic.ci,Nat.reduceEqDiff,reduceIte,Nat.reduceAdd,Nat.reduceMul,Nat.reduceLT,Nat.reduceLeDiff,Nat.reduceSub,reduceCtorEq,Int.reduceEq,Int.reduceNe,Int.reduceToNat,Int.reduceLT,Int.reduceLE,Int.reduceNeg,hl,he,hr,c1,f3.1,f3.2.1,f3.2.2,c4,c10,c11,CL,LTN]
      exact hQ1 false rfl  _ _  (by first | exact cut_ge (Nat.le_refl _) | (simp -implicitDefEqProofs only [TT,Ic.t,Ic.ci,Nat.reduceEqDiff,reduceIte,Nat.reduceAdd,Nat.reduceMul,Nat.reduceLT,Nat.reduceLeDiff,Nat.reduceSub,reduceCtorEq,Int.reduceEq,Int.reduceNe,Int.reduceToNat,Int.reduceLT,Int.reduceLE,Int.reduceNeg,hl,c1,f3.1,f3.2.1,f3.2.2,c4,c10,c11,CL,LTN]))
    rw [if_neg c10] at h
    injection h with h; subst h
    obtain rfl : _ = r := ih
    simp -implicitDefEqProofs only [l_handsellaw01_ShaTexts_2,U_handsellaw01_ShaTexts,TT,Ic.t,Ic.ci,Nat.reduceEqDiff,reduceIte,Nat.reduceAdd,Nat.reduceMul,Nat.reduceLT,Nat.reduceLeDiff,Nat.reduceSub,reduceCtorEq,Int.reduceEq,Int.reduceNe,Int.reduceToNat,Int.reduceLT,Int.reduceLE,Int.reduceNeg,hl,he,hr,c1,f3.1,f3.2.1,f3.2.2,c4,c10,CL,LTN]
    exact hQ1 false rfl  _ _  (by first | exact cut_ge (Nat.le_refl _) | (simp -implicitDefEqProofs only [TT,Ic.t,Ic.ci,Nat.reduceEqDiff,reduceIte,Nat.reduceAdd,Nat.reduceMul,Nat.reduceLT,Nat.reduceLeDiff,Nat.reduceSub,reduceCtorEq,Int.reduceEq,Int.reduceNe,Int.reduceToNat,Int.reduceLT,Int.reduceLE,Int.reduceNeg,hl,c1,f3.1,f3.2.1,f3.2.2,c4,c10,CL,LTN]))
  rw [if_neg c1] at h
  injection h with h; subst h
  obtain rfl : _ = r := ih
  simp -implicitDefEqProofs only [l_handsellaw01_ShaTexts_2,U_handsellaw01_ShaTexts,TT,Ic.t,Ic.ci,Nat.reduceEqDiff,reduceIte,Nat.reduceAdd,Nat.reduceMul,Nat.reduceLT,Nat.reduceLeDiff,Nat.reduceSub,reduceCtorEq,Int.reduceEq,Int.reduceNe,Int.reduceToNat,Int.reduceLT,Int.reduceLE,Int.reduceNeg,hl,he,hr,c1,CL,LTN]
  exact hQ0 v3 rfl  _ _ _  (by first | rfl | (simp -implicitDefEqProofs only [TT,Ic.t,Ic.ci,Nat.reduceEqDiff,reduceIte,Nat.reduceAdd,Nat.reduceMul,Nat.reduceLT,Nat.reduceLeDiff,Nat.reduceSub,reduceCtorEq,Int.reduceEq,Int.reduceNe,Int.reduceToNat,Int.reduceLT,Int.reduceLE,Int.reduceNeg,hl,c1,CL,LTN])) (by first | rfl | (simp -implicitDefEqProofs only [TT,Ic.t,Ic.ci,Nat.reduceEqDiff,reduceIte,Nat.reduceAdd,Nat.reduceMul,Nat.reduceLT,Nat.reduceLeDiff,Nat.reduceSub,reduceCtorEq,Int.reduceEq,Int.reduceNe,Int.reduceToNat,Int.reduceLT,Int.reduceLE,Int.reduceNeg,hl,c1,CL,LTN])) (by first | rfl | (simp -implicitDefEqProofs only [TT,Ic.t,Ic.ci,Nat.reduceEqDiff,reduceIte,Nat.reduceAdd,Nat.reduceMul,Nat.reduceLT,Nat.reduceLeDiff,Nat.reduceSub,reduceCtorEq,Int.reduceEq,Int.reduceNe,Int.reduceToNat,Int.reduceLT,Int.reduceLE,Int.reduceNeg,hl,c1,CL,LTN])) (by first | rfl | (simp -implicitDefEqProofs only [TT,Ic.t,Ic.ci,Nat.reduceEqDiff,reduceIte,Nat.reduceAdd,Nat.reduceMul,Nat.reduceLT,Nat.reduceLeDiff,Nat.reduceSub,reduceCtorEq,Int.reduceEq,Int.reduceNe,Int.reduceToNat,Int.reduceLT,Int.reduceLE,Int.reduceNeg,hl,c1,CL,LTN])) (by first | rfl | (simp -implicitDefEqProofs only [TT,Ic.t,Ic.ci,Nat.reduceEqDiff,reduceIte,Nat.reduceAdd,Nat.reduceMul,Nat.reduceLT,Nat.reduceLeDiff,Nat.reduceSub,reduceCtorEq,Int.reduceEq,Int.reduceNe,Int.reduceToNat,Int.reduceLT,Int.reduceLE,Int.reduceNeg,hl,c1,CL,LTN])) (by first | exact cut_ge (Nat.le_refl _) | (simp -implicitDefEqProofs only [TT,Ic.t,Ic.ci,Nat.reduceEqDiff,reduceIte,Nat.reduceAdd,Nat.reduceMul,Nat.reduceLT,Nat.reduceLeDiff,Nat.reduceSub,reduceCtorEq,Int.reduceEq,Int.reduceNe,Int.reduceToNat,Int.reduceLT,Int.reduceLE,Int.reduceNeg,hl,c1,CL,LTN]))
noncomputable def handsellaw01_ShaTexts_f_l1_step (v0 : ByteArray) (v1 : ByteArray) (v2 : Int) : Option (LS (Int) (LX (Unit) (Bool))) :=
  if v2 < ((v0.size : Nat) : Int) then
    handsellaw01_ShaTexts_f_l2 v0 v1 v2 (0 : Int) (0 : Int) >>= fun y2 =>
    match y2 with
    | .ex w3 =>
      ixB v0 v2 >>= fun b7 =>
      if w3 = (IntKind.i64.wrap b7) then
        some (.nx (IntKind.i64.wrap (v2 + (1 : Int))))
      else
      some (.dn (.rt false))
    | .rt w5 =>
      some (.dn (.rt w5))
  else
  some (.dn (.ex ()))
noncomputable def handsellaw01_ShaTexts_f_l1 (v0 : ByteArray) (v1 : ByteArray) (v2 : Int) : Option (LX (Unit) (Bool)) := iterO (fun st => handsellaw01_ShaTexts_f_l1_step v0 v1 st) v2
theorem handsellaw01_ShaTexts_f_l1_eq (v0 : ByteArray) (v1 : ByteArray) (v2 : Int) : handsellaw01_ShaTexts_f_l1 v0 v1 v2 = handsellaw01_ShaTexts_f_l1_step v0 v1 v2 >>= LS.go (fun st => handsellaw01_ShaTexts_f_l1 v0 v1 st) := iterO_eq (fun st => handsellaw01_ShaTexts_f_l1_step v0 v1 st) v2
def handsellaw01_ShaTexts_f_l1_P (v0 : ByteArray) (v1 : ByteArray) (v2 : Int) (r : LX (Unit) (Bool)) : Prop := ∀ (τ : TH) (hl : τ.lock ≤ τ.next) (Q : TEx → TCont) (hQ0 : ∀ v : Unit,r = (.ex v) → ∀ (fr : TF) (tk2 : TK) (τ2 : TH),tk2.take 0 = [] → τ2.cut τ.next = τ → Q (.exit 0) fr tk2 τ2) (hQ1 : ∀ v : Bool,r = (.rt v) → ∀ (tk2 : TK) (τ2 : TH),τ2.cut τ.next = τ → Q .ret [(2,.bool v)] tk2 τ2) ,tW G (.loop [0,3,5] l_handsellaw01_ShaTexts_1) Q [(0,.str v0),(3,.str v1),(5,.int .i64 v2)] [] τ
theorem handsellaw01_ShaTexts_f_l1_s (v0 : ByteArray) (v1 : ByteArray) (v2 : Int) (r : LX (Unit) (Bool)) (h : handsellaw01_ShaTexts_f_l1 v0 v1 v2 = some r) : handsellaw01_ShaTexts_f_l1_P v0 v1 v2 r := by
  refine iterO_ind (f := fun st => handsellaw01_ShaTexts_f_l1_step v0 v1 st) (P := fun st r => ∀ (v2 : Int),v2 = st → handsellaw01_ShaTexts_f_l1_P v0 v1 v2 r) ?_ h v2 rfl
  clear h r v2
  intro st o h r ih v2 hst τ  hl Q hQ0 hQ1
  subst hst
  have h : handsellaw01_ShaTexts_f_l1_step v0 v1 v2 = some o := h
  unfold handsellaw01_ShaTexts_f_l1_step at h
  refine tW_lp fun LQ hn hr he => ?_
  by_cases c1 : v2 < ((v0.size : Nat) : Int)
  · rw [if_pos c1] at h
    obtain ⟨y2,hy2,h⟩ := ob h
    simp -implicitDefEqProofs only [l_handsellaw01_ShaTexts_1,U_handsellaw01_ShaTexts,TT,Ic.t,Ic.ci,Nat.reduceEqDiff,reduceIte,Nat.reduceAdd,Nat.reduceMul,Nat.reduceLT,Nat.reduceLeDiff,Nat.reduceSub,reduceCtorEq,Int.reduceEq,Int.reduceNe,Int.reduceToNat,Int.reduceLT,Int.reduceLE,Int.reduceNeg,hl,c1,CL,LTN]
    have Sy2 := handsellaw01_ShaTexts_f_l2_s v0 v1 v2 (0 : Int) (0 : Int) y2 hy2
    unfold handsellaw01_ShaTexts_f_l2_P at Sy2
    refine Sy2 _ (by first | assumption | omega | (simp only [next_pt,next_pu,lock_pt,lock_pu]; omega)) _ ?_ ?_
    · intro w3 e frq4 tkq4 τq4 g0q4 g3q4 g5q4 g6q4 htq4 hcq4
      subst e
      simp only at h
      have hcq4 := cut_via (n := τ.next) hcq4 (by first | omega | (simp only [next_pt,next_pu]; omega))
      try simp only [List.take_succ_cons,List.take_zero,List.take_nil,CL] at htq4
      try simp -implicitDefEqProofs only [TT,Ic.t,Ic.ci,Nat.reduceEqDiff,reduceIte,Nat.reduceAdd,Nat.reduceMul,Nat.reduceLT,Nat.reduceLeDiff,Nat.reduceSub,reduceCtorEq,Int.reduceEq,Int.reduceNe,Int.reduceToNat,Int.reduceLT,Int.reduceLE,Int.reduceNeg,hl,c1,CL,LTN] at hcq4
      obtain ⟨b7,hb7,h⟩ := ob h
      have f8 := ixB_facts hb7
      try simp only [CL,MC,Int.reduceToNat] at f8
      by_cases c9 : w3 = (IntKind.i64.wrap b7)
      · rw [if_pos c9] at h
        injection h with h; subst h
        have ih := ih (IntKind.i64.wrap (v2 + (1 : Int))) rfl
        unfold handsellaw01_ShaTexts_f_l1_P at ih
        simp -implicitDefEqProofs only [l_handsellaw01_ShaTexts_1,U_handsellaw01_ShaTexts,TT,Ic.t,Ic.ci,Nat.reduceEqDiff,reduceIte,Nat.reduceAdd,Nat.reduceMul,Nat.reduceLT,Nat.reduceLeDiff,Nat.reduceSub,reduceCtorEq,Int.reduceEq,Int.reduceNe,Int.reduceToNat,Int.reduceLT,Int.reduceLE,Int.reduceNeg,hl,c1,g0q4,g3q4,g5q4,g6q4,htq4,hcq4,f8.1,f8.2.1,f8.2.2,eq_true c9,CL,LTN]
        rw [hn]
        simp -implicitDefEqProofs only [TT,Ic.t,Ic.ci,Nat.reduceEqDiff,reduceIte,Nat.reduceAdd,Nat.reduceMul,Nat.reduceLT,Nat.reduceLeDiff,Nat.reduceSub,reduceCtorEq,Int.reduceEq,Int.reduceNe,Int.reduceToNat,Int.reduceLT,Int.reduceLE,Int.reduceNeg,hl,c1,g0q4,g3q4,g5q4,g6q4,htq4,hcq4,f8.1,f8.2.1,f8.2.2,eq_true c9,CL,LTN]
        exact ih  τ    (by first | assumption | (simp only [next_pt,lock_pt]; assumption)) Q hQ0 hQ1
      rw [if_neg c9] at h
      injection h with h; subst h
      obtain rfl : _ = r := ih
      simp -implicitDefEqProofs only [l_handsellaw01_ShaTexts_1,U_handsellaw01_ShaTexts,TT,Ic.t,Ic.ci,Nat.reduceEqDiff,reduceIte,Nat.reduceAdd,Nat.reduceMul,Nat.reduceLT,Nat.reduceLeDiff,Nat.reduceSub,reduceCtorEq,Int.reduceEq,Int.reduceNe,Int.reduceToNat,Int.reduceLT,Int.reduceLE,Int.reduceNeg,hl,he,hr,c1,g0q4,g3q4,g5q4,g6q4,htq4,hcq4,f8.1,f8.2.1,f8.2.2,c9,CL,LTN]
      exact hQ1 false rfl  _ _  (by first | exact cut_ge (Nat.le_refl _) | (simp -implicitDefEqProofs only [TT,Ic.t,Ic.ci,Nat.reduceEqDiff,reduceIte,Nat.reduceAdd,Nat.reduceMul,Nat.reduceLT,Nat.reduceLeDiff,Nat.reduceSub,reduceCtorEq,Int.reduceEq,Int.reduceNe,Int.reduceToNat,Int.reduceLT,Int.reduceLE,Int.reduceNeg,hl,c1,g0q4,g3q4,g5q4,g6q4,htq4,hcq4,f8.1,f8.2.1,f8.2.2,c9,CL,LTN]))
    intro w5 e tkq6 τq6 hcq6
    subst e
    simp only at h
    have hcq6 := cut_via (n := τ.next) hcq6 (by first | omega | (simp only [next_pt,next_pu]; omega))
    try simp -implicitDefEqProofs only [TT,Ic.t,Ic.ci,Nat.reduceEqDiff,reduceIte,Nat.reduceAdd,Nat.reduceMul,Nat.reduceLT,Nat.reduceLeDiff,Nat.reduceSub,reduceCtorEq,Int.reduceEq,Int.reduceNe,Int.reduceToNat,Int.reduceLT,Int.reduceLE,Int.reduceNeg,hl,c1,CL,LTN] at hcq6
    injection h with h; subst h
    obtain rfl : _ = r := ih
    simp -implicitDefEqProofs only [l_handsellaw01_ShaTexts_1,U_handsellaw01_ShaTexts,TT,Ic.t,Ic.ci,Nat.reduceEqDiff,reduceIte,Nat.reduceAdd,Nat.reduceMul,Nat.reduceLT,Nat.reduceLeDiff,Nat.reduceSub,reduceCtorEq,Int.reduceEq,Int.reduceNe,Int.reduceToNat,Int.reduceLT,Int.reduceLE,Int.reduceNeg,hl,he,hr,c1,hcq6,CL,LTN]
    exact hQ1 w5 rfl  _ _  (by first | exact cut_ge (Nat.le_refl _) | (simp -implicitDefEqProofs only [TT,Ic.t,Ic.ci,Nat.reduceEqDiff,reduceIte,Nat.reduceAdd,Nat.reduceMul,Nat.reduceLT,Nat.reduceLeDiff,Nat.reduceSub,reduceCtorEq,Int.reduceEq,Int.reduceNe,Int.reduceToNat,Int.reduceLT,Int.reduceLE,Int.reduceNeg,hl,c1,hcq6,CL,LTN]))
  rw [if_neg c1] at h
  injection h with h; subst h
  obtain rfl : _ = r := ih
  simp -implicitDefEqProofs only [l_handsellaw01_ShaTexts_1,U_handsellaw01_ShaTexts,TT,Ic.t,Ic.ci,Nat.reduceEqDiff,reduceIte,Nat.reduceAdd,Nat.reduceMul,Nat.reduceLT,Nat.reduceLeDiff,Nat.reduceSub,reduceCtorEq,Int.reduceEq,Int.reduceNe,Int.reduceToNat,Int.reduceLT,Int.reduceLE,Int.reduceNeg,hl,he,hr,c1,CL,LTN]
  exact hQ0 () rfl  _ _ _   (by first | rfl | (simp -implicitDefEqProofs only [TT,Ic.t,Ic.ci,Nat.reduceEqDiff,reduceIte,Nat.reduceAdd,Nat.reduceMul,Nat.reduceLT,Nat.reduceLeDiff,Nat.reduceSub,reduceCtorEq,Int.reduceEq,Int.reduceNe,Int.reduceToNat,Int.reduceLT,Int.reduceLE,Int.reduceNeg,hl,c1,CL,LTN])) (by first | exact cut_ge (Nat.le_refl _) | (simp -implicitDefEqProofs only [TT,Ic.t,Ic.ci,Nat.reduceEqDiff,reduceIte,Nat.reduceAdd,Nat.reduceMul,Nat.reduceLT,Nat.reduceLeDiff,Nat.reduceSub,reduceCtorEq,Int.reduceEq,Int.reduceNe,Int.reduceToNat,Int.reduceLT,Int.reduceLE,Int.reduceNeg,hl,c1,CL,LTN]))
noncomputable def handsellaw01_ShaTexts_f (p1 : ByteArray) : Option Bool :=
  if (1000 : Int) < ((p1.size : Nat) : Int) then
    handsellaw01_awake_f >>= fun y2 =>
    some y2
  else
  sha_Hex_f p1 >>= fun y4 =>
  sha_Sum_f p1 >>= fun y6 =>
  if ((y4.size : Nat) : Int) = (IntKind.i64.wrap ((2 : Int) * ((p1.size : Nat) : Int))) then
    if ((y6.size : Nat) : Int) = (32 : Int) then
      if 0 ≤ (16 : Int) ∧ (16 : Int) ≤ (y6.size : Int) then
        sha_Short_f p1 >>= fun y11 =>
        if y11 = (y6.extract 0 16) then
          handsellaw01_ShaTexts_f_l1 p1 y4 (0 : Int) >>= fun y14 =>
          match y14 with
          | .ex w15 =>
            handsellaw01_awake_f >>= fun y19 =>
            some y19
          | .rt w17 =>
            some w17
        else
        some false
      else
        none
    else
    some false
  else
  some false
theorem handsellaw01_ShaTexts_f_s (p1 : ByteArray) (r : Bool) (h : handsellaw01_ShaTexts_f p1 = some r) (τ : TH) (hl : τ.lock ≤ τ.next) : Ru G F_handsellaw01_ShaTexts [.str p1] τ (.bool r) τ := by
  refine Ru_of fun K hK => ?_
  rw [tC_code g_handsellaw01_ShaTexts (Nat.le_of_ble_eq_true rfl)]
  unfold handsellaw01_ShaTexts_f at h
  by_cases c1 : (1000 : Int) < ((p1.size : Nat) : Int)
  · rw [if_pos c1] at h
    obtain ⟨y2,hy2,h⟩ := ob h
    have k3 := handsellaw01_awake_f_k  _ hy2
    try simp only [CL,MC,Int.reduceToNat] at k3
    injection h with h; subst h
    simp -implicitDefEqProofs only [U_handsellaw01_ShaTexts,TT,Ic.t,Ic.ci,Nat.reduceEqDiff,reduceIte,Nat.reduceAdd,Nat.reduceMul,Nat.reduceLT,Nat.reduceLeDiff,Nat.reduceSub,reduceCtorEq,Int.reduceEq,Int.reduceNe,Int.reduceToNat,Int.reduceLT,Int.reduceLE,Int.reduceNeg,hl,c1,k3,CL,LTN]
    exact hK
  rw [if_neg c1] at h
  obtain ⟨y4,hy4,h⟩ := ob h
  have k5 := sha_Hex_f_k p1 _ hy4
  try simp only [CL,MC,Int.reduceToNat] at k5
  obtain ⟨y6,hy6,h⟩ := ob h
  have k7 := sha_Sum_f_k p1 _ hy6
  try simp only [CL,MC,Int.reduceToNat] at k7
  by_cases c8 : ((y4.size : Nat) : Int) = (IntKind.i64.wrap ((2 : Int) * ((p1.size : Nat) : Int)))
  · rw [if_pos c8] at h
    by_cases c9 : ((y6.size : Nat) : Int) = (32 : Int)
    · rw [if_pos c9] at h
      obtain ⟨c10,h⟩ := ifS h
      obtain ⟨y11,hy11,h⟩ := ob h
      have k12 := sha_Short_f_k p1 _ hy11
      try simp only [CL,MC,Int.reduceToNat] at k12
      by_cases c13 : y11 = (y6.extract 0 16)
      · rw [if_pos c13] at h
        obtain ⟨y14,hy14,h⟩ := ob h
        simp -implicitDefEqProofs only [U_handsellaw01_ShaTexts,TT,Ic.t,Ic.ci,Nat.reduceEqDiff,reduceIte,Nat.reduceAdd,Nat.reduceMul,Nat.reduceLT,Nat.reduceLeDiff,Nat.reduceSub,reduceCtorEq,Int.reduceEq,Int.reduceNe,Int.reduceToNat,Int.reduceLT,Int.reduceLE,Int.reduceNeg,hl,c1,k5,k7,eq_true c8,eq_true c9,c10,k12,eq_true c13,CL,LTN]
        have Sy14 := handsellaw01_ShaTexts_f_l1_s p1 y4 (0 : Int) y14 hy14
        unfold handsellaw01_ShaTexts_f_l1_P at Sy14
        refine Sy14 _ (by first | assumption | omega | (simp only [next_pt,next_pu,lock_pt,lock_pu]; omega)) _ ?_ ?_
        · intro w15 e frq16 tkq16 τq16 htq16 hcq16
          subst e
          simp only at h
          have hcq16 := cut_via (n := τ.next) hcq16 (by first | omega | (simp only [next_pt,next_pu]; omega))
          try simp only [List.take_succ_cons,List.take_zero,List.take_nil,CL] at htq16
          try simp -implicitDefEqProofs only [TT,Ic.t,Ic.ci,Nat.reduceEqDiff,reduceIte,Nat.reduceAdd,Nat.reduceMul,Nat.reduceLT,Nat.reduceLeDiff,Nat.reduceSub,reduceCtorEq,Int.reduceEq,Int.reduceNe,Int.reduceToNat,Int.reduceLT,Int.reduceLE,Int.reduceNeg,hl,c1,k5,k7,eq_true c8,eq_true c9,c10,k12,eq_true c13,CL,LTN] at hcq16
          obtain ⟨y19,hy19,h⟩ := ob h
          have k20 := handsellaw01_awake_f_k  _ hy19
          try simp only [CL,MC,Int.reduceToNat] at k20
          injection h with h; subst h
          simp -implicitDefEqProofs only [U_handsellaw01_ShaTexts,TT,Ic.t,Ic.ci,Nat.reduceEqDiff,reduceIte,Nat.reduceAdd,Nat.reduceMul,Nat.reduceLT,Nat.reduceLeDiff,Nat.reduceSub,reduceCtorEq,Int.reduceEq,Int.reduceNe,Int.reduceToNat,Int.reduceLT,Int.reduceLE,Int.reduceNeg,hl,c1,k5,k7,eq_true c8,eq_true c9,c10,k12,eq_true c13,htq16,hcq16,k20,CL,LTN]
          exact hK
        intro w17 e tkq18 τq18 hcq18
        subst e
        simp only at h
        have hcq18 := cut_via (n := τ.next) hcq18 (by first | omega | (simp only [next_pt,next_pu]; omega))
        try simp -implicitDefEqProofs only [TT,Ic.t,Ic.ci,Nat.reduceEqDiff,reduceIte,Nat.reduceAdd,Nat.reduceMul,Nat.reduceLT,Nat.reduceLeDiff,Nat.reduceSub,reduceCtorEq,Int.reduceEq,Int.reduceNe,Int.reduceToNat,Int.reduceLT,Int.reduceLE,Int.reduceNeg,hl,c1,k5,k7,eq_true c8,eq_true c9,c10,k12,eq_true c13,CL,LTN] at hcq18
        injection h with h; subst h
        simp -implicitDefEqProofs only [U_handsellaw01_ShaTexts,TT,Ic.t,Ic.ci,Nat.reduceEqDiff,reduceIte,Nat.reduceAdd,Nat.reduceMul,Nat.reduceLT,Nat.reduceLeDiff,Nat.reduceSub,reduceCtorEq,Int.reduceEq,Int.reduceNe,Int.reduceToNat,Int.reduceLT,Int.reduceLE,Int.reduceNeg,hl,c1,k5,k7,eq_true c8,eq_true c9,c10,k12,eq_true c13,hcq18,CL,LTN]
        exact hK
      rw [if_neg c13] at h
      injection h with h; subst h
      simp -implicitDefEqProofs only [U_handsellaw01_ShaTexts,TT,Ic.t,Ic.ci,Nat.reduceEqDiff,reduceIte,Nat.reduceAdd,Nat.reduceMul,Nat.reduceLT,Nat.reduceLeDiff,Nat.reduceSub,reduceCtorEq,Int.reduceEq,Int.reduceNe,Int.reduceToNat,Int.reduceLT,Int.reduceLE,Int.reduceNeg,hl,c1,k5,k7,eq_true c8,eq_true c9,c10,k12,c13,CL,LTN]
      exact hK
    rw [if_neg c9] at h
    injection h with h; subst h
    simp -implicitDefEqProofs only [U_handsellaw01_ShaTexts,TT,Ic.t,Ic.ci,Nat.reduceEqDiff,reduceIte,Nat.reduceAdd,Nat.reduceMul,Nat.reduceLT,Nat.reduceLeDiff,Nat.reduceSub,reduceCtorEq,Int.reduceEq,Int.reduceNe,Int.reduceToNat,Int.reduceLT,Int.reduceLE,Int.reduceNeg,hl,c1,k5,k7,eq_true c8,c9,CL,LTN]
    exact hK
  rw [if_neg c8] at h
  injection h with h; subst h
  simp -implicitDefEqProofs only [U_handsellaw01_ShaTexts,TT,Ic.t,Ic.ci,Nat.reduceEqDiff,reduceIte,Nat.reduceAdd,Nat.reduceMul,Nat.reduceLT,Nat.reduceLeDiff,Nat.reduceSub,reduceCtorEq,Int.reduceEq,Int.reduceNe,Int.reduceToNat,Int.reduceLT,Int.reduceLE,Int.reduceNeg,hl,c1,k5,k7,c8,CL,LTN]
  exact hK
theorem handsellaw01_ShaTexts_f_k (p1 : ByteArray) (r : Bool) (h : handsellaw01_ShaTexts_f p1 = some r) (lk : Bool) (d : Option Nat) (K : TCont) (fr : TF) (tk : TK) (τ : TH) (hl : τ.lock ≤ τ.next) : callK G lk F_handsellaw01_ShaTexts [.str p1] d K fr tk τ = K (tput fr d (.bool r)) tk τ :=
  callK_rdo (handsellaw01_ShaTexts_f_s p1 r h τ  hl) (handsellaw01_ShaTexts_f_s p1 r h (τ.locked τ.next)  (Nat.le_refl _) ) (by simp -implicitDefEqProofs only [TT,Ic.t,Ic.ci,Nat.reduceEqDiff,reduceIte,Nat.reduceAdd,Nat.reduceMul,Nat.reduceLT,Nat.reduceLeDiff,Nat.reduceSub,reduceCtorEq,Int.reduceEq,Int.reduceNe,Int.reduceToNat,Int.reduceLT,Int.reduceLE,Int.reduceNeg,hl,CL,LTN])
end Go.Proofs.Ytnimkejbeogciaa
